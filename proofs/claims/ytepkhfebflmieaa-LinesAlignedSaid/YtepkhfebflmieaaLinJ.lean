/- The walk of LinesAligned. -/
import Derived.Test.YtepkhfebflmieaaLinI
import Derived.Test.YtepkhfebflmieaaLinB
namespace Go.Proofs.Ytepkhfebflmieaa
open Go.RowKit

theorem perm_call (c q : Ent) (G R : Hp) : (c :: (G ++ (q :: R))).Perm (q :: c :: (R ++ G)) :=
  (List.Perm.cons c (List.perm_middle (l₁ := G))).trans ((List.Perm.swap q c _).trans (.cons q (.cons c List.perm_append_comm)))

set_option maxRecDepth 100000 in
set_option maxHeartbeats 16000000 in
theorem aligned_any (x : Cs) (w : World) (hlen : x.l.length ≤ maxLen) (hlw : x.ws.length ≤ maxLen) (hA : Rd w Wg.cells 5 x.Aw x.ws) (hB : Rd w Fl.cells 5 x.Al x.l) :
    Calls Try.prog 5 #[.agg x.cells.toArray] w fun e w' => e = .returned (.bool true) ∧ Below w.heap.size w w' := by
  refine s_quiet [(0, .agg x.cells.toArray)] Try.func5 rfl Try.ntmps5 rfl (by simp) ?_
  have hmay : ∀ H w1, Mem w.heap.size w H w1 → Calls Try.prog 6 #[.agg x.cells.toArray] w1 fun e w' => ∃ b, (b = true → CsOk x) ∧ e = .returned (.bool b) ∧ Mem w1.heap.size w1 [] w' := fun H w1 h => may16_any x w1 hlen hlw (hA.base rfl w1 h) (hB.base rfl w1 h)
  have HA : ∀ H, RdH w.heap.size w H Wg.cells 5 x.Aw x.ws := fun _ => hA.base rfl
  have HB : ∀ H, RdH w.heap.size w H Fl.cells 5 x.Al x.l := fun _ => hB.base rfl
  clear hA hB hlen hlw
  obtain ⟨ws, l, h, al, left, right, y, Aw, Al, cw, cl⟩ := x
  unfold Cs.cells at *
  dsimp only at *
  refine go_ _ ?_
  refine so_box (cs := [.slice Aw ws.length cw, .int .i64 h, .int .u8 al, .int .i64 left, .int .i64 right, .int .i64 y, .slice Al l.length cl]) rfl (by (first | (with_reducible rfl) | assumption | exact decide_eq_true (by omega) | (simp only [Bool.not_eq_true', Bool.not_eq_false', decide_eq_false_iff_not, decide_eq_true_eq] <;> first | assumption | omega) | decide)) rfl (CopyL.refl _) (Nat.le_of_ble_eq_true rfl) fun q1 => ?_
  refine go_ _ ?_
  refine so_callN (hmay _) rfl rfl rfl (tF rfl) (Nat.le_of_ble_eq_true rfl) ?_
  intro b hb
  clear hmay
  cases b
  · skip
    refine go_ _ ?_
    refine so_callQ (fun w1 _ => works_any w1) rfl rfl rfl (tF rfl) (Nat.le_of_ble_eq_true rfl) ?_
    refine go_ _ ?_
    exact sret1 rfl rfl rfl
  obtain ⟨lw, ml, hh, hleft, hright, hy, hw⟩ := hb rfl
  dsimp only at lw ml hh hleft hright hy hw
  have hf20 : ∀ x ∈ ws, 0 ≤ x.forced ∧ x.forced ≤ 20 := fun x hx => (hw x hx).2.2
  have hfo : ∀ x ∈ ws, 0 ≤ x.forced ∧ x.forced ≤ 1000 := fun x hx => by have := hf20 x hx; omega
  unfold Far at hy hh hleft
  have hR : R64 y := by unfold R64; omega
  have hLl : l.length ≤ 200 := by
    unfold mayM at ml; simp at ml; exact ml.1
  obtain ⟨hal, q1', q2'⟩ := rows_al ⟨ws, l, max h 0, 0, left, right, Aw, Al, cw, cl⟩ (by unfold R64; dsimp only; omega) ws.length 0 y (Nat.zero_le _)
  unfold En.to at hal q1' q2'
  dsimp only at hal q1' q2'
  have hto : ∀ a, rowsF ⟨ws, l, max h 0, a, left, right, Aw, Al, cw, cl⟩ ws.length y 0 = rowsM ⟨ws, l, max h 0, a, left, right, Aw, Al, cw, cl⟩ y := fun _ => rfl
  rw [hto, hto, hto] at hal
  rw [hto, hto] at q1' q2'
  clear hto
  have hlenr := rowsM_len ⟨ws, l, max h 0, 0, left, right, Aw, Al, cw, cl⟩ y (by dsimp only; omega) hfo
  obtain ⟨r0, hr0⟩ : ∃ rs, rowsM ⟨ws, l, max h 0, 0, left, right, Aw, Al, cw, cl⟩ y = rs := ⟨_, rfl⟩
  obtain ⟨r1, hr1⟩ : ∃ rs, rowsM ⟨ws, l, max h 0, 1, left, right, Aw, Al, cw, cl⟩ y = rs := ⟨_, rfl⟩
  obtain ⟨r2, hr2⟩ : ∃ rs, rowsM ⟨ws, l, max h 0, 2, left, right, Aw, Al, cw, cl⟩ y = rs := ⟨_, rfl⟩
  obtain ⟨rs0, en0⟩ := r0
  obtain ⟨rs1, en1⟩ := r1
  obtain ⟨rs2, en2⟩ := r2
  have hfill0 := fun w1 h1 h2 => fill_any ws l h 0 left right y Aw Al cw cl rs0 en0 hr0 w1 hR (by omega) (by omega) hfo h1 h2
  have hfill1 := fun w1 h1 h2 => fill_any ws l h 1 left right y Aw Al cw cl rs1 en1 hr1 w1 hR (by omega) (by omega) hfo h1 h2
  have hfill2 := fun w1 h1 h2 => fill_any ws l h 2 left right y Aw Al cw cl rs2 en2 hr2 w1 hR (by omega) (by omega) hfo h1 h2
  rw [hr0, hr1, hr2] at hal
  rw [hr0, hr1] at q1'
  rw [hr0, hr2] at q2'
  rw [hr0] at hlenr
  clear hr0 hr1 hr2 ml hw hb
  dsimp only at hal q1' q2' hlenr
  subst q1' q2'
  have htall : ∀ yy H w1, Mem w.heap.size w H w1 → Calls Try.prog 9 #[.slice Al l.length cl, .int .i64 yy, .int .i64 h, .int .i64 left, .int .i64 right] w1 fun r w' => r = .returned (.tuple #[.int .i64 (tallM l left right yy (max h 0)).1, .int .i64 (tallM l left right yy (max h 0)).2]) ∧ Below w1.heap.size w1 w' := fun yy H w1 h1 => by
    have := rtall_any Al l cl yy h left right w1 (by omega) (HB _ w1 h1)
    unfold tallM
    rwa [show max (max h 0) 1 = max h 1 by omega]
  refine go_ _ ?_
  refine so_callN (hj := fun i => so_yield.catH_of _ _) (fun w1 h1 => hfill0 w1 (HA _ w1 h1) (HB _ w1 h1)) rfl rfl rfl (tF rfl) (Nat.le_of_ble_eq_true rfl) ?_
  rintro ⟨A0, c0, zs0⟩ hz0
  dsimp only at hz0 ⊢
  simp only [List.cons_append]
  refine so_sub .refl (.of_perm (perm_call _ _ _ _)) ?_
  simp only [List.nil_append]
  refine go_ _ ?_
  refine so_callN (hj := fun i => so_yield.catH_of _ _) (fun w1 h1 => hfill1 w1 (HA _ w1 h1) (HB _ w1 h1)) rfl rfl rfl (tF rfl) (Nat.le_of_ble_eq_true rfl) ?_
  rintro ⟨A1, c1, zs1⟩ hz1
  dsimp only at hz1 ⊢
  simp only [List.cons_append]
  refine so_sub .refl (.of_perm (perm_call _ _ _ _)) ?_
  simp only [List.cons_append]
  refine go_ _ ?_
  refine so_callN (hj := fun i => so_yield.catH_of _ _) (fun w1 h1 => hfill2 w1 (HA _ w1 h1) (HB _ w1 h1)) rfl rfl rfl (tF rfl) (Nat.le_of_ble_eq_true rfl) ?_
  rintro ⟨A2, c2, zs2⟩ hz2
  dsimp only at hz2 ⊢
  simp only [List.cons_append]
  refine so_sub .refl (.of_perm (perm_call _ _ _ _)) ?_
  simp only [List.cons_append]
  clear hfill0 hfill1 hfill2
  have hl0 : zs0.length = rs0.length := by rw [hz0]; simp
  have hl1 : zs1.length = rs1.length := by rw [hz1]; simp
  have hl2 : zs2.length = rs2.length := by rw [hz2]; simp
  obtain ⟨ll1, ll2⟩ := hal.len
  have e1 : zs1.length = zs0.length := by omega
  have e2 : zs2.length = zs0.length := by omega
  refine go_ _ ?_
  generalize hG : zs0.flatMap Rz.give ++ zs1.flatMap Rz.give ++ zs2.flatMap Rz.give = G at *
  refine s_loop (ι := Nat) (fun i => [(1, .pointer (some ⟨q1, 0, none⟩)), (3, .slice A0 zs0.length c0), (5, .slice A1 zs1.length c1), (7, .slice A2 zs2.length c2), (9, .int .i64 (i : Nat))])
    (fun _ => row q1 25 [.slice Aw ws.length cw, .int .i64 h, .int .u8 al, .int .i64 left, .int .i64 right, .int .i64 y, .slice Al l.length cl] :: own A2 zs2.length c2 33 4 (zs2.flatMap Rz.row) :: own A1 zs1.length c1 33 4 (zs1.flatMap Rz.row) :: own A0 zs0.length c0 33 4 (zs0.flatMap Rz.row) :: G) (fun i => i ≤ zs0.length) (fun i => zs0.length - i) 0 (by repeat (first | exact Sub.nil | refine Sub.cons rfl ?_ | (refine Sub.consB rfl (by (first | rfl | exact decide_eq_decide.2 (by omega) | exact (decide_eq_true (by omega)).symm | exact (decide_eq_false (by omega)).symm | exact decide_eq_true (by omega) | exact decide_eq_false (by omega))) ?_))) .refl (Nat.zero_le _) ?_
  intro i hi
  by_cases hlt : i < zs0.length
  · refine s_ownSome (.there .here) (by omega) fun g2 e => ?_
    subst e
    refine s_ownSome (.there (.there .here)) (by omega) fun g1 e => ?_
    subst e
    refine s_ownSome (.there (.there (.there .here))) (by omega) fun g0 e => ?_
    subst e
    have hw2 : Rw w.heap.size w (row q1 25 [.slice Aw ws.length cw, .int .i64 h, .int .u8 al, .int .i64 left, .int .i64 right, .int .i64 y, .slice Al l.length cl] :: own (some ⟨g2, 0, none⟩) zs2.length c2 33 4 (zs2.flatMap Rz.row) :: own (some ⟨g1, 0, none⟩) zs1.length c1 33 4 (zs1.flatMap Rz.row) :: own (some ⟨g0, 0, none⟩) zs0.length c0 33 4 (zs0.flatMap Rz.row) :: G) g2 (0 + i * 4) (Rz.row (zs2[i]'(by omega))) := rw_there (own_at (c := Rz.row) (sz := 4) (by decide) (fun _ => rfl) i (by omega))
    have hw1 : Rw w.heap.size w (row q1 25 [.slice Aw ws.length cw, .int .i64 h, .int .u8 al, .int .i64 left, .int .i64 right, .int .i64 y, .slice Al l.length cl] :: own (some ⟨g2, 0, none⟩) zs2.length c2 33 4 (zs2.flatMap Rz.row) :: own (some ⟨g1, 0, none⟩) zs1.length c1 33 4 (zs1.flatMap Rz.row) :: own (some ⟨g0, 0, none⟩) zs0.length c0 33 4 (zs0.flatMap Rz.row) :: G) g1 (0 + i * 4) (Rz.row (zs1[i]'(by omega))) := rw_there (rw_there (own_at (c := Rz.row) (sz := 4) (by decide) (fun _ => rfl) i (by omega)))
    have hw0 : Rw w.heap.size w (row q1 25 [.slice Aw ws.length cw, .int .i64 h, .int .u8 al, .int .i64 left, .int .i64 right, .int .i64 y, .slice Al l.length cl] :: own (some ⟨g2, 0, none⟩) zs2.length c2 33 4 (zs2.flatMap Rz.row) :: own (some ⟨g1, 0, none⟩) zs1.length c1 33 4 (zs1.flatMap Rz.row) :: own (some ⟨g0, 0, none⟩) zs0.length c0 33 4 (zs0.flatMap Rz.row) :: G) g0 (0 + i * 4) (Rz.row zs0[i]) := rw_there (rw_there (rw_there (own_at (c := Rz.row) (sz := 4) (by decide) (fun _ => rfl) i hlt)))
    have hm0 := List.mem_append_left (zs2.flatMap Rz.give) (List.mem_append_left (zs1.flatMap Rz.give) (give_mem hlt))
    have hm1 := List.mem_append_left (zs2.flatMap Rz.give) (List.mem_append_right (zs0.flatMap Rz.give) (give_mem (zs := zs1) (i := i) (by omega)))
    have hm2 := List.mem_append_right (zs0.flatMap Rz.give ++ zs1.flatMap Rz.give) (give_mem (zs := zs2) (i := i) (by omega))
    rw [hG] at hm0 hm1 hm2
    have hra := hal.at i (by omega) (by omega) (by omega)
    have hz0i : (zs0[i]).1 = rs0[i]'(by omega) := by simp only [hz0, List.getElem_map]
    have hz1i : (zs1[i]'(by omega)).1 = rs1[i]'(by omega) := by simp only [hz1, List.getElem_map]
    have hz2i : (zs2[i]'(by omega)).1 = rs2[i]'(by omega) := by simp only [hz2, List.getElem_map]
    rw [← hz0i, ← hz1i, ← hz2i] at hra
    clear hz0i hz1i hz2i
    generalize zs0[i] = z0 at *
    generalize zs1[i]'(by omega) = z1 at *
    generalize zs2[i]'(by omega) = z2 at *
    obtain ⟨⟨y0, a0, b0, x0⟩, X0, p0⟩ := z0
    obtain ⟨⟨y1, a1, b1', x1⟩, X1, p1⟩ := z1
    obtain ⟨⟨y2, a2, b2', x2⟩, X2, p2⟩ := z2
    unfold Rz.row at hw0 hw1 hw2
    obtain ⟨k1, k2, k3, k4, k5, k6, k7, k8, k9, k10, k11, k12⟩ := hra
    dsimp only at hw0 hw1 hw2 hm0 hm1 hm2 k1 k2 k3 k4 k5 k6 k7 k8 k9 k10 k11 k12
    subst k1 k2 k3 k4 k5 k6
    refine go_ _ ?_
    refine s_parts (by kernel_rfl) ?_
    refine sg_free 145 (by kernel_rfl) ?_
    simp only [List.append_eq, List.cons_append, List.nil_append]
    refine go_ _ ?_
    by_cases hn : x0.length = 0
    · skip
      refine go_ _ ?_
      exact ⟨i + 1, by omega, (by repeat (first | exact Sub.nil | refine Sub.cons rfl ?_ | (refine Sub.consB rfl (by (first | rfl | exact decide_eq_decide.2 (by omega) | exact (decide_eq_true (by omega)).symm | exact (decide_eq_false (by omega)).symm | exact decide_eq_true (by omega) | exact decide_eq_false (by omega))) ?_))), .refl, by omega⟩
    · obtain ⟨hc, hd, free, hfree, hmv⟩ := k12 (by omega)
      obtain ⟨Ra, hpa, _⟩ := pick_of_mem (H := row q1 25 [.slice Aw ws.length cw, .int .i64 h, .int .u8 al, .int .i64 left, .int .i64 right, .int .i64 y, .slice Al l.length cl] :: own (some ⟨g2, 0, none⟩) zs2.length c2 33 4 (zs2.flatMap Rz.row) :: own (some ⟨g1, 0, none⟩) zs1.length c1 33 4 (zs1.flatMap Rz.row) :: own (some ⟨g0, 0, none⟩) zs0.length c0 33 4 (zs0.flatMap Rz.row) :: G) (List.mem_cons_of_mem _ (List.mem_cons_of_mem _ (List.mem_cons_of_mem _ (List.mem_cons_of_mem _ hm0))))
      obtain ⟨Rb, hpb, _⟩ := pick_of_mem (H := row q1 25 [.slice Aw ws.length cw, .int .i64 h, .int .u8 al, .int .i64 left, .int .i64 right, .int .i64 y, .slice Al l.length cl] :: own (some ⟨g2, 0, none⟩) zs2.length c2 33 4 (zs2.flatMap Rz.row) :: own (some ⟨g1, 0, none⟩) zs1.length c1 33 4 (zs1.flatMap Rz.row) :: own (some ⟨g0, 0, none⟩) zs0.length c0 33 4 (zs0.flatMap Rz.row) :: G) (List.mem_cons_of_mem _ (List.mem_cons_of_mem _ (List.mem_cons_of_mem _ (List.mem_cons_of_mem _ hm1))))
      obtain ⟨Rc, hpc, _⟩ := pick_of_mem (H := row q1 25 [.slice Aw ws.length cw, .int .i64 h, .int .u8 al, .int .i64 left, .int .i64 right, .int .i64 y, .slice Al l.length cl] :: own (some ⟨g2, 0, none⟩) zs2.length c2 33 4 (zs2.flatMap Rz.row) :: own (some ⟨g1, 0, none⟩) zs1.length c1 33 4 (zs1.flatMap Rz.row) :: own (some ⟨g0, 0, none⟩) zs0.length c0 33 4 (zs0.flatMap Rz.row) :: G) (List.mem_cons_of_mem _ (List.mem_cons_of_mem _ (List.mem_cons_of_mem _ (List.mem_cons_of_mem _ hm2))))
      refine s_ownSome hpa (by omega) fun v0 e => ?_
      subst e
      refine s_ownSome hpb (by omega) fun v1 e => ?_
      subst e
      refine s_ownSome hpc (by omega) fun v2 e => ?_
      subst e
      clear hpa hpb hpc
      obtain ⟨b1, o1, e3, hr0⟩ := RdH.at (HA []) (Mem.start w) (b2' - 1) hc
      subst e3
      have hrw : Rw w.heap.size w (row q1 25 [.slice (some ⟨b1, o1, none⟩) ws.length cw, .int .i64 h, .int .u8 al, .int .i64 left, .int .i64 right, .int .i64 y, .slice Al l.length cl] :: own (some ⟨g2, 0, none⟩) zs2.length c2 33 4 (zs2.flatMap Rz.row) :: own (some ⟨g1, 0, none⟩) zs1.length c1 33 4 (zs1.flatMap Rz.row) :: own (some ⟨g0, 0, none⟩) zs0.length c0 33 4 (zs0.flatMap Rz.row) :: G) b1 (o1 + (b2' - 1) * 5) ws[b2' - 1].cells := Rw.sub hr0 .nil
      have hX0 : ∀ j (hj : j < x0.length), Rw w.heap.size w (row q1 25 [.slice (some ⟨b1, o1, none⟩) ws.length cw, .int .i64 h, .int .u8 al, .int .i64 left, .int .i64 right, .int .i64 y, .slice Al l.length cl] :: own (some ⟨g2, 0, none⟩) zs2.length c2 33 4 (zs2.flatMap Rz.row) :: own (some ⟨g1, 0, none⟩) zs1.length c1 33 4 (zs1.flatMap Rz.row) :: own (some ⟨g0, 0, none⟩) zs0.length c0 33 4 (zs0.flatMap Rz.row) :: G) v0 (0 + j * 1) [.int .i64 x0[j]] := fun j hj => rw_mem1 (List.mem_cons_of_mem _ (List.mem_cons_of_mem _ (List.mem_cons_of_mem _ (List.mem_cons_of_mem _ hm0)))) j hj
      have hX1 : ∀ j (hj : j < x1.length), Rw w.heap.size w (row q1 25 [.slice (some ⟨b1, o1, none⟩) ws.length cw, .int .i64 h, .int .u8 al, .int .i64 left, .int .i64 right, .int .i64 y, .slice Al l.length cl] :: own (some ⟨g2, 0, none⟩) zs2.length c2 33 4 (zs2.flatMap Rz.row) :: own (some ⟨g1, 0, none⟩) zs1.length c1 33 4 (zs1.flatMap Rz.row) :: own (some ⟨g0, 0, none⟩) zs0.length c0 33 4 (zs0.flatMap Rz.row) :: G) v1 (0 + j * 1) [.int .i64 x1[j]] := fun j hj => rw_mem1 (List.mem_cons_of_mem _ (List.mem_cons_of_mem _ (List.mem_cons_of_mem _ (List.mem_cons_of_mem _ hm1)))) j hj
      have hX2 : ∀ j (hj : j < x2.length), Rw w.heap.size w (row q1 25 [.slice (some ⟨b1, o1, none⟩) ws.length cw, .int .i64 h, .int .u8 al, .int .i64 left, .int .i64 right, .int .i64 y, .slice Al l.length cl] :: own (some ⟨g2, 0, none⟩) zs2.length c2 33 4 (zs2.flatMap Rz.row) :: own (some ⟨g1, 0, none⟩) zs1.length c1 33 4 (zs1.flatMap Rz.row) :: own (some ⟨g0, 0, none⟩) zs0.length c0 33 4 (zs0.flatMap Rz.row) :: G) v2 (0 + j * 1) [.int .i64 x2[j]] := fun j hj => rw_mem1 (List.mem_cons_of_mem _ (List.mem_cons_of_mem _ (List.mem_cons_of_mem _ (List.mem_cons_of_mem _ hm2)))) j hj
      have hXl := hX0 (x0.length - 1) hd
      have hth := htall y2
      generalize tallM l left right y2 (max h 0) = tm at *
      obtain ⟨fr, to_⟩ := tm
      generalize x0[x0.length - 1] = xl at hXl hfree
      generalize ws[b2' - 1] = v at hrw hfree
      obtain ⟨va, vb, vw, vg, vf⟩ := v
      unfold Wg.cells at hrw
      dsimp only at hrw hfree hth
      clear hr0 k12
      refine go_ _ ?_
      refine s_parts (by kernel_rfl) ?_
      refine sg_free 13 (by kernel_rfl) (go_ _ ?_)
      refine sg_one (by kernel_rfl) ?_
      refine so_callQ (hth _) rfl rfl rfl (tF rfl) (Nat.le_of_ble_eq_true rfl) ?_
      clear hth htall
      refine go_ _ ?_
      refine sg_free 5 (by kernel_rfl) (go_ _ ?_)
      refine s_parts (by kernel_rfl) ?_
      refine sg_free 25 (by kernel_rfl) (go_ _ ?_)
      refine sd_pure rfl (by (first | (with_reducible rfl) | assumption | exact decide_eq_true (by omega) | (simp only [Bool.not_eq_true', Bool.not_eq_false', decide_eq_false_iff_not, decide_eq_true_eq] <;> first | assumption | omega) | decide)) rfl (Nat.le_of_ble_eq_true rfl) (ps_indexAddrL (j := x0.length - 1) rfl rfl (tU rfl) (tS rfl) (toJ (by omega)) (by omega)) ?_
      refine go_ _ ?_
      refine sd_pure rfl (by (first | (with_reducible rfl) | assumption | exact decide_eq_true (by omega) | (simp only [Bool.not_eq_true', Bool.not_eq_false', decide_eq_false_iff_not, decide_eq_true_eq] <;> first | assumption | omega) | decide)) rfl (Nat.le_of_ble_eq_true rfl) (ps_indexAddrL (j := b2' - 1) rfl rfl (tU rfl) (tS rfl) (toJ (by omega)) (by omega)) ?_
      refine go_ _ ?_
      rw [← hfree]
      have hf0 : 0 ≤ free ∧ free ≤ 9223372036854775807 := by rw [hfree]; unfold wrap64; omega
      clear hfree hXl hrw
      refine s_loop (ι := Nat) (fun j => [(1, .pointer (some ⟨q1, 0, none⟩)), (3, .slice (some ⟨g0, 0, none⟩) zs0.length c0), (5, .slice (some ⟨g1, 0, none⟩) zs1.length c1), (7, .slice (some ⟨g2, 0, none⟩) zs2.length c2), (9, .int .i64 (i : Nat)), (10, .int .i64 (x0.length : Nat)), (13, .int .i64 free), (14, .int .i64 (j : Nat))])
        (fun _ => row q1 25 [.slice (some ⟨b1, o1, none⟩) ws.length cw, .int .i64 h, .int .u8 al, .int .i64 left, .int .i64 right, .int .i64 y, .slice Al l.length cl] :: own (some ⟨g2, 0, none⟩) zs2.length c2 33 4 (zs2.flatMap Rz.row) :: own (some ⟨g1, 0, none⟩) zs1.length c1 33 4 (zs1.flatMap Rz.row) :: own (some ⟨g0, 0, none⟩) zs0.length c0 33 4 (zs0.flatMap Rz.row) :: G) (fun j => j ≤ x0.length) (fun j => x0.length - j) 0 (by repeat (first | exact Sub.nil | refine Sub.cons rfl ?_ | (refine Sub.consB rfl (by (first | rfl | exact decide_eq_decide.2 (by omega) | exact (decide_eq_true (by omega)).symm | exact (decide_eq_false (by omega)).symm | exact decide_eq_true (by omega) | exact decide_eq_false (by omega))) ?_))) .refl (Nat.zero_le _) ?_
      intro j hj
      by_cases hjl : j < x0.length
      · obtain ⟨m1, m2⟩ := hmv j hjl (by omega) (by omega)
        have e0 := hX0 j hjl
        have e1 := hX1 j (by omega)
        have e2 := hX2 j (by omega)
        generalize x0[j] = u0 at e0 m1 m2
        generalize x1[j]'(by omega) = u1 at e1 m1
        generalize x2[j]'(by omega) = u2 at e2 m2
        refine go_ _ ?_
        refine s_parts (by kernel_rfl) ?_
        refine sg_free 41 (by kernel_rfl) (go_ _ ?_)
        exact ⟨j + 1, by omega, (by repeat (first | exact Sub.nil | refine Sub.cons rfl ?_ | (refine Sub.consB rfl (by (first | rfl | exact decide_eq_decide.2 (by omega) | exact (decide_eq_true (by omega)).symm | exact (decide_eq_false (by omega)).symm | exact decide_eq_true (by omega) | exact decide_eq_false (by omega))) ?_))), .refl, by omega⟩
      · obtain rfl : j = x0.length := by omega
        refine go_ _ ?_
        exact ⟨i + 1, by omega, (by repeat (first | exact Sub.nil | refine Sub.cons rfl ?_ | (refine Sub.consB rfl (by (first | rfl | exact decide_eq_decide.2 (by omega) | exact (decide_eq_true (by omega)).symm | exact (decide_eq_false (by omega)).symm | exact decide_eq_true (by omega) | exact decide_eq_false (by omega))) ?_))), .refl, by omega⟩
  · obtain rfl : i = zs0.length := by omega
    refine go_ _ ?_
    refine so_callQ (fun w1 _ => works_any w1) rfl rfl rfl (tF rfl) (Nat.le_of_ble_eq_true rfl) ?_
    refine go_ _ ?_
    exact sret1 rfl rfl rfl
end Go.Proofs.Ytepkhfebflmieaa
