/- The walk of LinesHold. -/
import Derived.Test.YtepkhfebflmieaaLinH
import Derived.Test.YtepkhfebflmieaaLinA
namespace Go.Proofs.Ytepkhfebflmieaa
open Go.RowKit

theorem rw_mem1 {B : Nat} {w0 : World} {L : Hp} {g n cap : Nat} {t : TypeId} {xs : List Int} (h : own (some ⟨g, 0, none⟩) n cap t 1 (xs.map (.int .i64)) ∈ L) (j : Nat) (hj : j < xs.length) : Rw B w0 L g (0 + j * 1) [.int .i64 xs[j]] := fun w hw => by
  obtain ⟨R, hp, _⟩ := pick_of_mem h
  exact own_at1 (f := .int .i64) (H := []) j hj w (hw.sub (.cons hp .nil))
theorem give_mem {zs : List Rz} {i : Nat} (h : i < zs.length) : own zs[i].2.1 zs[i].1.xs.length zs[i].2.2 2 1 (zs[i].1.xs.map (.int .i64)) ∈ zs.flatMap Rz.give := List.mem_flatMap.2 ⟨zs[i], List.getElem_mem h, by simp [Rz.give]⟩

set_option maxRecDepth 100000 in
set_option maxHeartbeats 8000000 in
theorem hold_any (x : Cs) (w : World) (hlen : x.l.length ≤ maxLen) (hlw : x.ws.length ≤ maxLen) (hA : Rd w Wg.cells 5 x.Aw x.ws) (hB : Rd w Fl.cells 5 x.Al x.l) :
    Calls Try.prog 3 #[.agg x.cells.toArray] w fun e w' => e = .returned (.bool true) ∧ Below w.heap.size w w' := by
  refine s_quiet [(0, .agg x.cells.toArray)] Try.func3 rfl Try.ntmps3 rfl (by simp) ?_
  have hmay : ∀ H w1, Mem w.heap.size w H w1 → Calls Try.prog 6 #[.agg x.cells.toArray] w1 fun e w' => ∃ b, (b = true → CsOk x) ∧ e = .returned (.bool b) ∧ Mem w1.heap.size w1 [] w' := fun H w1 h => may16_any x w1 hlen hlw (hA.base rfl w1 h) (hB.base rfl w1 h)
  have HA : ∀ H, RdH w.heap.size w H Wg.cells 5 x.Aw x.ws := fun _ => hA.base rfl
  have HB : ∀ H, RdH w.heap.size w H Fl.cells 5 x.Al x.l := fun _ => hB.base rfl
  clear hA hB hlen hlw
  obtain ⟨ws, l, h, al, left, right, y, Aw, Al, cw, cl⟩ := x
  unfold Cs.cells at *
  dsimp only at *
  refine go_ _ ?_
  refine so_box (cs := [.slice Aw ws.length cw, .int .i64 h, .int .u8 al, .int .i64 left, .int .i64 right, .int .i64 y, .slice Al l.length cl]) rfl (by (first | (with_reducible rfl) | assumption | exact decide_eq_true (by omega) | (simp only [Bool.not_eq_true', Bool.not_eq_false', decide_eq_false_iff_not, decide_eq_true_eq] <;> first | assumption | omega) | decide)) rfl (CopyL.refl _) (Nat.le_of_ble_eq_true rfl) fun q1 => ?_
  refine go_ _ ?_
  refine so_callN (hmay _) rfl rfl rfl (tF rfl) (Nat.le_of_ble_eq_true rfl) ?_
  intro b hb
  clear hmay
  cases b
  · skip
    refine go_ _ ?_
    refine so_callQ (fun w1 _ => works_any w1) rfl rfl rfl (tF rfl) (Nat.le_of_ble_eq_true rfl) ?_
    refine go_ _ ?_
    exact sret1 rfl rfl rfl
  by_cases hh1 : h < 1
  · skip
    refine go_ _ ?_
    refine so_callQ (fun w1 _ => works_any w1) rfl rfl rfl (tF rfl) (Nat.le_of_ble_eq_true rfl) ?_
    refine go_ _ ?_
    exact sret1 rfl rfl rfl
  obtain ⟨lw, ml, hh, hleft, hright, hy, hw⟩ := hb rfl
  dsimp only at lw ml hh hleft hright hy hw
  have hf20 : ∀ x ∈ ws, 0 ≤ x.forced ∧ x.forced ≤ 20 := fun x hx => (hw x hx).2.2
  have hfo : ∀ x ∈ ws, 0 ≤ x.forced ∧ x.forced ≤ 1000 := fun x hx => by have := hf20 x hx; omega
  unfold Far at hy hh hleft
  have hR : R64 y := by unfold R64; omega
  have hLl : l.length ≤ 200 := by
    unfold mayM at ml; simp at ml; exact ml.1
  have hlb : ∀ f ∈ l, wrap64 (f.y + f.h) ≤ 2251799813685248 := fun f hf => by
    unfold mayM at ml
    simp only [Bool.and_eq_true, List.all_eq_true] at ml
    have := ml.2 f hf
    unfold mayF inF at this
    simp at this
    rw [wrap64_within _ (by omega)]; omega
  have hmax : max h 0 = h := by omega
  have hspec := rows_hold ⟨ws, l, max h 0, 0, left, right, Aw, Al, cw, cl⟩ rfl (by unfold R64; dsimp only; omega) (by dsimp only; omega) hf20 hlb ws.length 0 y (Nat.zero_le _) (by dsimp only; omega) lw (by omega) (by omega)
  rw [show rowsF ⟨ws, l, max h 0, 0, left, right, Aw, Al, cw, cl⟩ ws.length y 0 = rowsM ⟨ws, l, max h 0, 0, left, right, Aw, Al, cw, cl⟩ y from rfl] at hspec
  obtain ⟨rs, hrs⟩ : ∃ rs, rowsM ⟨ws, l, max h 0, 0, left, right, Aw, Al, cw, cl⟩ y = rs := ⟨_, rfl⟩
  have hlenr := rowsM_len ⟨ws, l, max h 0, 0, left, right, Aw, Al, cw, cl⟩ y (by dsimp only; omega) hfo
  obtain ⟨rs, end_⟩ := rs
  have hfill := fun w1 h1 h2 => fill_any ws l h 0 left right y Aw Al cw cl rs end_ hrs w1 hR (by omega) (by omega) hfo h1 h2
  rw [hrs] at hspec hlenr
  clear hrs ml hw hb
  rw [hmax] at hspec
  dsimp only at hspec hlenr
  have htall : ∀ yy H w1, Mem w.heap.size w H w1 → Calls Try.prog 9 #[.slice Al l.length cl, .int .i64 yy, .int .i64 h, .int .i64 left, .int .i64 right] w1 fun r w' => r = .returned (.tuple #[.int .i64 (tallM l left right yy h).1, .int .i64 (tallM l left right yy h).2]) ∧ Below w1.heap.size w1 w' := fun yy H w1 h1 => rtall_any Al l cl yy h left right w1 (by omega) (HB _ w1 h1)
  refine go_ _ ?_
  refine so_callN (hj := fun i => so_yield.catH_of _ _) (fun w1 h1 => hfill w1 (HA _ w1 h1) (HB _ w1 h1)) rfl rfl rfl (tF rfl) (Nat.le_of_ble_eq_true rfl) ?_
  clear hfill
  rintro ⟨A, cap, zs⟩ hz
  dsimp only at hz ⊢
  have hzl : zs.length = rs.length := by rw [hz]; simp
  refine so_sub .refl (L := own A zs.length cap 33 4 (zs.flatMap Rz.row) :: row q1 25 [.slice Aw ws.length cw, .int .i64 h, .int .u8 al, .int .i64 left, .int .i64 right, .int .i64 y, .slice Al l.length cl] :: zs.flatMap Rz.give) (by
    simp only [List.cons_append]
    exact .of_perm (.cons _ (List.perm_append_comm.trans (List.Perm.refl _)))) ?_
  refine go_ _ ?_
  refine s_loop (ι := Nat × Nat × Int) (fun i => [(1, .pointer (some ⟨q1, 0, none⟩)), (3, .slice A zs.length cap), (4, .int .i64 end_), (5, .int .i64 (i.2.1 : Nat)), (6, .int .i64 i.2.2), (7, .int .i64 (i.1 : Nat))])
    (fun _ => own A zs.length cap 33 4 (zs.flatMap Rz.row) :: row q1 25 [.slice Aw ws.length cw, .int .i64 h, .int .u8 al, .int .i64 left, .int .i64 right, .int .i64 y, .slice Al l.length cl] :: zs.flatMap Rz.give)
    (fun i => i.1 ≤ zs.length ∧ HoldR ⟨ws, l, h, 0, left, right, Aw, Al, cw, cl⟩ i.2.1 i.2.2 (rs.drop i.1) end_) (fun i => zs.length - i.1) (0, 0, y) (by repeat (first | exact Sub.nil | refine Sub.cons rfl ?_ | (refine Sub.consB rfl (by (first | rfl | exact decide_eq_decide.2 (by omega) | exact (decide_eq_true (by omega)).symm | exact (decide_eq_false (by omega)).symm | exact decide_eq_true (by omega) | exact decide_eq_false (by omega))) ?_))) .refl ⟨Nat.zero_le _, hspec⟩ ?_
  clear hspec
  rintro ⟨i, k, yi⟩ ⟨hi, hho⟩
  dsimp only at hi hho ⊢
  by_cases hlt : i < zs.length
  · refine s_ownSome .here (by omega) fun g e => ?_
    subst e
    have hr : Rw w.heap.size w (own (some ⟨g, 0, none⟩) zs.length cap 33 4 (zs.flatMap Rz.row) :: row q1 25 [.slice Aw ws.length cw, .int .i64 h, .int .u8 al, .int .i64 left, .int .i64 right, .int .i64 y, .slice Al l.length cl] :: zs.flatMap Rz.give) g (0 + i * 4) (Rz.row zs[i]) := own_at (c := Rz.row) (sz := 4) (by decide) (fun _ => rfl) i hlt
    have hgm := give_mem hlt
    have hzi : (zs[i]).1 = rs[i]'(by omega) := by simp only [hz, List.getElem_map]
    rw [List.drop_eq_getElem_cons (by omega), HoldR, ← hzi] at hho
    generalize zs[i] = z at *
    obtain ⟨⟨zy, za, zb, zx⟩, zA, zc⟩ := z
    unfold Rz.row at hr
    dsimp only at hr hgm hho
    obtain ⟨k1, k2, k3, k4, k5, k6, k7, k8⟩ := hho
    obtain ⟨x0, xj, xl⟩ := k7
    dsimp only at x0 xj xl
    unfold R64 at k6
    subst k1
    have hth := htall zy
    generalize tallM l left right zy h = tm at *
    obtain ⟨fr, to_⟩ := tm
    dsimp only at x0 xj xl hth
    have HW : ∀ idx (hx : idx < ws.length), ∃ b1 o1, Aw = some ⟨b1, o1, none⟩ ∧ ∀ H, Rw w.heap.size w H b1 (o1 + idx * 5) ws[idx].cells := fun idx hx => by
      obtain ⟨b1, o1, e, hr0⟩ := RdH.at (HA []) (Mem.start w) idx hx
      exact ⟨b1, o1, e, fun H => Rw.sub hr0 .nil⟩
    refine go_ _ ?_
    (first | ((with_reducible apply so_new); rfl; (first | (with_reducible rfl) | assumption | exact decide_eq_true (by omega) | (simp only [Bool.not_eq_true', Bool.not_eq_false', decide_eq_false_iff_not, decide_eq_true_eq] <;> first | assumption | omega) | decide); exact tZ rfl; (first | exact Nat.le_of_ble_eq_true rfl | decide); (intro; rfl); (first | (with_reducible rfl) | assumption | exact decide_eq_true (by omega) | (simp only [Bool.not_eq_true', Bool.not_eq_false', decide_eq_false_iff_not, decide_eq_true_eq] <;> first | assumption | omega) | decide); (intro; rfl); rfl; exact tS rfl; rfl; rfl) | ((with_reducible apply so_alloc); rfl; (first | (with_reducible rfl) | assumption | exact decide_eq_true (by omega) | (simp only [Bool.not_eq_true', Bool.not_eq_false', decide_eq_false_iff_not, decide_eq_true_eq] <;> first | assumption | omega) | decide); exact tZ rfl; (focus ((repeat (first | (with_reducible exact CopyL.agg) | exact CopyL.nil | (apply CopyL.consI; rfl) | (apply CopyL.consB; rfl) | (apply CopyL.consS; rfl) | (apply CopyL.consP; rfl) | apply CopyL.cons)); done)); (first | exact Nat.le_of_ble_eq_true rfl | decide)) | ((with_reducible apply so_box); rfl; (first | (with_reducible rfl) | assumption | exact decide_eq_true (by omega) | (simp only [Bool.not_eq_true', Bool.not_eq_false', decide_eq_false_iff_not, decide_eq_true_eq] <;> first | assumption | omega) | decide); rfl; (focus ((repeat (first | (with_reducible exact CopyL.agg) | exact CopyL.nil | (apply CopyL.consI; rfl) | (apply CopyL.consB; rfl) | (apply CopyL.consS; rfl) | (apply CopyL.consP; rfl) | apply CopyL.cons)); done)); (first | exact Nat.le_of_ble_eq_true rfl | decide)))
    intro q8
    refine go_ _ ?_
    refine so_callQ (hth _) rfl rfl rfl (tF rfl) (Nat.le_of_ble_eq_true rfl) ?_
    clear hth htall hr
    refine go_ _ ?_
    refine s_loop (ι := Nat) (fun j => [(1, .pointer (some ⟨q1, 0, none⟩)), (3, .slice (some ⟨g, 0, none⟩) zs.length cap), (4, .int .i64 end_), (7, .int .i64 (i : Nat)), (8, .pointer (some ⟨q8, 0, none⟩)), (9, .int .i64 fr), (10, .int .i64 to_), (11, .int .i64 (j : Nat))])
      (fun _ => row q8 33 [.int .i64 zy, .int .i64 (za : Nat), .int .i64 (zb : Nat), .slice zA zx.length zc] :: own (some ⟨g, 0, none⟩) zs.length cap 33 4 (zs.flatMap Rz.row) :: row q1 25 [.slice Aw ws.length cw, .int .i64 h, .int .u8 al, .int .i64 left, .int .i64 right, .int .i64 y, .slice Al l.length cl] :: zs.flatMap Rz.give) (fun j => j ≤ zx.length) (fun j => zx.length - j) 0 (by repeat (first | exact Sub.nil | refine Sub.cons rfl ?_ | (refine Sub.consB rfl (by (first | rfl | exact decide_eq_decide.2 (by omega) | exact (decide_eq_true (by omega)).symm | exact (decide_eq_false (by omega)).symm | exact decide_eq_true (by omega) | exact decide_eq_false (by omega))) ?_))) (by repeat (first | exact SubH.refl | exact SubH.nil | ((with_reducible apply SubH.cons); (focus ((repeat (first | (with_reducible exact Pick.here) | (with_reducible apply Pick.there))); done))) | ((with_reducible apply SubH.consR); (focus ((repeat (first | (with_reducible exact Pick.here) | (with_reducible apply Pick.there))); done)); (first | rfl | simp; done)) | ((with_reducible apply SubH.consO); (focus ((repeat (first | (with_reducible exact Pick.here) | (with_reducible apply Pick.there))); done)); (first | rfl | simp; done); (first | rfl | simp; done)) | exact SubH.drop SubH.refl | apply SubH.drop)) (Nat.zero_le _) ?_
    intro j hj
    by_cases hjl : j < zx.length
    · obtain ⟨R0, hp0, _⟩ := pick_of_mem (H := row q8 33 [.int .i64 zy, .int .i64 (za : Nat), .int .i64 (zb : Nat), .slice zA zx.length zc] :: own (some ⟨g, 0, none⟩) zs.length cap 33 4 (zs.flatMap Rz.row) :: row q1 25 [.slice Aw ws.length cw, .int .i64 h, .int .u8 al, .int .i64 left, .int .i64 right, .int .i64 y, .slice Al l.length cl] :: zs.flatMap Rz.give) (List.mem_cons_of_mem _ (List.mem_cons_of_mem _ (List.mem_cons_of_mem _ hgm)))
      refine s_ownSome hp0 (by omega) fun gx e => ?_
      subst e
      clear hp0
      have hX : ∀ j (hj : j < zx.length) Aw', Rw w.heap.size w (row q8 33 [.int .i64 zy, .int .i64 (za : Nat), .int .i64 (zb : Nat), .slice (some ⟨gx, 0, none⟩) zx.length zc] :: own (some ⟨g, 0, none⟩) zs.length cap 33 4 (zs.flatMap Rz.row) :: row q1 25 [.slice Aw' ws.length cw, .int .i64 h, .int .u8 al, .int .i64 left, .int .i64 right, .int .i64 y, .slice Al l.length cl] :: zs.flatMap Rz.give) gx (0 + j * 1) [.int .i64 zx[j]] := fun j hj _ => rw_mem1 (List.mem_cons_of_mem _ (List.mem_cons_of_mem _ (List.mem_cons_of_mem _ hgm))) j hj
      by_cases h0 : j = 0
      · subst h0
        have hx0 := x0 hjl
        have hXj := hX 0 hjl
        obtain ⟨b1, o1, rfl, hW0⟩ := HW (za + 0) (by omega)
        have hr1 := hW0 (row q8 33 [.int .i64 zy, .int .i64 (za : Nat), .int .i64 (zb : Nat), .slice (some ⟨gx, 0, none⟩) zx.length zc] :: own (some ⟨g, 0, none⟩) zs.length cap 33 4 (zs.flatMap Rz.row) :: row q1 25 [.slice (some ⟨b1, o1, none⟩) ws.length cw, .int .i64 h, .int .u8 al, .int .i64 left, .int .i64 right, .int .i64 y, .slice Al l.length cl] :: zs.flatMap Rz.give)
        have hXj' := hXj (some ⟨b1, o1, none⟩)
        clear hX hXj hW0 HW
        generalize ws[za + 0]'(by omega) = v at hr1
        obtain ⟨va, vb, vw, vg, vf⟩ := v
        unfold Wg.cells at hr1
        generalize zx[0] = x0v at hx0 hXj'
        dsimp only at hr1
        refine go_ _ ?_
        (first | ((with_reducible apply so_new); rfl; (first | (with_reducible rfl) | assumption | exact decide_eq_true (by omega) | (simp only [Bool.not_eq_true', Bool.not_eq_false', decide_eq_false_iff_not, decide_eq_true_eq] <;> first | assumption | omega) | decide); exact tZ rfl; (first | exact Nat.le_of_ble_eq_true rfl | decide); (intro; rfl); (first | (with_reducible rfl) | assumption | exact decide_eq_true (by omega) | (simp only [Bool.not_eq_true', Bool.not_eq_false', decide_eq_false_iff_not, decide_eq_true_eq] <;> first | assumption | omega) | decide); (intro; rfl); rfl; exact tS rfl; rfl; rfl) | ((with_reducible apply so_alloc); rfl; (first | (with_reducible rfl) | assumption | exact decide_eq_true (by omega) | (simp only [Bool.not_eq_true', Bool.not_eq_false', decide_eq_false_iff_not, decide_eq_true_eq] <;> first | assumption | omega) | decide); exact tZ rfl; (focus ((repeat (first | (with_reducible exact CopyL.agg) | exact CopyL.nil | (apply CopyL.consI; rfl) | (apply CopyL.consB; rfl) | (apply CopyL.consS; rfl) | (apply CopyL.consP; rfl) | apply CopyL.cons)); done)); (first | exact Nat.le_of_ble_eq_true rfl | decide)) | ((with_reducible apply so_box); rfl; (first | (with_reducible rfl) | assumption | exact decide_eq_true (by omega) | (simp only [Bool.not_eq_true', Bool.not_eq_false', decide_eq_false_iff_not, decide_eq_true_eq] <;> first | assumption | omega) | decide); rfl; (focus ((repeat (first | (with_reducible exact CopyL.agg) | exact CopyL.nil | (apply CopyL.consI; rfl) | (apply CopyL.consB; rfl) | (apply CopyL.consS; rfl) | (apply CopyL.consP; rfl) | apply CopyL.cons)); done)); (first | exact Nat.le_of_ble_eq_true rfl | decide)))
        intro q12
        refine go_ _ ?_
        refine s_parts (by kernel_rfl) ?_
        refine sg_free 59 (by kernel_rfl) (go_ _ ?_)
        exact ⟨0 + 1, by omega, (by repeat (first | exact Sub.nil | refine Sub.cons rfl ?_ | (refine Sub.consB rfl (by (first | rfl | exact decide_eq_decide.2 (by omega) | exact (decide_eq_true (by omega)).symm | exact (decide_eq_false (by omega)).symm | exact decide_eq_true (by omega) | exact decide_eq_false (by omega))) ?_))), (by repeat (first | exact SubH.refl | exact SubH.nil | ((with_reducible apply SubH.cons); (focus ((repeat (first | (with_reducible exact Pick.here) | (with_reducible apply Pick.there))); done))) | ((with_reducible apply SubH.consR); (focus ((repeat (first | (with_reducible exact Pick.here) | (with_reducible apply Pick.there))); done)); (first | rfl | simp; done)) | ((with_reducible apply SubH.consO); (focus ((repeat (first | (with_reducible exact Pick.here) | (with_reducible apply Pick.there))); done)); (first | rfl | simp; done); (first | rfl | simp; done)) | exact SubH.drop SubH.refl | apply SubH.drop)), by omega⟩
      · obtain ⟨ha, hb', hc, f1, f2, f3⟩ := xj j hjl (by omega)
        have hXj := hX j hjl
        have hXp := hX (j - 1) hc
        obtain ⟨b1, o1, rfl, hW0⟩ := HW (za + j) ha
        obtain ⟨b2, o2, e2, hW1⟩ := HW (za + j - 1) hb'
        cases e2
        have hr1 := hW0 (row q8 33 [.int .i64 zy, .int .i64 (za : Nat), .int .i64 (zb : Nat), .slice (some ⟨gx, 0, none⟩) zx.length zc] :: own (some ⟨g, 0, none⟩) zs.length cap 33 4 (zs.flatMap Rz.row) :: row q1 25 [.slice (some ⟨b1, o1, none⟩) ws.length cw, .int .i64 h, .int .u8 al, .int .i64 left, .int .i64 right, .int .i64 y, .slice Al l.length cl] :: zs.flatMap Rz.give)
        have hr2 := hW1 (row q8 33 [.int .i64 zy, .int .i64 (za : Nat), .int .i64 (zb : Nat), .slice (some ⟨gx, 0, none⟩) zx.length zc] :: own (some ⟨g, 0, none⟩) zs.length cap 33 4 (zs.flatMap Rz.row) :: row q1 25 [.slice (some ⟨b1, o1, none⟩) ws.length cw, .int .i64 h, .int .u8 al, .int .i64 left, .int .i64 right, .int .i64 y, .slice Al l.length cl] :: zs.flatMap Rz.give)
        have hXj' := hXj (some ⟨b1, o1, none⟩)
        have hXp' := hXp (some ⟨b1, o1, none⟩)
        clear hX hXj hXp hW0 hW1 HW
        generalize ws[za + j] = v at hr1 f1 f2 f3
        generalize ws[za + j - 1] = u at hr2 f2
        generalize zx[j] = xjv at hXj' f2 f3
        generalize zx[j - 1] = xpv at hXp' f2
        obtain ⟨va, vb, vw, vg, vf⟩ := v
        obtain ⟨ua, ub, uw, ug, uf⟩ := u
        unfold Wg.cells at hr1 hr2
        dsimp only at hr1 hr2 f1 f2 f3
        refine go_ _ ?_
        (first | ((with_reducible apply so_new); rfl; (first | (with_reducible rfl) | assumption | exact decide_eq_true (by omega) | (simp only [Bool.not_eq_true', Bool.not_eq_false', decide_eq_false_iff_not, decide_eq_true_eq] <;> first | assumption | omega) | decide); exact tZ rfl; (first | exact Nat.le_of_ble_eq_true rfl | decide); (intro; rfl); (first | (with_reducible rfl) | assumption | exact decide_eq_true (by omega) | (simp only [Bool.not_eq_true', Bool.not_eq_false', decide_eq_false_iff_not, decide_eq_true_eq] <;> first | assumption | omega) | decide); (intro; rfl); rfl; exact tS rfl; rfl; rfl) | ((with_reducible apply so_alloc); rfl; (first | (with_reducible rfl) | assumption | exact decide_eq_true (by omega) | (simp only [Bool.not_eq_true', Bool.not_eq_false', decide_eq_false_iff_not, decide_eq_true_eq] <;> first | assumption | omega) | decide); exact tZ rfl; (focus ((repeat (first | (with_reducible exact CopyL.agg) | exact CopyL.nil | (apply CopyL.consI; rfl) | (apply CopyL.consB; rfl) | (apply CopyL.consS; rfl) | (apply CopyL.consP; rfl) | apply CopyL.cons)); done)); (first | exact Nat.le_of_ble_eq_true rfl | decide)) | ((with_reducible apply so_box); rfl; (first | (with_reducible rfl) | assumption | exact decide_eq_true (by omega) | (simp only [Bool.not_eq_true', Bool.not_eq_false', decide_eq_false_iff_not, decide_eq_true_eq] <;> first | assumption | omega) | decide); rfl; (focus ((repeat (first | (with_reducible exact CopyL.agg) | exact CopyL.nil | (apply CopyL.consI; rfl) | (apply CopyL.consB; rfl) | (apply CopyL.consS; rfl) | (apply CopyL.consP; rfl) | apply CopyL.cons)); done)); (first | exact Nat.le_of_ble_eq_true rfl | decide)))
        intro q12
        refine go_ _ ?_
        refine s_parts (by kernel_rfl) ?_
        refine sg_free 59 (by kernel_rfl) (go_ _ ?_)
        refine sd_pure rfl (by (first | (with_reducible rfl) | assumption | exact decide_eq_true (by omega) | (simp only [Bool.not_eq_true', Bool.not_eq_false', decide_eq_false_iff_not, decide_eq_true_eq] <;> first | assumption | omega) | decide)) rfl (Nat.le_of_ble_eq_true rfl) (ps_indexAddrL (j := j - 1) rfl rfl (tU rfl) (tS rfl) (toJ (by omega)) (by omega)) ?_
        refine go_ _ ?_
        refine sd_pure rfl (by (first | (with_reducible rfl) | assumption | exact decide_eq_true (by omega) | (simp only [Bool.not_eq_true', Bool.not_eq_false', decide_eq_false_iff_not, decide_eq_true_eq] <;> first | assumption | omega) | decide)) rfl (Nat.le_of_ble_eq_true rfl) (ps_indexAddrL (j := za + j - 1) rfl rfl (tU rfl) (tS rfl) (toJ (by omega)) (by omega)) ?_
        refine go_ _ ?_
        exact ⟨j + 1, by omega, (by repeat (first | exact Sub.nil | refine Sub.cons rfl ?_ | (refine Sub.consB rfl (by (first | rfl | exact decide_eq_decide.2 (by omega) | exact (decide_eq_true (by omega)).symm | exact (decide_eq_false (by omega)).symm | exact decide_eq_true (by omega) | exact decide_eq_false (by omega))) ?_))), (by repeat (first | exact SubH.refl | exact SubH.nil | ((with_reducible apply SubH.cons); (focus ((repeat (first | (with_reducible exact Pick.here) | (with_reducible apply Pick.there))); done))) | ((with_reducible apply SubH.consR); (focus ((repeat (first | (with_reducible exact Pick.here) | (with_reducible apply Pick.there))); done)); (first | rfl | simp; done)) | ((with_reducible apply SubH.consO); (focus ((repeat (first | (with_reducible exact Pick.here) | (with_reducible apply Pick.there))); done)); (first | rfl | simp; done); (first | rfl | simp; done)) | exact SubH.drop SubH.refl | apply SubH.drop)), by omega⟩
    · obtain rfl : j = zx.length := by omega
      refine go_ _ ?_
      have hdone : HoldR ⟨ws, l, h, 0, left, right, Aw, Al, cw, cl⟩ zb (zy + h) (rs.drop (i + 1)) end_ := k8
      by_cases hx0 : 0 < zx.length
      · by_cases hb : zb < ws.length
        · obtain ⟨hc, hd, f1⟩ := xl hx0 hb
          obtain ⟨R0, hp0, _⟩ := pick_of_mem (H := row q8 33 [.int .i64 zy, .int .i64 (za : Nat), .int .i64 (zb : Nat), .slice zA zx.length zc] :: own (some ⟨g, 0, none⟩) zs.length cap 33 4 (zs.flatMap Rz.row) :: row q1 25 [.slice Aw ws.length cw, .int .i64 h, .int .u8 al, .int .i64 left, .int .i64 right, .int .i64 y, .slice Al l.length cl] :: zs.flatMap Rz.give) (List.mem_cons_of_mem _ (List.mem_cons_of_mem _ (List.mem_cons_of_mem _ hgm)))
          refine so_ownSome hp0 (by omega) fun gx e => ?_
          subst e
          clear hp0
          have hX : ∀ j (hj : j < zx.length) Aw', Rw w.heap.size w (row q8 33 [.int .i64 zy, .int .i64 (za : Nat), .int .i64 (zb : Nat), .slice (some ⟨gx, 0, none⟩) zx.length zc] :: own (some ⟨g, 0, none⟩) zs.length cap 33 4 (zs.flatMap Rz.row) :: row q1 25 [.slice Aw' ws.length cw, .int .i64 h, .int .u8 al, .int .i64 left, .int .i64 right, .int .i64 y, .slice Al l.length cl] :: zs.flatMap Rz.give) gx (0 + j * 1) [.int .i64 zx[j]] := fun j hj _ => rw_mem1 (List.mem_cons_of_mem _ (List.mem_cons_of_mem _ (List.mem_cons_of_mem _ hgm))) j hj
          have hXl := hX (zx.length - 1) hd
          obtain ⟨b1, o1, rfl, hW0⟩ := HW zb hb
          obtain ⟨b2, o2, e2, hW1⟩ := HW (zb - 1) hc
          cases e2
          have hr1 := hW0 (row q8 33 [.int .i64 zy, .int .i64 (za : Nat), .int .i64 (zb : Nat), .slice (some ⟨gx, 0, none⟩) zx.length zc] :: own (some ⟨g, 0, none⟩) zs.length cap 33 4 (zs.flatMap Rz.row) :: row q1 25 [.slice (some ⟨b1, o1, none⟩) ws.length cw, .int .i64 h, .int .u8 al, .int .i64 left, .int .i64 right, .int .i64 y, .slice Al l.length cl] :: zs.flatMap Rz.give)
          have hr2 := hW1 (row q8 33 [.int .i64 zy, .int .i64 (za : Nat), .int .i64 (zb : Nat), .slice (some ⟨gx, 0, none⟩) zx.length zc] :: own (some ⟨g, 0, none⟩) zs.length cap 33 4 (zs.flatMap Rz.row) :: row q1 25 [.slice (some ⟨b1, o1, none⟩) ws.length cw, .int .i64 h, .int .u8 al, .int .i64 left, .int .i64 right, .int .i64 y, .slice Al l.length cl] :: zs.flatMap Rz.give)
          have hXl' := hXl (some ⟨b1, o1, none⟩)
          clear hX hXl hW0 hW1
          generalize ws[zb] = v at hr1 f1
          generalize ws[zb - 1] = u at hr2 f1
          generalize zx[zx.length - 1] = xlv at hXl' f1
          obtain ⟨va, vb, vw, vg, vf⟩ := v
          obtain ⟨ua, ub, uw, ug, uf⟩ := u
          unfold Wg.cells at hr1 hr2
          dsimp only at hr1 hr2 f1
          refine go_ _ ?_
          refine so_pure rfl (by (first | (with_reducible rfl) | assumption | exact decide_eq_true (by omega) | (simp only [Bool.not_eq_true', Bool.not_eq_false', decide_eq_false_iff_not, decide_eq_true_eq] <;> first | assumption | omega) | decide)) rfl (Nat.le_of_ble_eq_true rfl) (ps_indexAddrL (j := zb - 1) rfl rfl (tU rfl) (tS rfl) (toJ (by omega)) (by omega)) ?_
          refine go_ _ ?_
          (first | ((with_reducible apply so_new); rfl; (first | (with_reducible rfl) | assumption | exact decide_eq_true (by omega) | (simp only [Bool.not_eq_true', Bool.not_eq_false', decide_eq_false_iff_not, decide_eq_true_eq] <;> first | assumption | omega) | decide); exact tZ rfl; (first | exact Nat.le_of_ble_eq_true rfl | decide); (intro; rfl); (first | (with_reducible rfl) | assumption | exact decide_eq_true (by omega) | (simp only [Bool.not_eq_true', Bool.not_eq_false', decide_eq_false_iff_not, decide_eq_true_eq] <;> first | assumption | omega) | decide); (intro; rfl); rfl; exact tS rfl; rfl; rfl) | ((with_reducible apply so_alloc); rfl; (first | (with_reducible rfl) | assumption | exact decide_eq_true (by omega) | (simp only [Bool.not_eq_true', Bool.not_eq_false', decide_eq_false_iff_not, decide_eq_true_eq] <;> first | assumption | omega) | decide); exact tZ rfl; (focus ((repeat (first | (with_reducible exact CopyL.agg) | exact CopyL.nil | (apply CopyL.consI; rfl) | (apply CopyL.consB; rfl) | (apply CopyL.consS; rfl) | (apply CopyL.consP; rfl) | apply CopyL.cons)); done)); (first | exact Nat.le_of_ble_eq_true rfl | decide)) | ((with_reducible apply so_box); rfl; (first | (with_reducible rfl) | assumption | exact decide_eq_true (by omega) | (simp only [Bool.not_eq_true', Bool.not_eq_false', decide_eq_false_iff_not, decide_eq_true_eq] <;> first | assumption | omega) | decide); rfl; (focus ((repeat (first | (with_reducible exact CopyL.agg) | exact CopyL.nil | (apply CopyL.consI; rfl) | (apply CopyL.consB; rfl) | (apply CopyL.consS; rfl) | (apply CopyL.consP; rfl) | apply CopyL.cons)); done)); (first | exact Nat.le_of_ble_eq_true rfl | decide)))
          intro q13
          refine go_ _ ?_
          (first | ((with_reducible apply so_new); rfl; (first | (with_reducible rfl) | assumption | exact decide_eq_true (by omega) | (simp only [Bool.not_eq_true', Bool.not_eq_false', decide_eq_false_iff_not, decide_eq_true_eq] <;> first | assumption | omega) | decide); exact tZ rfl; (first | exact Nat.le_of_ble_eq_true rfl | decide); (intro; rfl); (first | (with_reducible rfl) | assumption | exact decide_eq_true (by omega) | (simp only [Bool.not_eq_true', Bool.not_eq_false', decide_eq_false_iff_not, decide_eq_true_eq] <;> first | assumption | omega) | decide); (intro; rfl); rfl; exact tS rfl; rfl; rfl) | ((with_reducible apply so_alloc); rfl; (first | (with_reducible rfl) | assumption | exact decide_eq_true (by omega) | (simp only [Bool.not_eq_true', Bool.not_eq_false', decide_eq_false_iff_not, decide_eq_true_eq] <;> first | assumption | omega) | decide); exact tZ rfl; (focus ((repeat (first | (with_reducible exact CopyL.agg) | exact CopyL.nil | (apply CopyL.consI; rfl) | (apply CopyL.consB; rfl) | (apply CopyL.consS; rfl) | (apply CopyL.consP; rfl) | apply CopyL.cons)); done)); (first | exact Nat.le_of_ble_eq_true rfl | decide)) | ((with_reducible apply so_box); rfl; (first | (with_reducible rfl) | assumption | exact decide_eq_true (by omega) | (simp only [Bool.not_eq_true', Bool.not_eq_false', decide_eq_false_iff_not, decide_eq_true_eq] <;> first | assumption | omega) | decide); rfl; (focus ((repeat (first | (with_reducible exact CopyL.agg) | exact CopyL.nil | (apply CopyL.consI; rfl) | (apply CopyL.consB; rfl) | (apply CopyL.consS; rfl) | (apply CopyL.consP; rfl) | apply CopyL.cons)); done)); (first | exact Nat.le_of_ble_eq_true rfl | decide)))
          intro q14
          refine go_ _ ?_
          refine s_parts (by kernel_rfl) ?_
          by_cases hvf : vf = 0
          · have f2 := f1 hvf
            refine sg_free 24 (by kernel_rfl) (go_ _ ?_)
            refine sd_pure rfl (by (first | (with_reducible rfl) | assumption | exact decide_eq_true (by omega) | (simp only [Bool.not_eq_true', Bool.not_eq_false', decide_eq_false_iff_not, decide_eq_true_eq] <;> first | assumption | omega) | decide)) rfl (Nat.le_of_ble_eq_true rfl) (ps_indexAddrL (j := zx.length - 1) rfl rfl (tU rfl) (tS rfl) (toJ (by omega)) (by omega)) ?_
            refine go_ _ ?_
            exact ⟨(i + 1, zb, zy + h), by dsimp only; omega, (by repeat (first | exact Sub.nil | refine Sub.cons rfl ?_ | (refine Sub.consB rfl (by (first | rfl | exact decide_eq_decide.2 (by omega) | exact (decide_eq_true (by omega)).symm | exact (decide_eq_false (by omega)).symm | exact decide_eq_true (by omega) | exact decide_eq_false (by omega))) ?_))), .drop (.drop (.drop .refl)), by dsimp only; omega, hdone⟩
          · skip
            refine sg_free 24 (by kernel_rfl) (go_ _ ?_)
            exact ⟨(i + 1, zb, zy + h), by dsimp only; omega, (by repeat (first | exact Sub.nil | refine Sub.cons rfl ?_ | (refine Sub.consB rfl (by (first | rfl | exact decide_eq_decide.2 (by omega) | exact (decide_eq_true (by omega)).symm | exact (decide_eq_false (by omega)).symm | exact decide_eq_true (by omega) | exact decide_eq_false (by omega))) ?_))), .drop (.drop (.drop .refl)), by dsimp only; omega, hdone⟩
        · skip
          refine go_ _ ?_
          exact ⟨(i + 1, zb, zy + h), by dsimp only; omega, (by repeat (first | exact Sub.nil | refine Sub.cons rfl ?_ | (refine Sub.consB rfl (by (first | rfl | exact decide_eq_decide.2 (by omega) | exact (decide_eq_true (by omega)).symm | exact (decide_eq_false (by omega)).symm | exact decide_eq_true (by omega) | exact decide_eq_false (by omega))) ?_))), .drop .refl, by dsimp only; omega, hdone⟩
      · skip
        refine go_ _ ?_
        exact ⟨(i + 1, zb, zy + h), by dsimp only; omega, (by repeat (first | exact Sub.nil | refine Sub.cons rfl ?_ | (refine Sub.consB rfl (by (first | rfl | exact decide_eq_decide.2 (by omega) | exact (decide_eq_true (by omega)).symm | exact (decide_eq_false (by omega)).symm | exact decide_eq_true (by omega) | exact decide_eq_false (by omega))) ?_))), .drop .refl, by dsimp only; omega, hdone⟩
  · obtain rfl : i = zs.length := by omega
    rw [hzl, List.drop_length, HoldR] at hho
    obtain ⟨rfl, rfl⟩ := hho
    dsimp only
    refine go_ _ ?_
    refine so_callQ (fun w1 _ => works_any w1) rfl (by (first | (with_reducible rfl) | assumption | exact decide_eq_true (by omega) | (simp only [Bool.not_eq_true', Bool.not_eq_false', decide_eq_false_iff_not, decide_eq_true_eq] <;> first | assumption | omega) | decide)) rfl (tF rfl) (Nat.le_of_ble_eq_true rfl) ?_
    refine go_ _ ?_
    exact sret1 rfl rfl rfl
end Go.Proofs.Ytepkhfebflmieaa
