/- The walk of LinesEnds. -/
import Derived.Test.YtepkhfebflmieaaLinP
import Derived.Test.YtepkhfebflmieaaLinK
namespace Go.Proofs.Ytepkhfebflmieaa
open Go.RowKit

theorem subH_app : ∀ (X Y : Hp), SubH (X ++ Y) Y := fun X Y => by
  induction X with
  | nil => exact .refl
  | cons x X ih => exact .drop ih
theorem wantF_app : ∀ (l : List Wg) (b : Bool) (w : Wg), wantF b (l ++ [w]) = wantF b l + if l.length = 0 ∧ b = true then w.forced else max (w.forced - 1) 0 := by
  intro l
  induction l with
  | nil => intro b w; cases b <;> simp [wantF]
  | cons v l ih => intro b w; rw [List.cons_append, wantF, ih, wantF]; simp; omega
theorem startF_app : ∀ (l : List Wg) (b : Bool) (w : Wg), startF b (l ++ [w]) = startF b l + if (l.length = 0 ∧ b = true) ∨ 0 < w.forced then 1 else 0 := by
  intro l
  induction l with
  | nil => intro b w; cases b <;> simp [startF]
  | cons v l ih => intro b w; rw [List.cons_append, startF, ih, startF]; simp; omega
theorem startF_len : ∀ (l : List Wg) (b : Bool), startF b l ≤ l.length := by
  intro l
  induction l with
  | nil => intro b; simp [startF]
  | cons v l ih => intro b; rw [startF]; have := ih false; simp only [List.length_cons]; split <;> omega
theorem wantF_b : ∀ (l : List Wg) (b : Bool), (∀ w ∈ l, 0 ≤ w.forced ∧ w.forced ≤ 20) → 0 ≤ wantF b l ∧ wantF b l ≤ 20 * l.length := by
  intro l
  induction l with
  | nil => intro b _; simp [wantF]
  | cons v l ih =>
    intro b h
    have h1 := h v (by simp)
    have h2 := ih false (fun w hw => h w (by simp [hw]))
    rw [wantF]; simp only [List.length_cons]; split <;> omega
theorem take_succ_at {α : Type} (l : List α) (i : Nat) (h : i < l.length) : l.take (i + 1) = l.take i ++ [l[i]] := by rw [List.take_add_one, List.getElem?_eq_getElem h]; rfl
theorem gotR_app (l : List Ro) (r : Ro) : gotR (l ++ [r]) = gotR l + if r.xs.length = 0 then 1 else 0 := by
  unfold gotR; rw [List.countP_append]; simp [List.countP_cons]
theorem gotR_len (l : List Ro) : gotR l ≤ l.length := List.countP_le_length

set_option maxRecDepth 100000 in
set_option maxHeartbeats 4000000 in
theorem ends_any (x : Cs) (w : World) (hlen : x.l.length ≤ maxLen) (hlw : x.ws.length ≤ maxLen) (hA : Rd w Wg.cells 5 x.Aw x.ws) (hB : Rd w Fl.cells 5 x.Al x.l) :
    Calls Try.prog 4 #[.agg x.cells.toArray] w fun e w' => e = .returned (.bool true) ∧ Below w.heap.size w w' := by
  refine s_quiet [(0, .agg x.cells.toArray)] Try.func4 rfl Try.ntmps4 rfl (by simp) ?_
  have hmay : ∀ H w1, Mem w.heap.size w H w1 → Calls Try.prog 6 #[.agg x.cells.toArray] w1 fun e w' => ∃ b, (b = true → CsOk x) ∧ e = .returned (.bool b) ∧ Mem w1.heap.size w1 [] w' := fun H w1 h => may16_any x w1 hlen hlw (hA.base rfl w1 h) (hB.base rfl w1 h)
  have HA : ∀ H, RdH w.heap.size w H Wg.cells 5 x.Aw x.ws := fun _ => hA.base rfl
  clear hA hB hlen hlw
  obtain ⟨ws, l, h, al, left, right, y, Aw, Al, cw, cl⟩ := x
  unfold Cs.cells at *
  dsimp only at *
  refine go_ _ ?_
  refine so_box (cs := [.slice Aw ws.length cw, .int .i64 h, .int .u8 al, .int .i64 left, .int .i64 right, .int .i64 y, .slice Al l.length cl]) rfl (by (first | (with_reducible rfl) | assumption | exact decide_eq_true (by omega) | (simp only [Bool.not_eq_true', Bool.not_eq_false', decide_eq_false_iff_not, decide_eq_true_eq] <;> first | assumption | omega) | decide)) rfl (CopyL.refl _) (Nat.le_of_ble_eq_true rfl) fun q1 => ?_
  refine go_ _ ?_
  refine so_callN (hmay _) rfl rfl rfl (tF rfl) (Nat.le_of_ble_eq_true rfl) ?_
  intro b hb
  clear hmay
  cases b
  · skip
    refine go_ _ ?_
    refine so_callQ (fun w1 _ => works_any w1) rfl rfl rfl (tF rfl) (Nat.le_of_ble_eq_true rfl) ?_
    refine go_ _ ?_
    exact sret1 rfl rfl rfl
  obtain ⟨lw, _, _, _, _, hy, hw⟩ := hb rfl
  dsimp only at lw hy hw
  have hf20 : ∀ x ∈ ws, 0 ≤ x.forced ∧ x.forced ≤ 20 := fun x hx => (hw x hx).2.2
  have hfo : ∀ x ∈ ws, 0 ≤ x.forced ∧ x.forced ≤ 1000 := fun x hx => by have := hf20 x hx; omega
  unfold Far at hy
  have hR : R64 y := by unfold R64; omega
  have hspec := rows_ends ⟨ws, [], max h 0, al, left, right, Aw, none, cw, 0⟩ rfl hfo ws.length 0 y (Nat.zero_le _) (by dsimp only; omega) hR
  have hlenr := rowsM_len ⟨ws, [], max h 0, al, left, right, Aw, none, cw, 0⟩ y (by dsimp only; omega) hfo
  rw [show rowsF ⟨ws, [], max h 0, al, left, right, Aw, none, cw, 0⟩ ws.length y 0 = rowsM ⟨ws, [], max h 0, al, left, right, Aw, none, cw, 0⟩ y from rfl] at hspec
  obtain ⟨rs, hrs⟩ : ∃ rs, rowsM ⟨ws, [], max h 0, al, left, right, Aw, none, cw, 0⟩ y = rs := ⟨_, rfl⟩
  obtain ⟨rs, end_⟩ := rs
  have hfill := fun w1 h1 => fill_any ws [] h al left right y Aw none cw 0 rs end_ hrs w1 hR (by omega) (by simp) hfo h1 Rd.nil
  rw [hrs] at hspec hlenr
  clear hrs
  dsimp only at hspec hlenr
  rw [List.drop_zero] at hspec
  obtain ⟨s1, s2, s3⟩ := hspec
  rw [show decide (0 = 0) = true from rfl] at s1
  refine go_ _ ?_
  refine so_callN (hj := fun i => so_yield.catH_of _ _) (fun w1 h1 => hfill w1 (HA _ w1 h1)) rfl rfl rfl (tF rfl) (Nat.le_of_ble_eq_true rfl) ?_
  clear hfill
  rintro ⟨A, cap, zs⟩ hz
  dsimp only at hz ⊢
  refine so_sub .refl (L := own A zs.length cap 33 4 (zs.flatMap Rz.row) :: row q1 25 [.slice Aw ws.length cw, .int .i64 h, .int .u8 al, .int .i64 left, .int .i64 right, .int .i64 y, .slice Al l.length cl] :: []) (by simp only [List.cons_append]; exact .cons .here (subH_app _ _)) ?_
  refine go_ _ ?_
  refine s_loop (ι := Nat) (fun i => [(1, .pointer (some ⟨q1, 0, none⟩)), (3, .slice A zs.length cap), (4, .int .i64 end_), (5, .int .i64 (wantF true (ws.take i))), (6, .int .i64 (startF true (ws.take i) : Nat)), (7, .int .i64 (i : Nat))])
    (fun _ => own A zs.length cap 33 4 (zs.flatMap Rz.row) :: row q1 25 [.slice Aw ws.length cw, .int .i64 h, .int .u8 al, .int .i64 left, .int .i64 right, .int .i64 y, .slice Al l.length cl] :: [])
    (fun i => i ≤ ws.length) (fun i => ws.length - i) 0 (by repeat (first | exact Sub.nil | refine Sub.cons rfl ?_ | (refine Sub.consB rfl (by (first | rfl | exact decide_eq_decide.2 (by omega) | exact (decide_eq_true (by omega)).symm | exact (decide_eq_false (by omega)).symm | exact decide_eq_true (by omega) | exact decide_eq_false (by omega))) ?_))) .refl (Nat.zero_le _) ?_
  intro i hi
  by_cases hlt : i < ws.length
  · obtain ⟨b1, o1, rfl, hr0⟩ := RdH.at (HA []) (Mem.start w) i hlt
    have hr : Rw w.heap.size w (own A zs.length cap 33 4 (zs.flatMap Rz.row) :: row q1 25 [.slice (some ⟨b1, o1, none⟩) ws.length cw, .int .i64 h, .int .u8 al, .int .i64 left, .int .i64 right, .int .i64 y, .slice Al l.length cl] :: []) b1 (o1 + i * 5) ws[i].cells := Rw.sub hr0 .nil
    have hwa := wantF_app (ws.take i) true ws[i]
    have hsa := startF_app (ws.take i) true ws[i]
    rw [← take_succ_at ws i hlt] at hwa hsa
    have hwb := wantF_b (ws.take i) true (fun x hx => hf20 x (List.mem_of_mem_take hx))
    have hsb := startF_len (ws.take i) true
    have hfv := hf20 _ (List.getElem_mem hlt)
    have hti : (ws.take i).length = i := by simp; omega
    rw [hti] at hwa hsa hwb hsb
    generalize ws[i] = v at *
    obtain ⟨va, vb, vw, vg, vf⟩ := v
    unfold Wg.cells at hr
    dsimp only at hr hwa hsa hfv
    clear hr0
    have hlt0 : 0 < ws.length := by omega
    by_cases h0 : i = 0
    · subst h0
      have hr0' : Rw w.heap.size w (own A zs.length cap 33 4 (zs.flatMap Rz.row) :: row q1 25 [.slice (some ⟨b1, o1, none⟩) ws.length cw, .int .i64 h, .int .u8 al, .int .i64 left, .int .i64 right, .int .i64 y, .slice Al l.length cl] :: []) b1 (o1 + 0 * 5) [.int .i64 va, .int .i64 vb, .int .i64 vw, .int .i64 vg, .int .i64 vf] := hr
      rw [if_pos ⟨rfl, rfl⟩] at hwa
      rw [if_pos (.inl ⟨rfl, rfl⟩)] at hsa
      have e1 : wantF true (ws.take (0 + 1)) = vf := by rw [hwa, List.take_zero]; simp [wantF]
      refine go_ _ ?_
      exact ⟨0 + 1, by omega, by rw [e1, hsa]; exact (by repeat (first | exact Sub.nil | refine Sub.cons rfl ?_ | (refine Sub.consB rfl (by (first | rfl | exact decide_eq_decide.2 (by omega) | exact (decide_eq_true (by omega)).symm | exact (decide_eq_false (by omega)).symm | exact decide_eq_true (by omega) | exact decide_eq_false (by omega))) ?_))), .refl, by omega⟩
    · rw [if_neg (fun hh => h0 hh.1)] at hwa
      by_cases hv : 0 < vf
      · rw [if_pos (.inr hv)] at hsa
        refine go_ _ ?_
        exact ⟨i + 1, by omega, by rw [hwa, hsa]; exact (by repeat (first | exact Sub.nil | refine Sub.cons rfl ?_ | (refine Sub.consB rfl (by (first | rfl | exact decide_eq_decide.2 (by omega) | exact (decide_eq_true (by omega)).symm | exact (decide_eq_false (by omega)).symm | exact decide_eq_true (by omega) | exact decide_eq_false (by omega))) ?_))), .refl, by omega⟩
      · rw [if_neg (by rintro (hh | hh); exact h0 hh.1; exact hv hh)] at hsa
        refine go_ _ ?_
        exact ⟨i + 1, by omega, by rw [hwa, hsa]; exact (by repeat (first | exact Sub.nil | refine Sub.cons rfl ?_ | (refine Sub.consB rfl (by (first | rfl | exact decide_eq_decide.2 (by omega) | exact (decide_eq_true (by omega)).symm | exact (decide_eq_false (by omega)).symm | exact decide_eq_true (by omega) | exact decide_eq_false (by omega))) ?_))), .refl, by omega⟩
  · obtain rfl : i = ws.length := by omega
    rw [List.take_length]
    have hwb := wantF_b ws true hf20
    have hsb := startF_len ws true
    have hzl : zs.length = rs.length := by rw [hz]; simp
    have hgl := gotR_len rs
    refine go_ _ ?_
    refine s_loop (ι := Nat) (fun i => [(1, .pointer (some ⟨q1, 0, none⟩)), (3, .slice A zs.length cap), (4, .int .i64 end_), (5, .int .i64 (wantF true ws)), (6, .int .i64 (startF true ws : Nat)), (8, .int .i64 (gotR (rs.take i) : Nat)), (9, .int .i64 (i : Nat))])
      (fun _ => own A zs.length cap 33 4 (zs.flatMap Rz.row) :: row q1 25 [.slice Aw ws.length cw, .int .i64 h, .int .u8 al, .int .i64 left, .int .i64 right, .int .i64 y, .slice Al l.length cl] :: []) (fun i => i ≤ zs.length) (fun i => zs.length - i) 0 (by repeat (first | exact Sub.nil | refine Sub.cons rfl ?_ | (refine Sub.consB rfl (by (first | rfl | exact decide_eq_decide.2 (by omega) | exact (decide_eq_true (by omega)).symm | exact (decide_eq_false (by omega)).symm | exact decide_eq_true (by omega) | exact decide_eq_false (by omega))) ?_))) .refl (Nat.zero_le _) ?_
    intro i hi2
    by_cases hil : i < zs.length
    · refine s_ownSome .here (by omega) fun g e => ?_
      subst e
      have hr : Rw w.heap.size w (own (some ⟨g, 0, none⟩) zs.length cap 33 4 (zs.flatMap Rz.row) :: row q1 25 [.slice Aw ws.length cw, .int .i64 h, .int .u8 al, .int .i64 left, .int .i64 right, .int .i64 y, .slice Al l.length cl] :: []) g (0 + i * 4) (Rz.row zs[i]) := own_at (c := Rz.row) (sz := 4) (by decide) (fun _ => rfl) i hil
      have hga := gotR_app (rs.take i) (rs[i]'(by omega))
      rw [← take_succ_at rs i (by omega)] at hga
      have hgi := gotR_len (rs.take i)
      rw [List.length_take] at hgi
      have hzi : (zs[i]).1 = rs[i]'(by omega) := by simp only [hz, List.getElem_map]
      rw [← hzi] at hga
      generalize zs[i] = z at *
      obtain ⟨⟨zy, za, zb, zx⟩, zA, zc⟩ := z
      unfold Rz.row at hr
      dsimp only at hr hga
      by_cases hx0 : zx.length = 0
      · rw [if_pos hx0] at hga
        refine go_ _ ?_
        exact ⟨i + 1, by omega, by rw [hga]; exact (by repeat (first | exact Sub.nil | refine Sub.cons rfl ?_ | (refine Sub.consB rfl (by (first | rfl | exact decide_eq_decide.2 (by omega) | exact (decide_eq_true (by omega)).symm | exact (decide_eq_false (by omega)).symm | exact decide_eq_true (by omega) | exact decide_eq_false (by omega))) ?_))), .refl, by omega⟩
      · rw [if_neg hx0] at hga
        refine go_ _ ?_
        exact ⟨i + 1, by omega, by rw [hga]; exact (by repeat (first | exact Sub.nil | refine Sub.cons rfl ?_ | (refine Sub.consB rfl (by (first | rfl | exact decide_eq_decide.2 (by omega) | exact (decide_eq_true (by omega)).symm | exact (decide_eq_false (by omega)).symm | exact decide_eq_true (by omega) | exact decide_eq_false (by omega))) ?_))), .refl, by omega⟩
    · obtain rfl : i = zs.length := by omega
      have ht : rs.take zs.length = rs := List.take_of_length_le (by omega)
      rw [ht]
      have hend : end_ = wrap64 (y + wrap64 ((zs.length : Int) * max h 0)) := by
        rw [s3, hzl]; unfold wrap64; omega
      rw [hend]
      clear hend s3 hz ht
      generalize gotR rs = got at *
      generalize wantF true ws = want at *
      generalize startF true ws = st at *
      refine go_ _ ?_
      refine so_callQ (fun w1 _ => works_any w1) rfl (by (first | (with_reducible rfl) | assumption | exact decide_eq_true (by omega) | (simp only [Bool.not_eq_true', Bool.not_eq_false', decide_eq_false_iff_not, decide_eq_true_eq] <;> first | assumption | omega) | decide)) rfl (tF rfl) (Nat.le_of_ble_eq_true rfl) ?_
      refine go_ _ ?_
      exact sret1 rfl rfl rfl
end Go.Proofs.Ytepkhfebflmieaa
