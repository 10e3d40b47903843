/- The walks of package widths that other chapters need. -/
import Derived.Test.YtdoihebekbfnbaaWidM
namespace Go.Proofs.Ytdoihebekbfnbaa
open Go.RowKit

set_option maxRecDepth 100000 in
set_option maxHeartbeats 1000000 in
theorem resolve_any (l : Ln) (c : Int) (w : World) (hl : LnB l c) :
    Calls Try.prog 34 #[.agg l.cells.toArray, .int .i64 c] w fun e w' => e = .returned (.tuple #[.int .i64 (resM l c).1, .bool (resM l c).2]) ∧ Below w.heap.size w w' := by
  refine s_quiet [(0, .agg l.cells.toArray), (1, .int .i64 c)] Try.func34 rfl Try.ntmps34 rfl (by simp) ?_
  obtain ⟨k, n⟩ := l
  unfold Ln.cells
  dsimp only
  refine go_ _ ?_
  (first | ((with_reducible apply so_new); rfl; (first | (with_reducible rfl) | assumption | exact decide_eq_true (by omega) | (simp only [Bool.not_eq_true', Bool.not_eq_false', decide_eq_false_iff_not, decide_eq_true_eq] <;> first | assumption | omega) | decide); exact tZ rfl; (first | exact Nat.le_of_ble_eq_true rfl | decide); (intro; rfl); (first | (with_reducible rfl) | assumption | exact decide_eq_true (by omega) | (simp only [Bool.not_eq_true', Bool.not_eq_false', decide_eq_false_iff_not, decide_eq_true_eq] <;> first | assumption | omega) | decide); (intro; rfl); rfl; exact tS rfl; rfl; rfl) | ((with_reducible apply so_alloc); rfl; (first | (with_reducible rfl) | assumption | exact decide_eq_true (by omega) | (simp only [Bool.not_eq_true', Bool.not_eq_false', decide_eq_false_iff_not, decide_eq_true_eq] <;> first | assumption | omega) | decide); exact tZ rfl; (focus ((repeat (first | (with_reducible exact CopyL.agg) | exact CopyL.nil | (apply CopyL.consI; rfl) | (apply CopyL.consB; rfl) | (apply CopyL.consS; rfl) | (apply CopyL.consP; rfl) | (apply CopyL.consF; rfl) | apply CopyL.cons)); done)); (first | exact Nat.le_of_ble_eq_true rfl | decide)) | ((with_reducible apply so_box); rfl; (first | (with_reducible rfl) | assumption | exact decide_eq_true (by omega) | (simp only [Bool.not_eq_true', Bool.not_eq_false', decide_eq_false_iff_not, decide_eq_true_eq] <;> first | assumption | omega) | decide); rfl; (focus ((repeat (first | (with_reducible exact CopyL.agg) | exact CopyL.nil | (apply CopyL.consI; rfl) | (apply CopyL.consB; rfl) | (apply CopyL.consS; rfl) | (apply CopyL.consP; rfl) | (apply CopyL.consF; rfl) | apply CopyL.cons)); done)); (first | exact Nat.le_of_ble_eq_true rfl | decide)))
  intro q
  refine go_ _ ?_
  by_cases h2 : k = 2
  · have hp := hl.part h2
    dsimp only at hp
    have er : resM ⟨k, n⟩ c = (n * max c 0 / 10000, true) := by unfold resM; rw [if_pos h2]
    rw [er]
    have em : wrap64 (n * max c 0) = n * max c 0 := wrap64_within _ (by omega)
    obtain ⟨f1, f2⟩ := part_floor (n * max c 0) hp
    refine go_ _ ?_
    try rw [em]
    generalize n * max c 0 = m at *
    have hd : -110000000000000000 ≤ m / 10000 ∧ m / 10000 ≤ 110000000000000000 := by omega
    have ew : wrap64 (m / 10000) = m / 10000 := wrap64_within _ (by omega)
    by_cases hn : m.tmod 10000 < 0
    · have := f1 hn
      refine go_ _ ?_
      exact sret2 rfl rfl rfl (by rw [this, ew])
    · have := f2 hn
      refine go_ _ ?_
      exact sret2 rfl rfl rfl (by rw [this, ew])
  · by_cases h1 : k = 1
    · have er : resM ⟨k, n⟩ c = (n, true) := by unfold resM; rw [if_neg h2, if_pos h1]
      rw [er]
      refine go_ _ ?_
      exact sret2 rfl rfl rfl rfl
    · have er : resM ⟨k, n⟩ c = (0, false) := by unfold resM; rw [if_neg h2, if_neg h1]
      rw [er]
      refine go_ _ ?_
      exact sret2 rfl rfl rfl rfl

set_option maxRecDepth 100000 in
set_option maxHeartbeats 1000000 in
theorem side_any (s : Sty) (k : Nat) (hk : k < 4) (b : Nat) (w : World) (hb : b < w.heap.size) (hr : Row w b 0 s.cells) (x y : Int) (hx : [s.b0, s.b1, s.b2, s.b3][k]? = some x) (hy : [s.p0, s.p1, s.p2, s.p3][k]? = some y) (hxb : InB x) (hyb : InB y) :
    Calls Try.prog 39 #[.int .i64 (k : Nat), .pointer (some ⟨b, 0, none⟩)] w fun e w' => e = .returned (.int .i64 (x + y)) ∧ Below w.heap.size w w' := by
  refine s_quiet [(0, .int .i64 (k : Nat)), (1, .pointer (some ⟨b, 0, none⟩))] Try.func39 rfl Try.ntmps39 rfl (by simp) ?_
  have h1 : Cl w.heap.size w [] b (0 + 24 + k * 1) (.int .i64 x) := fun w1 h1 => by
    have := (hr.below h1.below hb) (24 + k) (.int .i64 x) (by
      have : (s.cells.drop 24)[k]? = ([s.b0, s.b1, s.b2, s.b3].map (Value.int .i64))[k]? := by
        match k, hk with
        | 0, _ => rfl
        | 1, _ => rfl
        | 2, _ => rfl
        | 3, _ => rfl
      rw [List.getElem?_drop, List.getElem?_map, hx] at this; exact this)
    rw [← this]; congr 2; omega
  have h2 : Cl w.heap.size w [] b (0 + 28 + k * 1) (.int .i64 y) := fun w1 h1 => by
    have := (hr.below h1.below hb) (28 + k) (.int .i64 y) (by
      have : (s.cells.drop 28)[k]? = ([s.p0, s.p1, s.p2, s.p3].map (Value.int .i64))[k]? := by
        match k, hk with
        | 0, _ => rfl
        | 1, _ => rfl
        | 2, _ => rfl
        | 3, _ => rfl
      rw [List.getElem?_drop, List.getElem?_map, hy] at this; exact this)
    rw [← this]; congr 2; omega
  unfold InB at hxb hyb
  refine go_ _ ?_
  refine s_parts (by kernel_rfl) ?_
  refine sg_free 10 (by kernel_rfl) (go_ _ ?_)
  exact sret1 rfl rfl rfl

set_option maxRecDepth 100000 in
set_option maxHeartbeats 1000000 in
theorem frame_any (s : Sty) (c : Int) (w : World) (hs : StB s c) :
    Calls Try.prog 33 #[.agg s.cells.toArray] w fun e w' => e = .returned (.tuple #[.int .i64 s.frame, .int .i64 (s.b0 + s.p0 + (s.b2 + s.p2))]) ∧ Below w.heap.size w w' := by
  refine s_quiet [(0, .agg s.cells.toArray)] Try.func33 rfl Try.ntmps33 rfl (by simp) ?_
  have row_ : ∀ q T w1, Mem w.heap.size w (row q 28 s.cells :: T) w1 → q < w1.heap.size ∧ Row w1 q 0 s.cells := fun q T w1 h1 => ⟨(row q _ _).lt rfl (h1.ok _ (List.mem_cons_self ..)).1, rw_here w1 h1⟩
  have b0 := hs.b0; have b1 := hs.b1; have b2 := hs.b2; have b3 := hs.b3; have p0 := hs.p0; have p1 := hs.p1; have p2 := hs.p2; have p3 := hs.p3
  unfold Sty.frame
  refine go_ _ ?_
  (first | ((with_reducible apply so_new); rfl; (first | (with_reducible rfl) | assumption | exact decide_eq_true (by omega) | (simp only [Bool.not_eq_true', Bool.not_eq_false', decide_eq_false_iff_not, decide_eq_true_eq] <;> first | assumption | omega) | decide); exact tZ rfl; (first | exact Nat.le_of_ble_eq_true rfl | decide); (intro; rfl); (first | (with_reducible rfl) | assumption | exact decide_eq_true (by omega) | (simp only [Bool.not_eq_true', Bool.not_eq_false', decide_eq_false_iff_not, decide_eq_true_eq] <;> first | assumption | omega) | decide); (intro; rfl); rfl; exact tS rfl; rfl; rfl) | ((with_reducible apply so_alloc); rfl; (first | (with_reducible rfl) | assumption | exact decide_eq_true (by omega) | (simp only [Bool.not_eq_true', Bool.not_eq_false', decide_eq_false_iff_not, decide_eq_true_eq] <;> first | assumption | omega) | decide); exact tZ rfl; (focus ((repeat (first | (with_reducible exact CopyL.agg) | exact CopyL.nil | (apply CopyL.consI; rfl) | (apply CopyL.consB; rfl) | (apply CopyL.consS; rfl) | (apply CopyL.consP; rfl) | (apply CopyL.consF; rfl) | apply CopyL.cons)); done)); (first | exact Nat.le_of_ble_eq_true rfl | decide)) | ((with_reducible apply so_box); rfl; (first | (with_reducible rfl) | assumption | exact decide_eq_true (by omega) | (simp only [Bool.not_eq_true', Bool.not_eq_false', decide_eq_false_iff_not, decide_eq_true_eq] <;> first | assumption | omega) | decide); rfl; (focus ((repeat (first | (with_reducible exact CopyL.agg) | exact CopyL.nil | (apply CopyL.consI; rfl) | (apply CopyL.consB; rfl) | (apply CopyL.consS; rfl) | (apply CopyL.consP; rfl) | (apply CopyL.consF; rfl) | apply CopyL.cons)); done)); (first | exact Nat.le_of_ble_eq_true rfl | decide)))
  intro q
  refine go_ _ ?_
  refine so_callF (vs := [.int .i64 3]) (us := [.pointer (some ⟨q, 0, none⟩)]) rfl (fun w1 h1 => side_any s 3 (by decide) q w1 (row_ q _ w1 h1).1 (row_ q _ w1 h1).2 s.b3 s.p3 rfl rfl b3 p3) rfl rfl rfl (tF rfl) (Nat.le_of_ble_eq_true rfl) ?_
  refine go_ _ ?_
  refine so_callF (vs := [.int .i64 1]) (us := [.pointer (some ⟨q, 0, none⟩)]) rfl (fun w1 h1 => side_any s 1 (by decide) q w1 (row_ q _ w1 h1).1 (row_ q _ w1 h1).2 s.b1 s.p1 rfl rfl b1 p1) rfl rfl rfl (tF rfl) (Nat.le_of_ble_eq_true rfl) ?_
  unfold InB at *
  refine go_ _ ?_
  refine so_callF (vs := [.int .i64 0]) (us := [.pointer (some ⟨q, 0, none⟩)]) rfl (fun w1 h1 => side_any s 0 (by decide) q w1 (row_ q _ w1 h1).1 (row_ q _ w1 h1).2 s.b0 s.p0 rfl rfl b0 p0) rfl rfl rfl (tF rfl) (Nat.le_of_ble_eq_true rfl) ?_
  refine go_ _ ?_
  refine so_callF (vs := [.int .i64 2]) (us := [.pointer (some ⟨q, 0, none⟩)]) rfl (fun w1 h1 => side_any s 2 (by decide) q w1 (row_ q _ w1 h1).1 (row_ q _ w1 h1).2 s.b2 s.p2 rfl rfl b2 p2) rfl rfl rfl (tF rfl) (Nat.le_of_ble_eq_true rfl) ?_
  refine go_ _ ?_
  exact sret2 rfl rfl rfl rfl

set_option maxRecDepth 100000 in
theorem aucut_any (x : Int) (w : World) : Calls Try.prog 24 #[.int .i64 x] w fun e w' => e = .returned (.tuple #[.int .i64 (cutM x), .bool (!decide (x = cutM x))]) ∧ Below w.heap.size w w' := by
  refine s_quiet [(0, .int .i64 x)] Try.func24 rfl Try.ntmps24 rfl (by simp) ?_
  refine go_ _ ?_
  exact sret2 rfl rfl rfl rfl

theorem StB.frame_in {s : Sty} {c : Int} (h : StB s c) : -44000000000000 ≤ s.frame ∧ s.frame ≤ 44000000000000 := by
  have b1 := h.b1; have b3 := h.b3; have p1 := h.p1; have p3 := h.p3
  unfold InB at *; unfold Sty.frame; omega
end Go.Proofs.Ytdoihebekbfnbaa
