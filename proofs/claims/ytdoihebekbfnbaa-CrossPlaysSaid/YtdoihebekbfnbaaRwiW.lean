/- The walks of the document's widths (jambref13). -/
import Derived.Test.YtdoihebekbfnbaaWinW
import Derived.Test.YtdoihebekbfnbaaMor
namespace Go.Proofs.Ytdoihebekbfnbaa
open Go.RowKit

theorem floor_td (a b : Int) (hb : 0 < b) : (a.tmod b < 0 → a.tdiv b - 1 = a / b) ∧ (¬ a.tmod b < 0 → a.tdiv b = a / b) := by
  rw [Int.tdiv_eq_ediv, Int.tmod_eq_emod]
  have h1 := Int.emod_nonneg a (show b ≠ 0 by omega)
  have h2 := Int.emod_lt_of_pos a hb
  have hs : b.sign = 1 := Int.sign_eq_one_of_pos hb
  have hn : (b.natAbs : Int) = b := by omega
  by_cases h : 0 ≤ a ∨ b ∣ a
  · rw [if_pos h, if_pos h]
    constructor
    · intro h3; omega
    · intro _; omega
  · rw [if_neg h, if_neg h, hs, hn]
    constructor
    · intro _; omega
    · intro h3; omega

set_option maxRecDepth 100000 in
theorem rfloor_any (a : Int) (ha : -1000000000000000000 ≤ a ∧ a ≤ 1000000000000000000) (w : World) : Calls Try.prog 38 #[.int .i64 a, .int .i64 10000] w fun e w' => e = .returned (.int .i64 (a / 10000)) ∧ Below w.heap.size w w' := by
  refine s_quiet [(0, .int .i64 a), (1, .int .i64 10000)] Try.func38 rfl Try.ntmps38 rfl (by simp) ?_
  obtain ⟨f1, f2⟩ := floor_td a 10000 (by decide)
  have hw : wrap64 (a.tdiv 10000) = a.tdiv 10000 := by
    by_cases h : a.tmod 10000 < 0
    · have := f1 h; exact wrap64_within _ (by omega)
    · have := f2 h; exact wrap64_within _ (by omega)
  by_cases h : a.tmod 10000 < 0
  · have e := f1 h
    rw [← e]
    have hb : -9223372036854775808 ≤ wrap64 (a.tdiv 10000) - 1 ∧ wrap64 (a.tdiv 10000) - 1 ≤ 9223372036854775807 := by rw [hw]; omega
    clear f1 f2 e ha
    refine go_ _ ?_
    exact sret1 rfl rfl (by rw [hw])
  · have e := f2 h
    rw [← e]
    clear f1 f2 e ha
    refine go_ _ ?_
    exact sret1 rfl rfl (by rw [hw])

set_option maxRecDepth 100000 in
set_option maxHeartbeats 1000000 in
theorem rresolve_any (l : Ln) (c : Int) (w : World) (hl : LnB l c) :
    Calls Try.prog 31 #[.agg l.cells.toArray, .int .i64 c] w fun e w' => e = .returned (.tuple #[.int .i64 (resM l c).1, .bool (resM l c).2]) ∧ Below w.heap.size w w' := by
  refine s_quiet [(0, .agg l.cells.toArray), (1, .int .i64 c)] Try.func31 rfl Try.ntmps31 rfl (by simp) ?_
  obtain ⟨k, n⟩ := l
  unfold Ln.cells
  dsimp only
  refine go_ _ ?_
  (first | ((with_reducible apply so_new); rfl; (first | (with_reducible rfl) | assumption | exact decide_eq_true (by omega) | (simp only [Bool.not_eq_true', Bool.not_eq_false', decide_eq_false_iff_not, decide_eq_true_eq] <;> first | assumption | omega) | decide); exact tZ rfl; (first | exact Nat.le_of_ble_eq_true rfl | decide); (intro; rfl); (first | (with_reducible rfl) | assumption | exact decide_eq_true (by omega) | (simp only [Bool.not_eq_true', Bool.not_eq_false', decide_eq_false_iff_not, decide_eq_true_eq] <;> first | assumption | omega) | decide); (intro; rfl); rfl; exact tS rfl; rfl; rfl) | ((with_reducible apply so_alloc); rfl; (first | (with_reducible rfl) | assumption | exact decide_eq_true (by omega) | (simp only [Bool.not_eq_true', Bool.not_eq_false', decide_eq_false_iff_not, decide_eq_true_eq] <;> first | assumption | omega) | decide); exact tZ rfl; (focus ((repeat (first | (with_reducible exact CopyL.agg) | exact CopyL.nil | (apply CopyL.consI; rfl) | (apply CopyL.consB; rfl) | (apply CopyL.consS; rfl) | (apply CopyL.consP; rfl) | (apply CopyL.consF; rfl) | apply CopyL.cons)); done)); (first | exact Nat.le_of_ble_eq_true rfl | decide)) | ((with_reducible apply so_box); rfl; (first | (with_reducible rfl) | assumption | exact decide_eq_true (by omega) | (simp only [Bool.not_eq_true', Bool.not_eq_false', decide_eq_false_iff_not, decide_eq_true_eq] <;> first | assumption | omega) | decide); rfl; (focus ((repeat (first | (with_reducible exact CopyL.agg) | exact CopyL.nil | (apply CopyL.consI; rfl) | (apply CopyL.consB; rfl) | (apply CopyL.consS; rfl) | (apply CopyL.consP; rfl) | (apply CopyL.consF; rfl) | apply CopyL.cons)); done)); (first | exact Nat.le_of_ble_eq_true rfl | decide)))
  intro q
  refine go_ _ ?_
  by_cases h1 : k = 1
  · have er : resM ⟨k, n⟩ c = (n, true) := by unfold resM; rw [if_neg (by dsimp only; omega), if_pos h1]
    rw [er]
    refine go_ _ ?_
    exact sret2 rfl rfl rfl rfl
  by_cases h2 : k = 2
  · have hp := hl.part h2
    dsimp only at hp
    have er : resM ⟨k, n⟩ c = (n * max c 0 / 10000, true) := by unfold resM; rw [if_pos h2]
    rw [er, Int.mul_comm]
    rw [Int.mul_comm] at hp
    refine go_ _ ?_
    refine so_callQ (fun w1 _ => rfloor_any (max c 0 * n) (by omega) w1) rfl rfl rfl (tF rfl) (Nat.le_of_ble_eq_true rfl) ?_
    refine go_ _ ?_
    exact sret2 rfl rfl rfl rfl
  · have er : resM ⟨k, n⟩ c = (0, false) := by unfold resM; rw [if_neg h2, if_neg h1]
    rw [er]
    refine go_ _ ?_
    exact sret2 rfl rfl rfl rfl

set_option maxRecDepth 100000 in
set_option maxHeartbeats 1000000 in
theorem rframe_any (s : Sty) (c : Int) (w : World) (hs : StB s c) :
    Calls Try.prog 27 #[.agg s.cells.toArray] w fun e w' => e = .returned (.tuple #[.int .i64 s.frame, .int .i64 (s.b0 + s.p0 + (s.b2 + s.p2))]) ∧ Below w.heap.size w w' := by
  refine s_quiet [(0, .agg s.cells.toArray)] Try.func27 rfl Try.ntmps27 rfl (by simp) ?_
  have b0 := hs.b0; have b1 := hs.b1; have b2 := hs.b2; have b3 := hs.b3; have p0 := hs.p0; have p1 := hs.p1; have p2 := hs.p2; have p3 := hs.p3
  unfold InB at *
  have e1 : s.frame = s.b3 + s.p3 + s.b1 + s.p1 := by unfold Sty.frame; omega
  have e2 : s.b0 + s.p0 + (s.b2 + s.p2) = s.b0 + s.p0 + s.b2 + s.p2 := by omega
  rw [e1, e2]
  refine go_ _ ?_
  (first | ((with_reducible apply so_new); rfl; (first | (with_reducible rfl) | assumption | exact decide_eq_true (by omega) | (simp only [Bool.not_eq_true', Bool.not_eq_false', decide_eq_false_iff_not, decide_eq_true_eq] <;> first | assumption | omega) | decide); exact tZ rfl; (first | exact Nat.le_of_ble_eq_true rfl | decide); (intro; rfl); (first | (with_reducible rfl) | assumption | exact decide_eq_true (by omega) | (simp only [Bool.not_eq_true', Bool.not_eq_false', decide_eq_false_iff_not, decide_eq_true_eq] <;> first | assumption | omega) | decide); (intro; rfl); rfl; exact tS rfl; rfl; rfl) | ((with_reducible apply so_alloc); rfl; (first | (with_reducible rfl) | assumption | exact decide_eq_true (by omega) | (simp only [Bool.not_eq_true', Bool.not_eq_false', decide_eq_false_iff_not, decide_eq_true_eq] <;> first | assumption | omega) | decide); exact tZ rfl; (focus ((repeat (first | (with_reducible exact CopyL.agg) | exact CopyL.nil | (apply CopyL.consI; rfl) | (apply CopyL.consB; rfl) | (apply CopyL.consS; rfl) | (apply CopyL.consP; rfl) | (apply CopyL.consF; rfl) | apply CopyL.cons)); done)); (first | exact Nat.le_of_ble_eq_true rfl | decide)) | ((with_reducible apply so_box); rfl; (first | (with_reducible rfl) | assumption | exact decide_eq_true (by omega) | (simp only [Bool.not_eq_true', Bool.not_eq_false', decide_eq_false_iff_not, decide_eq_true_eq] <;> first | assumption | omega) | decide); rfl; (focus ((repeat (first | (with_reducible exact CopyL.agg) | exact CopyL.nil | (apply CopyL.consI; rfl) | (apply CopyL.consB; rfl) | (apply CopyL.consS; rfl) | (apply CopyL.consP; rfl) | (apply CopyL.consF; rfl) | apply CopyL.cons)); done)); (first | exact Nat.le_of_ble_eq_true rfl | decide)))
  intro q
  refine go_ _ ?_
  refine s_parts (by kernel_rfl) ?_
  refine sg_free 32 (by kernel_rfl) (go_ _ ?_)
  exact sret2 rfl rfl rfl rfl

set_option maxRecDepth 100000 in
theorem rcut_any (x : Int) (w : World) : Calls Try.prog 29 #[.int .i64 x] w fun e w' => e = .returned (.tuple #[.int .i64 (cutM x), .bool (!decide (x = cutM x))]) ∧ Below w.heap.size w w' := by
  refine s_quiet [(0, .int .i64 x)] Try.func29 rfl Try.ntmps29 rfl (by simp) ?_
  unfold cutM
  by_cases h1 : 1099511627776 < x
  · skip
    refine go_ _ ?_
    exact sret2 rfl rfl rfl (by rw [show max (-1099511627776) (min x 1099511627776) = 1099511627776 by omega]; simp; omega)
  by_cases h2 : x < -1099511627776
  · skip
    refine go_ _ ?_
    exact sret2 rfl rfl rfl (by rw [show max (-1099511627776) (min x 1099511627776) = -1099511627776 by omega]; simp; omega)
  · skip
    refine go_ _ ?_
    exact sret2 rfl rfl rfl (by rw [show max (-1099511627776) (min x 1099511627776) = x by omega]; simp)

set_option maxRecDepth 100000 in
set_option maxHeartbeats 1000000 in
theorem rclamp_any (s : Sty) (c x : Int) (w : World) (hs : StB s c) :
    Calls Try.prog 32 #[.agg s.cells.toArray, .int .i64 c, .int .i64 x] w fun e w' => e = .returned (.int .i64 (clampM s c x)) ∧ Below w.heap.size w w' := by
  refine s_quiet [(0, .agg s.cells.toArray), (1, .int .i64 c), (2, .int .i64 x)] Try.func32 rfl Try.ntmps32 rfl (by simp) ?_
  have c1 := fun w1 => rresolve_any s.maxw c w1 hs.maxw
  have c2 := fun w1 => rresolve_any s.minw c w1 hs.minw
  unfold clampM
  generalize resM s.maxw c = r1 at *
  generalize resM s.minw c = r2 at *
  obtain ⟨n1, f1⟩ := r1
  obtain ⟨n2, f2⟩ := r2
  dsimp only at c1 c2 ⊢
  refine go_ _ ?_
  (first | ((with_reducible apply so_new); rfl; (first | (with_reducible rfl) | assumption | exact decide_eq_true (by omega) | (simp only [Bool.not_eq_true', Bool.not_eq_false', decide_eq_false_iff_not, decide_eq_true_eq] <;> first | assumption | omega) | decide); exact tZ rfl; (first | exact Nat.le_of_ble_eq_true rfl | decide); (intro; rfl); (first | (with_reducible rfl) | assumption | exact decide_eq_true (by omega) | (simp only [Bool.not_eq_true', Bool.not_eq_false', decide_eq_false_iff_not, decide_eq_true_eq] <;> first | assumption | omega) | decide); (intro; rfl); rfl; exact tS rfl; rfl; rfl) | ((with_reducible apply so_alloc); rfl; (first | (with_reducible rfl) | assumption | exact decide_eq_true (by omega) | (simp only [Bool.not_eq_true', Bool.not_eq_false', decide_eq_false_iff_not, decide_eq_true_eq] <;> first | assumption | omega) | decide); exact tZ rfl; (focus ((repeat (first | (with_reducible exact CopyL.agg) | exact CopyL.nil | (apply CopyL.consI; rfl) | (apply CopyL.consB; rfl) | (apply CopyL.consS; rfl) | (apply CopyL.consP; rfl) | (apply CopyL.consF; rfl) | apply CopyL.cons)); done)); (first | exact Nat.le_of_ble_eq_true rfl | decide)) | ((with_reducible apply so_box); rfl; (first | (with_reducible rfl) | assumption | exact decide_eq_true (by omega) | (simp only [Bool.not_eq_true', Bool.not_eq_false', decide_eq_false_iff_not, decide_eq_true_eq] <;> first | assumption | omega) | decide); rfl; (focus ((repeat (first | (with_reducible exact CopyL.agg) | exact CopyL.nil | (apply CopyL.consI; rfl) | (apply CopyL.consB; rfl) | (apply CopyL.consS; rfl) | (apply CopyL.consP; rfl) | (apply CopyL.consF; rfl) | apply CopyL.cons)); done)); (first | exact Nat.le_of_ble_eq_true rfl | decide)))
  intro q
  refine go_ _ ?_
  refine so_callQ (fun w1 _ => c1 w1) rfl rfl rfl (tF rfl) (Nat.le_of_ble_eq_true rfl) (go_ _ ?_)
  have fin : ∀ (y z : Int), y = (if f1 = true then min x n1 else x) → z = (if f2 = true then max y n2 else y) → Value.int .i64 (max z 0) = .int .i64 (max (if f2 = true then max (if f1 = true then min x n1 else x) n2 else if f1 = true then min x n1 else x) 0) := fun y z h1 h2 => by rw [h2, h1]
  cases f1
  · skip
    refine go_ _ ?_
    refine so_callQ (fun w1 _ => c2 w1) rfl rfl rfl (tF rfl) (Nat.le_of_ble_eq_true rfl) (go_ _ ?_)
    cases f2
    · skip
      refine go_ _ ?_
      exact sret1 rfl rfl (fin x x rfl rfl)
    · by_cases h : x < n2
      · skip
        refine go_ _ ?_
        exact sret1 rfl rfl (fin x n2 rfl (by rw [if_pos rfl]; omega))
      · skip
        refine go_ _ ?_
        exact sret1 rfl rfl (fin x x rfl (by rw [if_pos rfl]; omega))
  by_cases h1 : n1 < x
  · skip
    refine go_ _ ?_
    refine so_callQ (fun w1 _ => c2 w1) rfl rfl rfl (tF rfl) (Nat.le_of_ble_eq_true rfl) (go_ _ ?_)
    cases f2
    · skip
      refine go_ _ ?_
      exact sret1 rfl rfl (fin n1 n1 (by rw [if_pos rfl]; omega) rfl)
    · by_cases h : n1 < n2
      · skip
        refine go_ _ ?_
        exact sret1 rfl rfl (fin n1 n2 (by rw [if_pos rfl]; omega) (by rw [if_pos rfl]; omega))
      · skip
        refine go_ _ ?_
        exact sret1 rfl rfl (fin n1 n1 (by rw [if_pos rfl]; omega) (by rw [if_pos rfl]; omega))
  · skip
    refine go_ _ ?_
    refine so_callQ (fun w1 _ => c2 w1) rfl rfl rfl (tF rfl) (Nat.le_of_ble_eq_true rfl) (go_ _ ?_)
    cases f2
    · skip
      refine go_ _ ?_
      exact sret1 rfl rfl (fin x x (by rw [if_pos rfl]; omega) rfl)
    · by_cases h : x < n2
      · skip
        refine go_ _ ?_
        exact sret1 rfl rfl (fin x n2 (by rw [if_pos rfl]; omega) (by rw [if_pos rfl]; omega))
      · skip
        refine go_ _ ?_
        exact sret1 rfl rfl (fin x x (by rw [if_pos rfl]; omega) (by rw [if_pos rfl]; omega))
end Go.Proofs.Ytdoihebekbfnbaa
