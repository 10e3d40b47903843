/- The walks of package cross, the small ones. -/
import Derived.Test.YtdoihebekbfnbaaCroM
namespace Go.Proofs.Ytdoihebekbfnbaa
open Go.RowKit

set_option maxRecDepth 100000 in
theorem crpx_any (l : Ln) (none : Int) (w : World) : Calls Try.prog 30 #[.agg l.cells.toArray, .int .i64 none] w fun e w' => e = .returned (.int .i64 (pxM l none)) ∧ Below w.heap.size w w' := by
  refine s_quiet [(0, .agg l.cells.toArray), (1, .int .i64 none)] Try.func30 rfl Try.ntmps30 rfl (by simp) ?_
  obtain ⟨k, n⟩ := l
  unfold Ln.cells
  dsimp only
  refine go_ _ ?_
  (first | ((with_reducible apply so_new); rfl; (first | (with_reducible rfl) | assumption | exact decide_eq_true (by omega) | (simp only [Bool.not_eq_true', Bool.not_eq_false', decide_eq_false_iff_not, decide_eq_true_eq] <;> first | assumption | omega) | decide); exact tZ rfl; (first | exact Nat.le_of_ble_eq_true rfl | decide); (intro; rfl); (first | (with_reducible rfl) | assumption | exact decide_eq_true (by omega) | (simp only [Bool.not_eq_true', Bool.not_eq_false', decide_eq_false_iff_not, decide_eq_true_eq] <;> first | assumption | omega) | decide); (intro; rfl); rfl; exact tS rfl; rfl; rfl) | ((with_reducible apply so_alloc); rfl; (first | (with_reducible rfl) | assumption | exact decide_eq_true (by omega) | (simp only [Bool.not_eq_true', Bool.not_eq_false', decide_eq_false_iff_not, decide_eq_true_eq] <;> first | assumption | omega) | decide); exact tZ rfl; (focus ((repeat (first | (with_reducible exact CopyL.agg) | exact CopyL.nil | (apply CopyL.consI; rfl) | (apply CopyL.consB; rfl) | (apply CopyL.consS; rfl) | (apply CopyL.consP; rfl) | (apply CopyL.consF; rfl) | apply CopyL.cons)); done)); (first | exact Nat.le_of_ble_eq_true rfl | decide)) | ((with_reducible apply so_box); rfl; (first | (with_reducible rfl) | assumption | exact decide_eq_true (by omega) | (simp only [Bool.not_eq_true', Bool.not_eq_false', decide_eq_false_iff_not, decide_eq_true_eq] <;> first | assumption | omega) | decide); rfl; (focus ((repeat (first | (with_reducible exact CopyL.agg) | exact CopyL.nil | (apply CopyL.consI; rfl) | (apply CopyL.consB; rfl) | (apply CopyL.consS; rfl) | (apply CopyL.consP; rfl) | (apply CopyL.consF; rfl) | apply CopyL.cons)); done)); (first | exact Nat.le_of_ble_eq_true rfl | decide)))
  intro q
  refine go_ _ ?_
  by_cases h : k = 1
  · skip
    refine go_ _ ?_
    exact sret1 rfl rfl (by simp [pxM, h])
  · skip
    refine go_ _ ?_
    exact sret1 rfl rfl (by simp [pxM, h])

set_option maxRecDepth 100000 in
set_option maxHeartbeats 1000000 in
theorem high_any (s : Sty) (auto : Int) (w : World) : Calls Try.prog 12 #[.agg s.cells.toArray, .int .i64 auto] w fun e w' => e = .returned (.int .i64 (highM s auto)) ∧ Below w.heap.size w w' := by
  refine s_quiet [(0, .agg s.cells.toArray), (1, .int .i64 auto)] Try.func12 rfl Try.ntmps12 rfl (by simp) ?_
  unfold highM
  refine go_ _ ?_
  (first | ((with_reducible apply so_new); rfl; (first | (with_reducible rfl) | assumption | exact decide_eq_true (by omega) | (simp only [Bool.not_eq_true', Bool.not_eq_false', decide_eq_false_iff_not, decide_eq_true_eq] <;> first | assumption | omega) | decide); exact tZ rfl; (first | exact Nat.le_of_ble_eq_true rfl | decide); (intro; rfl); (first | (with_reducible rfl) | assumption | exact decide_eq_true (by omega) | (simp only [Bool.not_eq_true', Bool.not_eq_false', decide_eq_false_iff_not, decide_eq_true_eq] <;> first | assumption | omega) | decide); (intro; rfl); rfl; exact tS rfl; rfl; rfl) | ((with_reducible apply so_alloc); rfl; (first | (with_reducible rfl) | assumption | exact decide_eq_true (by omega) | (simp only [Bool.not_eq_true', Bool.not_eq_false', decide_eq_false_iff_not, decide_eq_true_eq] <;> first | assumption | omega) | decide); exact tZ rfl; (focus ((repeat (first | (with_reducible exact CopyL.agg) | exact CopyL.nil | (apply CopyL.consI; rfl) | (apply CopyL.consB; rfl) | (apply CopyL.consS; rfl) | (apply CopyL.consP; rfl) | (apply CopyL.consF; rfl) | apply CopyL.cons)); done)); (first | exact Nat.le_of_ble_eq_true rfl | decide)) | ((with_reducible apply so_box); rfl; (first | (with_reducible rfl) | assumption | exact decide_eq_true (by omega) | (simp only [Bool.not_eq_true', Bool.not_eq_false', decide_eq_false_iff_not, decide_eq_true_eq] <;> first | assumption | omega) | decide); rfl; (focus ((repeat (first | (with_reducible exact CopyL.agg) | exact CopyL.nil | (apply CopyL.consI; rfl) | (apply CopyL.consB; rfl) | (apply CopyL.consS; rfl) | (apply CopyL.consP; rfl) | (apply CopyL.consF; rfl) | apply CopyL.cons)); done)); (first | exact Nat.le_of_ble_eq_true rfl | decide)))
  intro q
  refine go_ _ ?_
  refine so_callF (vs := [.agg s.h.cells.toArray, .int .i64 auto]) (us := []) rfl (fun w1 _ => crpx_any s.h auto w1) rfl rfl rfl (tF rfl) (Nat.le_of_ble_eq_true rfl) ?_
  refine go_ _ ?_
  refine so_callF (vs := [.agg s.maxh.cells.toArray, .int .i64 (pxM s.h auto)]) (us := []) rfl (fun w1 _ => crpx_any s.maxh _ w1) rfl rfl rfl (tF rfl) (Nat.le_of_ble_eq_true rfl) ?_
  refine go_ _ ?_
  refine so_callF (vs := [.agg s.minh.cells.toArray, .int .i64 (min (pxM s.h auto) (pxM s.maxh (pxM s.h auto)))]) (us := []) rfl (fun w1 _ => crpx_any s.minh _ w1) rfl rfl rfl (tF rfl) (Nat.le_of_ble_eq_true rfl) ?_
  refine go_ _ ?_
  exact sret1 rfl rfl rfl

set_option maxRecDepth 100000 in
theorem crhalf_any (x : Int) (w : World) : Calls Try.prog 37 #[.int .i64 x] w fun e w' => e = .returned (.int .i64 (x / 2)) ∧ Below w.heap.size w w' := by
  refine s_quiet [(0, .int .i64 x)] Try.func37 rfl Try.ntmps37 rfl (by simp) ?_
  refine go_ _ ?_
  refine sret1 rfl rfl ?_
  rfl

theorem high_in {x : It} (h : ItB x) {a : Int} (ha : a ≤ 700000000000000) : 0 ≤ highM x.s a ∧ highM x.s a ≤ 700000000000000 := by
  have h1 := h.h; have h2 := h.minh; have h3 := h.maxh
  unfold In1 at *
  unfold highM pxM
  repeat' split
  all_goals omega
theorem hgt_in {s : Sty} {x : It} (h : ItB x) {tall : Int} (ht : tall ≤ 300000000000000) : -800000000000000 ≤ hgtM s x tall ∧ hgtM s x tall ≤ 800000000000000 := by
  have hd := h.down; have hh := h.high; have ha := h.above; have hb := h.below
  unfold In1 at *
  unfold hgtM
  split
  · have := high_in h (a := max (tall - x.above - x.below - x.down) 0) (by omega)
    omega
  · omega

set_option maxRecDepth 100000 in
set_option maxHeartbeats 2000000 in
theorem height_any (s : Sty) (x : It) (tall : Int) (qp : Nat) (R : List Value) (w : World) (hx : ItB x) (ht : -300000000000000 ≤ tall ∧ tall ≤ 300000000000000) (hb : qp < w.heap.size) (hr : Row w qp 0 (s.cells ++ R)) :
    Calls Try.prog 36 #[.pointer (some ⟨qp, 0, none⟩), .agg x.cells.toArray, .int .i64 tall] w fun e w' => e = .returned (.int .i64 (hgtM s x tall)) ∧ Below w.heap.size w w' := by
  refine s_quiet [(0, .pointer (some ⟨qp, 0, none⟩)), (1, .agg x.cells.toArray), (2, .int .i64 tall)] Try.func36 rfl Try.ntmps36 rfl (by simp) ?_
  have hp := Rw.base hb hr
  have hhi := high_in hx (a := max (tall - x.above - x.below - x.down) 0) (by have ha := hx.above; have hb := hx.below; have hd := hx.down; unfold In1 at *; omega)
  have ha := hx.above; have hbl := hx.below; have hd := hx.down
  unfold In1 at ha hbl hd
  unfold hgtM
  refine go_ _ ?_
  (first | ((with_reducible apply so_new); rfl; (first | (with_reducible rfl) | assumption | exact decide_eq_true (by omega) | (simp only [Bool.not_eq_true', Bool.not_eq_false', decide_eq_false_iff_not, decide_eq_true_eq] <;> first | assumption | omega) | decide); exact tZ rfl; (first | exact Nat.le_of_ble_eq_true rfl | decide); (intro; rfl); (first | (with_reducible rfl) | assumption | exact decide_eq_true (by omega) | (simp only [Bool.not_eq_true', Bool.not_eq_false', decide_eq_false_iff_not, decide_eq_true_eq] <;> first | assumption | omega) | decide); (intro; rfl); rfl; exact tS rfl; rfl; rfl) | ((with_reducible apply so_alloc); rfl; (first | (with_reducible rfl) | assumption | exact decide_eq_true (by omega) | (simp only [Bool.not_eq_true', Bool.not_eq_false', decide_eq_false_iff_not, decide_eq_true_eq] <;> first | assumption | omega) | decide); exact tZ rfl; (focus ((repeat (first | (with_reducible exact CopyL.agg) | exact CopyL.nil | (apply CopyL.consI; rfl) | (apply CopyL.consB; rfl) | (apply CopyL.consS; rfl) | (apply CopyL.consP; rfl) | (apply CopyL.consF; rfl) | apply CopyL.cons)); done)); (first | exact Nat.le_of_ble_eq_true rfl | decide)) | ((with_reducible apply so_box); rfl; (first | (with_reducible rfl) | assumption | exact decide_eq_true (by omega) | (simp only [Bool.not_eq_true', Bool.not_eq_false', decide_eq_false_iff_not, decide_eq_true_eq] <;> first | assumption | omega) | decide); rfl; (focus ((repeat (first | (with_reducible exact CopyL.agg) | exact CopyL.nil | (apply CopyL.consI; rfl) | (apply CopyL.consB; rfl) | (apply CopyL.consS; rfl) | (apply CopyL.consP; rfl) | (apply CopyL.consF; rfl) | apply CopyL.cons)); done)); (first | exact Nat.le_of_ble_eq_true rfl | decide)))
  intro q
  refine go_ _ ?_
  by_cases h1 : s.items = 3
  · by_cases h2 : x.s.h.k = 0
    · rw [if_pos ⟨h1, h2⟩]
      refine go_ _ ?_
      refine s_parts (by kernel_rfl) ?_
      refine sg_free 18 (by kernel_rfl) (go_ _ ?_)
      refine sd_callQ (fun w1 _ => high_any x.s _ w1) rfl rfl rfl (tF rfl) (Nat.le_of_ble_eq_true rfl) ?_
      refine go_ _ ?_
      exact sret1 rfl rfl rfl
    · rw [if_neg (fun h => h2 h.2)]
      refine go_ _ ?_
      exact sret1 rfl rfl rfl
  · rw [if_neg (fun h => h1 h.1)]
    refine go_ _ ?_
    exact sret1 rfl rfl rfl

theorem moved0_any (i n : Int) (w : World) : Calls Try.prog 40 #[.int .i64 i, .int .i64 n] w fun e w' => e = .returned (.int .i64 0) ∧ Below w.heap.size w w' := by
  refine s_quiet [(0, .int .i64 i), (1, .int .i64 n)] Try.func40 rfl Try.ntmps40 rfl (by simp) ?_
  refine go_ _ ?_
  exact sret1 rfl rfl rfl
set_option maxRecDepth 100000 in
theorem beg1_any (q : Nat) (left : Int) (w : World) (hb : q < w.heap.size) (hr : Row w q 0 [.int .i64 left]) : Calls Try.prog 41 #[.pointer (some ⟨q, 0, none⟩)] w fun e w' => e = .returned (.int .i64 left) ∧ Below w.heap.size w w' := by
  refine s_quiet [(0, .pointer (some ⟨q, 0, none⟩))] Try.func41 rfl Try.ntmps41 rfl (by simp) ?_
  have hp := Rw.base hb hr
  refine go_ _ ?_
  exact sret1 rfl rfl rfl
set_option maxRecDepth 100000 in
theorem beg2_any (q : Nat) (left : Int) (w : World) (hb : q < w.heap.size) (hr : Row w q 0 [.int .i64 left]) : Calls Try.prog 42 #[.pointer (some ⟨q, 0, none⟩)] w fun e w' => e = .returned (.int .i64 (left / 2)) ∧ Below w.heap.size w w' := by
  refine s_quiet [(0, .pointer (some ⟨q, 0, none⟩))] Try.func42 rfl Try.ntmps42 rfl (by simp) ?_
  have hp := Rw.base hb hr
  refine go_ _ ?_
  refine so_callQ (fun w1 _ => crhalf_any left w1) rfl rfl rfl (tF rfl) (Nat.le_of_ble_eq_true rfl) ?_
  refine go_ _ ?_
  exact sret1 rfl rfl rfl

set_option maxRecDepth 100000 in
set_option maxHeartbeats 1000000 in
theorem moved1_any (s : Sty) (left : Int) (i n : Nat) (q : Nat) (w : World) (hj : s.justify = 3) (hl : 0 < left) (hlb : left ≤ 20000000000000000) (hi : i ≤ 64) (hn : n ≤ 64) (hb : q < w.heap.size) (hr : Row w q 0 [.int .i64 left]) :
    Calls Try.prog 43 #[.int .i64 (i : Nat), .int .i64 (n : Nat), .pointer (some ⟨q, 0, none⟩)] w fun e w' => e = .returned (.int .i64 (movM s left i n)) ∧ Below w.heap.size w w' := by
  refine s_quiet [(0, .int .i64 (i : Nat)), (1, .int .i64 (n : Nat)), (2, .pointer (some ⟨q, 0, none⟩))] Try.func43 rfl Try.ntmps43 rfl (by simp) ?_
  have hp := Rw.base hb hr
  by_cases h2 : n < 2
  · have e : movM s left i n = 0 := by unfold movM; rw [if_neg (by omega)]
    rw [e]
    refine go_ _ ?_
    exact sret1 rfl rfl rfl
  have e : movM s left i n = left / ((n : Int) - 1) * i + left % ((n : Int) - 1) * i / ((n : Int) - 1) := by unfold movM; rw [if_pos ⟨hj, hl, by omega⟩]
  rw [e]
  have hm : 0 < (n : Int) - 1 := by omega
  have t1 : left.tdiv ((n : Int) - 1) = left / ((n : Int) - 1) := Int.tdiv_eq_ediv_of_nonneg (by omega)
  have t2 : left.tmod ((n : Int) - 1) = left % ((n : Int) - 1) := Int.tmod_eq_emod_of_nonneg (by omega)
  have d1 : 0 ≤ left / ((n : Int) - 1) ∧ left / ((n : Int) - 1) ≤ left := ⟨Int.ediv_nonneg (by omega) (by omega), Int.ediv_le_self _ (by omega)⟩
  have d2 : 0 ≤ left % ((n : Int) - 1) ∧ left % ((n : Int) - 1) < (n : Int) - 1 := ⟨Int.emod_nonneg _ (by omega), Int.emod_lt_of_pos _ hm⟩
  have h2' : ¬ (n : Int) < 2 := by omega
  have m1 : 0 ≤ left / ((n : Int) - 1) * i ∧ left / ((n : Int) - 1) * i ≤ 20000000000000000 * 64 := ⟨Int.mul_nonneg d1.1 (by omega), Int.mul_le_mul (by omega) (by omega) (by omega) (by omega)⟩
  have m2 : 0 ≤ left % ((n : Int) - 1) * i ∧ left % ((n : Int) - 1) * i ≤ 64 * 64 := ⟨Int.mul_nonneg d2.1 (by omega), Int.mul_le_mul (by omega) (by omega) (by omega) (by omega)⟩
  have t3 : (left % ((n : Int) - 1) * i).tdiv ((n : Int) - 1) = left % ((n : Int) - 1) * i / ((n : Int) - 1) := Int.tdiv_eq_ediv_of_nonneg m2.1
  have d3 : 0 ≤ left % ((n : Int) - 1) * i / ((n : Int) - 1) ∧ left % ((n : Int) - 1) * i / ((n : Int) - 1) ≤ left % ((n : Int) - 1) * i := ⟨Int.ediv_nonneg m2.1 (by omega), Int.ediv_le_self _ m2.1⟩
  clear e
  refine go_ _ ?_
  refine s_parts (by kernel_rfl) ?_
  refine sg_free 12 (by kernel_rfl) (go_ _ ?_)
  exact sret1 rfl rfl rfl

/-- How what is left of a row moves its items: the function that is yielded. -/
def mvV (s : Sty) (left : Int) (q : Nat) : Value := if s.justify = 3 ∧ 0 < left then .func (.func 43) #[] #[.pointer (some ⟨q, 0, none⟩)] else .func (.func 40) #[] #[]

set_option maxRecDepth 100000 in
set_option maxHeartbeats 4000000 in
theorem ways_any (s : Sty) (left : Int) (qp : Nat) (R : List Value) (w : World) (hb : qp < w.heap.size) (hr : Row w qp 0 (s.cells ++ R)) :
    Calls Try.prog 35 #[.pointer (some ⟨qp, 0, none⟩), .int .i64 left] w fun e w' => ∃ q : Nat, True ∧ e = .returned (.tuple #[.int .i64 (begM s left), mvV s left q]) ∧ Mem w.heap.size w [row q 2 [.int .i64 left]] w' := by
  refine s_callsN (ι := Nat) [(0, .pointer (some ⟨qp, 0, none⟩)), (1, .int .i64 left)] (fun q => .tuple #[.int .i64 (begM s left), mvV s left q]) (fun q => [row q 2 [.int .i64 left]]) (fun _ => True) Try.func35 rfl Try.ntmps35 rfl (by simp) ?_
  have hp := Rw.base hb hr
  refine go_ _ ?_
  (first | ((with_reducible apply so_new); rfl; (first | (with_reducible rfl) | assumption | exact decide_eq_true (by omega) | (simp only [Bool.not_eq_true', Bool.not_eq_false', decide_eq_false_iff_not, decide_eq_true_eq] <;> first | assumption | omega) | decide); exact tZ rfl; (first | exact Nat.le_of_ble_eq_true rfl | decide); (intro; rfl); (first | (with_reducible rfl) | assumption | exact decide_eq_true (by omega) | (simp only [Bool.not_eq_true', Bool.not_eq_false', decide_eq_false_iff_not, decide_eq_true_eq] <;> first | assumption | omega) | decide); (intro; rfl); rfl; exact tS rfl; rfl; rfl) | ((with_reducible apply so_alloc); rfl; (first | (with_reducible rfl) | assumption | exact decide_eq_true (by omega) | (simp only [Bool.not_eq_true', Bool.not_eq_false', decide_eq_false_iff_not, decide_eq_true_eq] <;> first | assumption | omega) | decide); exact tZ rfl; (focus ((repeat (first | (with_reducible exact CopyL.agg) | exact CopyL.nil | (apply CopyL.consI; rfl) | (apply CopyL.consB; rfl) | (apply CopyL.consS; rfl) | (apply CopyL.consP; rfl) | (apply CopyL.consF; rfl) | apply CopyL.cons)); done)); (first | exact Nat.le_of_ble_eq_true rfl | decide)) | ((with_reducible apply so_box); rfl; (first | (with_reducible rfl) | assumption | exact decide_eq_true (by omega) | (simp only [Bool.not_eq_true', Bool.not_eq_false', decide_eq_false_iff_not, decide_eq_true_eq] <;> first | assumption | omega) | decide); rfl; (focus ((repeat (first | (with_reducible exact CopyL.agg) | exact CopyL.nil | (apply CopyL.consI; rfl) | (apply CopyL.consB; rfl) | (apply CopyL.consS; rfl) | (apply CopyL.consP; rfl) | (apply CopyL.consF; rfl) | apply CopyL.cons)); done)); (first | exact Nat.le_of_ble_eq_true rfl | decide)))
  intro q
  refine go_ _ ?_
  have row_ : ∀ T w1, Mem w.heap.size w (row q 2 [.int .i64 left] :: T) w1 → q < w1.heap.size ∧ Row w1 q 0 [.int .i64 left] := fun T w1 h1 => ⟨(row q _ _).lt rfl (h1.ok _ (List.mem_cons_self ..)).1, rw_here w1 h1⟩
  have g1 : ∀ T w1, Mem w.heap.size w (row q 2 [.int .i64 left] :: T) w1 → _ := fun T w1 h1 => beg1_any q left w1 (row_ T w1 h1).1 (row_ T w1 h1).2
  have g2 : ∀ T w1, Mem w.heap.size w (row q 2 [.int .i64 left] :: T) w1 → _ := fun T w1 h1 => beg2_any q left w1 (row_ T w1 h1).1 (row_ T w1 h1).2
  refine so_lit (vs := [.agg [.int .u8 1, .func (.func 41) #[] #[.pointer (some ⟨q, 0, none⟩)]].toArray, .agg [.int .u8 2, .func (.func 42) #[] #[.pointer (some ⟨q, 0, none⟩)]].toArray]) (sz := 2) (e := 106) rfl rfl (by repeat (first | exact Parts.nil | ((with_reducible apply Parts.cons); rfl))) (by rfl) (by rfl) (by kernel_rfl) (by simp [Value.cells])
    (xs := [.int .u8 1, .func (.func 41) #[] #[.pointer (some ⟨q, 0, none⟩)], .int .u8 2, .func (.func 42) #[] #[.pointer (some ⟨q, 0, none⟩)]]) (CopyL.refl _) (by simp) (by simp) (Nat.le_of_ble_eq_true rfl) fun qs => ?_
  refine go_ _ ?_
  refine s_rounds 3 (sl_round ?_)
  by_cases hj1 : s.justify = 1
  · skip
    refine go_ _ ?_
    (first | ((with_reducible apply so_new); rfl; (first | (with_reducible rfl) | assumption | exact decide_eq_true (by omega) | (simp only [Bool.not_eq_true', Bool.not_eq_false', decide_eq_false_iff_not, decide_eq_true_eq] <;> first | assumption | omega) | decide); exact tZ rfl; (first | exact Nat.le_of_ble_eq_true rfl | decide); (intro; rfl); (first | (with_reducible rfl) | assumption | exact decide_eq_true (by omega) | (simp only [Bool.not_eq_true', Bool.not_eq_false', decide_eq_false_iff_not, decide_eq_true_eq] <;> first | assumption | omega) | decide); (intro; rfl); rfl; exact tS rfl; rfl; rfl) | ((with_reducible apply so_alloc); rfl; (first | (with_reducible rfl) | assumption | exact decide_eq_true (by omega) | (simp only [Bool.not_eq_true', Bool.not_eq_false', decide_eq_false_iff_not, decide_eq_true_eq] <;> first | assumption | omega) | decide); exact tZ rfl; (focus ((repeat (first | (with_reducible exact CopyL.agg) | exact CopyL.nil | (apply CopyL.consI; rfl) | (apply CopyL.consB; rfl) | (apply CopyL.consS; rfl) | (apply CopyL.consP; rfl) | (apply CopyL.consF; rfl) | apply CopyL.cons)); done)); (first | exact Nat.le_of_ble_eq_true rfl | decide)) | ((with_reducible apply so_box); rfl; (first | (with_reducible rfl) | assumption | exact decide_eq_true (by omega) | (simp only [Bool.not_eq_true', Bool.not_eq_false', decide_eq_false_iff_not, decide_eq_true_eq] <;> first | assumption | omega) | decide); rfl; (focus ((repeat (first | (with_reducible exact CopyL.agg) | exact CopyL.nil | (apply CopyL.consI; rfl) | (apply CopyL.consB; rfl) | (apply CopyL.consS; rfl) | (apply CopyL.consP; rfl) | (apply CopyL.consF; rfl) | apply CopyL.cons)); done)); (first | exact Nat.le_of_ble_eq_true rfl | decide)))
    intro x1
    refine go_ _ ?_
    refine s_parts (by kernel_rfl) ?_
    refine sg_free 8 (by kernel_rfl) (go_ _ ?_)
    refine so_callF (vs := []) (us := [.pointer (some ⟨q, 0, none⟩)]) rfl (fun w1 h1 => g1 [] w1 (h1.sub (by repeat (first | exact SubH.refl | exact SubH.nil | ((with_reducible apply SubH.cons); (focus ((repeat (first | (with_reducible exact Pick.here) | (with_reducible apply Pick.there))); done))) | ((with_reducible apply SubH.consR); (focus ((repeat (first | (with_reducible exact Pick.here) | (with_reducible apply Pick.there))); done)); (first | rfl | simp; done)) | ((with_reducible apply SubH.consO); (focus ((repeat (first | (with_reducible exact Pick.here) | (with_reducible apply Pick.there))); done)); (first | rfl | simp; done); (first | rfl | simp; done)) | exact SubH.drop SubH.refl | apply SubH.drop)))) rfl rfl rfl (tF rfl) (Nat.le_of_ble_eq_true rfl) ?_
    refine go_ _ ?_
    refine sl_round ?_
    refine go_ _ ?_
    (first | ((with_reducible apply so_new); rfl; (first | (with_reducible rfl) | assumption | exact decide_eq_true (by omega) | (simp only [Bool.not_eq_true', Bool.not_eq_false', decide_eq_false_iff_not, decide_eq_true_eq] <;> first | assumption | omega) | decide); exact tZ rfl; (first | exact Nat.le_of_ble_eq_true rfl | decide); (intro; rfl); (first | (with_reducible rfl) | assumption | exact decide_eq_true (by omega) | (simp only [Bool.not_eq_true', Bool.not_eq_false', decide_eq_false_iff_not, decide_eq_true_eq] <;> first | assumption | omega) | decide); (intro; rfl); rfl; exact tS rfl; rfl; rfl) | ((with_reducible apply so_alloc); rfl; (first | (with_reducible rfl) | assumption | exact decide_eq_true (by omega) | (simp only [Bool.not_eq_true', Bool.not_eq_false', decide_eq_false_iff_not, decide_eq_true_eq] <;> first | assumption | omega) | decide); exact tZ rfl; (focus ((repeat (first | (with_reducible exact CopyL.agg) | exact CopyL.nil | (apply CopyL.consI; rfl) | (apply CopyL.consB; rfl) | (apply CopyL.consS; rfl) | (apply CopyL.consP; rfl) | (apply CopyL.consF; rfl) | apply CopyL.cons)); done)); (first | exact Nat.le_of_ble_eq_true rfl | decide)) | ((with_reducible apply so_box); rfl; (first | (with_reducible rfl) | assumption | exact decide_eq_true (by omega) | (simp only [Bool.not_eq_true', Bool.not_eq_false', decide_eq_false_iff_not, decide_eq_true_eq] <;> first | assumption | omega) | decide); rfl; (focus ((repeat (first | (with_reducible exact CopyL.agg) | exact CopyL.nil | (apply CopyL.consI; rfl) | (apply CopyL.consB; rfl) | (apply CopyL.consS; rfl) | (apply CopyL.consP; rfl) | (apply CopyL.consF; rfl) | apply CopyL.cons)); done)); (first | exact Nat.le_of_ble_eq_true rfl | decide)))
    intro x2
    refine go_ _ ?_
    refine s_parts (by kernel_rfl) ?_
    refine sg_free 8 (by kernel_rfl) (go_ _ ?_)
    refine sl_round ?_
    refine go_ _ ?_
    exact sret2 rfl rfl rfl ⟨q, trivial, by simp [begM, mvV, hj1], (by repeat (first | exact SubH.refl | exact SubH.nil | ((with_reducible apply SubH.cons); (focus ((repeat (first | (with_reducible exact Pick.here) | (with_reducible apply Pick.there))); done))) | ((with_reducible apply SubH.consR); (focus ((repeat (first | (with_reducible exact Pick.here) | (with_reducible apply Pick.there))); done)); (first | rfl | simp; done)) | ((with_reducible apply SubH.consO); (focus ((repeat (first | (with_reducible exact Pick.here) | (with_reducible apply Pick.there))); done)); (first | rfl | simp; done); (first | rfl | simp; done)) | exact SubH.drop SubH.refl | apply SubH.drop))⟩
  by_cases hj2 : s.justify = 2
  · skip
    refine go_ _ ?_
    (first | ((with_reducible apply so_new); rfl; (first | (with_reducible rfl) | assumption | exact decide_eq_true (by omega) | (simp only [Bool.not_eq_true', Bool.not_eq_false', decide_eq_false_iff_not, decide_eq_true_eq] <;> first | assumption | omega) | decide); exact tZ rfl; (first | exact Nat.le_of_ble_eq_true rfl | decide); (intro; rfl); (first | (with_reducible rfl) | assumption | exact decide_eq_true (by omega) | (simp only [Bool.not_eq_true', Bool.not_eq_false', decide_eq_false_iff_not, decide_eq_true_eq] <;> first | assumption | omega) | decide); (intro; rfl); rfl; exact tS rfl; rfl; rfl) | ((with_reducible apply so_alloc); rfl; (first | (with_reducible rfl) | assumption | exact decide_eq_true (by omega) | (simp only [Bool.not_eq_true', Bool.not_eq_false', decide_eq_false_iff_not, decide_eq_true_eq] <;> first | assumption | omega) | decide); exact tZ rfl; (focus ((repeat (first | (with_reducible exact CopyL.agg) | exact CopyL.nil | (apply CopyL.consI; rfl) | (apply CopyL.consB; rfl) | (apply CopyL.consS; rfl) | (apply CopyL.consP; rfl) | (apply CopyL.consF; rfl) | apply CopyL.cons)); done)); (first | exact Nat.le_of_ble_eq_true rfl | decide)) | ((with_reducible apply so_box); rfl; (first | (with_reducible rfl) | assumption | exact decide_eq_true (by omega) | (simp only [Bool.not_eq_true', Bool.not_eq_false', decide_eq_false_iff_not, decide_eq_true_eq] <;> first | assumption | omega) | decide); rfl; (focus ((repeat (first | (with_reducible exact CopyL.agg) | exact CopyL.nil | (apply CopyL.consI; rfl) | (apply CopyL.consB; rfl) | (apply CopyL.consS; rfl) | (apply CopyL.consP; rfl) | (apply CopyL.consF; rfl) | apply CopyL.cons)); done)); (first | exact Nat.le_of_ble_eq_true rfl | decide)))
    intro x1
    refine go_ _ ?_
    refine s_parts (by kernel_rfl) ?_
    refine sg_free 8 (by kernel_rfl) (go_ _ ?_)
    refine sl_round ?_
    refine go_ _ ?_
    (first | ((with_reducible apply so_new); rfl; (first | (with_reducible rfl) | assumption | exact decide_eq_true (by omega) | (simp only [Bool.not_eq_true', Bool.not_eq_false', decide_eq_false_iff_not, decide_eq_true_eq] <;> first | assumption | omega) | decide); exact tZ rfl; (first | exact Nat.le_of_ble_eq_true rfl | decide); (intro; rfl); (first | (with_reducible rfl) | assumption | exact decide_eq_true (by omega) | (simp only [Bool.not_eq_true', Bool.not_eq_false', decide_eq_false_iff_not, decide_eq_true_eq] <;> first | assumption | omega) | decide); (intro; rfl); rfl; exact tS rfl; rfl; rfl) | ((with_reducible apply so_alloc); rfl; (first | (with_reducible rfl) | assumption | exact decide_eq_true (by omega) | (simp only [Bool.not_eq_true', Bool.not_eq_false', decide_eq_false_iff_not, decide_eq_true_eq] <;> first | assumption | omega) | decide); exact tZ rfl; (focus ((repeat (first | (with_reducible exact CopyL.agg) | exact CopyL.nil | (apply CopyL.consI; rfl) | (apply CopyL.consB; rfl) | (apply CopyL.consS; rfl) | (apply CopyL.consP; rfl) | (apply CopyL.consF; rfl) | apply CopyL.cons)); done)); (first | exact Nat.le_of_ble_eq_true rfl | decide)) | ((with_reducible apply so_box); rfl; (first | (with_reducible rfl) | assumption | exact decide_eq_true (by omega) | (simp only [Bool.not_eq_true', Bool.not_eq_false', decide_eq_false_iff_not, decide_eq_true_eq] <;> first | assumption | omega) | decide); rfl; (focus ((repeat (first | (with_reducible exact CopyL.agg) | exact CopyL.nil | (apply CopyL.consI; rfl) | (apply CopyL.consB; rfl) | (apply CopyL.consS; rfl) | (apply CopyL.consP; rfl) | (apply CopyL.consF; rfl) | apply CopyL.cons)); done)); (first | exact Nat.le_of_ble_eq_true rfl | decide)))
    intro x2
    refine go_ _ ?_
    refine s_parts (by kernel_rfl) ?_
    refine sg_free 8 (by kernel_rfl) (go_ _ ?_)
    refine so_callF (vs := []) (us := [.pointer (some ⟨q, 0, none⟩)]) rfl (fun w1 h1 => g2 [] w1 (h1.sub (by repeat (first | exact SubH.refl | exact SubH.nil | ((with_reducible apply SubH.cons); (focus ((repeat (first | (with_reducible exact Pick.here) | (with_reducible apply Pick.there))); done))) | ((with_reducible apply SubH.consR); (focus ((repeat (first | (with_reducible exact Pick.here) | (with_reducible apply Pick.there))); done)); (first | rfl | simp; done)) | ((with_reducible apply SubH.consO); (focus ((repeat (first | (with_reducible exact Pick.here) | (with_reducible apply Pick.there))); done)); (first | rfl | simp; done); (first | rfl | simp; done)) | exact SubH.drop SubH.refl | apply SubH.drop)))) rfl rfl rfl (tF rfl) (Nat.le_of_ble_eq_true rfl) ?_
    refine go_ _ ?_
    refine sl_round ?_
    refine go_ _ ?_
    exact sret2 rfl rfl rfl ⟨q, trivial, by simp [begM, mvV, hj2], (by repeat (first | exact SubH.refl | exact SubH.nil | ((with_reducible apply SubH.cons); (focus ((repeat (first | (with_reducible exact Pick.here) | (with_reducible apply Pick.there))); done))) | ((with_reducible apply SubH.consR); (focus ((repeat (first | (with_reducible exact Pick.here) | (with_reducible apply Pick.there))); done)); (first | rfl | simp; done)) | ((with_reducible apply SubH.consO); (focus ((repeat (first | (with_reducible exact Pick.here) | (with_reducible apply Pick.there))); done)); (first | rfl | simp; done); (first | rfl | simp; done)) | exact SubH.drop SubH.refl | apply SubH.drop))⟩
  by_cases hj3 : s.justify = 3
  · skip
    refine go_ _ ?_
    (first | ((with_reducible apply so_new); rfl; (first | (with_reducible rfl) | assumption | exact decide_eq_true (by omega) | (simp only [Bool.not_eq_true', Bool.not_eq_false', decide_eq_false_iff_not, decide_eq_true_eq] <;> first | assumption | omega) | decide); exact tZ rfl; (first | exact Nat.le_of_ble_eq_true rfl | decide); (intro; rfl); (first | (with_reducible rfl) | assumption | exact decide_eq_true (by omega) | (simp only [Bool.not_eq_true', Bool.not_eq_false', decide_eq_false_iff_not, decide_eq_true_eq] <;> first | assumption | omega) | decide); (intro; rfl); rfl; exact tS rfl; rfl; rfl) | ((with_reducible apply so_alloc); rfl; (first | (with_reducible rfl) | assumption | exact decide_eq_true (by omega) | (simp only [Bool.not_eq_true', Bool.not_eq_false', decide_eq_false_iff_not, decide_eq_true_eq] <;> first | assumption | omega) | decide); exact tZ rfl; (focus ((repeat (first | (with_reducible exact CopyL.agg) | exact CopyL.nil | (apply CopyL.consI; rfl) | (apply CopyL.consB; rfl) | (apply CopyL.consS; rfl) | (apply CopyL.consP; rfl) | (apply CopyL.consF; rfl) | apply CopyL.cons)); done)); (first | exact Nat.le_of_ble_eq_true rfl | decide)) | ((with_reducible apply so_box); rfl; (first | (with_reducible rfl) | assumption | exact decide_eq_true (by omega) | (simp only [Bool.not_eq_true', Bool.not_eq_false', decide_eq_false_iff_not, decide_eq_true_eq] <;> first | assumption | omega) | decide); rfl; (focus ((repeat (first | (with_reducible exact CopyL.agg) | exact CopyL.nil | (apply CopyL.consI; rfl) | (apply CopyL.consB; rfl) | (apply CopyL.consS; rfl) | (apply CopyL.consP; rfl) | (apply CopyL.consF; rfl) | apply CopyL.cons)); done)); (first | exact Nat.le_of_ble_eq_true rfl | decide)))
    intro x1
    refine go_ _ ?_
    refine s_parts (by kernel_rfl) ?_
    refine sg_free 8 (by kernel_rfl) (go_ _ ?_)
    refine sl_round ?_
    refine go_ _ ?_
    (first | ((with_reducible apply so_new); rfl; (first | (with_reducible rfl) | assumption | exact decide_eq_true (by omega) | (simp only [Bool.not_eq_true', Bool.not_eq_false', decide_eq_false_iff_not, decide_eq_true_eq] <;> first | assumption | omega) | decide); exact tZ rfl; (first | exact Nat.le_of_ble_eq_true rfl | decide); (intro; rfl); (first | (with_reducible rfl) | assumption | exact decide_eq_true (by omega) | (simp only [Bool.not_eq_true', Bool.not_eq_false', decide_eq_false_iff_not, decide_eq_true_eq] <;> first | assumption | omega) | decide); (intro; rfl); rfl; exact tS rfl; rfl; rfl) | ((with_reducible apply so_alloc); rfl; (first | (with_reducible rfl) | assumption | exact decide_eq_true (by omega) | (simp only [Bool.not_eq_true', Bool.not_eq_false', decide_eq_false_iff_not, decide_eq_true_eq] <;> first | assumption | omega) | decide); exact tZ rfl; (focus ((repeat (first | (with_reducible exact CopyL.agg) | exact CopyL.nil | (apply CopyL.consI; rfl) | (apply CopyL.consB; rfl) | (apply CopyL.consS; rfl) | (apply CopyL.consP; rfl) | (apply CopyL.consF; rfl) | apply CopyL.cons)); done)); (first | exact Nat.le_of_ble_eq_true rfl | decide)) | ((with_reducible apply so_box); rfl; (first | (with_reducible rfl) | assumption | exact decide_eq_true (by omega) | (simp only [Bool.not_eq_true', Bool.not_eq_false', decide_eq_false_iff_not, decide_eq_true_eq] <;> first | assumption | omega) | decide); rfl; (focus ((repeat (first | (with_reducible exact CopyL.agg) | exact CopyL.nil | (apply CopyL.consI; rfl) | (apply CopyL.consB; rfl) | (apply CopyL.consS; rfl) | (apply CopyL.consP; rfl) | (apply CopyL.consF; rfl) | apply CopyL.cons)); done)); (first | exact Nat.le_of_ble_eq_true rfl | decide)))
    intro x2
    refine go_ _ ?_
    refine s_parts (by kernel_rfl) ?_
    refine sg_free 8 (by kernel_rfl) (go_ _ ?_)
    refine sl_round ?_
    by_cases hl : 0 < left
    · skip
      refine go_ _ ?_
      exact sret2 rfl rfl rfl ⟨q, trivial, by simp [begM, mvV, hj3, hl], (by repeat (first | exact SubH.refl | exact SubH.nil | ((with_reducible apply SubH.cons); (focus ((repeat (first | (with_reducible exact Pick.here) | (with_reducible apply Pick.there))); done))) | ((with_reducible apply SubH.consR); (focus ((repeat (first | (with_reducible exact Pick.here) | (with_reducible apply Pick.there))); done)); (first | rfl | simp; done)) | ((with_reducible apply SubH.consO); (focus ((repeat (first | (with_reducible exact Pick.here) | (with_reducible apply Pick.there))); done)); (first | rfl | simp; done); (first | rfl | simp; done)) | exact SubH.drop SubH.refl | apply SubH.drop))⟩
    · skip
      refine go_ _ ?_
      exact sret2 rfl rfl rfl ⟨q, trivial, by simp [begM, mvV, hj3, hl], (by repeat (first | exact SubH.refl | exact SubH.nil | ((with_reducible apply SubH.cons); (focus ((repeat (first | (with_reducible exact Pick.here) | (with_reducible apply Pick.there))); done))) | ((with_reducible apply SubH.consR); (focus ((repeat (first | (with_reducible exact Pick.here) | (with_reducible apply Pick.there))); done)); (first | rfl | simp; done)) | ((with_reducible apply SubH.consO); (focus ((repeat (first | (with_reducible exact Pick.here) | (with_reducible apply Pick.there))); done)); (first | rfl | simp; done); (first | rfl | simp; done)) | exact SubH.drop SubH.refl | apply SubH.drop))⟩
  · skip
    refine go_ _ ?_
    (first | ((with_reducible apply so_new); rfl; (first | (with_reducible rfl) | assumption | exact decide_eq_true (by omega) | (simp only [Bool.not_eq_true', Bool.not_eq_false', decide_eq_false_iff_not, decide_eq_true_eq] <;> first | assumption | omega) | decide); exact tZ rfl; (first | exact Nat.le_of_ble_eq_true rfl | decide); (intro; rfl); (first | (with_reducible rfl) | assumption | exact decide_eq_true (by omega) | (simp only [Bool.not_eq_true', Bool.not_eq_false', decide_eq_false_iff_not, decide_eq_true_eq] <;> first | assumption | omega) | decide); (intro; rfl); rfl; exact tS rfl; rfl; rfl) | ((with_reducible apply so_alloc); rfl; (first | (with_reducible rfl) | assumption | exact decide_eq_true (by omega) | (simp only [Bool.not_eq_true', Bool.not_eq_false', decide_eq_false_iff_not, decide_eq_true_eq] <;> first | assumption | omega) | decide); exact tZ rfl; (focus ((repeat (first | (with_reducible exact CopyL.agg) | exact CopyL.nil | (apply CopyL.consI; rfl) | (apply CopyL.consB; rfl) | (apply CopyL.consS; rfl) | (apply CopyL.consP; rfl) | (apply CopyL.consF; rfl) | apply CopyL.cons)); done)); (first | exact Nat.le_of_ble_eq_true rfl | decide)) | ((with_reducible apply so_box); rfl; (first | (with_reducible rfl) | assumption | exact decide_eq_true (by omega) | (simp only [Bool.not_eq_true', Bool.not_eq_false', decide_eq_false_iff_not, decide_eq_true_eq] <;> first | assumption | omega) | decide); rfl; (focus ((repeat (first | (with_reducible exact CopyL.agg) | exact CopyL.nil | (apply CopyL.consI; rfl) | (apply CopyL.consB; rfl) | (apply CopyL.consS; rfl) | (apply CopyL.consP; rfl) | (apply CopyL.consF; rfl) | apply CopyL.cons)); done)); (first | exact Nat.le_of_ble_eq_true rfl | decide)))
    intro x1
    refine go_ _ ?_
    refine s_parts (by kernel_rfl) ?_
    refine sg_free 8 (by kernel_rfl) (go_ _ ?_)
    refine sl_round ?_
    refine go_ _ ?_
    (first | ((with_reducible apply so_new); rfl; (first | (with_reducible rfl) | assumption | exact decide_eq_true (by omega) | (simp only [Bool.not_eq_true', Bool.not_eq_false', decide_eq_false_iff_not, decide_eq_true_eq] <;> first | assumption | omega) | decide); exact tZ rfl; (first | exact Nat.le_of_ble_eq_true rfl | decide); (intro; rfl); (first | (with_reducible rfl) | assumption | exact decide_eq_true (by omega) | (simp only [Bool.not_eq_true', Bool.not_eq_false', decide_eq_false_iff_not, decide_eq_true_eq] <;> first | assumption | omega) | decide); (intro; rfl); rfl; exact tS rfl; rfl; rfl) | ((with_reducible apply so_alloc); rfl; (first | (with_reducible rfl) | assumption | exact decide_eq_true (by omega) | (simp only [Bool.not_eq_true', Bool.not_eq_false', decide_eq_false_iff_not, decide_eq_true_eq] <;> first | assumption | omega) | decide); exact tZ rfl; (focus ((repeat (first | (with_reducible exact CopyL.agg) | exact CopyL.nil | (apply CopyL.consI; rfl) | (apply CopyL.consB; rfl) | (apply CopyL.consS; rfl) | (apply CopyL.consP; rfl) | (apply CopyL.consF; rfl) | apply CopyL.cons)); done)); (first | exact Nat.le_of_ble_eq_true rfl | decide)) | ((with_reducible apply so_box); rfl; (first | (with_reducible rfl) | assumption | exact decide_eq_true (by omega) | (simp only [Bool.not_eq_true', Bool.not_eq_false', decide_eq_false_iff_not, decide_eq_true_eq] <;> first | assumption | omega) | decide); rfl; (focus ((repeat (first | (with_reducible exact CopyL.agg) | exact CopyL.nil | (apply CopyL.consI; rfl) | (apply CopyL.consB; rfl) | (apply CopyL.consS; rfl) | (apply CopyL.consP; rfl) | (apply CopyL.consF; rfl) | apply CopyL.cons)); done)); (first | exact Nat.le_of_ble_eq_true rfl | decide)))
    intro x2
    refine go_ _ ?_
    refine s_parts (by kernel_rfl) ?_
    refine sg_free 8 (by kernel_rfl) (go_ _ ?_)
    refine sl_round ?_
    refine go_ _ ?_
    exact sret2 rfl rfl rfl ⟨q, trivial, by simp [begM, mvV, hj1, hj2, hj3], (by repeat (first | exact SubH.refl | exact SubH.nil | ((with_reducible apply SubH.cons); (focus ((repeat (first | (with_reducible exact Pick.here) | (with_reducible apply Pick.there))); done))) | ((with_reducible apply SubH.consR); (focus ((repeat (first | (with_reducible exact Pick.here) | (with_reducible apply Pick.there))); done)); (first | rfl | simp; done)) | ((with_reducible apply SubH.consO); (focus ((repeat (first | (with_reducible exact Pick.here) | (with_reducible apply Pick.there))); done)); (first | rfl | simp; done); (first | rfl | simp; done)) | exact SubH.drop SubH.refl | apply SubH.drop))⟩

theorem mov_in (s : Sty) (left : Int) (i n : Nat) (hlb : left ≤ 20000000000000000) (hi : i ≤ 64) (hn : n ≤ 64) : 0 ≤ movM s left i n ∧ movM s left i n ≤ 20000000000000000 * 64 + 64 * 64 := by
  unfold movM
  split
  · rename_i h
    obtain ⟨_, hl, h2⟩ := h
    have hm : 0 < (n : Int) - 1 := by omega
    have d1 : 0 ≤ left / ((n : Int) - 1) ∧ left / ((n : Int) - 1) ≤ left := ⟨Int.ediv_nonneg (by omega) (by omega), Int.ediv_le_self _ (by omega)⟩
    have d2 : 0 ≤ left % ((n : Int) - 1) ∧ left % ((n : Int) - 1) < (n : Int) - 1 := ⟨Int.emod_nonneg _ (by omega), Int.emod_lt_of_pos _ hm⟩
    have m1 : 0 ≤ left / ((n : Int) - 1) * i ∧ left / ((n : Int) - 1) * i ≤ 20000000000000000 * 64 := ⟨Int.mul_nonneg d1.1 (by omega), Int.mul_le_mul (by omega) (by omega) (by omega) (by omega)⟩
    have m2 : 0 ≤ left % ((n : Int) - 1) * i ∧ left % ((n : Int) - 1) * i ≤ 64 * 64 := ⟨Int.mul_nonneg d2.1 (by omega), Int.mul_le_mul (by omega) (by omega) (by omega) (by omega)⟩
    have d3 : 0 ≤ left % ((n : Int) - 1) * i / ((n : Int) - 1) ∧ left % ((n : Int) - 1) * i / ((n : Int) - 1) ≤ left % ((n : Int) - 1) * i := ⟨Int.ediv_nonneg m2.1 (by omega), Int.ediv_le_self _ m2.1⟩
    omega
  · omega

/-- The function that is yielded, called. -/
theorem mv_call (s : Sty) (left : Int) (q n : Nat) (B : Nat) (w0 : World) (hlb : left ≤ 20000000000000000) (hn : n ≤ 64) : ∃ f us, mvV s left q = .func (.func f) #[] (us : List Value).toArray ∧ (∀ args w, (callFunc f args).run Try.prog w = .ok (.enter f args) w) ∧
    ∀ (i : Nat), i ≤ 64 → ∀ T w1, Mem B w0 (row q 2 [.int .i64 left] :: T) w1 → Calls Try.prog f ([Value.int .i64 (i : Nat), Value.int .i64 (n : Nat)] ++ us).toArray w1 fun e w' => e = .returned (.int .i64 (movM s left i n)) ∧ Below w1.heap.size w1 w' := by
  by_cases h : s.justify = 3 ∧ 0 < left
  · refine ⟨43, [.pointer (some ⟨q, 0, none⟩)], by rw [mvV, if_pos h], tF rfl, fun i hi T w1 h1 => ?_⟩
    exact moved1_any s left i n q w1 h.1 h.2 hlb hi hn ((row q _ _).lt rfl (h1.ok _ (List.mem_cons_self ..)).1) (rw_here w1 h1)
  · refine ⟨40, [], by rw [mvV, if_neg h], tF rfl, fun i hi T w1 h1 => ?_⟩
    have : movM s left i n = 0 := by unfold movM; rw [if_neg (fun h' => h ⟨h'.1, h'.2.1⟩)]
    rw [this]
    exact moved0_any i n w1
end Go.Proofs.Ytdoihebekbfnbaa
