/- Package au: sums of any numbers, made lengths. -/
import Derived.Test.YtkdjlaejbimchaaGo
namespace Go.Proofs.Ytkdjlaejbimchaa
open Go.RowKit

/-- A length of a number, and whether it was beyond. -/
def cutM (x : Int) : Int := max (-1099511627776) (min x 1099511627776)
def wideV (T : Int) : List Value := [.int .i64 (T / 18446744073709551616), .int .u64 (T % 18446744073709551616)]
def WB (T : Int) : Prop := -85070591730234615865843651857942052864 ≤ T ∧ T ≤ 85070591730234615865843651857942052864
def I64 (x : Int) : Prop := -9223372036854775808 ≤ x ∧ x ≤ 9223372036854775807

set_option maxRecDepth 100000 in
theorem cut_any (x : Int) (w : World) : Calls Try.prog 24 #[.int .i64 x] w fun e w' => e = .returned (.tuple #[.int .i64 (cutM x), .bool (!decide (x = cutM x))]) ∧ Below w.heap.size w w' := by
  refine s_quiet [(0, .int .i64 x)] Try.func24 rfl Try.ntmps24 rfl (by simp) ?_
  refine go_ _ ?_
  exact sret2 rfl rfl rfl rfl

set_option maxRecDepth 100000 in
set_option maxHeartbeats 1000000 in
theorem plus_any (T x : Int) (hT : WB T) (hx : I64 x) (w : World) : Calls Try.prog 27 #[.agg (wideV T).toArray, .int .i64 x] w fun e w' => e = .returned (.agg (wideV (T + x)).toArray) ∧ Below w.heap.size w w' := by
  refine s_quiet [(0, .agg (wideV T).toArray), (1, .int .i64 x)] Try.func27 rfl Try.ntmps27 rfl (by simp) ?_
  unfold wideV
  unfold WB at hT
  unfold I64 at hx
  refine go_ _ ?_
  (first | ((with_reducible apply so_new); rfl; (first | (with_reducible rfl) | assumption | exact decide_eq_true (by omega) | (simp only [Bool.not_eq_true', Bool.not_eq_false', decide_eq_false_iff_not, decide_eq_true_eq] <;> first | assumption | omega) | decide); exact tZ rfl; (first | exact Nat.le_of_ble_eq_true rfl | decide); (intro; rfl); (first | (with_reducible rfl) | assumption | exact decide_eq_true (by omega) | (simp only [Bool.not_eq_true', Bool.not_eq_false', decide_eq_false_iff_not, decide_eq_true_eq] <;> first | assumption | omega) | decide); (intro; rfl); rfl; exact tS rfl; rfl; rfl) | ((with_reducible apply so_alloc); rfl; (first | (with_reducible rfl) | assumption | exact decide_eq_true (by omega) | (simp only [Bool.not_eq_true', Bool.not_eq_false', decide_eq_false_iff_not, decide_eq_true_eq] <;> first | assumption | omega) | decide); exact tZ rfl; (focus ((repeat (first | (with_reducible exact CopyL.agg) | exact CopyL.nil | (apply CopyL.consI; rfl) | (apply CopyL.consB; rfl) | (apply CopyL.consS; rfl) | (apply CopyL.consP; rfl) | apply CopyL.cons)); done)); (first | exact Nat.le_of_ble_eq_true rfl | decide)) | ((with_reducible apply so_box); rfl; (first | (with_reducible rfl) | assumption | exact decide_eq_true (by omega) | (simp only [Bool.not_eq_true', Bool.not_eq_false', decide_eq_false_iff_not, decide_eq_true_eq] <;> first | assumption | omega) | decide); rfl; (focus ((repeat (first | (with_reducible exact CopyL.agg) | exact CopyL.nil | (apply CopyL.consI; rfl) | (apply CopyL.consB; rfl) | (apply CopyL.consS; rfl) | (apply CopyL.consP; rfl) | apply CopyL.cons)); done)); (first | exact Nat.le_of_ble_eq_true rfl | decide)))
  intro q2
  refine go_ _ ?_
  (first | ((with_reducible apply so_new); rfl; (first | (with_reducible rfl) | assumption | exact decide_eq_true (by omega) | (simp only [Bool.not_eq_true', Bool.not_eq_false', decide_eq_false_iff_not, decide_eq_true_eq] <;> first | assumption | omega) | decide); exact tZ rfl; (first | exact Nat.le_of_ble_eq_true rfl | decide); (intro; rfl); (first | (with_reducible rfl) | assumption | exact decide_eq_true (by omega) | (simp only [Bool.not_eq_true', Bool.not_eq_false', decide_eq_false_iff_not, decide_eq_true_eq] <;> first | assumption | omega) | decide); (intro; rfl); rfl; exact tS rfl; rfl; rfl) | ((with_reducible apply so_alloc); rfl; (first | (with_reducible rfl) | assumption | exact decide_eq_true (by omega) | (simp only [Bool.not_eq_true', Bool.not_eq_false', decide_eq_false_iff_not, decide_eq_true_eq] <;> first | assumption | omega) | decide); exact tZ rfl; (focus ((repeat (first | (with_reducible exact CopyL.agg) | exact CopyL.nil | (apply CopyL.consI; rfl) | (apply CopyL.consB; rfl) | (apply CopyL.consS; rfl) | (apply CopyL.consP; rfl) | apply CopyL.cons)); done)); (first | exact Nat.le_of_ble_eq_true rfl | decide)) | ((with_reducible apply so_box); rfl; (first | (with_reducible rfl) | assumption | exact decide_eq_true (by omega) | (simp only [Bool.not_eq_true', Bool.not_eq_false', decide_eq_false_iff_not, decide_eq_true_eq] <;> first | assumption | omega) | decide); rfl; (focus ((repeat (first | (with_reducible exact CopyL.agg) | exact CopyL.nil | (apply CopyL.consI; rfl) | (apply CopyL.consB; rfl) | (apply CopyL.consS; rfl) | (apply CopyL.consP; rfl) | apply CopyL.cons)); done)); (first | exact Nat.le_of_ble_eq_true rfl | decide)))
  intro q4
  refine go_ _ ?_
  refine so_pure rfl (by (first | (with_reducible rfl) | assumption | exact decide_eq_true (by omega) | (simp only [Bool.not_eq_true', Bool.not_eq_false', decide_eq_false_iff_not, decide_eq_true_eq] <;> first | assumption | omega) | decide)) rfl (Nat.le_of_ble_eq_true rfl) (ps_convert rfl (run_convW (tU rfl) (tU rfl) (wrapU x))) ?_
  refine go_ _ ?_
  refine so_pure rfl (by (first | (with_reducible rfl) | assumption | exact decide_eq_true (by omega) | (simp only [Bool.not_eq_true', Bool.not_eq_false', decide_eq_false_iff_not, decide_eq_true_eq] <;> first | assumption | omega) | decide)) rfl (Nat.le_of_ble_eq_true rfl) (ps_addX Try.func34 rfl rfl rfl rfl rfl (by omega) (by omega) rfl rfl) ?_
  refine go_ _ ?_
  refine so_pure rfl (by (first | (with_reducible rfl) | assumption | exact decide_eq_true (by omega) | (simp only [Bool.not_eq_true', Bool.not_eq_false', decide_eq_false_iff_not, decide_eq_true_eq] <;> first | assumption | omega) | decide)) rfl (Nat.le_of_ble_eq_true rfl) (ps_shr63 rfl rfl) ?_
  refine go_ _ ?_
  have e : [Value.int .i64 (T / 18446744073709551616 + x / 9223372036854775808 + (T % 18446744073709551616 + x % 18446744073709551616) / 18446744073709551616), Value.int .u64 ((T % 18446744073709551616 + x % 18446744073709551616) % 18446744073709551616)] = wideV (T + x) := by
    unfold wideV; congr 2
    · omega
    · congr 1; omega
  refine so_storeB rfl rfl rfl rfl (tS rfl) rfl rfl (by (focus ((repeat (first | (with_reducible exact Upd.here) | (with_reducible apply Upd.there))); done))) (by rfl) ?_
  refine go_ _ ?_
  exact sretCell rfl rfl (tA rfl) (tS rfl) rw_here (by rw [e]; rfl)

set_option maxRecDepth 100000 in
set_option maxHeartbeats 1000000 in
theorem wcut_any (T : Int) (hT : WB T) (w : World) : Calls Try.prog 28 #[.agg (wideV T).toArray] w fun e w' => e = .returned (.tuple #[.int .i64 (cutM T), .bool (!decide (T = cutM T))]) ∧ Below w.heap.size w w' := by
  refine s_quiet [(0, .agg (wideV T).toArray)] Try.func28 rfl Try.ntmps28 rfl (by simp) ?_
  unfold wideV
  unfold WB at hT
  refine go_ _ ?_
  (first | ((with_reducible apply so_new); rfl; (first | (with_reducible rfl) | assumption | exact decide_eq_true (by omega) | (simp only [Bool.not_eq_true', Bool.not_eq_false', decide_eq_false_iff_not, decide_eq_true_eq] <;> first | assumption | omega) | decide); exact tZ rfl; (first | exact Nat.le_of_ble_eq_true rfl | decide); (intro; rfl); (first | (with_reducible rfl) | assumption | exact decide_eq_true (by omega) | (simp only [Bool.not_eq_true', Bool.not_eq_false', decide_eq_false_iff_not, decide_eq_true_eq] <;> first | assumption | omega) | decide); (intro; rfl); rfl; exact tS rfl; rfl; rfl) | ((with_reducible apply so_alloc); rfl; (first | (with_reducible rfl) | assumption | exact decide_eq_true (by omega) | (simp only [Bool.not_eq_true', Bool.not_eq_false', decide_eq_false_iff_not, decide_eq_true_eq] <;> first | assumption | omega) | decide); exact tZ rfl; (focus ((repeat (first | (with_reducible exact CopyL.agg) | exact CopyL.nil | (apply CopyL.consI; rfl) | (apply CopyL.consB; rfl) | (apply CopyL.consS; rfl) | (apply CopyL.consP; rfl) | apply CopyL.cons)); done)); (first | exact Nat.le_of_ble_eq_true rfl | decide)) | ((with_reducible apply so_box); rfl; (first | (with_reducible rfl) | assumption | exact decide_eq_true (by omega) | (simp only [Bool.not_eq_true', Bool.not_eq_false', decide_eq_false_iff_not, decide_eq_true_eq] <;> first | assumption | omega) | decide); rfl; (focus ((repeat (first | (with_reducible exact CopyL.agg) | exact CopyL.nil | (apply CopyL.consI; rfl) | (apply CopyL.consB; rfl) | (apply CopyL.consS; rfl) | (apply CopyL.consP; rfl) | apply CopyL.cons)); done)); (first | exact Nat.le_of_ble_eq_true rfl | decide)))
  intro q1
  refine go_ _ ?_
  refine so_pure rfl (by (first | (with_reducible rfl) | assumption | exact decide_eq_true (by omega) | (simp only [Bool.not_eq_true', Bool.not_eq_false', decide_eq_false_iff_not, decide_eq_true_eq] <;> first | assumption | omega) | decide)) rfl (Nat.le_of_ble_eq_true rfl) (ps_convert rfl (run_convW (tU rfl) (tU rfl) (IntKind.wrap_i64 _))) ?_
  refine go_ _ ?_
  refine so_pure rfl (by (first | (with_reducible rfl) | assumption | exact decide_eq_true (by omega) | (simp only [Bool.not_eq_true', Bool.not_eq_false', decide_eq_false_iff_not, decide_eq_true_eq] <;> first | assumption | omega) | decide)) rfl (Nat.le_of_ble_eq_true rfl) (ps_shr63 rfl rfl) ?_
  generalize hy : (T % 18446744073709551616 + 9223372036854775808) % 18446744073709551616 - 9223372036854775808 = y
  have f1 : -9223372036854775808 ≤ y ∧ y ≤ 9223372036854775807 ∧ (T / 18446744073709551616 = y / 9223372036854775808 → y = T) ∧ (T / 18446744073709551616 ≠ y / 9223372036854775808 → T < 0 → T < -9223372036854775808) ∧ (T / 18446744073709551616 ≠ y / 9223372036854775808 → ¬ T < 0 → 9223372036854775807 < T) := by omega
  obtain ⟨_, _, g1, g2, g3⟩ := f1
  by_cases hc : T / 18446744073709551616 = y / 9223372036854775808
  · obtain rfl := g1 hc
    clear g1 g2 g3 hy
    refine go_ _ ?_
    refine so_callQ (fun w1 _ => cut_any y w1) rfl (by (first | (with_reducible rfl) | assumption | exact decide_eq_true (by omega) | (simp only [Bool.not_eq_true', Bool.not_eq_false', decide_eq_false_iff_not, decide_eq_true_eq] <;> first | assumption | omega) | decide)) rfl (tF rfl) (Nat.le_of_ble_eq_true rfl) ?_
    refine go_ _ ?_
    exact sret2 rfl rfl rfl rfl
  · have e2 : T < 0 ↔ T / 18446744073709551616 < 0 := by omega
    by_cases hn : T / 18446744073709551616 < 0
    · have g := g2 hc (e2.2 hn)
      have ec : cutM T = -1099511627776 := by unfold cutM; omega
      clear g1 g2 g3 hy
      rw [ec, show (!decide (T = -1099511627776)) = true by rw [decide_eq_false (by omega)]; rfl]
      clear ec g
      refine go_ _ ?_
      exact sret2 rfl rfl rfl rfl
    · have g := g3 hc (fun h => hn (e2.1 h))
      have ec : cutM T = 1099511627776 := by unfold cutM; omega
      clear g1 g2 g3 hy
      rw [ec, show (!decide (T = 1099511627776)) = true by rw [decide_eq_false (by omega)]; rfl]
      clear ec g
      refine go_ _ ?_
      exact sret2 rfl rfl rfl rfl

set_option maxRecDepth 100000 in
theorem put_any (T x : Int) (hT : WB T) (hx : I64 x) (q B : Nat) (w0 w : World) (hw : Mem B w0 [row q 57 (wideV T)] w) :
    Calls Try.prog 26 #[.int .i64 x, .pointer (some ⟨q, 0, none⟩)] w fun e w' => ∃ _ : Unit, True ∧ e = .returned (.tuple #[]) ∧ Mem B w0 [row q 57 (wideV (T + x))] w' := by
  refine (s_calls [(0, .int .i64 x), (1, .pointer (some ⟨q, 0, none⟩))] (Q := fun v H' => v = .tuple #[] ∧ H' = [row q 57 (wideV (T + x))]) Try.func26 rfl Try.ntmps26 rfl (by simp) hw ?_).mono fun e w' ⟨v, H', h1, h2, h3, h4⟩ => ⟨(), trivial, h3 ▸ h1, h4 ▸ h2⟩
  refine go_ _ ?_
  refine so_callQ (fun w1 _ => plus_any T x hT hx w1) rfl (by (first | (with_reducible rfl) | assumption | exact decide_eq_true (by omega) | (simp only [Bool.not_eq_true', Bool.not_eq_false', decide_eq_false_iff_not, decide_eq_true_eq] <;> first | assumption | omega) | decide)) rfl (tF rfl) (Nat.le_of_ble_eq_true rfl) ?_
  refine go_ _ ?_
  refine so_storeB rfl rfl rfl rfl (tS rfl) rfl rfl (by (focus ((repeat (first | (with_reducible exact Upd.here) | (with_reducible apply Upd.there))); done))) (by rfl) ?_
  refine go_ _ ?_
  exact sret0n rfl ⟨rfl, rfl⟩

theorem sum_take (l : List Int) (k : Nat) (hk : k < l.length) : (l.take (k + 1)).sum = (l.take k).sum + l[k] := by
  rw [List.take_add_one, List.getElem?_eq_getElem hk, List.sum_append]; simp
theorem sum_bound (l : List Int) (hl : ∀ x ∈ l, I64 x) : -(9223372036854775808 * (l.length : Int)) ≤ l.sum ∧ l.sum ≤ 9223372036854775808 * (l.length : Int) := by
  induction l with
  | nil => simp
  | cons x l ih =>
    obtain ⟨h1, h2⟩ := ih fun y hy => hl y (List.mem_cons_of_mem _ hy)
    have := hl x (List.mem_cons_self ..)
    unfold I64 at this
    simp only [List.sum_cons, List.length_cons]
    omega
theorem sum_wb (l : List Int) (hl : ∀ x ∈ l, I64 x) (hlen : l.length ≤ 9223372036854775807) : WB l.sum := by
  have := sum_bound l hl
  unfold WB
  omega

set_option maxRecDepth 100000 in
set_option maxHeartbeats 1000000 in
theorem sum_any (l : List Int) (A : Option Addr) (cap : Nat) (hl : ∀ x ∈ l, I64 x) (hlen : l.length ≤ 9223372036854775807) (w : World) (hA : Rd w (fun x => [.int .i64 x]) 1 A l) :
    Calls Try.prog 20 #[.slice A l.length cap] w fun e w' => e = .returned (.tuple #[.int .i64 (cutM l.sum), .bool (!decide (l.sum = cutM l.sum))]) ∧ Below w.heap.size w w' := by
  refine s_quiet [(0, .slice A l.length cap)] Try.func20 rfl Try.ntmps20 rfl (by simp) ?_
  refine go_ _ ?_
  (first | ((with_reducible apply so_new); rfl; (first | (with_reducible rfl) | assumption | exact decide_eq_true (by omega) | (simp only [Bool.not_eq_true', Bool.not_eq_false', decide_eq_false_iff_not, decide_eq_true_eq] <;> first | assumption | omega) | decide); exact tZ rfl; (first | exact Nat.le_of_ble_eq_true rfl | decide); (intro; rfl); (first | (with_reducible rfl) | assumption | exact decide_eq_true (by omega) | (simp only [Bool.not_eq_true', Bool.not_eq_false', decide_eq_false_iff_not, decide_eq_true_eq] <;> first | assumption | omega) | decide); (intro; rfl); rfl; exact tS rfl; rfl; rfl) | ((with_reducible apply so_alloc); rfl; (first | (with_reducible rfl) | assumption | exact decide_eq_true (by omega) | (simp only [Bool.not_eq_true', Bool.not_eq_false', decide_eq_false_iff_not, decide_eq_true_eq] <;> first | assumption | omega) | decide); exact tZ rfl; (focus ((repeat (first | (with_reducible exact CopyL.agg) | exact CopyL.nil | (apply CopyL.consI; rfl) | (apply CopyL.consB; rfl) | (apply CopyL.consS; rfl) | (apply CopyL.consP; rfl) | apply CopyL.cons)); done)); (first | exact Nat.le_of_ble_eq_true rfl | decide)) | ((with_reducible apply so_box); rfl; (first | (with_reducible rfl) | assumption | exact decide_eq_true (by omega) | (simp only [Bool.not_eq_true', Bool.not_eq_false', decide_eq_false_iff_not, decide_eq_true_eq] <;> first | assumption | omega) | decide); rfl; (focus ((repeat (first | (with_reducible exact CopyL.agg) | exact CopyL.nil | (apply CopyL.consI; rfl) | (apply CopyL.consB; rfl) | (apply CopyL.consS; rfl) | (apply CopyL.consP; rfl) | apply CopyL.cons)); done)); (first | exact Nat.le_of_ble_eq_true rfl | decide)))
  intro q
  refine go_ _ ?_
  refine s_loop (ι := Nat) (fun k => [(4, .pointer (some ⟨q, 0, none⟩)), (5, .func (.func 26) #[] #[.pointer (some ⟨q, 0, none⟩)]), (9, .slice A l.length cap), (10, .int .i64 (l.length : Nat)), (11, .int .i64 (k : Nat))]) (fun k => [row q 57 (wideV (l.take k).sum)]) (fun k => k ≤ l.length) (fun k => l.length - k) 0 (by repeat (first | exact Sub.nil | refine Sub.cons rfl ?_ | (refine Sub.consB rfl (by (first | rfl | exact decide_eq_decide.2 (by omega) | exact (decide_eq_true (by omega)).symm | exact (decide_eq_false (by omega)).symm | exact decide_eq_true (by omega) | exact decide_eq_false (by omega))) ?_))) (by repeat (first | exact SubH.refl | exact SubH.nil | ((with_reducible apply SubH.cons); (focus ((repeat (first | (with_reducible exact Pick.here) | (with_reducible apply Pick.there))); done))) | ((with_reducible apply SubH.consR); (focus ((repeat (first | (with_reducible exact Pick.here) | (with_reducible apply Pick.there))); done)); (first | rfl | simp; done)) | ((with_reducible apply SubH.consO); (focus ((repeat (first | (with_reducible exact Pick.here) | (with_reducible apply Pick.there))); done)); (first | rfl | simp; done); (first | rfl | simp; done)) | exact SubH.drop SubH.refl | apply SubH.drop)) (Nat.zero_le _) ?_
  intro k hk
  by_cases hlt : k < l.length
  · obtain ⟨b1, o1, rfl, hr⟩ := hA.at k hlt
    have hx := hl _ (List.getElem_mem hlt)
    have hT := sum_wb (l.take k) (fun x hx => hl x (List.mem_of_mem_take hx)) (by simp; omega)
    refine go_ _ ?_
    refine so_callFM (us := [.pointer (some ⟨q, 0, none⟩)]) (vs := [.int .i64 l[k]]) (v := fun _ : Unit => .tuple #[]) (L := [row q 57 (wideV (l.take k).sum)]) (Hn := fun _ : Unit => [row q 57 (wideV ((l.take k).sum + l[k]))]) (I := fun _ => True) rfl .refl (fun w1 h1 => put_any (l.take k).sum l[k] hT hx q _ _ w1 h1) rfl (by (first | (with_reducible rfl) | assumption | exact decide_eq_true (by omega) | (simp only [Bool.not_eq_true', Bool.not_eq_false', decide_eq_false_iff_not, decide_eq_true_eq] <;> first | assumption | omega) | decide)) rfl (tF rfl) (Nat.le_of_ble_eq_true rfl) fun _ _ => ?_
    refine go_ _ ?_
    exact ⟨k + 1, by omega, (by repeat (first | exact Sub.nil | refine Sub.cons rfl ?_ | (refine Sub.consB rfl (by (first | rfl | exact decide_eq_decide.2 (by omega) | exact (decide_eq_true (by omega)).symm | exact (decide_eq_false (by omega)).symm | exact decide_eq_true (by omega) | exact decide_eq_false (by omega))) ?_))), by rw [sum_take l k hlt]; exact .refl, by omega⟩
  · obtain rfl : k = l.length := by omega
    rw [List.take_length]
    refine go_ _ ?_
    refine so_callQ (fun w1 _ => wcut_any _ (sum_wb l hl hlen) w1) rfl (by (first | (with_reducible rfl) | assumption | exact decide_eq_true (by omega) | (simp only [Bool.not_eq_true', Bool.not_eq_false', decide_eq_false_iff_not, decide_eq_true_eq] <;> first | assumption | omega) | decide)) rfl (tF rfl) (Nat.le_of_ble_eq_true rfl) ?_
    refine go_ _ ?_
    exact sret2 rfl rfl rfl rfl
end Go.Proofs.Ytkdjlaejbimchaa
