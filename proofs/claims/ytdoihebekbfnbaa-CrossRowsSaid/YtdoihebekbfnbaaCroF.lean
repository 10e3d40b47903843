/- CrossRows walked: what is asked of the items. -/
import Derived.Test.YtdoihebekbfnbaaCroU
namespace Go.Proofs.Ytdoihebekbfnbaa
open Go.RowKit

set_option maxRecDepth 100000 in
set_option maxHeartbeats 16000000 in
theorem crossRows_any (x : Case) (w : World) (hR : x.R w) (hl : x.kids.length ≤ 9223372036854775807 ∧ x.us.length ≤ 9223372036854775807 ∧ x.hs.length ≤ 9223372036854775807) : Calls Try.prog 4 #[.agg x.cells.toArray] w fun e w' => e = .returned (.bool true) ∧ Below w.heap.size w w' := by
  refine s_quiet [(0, .agg x.cells.toArray)] Try.func4 rfl Try.ntmps4 rfl (by simp) ?_
  have hmay : ∀ w1, Mem w.heap.size w [] w1 → _ := fun w1 h1 => caseMay_any x w1 (hR.keep h1.below) hl
  have hk0 := hR.k.base (B := w.heap.size) (H := []) rfl
  have hu0 := hR.u.base (B := w.heap.size) (H := []) rfl
  have hh0 := hR.h.base (B := w.heap.size) (H := []) rfl
  have hRKi : ∀ i s u h, x.kids[i]? = some s → x.us[i]? = some u → x.hs[i]? = some h → RK s u h → RKi x i := fun i s u h h1 h2 h3 h4 => ⟨s, u, h, h1, h2, h3, h4⟩
  generalize hRKe : RKi x = Q at *
  generalize hCM : CaseMay x = CM at *
  have hcells : x.cells = x.s.cells ++ [.int .i64 x.c, .slice x.Ak x.kids.length x.ck, .slice x.Au x.us.length x.cu, .slice x.Ah x.hs.length x.ch] := rfl
  rw [hcells] at hmay ⊢
  clear hcells
  have hCMk : CM → ∀ k ∈ x.kids, (0 ≤ k.b0 ∧ 0 ≤ k.b2 ∧ 0 ≤ k.p0 ∧ 0 ≤ k.p2) := fun h k hk => by
    rw [← hCM] at h
    have := (h.kid k hk).p
    exact ⟨this.b0.1, this.b2.1, this.p0.1, this.p2.1⟩
  have hCMn : CM → x.kids.length ≤ 60 := fun h => by rw [← hCM] at h; exact h.nk
  obtain ⟨s, c, kids, us, hs, Ak, Au, Ah, ck, cu, ch⟩ := x
  dsimp only at *
  refine go_ _ ?_
  (first | ((with_reducible apply so_new); rfl; (first | (with_reducible rfl) | assumption | exact decide_eq_true (by omega) | (simp only [Bool.not_eq_true', Bool.not_eq_false', decide_eq_false_iff_not, decide_eq_true_eq] <;> first | assumption | omega) | decide); exact tZ rfl; (first | exact Nat.le_of_ble_eq_true rfl | decide); (intro; rfl); (first | (with_reducible rfl) | assumption | exact decide_eq_true (by omega) | (simp only [Bool.not_eq_true', Bool.not_eq_false', decide_eq_false_iff_not, decide_eq_true_eq] <;> first | assumption | omega) | decide); (intro; rfl); rfl; exact tS rfl; rfl; rfl) | ((with_reducible apply so_alloc); rfl; (first | (with_reducible rfl) | assumption | exact decide_eq_true (by omega) | (simp only [Bool.not_eq_true', Bool.not_eq_false', decide_eq_false_iff_not, decide_eq_true_eq] <;> first | assumption | omega) | decide); exact tZ rfl; (focus ((repeat (first | (with_reducible exact CopyL.agg) | exact CopyL.nil | (apply CopyL.consI; rfl) | (apply CopyL.consB; rfl) | (apply CopyL.consS; rfl) | (apply CopyL.consP; rfl) | (apply CopyL.consF; rfl) | apply CopyL.cons)); done)); (first | exact Nat.le_of_ble_eq_true rfl | decide)) | ((with_reducible apply so_box); rfl; (first | (with_reducible rfl) | assumption | exact decide_eq_true (by omega) | (simp only [Bool.not_eq_true', Bool.not_eq_false', decide_eq_false_iff_not, decide_eq_true_eq] <;> first | assumption | omega) | decide); rfl; (focus ((repeat (first | (with_reducible exact CopyL.agg) | exact CopyL.nil | (apply CopyL.consI; rfl) | (apply CopyL.consB; rfl) | (apply CopyL.consS; rfl) | (apply CopyL.consP; rfl) | (apply CopyL.consF; rfl) | apply CopyL.cons)); done)); (first | exact Nat.le_of_ble_eq_true rfl | decide)))
  intro q
  refine go_ _ ?_
  refine so_callN (hc := fun w1 h1 => hmay w1 (h1.sub .nil)) rfl (by (first | (with_reducible rfl) | assumption | exact decide_eq_true (by omega) | (simp only [Bool.not_eq_true', Bool.not_eq_false', decide_eq_false_iff_not, decide_eq_true_eq] <;> first | assumption | omega) | decide)) rfl (tF rfl) (Nat.le_of_ble_eq_true rfl) ?_
  intro bm hbm
  cases bm
  · skip
    refine go_ _ ?_
    refine so_callQ (fun w1 _ => crworks_any w1) rfl (by (first | (with_reducible rfl) | assumption | exact decide_eq_true (by omega) | (simp only [Bool.not_eq_true', Bool.not_eq_false', decide_eq_false_iff_not, decide_eq_true_eq] <;> first | assumption | omega) | decide)) rfl (tF rfl) (Nat.le_of_ble_eq_true rfl) ?_
    refine go_ _ ?_
    exact sret1 rfl rfl rfl
  have hbm := hbm rfl
  by_cases hsh : ¬ s.h.k = 0
  · skip
    refine go_ _ ?_
    refine so_callQ (fun w1 _ => crworks_any w1) rfl (by (first | (with_reducible rfl) | assumption | exact decide_eq_true (by omega) | (simp only [Bool.not_eq_true', Bool.not_eq_false', decide_eq_false_iff_not, decide_eq_true_eq] <;> first | assumption | omega) | decide)) rfl (tF rfl) (Nat.le_of_ble_eq_true rfl) ?_
    refine go_ _ ?_
    exact sret1 rfl rfl rfl
  have hn60 := hCMn hbm
  refine go_ _ ?_
  refine s_loop (ι := Nat) (fun i => [(1, .pointer (some ⟨q, 0, none⟩)), (3, .int .i64 (i : Nat))]) (fun _ => [row q 33 (s.cells ++ [.int .i64 c, .slice Ak kids.length ck, .slice Au us.length cu, .slice Ah hs.length ch])])
    (fun i => i ≤ kids.length ∧ ∀ j, j < i → Q j) (fun i => kids.length - i) 0 (by repeat (first | exact Sub.nil | refine Sub.cons rfl ?_ | (refine Sub.consB rfl (by (first | rfl | exact decide_eq_decide.2 (by omega) | exact (decide_eq_true (by omega)).symm | exact (decide_eq_false (by omega)).symm | exact decide_eq_true (by omega) | exact decide_eq_false (by omega))) ?_))) (by repeat (first | exact SubH.refl | exact SubH.nil | ((with_reducible apply SubH.cons); (focus ((repeat (first | (with_reducible exact Pick.here) | (with_reducible apply Pick.there))); done))) | ((with_reducible apply SubH.consR); (focus ((repeat (first | (with_reducible exact Pick.here) | (with_reducible apply Pick.there))); done)); (first | rfl | simp; done)) | ((with_reducible apply SubH.consO); (focus ((repeat (first | (with_reducible exact Pick.here) | (with_reducible apply Pick.there))); done)); (first | rfl | simp; done); (first | rfl | simp; done)) | exact SubH.drop SubH.refl | apply SubH.drop)) ⟨Nat.zero_le _, fun j h => absurd h (by omega)⟩ ?_
  rintro i ⟨hi, hI⟩
  by_cases hlt : i < kids.length
  · obtain ⟨b1, o1, rfl, hr1⟩ := RdH.at hk0 (Mem.start w) i hlt
    have hbp := hCMk hbm _ (List.getElem_mem hlt)
    have hQ := hRKi i
    rw [List.getElem?_eq_getElem hlt] at hQ
    generalize kids[i] = k at *
    have hnext : Q i → ∀ j, j < i + 1 → Q j := fun hk j hj => by
      rcases Nat.lt_or_eq_of_le (Nat.le_of_lt_succ hj) with h1 | h1
      · exact hI j h1
      · subst h1; exact hk
    clear hI hk0 hmay hRKi hCMk hCMn
    refine go_ _ ?_
    (first | ((with_reducible apply so_new); rfl; (first | (with_reducible rfl) | assumption | exact decide_eq_true (by omega) | (simp only [Bool.not_eq_true', Bool.not_eq_false', decide_eq_false_iff_not, decide_eq_true_eq] <;> first | assumption | omega) | decide); exact tZ rfl; (first | exact Nat.le_of_ble_eq_true rfl | decide); (intro; rfl); (first | (with_reducible rfl) | assumption | exact decide_eq_true (by omega) | (simp only [Bool.not_eq_true', Bool.not_eq_false', decide_eq_false_iff_not, decide_eq_true_eq] <;> first | assumption | omega) | decide); (intro; rfl); rfl; exact tS rfl; rfl; rfl) | ((with_reducible apply so_alloc); rfl; (first | (with_reducible rfl) | assumption | exact decide_eq_true (by omega) | (simp only [Bool.not_eq_true', Bool.not_eq_false', decide_eq_false_iff_not, decide_eq_true_eq] <;> first | assumption | omega) | decide); exact tZ rfl; (focus ((repeat (first | (with_reducible exact CopyL.agg) | exact CopyL.nil | (apply CopyL.consI; rfl) | (apply CopyL.consB; rfl) | (apply CopyL.consS; rfl) | (apply CopyL.consP; rfl) | (apply CopyL.consF; rfl) | apply CopyL.cons)); done)); (first | exact Nat.le_of_ble_eq_true rfl | decide)) | ((with_reducible apply so_box); rfl; (first | (with_reducible rfl) | assumption | exact decide_eq_true (by omega) | (simp only [Bool.not_eq_true', Bool.not_eq_false', decide_eq_false_iff_not, decide_eq_true_eq] <;> first | assumption | omega) | decide); rfl; (focus ((repeat (first | (with_reducible exact CopyL.agg) | exact CopyL.nil | (apply CopyL.consI; rfl) | (apply CopyL.consB; rfl) | (apply CopyL.consS; rfl) | (apply CopyL.consP; rfl) | (apply CopyL.consF; rfl) | apply CopyL.cons)); done)); (first | exact Nat.le_of_ble_eq_true rfl | decide)))
    intro q4
    refine go_ _ ?_
    by_cases a1 : ¬ k.h.k = 0
    · skip
      refine go_ _ ?_
      simp only [List.append_eq, List.cons_append, List.nil_append]
      refine go_ _ ?_
      refine so_callQ (fun w1 _ => crworks_any w1) rfl (by (first | (with_reducible rfl) | assumption | exact decide_eq_true (by omega) | (simp only [Bool.not_eq_true', Bool.not_eq_false', decide_eq_false_iff_not, decide_eq_true_eq] <;> first | assumption | omega) | decide)) rfl (tF rfl) (Nat.le_of_ble_eq_true rfl) ?_
      refine go_ _ ?_
      exact sret1 rfl rfl rfl
    by_cases a2 : ¬ k.minh.k = 0
    · skip
      refine go_ _ ?_
      simp only [List.append_eq, List.cons_append, List.nil_append]
      refine go_ _ ?_
      refine so_callQ (fun w1 _ => crworks_any w1) rfl (by (first | (with_reducible rfl) | assumption | exact decide_eq_true (by omega) | (simp only [Bool.not_eq_true', Bool.not_eq_false', decide_eq_false_iff_not, decide_eq_true_eq] <;> first | assumption | omega) | decide)) rfl (tF rfl) (Nat.le_of_ble_eq_true rfl) ?_
      refine go_ _ ?_
      exact sret1 rfl rfl rfl
    by_cases a3 : ¬ k.maxh.k = 0
    · skip
      refine go_ _ ?_
      simp only [List.append_eq, List.cons_append, List.nil_append]
      refine go_ _ ?_
      refine so_callQ (fun w1 _ => crworks_any w1) rfl (by (first | (with_reducible rfl) | assumption | exact decide_eq_true (by omega) | (simp only [Bool.not_eq_true', Bool.not_eq_false', decide_eq_false_iff_not, decide_eq_true_eq] <;> first | assumption | omega) | decide)) rfl (tF rfl) (Nat.le_of_ble_eq_true rfl) ?_
      refine go_ _ ?_
      exact sret1 rfl rfl rfl
    by_cases a4 : us.length ≤ i
    · skip
      refine go_ _ ?_
      simp only [List.append_eq, List.cons_append, List.nil_append]
      refine go_ _ ?_
      refine so_callQ (fun w1 _ => crworks_any w1) rfl (by (first | (with_reducible rfl) | assumption | exact decide_eq_true (by omega) | (simp only [Bool.not_eq_true', Bool.not_eq_false', decide_eq_false_iff_not, decide_eq_true_eq] <;> first | assumption | omega) | decide)) rfl (tF rfl) (Nat.le_of_ble_eq_true rfl) ?_
      refine go_ _ ?_
      exact sret1 rfl rfl rfl
    by_cases a5 : hs.length ≤ i
    · skip
      refine go_ _ ?_
      simp only [List.append_eq, List.cons_append, List.nil_append]
      refine go_ _ ?_
      refine so_callQ (fun w1 _ => crworks_any w1) rfl (by (first | (with_reducible rfl) | assumption | exact decide_eq_true (by omega) | (simp only [Bool.not_eq_true', Bool.not_eq_false', decide_eq_false_iff_not, decide_eq_true_eq] <;> first | assumption | omega) | decide)) rfl (tF rfl) (Nat.le_of_ble_eq_true rfl) ?_
      refine go_ _ ?_
      exact sret1 rfl rfl rfl
    obtain ⟨b2, o2, rfl, hr2⟩ := RdH.at hu0 (Mem.start w) i (by omega)
    obtain ⟨b3, o3, rfl, hr3⟩ := RdH.at hh0 (Mem.start w) i (by omega)
    have hus := us[i]?.getD ⟨0, 0, 0⟩
    generalize hue : us[i] = u at *
    generalize hhe : hs[i] = hh at *
    obtain ⟨uw, ul, ur⟩ := u
    unfold Us.cells at hr2
    unfold hC at hr3
    dsimp only at hr2
    by_cases a6 : 1073741824 < uw
    · skip
      refine go_ _ ?_
      simp only [List.append_eq, List.cons_append, List.nil_append]
      refine go_ _ ?_
      refine so_callQ (fun w1 _ => crworks_any w1) rfl (by (first | (with_reducible rfl) | assumption | exact decide_eq_true (by omega) | (simp only [Bool.not_eq_true', Bool.not_eq_false', decide_eq_false_iff_not, decide_eq_true_eq] <;> first | assumption | omega) | decide)) rfl (tF rfl) (Nat.le_of_ble_eq_true rfl) ?_
      refine go_ _ ?_
      exact sret1 rfl rfl rfl
    by_cases a7 : ul < 0
    · skip
      refine go_ _ ?_
      simp only [List.append_eq, List.cons_append, List.nil_append]
      refine go_ _ ?_
      refine so_callQ (fun w1 _ => crworks_any w1) rfl (by (first | (with_reducible rfl) | assumption | exact decide_eq_true (by omega) | (simp only [Bool.not_eq_true', Bool.not_eq_false', decide_eq_false_iff_not, decide_eq_true_eq] <;> first | assumption | omega) | decide)) rfl (tF rfl) (Nat.le_of_ble_eq_true rfl) ?_
      refine go_ _ ?_
      exact sret1 rfl rfl rfl
    by_cases a8 : 1073741824 < ul
    · skip
      refine go_ _ ?_
      simp only [List.append_eq, List.cons_append, List.nil_append]
      refine go_ _ ?_
      refine so_callQ (fun w1 _ => crworks_any w1) rfl (by (first | (with_reducible rfl) | assumption | exact decide_eq_true (by omega) | (simp only [Bool.not_eq_true', Bool.not_eq_false', decide_eq_false_iff_not, decide_eq_true_eq] <;> first | assumption | omega) | decide)) rfl (tF rfl) (Nat.le_of_ble_eq_true rfl) ?_
      refine go_ _ ?_
      exact sret1 rfl rfl rfl
    by_cases a9 : ur < 0
    · skip
      refine go_ _ ?_
      simp only [List.append_eq, List.cons_append, List.nil_append]
      refine go_ _ ?_
      refine so_callQ (fun w1 _ => crworks_any w1) rfl (by (first | (with_reducible rfl) | assumption | exact decide_eq_true (by omega) | (simp only [Bool.not_eq_true', Bool.not_eq_false', decide_eq_false_iff_not, decide_eq_true_eq] <;> first | assumption | omega) | decide)) rfl (tF rfl) (Nat.le_of_ble_eq_true rfl) ?_
      refine go_ _ ?_
      exact sret1 rfl rfl rfl
    by_cases a10 : 1073741824 < ur
    · skip
      refine go_ _ ?_
      simp only [List.append_eq, List.cons_append, List.nil_append]
      refine go_ _ ?_
      refine so_callQ (fun w1 _ => crworks_any w1) rfl (by (first | (with_reducible rfl) | assumption | exact decide_eq_true (by omega) | (simp only [Bool.not_eq_true', Bool.not_eq_false', decide_eq_false_iff_not, decide_eq_true_eq] <;> first | assumption | omega) | decide)) rfl (tF rfl) (Nat.le_of_ble_eq_true rfl) ?_
      refine go_ _ ?_
      exact sret1 rfl rfl rfl
    by_cases a11 : 1073741824 < hh
    · skip
      refine go_ _ ?_
      simp only [List.append_eq, List.cons_append, List.nil_append]
      refine go_ _ ?_
      refine so_callQ (fun w1 _ => crworks_any w1) rfl (by (first | (with_reducible rfl) | assumption | exact decide_eq_true (by omega) | (simp only [Bool.not_eq_true', Bool.not_eq_false', decide_eq_false_iff_not, decide_eq_true_eq] <;> first | assumption | omega) | decide)) rfl (tF rfl) (Nat.le_of_ble_eq_true rfl) ?_
      refine go_ _ ?_
      exact sret1 rfl rfl rfl
    have hQ := fun h => hQ k ⟨uw, ul, ur⟩ hh rfl (by rw [List.getElem?_eq_getElem (by omega), hue]) (by rw [List.getElem?_eq_getElem (by omega), hhe]) h
    refine go_ _ ?_
    simp only [List.append_eq, List.cons_append, List.nil_append]
    refine go_ _ ?_
    refine s_rounds 5 ?_
    refine sl_round ?_
    by_cases c00 : k.m0.k = 2
    · skip
      refine go_ _ ?_
      refine so_callQ (fun w1 _ => crworks_any w1) rfl (by (first | (with_reducible rfl) | assumption | exact decide_eq_true (by omega) | (simp only [Bool.not_eq_true', Bool.not_eq_false', decide_eq_false_iff_not, decide_eq_true_eq] <;> first | assumption | omega) | decide)) rfl (tF rfl) (Nat.le_of_ble_eq_true rfl) ?_
      refine go_ _ ?_
      exact sret1 rfl rfl rfl
    by_cases c01 : k.m0.n < 0
    · skip
      refine go_ _ ?_
      refine so_callQ (fun w1 _ => crworks_any w1) rfl (by (first | (with_reducible rfl) | assumption | exact decide_eq_true (by omega) | (simp only [Bool.not_eq_true', Bool.not_eq_false', decide_eq_false_iff_not, decide_eq_true_eq] <;> first | assumption | omega) | decide)) rfl (tF rfl) (Nat.le_of_ble_eq_true rfl) ?_
      refine go_ _ ?_
      exact sret1 rfl rfl rfl
    by_cases c02 : 1073741824 < k.m0.n
    · skip
      refine go_ _ ?_
      refine so_callQ (fun w1 _ => crworks_any w1) rfl (by (first | (with_reducible rfl) | assumption | exact decide_eq_true (by omega) | (simp only [Bool.not_eq_true', Bool.not_eq_false', decide_eq_false_iff_not, decide_eq_true_eq] <;> first | assumption | omega) | decide)) rfl (tF rfl) (Nat.le_of_ble_eq_true rfl) ?_
      refine go_ _ ?_
      exact sret1 rfl rfl rfl
    by_cases c03 : 1073741824 < k.b0
    · skip
      refine go_ _ ?_
      refine so_callQ (fun w1 _ => crworks_any w1) rfl (by (first | (with_reducible rfl) | assumption | exact decide_eq_true (by omega) | (simp only [Bool.not_eq_true', Bool.not_eq_false', decide_eq_false_iff_not, decide_eq_true_eq] <;> first | assumption | omega) | decide)) rfl (tF rfl) (Nat.le_of_ble_eq_true rfl) ?_
      refine go_ _ ?_
      exact sret1 rfl rfl rfl
    by_cases c04 : 1073741824 < k.p0
    · skip
      refine go_ _ ?_
      refine so_callQ (fun w1 _ => crworks_any w1) rfl (by (first | (with_reducible rfl) | assumption | exact decide_eq_true (by omega) | (simp only [Bool.not_eq_true', Bool.not_eq_false', decide_eq_false_iff_not, decide_eq_true_eq] <;> first | assumption | omega) | decide)) rfl (tF rfl) (Nat.le_of_ble_eq_true rfl) ?_
      refine go_ _ ?_
      exact sret1 rfl rfl rfl
    refine go_ _ ?_
    refine sl_round ?_
    by_cases c10 : k.m1.k = 2
    · skip
      refine go_ _ ?_
      refine so_callQ (fun w1 _ => crworks_any w1) rfl (by (first | (with_reducible rfl) | assumption | exact decide_eq_true (by omega) | (simp only [Bool.not_eq_true', Bool.not_eq_false', decide_eq_false_iff_not, decide_eq_true_eq] <;> first | assumption | omega) | decide)) rfl (tF rfl) (Nat.le_of_ble_eq_true rfl) ?_
      refine go_ _ ?_
      exact sret1 rfl rfl rfl
    by_cases c11 : k.m1.n < 0
    · skip
      refine go_ _ ?_
      refine so_callQ (fun w1 _ => crworks_any w1) rfl (by (first | (with_reducible rfl) | assumption | exact decide_eq_true (by omega) | (simp only [Bool.not_eq_true', Bool.not_eq_false', decide_eq_false_iff_not, decide_eq_true_eq] <;> first | assumption | omega) | decide)) rfl (tF rfl) (Nat.le_of_ble_eq_true rfl) ?_
      refine go_ _ ?_
      exact sret1 rfl rfl rfl
    by_cases c12 : 1073741824 < k.m1.n
    · skip
      refine go_ _ ?_
      refine so_callQ (fun w1 _ => crworks_any w1) rfl (by (first | (with_reducible rfl) | assumption | exact decide_eq_true (by omega) | (simp only [Bool.not_eq_true', Bool.not_eq_false', decide_eq_false_iff_not, decide_eq_true_eq] <;> first | assumption | omega) | decide)) rfl (tF rfl) (Nat.le_of_ble_eq_true rfl) ?_
      refine go_ _ ?_
      exact sret1 rfl rfl rfl
    by_cases c13 : 1073741824 < k.b1
    · skip
      refine go_ _ ?_
      refine so_callQ (fun w1 _ => crworks_any w1) rfl (by (first | (with_reducible rfl) | assumption | exact decide_eq_true (by omega) | (simp only [Bool.not_eq_true', Bool.not_eq_false', decide_eq_false_iff_not, decide_eq_true_eq] <;> first | assumption | omega) | decide)) rfl (tF rfl) (Nat.le_of_ble_eq_true rfl) ?_
      refine go_ _ ?_
      exact sret1 rfl rfl rfl
    by_cases c14 : 1073741824 < k.p1
    · skip
      refine go_ _ ?_
      refine so_callQ (fun w1 _ => crworks_any w1) rfl (by (first | (with_reducible rfl) | assumption | exact decide_eq_true (by omega) | (simp only [Bool.not_eq_true', Bool.not_eq_false', decide_eq_false_iff_not, decide_eq_true_eq] <;> first | assumption | omega) | decide)) rfl (tF rfl) (Nat.le_of_ble_eq_true rfl) ?_
      refine go_ _ ?_
      exact sret1 rfl rfl rfl
    refine go_ _ ?_
    refine sl_round ?_
    by_cases c20 : k.m2.k = 2
    · skip
      refine go_ _ ?_
      refine so_callQ (fun w1 _ => crworks_any w1) rfl (by (first | (with_reducible rfl) | assumption | exact decide_eq_true (by omega) | (simp only [Bool.not_eq_true', Bool.not_eq_false', decide_eq_false_iff_not, decide_eq_true_eq] <;> first | assumption | omega) | decide)) rfl (tF rfl) (Nat.le_of_ble_eq_true rfl) ?_
      refine go_ _ ?_
      exact sret1 rfl rfl rfl
    by_cases c21 : k.m2.n < 0
    · skip
      refine go_ _ ?_
      refine so_callQ (fun w1 _ => crworks_any w1) rfl (by (first | (with_reducible rfl) | assumption | exact decide_eq_true (by omega) | (simp only [Bool.not_eq_true', Bool.not_eq_false', decide_eq_false_iff_not, decide_eq_true_eq] <;> first | assumption | omega) | decide)) rfl (tF rfl) (Nat.le_of_ble_eq_true rfl) ?_
      refine go_ _ ?_
      exact sret1 rfl rfl rfl
    by_cases c22 : 1073741824 < k.m2.n
    · skip
      refine go_ _ ?_
      refine so_callQ (fun w1 _ => crworks_any w1) rfl (by (first | (with_reducible rfl) | assumption | exact decide_eq_true (by omega) | (simp only [Bool.not_eq_true', Bool.not_eq_false', decide_eq_false_iff_not, decide_eq_true_eq] <;> first | assumption | omega) | decide)) rfl (tF rfl) (Nat.le_of_ble_eq_true rfl) ?_
      refine go_ _ ?_
      exact sret1 rfl rfl rfl
    by_cases c23 : 1073741824 < k.b2
    · skip
      refine go_ _ ?_
      refine so_callQ (fun w1 _ => crworks_any w1) rfl (by (first | (with_reducible rfl) | assumption | exact decide_eq_true (by omega) | (simp only [Bool.not_eq_true', Bool.not_eq_false', decide_eq_false_iff_not, decide_eq_true_eq] <;> first | assumption | omega) | decide)) rfl (tF rfl) (Nat.le_of_ble_eq_true rfl) ?_
      refine go_ _ ?_
      exact sret1 rfl rfl rfl
    by_cases c24 : 1073741824 < k.p2
    · skip
      refine go_ _ ?_
      refine so_callQ (fun w1 _ => crworks_any w1) rfl (by (first | (with_reducible rfl) | assumption | exact decide_eq_true (by omega) | (simp only [Bool.not_eq_true', Bool.not_eq_false', decide_eq_false_iff_not, decide_eq_true_eq] <;> first | assumption | omega) | decide)) rfl (tF rfl) (Nat.le_of_ble_eq_true rfl) ?_
      refine go_ _ ?_
      exact sret1 rfl rfl rfl
    refine go_ _ ?_
    refine sl_round ?_
    by_cases c30 : k.m3.k = 2
    · skip
      refine go_ _ ?_
      refine so_callQ (fun w1 _ => crworks_any w1) rfl (by (first | (with_reducible rfl) | assumption | exact decide_eq_true (by omega) | (simp only [Bool.not_eq_true', Bool.not_eq_false', decide_eq_false_iff_not, decide_eq_true_eq] <;> first | assumption | omega) | decide)) rfl (tF rfl) (Nat.le_of_ble_eq_true rfl) ?_
      refine go_ _ ?_
      exact sret1 rfl rfl rfl
    by_cases c31 : k.m3.n < 0
    · skip
      refine go_ _ ?_
      refine so_callQ (fun w1 _ => crworks_any w1) rfl (by (first | (with_reducible rfl) | assumption | exact decide_eq_true (by omega) | (simp only [Bool.not_eq_true', Bool.not_eq_false', decide_eq_false_iff_not, decide_eq_true_eq] <;> first | assumption | omega) | decide)) rfl (tF rfl) (Nat.le_of_ble_eq_true rfl) ?_
      refine go_ _ ?_
      exact sret1 rfl rfl rfl
    by_cases c32 : 1073741824 < k.m3.n
    · skip
      refine go_ _ ?_
      refine so_callQ (fun w1 _ => crworks_any w1) rfl (by (first | (with_reducible rfl) | assumption | exact decide_eq_true (by omega) | (simp only [Bool.not_eq_true', Bool.not_eq_false', decide_eq_false_iff_not, decide_eq_true_eq] <;> first | assumption | omega) | decide)) rfl (tF rfl) (Nat.le_of_ble_eq_true rfl) ?_
      refine go_ _ ?_
      exact sret1 rfl rfl rfl
    by_cases c33 : 1073741824 < k.b3
    · skip
      refine go_ _ ?_
      refine so_callQ (fun w1 _ => crworks_any w1) rfl (by (first | (with_reducible rfl) | assumption | exact decide_eq_true (by omega) | (simp only [Bool.not_eq_true', Bool.not_eq_false', decide_eq_false_iff_not, decide_eq_true_eq] <;> first | assumption | omega) | decide)) rfl (tF rfl) (Nat.le_of_ble_eq_true rfl) ?_
      refine go_ _ ?_
      exact sret1 rfl rfl rfl
    by_cases c34 : 1073741824 < k.p3
    · skip
      refine go_ _ ?_
      refine so_callQ (fun w1 _ => crworks_any w1) rfl (by (first | (with_reducible rfl) | assumption | exact decide_eq_true (by omega) | (simp only [Bool.not_eq_true', Bool.not_eq_false', decide_eq_false_iff_not, decide_eq_true_eq] <;> first | assumption | omega) | decide)) rfl (tF rfl) (Nat.le_of_ble_eq_true rfl) ?_
      refine go_ _ ?_
      exact sret1 rfl rfl rfl
    refine go_ _ ?_
    refine sl_round ?_
    refine go_ _ ?_
    refine s_parts (by kernel_rfl) ?_
    refine sg_free 21 (by kernel_rfl) (go_ _ ?_)
    by_cases c9 : hh < k.b0 + k.b2 + k.p0 + k.p2
    · skip
      refine go_ _ ?_
      refine so_callQ (fun w1 _ => crworks_any w1) rfl (by (first | (with_reducible rfl) | assumption | exact decide_eq_true (by omega) | (simp only [Bool.not_eq_true', Bool.not_eq_false', decide_eq_false_iff_not, decide_eq_true_eq] <;> first | assumption | omega) | decide)) rfl (tF rfl) (Nat.le_of_ble_eq_true rfl) ?_
      refine go_ _ ?_
      exact sret1 rfl rfl rfl
    refine go_ _ ?_
    exact ⟨i + 1, by omega, (by repeat (first | exact Sub.nil | refine Sub.cons rfl ?_ | (refine Sub.consB rfl (by (first | rfl | exact decide_eq_decide.2 (by omega) | exact (decide_eq_true (by omega)).symm | exact (decide_eq_false (by omega)).symm | exact decide_eq_true (by omega) | exact decide_eq_false (by omega))) ?_))), (by repeat (first | exact SubH.refl | exact SubH.nil | ((with_reducible apply SubH.cons); (focus ((repeat (first | (with_reducible exact Pick.here) | (with_reducible apply Pick.there))); done))) | ((with_reducible apply SubH.consR); (focus ((repeat (first | (with_reducible exact Pick.here) | (with_reducible apply Pick.there))); done)); (first | rfl | simp; done)) | ((with_reducible apply SubH.consO); (focus ((repeat (first | (with_reducible exact Pick.here) | (with_reducible apply Pick.there))); done)); (first | rfl | simp; done); (first | rfl | simp; done)) | exact SubH.drop SubH.refl | apply SubH.drop)), by omega, hnext (hQ ⟨by omega, by omega, by omega, by dsimp only; omega, by dsimp only; omega, by dsimp only; omega, by omega, by omega, by omega, by omega, by omega, by omega⟩)⟩
  obtain rfl : i = kids.length := by omega
  subst hRKe
  subst hCM
  have hsh : s.h.k = 0 := by omega
  have hrb := hbm.rb
  have hplb := hbm.plB
  have hfr := fun (q : Nat) (r : List Nat) hr (j k : Nat) hk => (frag_at hbm hI hsh (q := q) (r := r) hr (j := j) (k := k) hk).1
  have hnx := fun (q : Nat) (r : List Nat) hr (j k k' : Nat) hk hk' => frag_next hbm hI hsh (q := q) (r := r) hr (j := j) (k := k) (k' := k') hk hk'
  have hit := fun (k : Nat) hk => item_at hbm hI (k := k) hk
  have htn := fun (r : List Nat) (j k : Nat) hk hkn => tall_next hbm hI (r := r) (j := j) (k := k) hk hkn
  have hti := tall_in' hbm hI
  have hTi := T_in hbm hI hsh
  have hTs := fun (q : Nat) (r : List Nat) h => T_succ (x := (⟨s, c, kids, us, hs, Ak, Au, Ah, ck, cu, ch⟩ : Case)) hsh (q := q) (r := r) h
  have hhe := high_eq hbm hI hsh
  have hXs : (⟨s, c, kids, us, hs, Ak, Au, Ah, ck, cu, ch⟩ : Case).s = s := rfl
  have hXP : placeM s c (itemsM c kids us hs) (rowsD s c kids []) = (⟨s, c, kids, us, hs, Ak, Au, Ah, ck, cu, ch⟩ : Case).P := rfl
  have hT0 : (⟨s, c, kids, us, hs, Ak, Au, Ah, ck, cu, ch⟩ : Case).T 0 = 0 := by unfold Case.T; cases rowsD s c kids [] <;> rfl
  have hTa0 : (⟨s, c, kids, us, hs, Ak, Au, Ah, ck, cu, ch⟩ : Case).Tall [] = 0 := rfl
  have hrl := rowsD_len s c kids []
  have hRk := hR.k; have hRu := hR.u; have hRh := hR.h
  dsimp only at hrb hplb hRk hRu hRh hfr hnx hit htn hhe hTs
  have hcR : ∀ w1, Mem w.heap.size w [] w1 → _ := fun w1 h1 => rrows_any s c kids [] Ak none ck 0 w1 (hRk.keep h1.below) Rd.nil hrb (by simp) (by omega)
  have hcP : ∀ (fin : List RS) (A : Option Addr) (cap : Nat), fin.reverse.map RS.l = rowsD s c kids [] → ∀ w1, Mem w.heap.size w (own A fin.length cap 50 1 (fin.reverse.flatMap RS.cells) :: fin.map RS.own) w1 → _ := fun fin A cap hfin w1 h1 => by
    have := crplace_any s c kids us hs fin.reverse Ak Au Ah A ck cu ch cap w1 (hRk.keep h1.below) (hRu.keep h1.below) (hRh.keep h1.below) (h1.rdOwn .here (by decide) (fun _ => rfl))
      (fun r hr => RS.rd h1 (List.mem_cons_of_mem _ (List.mem_map.2 ⟨r, by simpa using hr, rfl⟩))) (by rw [hfin]; exact hplb)
    rw [hfin, List.length_reverse, hXP] at this
    exact this
  clear hXP hbm hI hmay hRKi hCMk hCMn hR hrb hplb
  generalize (⟨s, c, kids, us, hs, Ak, Au, Ah, ck, cu, ch⟩ : Case) = X at *
  refine go_ _ ?_
  refine so_callN (hj := fun i => catH_all _ _) (hc := fun w1 h1 => hcR w1 (h1.sub .nil)) rfl rfl rfl (tF rfl) (Nat.le_of_ble_eq_true rfl) ?_
  rintro ⟨fin, A, cap⟩ hfin
  dsimp only at hfin ⊢
  refine so_sub .refl (L := row q 33 (s.cells ++ [.int .i64 c, .slice Ak kids.length ck, .slice Au us.length cu, .slice Ah hs.length ch]) :: own A fin.length cap 50 1 (fin.reverse.flatMap RS.cells) :: fin.map RS.own) (.of_perm (by rw [List.cons_append]; exact (List.Perm.cons _ (List.perm_append_singleton _ _)).trans (List.Perm.swap _ _ _))) ?_
  refine go_ _ ?_
  refine so_callN (hc := fun w1 h1 => hcP fin A cap hfin w1 (h1.sub (by repeat (first | exact SubH.refl | exact SubH.nil | ((with_reducible apply SubH.cons); (focus ((repeat (first | (with_reducible exact Pick.here) | (with_reducible apply Pick.there))); done))) | ((with_reducible apply SubH.consR); (focus ((repeat (first | (with_reducible exact Pick.here) | (with_reducible apply Pick.there))); done)); (first | rfl | simp; done)) | ((with_reducible apply SubH.consO); (focus ((repeat (first | (with_reducible exact Pick.here) | (with_reducible apply Pick.there))); done)); (first | rfl | simp; done); (first | rfl | simp; done)) | exact SubH.drop SubH.refl | apply SubH.drop)))) rfl rfl rfl (tF rfl) (Nat.le_of_ble_eq_true rfl) ?_
  rintro ⟨⟨A1, c1⟩, B1, d1⟩ _
  dsimp only
  clear hcP hcR
  rw [hhe]
  have hkn : ∀ (q : Nat) (r : List Nat), (rowsD s c kids [])[q]? = some r → ∀ j k : Nat, r[j]? = some k → k < kids.length := fun q r hr j k hk => (hrl.2 r (List.mem_of_getElem? hr)).2 k (List.mem_of_getElem? hk)
  have hfl : (rowsD s c kids []).length = fin.length := by rw [← hfin]; simp
  have hfq : ∀ (q : Nat) (ρ : RS), fin.reverse[q]? = some ρ → (rowsD s c kids [])[q]? = some ρ.l := fun q ρ h => by rw [← hfin, List.getElem?_map, h]; rfl
  rw [hfl] at hrl ⊢
  clear hfin
  generalize rowsD s c kids [] = rows at *
  refine so_sub .refl (L := own A1 kids.length c1 46 5 ((X.P.1.map cutF).flatMap Fg.cells) :: row q 33 (s.cells ++ [.int .i64 c, .slice Ak kids.length ck, .slice Au us.length cu, .slice Ah hs.length ch]) :: own A fin.length cap 50 1 (fin.reverse.flatMap RS.cells) :: fin.map RS.own) (by repeat (first | exact SubH.refl | exact SubH.nil | ((with_reducible apply SubH.cons); (focus ((repeat (first | (with_reducible exact Pick.here) | (with_reducible apply Pick.there))); done))) | ((with_reducible apply SubH.consR); (focus ((repeat (first | (with_reducible exact Pick.here) | (with_reducible apply Pick.there))); done)); (first | rfl | simp; done)) | ((with_reducible apply SubH.consO); (focus ((repeat (first | (with_reducible exact Pick.here) | (with_reducible apply Pick.there))); done)); (first | rfl | simp; done); (first | rfl | simp; done)) | exact SubH.drop SubH.refl | apply SubH.drop)) ?_
  refine go_ _ ?_
  refine s_loop (ι := Nat) (fun r => [(1, .pointer (some ⟨q, 0, none⟩)), (6, .slice A fin.length cap), (7, .slice A1 kids.length c1), (8, .int .i64 (X.T fin.length)), (10, .int .i64 (X.T r)), (11, .int .i64 (r : Nat))]) (fun _ => (own A1 kids.length c1 46 5 ((X.P.1.map cutF).flatMap Fg.cells) :: row q 33 (s.cells ++ [.int .i64 c, .slice Ak kids.length ck, .slice Au us.length cu, .slice Ah hs.length ch]) :: own A fin.length cap 50 1 (fin.reverse.flatMap RS.cells) :: fin.map RS.own))
    (fun r => r ≤ fin.length) (fun r => fin.length - r) 0 (by repeat (first | exact Sub.nil | refine Sub.cons rfl ?_ | (refine Sub.consE rfl (by rw [hT0]) ?_))) (by repeat (first | exact SubH.refl | exact SubH.nil | ((with_reducible apply SubH.cons); (focus ((repeat (first | (with_reducible exact Pick.here) | (with_reducible apply Pick.there))); done))) | ((with_reducible apply SubH.consR); (focus ((repeat (first | (with_reducible exact Pick.here) | (with_reducible apply Pick.there))); done)); (first | rfl | simp; done)) | ((with_reducible apply SubH.consO); (focus ((repeat (first | (with_reducible exact Pick.here) | (with_reducible apply Pick.there))); done)); (first | rfl | simp; done); (first | rfl | simp; done)) | exact SubH.drop SubH.refl | apply SubH.drop)) (Nat.zero_le _) ?_
  intro r hr
  by_cases hrlt : r < fin.length
  · obtain ⟨ρ, hρ⟩ : ∃ ρ, fin.reverse[r]? = some ρ := ⟨_, List.getElem?_eq_getElem (by simp; omega)⟩
    have hrow := hfq r ρ hρ
    have hmem : ρ ∈ fin := by have := List.mem_of_getElem? hρ; simpa using this
    have hrlen := (hrl.2 ρ.l (List.mem_of_getElem? hrow)).1
    have hTr1 := hTs r ρ.l hrow
    refine s_ownSome (.there (.there .here)) (by omega) fun ga hga => ?_
    subst hga
    have rr : Rw w.heap.size w (own (some ⟨ga, 0, none⟩) fin.length cap 50 1 (fin.reverse.flatMap RS.cells) :: fin.map RS.own) ga (0 + r * 1) ρ.cells := own_get (c := RS.cells) (by decide) (fun _ => rfl) hρ
    have hin : RdH w.heap.size w (own A1 kids.length c1 46 5 ((X.P.1.map cutF).flatMap Fg.cells) :: row q 33 (s.cells ++ [.int .i64 c, .slice Ak kids.length ck, .slice Au us.length cu, .slice Ah hs.length ch]) :: own (some ⟨ga, 0, none⟩) fin.length cap 50 1 (fin.reverse.flatMap RS.cells) :: fin.map RS.own) kC 1 ρ.A ρ.l := fun w1 hw1 => RS.rd (r := ρ) hw1 (List.mem_cons_of_mem _ (List.mem_cons_of_mem _ (List.mem_cons_of_mem _ (List.mem_map.2 ⟨ρ, hmem, rfl⟩))))
    obtain ⟨ρA, rl, ρc⟩ := ρ
    unfold RS.cells at rr
    dsimp only at rr hin hrow hrlen hTr1
    clear hρ hmem
    refine go_ _ ?_
    refine s_loop (ι := Nat × Int) (fun i => [(1, .pointer (some ⟨q, 0, none⟩)), (6, .slice (some ⟨ga, 0, none⟩) fin.length cap), (7, .slice A1 kids.length c1), (8, .int .i64 (X.T fin.length)), (10, .int .i64 (X.T r)), (11, .int .i64 (r : Nat)), (12, .int .i64 (X.Tall (rl.take i.1))), (13, .int .i64 i.2), (14, .int .i64 (i.1 : Nat))]) (fun _ => (own A1 kids.length c1 46 5 ((X.P.1.map cutF).flatMap Fg.cells) :: row q 33 (s.cells ++ [.int .i64 c, .slice Ak kids.length ck, .slice Au us.length cu, .slice Ah hs.length ch]) :: own (some ⟨ga, 0, none⟩) fin.length cap 50 1 (fin.reverse.flatMap RS.cells) :: fin.map RS.own))
      (fun i => i.1 ≤ rl.length ∧ (i.1 = 0 ∧ i.2 = 0 ∨ ∃ j' k', i.1 = j' + 1 ∧ rl[j']? = some k' ∧ i.2 = (X.F k').x + (X.F k').w + (X.U k').right)) (fun i => rl.length - i.1) (0, 0) (by repeat (first | exact Sub.nil | refine Sub.cons rfl ?_ | (refine Sub.consE rfl (by rw [List.take_zero, hTa0]) ?_))) (by repeat (first | exact SubH.refl | exact SubH.nil | ((with_reducible apply SubH.cons); (focus ((repeat (first | (with_reducible exact Pick.here) | (with_reducible apply Pick.there))); done))) | ((with_reducible apply SubH.consR); (focus ((repeat (first | (with_reducible exact Pick.here) | (with_reducible apply Pick.there))); done)); (first | rfl | simp; done)) | ((with_reducible apply SubH.consO); (focus ((repeat (first | (with_reducible exact Pick.here) | (with_reducible apply Pick.there))); done)); (first | rfl | simp; done); (first | rfl | simp; done)) | exact SubH.drop SubH.refl | apply SubH.drop)) ⟨Nat.zero_le _, .inl ⟨rfl, rfl⟩⟩ ?_
    rintro ⟨j, at_⟩ ⟨hj, hat⟩
    dsimp only at hj hat ⊢
    by_cases hjlt : j < rl.length
    · obtain ⟨k, hk⟩ : ∃ k, rl[j]? = some k := ⟨_, List.getElem?_eq_getElem hjlt⟩
      have htn1 := htn rl j k hk (hkn r rl hrow j k hk)
      have htj := hti (rl.take j)
      have hnew : (∃ j' k', j + 1 = j' + 1 ∧ rl[j']? = some k' ∧ (X.F k).x + (X.F k).w + (X.U k).right = (X.F k').x + (X.F k').w + (X.U k').right) := ⟨j, k, rfl, hk, rfl⟩
      have hatb : (j = 0 ∧ at_ = 0) ∨ (0 < j ∧ at_ + (X.U k).left ≤ (X.F k).x ∧ -2000000000000 ≤ at_) := by
        rcases hat with h | ⟨j', k', rfl, hk', rfl⟩
        · exact .inl h
        · obtain ⟨fk⟩ := hfr r rl hrow j' k' hk'
          have h2 := (hit k' (hkn r rl hrow j' k' hk')).2.2.2.1.right
          exact .inr ⟨by omega, hnx r rl hrow j' k' k hk' hk, by omega⟩
      have hkN := hkn r rl hrow j k hk
      obtain ⟨i1, i2, i3, i4, i5, i6, _⟩ := hit k hkN
      obtain ⟨gn, gf, gy0, gy1, gh0, gh3, gxb, gwb, ghb, gtb⟩ := hfr r rl hrow j k hk
      rw [hXs] at gh0 gh3
      refine s_ownSome .here (by omega) fun g1 hg1 => ?_
      subst hg1
      refine s_rdAt hin hk fun bi oi hbi ri => ?_
      subst hbi
      refine s_rdAt (hk0.sub .nil) i1 fun bk ok_ hbk rk => ?_
      subst hbk
      refine s_rdAt (hu0.sub .nil) i2 fun bu ou hbu ru => ?_
      subst hbu
      refine s_rdAt (hh0.sub .nil) i3 fun bh oh hbh rh => ?_
      subst hbh
      have rf : Rw w.heap.size w (own (some ⟨g1, 0, none⟩) kids.length c1 46 5 ((X.P.1.map cutF).flatMap Fg.cells) :: row q 33 (s.cells ++ [.int .i64 c, .slice (some ⟨bk, ok_, none⟩) kids.length ck, .slice (some ⟨bu, ou, none⟩) us.length cu, .slice (some ⟨bh, oh, none⟩) hs.length ch]) :: own (some ⟨ga, 0, none⟩) fin.length cap 50 1 (fin.reverse.flatMap RS.cells) :: fin.map RS.own) g1 (0 + k * 5) (X.F k).cells := own_get (by decide) Fg.len gf
      have rm0 := rw_part (j := 16) (n := 2) (ds := (X.S k).m0.cells) rk rfl
      rw [show ok_ + k * 43 + 16 = ok_ + k * 43 + 16 + 0 * 2 by omega] at rm0
      have rm2 := rw_part (j := 20) (n := 2) (ds := (X.S k).m2.cells) rk rfl
      rw [show ok_ + k * 43 + 20 = ok_ + k * 43 + 16 + 2 * 2 by omega] at rm2
      unfold Ln.cells at rm0 rm2
      have m0 := i4.m0; have m2 := i4.m2; have il := i4.left; have ir := i4.right; have iw := i4.w; have ih := i4.hh
      have hTr := hTi r; have hTl := hti rl
      have hku := (List.getElem?_eq_some_iff.1 i2).1
      have hkh := (List.getElem?_eq_some_iff.1 i3).1
      unfold kC at ri
      unfold Us.cells at ru
      unfold hC at rh
      unfold Fg.cells at rf
      clear hfr hnx hit htn hti hTi hTs hkn hrl hfq hk0 hu0 hh0 hRk hRu hRh hbm hat
      generalize X.F k = fk at *
      obtain ⟨fx, fy, fw, fh⟩ := fk
      generalize X.U k = uk at *
      obtain ⟨uw, ul, ur⟩ := uk
      generalize X.S k = sk at *
      generalize X.Hh k = hk_ at *
      dsimp only at gy0 gy1 gh0 gh3 gxb gwb ghb ru rh rf hatb il ir iw hnew
      rcases hatb with ⟨rfl, rfl⟩ | ⟨hj0, hat1, hat2⟩
      · skip
        refine go_ _ ?_
        refine s_parts (by kernel_rfl) ?_
        refine sg_free 26 (by kernel_rfl) (go_ _ ?_)
        refine s_parts (by kernel_rfl) ?_
        refine sg_free 18 (by kernel_rfl) (go_ _ ?_)
        refine s_parts (by kernel_rfl) ?_
        refine sg_free 19 (by kernel_rfl) (go_ _ ?_)
        exact ⟨(1, fx + fw + ur), by dsimp only; omega, by rw [htn1]; exact (by repeat (first | exact Sub.nil | refine Sub.cons rfl ?_ | (refine Sub.consB rfl (by (first | rfl | exact decide_eq_decide.2 (by omega) | exact (decide_eq_true (by omega)).symm | exact (decide_eq_false (by omega)).symm | exact decide_eq_true (by omega) | exact decide_eq_false (by omega))) ?_))), (by repeat (first | exact SubH.refl | exact SubH.nil | ((with_reducible apply SubH.cons); (focus ((repeat (first | (with_reducible exact Pick.here) | (with_reducible apply Pick.there))); done))) | ((with_reducible apply SubH.consR); (focus ((repeat (first | (with_reducible exact Pick.here) | (with_reducible apply Pick.there))); done)); (first | rfl | simp; done)) | ((with_reducible apply SubH.consO); (focus ((repeat (first | (with_reducible exact Pick.here) | (with_reducible apply Pick.there))); done)); (first | rfl | simp; done); (first | rfl | simp; done)) | exact SubH.drop SubH.refl | apply SubH.drop)), by dsimp only; omega, .inr hnew⟩
      · skip
        refine go_ _ ?_
        refine s_parts (by kernel_rfl) ?_
        refine sg_free 26 (by kernel_rfl) (go_ _ ?_)
        refine s_parts (by kernel_rfl) ?_
        refine sg_free 18 (by kernel_rfl) (go_ _ ?_)
        refine s_parts (by kernel_rfl) ?_
        refine sg_free 19 (by kernel_rfl) (go_ _ ?_)
        exact ⟨(j + 1, fx + fw + ur), by dsimp only; omega, by rw [htn1]; exact (by repeat (first | exact Sub.nil | refine Sub.cons rfl ?_ | (refine Sub.consB rfl (by (first | rfl | exact decide_eq_decide.2 (by omega) | exact (decide_eq_true (by omega)).symm | exact (decide_eq_false (by omega)).symm | exact decide_eq_true (by omega) | exact decide_eq_false (by omega))) ?_))), (by repeat (first | exact SubH.refl | exact SubH.nil | ((with_reducible apply SubH.cons); (focus ((repeat (first | (with_reducible exact Pick.here) | (with_reducible apply Pick.there))); done))) | ((with_reducible apply SubH.consR); (focus ((repeat (first | (with_reducible exact Pick.here) | (with_reducible apply Pick.there))); done)); (first | rfl | simp; done)) | ((with_reducible apply SubH.consO); (focus ((repeat (first | (with_reducible exact Pick.here) | (with_reducible apply Pick.there))); done)); (first | rfl | simp; done); (first | rfl | simp; done)) | exact SubH.drop SubH.refl | apply SubH.drop)), by dsimp only; omega, .inr hnew⟩
    obtain rfl : j = rl.length := by omega
    clear hat
    rw [List.take_length]
    refine go_ _ ?_
    refine s_loop (ι := Nat) (fun i => [(1, .pointer (some ⟨q, 0, none⟩)), (6, .slice (some ⟨ga, 0, none⟩) fin.length cap), (7, .slice A1 kids.length c1), (8, .int .i64 (X.T fin.length)), (10, .int .i64 (X.T r)), (11, .int .i64 (r : Nat)), (12, .int .i64 (X.Tall rl)), (16, .int .i64 (i : Nat))]) (fun _ => (own A1 kids.length c1 46 5 ((X.P.1.map cutF).flatMap Fg.cells) :: row q 33 (s.cells ++ [.int .i64 c, .slice Ak kids.length ck, .slice Au us.length cu, .slice Ah hs.length ch]) :: own (some ⟨ga, 0, none⟩) fin.length cap 50 1 (fin.reverse.flatMap RS.cells) :: fin.map RS.own))
      (fun i => i ≤ rl.length) (fun i => rl.length - i) 0 (by repeat (first | exact Sub.nil | refine Sub.cons rfl ?_ | (refine Sub.consB rfl (by (first | rfl | exact decide_eq_decide.2 (by omega) | exact (decide_eq_true (by omega)).symm | exact (decide_eq_false (by omega)).symm | exact decide_eq_true (by omega) | exact decide_eq_false (by omega))) ?_))) (by repeat (first | exact SubH.refl | exact SubH.nil | ((with_reducible apply SubH.cons); (focus ((repeat (first | (with_reducible exact Pick.here) | (with_reducible apply Pick.there))); done))) | ((with_reducible apply SubH.consR); (focus ((repeat (first | (with_reducible exact Pick.here) | (with_reducible apply Pick.there))); done)); (first | rfl | simp; done)) | ((with_reducible apply SubH.consO); (focus ((repeat (first | (with_reducible exact Pick.here) | (with_reducible apply Pick.there))); done)); (first | rfl | simp; done); (first | rfl | simp; done)) | exact SubH.drop SubH.refl | apply SubH.drop)) (Nat.zero_le _) ?_
    intro j hj2
    by_cases hjlt : j < rl.length
    · obtain ⟨k, hk⟩ : ∃ k, rl[j]? = some k := ⟨_, List.getElem?_eq_getElem hjlt⟩
      have hkN := hkn r rl hrow j k hk
      obtain ⟨i1, i2, i3, i4, i5, i6, _⟩ := hit k hkN
      obtain ⟨gn, gf, gy0, gy1, gh0, gh3, gxb, gwb, ghb, gtb⟩ := hfr r rl hrow j k hk
      rw [hXs] at gh0 gh3
      refine s_ownSome .here (by omega) fun g1 hg1 => ?_
      subst hg1
      refine s_rdAt hin hk fun bi oi hbi ri => ?_
      subst hbi
      refine s_rdAt (hk0.sub .nil) i1 fun bk ok_ hbk rk => ?_
      subst hbk
      refine s_rdAt (hu0.sub .nil) i2 fun bu ou hbu ru => ?_
      subst hbu
      refine s_rdAt (hh0.sub .nil) i3 fun bh oh hbh rh => ?_
      subst hbh
      have rf : Rw w.heap.size w (own (some ⟨g1, 0, none⟩) kids.length c1 46 5 ((X.P.1.map cutF).flatMap Fg.cells) :: row q 33 (s.cells ++ [.int .i64 c, .slice (some ⟨bk, ok_, none⟩) kids.length ck, .slice (some ⟨bu, ou, none⟩) us.length cu, .slice (some ⟨bh, oh, none⟩) hs.length ch]) :: own (some ⟨ga, 0, none⟩) fin.length cap 50 1 (fin.reverse.flatMap RS.cells) :: fin.map RS.own) g1 (0 + k * 5) (X.F k).cells := own_get (by decide) Fg.len gf
      have rm0 := rw_part (j := 16) (n := 2) (ds := (X.S k).m0.cells) rk rfl
      rw [show ok_ + k * 43 + 16 = ok_ + k * 43 + 16 + 0 * 2 by omega] at rm0
      have rm2 := rw_part (j := 20) (n := 2) (ds := (X.S k).m2.cells) rk rfl
      rw [show ok_ + k * 43 + 20 = ok_ + k * 43 + 16 + 2 * 2 by omega] at rm2
      unfold Ln.cells at rm0 rm2
      have m0 := i4.m0; have m2 := i4.m2; have il := i4.left; have ir := i4.right; have iw := i4.w; have ih := i4.hh
      have hTr := hTi r; have hTl := hti rl
      have hku := (List.getElem?_eq_some_iff.1 i2).1
      have hkh := (List.getElem?_eq_some_iff.1 i3).1
      unfold kC at ri
      unfold Us.cells at ru
      unfold hC at rh
      unfold Fg.cells at rf
      clear hfr hnx hit htn hti hTi hTs hkn hrl hfq hk0 hu0 hh0 hRk hRu hRh hbm
      generalize X.F k = fk at *
      obtain ⟨fx, fy, fw, fh⟩ := fk
      generalize X.U k = uk at *
      generalize X.S k = sk at *
      generalize X.Hh k = hk_ at *
      generalize X.T r = tr at *
      generalize X.Tall rl = tl at *
      dsimp only at gy0 gy1 gh0 gh3 gxb gwb ghb rf
      by_cases e3 : s.items = 3
      · have gh3 := gh3 e3
        refine go_ _ ?_
        simp only [List.append_eq, List.cons_append, List.nil_append]
        refine s_parts (by kernel_rfl) ?_
        refine sg_free 66 (by kernel_rfl) (go_ _ ?_)
        exact ⟨j + 1, by omega, (by repeat (first | exact Sub.nil | refine Sub.cons rfl ?_ | (refine Sub.consB rfl (by (first | rfl | exact decide_eq_decide.2 (by omega) | exact (decide_eq_true (by omega)).symm | exact (decide_eq_false (by omega)).symm | exact decide_eq_true (by omega) | exact decide_eq_false (by omega))) ?_))), (by repeat (first | exact SubH.refl | exact SubH.nil | ((with_reducible apply SubH.cons); (focus ((repeat (first | (with_reducible exact Pick.here) | (with_reducible apply Pick.there))); done))) | ((with_reducible apply SubH.consR); (focus ((repeat (first | (with_reducible exact Pick.here) | (with_reducible apply Pick.there))); done)); (first | rfl | simp; done)) | ((with_reducible apply SubH.consO); (focus ((repeat (first | (with_reducible exact Pick.here) | (with_reducible apply Pick.there))); done)); (first | rfl | simp; done); (first | rfl | simp; done)) | exact SubH.drop SubH.refl | apply SubH.drop)), by omega⟩
      · have gh0 := gh0 e3
        refine go_ _ ?_
        simp only [List.append_eq, List.cons_append, List.nil_append]
        refine s_parts (by kernel_rfl) ?_
        refine sg_free 66 (by kernel_rfl) (go_ _ ?_)
        exact ⟨j + 1, by omega, (by repeat (first | exact Sub.nil | refine Sub.cons rfl ?_ | (refine Sub.consB rfl (by (first | rfl | exact decide_eq_decide.2 (by omega) | exact (decide_eq_true (by omega)).symm | exact (decide_eq_false (by omega)).symm | exact decide_eq_true (by omega) | exact decide_eq_false (by omega))) ?_))), (by repeat (first | exact SubH.refl | exact SubH.nil | ((with_reducible apply SubH.cons); (focus ((repeat (first | (with_reducible exact Pick.here) | (with_reducible apply Pick.there))); done))) | ((with_reducible apply SubH.consR); (focus ((repeat (first | (with_reducible exact Pick.here) | (with_reducible apply Pick.there))); done)); (first | rfl | simp; done)) | ((with_reducible apply SubH.consO); (focus ((repeat (first | (with_reducible exact Pick.here) | (with_reducible apply Pick.there))); done)); (first | rfl | simp; done); (first | rfl | simp; done)) | exact SubH.drop SubH.refl | apply SubH.drop)), by omega⟩
    have hTr2 := hTi r; have hTl2 := hti rl
    refine go_ _ ?_
    exact ⟨r + 1, by omega, by rw [hTr1]; exact (by repeat (first | exact Sub.nil | refine Sub.cons rfl ?_ | (refine Sub.consB rfl (by (first | rfl | exact decide_eq_decide.2 (by omega) | exact (decide_eq_true (by omega)).symm | exact (decide_eq_false (by omega)).symm | exact decide_eq_true (by omega) | exact decide_eq_false (by omega))) ?_))), (by repeat (first | exact SubH.refl | exact SubH.nil | ((with_reducible apply SubH.cons); (focus ((repeat (first | (with_reducible exact Pick.here) | (with_reducible apply Pick.there))); done))) | ((with_reducible apply SubH.consR); (focus ((repeat (first | (with_reducible exact Pick.here) | (with_reducible apply Pick.there))); done)); (first | rfl | simp; done)) | ((with_reducible apply SubH.consO); (focus ((repeat (first | (with_reducible exact Pick.here) | (with_reducible apply Pick.there))); done)); (first | rfl | simp; done); (first | rfl | simp; done)) | exact SubH.drop SubH.refl | apply SubH.drop)), by omega⟩
  obtain rfl : r = fin.length := by omega
  refine go_ _ ?_
  refine so_callQ (fun w1 _ => crworks_any w1) rfl (by (first | (with_reducible rfl) | assumption | exact decide_eq_true (by omega) | (simp only [Bool.not_eq_true', Bool.not_eq_false', decide_eq_false_iff_not, decide_eq_true_eq] <;> first | assumption | omega) | decide)) rfl (tF rfl) (Nat.le_of_ble_eq_true rfl) ?_
  refine go_ _ ?_
  exact sret1 rfl rfl rfl
end Go.Proofs.Ytdoihebekbfnbaa
