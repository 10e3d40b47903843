/- The walk of the iterator over a text's stretches. -/
import Derived.Test.YtkdjlaejbimchaaTxtW
namespace Go.Proofs.Ytkdjlaejbimchaa
open Go.RowKit

set_option maxRecDepth 100000 in
theorem stretches_any (A : Option Addr) (n cap : Nat) (w : World) : Calls Try.prog 22 #[.slice A n cap] w fun e w' => ∃ q, True ∧ e = .returned (.func (.func 32) #[] #[.pointer (some ⟨q, 0, none⟩)]) ∧ Mem w.heap.size w [row q 28 [.slice A n cap]] w' := by
  refine s_callsN [(0, .slice A n cap)] (fun q => .func (.func 32) #[] #[.pointer (some ⟨q, 0, none⟩)]) (fun q => [row q 28 [.slice A n cap]]) (fun _ => True) Try.func22 rfl Try.ntmps22 rfl (by simp) ?_
  refine go_ _ ?_
  (first | ((with_reducible apply so_new); rfl; (first | (with_reducible rfl) | assumption | exact decide_eq_true (by omega) | (simp only [Bool.not_eq_true', Bool.not_eq_false', decide_eq_false_iff_not, decide_eq_true_eq] <;> first | assumption | omega) | decide); exact tZ rfl; (first | exact Nat.le_of_ble_eq_true rfl | decide); (intro; rfl); (first | (with_reducible rfl) | assumption | exact decide_eq_true (by omega) | (simp only [Bool.not_eq_true', Bool.not_eq_false', decide_eq_false_iff_not, decide_eq_true_eq] <;> first | assumption | omega) | decide); (intro; rfl); rfl; exact tS rfl; rfl; rfl) | ((with_reducible apply so_alloc); rfl; (first | (with_reducible rfl) | assumption | exact decide_eq_true (by omega) | (simp only [Bool.not_eq_true', Bool.not_eq_false', decide_eq_false_iff_not, decide_eq_true_eq] <;> first | assumption | omega) | decide); exact tZ rfl; (focus ((repeat (first | (with_reducible exact CopyL.agg) | exact CopyL.nil | (apply CopyL.consI; rfl) | (apply CopyL.consB; rfl) | (apply CopyL.consS; rfl) | (apply CopyL.consP; rfl) | apply CopyL.cons)); done)); (first | exact Nat.le_of_ble_eq_true rfl | decide)) | ((with_reducible apply so_box); rfl; (first | (with_reducible rfl) | assumption | exact decide_eq_true (by omega) | (simp only [Bool.not_eq_true', Bool.not_eq_false', decide_eq_false_iff_not, decide_eq_true_eq] <;> first | assumption | omega) | decide); rfl; (focus ((repeat (first | (with_reducible exact CopyL.agg) | exact CopyL.nil | (apply CopyL.consI; rfl) | (apply CopyL.consB; rfl) | (apply CopyL.consS; rfl) | (apply CopyL.consP; rfl) | apply CopyL.cons)); done)); (first | exact Nat.le_of_ble_eq_true rfl | decide)))
  intro q
  refine go_ _ ?_
  exact sret1 rfl rfl ⟨q, trivial, rfl, .refl⟩

def strC (us : List Int) (A : Option Addr) (B : Nat) (w0 : World) : Prop := RdH B w0 [] uV 1 A us

set_option maxRecDepth 100000 in
set_option maxHeartbeats 1000000 in
theorem stretches_iter (us : List Int) (A : Option Addr) (cap q : Nat) (hu : UB us) (hlen : us.length ≤ 4294967295) : IterC Try.prog 32 [.pointer (some ⟨q, 0, none⟩)] (fun s : Str => [.agg s.cells.toArray]) [row q 28 [.slice A us.length cap]] (strM 0 us) (strC us A) := by
  intro B w0 hC J L hY R W hJ0 hW
  refine (s_calls [(0, .func (.yield L) #[] #[]), (1, .pointer (some ⟨q, 0, none⟩))] (Q := fun _ H' => ∃ R' Hx, J (strM 0 us) R' ∧ SubH H' (Hx ++ R')) Try.func32 rfl Try.ntmps32 rfl (by simp) hW ?_).mono fun e w' ⟨v, H', h1, h2, R', Hx, h3, h4⟩ => ⟨⟨v, h1⟩, R', Hx, h3, h2.sub h4⟩
  simp only [List.cons_append, List.nil_append]
  refine go_ _ ?_
  refine s_loop (ι := Nat × List Str × Hp) (fun i => [(0, .func (.yield L) #[] #[]), (1, .pointer (some ⟨q, 0, none⟩)), (3, .int .i64 (i.1 : Nat))]) (fun i => row q 28 [.slice A us.length cap] :: i.2.2)
    (fun i => i.1 ≤ us.length ∧ strM 0 us = i.2.1 ++ strM i.1 (us.drop i.1) ∧ J i.2.1 i.2.2) (fun i => us.length - i.1) (0, [], R) (by repeat (first | exact Sub.nil | refine Sub.cons rfl ?_ | (refine Sub.consB rfl (by (first | rfl | exact decide_eq_decide.2 (by omega) | exact (decide_eq_true (by omega)).symm | exact (decide_eq_false (by omega)).symm | exact decide_eq_true (by omega) | exact decide_eq_false (by omega))) ?_))) .refl ⟨Nat.zero_le _, rfl, hJ0⟩ ?_
  rintro ⟨k, pre, R1⟩ ⟨hk, hs, hJ⟩
  dsimp only at hk hs hJ ⊢
  by_cases hlt : k < us.length
  · have hb := hu _ (List.getElem_mem hlt)
    obtain ⟨b1, o1, rfl, hr0⟩ := RdH.at (H := []) hC (w := W) hW.bare k hlt
    have hr : Rw B w0 R1 b1 (o1 + k * 1) (uV us[k]) := fun w hw => hr0 w hw.bare
    unfold uV at hr
    clear hr0
    have hstep := strM_step us k hlt
    have hE0 := runLen_at us k (btw us[k]) hlt
    rw [if_pos rfl] at hE0
    have hEb := runLen_bound us k (btw us[k]) hk
    generalize hE : k + runLen (btw us[k]) (us.drop k) = E at hstep hEb
    have hkE : k < E := by omega
    clear hE0
    refine go_ _ ?_
    have hcall : ∀ w1, Mem B w0 (row q 28 [.slice (some ⟨b1, o1, none⟩) us.length cap] :: R1) w1 → Calls Try.prog 33 #[.int .i32 us[k]] w1 fun e w' => e = .returned (.bool (btw us[k])) ∧ Below w1.heap.size w1 w' := fun w1 _ => between_any us[k] w1
    refine so_callQ hcall rfl rfl rfl (tF rfl) (Nat.le_of_ble_eq_true rfl) ?_
    clear hcall hr
    refine go_ _ ?_
    (first | ((with_reducible apply so_new); rfl; (first | (with_reducible rfl) | assumption | exact decide_eq_true (by omega) | (simp only [Bool.not_eq_true', Bool.not_eq_false', decide_eq_false_iff_not, decide_eq_true_eq] <;> first | assumption | omega) | decide); exact tZ rfl; (first | exact Nat.le_of_ble_eq_true rfl | decide); (intro; rfl); (first | (with_reducible rfl) | assumption | exact decide_eq_true (by omega) | (simp only [Bool.not_eq_true', Bool.not_eq_false', decide_eq_false_iff_not, decide_eq_true_eq] <;> first | assumption | omega) | decide); (intro; rfl); rfl; exact tS rfl; rfl; rfl) | ((with_reducible apply so_alloc); rfl; (first | (with_reducible rfl) | assumption | exact decide_eq_true (by omega) | (simp only [Bool.not_eq_true', Bool.not_eq_false', decide_eq_false_iff_not, decide_eq_true_eq] <;> first | assumption | omega) | decide); exact tZ rfl; (focus ((repeat (first | (with_reducible exact CopyL.agg) | exact CopyL.nil | (apply CopyL.consI; rfl) | (apply CopyL.consB; rfl) | (apply CopyL.consS; rfl) | (apply CopyL.consP; rfl) | apply CopyL.cons)); done)); (first | exact Nat.le_of_ble_eq_true rfl | decide)) | ((with_reducible apply so_box); rfl; (first | (with_reducible rfl) | assumption | exact decide_eq_true (by omega) | (simp only [Bool.not_eq_true', Bool.not_eq_false', decide_eq_false_iff_not, decide_eq_true_eq] <;> first | assumption | omega) | decide); rfl; (focus ((repeat (first | (with_reducible exact CopyL.agg) | exact CopyL.nil | (apply CopyL.consI; rfl) | (apply CopyL.consB; rfl) | (apply CopyL.consS; rfl) | (apply CopyL.consP; rfl) | apply CopyL.cons)); done)); (first | exact Nat.le_of_ble_eq_true rfl | decide)))
    intro q4
    refine go_ _ ?_
    generalize hbk : btw us[k] = bk at *
    refine s_loop (ι := Nat) (fun m => [(0, .func (.yield L) #[] #[]), (1, .pointer (some ⟨q, 0, none⟩)), (4, .pointer (some ⟨q4, 0, none⟩))]) (fun m => row q4 50 (Str.cells ⟨k, m, !bk⟩) :: row q 28 [.slice (some ⟨b1, o1, none⟩) us.length cap] :: R1)
      (fun m => m ≤ us.length ∧ m + runLen bk (us.drop m) = E) (fun m => us.length - m) k (by repeat (first | exact Sub.nil | refine Sub.cons rfl ?_ | (refine Sub.consB rfl (by (first | rfl | exact decide_eq_decide.2 (by omega) | exact (decide_eq_true (by omega)).symm | exact (decide_eq_false (by omega)).symm | exact decide_eq_true (by omega) | exact decide_eq_false (by omega))) ?_))) .refl ⟨hk, hE⟩ ?_
    rintro m ⟨hm, hmE⟩
    unfold Str.cells
    dsimp only
    have hx : ∃ suf, strM 0 us = pre ++ (⟨k, E, !bk⟩ : Str) :: suf := ⟨strM E (us.drop E), by rw [hs, hstep]⟩
    by_cases hml : m < us.length
    · have hbm := hu _ (List.getElem_mem hml)
      have hrl := runLen_at us m bk hml
      obtain ⟨b2, o2, hA2, hr0⟩ := RdH.at (H := []) hC (w := W) hW.bare m hml
      cases hA2
      have hr : Rw B w0 R1 b1 (o1 + m * 1) (uV us[m]) := fun w hw => hr0 w hw.bare
      unfold uV at hr
      clear hr0
      refine go_ _ ?_
      refine s_parts (by kernel_rfl) ?_
      refine sg_free 17 (by kernel_rfl) (go_ _ ?_)
      have hcall : ∀ w1, Mem B w0 (row q4 50 [.int .i64 (k : Nat), .int .i64 (m : Nat), .bool !bk] :: row q 28 [.slice (some ⟨b1, o1, none⟩) us.length cap] :: R1) w1 → Calls Try.prog 33 #[.int .i32 us[m]] w1 fun e w' => e = .returned (.bool (btw us[m])) ∧ Below w1.heap.size w1 w' := fun w1 _ => between_any us[m] w1
      refine sd_callQ hcall rfl (by (first | (with_reducible rfl) | assumption | exact decide_eq_true (by omega) | (simp only [Bool.not_eq_true', Bool.not_eq_false', decide_eq_false_iff_not, decide_eq_true_eq] <;> first | assumption | omega) | decide)) rfl (tF rfl) (Nat.le_of_ble_eq_true rfl) ?_
      clear hcall hr
      generalize hbm2 : btw us[m] = bm at *
      by_cases hbb : bm = bk
      · rw [if_pos hbb] at hrl
        subst hbb
        have hnn : (bm != !bm) = true := by cases bm <;> rfl
        refine go_ _ ?_
        exact ⟨m + 1, by omega, (by repeat (first | exact Sub.nil | refine Sub.cons rfl ?_ | (refine Sub.consB rfl (by (first | rfl | exact decide_eq_decide.2 (by omega) | exact (decide_eq_true (by omega)).symm | exact (decide_eq_false (by omega)).symm | exact decide_eq_true (by omega) | exact decide_eq_false (by omega))) ?_))), .refl, by omega, by omega⟩
      · rw [if_neg hbb] at hrl
        have hnn : (bm != !bk) = false := by cases bm <;> cases bk <;> first | rfl | exact absurd rfl hbb
        obtain rfl : m = E := by omega
        refine go_ _ ?_
        refine so_yield (T := [row q4 50 [.int .i64 (k : Nat), .int .i64 (m : Nat), .bool !bk], row q 28 [.slice (some ⟨b1, o1, none⟩) us.length cap]]) (R := R1) rfl (.cons (.cons .nil)) (fun T W hw => hY pre _ hx R1 hJ T W hw) rfl rfl rfl (Nat.le_of_ble_eq_true rfl) ?_
        intro R2 hJ2 H2 hc2
        cases hc2 with
        | cons hc2 => cases hc2 with
        | cons hc2 => cases hc2 with
        | nil =>
        refine go_ _ ?_
        exact ⟨(m, pre ++ [⟨k, m, !bk⟩], R2), by dsimp only; omega, (by repeat (first | exact Sub.nil | refine Sub.cons rfl ?_ | (refine Sub.consB rfl (by (first | rfl | exact decide_eq_decide.2 (by omega) | exact (decide_eq_true (by omega)).symm | exact (decide_eq_false (by omega)).symm | exact decide_eq_true (by omega) | exact decide_eq_false (by omega))) ?_))), (by repeat (first | exact SubH.refl | exact SubH.nil | ((with_reducible apply SubH.cons); (focus ((repeat (first | (with_reducible exact Pick.here) | (with_reducible apply Pick.there))); done))) | ((with_reducible apply SubH.consR); (focus ((repeat (first | (with_reducible exact Pick.here) | (with_reducible apply Pick.there))); done)); (first | rfl | simp; done)) | ((with_reducible apply SubH.consO); (focus ((repeat (first | (with_reducible exact Pick.here) | (with_reducible apply Pick.there))); done)); (first | rfl | simp; done); (first | rfl | simp; done)) | exact SubH.drop SubH.refl | apply SubH.drop)), by dsimp only; omega, by dsimp only; rw [hs, hstep]; simp, hJ2⟩
    · have hE1 : us.drop m = [] := List.drop_of_length_le (by omega)
      rw [hE1] at hmE
      simp only [runLen, Nat.add_zero] at hmE
      subst hmE
      refine go_ _ ?_
      refine s_parts (by kernel_rfl) ?_
      refine sg_free 17 (by kernel_rfl) (go_ _ ?_)
      refine so_yield (T := [row q4 50 [.int .i64 (k : Nat), .int .i64 (m : Nat), .bool !bk], row q 28 [.slice (some ⟨b1, o1, none⟩) us.length cap]]) (R := R1) rfl (.cons (.cons .nil)) (fun T W hw => hY pre _ hx R1 hJ T W hw) rfl rfl rfl (Nat.le_of_ble_eq_true rfl) ?_
      intro R2 hJ2 H2 hc2
      cases hc2 with
      | cons hc2 => cases hc2 with
      | cons hc2 => cases hc2 with
      | nil =>
      refine go_ _ ?_
      exact ⟨(m, pre ++ [⟨k, m, !bk⟩], R2), by dsimp only; omega, (by repeat (first | exact Sub.nil | refine Sub.cons rfl ?_ | (refine Sub.consB rfl (by (first | rfl | exact decide_eq_decide.2 (by omega) | exact (decide_eq_true (by omega)).symm | exact (decide_eq_false (by omega)).symm | exact decide_eq_true (by omega) | exact decide_eq_false (by omega))) ?_))), (by repeat (first | exact SubH.refl | exact SubH.nil | ((with_reducible apply SubH.cons); (focus ((repeat (first | (with_reducible exact Pick.here) | (with_reducible apply Pick.there))); done))) | ((with_reducible apply SubH.consR); (focus ((repeat (first | (with_reducible exact Pick.here) | (with_reducible apply Pick.there))); done)); (first | rfl | simp; done)) | ((with_reducible apply SubH.consO); (focus ((repeat (first | (with_reducible exact Pick.here) | (with_reducible apply Pick.there))); done)); (first | rfl | simp; done); (first | rfl | simp; done)) | exact SubH.drop SubH.refl | apply SubH.drop)), by dsimp only; omega, by dsimp only; rw [hs, hstep]; simp, hJ2⟩
  · have hE1 : us.drop k = [] := List.drop_of_length_le (by omega)
    rw [hE1] at hs
    simp only [strM, List.append_nil] at hs
    refine go_ _ ?_
    exact sret0n rfl ⟨R1, [row q 28 [.slice A us.length cap]], by rw [hs]; exact hJ, .refl⟩
end Go.Proofs.Ytkdjlaejbimchaa
