/- The walks of package text: units, stretches. -/
import Derived.Test.YtkdjlaejbimchaaTxtM
import Derived.Test.YtkdjlaejbimchaaIter
namespace Go.Proofs.Ytkdjlaejbimchaa
open Go.RowKit

set_option maxRecDepth 100000 in
theorem between_any (u : Int) (w : World) : Calls Try.prog 33 #[.int .i32 u] w fun e w' => e = .returned (.bool (btw u)) ∧ Below w.heap.size w w' := by
  refine s_quiet [(0, .int .i32 u)] Try.func33 rfl Try.ntmps33 rfl (by simp) ?_
  refine go_ _ ?_
  by_cases h1 : u = 32
  · skip
    refine go_ _ ?_
    exact sret1 rfl rfl (by subst h1; rfl)
  · by_cases h2 : u = 10
    · skip
      refine go_ _ ?_
      exact sret1 rfl rfl (by subst h2; rfl)
    · skip
      refine go_ _ ?_
      exact sret1 rfl rfl (by unfold btw; rw [decide_eq_false h1, decide_eq_false h2]; rfl)

set_option maxRecDepth 100000 in
theorem advance_any (u : Int) (av : List Int) (A : Option Addr) (cap : Nat) (w : World) (hu : 0 ≤ u ∧ u ≤ 65535) (hA : Rd w aV 1 A av) : Calls Try.prog 25 #[.int .u16 u, .slice A av.length cap] w fun e w' => e = .returned (.int .i64 (advM av u)) ∧ Below w.heap.size w w' := by
  refine s_quiet [(0, .int .u16 u), (1, .slice A av.length cap)] Try.func25 rfl Try.ntmps25 rfl (by simp) ?_
  obtain ⟨k, rfl⟩ := Int.eq_ofNat_of_zero_le hu.1
  obtain ⟨hu1, hu2⟩ := hu
  have hk : (k : Int).toNat = k := by simp
  unfold advM
  rw [hk]
  by_cases hl : av.length ≤ k
  · skip
    refine go_ _ ?_
    exact sret1 rfl rfl (by rw [List.getD_eq_getElem?_getD, List.getElem?_eq_none hl]; rfl)
  · have hl' : k < av.length := by omega
    obtain ⟨b1, o1, rfl, hr⟩ := hA.at k hl'
    rw [List.getD_eq_getElem?_getD, List.getElem?_eq_getElem hl']
    unfold aV at hr
    refine go_ _ ?_
    exact sret1 rfl rfl rfl

set_option maxRecDepth 100000 in
theorem ends_any (us : List Int) (A : Option Addr) (cap : Nat) (hlen : us.length ≤ 4294967296) (w : World) (hA : Rd w uV 1 A us) :
    Calls Try.prog 23 #[.slice A us.length cap] w fun e w' => e = .returned (.tuple #[.int .i64 (endsM us).1, .bool (endsM us).2]) ∧ Below w.heap.size w w' := by
  refine s_quiet [(0, .slice A us.length cap)] Try.func23 rfl Try.ntmps23 rfl (by simp) ?_
  refine go_ _ ?_
  refine s_loop (ι := Nat) (fun k => [(2, .int .i64 (endsM (us.take k)).1), (3, .bool (endsM (us.take k)).2), (6, .slice A us.length cap), (7, .int .i64 (us.length : Nat)), (8, .int .i64 (k : Nat))]) (fun k => []) (fun k => k ≤ us.length) (fun k => us.length - k) 0 (by repeat (first | exact Sub.nil | refine Sub.cons rfl ?_ | (refine Sub.consB rfl (by (first | rfl | exact decide_eq_decide.2 (by omega) | exact (decide_eq_true (by omega)).symm | exact (decide_eq_false (by omega)).symm | exact decide_eq_true (by omega) | exact decide_eq_false (by omega))) ?_))) (by repeat (first | exact SubH.refl | exact SubH.nil | ((with_reducible apply SubH.cons); (focus ((repeat (first | (with_reducible exact Pick.here) | (with_reducible apply Pick.there))); done))) | ((with_reducible apply SubH.consR); (focus ((repeat (first | (with_reducible exact Pick.here) | (with_reducible apply Pick.there))); done)); (first | rfl | simp; done)) | ((with_reducible apply SubH.consO); (focus ((repeat (first | (with_reducible exact Pick.here) | (with_reducible apply Pick.there))); done)); (first | rfl | simp; done); (first | rfl | simp; done)) | exact SubH.drop SubH.refl | apply SubH.drop)) (Nat.zero_le _) ?_
  intro k hk
  by_cases hlt : k < us.length
  · obtain ⟨b1, o1, rfl, hr⟩ := hA.at k hlt
    unfold uV at hr
    have he := endsM_take us k hlt
    have hb := endsM_b us k
    generalize endsM (us.take k) = s at *
    obtain ⟨n, sp⟩ := s
    dsimp only at *
    unfold endsS at he
    by_cases h1 : us[k] = 10
    · rw [if_pos h1] at he
      refine go_ _ ?_
      exact ⟨k + 1, by omega, by rw [he]; exact (by repeat (first | exact Sub.nil | refine Sub.cons rfl ?_ | (refine Sub.consB rfl (by (first | rfl | exact decide_eq_decide.2 (by omega) | exact (decide_eq_true (by omega)).symm | exact (decide_eq_false (by omega)).symm | exact decide_eq_true (by omega) | exact decide_eq_false (by omega))) ?_))), .refl, by omega⟩
    · rw [if_neg h1] at he
      refine go_ _ ?_
      exact ⟨k + 1, by omega, by rw [he]; exact (by repeat (first | exact Sub.nil | refine Sub.cons rfl ?_ | (refine Sub.consB rfl (by (first | rfl | exact decide_eq_decide.2 (by omega) | exact (decide_eq_true (by omega)).symm | exact (decide_eq_false (by omega)).symm | exact decide_eq_true (by omega) | exact decide_eq_false (by omega))) ?_))), .refl, by omega⟩
  · obtain rfl : k = us.length := by omega
    rw [List.take_length]
    refine go_ _ ?_
    exact sret2 rfl rfl rfl rfl

set_option maxRecDepth 100000 in
set_option maxHeartbeats 1000000 in
theorem wide_any (us av : List Int) (A A' : Option Addr) (cap cap' : Nat) (hlen : us.length ≤ 4294967295) (hu : UB us) (ha : AB av) (w : World) (hA : Rd w uV 1 A us) (hA' : Rd w aV 1 A' av) :
    Calls Try.prog 16 #[.slice A us.length cap, .slice A' av.length cap'] w fun e w' => e = .returned (.tuple #[.int .i64 (cutM (wideM av us)), .bool (!decide (wideM av us = cutM (wideM av us)))]) ∧ Below w.heap.size w w' := by
  refine s_quiet [(0, .slice A us.length cap), (1, .slice A' av.length cap')] Try.func16 rfl Try.ntmps16 rfl (by simp) ?_
  have HA' : ∀ H, RdH w.heap.size w H aV 1 A' av := fun _ => hA'.base rfl
  refine go_ _ ?_
  refine so_make0 (e := 2) (sz := 1) rfl (by (first | (with_reducible rfl) | assumption | exact decide_eq_true (by omega) | (simp only [Bool.not_eq_true', Bool.not_eq_false', decide_eq_false_iff_not, decide_eq_true_eq] <;> first | assumption | omega) | decide)) rfl rfl (by kernel_rfl) (by omega) (Nat.le_of_ble_eq_true rfl) fun q => ?_
  refine go_ _ ?_
  refine s_loop (ι := Nat × Option Addr × Nat) (fun i => [(1, .slice A' av.length cap'), (6, .slice i.2.1 i.1 i.2.2), (12, .slice A us.length cap), (13, .int .i64 (us.length : Nat)), (14, .int .i64 (i.1 : Nat))])
    (fun i => [own i.2.1 i.1 i.2.2 2 1 (((us.take i.1).map (advM av)).map (.int .i64))]) (fun i => i.1 ≤ us.length) (fun i => us.length - i.1) (0, some ⟨q, 0, none⟩, us.length) (by repeat (first | exact Sub.nil | refine Sub.cons rfl ?_ | (refine Sub.consB rfl (by (first | rfl | exact decide_eq_decide.2 (by omega) | exact (decide_eq_true (by omega)).symm | exact (decide_eq_false (by omega)).symm | exact decide_eq_true (by omega) | exact decide_eq_false (by omega))) ?_))) (by repeat (first | exact SubH.refl | exact SubH.nil | ((with_reducible apply SubH.cons); (focus ((repeat (first | (with_reducible exact Pick.here) | (with_reducible apply Pick.there))); done))) | ((with_reducible apply SubH.consR); (focus ((repeat (first | (with_reducible exact Pick.here) | (with_reducible apply Pick.there))); done)); (first | rfl | simp; done)) | ((with_reducible apply SubH.consO); (focus ((repeat (first | (with_reducible exact Pick.here) | (with_reducible apply Pick.there))); done)); (first | rfl | simp; done); (first | rfl | simp; done)) | exact SubH.drop SubH.refl | apply SubH.drop)) (Nat.zero_le _) ?_
  rintro ⟨k, Aq, cq⟩ hk
  dsimp only at hk ⊢
  by_cases hlt : k < us.length
  · obtain ⟨b1, o1, rfl, hr⟩ := hA.at k hlt
    unfold uV at hr
    have hb := hu _ (List.getElem_mem hlt)
    refine go_ _ ?_
    have hcall : ∀ w1, Mem w.heap.size w [own Aq k cq 2 1 (((us.take k).map (advM av)).map (.int .i64))] w1 → Calls Try.prog 25 #[.int .u16 us[k], .slice A' av.length cap'] w1 fun e w' => e = .returned (.int .i64 (advM av us[k])) ∧ Below w1.heap.size w1 w' := fun w1 h1 => advance_any us[k] av A' cap' w1 hb (HA' _ w1 h1)
    clear hr hA hA' HA'
    refine so_callQ hcall rfl rfl rfl (tF rfl) (Nat.le_of_ble_eq_true rfl) ?_
    clear hcall
    refine go_ _ ?_
    refine so_slice1 (e := 2) (sz := 1) rfl (by (first | (with_reducible rfl) | assumption | exact decide_eq_true (by omega) | (simp only [Bool.not_eq_true', Bool.not_eq_false', decide_eq_false_iff_not, decide_eq_true_eq] <;> first | assumption | omega) | decide)) rfl (by kernel_rfl) rfl (Nat.le_of_ble_eq_true rfl) fun q2 => ?_
    refine go_ _ ?_
    refine so_append1 (e := 2) (sz := 1) rfl (by (first | (with_reducible rfl) | assumption | exact decide_eq_true (by omega) | (simp only [Bool.not_eq_true', Bool.not_eq_false', decide_eq_false_iff_not, decide_eq_true_eq] <;> first | assumption | omega) | decide)) rfl rfl (by kernel_rfl) (Nat.le_of_ble_eq_true rfl) (fun A'' cap'' => (by (focus ((repeat (first | (with_reducible exact Upd.here) | (with_reducible apply Upd.there))); done)))) rw_here rfl rfl (by omega) fun A2 cap2 => ?_
    refine go_ _ ?_
    refine ⟨(k + 1, A2, cap2), by dsimp only; omega, (by repeat (first | exact Sub.nil | refine Sub.cons rfl ?_ | (refine Sub.consB rfl (by (first | rfl | exact decide_eq_decide.2 (by omega) | exact (decide_eq_true (by omega)).symm | exact (decide_eq_false (by omega)).symm | exact decide_eq_true (by omega) | exact decide_eq_false (by omega))) ?_))), ?_, by dsimp only; omega⟩
    rw [List.take_add_one, List.getElem?_eq_getElem hlt]
    simp only [Option.toList_some, List.map_append, List.map_cons, List.map_nil]
    exact (by repeat (first | exact SubH.refl | exact SubH.nil | ((with_reducible apply SubH.cons); (focus ((repeat (first | (with_reducible exact Pick.here) | (with_reducible apply Pick.there))); done))) | ((with_reducible apply SubH.consR); (focus ((repeat (first | (with_reducible exact Pick.here) | (with_reducible apply Pick.there))); done)); (first | rfl | simp; done)) | ((with_reducible apply SubH.consO); (focus ((repeat (first | (with_reducible exact Pick.here) | (with_reducible apply Pick.there))); done)); (first | rfl | simp; done); (first | rfl | simp; done)) | exact SubH.drop SubH.refl | apply SubH.drop))
  · obtain rfl : k = us.length := by omega
    rw [List.take_length]
    have hl : ∀ x ∈ us.map (advM av), I64 x := fun x hx => by
      obtain ⟨u, _, rfl⟩ := List.mem_map.1 hx; exact advM_b ha u
    have key : ∀ w1, Mem w.heap.size w [own Aq us.length cq 2 1 ((us.map (advM av)).map (.int .i64))] w1 → Calls Try.prog 20 #[.slice Aq us.length cq] w1 fun e w' => e = .returned (.tuple #[.int .i64 (cutM (wideM av us)), .bool (!decide (wideM av us = cutM (wideM av us)))]) ∧ Below w1.heap.size w1 w' := fun w1 h1 => by
      have := sum_any (us.map (advM av)) Aq cq hl (by simp; omega) w1 (own_rd1 w1 h1)
      rwa [List.length_map] at this
    refine go_ _ ?_
    refine so_callQ key rfl rfl rfl (tF rfl) (Nat.le_of_ble_eq_true rfl) ?_
    refine go_ _ ?_
    exact sret2 rfl rfl rfl rfl
end Go.Proofs.Ytkdjlaejbimchaa
