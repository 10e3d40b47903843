/- The walks of the statement's own functions: units of a string, the table, ends, vast. -/
import Derived.Test.YtkdjlaejbimchaaTxtX
namespace Go.Proofs.Ytkdjlaejbimchaa
open Go.RowKit

def unitsM (s : ByteArray) : List Int := s.data.toList.map fun b => (b.toNat : Int)
theorem unitsM_len (s : ByteArray) : (unitsM s).length = s.size := by unfold unitsM; rw [List.length_map]; rfl
theorem unitsM_take (s : ByteArray) (k : Nat) (hk : k < s.size) : (unitsM s).take (k + 1) = (unitsM s).take k ++ [((s[k]'hk).toNat : Int)] := by
  have h : k < (unitsM s).length := by rw [unitsM_len]; exact hk
  rw [List.take_add_one, List.getElem?_eq_getElem h]
  congr 1
  simp only [Option.toList_some, unitsM, List.getElem_map]
  rfl
def tableM : List Int := (((List.replicate 99 (0 : Int)).set 97 10).set 98 20).set 32 5

set_option maxRecDepth 100000 in
set_option maxHeartbeats 1000000 in
theorem units_any (s : ByteArray) (hs : s.size ≤ 4294967295) (w : World) : Calls Try.prog 17 #[.string s] w fun e w' => ∃ i : Option Addr × Nat, True ∧ e = .returned (.slice i.1 (unitsM s).length i.2) ∧ Mem w.heap.size w [own i.1 (unitsM s).length i.2 36 1 ((unitsM s).map (.int .u16))] w' := by
  refine s_callsN [(0, .string s)] (fun i : Option Addr × Nat => .slice i.1 (unitsM s).length i.2) (fun i => [own i.1 (unitsM s).length i.2 36 1 ((unitsM s).map (.int .u16))]) (fun _ => True) Try.func17 rfl Try.ntmps17 rfl (by simp) ?_
  refine s_ownNil 36 1 ?_
  refine go_ _ ?_
  refine s_loop (ι := Nat × Option Addr × Nat) (fun i => [(0, .string s), (3, .slice i.2.1 i.1 i.2.2), (4, .int .i64 (i.1 : Nat))])
    (fun i => [own i.2.1 i.1 i.2.2 36 1 (((unitsM s).take i.1).map (.int .u16))]) (fun i => i.1 ≤ s.size) (fun i => s.size - i.1) (0, none, 0) (by repeat (first | exact Sub.nil | refine Sub.cons rfl ?_ | (refine Sub.consB rfl (by (first | rfl | exact decide_eq_decide.2 (by omega) | exact (decide_eq_true (by omega)).symm | exact (decide_eq_false (by omega)).symm | exact decide_eq_true (by omega) | exact decide_eq_false (by omega))) ?_))) (by repeat (first | exact SubH.refl | exact SubH.nil | ((with_reducible apply SubH.cons); (focus ((repeat (first | (with_reducible exact Pick.here) | (with_reducible apply Pick.there))); done))) | ((with_reducible apply SubH.consR); (focus ((repeat (first | (with_reducible exact Pick.here) | (with_reducible apply Pick.there))); done)); (first | rfl | simp; done)) | ((with_reducible apply SubH.consO); (focus ((repeat (first | (with_reducible exact Pick.here) | (with_reducible apply Pick.there))); done)); (first | rfl | simp; done); (first | rfl | simp; done)) | exact SubH.drop SubH.refl | apply SubH.drop)) (Nat.zero_le _) ?_
  rintro ⟨k, A, cap⟩ hk
  dsimp only at hk ⊢
  refine go_ _ ?_
  refine so_pure rfl (by (first | (with_reducible rfl) | assumption | exact decide_eq_true (by omega) | (simp only [Bool.not_eq_true', Bool.not_eq_false', decide_eq_false_iff_not, decide_eq_true_eq] <;> first | assumption | omega) | decide)) rfl (Nat.le_of_ble_eq_true rfl) (ps_lenS rfl (unT_spec _ _ rfl)) ?_
  by_cases hlt : k < s.size
  · skip
    refine go_ _ ?_
    refine so_pure rfl (by (first | (with_reducible rfl) | assumption | exact decide_eq_true (by omega) | (simp only [Bool.not_eq_true', Bool.not_eq_false', decide_eq_false_iff_not, decide_eq_true_eq] <;> first | assumption | omega) | decide)) rfl (Nat.le_of_ble_eq_true rfl) (ps_indexS rfl rfl (unT_spec _ _ rfl) hlt) ?_
    have hb := UInt8.toNat_lt (s[k]'hlt)
    refine so_pure rfl (by (first | (with_reducible rfl) | assumption | exact decide_eq_true (by omega) | (simp only [Bool.not_eq_true', Bool.not_eq_false', decide_eq_false_iff_not, decide_eq_true_eq] <;> first | assumption | omega) | decide)) rfl (Nat.le_of_ble_eq_true rfl) (ps_convert rfl (run_conv (tU rfl) (tU rfl) (IntWalk.u16_in _ (by omega)))) ?_
    refine go_ _ ?_
    refine so_slice1 (e := 36) (sz := 1) rfl (by (first | (with_reducible rfl) | assumption | exact decide_eq_true (by omega) | (simp only [Bool.not_eq_true', Bool.not_eq_false', decide_eq_false_iff_not, decide_eq_true_eq] <;> first | assumption | omega) | decide)) rfl (by kernel_rfl) rfl (Nat.le_of_ble_eq_true rfl) fun q2 => ?_
    refine go_ _ ?_
    refine so_append1 (e := 36) (sz := 1) rfl (by (first | (with_reducible rfl) | assumption | exact decide_eq_true (by omega) | (simp only [Bool.not_eq_true', Bool.not_eq_false', decide_eq_false_iff_not, decide_eq_true_eq] <;> first | assumption | omega) | decide)) rfl rfl (by kernel_rfl) (Nat.le_of_ble_eq_true rfl) (fun A'' cap'' => (by (focus ((repeat (first | (with_reducible exact Upd.here) | (with_reducible apply Upd.there))); done)))) rw_here rfl rfl (by omega) fun A2 cap2 => ?_
    refine go_ _ ?_
    refine ⟨(k + 1, A2, cap2), by dsimp only; omega, (by repeat (first | exact Sub.nil | refine Sub.cons rfl ?_ | (refine Sub.consB rfl (by (first | rfl | exact decide_eq_decide.2 (by omega) | exact (decide_eq_true (by omega)).symm | exact (decide_eq_false (by omega)).symm | exact decide_eq_true (by omega) | exact decide_eq_false (by omega))) ?_))), ?_, by dsimp only; omega⟩
    dsimp only
    rw [unitsM_take s k hlt, List.map_append]
    exact (by repeat (first | exact SubH.refl | exact SubH.nil | ((with_reducible apply SubH.cons); (focus ((repeat (first | (with_reducible exact Pick.here) | (with_reducible apply Pick.there))); done))) | ((with_reducible apply SubH.consR); (focus ((repeat (first | (with_reducible exact Pick.here) | (with_reducible apply Pick.there))); done)); (first | rfl | simp; done)) | ((with_reducible apply SubH.consO); (focus ((repeat (first | (with_reducible exact Pick.here) | (with_reducible apply Pick.there))); done)); (first | rfl | simp; done); (first | rfl | simp; done)) | exact SubH.drop SubH.refl | apply SubH.drop))
  · obtain rfl : k = s.size := by omega
    have e : (unitsM s).length = s.size := unitsM_len s
    rw [← e, List.take_length]
    refine go_ _ ?_
    exact sret1 rfl rfl ⟨(A, cap), trivial, rfl, .refl⟩

set_option maxRecDepth 100000 in
theorem vast_any (n m c1 c2 : Nat) (A A' : Option Addr) (w : World) : Calls Try.prog 12 #[.slice A n c1, .slice A' m c2] w fun e w' => e = .returned (.bool (decide (3000 < n) || decide (8192 < m))) ∧ Below w.heap.size w w' := by
  refine s_quiet [(0, .slice A n c1), (1, .slice A' m c2)] Try.func12 rfl Try.ntmps12 rfl (by simp) ?_
  by_cases h : 3000 < n
  · rw [decide_eq_true h]
    refine go_ _ ?_
    exact sret1 rfl rfl rfl
  · rw [decide_eq_false h]
    refine go_ _ ?_
    exact sret1 rfl rfl (by rw [Bool.false_or]; congr 1; exact decide_eq_decide.2 (by omega))

set_option maxRecDepth 100000 in
set_option maxHeartbeats 1000000 in
theorem table_any (w : World) : Calls Try.prog 18 #[] w fun e w' => ∃ q : Nat, True ∧ e = .returned (.slice (some ⟨q, 0, none⟩) 99 99) ∧ Mem w.heap.size w [own (some ⟨q, 0, none⟩) 99 99 2 1 (tableM.map (.int .i64))] w' := by
  refine s_callsN [] (fun q : Nat => .slice (some ⟨q, 0, none⟩) 99 99) (fun q => [own (some ⟨q, 0, none⟩) 99 99 2 1 (tableM.map (.int .i64))]) (fun _ => True) Try.func18 rfl Try.ntmps18 rfl (by simp) ?_
  refine go_ _ ?_
  refine so_make1 (e := 2) (n := 99) (z := .int .i64 0) rfl (by (first | (with_reducible rfl) | assumption | exact decide_eq_true (by omega) | (simp only [Bool.not_eq_true', Bool.not_eq_false', decide_eq_false_iff_not, decide_eq_true_eq] <;> first | assumption | omega) | decide)) rfl rfl (by kernel_rfl) (tZ rfl) rfl (by decide) (Nat.le_of_ble_eq_true rfl) fun q => ?_
  refine go_ _ ?_
  refine so_storeO rfl (by (first | (with_reducible rfl) | assumption | exact decide_eq_true (by omega) | (simp only [Bool.not_eq_true', Bool.not_eq_false', decide_eq_false_iff_not, decide_eq_true_eq] <;> first | assumption | omega) | decide)) rfl rfl rfl (tS rfl) (by (focus ((repeat (first | (with_reducible exact Upd.here) | (with_reducible apply Upd.there))); done))) (by simp) ?_
  refine go_ _ ?_
  refine so_storeO rfl (by (first | (with_reducible rfl) | assumption | exact decide_eq_true (by omega) | (simp only [Bool.not_eq_true', Bool.not_eq_false', decide_eq_false_iff_not, decide_eq_true_eq] <;> first | assumption | omega) | decide)) rfl rfl rfl (tS rfl) (by (focus ((repeat (first | (with_reducible exact Upd.here) | (with_reducible apply Upd.there))); done))) (by simp) ?_
  refine go_ _ ?_
  refine so_storeO rfl (by (first | (with_reducible rfl) | assumption | exact decide_eq_true (by omega) | (simp only [Bool.not_eq_true', Bool.not_eq_false', decide_eq_false_iff_not, decide_eq_true_eq] <;> first | assumption | omega) | decide)) rfl rfl rfl (tS rfl) (by (focus ((repeat (first | (with_reducible exact Upd.here) | (with_reducible apply Upd.there))); done))) (by simp) ?_
  refine go_ _ ?_
  exact sret1 rfl rfl ⟨q, trivial, rfl, .refl⟩

/-- How many ends units have; -1: one of them is a word's. -/
def endsL (us : List Int) : Int := if us.all btw then (us.countP (· == 10) : Nat) else -1
def cnt (us : List Int) : Nat := us.countP (· == 10)

set_option maxRecDepth 100000 in
set_option maxHeartbeats 1000000 in
theorem endsL_any (us : List Int) (A : Option Addr) (cap : Nat) (hlen : us.length ≤ 4294967296) (w : World) (hA : Rd w uV 1 A us) :
    Calls Try.prog 14 #[.slice A us.length cap] w fun e w' => e = .returned (.int .i64 (endsL us)) ∧ Below w.heap.size w w' := by
  refine s_quiet [(0, .slice A us.length cap)] Try.func14 rfl Try.ntmps14 rfl (by simp) ?_
  refine go_ _ ?_
  refine s_loop (ι := Nat) (fun k => [(0, .slice A us.length cap), (3, .int .i64 ((cnt (us.take k) : Nat) : Int)), (4, .int .i64 (k : Nat))]) (fun _ => [])
    (fun k => k ≤ us.length ∧ (us.take k).all btw = true) (fun k => us.length - k) 0 (by repeat (first | exact Sub.nil | refine Sub.cons rfl ?_ | (refine Sub.consB rfl (by (first | rfl | exact decide_eq_decide.2 (by omega) | exact (decide_eq_true (by omega)).symm | exact (decide_eq_false (by omega)).symm | exact decide_eq_true (by omega) | exact decide_eq_false (by omega))) ?_))) (by repeat (first | exact SubH.refl | exact SubH.nil | ((with_reducible apply SubH.cons); (focus ((repeat (first | (with_reducible exact Pick.here) | (with_reducible apply Pick.there))); done))) | ((with_reducible apply SubH.consR); (focus ((repeat (first | (with_reducible exact Pick.here) | (with_reducible apply Pick.there))); done)); (first | rfl | simp; done)) | ((with_reducible apply SubH.consO); (focus ((repeat (first | (with_reducible exact Pick.here) | (with_reducible apply Pick.there))); done)); (first | rfl | simp; done); (first | rfl | simp; done)) | exact SubH.drop SubH.refl | apply SubH.drop)) ⟨Nat.zero_le _, rfl⟩ ?_
  rintro k ⟨hk, hall⟩
  have hcb : cnt (us.take k) ≤ k := by
    have := List.countP_le_length (p := fun x : Int => x == 10) (l := us.take k)
    simp at this; unfold cnt; omega
  by_cases hlt : k < us.length
  · obtain ⟨b1, o1, rfl, hr⟩ := hA.at k hlt
    unfold uV at hr
    have hct : cnt (us.take (k + 1)) = cnt (us.take k) + if us[k] = 10 then 1 else 0 := by
      unfold cnt
      rw [List.take_add_one, List.getElem?_eq_getElem hlt, List.countP_append]
      simp [List.countP_cons]
    have hal : (us.take (k + 1)).all btw = btw us[k] := by
      rw [List.take_add_one, List.getElem?_eq_getElem hlt, List.all_append, hall]; simp
    generalize hg : cnt (us.take k) = n at *
    by_cases h1 : us[k] = 10
    · rw [if_pos h1] at hct
      refine go_ _ ?_
      exact ⟨k + 1, by omega, by rw [hct]; exact (by repeat (first | exact Sub.nil | refine Sub.cons rfl ?_ | (refine Sub.consB rfl (by (first | rfl | exact decide_eq_decide.2 (by omega) | exact (decide_eq_true (by omega)).symm | exact (decide_eq_false (by omega)).symm | exact decide_eq_true (by omega) | exact decide_eq_false (by omega))) ?_))), .refl, by omega, by rw [hal, h1]; rfl⟩
    · rw [if_neg h1] at hct
      by_cases h2 : us[k] = 32
      · skip
        refine go_ _ ?_
        exact ⟨k + 1, by omega, by rw [hct]; exact (by repeat (first | exact Sub.nil | refine Sub.cons rfl ?_ | (refine Sub.consB rfl (by (first | rfl | exact decide_eq_decide.2 (by omega) | exact (decide_eq_true (by omega)).symm | exact (decide_eq_false (by omega)).symm | exact decide_eq_true (by omega) | exact decide_eq_false (by omega))) ?_))), .refl, by omega, by rw [hal, h2]; rfl⟩
      · have e : endsL us = -1 := by
          unfold endsL
          rw [if_neg (fun h => ?_)]
          have := List.all_eq_true.1 h us[k] (List.getElem_mem hlt)
          unfold btw at this
          simp [h1, h2] at this
        refine go_ _ ?_
        exact sret1 rfl rfl (by rw [e])
  · obtain rfl : k = us.length := by omega
    rw [List.take_length] at *
    have e : endsL us = (cnt us : Nat) := by unfold endsL; rw [if_pos hall]; rfl
    rw [e]
    refine go_ _ ?_
    exact sret1 rfl rfl rfl
end Go.Proofs.Ytkdjlaejbimchaa
