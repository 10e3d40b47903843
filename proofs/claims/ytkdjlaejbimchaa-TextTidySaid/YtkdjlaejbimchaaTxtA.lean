/- The walk of TextWhole. -/
import Derived.Test.YtkdjlaejbimchaaTxtP
namespace Go.Proofs.Ytkdjlaejbimchaa
open Go.RowKit

set_option maxRecDepth 100000 in
set_option maxHeartbeats 2000000 in
theorem whole_any (us av : List Int) (A A' : Option Addr) (c c' : Nat) (hu : UB us) (ha : AB av) (hc : us.length ≤ c) (w : World) (hA : Rd w uV 1 A us) (hA' : Rd w aV 1 A' av) :
    Calls Try.prog 4 #[.slice A us.length c, .slice A' av.length c'] w fun e w' => e = .returned (.bool true) ∧ Below w.heap.size w w' := by
  refine s_quiet [(0, .slice A us.length c), (1, .slice A' av.length c')] Try.func4 rfl Try.ntmps4 rfl (by simp) ?_
  have HA : ∀ H, RdH w.heap.size w H uV 1 A us := fun _ => hA.base rfl
  have HA' : ∀ H, RdH w.heap.size w H aV 1 A' av := fun _ => hA'.base rfl
  refine go_ _ ?_
  refine so_callQ (fun w1 _ => vast_any us.length av.length c c' A A' w1) rfl rfl rfl (tF rfl) (Nat.le_of_ble_eq_true rfl) ?_
  generalize hv : (decide (3000 < us.length) || decide (8192 < av.length)) = v
  cases v
  · rw [Bool.or_eq_false_iff, decide_eq_false_iff_not, decide_eq_false_iff_not] at hv
    have hlw : (wordsS av us).ws.length ≤ us.length := by
      have e1 := strM_len us _ 0 rfl
      rw [List.drop_zero] at e1
      have e2 := wordS_len av us (strM 0 us) ⟨[], 0, 0, false⟩
      unfold wordsS
      simp at e2
      omega
    have hwords : ∀ H w1, Mem w.heap.size w H w1 → Calls Try.prog 13 #[.slice A us.length c, .slice A' av.length c'] w1 fun e w' => ∃ i : Option Addr × Nat, True ∧ e = .returned (.tuple #[.slice i.1 (wordsS av us).ws.length i.2, .bool (wordsS av us).far]) ∧ Mem w1.heap.size w1 [own i.1 (wordsS av us).ws.length i.2 34 5 ((wordsS av us).ws.flatMap Wd.cells)] w' := fun H w1 h1 => words_any us av A A' c c' hu ha (by omega) hc w1 (HA _ w1 h1) (HA' _ w1 h1)
    have hwh := words_whole av us
    generalize wordsS av us = s at *
    obtain ⟨ws, gap, forced, far⟩ := s
    dsimp only at *
    refine go_ _ ?_
    refine so_callN (hwords _) rfl rfl rfl (tF rfl) (Nat.le_of_ble_eq_true rfl) ?_
    clear hwords
    rintro ⟨Aw, cw⟩ _
    dsimp only
    refine go_ _ ?_
    refine s_loop (ι := Nat × Nat) (fun i => [(0, .slice A us.length c), (5, .slice Aw ws.length cw), (7, .int .i64 (i.1 : Nat)), (8, .int .i64 (i.2 : Nat))]) (fun _ => [own Aw ws.length cw 34 5 (ws.flatMap Wd.cells)])
      (fun i => i.2 ≤ ws.length ∧ i.1 ≤ us.length ∧ Wh us i.1 i.2 (ws.drop i.2)) (fun i => ws.length - i.2) (0, 0) (by repeat (first | exact Sub.nil | refine Sub.cons rfl ?_ | (refine Sub.consB rfl (by (first | rfl | exact decide_eq_decide.2 (by omega) | exact (decide_eq_true (by omega)).symm | exact (decide_eq_false (by omega)).symm | exact decide_eq_true (by omega) | exact decide_eq_false (by omega))) ?_))) (by repeat (first | exact SubH.refl | exact SubH.nil | ((with_reducible apply SubH.cons); (focus ((repeat (first | (with_reducible exact Pick.here) | (with_reducible apply Pick.there))); done))) | ((with_reducible apply SubH.consR); (focus ((repeat (first | (with_reducible exact Pick.here) | (with_reducible apply Pick.there))); done)); (first | rfl | simp; done)) | ((with_reducible apply SubH.consO); (focus ((repeat (first | (with_reducible exact Pick.here) | (with_reducible apply Pick.there))); done)); (first | rfl | simp; done); (first | rfl | simp; done)) | exact SubH.drop SubH.refl | apply SubH.drop)) ⟨Nat.zero_le _, Nat.zero_le _, hwh⟩ ?_
    clear hwh
    rintro ⟨at_, i⟩ ⟨hi, ha2, hw⟩
    dsimp only at hi ha2 hw ⊢
    by_cases hlt : i < ws.length
    · refine s_ownSome .here (by omega) fun g e => ?_
      subst e
      have hr : Rw w.heap.size w [own (some ⟨g, 0, none⟩) ws.length cw 34 5 (ws.flatMap Wd.cells)] g (0 + i * 5) ws[i].cells := own_at (c := Wd.cells) (sz := 5) (by decide) (fun _ => rfl) i hlt
      rw [List.drop_eq_getElem_cons hlt] at hw
      unfold Wh at hw
      obtain ⟨h1, h2, h3, h4, h5, h6, h7⟩ := hw
      generalize ws[i] = x at *
      obtain ⟨xa, xb, xw, xg, xf⟩ := x
      unfold Wd.cells at hr
      dsimp only at h1 h2 h3 h4 h5 h6 h7 hr
      have hends : ∀ H w1, Mem w.heap.size w H w1 → Calls Try.prog 14 #[.slice (subA A at_ 1 c) (xa - at_) (c - at_)] w1 fun e w' => e = .returned (.int .i64 xf) ∧ Below w1.heap.size w1 w' := fun H w1 hm => by
        have hl : ((us.take xa).drop at_).length = xa - at_ := by simp only [List.length_drop, List.length_take]; omega
        have := endsL_any ((us.take xa).drop at_) (subA A at_ 1 c) (c - at_) (by omega) w1 ((HA H w1 hm).part at_ xa c hc)
        rwa [hl, h5] at this
      have h2c : i = 0 ∨ (0 < i ∧ at_ < xa) := by
        rcases Nat.eq_zero_or_pos i with h | h
        · exact .inl h
        · exact .inr ⟨h, h2 h⟩
      clear h2
      rcases h2c with h2 | ⟨h2, h2p⟩
      all_goals
        refine go_ _ ?_
        refine s_parts (by kernel_rfl) ?_
        refine sg_free 60 (by kernel_rfl) (go_ _ ?_)
        refine sd_pure rfl (by (first | (with_reducible rfl) | assumption | exact decide_eq_true (by omega) | (simp only [Bool.not_eq_true', Bool.not_eq_false', decide_eq_false_iff_not, decide_eq_true_eq] <;> first | assumption | omega) | decide)) rfl (Nat.le_of_ble_eq_true rfl) (ps_slice (lo := at_) (hi := xa) rfl ⟨_, _, rfl, rfl⟩ ⟨_, _, rfl, rfl⟩ h1 (by omega) (tU rfl) (tS rfl)) ?_
        refine sd_callQ (hends _) rfl (by (first | (with_reducible rfl) | assumption | exact decide_eq_true (by omega) | (simp only [Bool.not_eq_true', Bool.not_eq_false', decide_eq_false_iff_not, decide_eq_true_eq] <;> first | assumption | omega) | decide)) rfl (tF rfl) (Nat.le_of_ble_eq_true rfl) ?_
        refine go_ _ ?_
        refine s_loop (ι := Nat) (fun k => [(0, .slice A us.length c), (5, .slice (some ⟨g, 0, none⟩) ws.length cw), (8, .int .i64 (i : Nat)), (9, .int .i64 (k : Nat))]) (fun _ => [own (some ⟨g, 0, none⟩) ws.length cw 34 5 (ws.flatMap Wd.cells)])
          (fun k => xa ≤ k ∧ k ≤ xb) (fun k => xb - k) xa (by repeat (first | exact Sub.nil | refine Sub.cons rfl ?_ | (refine Sub.consB rfl (by (first | rfl | exact decide_eq_decide.2 (by omega) | exact (decide_eq_true (by omega)).symm | exact (decide_eq_false (by omega)).symm | exact decide_eq_true (by omega) | exact decide_eq_false (by omega))) ?_))) (by repeat (first | exact SubH.refl | exact SubH.nil | ((with_reducible apply SubH.cons); (focus ((repeat (first | (with_reducible exact Pick.here) | (with_reducible apply Pick.there))); done))) | ((with_reducible apply SubH.consR); (focus ((repeat (first | (with_reducible exact Pick.here) | (with_reducible apply Pick.there))); done)); (first | rfl | simp; done)) | ((with_reducible apply SubH.consO); (focus ((repeat (first | (with_reducible exact Pick.here) | (with_reducible apply Pick.there))); done)); (first | rfl | simp; done); (first | rfl | simp; done)) | exact SubH.drop SubH.refl | apply SubH.drop)) ⟨Nat.le_refl _, by omega⟩ ?_
        rintro k ⟨hk1, hk2⟩
        by_cases hkb : k < xb
        · have hb := h6 k (by omega) hk1 hkb
          obtain ⟨b1, o1, rfl, hr2⟩ := RdH.at (HA []) (Mem.start w) k (by omega)
          have hr3 : Rw w.heap.size w [own (some ⟨g, 0, none⟩) ws.length cw 34 5 (ws.flatMap Wd.cells)] b1 (o1 + k * 1) (uV us[k]) := fun w1 hw1 => hr2 w1 hw1.tail
          have hn : us[k] ≠ 32 ∧ us[k] ≠ 10 := by
            unfold btw at hb
            simpa using hb
          unfold uV at hr3
          refine go_ _ ?_
          exact ⟨k + 1, by omega, (by repeat (first | exact Sub.nil | refine Sub.cons rfl ?_ | (refine Sub.consB rfl (by (first | rfl | exact decide_eq_decide.2 (by omega) | exact (decide_eq_true (by omega)).symm | exact (decide_eq_false (by omega)).symm | exact decide_eq_true (by omega) | exact decide_eq_false (by omega))) ?_))), .refl, by omega, by omega⟩
        · obtain rfl : k = xb := by omega
          refine go_ _ ?_
          exact ⟨(k, i + 1), by dsimp only; omega, (by repeat (first | exact Sub.nil | refine Sub.cons rfl ?_ | (refine Sub.consB rfl (by (first | rfl | exact decide_eq_decide.2 (by omega) | exact (decide_eq_true (by omega)).symm | exact (decide_eq_false (by omega)).symm | exact decide_eq_true (by omega) | exact decide_eq_false (by omega))) ?_))), (by repeat (first | exact SubH.refl | exact SubH.nil | ((with_reducible apply SubH.cons); (focus ((repeat (first | (with_reducible exact Pick.here) | (with_reducible apply Pick.there))); done))) | ((with_reducible apply SubH.consR); (focus ((repeat (first | (with_reducible exact Pick.here) | (with_reducible apply Pick.there))); done)); (first | rfl | simp; done)) | ((with_reducible apply SubH.consO); (focus ((repeat (first | (with_reducible exact Pick.here) | (with_reducible apply Pick.there))); done)); (first | rfl | simp; done); (first | rfl | simp; done)) | exact SubH.drop SubH.refl | apply SubH.drop)), by dsimp only; omega, h4, h7⟩
    · obtain rfl : i = ws.length := by omega
      rw [List.drop_length] at hw
      unfold Wh at hw
      have hends : ∀ H w1, Mem w.heap.size w H w1 → Calls Try.prog 14 #[.slice (subA A at_ 1 c) (us.length - at_) (c - at_)] w1 fun e w' => e = .returned (.int .i64 (endsL (us.drop at_))) ∧ Below w1.heap.size w1 w' := fun H w1 hm => by
        have hl : ((us.take us.length).drop at_).length = us.length - at_ := by simp
        have := endsL_any ((us.take us.length).drop at_) (subA A at_ 1 c) (c - at_) (by omega) w1 ((HA H w1 hm).part at_ us.length c hc)
        rwa [hl, List.take_length] at this
      have hpos : 0 ≤ endsL (us.drop at_) := by unfold endsL; rw [if_pos hw]; omega
      generalize endsL (us.drop at_) = v at *
      refine go_ _ ?_
      refine so_pure rfl (by (first | (with_reducible rfl) | assumption | exact decide_eq_true (by omega) | (simp only [Bool.not_eq_true', Bool.not_eq_false', decide_eq_false_iff_not, decide_eq_true_eq] <;> first | assumption | omega) | decide)) rfl (Nat.le_of_ble_eq_true rfl) (ps_slice (lo := at_) (hi := us.length) rfl ⟨_, _, rfl, rfl⟩ rfl ha2 hc (tU rfl) (tS rfl)) ?_
      refine so_callQ (hends _) rfl (by (first | (with_reducible rfl) | assumption | exact decide_eq_true (by omega) | (simp only [Bool.not_eq_true', Bool.not_eq_false', decide_eq_false_iff_not, decide_eq_true_eq] <;> first | assumption | omega) | decide)) rfl (tF rfl) (Nat.le_of_ble_eq_true rfl) ?_
      refine go_ _ ?_
      refine so_callQ (fun w1 _ => works_any w1) rfl (by (first | (with_reducible rfl) | assumption | exact decide_eq_true (by omega) | (simp only [Bool.not_eq_true', Bool.not_eq_false', decide_eq_false_iff_not, decide_eq_true_eq] <;> first | assumption | omega) | decide)) rfl (tF rfl) (Nat.le_of_ble_eq_true rfl) ?_
      refine go_ _ ?_
      exact sret1 rfl rfl rfl
  · skip
    refine go_ _ ?_
    refine so_callQ (fun w1 _ => works_any w1) rfl rfl rfl (tF rfl) (Nat.le_of_ble_eq_true rfl) ?_
    refine go_ _ ?_
    exact sret1 rfl rfl rfl
end Go.Proofs.Ytkdjlaejbimchaa
