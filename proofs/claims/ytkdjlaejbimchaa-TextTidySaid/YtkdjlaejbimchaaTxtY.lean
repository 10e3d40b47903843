/- The walk of tidy. -/
import Derived.Test.YtkdjlaejbimchaaTxtT
import Derived.Test.YtkdjlaejbimchaaTxtB
namespace Go.Proofs.Ytkdjlaejbimchaa
open Go.RowKit

def lastW (l : List Int) : Bool := match l.getLast? with
  | some x => !btw x
  | none => false
theorem lastW_app (l : List Int) (x : Int) : lastW (l ++ [x]) = !btw x := by unfold lastW; simp
theorem lastW_at (l : List Int) (h : 0 < l.length) : lastW l = !btw (l[l.length - 1]) := by
  unfold lastW; rw [List.getLast?_eq_getElem?, List.getElem?_eq_getElem (by omega)]
theorem tidy_word (b : Bool) (us : List Int) (i : Nat) (h : i < us.length) (h32 : us[i] ≠ 32) : tidyR b (us.drop i) = us[i] :: tidyR (!btw us[i]) (us.drop (i + 1)) := by
  rw [List.drop_eq_getElem_cons h, tidyR, if_neg h32]
theorem tidy_keep (us : List Int) (i : Nat) (h : i < us.length) (h32 : us[i] = 32) (hn : nextW (us.drop i) = true) : tidyR true (us.drop i) = 32 :: tidyR false (us.drop (i + 1)) := by
  rw [List.drop_eq_getElem_cons h, h32] at hn ⊢
  rw [tidyR, if_pos rfl, if_pos ⟨rfl, by simpa [nextW] using hn⟩]
theorem tidy_drop (b : Bool) (us : List Int) (i : Nat) (h : i < us.length) (h32 : us[i] = 32) (hn : b = false ∨ nextW (us.drop i) = false) : tidyR b (us.drop i) = tidyR b (us.drop (i + 1)) := by
  rw [List.drop_eq_getElem_cons h, h32] at hn ⊢
  rw [tidyR, if_pos rfl, if_neg (fun hc => ?_)]
  rcases hn with hn | hn
  · rw [hn] at hc; cases hc.1
  · have : nextW (us.drop (i + 1)) = false := by simpa [nextW] using hn
    rw [this] at hc; cases hc.2
theorem next_step (us : List Int) (j : Nat) (h : j < us.length) (h32 : us[j] = 32) : nextW (us.drop j) = nextW (us.drop (j + 1)) := by
  rw [List.drop_eq_getElem_cons h, nextW, if_pos h32]
theorem next_at (us : List Int) (j : Nat) (h : j < us.length) (h32 : us[j] ≠ 32) : nextW (us.drop j) = decide (us[j] ≠ 10) := by
  rw [List.drop_eq_getElem_cons h, nextW, if_neg h32]

set_option maxRecDepth 100000 in
set_option maxHeartbeats 2000000 in
theorem tidy_any (us : List Int) (A : Option Addr) (c : Nat) (hlen : us.length ≤ 1073741823) (w : World) (hA : Rd w uV 1 A us) :
    Calls Try.prog 15 #[.slice A us.length c] w fun e w' => ∃ i : Option Addr × Nat, True ∧ e = .returned (.slice i.1 (tidyR false us).length i.2) ∧ Mem w.heap.size w [own i.1 (tidyR false us).length i.2 36 1 ((tidyR false us).map (.int .u16))] w' := by
  refine s_callsN [(0, .slice A us.length c)] (fun i : Option Addr × Nat => .slice i.1 (tidyR false us).length i.2) (fun i => [own i.1 (tidyR false us).length i.2 36 1 ((tidyR false us).map (.int .u16))]) (fun _ => True) Try.func15 rfl Try.ntmps15 rfl (by simp) ?_
  refine s_ownNil 36 1 ?_
  refine go_ _ ?_
  refine s_loop (ι := Nat × List Int × Option Addr × Nat) (fun i => [(0, .slice A us.length c), (3, .slice i.2.2.1 i.2.1.length i.2.2.2), (4, .int .i64 (i.1 : Nat))])
    (fun i => [own i.2.2.1 i.2.1.length i.2.2.2 36 1 (i.2.1.map (.int .u16))]) (fun i => i.1 ≤ us.length ∧ i.2.1.length ≤ i.1 ∧ i.2.1 ++ tidyR (lastW i.2.1) (us.drop i.1) = tidyR false us) (fun i => us.length - i.1) (0, [], none, 0) (by repeat (first | exact Sub.nil | refine Sub.cons rfl ?_ | (refine Sub.consB rfl (by (first | rfl | exact decide_eq_decide.2 (by omega) | exact (decide_eq_true (by omega)).symm | exact (decide_eq_false (by omega)).symm | exact decide_eq_true (by omega) | exact decide_eq_false (by omega))) ?_))) (by repeat (first | exact SubH.refl | exact SubH.nil | ((with_reducible apply SubH.cons); (focus ((repeat (first | (with_reducible exact Pick.here) | (with_reducible apply Pick.there))); done))) | ((with_reducible apply SubH.consR); (focus ((repeat (first | (with_reducible exact Pick.here) | (with_reducible apply Pick.there))); done)); (first | rfl | simp; done)) | ((with_reducible apply SubH.consO); (focus ((repeat (first | (with_reducible exact Pick.here) | (with_reducible apply Pick.there))); done)); (first | rfl | simp; done); (first | rfl | simp; done)) | exact SubH.drop SubH.refl | apply SubH.drop)) ⟨Nat.zero_le _, Nat.zero_le _, rfl⟩ ?_
  rintro ⟨i, pre, B, d⟩ ⟨hi, hpl, hpre⟩
  dsimp only at hi hpl hpre ⊢
  have HA : ∀ H, RdH w.heap.size w H uV 1 A us := fun _ => hA.base rfl
  have HR : ∀ H k (h : k < us.length), ∃ b o, A = some ⟨b, o, none⟩ ∧ Rw w.heap.size w H b (o + k * 1) [.int .u16 us[k]] := fun H k h => by
    obtain ⟨b, o, e, hr⟩ := RdH.at (HA []) (Mem.start w) k h
    exact ⟨b, o, e, Rw.sub hr .nil⟩
  clear hA HA
  by_cases hlt : i < us.length
  · obtain ⟨b1, o1, rfl, hr⟩ := HR [own B pre.length d 36 1 (pre.map (.int .u16))] i hlt
    by_cases h32 : us[i] = 32
    · skip
      refine go_ _ ?_
      refine s_loop (ι := Nat) (fun j => [(0, .slice (some ⟨b1, o1, none⟩) us.length c), (3, .slice B pre.length d), (4, .int .i64 (i : Nat)), (5, .int .i64 (j : Nat))])
        (fun _ => [own B pre.length d 36 1 (pre.map (.int .u16))]) (fun j => j ≤ us.length ∧ nextW (us.drop i) = nextW (us.drop j)) (fun j => us.length - j) i (by repeat (first | exact Sub.nil | refine Sub.cons rfl ?_ | (refine Sub.consB rfl (by (first | rfl | exact decide_eq_decide.2 (by omega) | exact (decide_eq_true (by omega)).symm | exact (decide_eq_false (by omega)).symm | exact decide_eq_true (by omega) | exact decide_eq_false (by omega))) ?_))) .refl ⟨hi, rfl⟩ ?_
      rintro j ⟨hj, hnx⟩
      have hdone : ∀ nx : Bool, nextW (us.drop j) = nx → (lastW pre = false ∨ nx = false) → pre ++ tidyR (lastW pre) (us.drop (i + 1)) = tidyR false us := fun nx h1 h2 => by
        rw [← hpre, tidy_drop (lastW pre) us i hlt h32 (by rw [hnx, h1]; exact h2)]
      have hkept : ∀ nx : Bool, nextW (us.drop j) = nx → lastW pre = true → nx = true → (pre ++ [us[i]]) ++ tidyR (lastW (pre ++ [us[i]])) (us.drop (i + 1)) = tidyR false us := fun nx h1 h2 h3 => by
        have := tidy_keep us i hlt h32 (by rw [hnx, h1]; exact h3)
        rw [lastW_app, h32, ← hpre, h2, this]
        simp [btw]
      have hnx' := hnx
      clear hpre hnx
      by_cases hjl : j < us.length
      · obtain ⟨b2, o2, e2, hr2⟩ := HR [own B pre.length d 36 1 (pre.map (.int .u16))] j hjl
        cases e2
        by_cases hj32 : us[j] = 32
        · skip
          refine go_ _ ?_
          exact ⟨j + 1, by omega, (by repeat (first | exact Sub.nil | refine Sub.cons rfl ?_ | (refine Sub.consB rfl (by (first | rfl | exact decide_eq_decide.2 (by omega) | exact (decide_eq_true (by omega)).symm | exact (decide_eq_false (by omega)).symm | exact decide_eq_true (by omega) | exact decide_eq_false (by omega))) ?_))), .refl, by omega, by rw [hnx', next_step us j hjl hj32]⟩
        · have hnj := next_at us j hjl hj32
          have hd := hdone _ hnj
          have hk := hkept _ hnj
          clear hdone hkept hnj
          rcases Nat.eq_zero_or_pos pre.length with hp0 | hp0
          · have hlw : lastW pre = false := by rw [List.eq_nil_of_length_eq_zero hp0]; rfl
            refine go_ _ ?_
            exact ⟨(i + 1, pre, B, d), by dsimp only; omega, (by repeat (first | exact Sub.nil | refine Sub.cons rfl ?_ | (refine Sub.consB rfl (by (first | rfl | exact decide_eq_decide.2 (by omega) | exact (decide_eq_true (by omega)).symm | exact (decide_eq_false (by omega)).symm | exact decide_eq_true (by omega) | exact decide_eq_false (by omega))) ?_))), .refl, by dsimp only; omega, by dsimp only; omega, hd (.inl hlw)⟩
          · refine s_ownSome .here hp0 fun g e => ?_
            subst e
            have hlw := lastW_at pre hp0
            have hrL : Rw w.heap.size w [own (some ⟨g, 0, none⟩) pre.length d 36 1 (pre.map (.int .u16))] g (0 + (pre.length - 1) * 1) [.int .u16 pre[pre.length - 1]] := own_at1 (f := .int .u16) (pre.length - 1) (by omega)
            generalize pre[pre.length - 1] = L at *
            refine go_ _ ?_
            refine so_pure rfl (by (first | (with_reducible rfl) | assumption | exact decide_eq_true (by omega) | (simp only [Bool.not_eq_true', Bool.not_eq_false', decide_eq_false_iff_not, decide_eq_true_eq] <;> first | assumption | omega) | decide)) rfl (Nat.le_of_ble_eq_true rfl) (ps_indexAddrL (j := pre.length - 1) rfl rfl (tU rfl) (tS rfl) (toJ (by omega)) (by omega)) ?_
            by_cases hL10 : L = 10
            · have hlf : lastW pre = false := by rw [hlw, hL10]; rfl
              refine go_ _ ?_
              exact ⟨(i + 1, pre, some ⟨g, 0, none⟩, d), by dsimp only; omega, (by repeat (first | exact Sub.nil | refine Sub.cons rfl ?_ | (refine Sub.consB rfl (by (first | rfl | exact decide_eq_decide.2 (by omega) | exact (decide_eq_true (by omega)).symm | exact (decide_eq_false (by omega)).symm | exact decide_eq_true (by omega) | exact decide_eq_false (by omega))) ?_))), .refl, by dsimp only; omega, by dsimp only; omega, hd (.inl hlf)⟩
            · skip
              refine go_ _ ?_
              refine so_pure rfl (by (first | (with_reducible rfl) | assumption | exact decide_eq_true (by omega) | (simp only [Bool.not_eq_true', Bool.not_eq_false', decide_eq_false_iff_not, decide_eq_true_eq] <;> first | assumption | omega) | decide)) rfl (Nat.le_of_ble_eq_true rfl) (ps_indexAddrL (j := pre.length - 1) rfl rfl (tU rfl) (tS rfl) (toJ (by omega)) (by omega)) ?_
              by_cases hL32 : L = 32
              · have hlf : lastW pre = false := by rw [hlw, hL32]; rfl
                refine go_ _ ?_
                exact ⟨(i + 1, pre, some ⟨g, 0, none⟩, d), by dsimp only; omega, (by repeat (first | exact Sub.nil | refine Sub.cons rfl ?_ | (refine Sub.consB rfl (by (first | rfl | exact decide_eq_decide.2 (by omega) | exact (decide_eq_true (by omega)).symm | exact (decide_eq_false (by omega)).symm | exact decide_eq_true (by omega) | exact decide_eq_false (by omega))) ?_))), .refl, by dsimp only; omega, by dsimp only; omega, hd (.inl hlf)⟩
              · replace hlw : lastW pre = true := by rw [hlw]; simp [btw, hL10, hL32]
                by_cases hj10 : us[j] = 10
                · skip
                  refine go_ _ ?_
                  exact ⟨(i + 1, pre, some ⟨g, 0, none⟩, d), by dsimp only; omega, (by repeat (first | exact Sub.nil | refine Sub.cons rfl ?_ | (refine Sub.consB rfl (by (first | rfl | exact decide_eq_decide.2 (by omega) | exact (decide_eq_true (by omega)).symm | exact (decide_eq_false (by omega)).symm | exact decide_eq_true (by omega) | exact decide_eq_false (by omega))) ?_))), .refl, by dsimp only; omega, by dsimp only; omega, hd (.inr (by simp [hj10]))⟩
                · have ha := hk hlw (by simp [hj10])
                  refine go_ _ ?_
                  refine so_slice1 (e := 36) (sz := 1) rfl (by (first | (with_reducible rfl) | assumption | exact decide_eq_true (by omega) | (simp only [Bool.not_eq_true', Bool.not_eq_false', decide_eq_false_iff_not, decide_eq_true_eq] <;> first | assumption | omega) | decide)) rfl (by kernel_rfl) rfl (Nat.le_of_ble_eq_true rfl) fun q2 => ?_
                  refine go_ _ ?_
                  refine so_append1 (e := 36) (sz := 1) rfl (by (first | (with_reducible rfl) | assumption | exact decide_eq_true (by omega) | (simp only [Bool.not_eq_true', Bool.not_eq_false', decide_eq_false_iff_not, decide_eq_true_eq] <;> first | assumption | omega) | decide)) rfl rfl (by kernel_rfl) (Nat.le_of_ble_eq_true rfl) (fun A'' cap'' => (by (focus ((repeat (first | (with_reducible exact Upd.here) | (with_reducible apply Upd.there))); done)))) rw_here rfl rfl (by omega) fun B2 d2 => ?_
                  refine go_ _ ?_
                  refine ⟨(i + 1, pre ++ [us[i]], B2, d2), by dsimp only; omega, ?_, ?_, by dsimp only; omega, by simp; omega, ha⟩
                  · simp only [List.length_append, List.length_singleton]; exact (by repeat (first | exact Sub.nil | refine Sub.cons rfl ?_ | (refine Sub.consB rfl (by (first | rfl | exact decide_eq_decide.2 (by omega) | exact (decide_eq_true (by omega)).symm | exact (decide_eq_false (by omega)).symm | exact decide_eq_true (by omega) | exact decide_eq_false (by omega))) ?_)))
                  · simp only [List.length_append, List.length_singleton, List.map_append]; exact (by repeat (first | exact SubH.refl | exact SubH.nil | ((with_reducible apply SubH.cons); (focus ((repeat (first | (with_reducible exact Pick.here) | (with_reducible apply Pick.there))); done))) | ((with_reducible apply SubH.consR); (focus ((repeat (first | (with_reducible exact Pick.here) | (with_reducible apply Pick.there))); done)); (first | rfl | simp; done)) | ((with_reducible apply SubH.consO); (focus ((repeat (first | (with_reducible exact Pick.here) | (with_reducible apply Pick.there))); done)); (first | rfl | simp; done); (first | rfl | simp; done)) | exact SubH.drop SubH.refl | apply SubH.drop))
      · obtain rfl : j = us.length := by omega
        have hnj : nextW (us.drop us.length) = false := by rw [List.drop_length]; rfl
        have hd := hdone _ hnj
        clear hdone hkept hnj
        rcases Nat.eq_zero_or_pos pre.length with hp0 | hp0
        · have hlw : lastW pre = false := by rw [List.eq_nil_of_length_eq_zero hp0]; rfl
          refine go_ _ ?_
          exact ⟨(i + 1, pre, B, d), by dsimp only; omega, (by repeat (first | exact Sub.nil | refine Sub.cons rfl ?_ | (refine Sub.consB rfl (by (first | rfl | exact decide_eq_decide.2 (by omega) | exact (decide_eq_true (by omega)).symm | exact (decide_eq_false (by omega)).symm | exact decide_eq_true (by omega) | exact decide_eq_false (by omega))) ?_))), .refl, by dsimp only; omega, by dsimp only; omega, hd (.inl hlw)⟩
        · refine s_ownSome .here hp0 fun g e => ?_
          subst e
          have hlw := lastW_at pre hp0
          have hrL : Rw w.heap.size w [own (some ⟨g, 0, none⟩) pre.length d 36 1 (pre.map (.int .u16))] g (0 + (pre.length - 1) * 1) [.int .u16 pre[pre.length - 1]] := own_at1 (f := .int .u16) (pre.length - 1) (by omega)
          generalize pre[pre.length - 1] = L at *
          refine go_ _ ?_
          refine so_pure rfl (by (first | (with_reducible rfl) | assumption | exact decide_eq_true (by omega) | (simp only [Bool.not_eq_true', Bool.not_eq_false', decide_eq_false_iff_not, decide_eq_true_eq] <;> first | assumption | omega) | decide)) rfl (Nat.le_of_ble_eq_true rfl) (ps_indexAddrL (j := pre.length - 1) rfl rfl (tU rfl) (tS rfl) (toJ (by omega)) (by omega)) ?_
          by_cases hL10 : L = 10
          · have hlf : lastW pre = false := by rw [hlw, hL10]; rfl
            refine go_ _ ?_
            exact ⟨(i + 1, pre, some ⟨g, 0, none⟩, d), by dsimp only; omega, (by repeat (first | exact Sub.nil | refine Sub.cons rfl ?_ | (refine Sub.consB rfl (by (first | rfl | exact decide_eq_decide.2 (by omega) | exact (decide_eq_true (by omega)).symm | exact (decide_eq_false (by omega)).symm | exact decide_eq_true (by omega) | exact decide_eq_false (by omega))) ?_))), .refl, by dsimp only; omega, by dsimp only; omega, hd (.inl hlf)⟩
          · skip
            refine go_ _ ?_
            refine so_pure rfl (by (first | (with_reducible rfl) | assumption | exact decide_eq_true (by omega) | (simp only [Bool.not_eq_true', Bool.not_eq_false', decide_eq_false_iff_not, decide_eq_true_eq] <;> first | assumption | omega) | decide)) rfl (Nat.le_of_ble_eq_true rfl) (ps_indexAddrL (j := pre.length - 1) rfl rfl (tU rfl) (tS rfl) (toJ (by omega)) (by omega)) ?_
            by_cases hL32 : L = 32
            · have hlf : lastW pre = false := by rw [hlw, hL32]; rfl
              refine go_ _ ?_
              exact ⟨(i + 1, pre, some ⟨g, 0, none⟩, d), by dsimp only; omega, (by repeat (first | exact Sub.nil | refine Sub.cons rfl ?_ | (refine Sub.consB rfl (by (first | rfl | exact decide_eq_decide.2 (by omega) | exact (decide_eq_true (by omega)).symm | exact (decide_eq_false (by omega)).symm | exact decide_eq_true (by omega) | exact decide_eq_false (by omega))) ?_))), .refl, by dsimp only; omega, by dsimp only; omega, hd (.inl hlf)⟩
            · replace hlw : lastW pre = true := by rw [hlw]; simp [btw, hL10, hL32]
              refine go_ _ ?_
              exact ⟨(i + 1, pre, some ⟨g, 0, none⟩, d), by dsimp only; omega, (by repeat (first | exact Sub.nil | refine Sub.cons rfl ?_ | (refine Sub.consB rfl (by (first | rfl | exact decide_eq_decide.2 (by omega) | exact (decide_eq_true (by omega)).symm | exact (decide_eq_false (by omega)).symm | exact decide_eq_true (by omega) | exact decide_eq_false (by omega))) ?_))), .refl, by dsimp only; omega, by dsimp only; omega, hd (.inr (by simp))⟩
    · skip
      refine go_ _ ?_
      refine so_slice1 (e := 36) (sz := 1) rfl (by (first | (with_reducible rfl) | assumption | exact decide_eq_true (by omega) | (simp only [Bool.not_eq_true', Bool.not_eq_false', decide_eq_false_iff_not, decide_eq_true_eq] <;> first | assumption | omega) | decide)) rfl (by kernel_rfl) rfl (Nat.le_of_ble_eq_true rfl) fun q2 => ?_
      refine go_ _ ?_
      refine so_append1 (e := 36) (sz := 1) rfl (by (first | (with_reducible rfl) | assumption | exact decide_eq_true (by omega) | (simp only [Bool.not_eq_true', Bool.not_eq_false', decide_eq_false_iff_not, decide_eq_true_eq] <;> first | assumption | omega) | decide)) rfl rfl (by kernel_rfl) (Nat.le_of_ble_eq_true rfl) (fun A'' cap'' => (by (focus ((repeat (first | (with_reducible exact Upd.here) | (with_reducible apply Upd.there))); done)))) rw_here rfl rfl (by omega) fun B2 d2 => ?_
      refine go_ _ ?_
      refine ⟨(i + 1, pre ++ [us[i]], B2, d2), by dsimp only; omega, ?_, ?_, by dsimp only; omega, by simp; omega, ?_⟩
      · simp only [List.length_append, List.length_singleton]; exact (by repeat (first | exact Sub.nil | refine Sub.cons rfl ?_ | (refine Sub.consB rfl (by (first | rfl | exact decide_eq_decide.2 (by omega) | exact (decide_eq_true (by omega)).symm | exact (decide_eq_false (by omega)).symm | exact decide_eq_true (by omega) | exact decide_eq_false (by omega))) ?_)))
      · simp only [List.length_append, List.length_singleton, List.map_append]; exact (by repeat (first | exact SubH.refl | exact SubH.nil | ((with_reducible apply SubH.cons); (focus ((repeat (first | (with_reducible exact Pick.here) | (with_reducible apply Pick.there))); done))) | ((with_reducible apply SubH.consR); (focus ((repeat (first | (with_reducible exact Pick.here) | (with_reducible apply Pick.there))); done)); (first | rfl | simp; done)) | ((with_reducible apply SubH.consO); (focus ((repeat (first | (with_reducible exact Pick.here) | (with_reducible apply Pick.there))); done)); (first | rfl | simp; done); (first | rfl | simp; done)) | exact SubH.drop SubH.refl | apply SubH.drop))
      · dsimp only
        rw [lastW_app, ← hpre, tidy_word (lastW pre) us i hlt h32]; simp
  · obtain rfl : i = us.length := by omega
    rw [List.drop_length, tidyR, List.append_nil] at hpre
    subst hpre
    refine go_ _ ?_
    exact sret1 rfl rfl ⟨(B, d), trivial, rfl, .refl⟩
end Go.Proofs.Ytkdjlaejbimchaa
