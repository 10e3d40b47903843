/- The walk of TextTidy. -/
import Derived.Test.YtkdjlaejbimchaaTxtY
namespace Go.Proofs.Ytkdjlaejbimchaa
open Go.RowKit

set_option maxRecDepth 100000 in
set_option maxHeartbeats 4000000 in
theorem tidyLaw_any (us av : List Int) (A1 A3 : Option Addr) (c1 c3 : Nat) (hu : UB us) (ha : AB av) (hc1 : us.length ≤ c1)
    (w : World) (h1 : Rd w uV 1 A1 us) (h3 : Rd w aV 1 A3 av) :
    Calls Try.prog 5 #[.slice A1 us.length c1, .slice A3 av.length c3] w fun e w' => e = .returned (.bool true) ∧ Below w.heap.size w w' := by
  refine s_quiet [(0, .slice A1 us.length c1), (1, .slice A3 av.length c3)] Try.func5 rfl Try.ntmps5 rfl (by simp) ?_
  have H1 : ∀ H, RdH w.heap.size w H uV 1 A1 us := fun _ => h1.base rfl
  have H3 : ∀ H, RdH w.heap.size w H aV 1 A3 av := fun _ => h3.base rfl
  clear h1 h3
  refine go_ _ ?_
  refine so_callQ (fun w1 _ => vast_any us.length av.length c1 c3 A1 A3 w1) rfl rfl rfl (tF rfl) (Nat.le_of_ble_eq_true rfl) ?_
  generalize hv : (decide (3000 < us.length) || decide (8192 < av.length)) = v
  cases v
  rotate_left
  · skip
    refine go_ _ ?_
    refine so_callQ (fun w1 _ => works_any w1) rfl rfl rfl (tF rfl) (Nat.le_of_ble_eq_true rfl) ?_
    refine go_ _ ?_
    exact sret1 rfl rfl rfl
  rw [Bool.or_eq_false_iff, decide_eq_false_iff_not, decide_eq_false_iff_not] at hv
  have hw1 : ∀ H w1, Mem w.heap.size w H w1 → Calls Try.prog 13 #[.slice A1 us.length c1, .slice A3 av.length c3] w1 fun e w' => ∃ i : Option Addr × Nat, True ∧ e = .returned (.tuple #[.slice i.1 (wordsS av us).ws.length i.2, .bool (wordsS av us).far]) ∧ Mem w1.heap.size w1 [own i.1 (wordsS av us).ws.length i.2 34 5 ((wordsS av us).ws.flatMap Wd.cells)] w' := fun H w1 h => words_any us av A1 A3 c1 c3 hu ha (by omega) hc1 w1 (H1 _ w1 h) (H3 _ w1 h)
  have hti : ∀ H w1, Mem w.heap.size w H w1 → Calls Try.prog 15 #[.slice A1 us.length c1] w1 fun e w' => ∃ i : Option Addr × Nat, True ∧ e = .returned (.slice i.1 (tidyR false us).length i.2) ∧ Mem w1.heap.size w1 [own i.1 (tidyR false us).length i.2 36 1 ((tidyR false us).map (.int .u16))] w' := fun H w1 h => tidy_any us A1 c1 (by omega) w1 (H1 _ w1 h)
  have htl := tidy_len us false
  have hw2 := fun (A : Option Addr) (c : Nat) T => words_own (B := w.heap.size) (w0 := w) (tidyR false us) av A A3 c c3 (tidy_ub us false hu) ha (by omega) (H := own A (tidyR false us).length c 36 1 ((tidyR false us).map (.int .u16)) :: T) .here own_rd1 (H3 _)
  obtain ⟨j1, j2⟩ := words_tidy av us
  have hex : ∀ B d H w1, Mem w.heap.size w (own B (wordsS av us).ws.length d 34 5 ((wordsS av us).ws.flatMap Wd.cells) :: H) w1 → Calls Try.prog 9 #[.slice B (wordsS av us).ws.length d] w1 fun e w' => e = .returned (.tuple #[.int .i64 (extM ((wordsS av us).ws.map Wd.g)).least, .int .i64 (extM ((wordsS av us).ws.map Wd.g)).great, .bool (extM ((wordsS av us).ws.map Wd.g)).far]) ∧ Below w1.heap.size w1 w' := fun B d H w1 h => by
    have := extent_any ((wordsS av us).ws.map Wd.g) B d (by have := words_len av us; simp; omega) (fun x hx => words_i64 av us x hx) w1 (wd_rd (own_rd (c := Wd.cells) (by decide) (fun _ => rfl) w1 h))
    rwa [List.length_map] at this
  have hwide : ∀ H w1, Mem w.heap.size w H w1 → Calls Try.prog 16 #[.slice A1 us.length c1, .slice A3 av.length c3] w1 fun e w' => e = .returned (.tuple #[.int .i64 (cutM (wideM av us)), .bool (!decide (wideM av us = cutM (wideM av us)))]) ∧ Below w1.heap.size w1 w' := fun H w1 h => wide_any us av A1 A3 c1 c3 (by omega) hu ha w1 (H1 _ w1 h) (H3 _ w1 h)
  have hle := words_le (av := av) (us := us)
  have in1 := words_in av us
  have in2 := words_in av (tidyR false us)
  have wl1 := words_len av us
  rw [← j2] at hw2
  generalize tidyR false us = ts at *
  generalize wordsS av us = s1 at *
  generalize wordsS av ts = s2 at *
  obtain ⟨l, g1, f1, e⟩ := s1
  obtain ⟨m, g2, f2, f⟩ := s2
  dsimp only at *
  have hlm : m.length = l.length := by have := congrArg List.length j1; simpa using this.symm
  have hst : ∀ i (h : i < l.length) (h' : i < m.length), strip l[i] = strip m[i] := fun i h h' => by
    have : (l.map strip)[i]'(by simpa using h) = (m.map strip)[i]'(by simpa using h') := by simp only [j1]
    simpa using this
  rw [hlm] at hw2
  generalize (extM (l.map Wd.g)).least = least at *
  generalize (extM (l.map Wd.g)).great = great at *
  generalize (extM (l.map Wd.g)).far = xfar at *
  refine go_ _ ?_
  refine so_callN (hw1 _) rfl rfl rfl (tF rfl) (Nat.le_of_ble_eq_true rfl) ?_
  clear hw1
  rintro ⟨B1, d1⟩ _
  dsimp only
  refine go_ _ ?_
  refine so_callN (hti _) rfl rfl rfl (tF rfl) (Nat.le_of_ble_eq_true rfl) ?_
  clear hti
  rintro ⟨B2, d2⟩ _
  dsimp only
  refine go_ _ ?_
  refine so_callN (hw2 _ _ _) rfl rfl rfl (tF rfl) (Nat.le_of_ble_eq_true rfl) ?_
  clear hw2
  rintro ⟨B3, d3⟩ _
  dsimp only
  refine so_joinK (ι := Unit) (fun _ => [(0, .slice A1 us.length c1), (1, .slice A3 av.length c3), (5, .slice B1 l.length d1), (7, .slice B3 l.length d3), (6, .bool e), (8, .bool e)])
    (fun _ => [own B3 l.length d3 34 5 (m.flatMap Wd.cells), own B1 l.length d1 34 5 (l.flatMap Wd.cells)]) (fun _ => True) ?_ ?_
  · skip
    refine go_ _ ?_
    exact ⟨(), (by repeat (first | exact Sub.nil | refine Sub.cons rfl ?_ | (refine Sub.consB rfl (by (first | rfl | exact decide_eq_decide.2 (by omega) | exact (decide_eq_true (by omega)).symm | exact (decide_eq_false (by omega)).symm | exact decide_eq_true (by omega) | exact decide_eq_false (by omega))) ?_))), (by repeat (first | exact SubH.refl | exact SubH.nil | ((with_reducible apply SubH.cons); (focus ((repeat (first | (with_reducible exact Pick.here) | (with_reducible apply Pick.there))); done))) | ((with_reducible apply SubH.consR); (focus ((repeat (first | (with_reducible exact Pick.here) | (with_reducible apply Pick.there))); done)); (first | rfl | simp; done)) | ((with_reducible apply SubH.consO); (focus ((repeat (first | (with_reducible exact Pick.here) | (with_reducible apply Pick.there))); done)); (first | rfl | simp; done); (first | rfl | simp; done)) | exact SubH.drop SubH.refl | apply SubH.drop)), trivial⟩
  rintro _ _ F' H' hF hH
  refine go_ _ ?_
  refine so_sub hF hH ?_
  clear hF hH F' H'
  cases e
  all_goals
    refine go_ _ ?_
    refine s_loop (ι := Nat) (fun i => [(0, .slice A1 us.length c1), (1, .slice A3 av.length c3), (5, .slice B1 l.length d1), (7, .slice B3 l.length d3), (9, .int .i64 (i : Nat))])
      (fun _ => [own B1 l.length d1 34 5 (l.flatMap Wd.cells), own B3 l.length d3 34 5 (m.flatMap Wd.cells)]) (fun i => i ≤ l.length) (fun i => l.length - i) 0 (by repeat (first | exact Sub.nil | refine Sub.cons rfl ?_ | (refine Sub.consB rfl (by (first | rfl | exact decide_eq_decide.2 (by omega) | exact (decide_eq_true (by omega)).symm | exact (decide_eq_false (by omega)).symm | exact decide_eq_true (by omega) | exact decide_eq_false (by omega))) ?_))) (by repeat (first | exact SubH.refl | exact SubH.nil | ((with_reducible apply SubH.cons); (focus ((repeat (first | (with_reducible exact Pick.here) | (with_reducible apply Pick.there))); done))) | ((with_reducible apply SubH.consR); (focus ((repeat (first | (with_reducible exact Pick.here) | (with_reducible apply Pick.there))); done)); (first | rfl | simp; done)) | ((with_reducible apply SubH.consO); (focus ((repeat (first | (with_reducible exact Pick.here) | (with_reducible apply Pick.there))); done)); (first | rfl | simp; done); (first | rfl | simp; done)) | exact SubH.drop SubH.refl | apply SubH.drop)) (Nat.zero_le _) ?_
    rintro i hi
    by_cases hlt : i < l.length
    · refine s_ownSome .here (by omega) fun g1 e1 => ?_
      subst e1
      refine s_ownSome (.there .here) (by omega) fun g3 e3 => ?_
      subst e3
      have hr1 : Rw w.heap.size w [own (some ⟨g1, 0, none⟩) l.length d1 34 5 (l.flatMap Wd.cells), own (some ⟨g3, 0, none⟩) l.length d3 34 5 (m.flatMap Wd.cells)] g1 (0 + i * 5) l[i].cells := own_at (c := Wd.cells) (sz := 5) (by decide) (fun _ => rfl) i hlt
      have hr3 : Rw w.heap.size w [own (some ⟨g1, 0, none⟩) l.length d1 34 5 (l.flatMap Wd.cells), own (some ⟨g3, 0, none⟩) l.length d3 34 5 (m.flatMap Wd.cells)] g3 (0 + i * 5) (m[i]'(by omega)).cells := rw_there (own_at (c := Wd.cells) (sz := 5) (by decide) (fun _ => rfl) i (by omega))
      have hs := hst i hlt (by omega)
      have hi1 := in1 _ (List.getElem_mem hlt)
      have hi2 := in2 (m[i]'(by omega)) (List.getElem_mem _)
      generalize l[i] = x at *
      generalize m[i]'(by omega) = y at *
      obtain ⟨xa, xb, xw, xg, xf⟩ := x
      obtain ⟨ya, yb, yw, yg, yf⟩ := y
      unfold strip at hs
      unfold Wd.cells at hr1 hr3
      dsimp only at hs hr1 hr3 hi1 hi2
      obtain ⟨e1, e2, e3, e4⟩ : (xb - xa = yb - ya) ∧ xw = yw ∧ xg = yg ∧ xf = yf := by simpa using hs
      subst e2 e3 e4
      refine go_ _ ?_
      refine s_parts (by kernel_rfl) ?_
      refine sg_free 62 (by kernel_rfl) (go_ _ ?_)
      exact ⟨i + 1, by omega, (by repeat (first | exact Sub.nil | refine Sub.cons rfl ?_ | (refine Sub.consB rfl (by (first | rfl | exact decide_eq_decide.2 (by omega) | exact (decide_eq_true (by omega)).symm | exact (decide_eq_false (by omega)).symm | exact decide_eq_true (by omega) | exact decide_eq_false (by omega))) ?_))), .refl, by omega⟩
    · obtain rfl : i = l.length := by omega
      refine go_ _ ?_
      refine s_loop (ι := Nat) (fun i => [(0, .slice A1 us.length c1), (1, .slice A3 av.length c3), (5, .slice B1 l.length d1), (10, .int .i64 (i : Nat))])
        (fun _ => [own B1 l.length d1 34 5 (l.flatMap Wd.cells)]) (fun i => i ≤ av.length ∧ ∀ x ∈ av.take i, 0 ≤ x) (fun i => av.length - i) 0 (by repeat (first | exact Sub.nil | refine Sub.cons rfl ?_ | (refine Sub.consB rfl (by (first | rfl | exact decide_eq_decide.2 (by omega) | exact (decide_eq_true (by omega)).symm | exact (decide_eq_false (by omega)).symm | exact decide_eq_true (by omega) | exact decide_eq_false (by omega))) ?_))) (by repeat (first | exact SubH.refl | exact SubH.nil | ((with_reducible apply SubH.cons); (focus ((repeat (first | (with_reducible exact Pick.here) | (with_reducible apply Pick.there))); done))) | ((with_reducible apply SubH.consR); (focus ((repeat (first | (with_reducible exact Pick.here) | (with_reducible apply Pick.there))); done)); (first | rfl | simp; done)) | ((with_reducible apply SubH.consO); (focus ((repeat (first | (with_reducible exact Pick.here) | (with_reducible apply Pick.there))); done)); (first | rfl | simp; done); (first | rfl | simp; done)) | exact SubH.drop SubH.refl | apply SubH.drop)) ⟨Nat.zero_le _, by simp⟩ ?_
      rintro k ⟨hk, hpos⟩
      by_cases hkl : k < av.length
      · obtain ⟨b1, o1, rfl, hr0⟩ := RdH.at (H3 []) (Mem.start w) k hkl
        have hr2 : Rw w.heap.size w [own B1 l.length d1 34 5 (l.flatMap Wd.cells)] b1 (o1 + k * 1) (aV av[k]) := Rw.sub hr0 .nil
        unfold aV at hr2
        have ht : ¬ av[k] < 0 → ∀ x ∈ av.take (k + 1), 0 ≤ x := fun h x hx => by
          rw [List.take_add_one, List.getElem?_eq_getElem hkl] at hx
          rcases List.mem_append.1 hx with hx | hx
          · exact hpos x hx
          · simp at hx; omega
        generalize av[k] = v at *
        by_cases hn : v < 0
        · skip
          refine go_ _ ?_
          refine so_callQ (fun w1 _ => works_any w1) rfl rfl rfl (tF rfl) (Nat.le_of_ble_eq_true rfl) ?_
          refine go_ _ ?_
          exact sret1 rfl rfl rfl
        · skip
          refine go_ _ ?_
          exact ⟨k + 1, by omega, (by repeat (first | exact Sub.nil | refine Sub.cons rfl ?_ | (refine Sub.consB rfl (by (first | rfl | exact decide_eq_decide.2 (by omega) | exact (decide_eq_true (by omega)).symm | exact (decide_eq_false (by omega)).symm | exact decide_eq_true (by omega) | exact decide_eq_false (by omega))) ?_))), .refl, by omega, ht hn⟩
      · obtain rfl : k = av.length := by omega
        rw [List.take_length] at hpos
        obtain ⟨l1, l2⟩ := hle hpos
        refine go_ _ ?_
        refine so_callQ (hex _ _ _) rfl rfl rfl (tF rfl) (Nat.le_of_ble_eq_true rfl) ?_
        refine go_ _ ?_
        refine so_callQ (hwide _) rfl rfl rfl (tF rfl) (Nat.le_of_ble_eq_true rfl) ?_
        refine go_ _ ?_
        refine so_callQ (fun w1 _ => works_any w1) rfl (by (first | (with_reducible rfl) | assumption | exact decide_eq_true (by omega) | (simp only [Bool.not_eq_true', Bool.not_eq_false', decide_eq_false_iff_not, decide_eq_true_eq] <;> first | assumption | omega) | decide)) rfl (tF rfl) (Nat.le_of_ble_eq_true rfl) ?_
        refine go_ _ ?_
        exact sret1 rfl rfl rfl
end Go.Proofs.Ytkdjlaejbimchaa
