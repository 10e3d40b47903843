/- The law WidthsSum, walked. -/
import Derived.Test.YtebiahkffkdlbaaWidT
namespace Go.Proofs.Ytebiahkffkdlbaa
open Go.RowKit

theorem quietN {w w' : World} (h : Mem w.heap.size w [] w') : Below w.heap.size w w' := h.below

set_option maxRecDepth 100000 in
set_option maxHeartbeats 8000000 in
theorem sum_any (s : Sty) (c : Int) (w : World) : Calls Try.prog 3 #[.agg s.cells.toArray, .int .i64 c] w fun e w' => e = .returned (.bool true) ∧ Below w.heap.size w w' := by
  refine s_quiet [(0, .agg s.cells.toArray), (1, .int .i64 c)] Try.func3 rfl Try.ntmps3 rfl (by simp) ?_
  refine go_ _ ?_
  (first | ((with_reducible apply so_new); rfl; (first | (with_reducible rfl) | assumption | exact decide_eq_true (by omega) | (simp only [Bool.not_eq_true', Bool.not_eq_false', decide_eq_false_iff_not, decide_eq_true_eq] <;> first | assumption | omega) | decide); exact tZ rfl; decide; (intro; rfl); (first | (with_reducible rfl) | assumption | exact decide_eq_true (by omega) | (simp only [Bool.not_eq_true', Bool.not_eq_false', decide_eq_false_iff_not, decide_eq_true_eq] <;> first | assumption | omega) | decide); (intro; rfl); rfl; exact tS rfl; rfl; rfl) | ((with_reducible apply so_alloc); rfl; (first | (with_reducible rfl) | assumption | exact decide_eq_true (by omega) | (simp only [Bool.not_eq_true', Bool.not_eq_false', decide_eq_false_iff_not, decide_eq_true_eq] <;> first | assumption | omega) | decide); exact tZ rfl; (focus ((repeat (first | (with_reducible exact CopyL.agg) | exact CopyL.nil | (apply CopyL.consI; rfl) | (apply CopyL.consB; rfl) | (apply CopyL.consS; rfl) | (apply CopyL.consP; rfl) | apply CopyL.cons)); done)); decide) | ((with_reducible apply so_box); rfl; (first | (with_reducible rfl) | assumption | exact decide_eq_true (by omega) | (simp only [Bool.not_eq_true', Bool.not_eq_false', decide_eq_false_iff_not, decide_eq_true_eq] <;> first | assumption | omega) | decide); rfl; (focus ((repeat (first | (with_reducible exact CopyL.agg) | exact CopyL.nil | (apply CopyL.consI; rfl) | (apply CopyL.consB; rfl) | (apply CopyL.consS; rfl) | (apply CopyL.consP; rfl) | apply CopyL.cons)); done)); decide))
  intro q
  refine go_ _ ?_
  refine so_callN (fun w1 _ => may_any s w1) rfl rfl rfl (tF rfl) (by decide) ?_
  intro b hb
  cases b
  · skip
    refine go_ _ ?_
    refine so_callQ (fun w1 _ => works_any w1) rfl rfl rfl (tF rfl) (by decide) ?_
    refine go_ _ ?_
    exact sret1 rfl rfl rfl
  have hs := hb rfl
  by_cases hc0 : c < 0
  · skip
    refine go_ _ ?_
    refine so_callQ (fun w1 _ => works_any w1) rfl rfl rfl (tF rfl) (by decide) ?_
    refine go_ _ ?_
    exact sret1 rfl rfl rfl
  by_cases hc1 : 1099511627776 < c
  · skip
    refine go_ _ ?_
    refine so_callQ (fun w1 _ => works_any w1) rfl rfl rfl (tF rfl) (by decide) ?_
    refine go_ _ ?_
    exact sret1 rfl rfl rfl
  have hst : StB s c := by have := hs.stB (c := c) (by omega); rwa [show max c 0 = c by omega] at this
  have hst' : StB s (max c 0) := by rwa [show max c 0 = c by omega]
  refine go_ _ ?_
  refine so_callQ (fun w1 _ => flowing_any s c w1 hst' (by omega)) rfl rfl rfl (tF rfl) (by decide) ?_
  cases hbd : beyondM (flowM s c)
  · obtain ⟨W, L, R, hu, hsum, hpos, hleast, hmost, hauto, hpx, hmargin, hwb, hlb, hrb⟩ := sum_spec hs (by omega) hbd
    rw [hu]
    have hf0 := hst.frame_in
    have b1 := hs.b1; have b3 := hs.b3; have p1 := hs.p1; have p3 := hs.p3
    have hfr : s.frame = s.b3 + s.p3 + (s.b1 + s.p1) := rfl
    clear hbd hu
    refine go_ _ ?_
    refine so_new rfl rfl (tZ rfl) (by decide) (fun _ => rfl) rfl (fun _ => rfl) rfl (tS rfl) rfl rfl fun x1 => go_ _ ?_
    have hsum' : L + (s.b3 + s.b1 + s.p3 + s.p1) + W + R = c := by omega
    refine so_callQ (fun w1 _ => resolve_any s.minw c w1 hst.minw) rfl rfl rfl (tF rfl) (by decide) ?_
    refine go_ _ ?_
    refine so_callQ (fun w1 _ => resolve_any s.maxw c w1 hst.maxw) rfl rfl rfl (tF rfl) (by decide) ?_
    generalize resM s.minw c = rl at *
    generalize resM s.maxw c = rm at *
    obtain ⟨least, is⟩ := rl
    obtain ⟨most, so⟩ := rm
    dsimp only at *
    cases is
    · cases so
      · have hx : s.w.k = 1 → W = s.w.n := fun h => hpx h rfl rfl
        clear hpx hmost hleast
        by_cases hk0 : s.m3.k = 0
        · have hL := hauto hk0
          by_cases hk1 : s.w.k = 1
          · have hWn := hx hk1
            refine go_ _ ?_
            refine so_callQ (fun w1 _ => works_any w1) rfl (by (first | (with_reducible rfl) | assumption | exact decide_eq_true (by omega) | (simp only [Bool.not_eq_true', Bool.not_eq_false', decide_eq_false_iff_not, decide_eq_true_eq] <;> first | assumption | omega) | decide)) rfl (tF rfl) (by decide) ?_
            refine go_ _ ?_
            exact sret1 rfl rfl rfl
          · skip
            refine go_ _ ?_
            refine so_callQ (fun w1 _ => works_any w1) rfl (by (first | (with_reducible rfl) | assumption | exact decide_eq_true (by omega) | (simp only [Bool.not_eq_true', Bool.not_eq_false', decide_eq_false_iff_not, decide_eq_true_eq] <;> first | assumption | omega) | decide)) rfl (tF rfl) (by decide) ?_
            refine go_ _ ?_
            exact sret1 rfl rfl rfl
        · by_cases hk3 : s.m3.k = 1
          · have hL := hmargin hk3
            by_cases hk1 : s.w.k = 1
            · have hWn := hx hk1
              refine go_ _ ?_
              refine so_callQ (fun w1 _ => works_any w1) rfl (by (first | (with_reducible rfl) | assumption | exact decide_eq_true (by omega) | (simp only [Bool.not_eq_true', Bool.not_eq_false', decide_eq_false_iff_not, decide_eq_true_eq] <;> first | assumption | omega) | decide)) rfl (tF rfl) (by decide) ?_
              refine go_ _ ?_
              exact sret1 rfl rfl rfl
            · skip
              refine go_ _ ?_
              refine so_callQ (fun w1 _ => works_any w1) rfl (by (first | (with_reducible rfl) | assumption | exact decide_eq_true (by omega) | (simp only [Bool.not_eq_true', Bool.not_eq_false', decide_eq_false_iff_not, decide_eq_true_eq] <;> first | assumption | omega) | decide)) rfl (tF rfl) (by decide) ?_
              refine go_ _ ?_
              exact sret1 rfl rfl rfl
          · by_cases hk1 : s.w.k = 1
            · have hWn := hx hk1
              refine go_ _ ?_
              refine so_callQ (fun w1 _ => works_any w1) rfl (by (first | (with_reducible rfl) | assumption | exact decide_eq_true (by omega) | (simp only [Bool.not_eq_true', Bool.not_eq_false', decide_eq_false_iff_not, decide_eq_true_eq] <;> first | assumption | omega) | decide)) rfl (tF rfl) (by decide) ?_
              refine go_ _ ?_
              exact sret1 rfl rfl rfl
            · skip
              refine go_ _ ?_
              refine so_callQ (fun w1 _ => works_any w1) rfl (by (first | (with_reducible rfl) | assumption | exact decide_eq_true (by omega) | (simp only [Bool.not_eq_true', Bool.not_eq_false', decide_eq_false_iff_not, decide_eq_true_eq] <;> first | assumption | omega) | decide)) rfl (tF rfl) (by decide) ?_
              refine go_ _ ?_
              exact sret1 rfl rfl rfl
      · have hle : ¬ most < W := fun h => by have := (hmost rfl h).1; cases this
        clear hpx hmost hleast
        by_cases hk0 : s.m3.k = 0
        · have hL := hauto hk0
          by_cases hk1 : s.w.k = 1
          all_goals
            refine go_ _ ?_
            refine so_callQ (fun w1 _ => works_any w1) rfl (by (first | (with_reducible rfl) | assumption | exact decide_eq_true (by omega) | (simp only [Bool.not_eq_true', Bool.not_eq_false', decide_eq_false_iff_not, decide_eq_true_eq] <;> first | assumption | omega) | decide)) rfl (tF rfl) (by decide) ?_
            refine go_ _ ?_
            exact sret1 rfl rfl rfl
        · by_cases hk3 : s.m3.k = 1
          · have hL := hmargin hk3
            by_cases hk1 : s.w.k = 1
            all_goals
              refine go_ _ ?_
              refine so_callQ (fun w1 _ => works_any w1) rfl (by (first | (with_reducible rfl) | assumption | exact decide_eq_true (by omega) | (simp only [Bool.not_eq_true', Bool.not_eq_false', decide_eq_false_iff_not, decide_eq_true_eq] <;> first | assumption | omega) | decide)) rfl (tF rfl) (by decide) ?_
              refine go_ _ ?_
              exact sret1 rfl rfl rfl
          · by_cases hk1 : s.w.k = 1
            all_goals
              refine go_ _ ?_
              refine so_callQ (fun w1 _ => works_any w1) rfl (by (first | (with_reducible rfl) | assumption | exact decide_eq_true (by omega) | (simp only [Bool.not_eq_true', Bool.not_eq_false', decide_eq_false_iff_not, decide_eq_true_eq] <;> first | assumption | omega) | decide)) rfl (tF rfl) (by decide) ?_
              refine go_ _ ?_
              exact sret1 rfl rfl rfl
    · have hle := hleast rfl
      have hmo : so = true → most < W → W = least := fun h1 h2 => (hmost h1 h2).2
      clear hpx hmost hleast
      have hcase : (so = false ∨ ¬ most < W) ∨ (so = true ∧ most < W ∧ W = least) := by
        cases so
        · exact .inl (.inl rfl)
        · by_cases h : most < W
          · exact .inr ⟨rfl, h, hmo rfl h⟩
          · exact .inl (.inr h)
      clear hmo
      have hL : s.m3.k = 0 → 0 ≤ L := hauto
      by_cases hk0 : s.m3.k = 0
      · have hL := hauto hk0
        by_cases hk1 : s.w.k = 1
        all_goals
          rcases hcase with (rfl | hgt) | ⟨rfl, hgt, heq⟩
          all_goals try cases so
          all_goals
            refine go_ _ ?_
            refine so_callQ (fun w1 _ => works_any w1) rfl (by (first | (with_reducible rfl) | assumption | exact decide_eq_true (by omega) | (simp only [Bool.not_eq_true', Bool.not_eq_false', decide_eq_false_iff_not, decide_eq_true_eq] <;> first | assumption | omega) | decide)) rfl (tF rfl) (by decide) ?_
            refine go_ _ ?_
            exact sret1 rfl rfl rfl
      · by_cases hk3 : s.m3.k = 1
        · have hL := hmargin hk3
          by_cases hk1 : s.w.k = 1
          all_goals
            rcases hcase with (rfl | hgt) | ⟨rfl, hgt, heq⟩
            all_goals try cases so
            all_goals
              refine go_ _ ?_
              refine so_callQ (fun w1 _ => works_any w1) rfl (by (first | (with_reducible rfl) | assumption | exact decide_eq_true (by omega) | (simp only [Bool.not_eq_true', Bool.not_eq_false', decide_eq_false_iff_not, decide_eq_true_eq] <;> first | assumption | omega) | decide)) rfl (tF rfl) (by decide) ?_
              refine go_ _ ?_
              exact sret1 rfl rfl rfl
        · by_cases hk1 : s.w.k = 1
          all_goals
            rcases hcase with (rfl | hgt) | ⟨rfl, hgt, heq⟩
            all_goals try cases so
            all_goals
              refine go_ _ ?_
              refine so_callQ (fun w1 _ => works_any w1) rfl (by (first | (with_reducible rfl) | assumption | exact decide_eq_true (by omega) | (simp only [Bool.not_eq_true', Bool.not_eq_false', decide_eq_false_iff_not, decide_eq_true_eq] <;> first | assumption | omega) | decide)) rfl (tF rfl) (by decide) ?_
              refine go_ _ ?_
              exact sret1 rfl rfl rfl
  · refine go_ _ ?_
    refine so_new rfl rfl (tZ rfl) (by decide) (fun _ => rfl) rfl (fun _ => rfl) rfl (tS rfl) rfl rfl fun x1 => go_ _ ?_
    refine so_callQ (fun w1 _ => works_any w1) rfl rfl rfl (tF rfl) (by decide) ?_
    refine go_ _ ?_
    exact sret1 rfl rfl rfl
end Go.Proofs.Ytebiahkffkdlbaa
