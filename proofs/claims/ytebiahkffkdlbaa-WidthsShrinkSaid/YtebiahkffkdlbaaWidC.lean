/- The laws WidthsClamp, WidthsMiddle, WidthsShrink, walked. -/
import Derived.Test.YtebiahkffkdlbaaWidT
namespace Go.Proofs.Ytebiahkffkdlbaa
open Go.RowKit

theorem clamp_again {s : Sty} {c : Int} (h1 : lenMayM s.minw 0 0 = true) (h2 : lenMayM s.maxw 0 0 = true) (v : Int) : clampM s c (clampM s c v) = clampM s c v := by
  have a := res_pos (c := c) h1
  have b := res_pos (c := c) h2
  unfold clampM
  generalize resM s.minw c = p at *
  generalize resM s.maxw c = q at *
  obtain ⟨p, is⟩ := p
  obtain ⟨q, so⟩ := q
  dsimp only at *
  cases is <;> cases so <;> simp <;> omega
theorem clamp_mono {s : Sty} {c : Int} {v x : Int} (h : v ≤ x) : clampM s c v ≤ clampM s c x := by
  unfold clampM
  dsimp only
  split <;> split <;> omega

set_option maxRecDepth 100000 in
set_option maxHeartbeats 8000000 in
theorem clampLaw_any (s : Sty) (c v x : Int) (w : World) : Calls Try.prog 5 #[.agg s.cells.toArray, .int .i64 c, .int .i64 v, .int .i64 x] w fun e w' => e = .returned (.bool true) ∧ Below w.heap.size w w' := by
  refine s_quiet [(0, .agg s.cells.toArray), (1, .int .i64 c), (2, .int .i64 v), (3, .int .i64 x)] Try.func5 rfl Try.ntmps5 rfl (by simp) ?_
  refine go_ _ ?_
  (first | ((with_reducible apply so_new); rfl; (first | (with_reducible rfl) | assumption | exact decide_eq_true (by omega) | (simp only [Bool.not_eq_true', Bool.not_eq_false', decide_eq_false_iff_not, decide_eq_true_eq] <;> first | assumption | omega) | decide); exact tZ rfl; decide; (intro; rfl); (first | (with_reducible rfl) | assumption | exact decide_eq_true (by omega) | (simp only [Bool.not_eq_true', Bool.not_eq_false', decide_eq_false_iff_not, decide_eq_true_eq] <;> first | assumption | omega) | decide); (intro; rfl); rfl; exact tS rfl; rfl; rfl) | ((with_reducible apply so_alloc); rfl; (first | (with_reducible rfl) | assumption | exact decide_eq_true (by omega) | (simp only [Bool.not_eq_true', Bool.not_eq_false', decide_eq_false_iff_not, decide_eq_true_eq] <;> first | assumption | omega) | decide); exact tZ rfl; (focus ((repeat (first | (with_reducible exact CopyL.agg) | exact CopyL.nil | (apply CopyL.consI; rfl) | (apply CopyL.consB; rfl) | (apply CopyL.consS; rfl) | (apply CopyL.consP; rfl) | apply CopyL.cons)); done)); decide) | ((with_reducible apply so_box); rfl; (first | (with_reducible rfl) | assumption | exact decide_eq_true (by omega) | (simp only [Bool.not_eq_true', Bool.not_eq_false', decide_eq_false_iff_not, decide_eq_true_eq] <;> first | assumption | omega) | decide); rfl; (focus ((repeat (first | (with_reducible exact CopyL.agg) | exact CopyL.nil | (apply CopyL.consI; rfl) | (apply CopyL.consB; rfl) | (apply CopyL.consS; rfl) | (apply CopyL.consP; rfl) | apply CopyL.cons)); done)); decide))
  intro q
  refine go_ _ ?_
  refine so_callN (fun w1 _ => may_any s w1) rfl rfl rfl (tF rfl) (by decide) ?_
  intro b hb
  cases b
  · skip
    refine go_ _ ?_
    refine so_callQ (fun w1 _ => works_any w1) rfl rfl rfl (tF rfl) (by decide) ?_
    refine go_ _ ?_
    exact sret1 rfl rfl rfl
  have hs := hb rfl
  refine go_ _ ?_
  refine so_callQ (fun w1 _ => within_any c w1) rfl rfl rfl (tF rfl) (by decide) ?_
  by_cases hc : -1099511627776 ≤ c ∧ c ≤ 1099511627776
  rotate_left
  · skip
    refine go_ _ ?_
    refine so_callQ (fun w1 _ => works_any w1) rfl rfl rfl (tF rfl) (by decide) ?_
    refine go_ _ ?_
    exact sret1 rfl rfl rfl
  refine go_ _ ?_
  refine so_callQ (fun w1 _ => within_any v w1) rfl (by (first | (with_reducible rfl) | assumption | exact decide_eq_true (by omega) | (simp only [Bool.not_eq_true', Bool.not_eq_false', decide_eq_false_iff_not, decide_eq_true_eq] <;> first | assumption | omega) | decide)) rfl (tF rfl) (by decide) ?_
  by_cases hv : -1099511627776 ≤ v ∧ v ≤ 1099511627776
  rotate_left
  · skip
    refine go_ _ ?_
    refine so_callQ (fun w1 _ => works_any w1) rfl rfl rfl (tF rfl) (by decide) ?_
    refine go_ _ ?_
    exact sret1 rfl rfl rfl
  refine go_ _ ?_
  refine so_callQ (fun w1 _ => within_any x w1) rfl (by (first | (with_reducible rfl) | assumption | exact decide_eq_true (by omega) | (simp only [Bool.not_eq_true', Bool.not_eq_false', decide_eq_false_iff_not, decide_eq_true_eq] <;> first | assumption | omega) | decide)) rfl (tF rfl) (by decide) ?_
  by_cases hx : -1099511627776 ≤ x ∧ x ≤ 1099511627776
  rotate_left
  · skip
    refine go_ _ ?_
    refine so_callQ (fun w1 _ => works_any w1) rfl rfl rfl (tF rfl) (by decide) ?_
    refine go_ _ ?_
    exact sret1 rfl rfl rfl
  have hst := hs.stB (c := c) hc.2
  have hmax : LnB s.maxw c := lnB_of hs.maxw (by omega) (by omega) (by omega)
  have hmin : LnB s.minw c := lnB_of hs.minw (by omega) (by omega) (by omega)
  refine go_ _ ?_
  refine so_callQ (fun w1 _ => clamp_any s c v w1 hmax hmin) rfl rfl rfl (tF rfl) (by decide) ?_
  refine go_ _ ?_
  refine so_callQ (fun w1 _ => clamp_any s c x w1 hmax hmin) rfl rfl rfl (tF rfl) (by decide) ?_
  refine go_ _ ?_
  refine so_callQ (fun w1 _ => part_any (s.w.n.tmod 1000) w1) rfl rfl rfl (tF rfl) (by decide) ?_
  have er : resM ⟨2, s.w.n.tmod 1000⟩ 0 = (0, true) := by simp [resM]
  refine go_ _ ?_
  refine so_callQ (fun w1 _ => er ▸ resolve_any ⟨2, s.w.n.tmod 1000⟩ 0 w1 ⟨fun _ => by simp, fun h => by simp at h⟩) rfl rfl rfl (tF rfl) (by decide) ?_
  have c1 := clamp_again hs.minw hs.maxw (c := c) v
  have c2 := (clamp_spec (c := c) (x := v) hs.minw hs.maxw).1
  have m1 : v ≤ x → clampM s c v ≤ clampM s c x := fun h => clamp_mono h
  have m2 : x ≤ v → clampM s c x ≤ clampM s c v := fun h => clamp_mono h
  have hcall : ∀ w1, Calls Try.prog 13 #[.agg s.cells.toArray, .int .i64 c, .int .i64 (clampM s c v)] w1 fun e w' => e = .returned (.int .i64 (clampM s c v)) ∧ Below w1.heap.size w1 w' := fun w1 => by
    have := clamp_any s c (clampM s c v) w1 hmax hmin
    rwa [c1] at this
  generalize clampM s c v = A at *
  generalize clampM s c x = B at *
  refine go_ _ ?_
  refine so_callQ (fun w1 _ => hcall w1) rfl (by (first | (with_reducible rfl) | assumption | exact decide_eq_true (by omega) | (simp only [Bool.not_eq_true', Bool.not_eq_false', decide_eq_false_iff_not, decide_eq_true_eq] <;> first | assumption | omega) | decide)) rfl (tF rfl) (by decide) ?_
  rcases Int.lt_trichotomy v x with h | h | h
  · have := m1 (by omega)
    refine go_ _ ?_
    refine so_callQ (fun w1 _ => works_any w1) rfl (by (first | (with_reducible rfl) | assumption | exact decide_eq_true (by omega) | (simp only [Bool.not_eq_true', Bool.not_eq_false', decide_eq_false_iff_not, decide_eq_true_eq] <;> first | assumption | omega) | decide)) rfl (tF rfl) (by decide) ?_
    refine go_ _ ?_
    exact sret1 rfl rfl rfl
  · have := m1 (by omega)
    have := m2 (by omega)
    refine go_ _ ?_
    refine so_callQ (fun w1 _ => works_any w1) rfl (by (first | (with_reducible rfl) | assumption | exact decide_eq_true (by omega) | (simp only [Bool.not_eq_true', Bool.not_eq_false', decide_eq_false_iff_not, decide_eq_true_eq] <;> first | assumption | omega) | decide)) rfl (tF rfl) (by decide) ?_
    refine go_ _ ?_
    exact sret1 rfl rfl rfl
  · have := m2 (by omega)
    refine go_ _ ?_
    refine so_callQ (fun w1 _ => works_any w1) rfl (by (first | (with_reducible rfl) | assumption | exact decide_eq_true (by omega) | (simp only [Bool.not_eq_true', Bool.not_eq_false', decide_eq_false_iff_not, decide_eq_true_eq] <;> first | assumption | omega) | decide)) rfl (tF rfl) (by decide) ?_
    refine go_ _ ?_
    exact sret1 rfl rfl rfl

/-! WidthsMiddle -/
def midS (W Bd Pd : Int) : Sty := { zSty with w := ⟨1, W⟩, b3 := Bd, p1 := Pd }
theorem mid_flow {C W Bd Pd : Int} (hC : 0 ≤ C) (hW : 0 ≤ W) : flowM (midS W Bd Pd) C = (W, max ((C - W - Bd - Pd) / 2) 0, (C - W - Bd - Pd) - max ((C - W - Bd - Pd) / 2) 0) := by
  have e1 : max C 0 = C := by omega
  have e2 : max W 0 = W := by omega
  have e3 : C - (Bd + 0 + (0 + Pd)) - W = C - W - Bd - Pd := by omega
  have ec : clampM (midS W Bd Pd) C W = W := by simp [clampM, resM, midS, zSty, e2]
  have ef : (midS W Bd Pd).frame = Bd + 0 + (0 + Pd) := rfl
  have ew : (midS W Bd Pd).w = ⟨1, W⟩ := rfl
  have em : (midS W Bd Pd).m3 = ⟨0, 0⟩ := rfl
  have en : (midS W Bd Pd).m1 = ⟨0, 0⟩ := rfl
  unfold flowM
  rw [e1, ef, ew, em, en]
  have r1 : resM ⟨1, W⟩ C = (W, true) := rfl
  have r2 : resM ⟨0, 0⟩ C = (0, false) := rfl
  rw [r1, r2]
  have ewd : widthM (W, true).2 (W, true).1 C (Bd + 0 + (0 + Pd)) ((0 : Int), false).1 ((0 : Int), false).1 = W := rfl
  rw [ewd, ec]
  unfold flowT leftM
  simp only [Bool.true_eq_false, Bool.false_eq_true, false_and, or_self, if_false, if_true]
  rw [e3]
theorem mid_used {A B C : Int} (ha : -1099511627776 ≤ A ∧ A ≤ 1099511627776) (hb : -1099511627776 ≤ B ∧ B ≤ 1099511627776) (hc : -1099511627776 ≤ C ∧ C ≤ 1099511627776) : usedV (A, B, C) = .agg #[.int .i64 A, .int .i64 B, .int .i64 C] ∧ beyondM (A, B, C) = false := by
  have h : ∀ x, -1099511627776 ≤ x ∧ x ≤ 1099511627776 → cutM x = x := fun x hx => by unfold cutM; omega
  constructor
  · unfold usedV; rw [h A ha, h B hb, h C hc]
  · unfold beyondM; rw [h A ha, h B hb, h C hc]; simp

set_option maxRecDepth 100000 in
set_option maxHeartbeats 8000000 in
theorem middle_any (c x bd pd : Int) (w : World) (hc : 0 ≤ c ∧ c ≤ 4294967295) (hx : 0 ≤ x ∧ x ≤ 4294967295) (hb : 0 ≤ bd ∧ bd ≤ 4294967295) (hp : 0 ≤ pd ∧ pd ≤ 4294967295) : Calls Try.prog 4 #[.int .u32 c, .int .u32 x, .int .u32 bd, .int .u32 pd] w fun e w' => e = .returned (.bool true) ∧ Below w.heap.size w w' := by
  refine s_quiet [(0, .int .u32 c), (1, .int .u32 x), (2, .int .u32 bd), (3, .int .u32 pd)] Try.func4 rfl Try.ntmps4 rfl (by simp) ?_
  have hst : StB (midS (x / 4) (bd / 4) (pd / 4)) (max (c / 4) 0) := by
    refine ⟨lnB_px _ _ (by omega), lnB_0 _, lnB_0 _, lnB_0 _, lnB_0 _, inB_0, inB_0, inB_0, ?_, inB_0, ?_, inB_0, inB_0⟩
    · show InB (bd / 4); unfold InB; omega
    · show InB (pd / 4); unfold InB; omega
  have hf := mid_flow (C := c / 4) (W := x / 4) (Bd := bd / 4) (Pd := pd / 4) (by omega) (by omega)
  obtain ⟨fr, hfr⟩ : ∃ fr, c / 4 - x / 4 - bd / 4 - pd / 4 = fr := ⟨_, rfl⟩
  rw [hfr] at hf
  obtain ⟨u1, u2⟩ := mid_used (A := x / 4) (B := max (fr / 2) 0) (C := fr - max (fr / 2) 0) (by omega) (by omega) (by omega)
  have hcall : ∀ w1, Calls Try.prog 9 #[.agg (midS (x / 4) (bd / 4) (pd / 4)).cells.toArray, .int .i64 (c / 4)] w1 fun e w' => e = .returned (.tuple #[.agg #[.int .i64 (x / 4), .int .i64 (max (fr / 2) 0), .int .i64 (fr - max (fr / 2) 0)], .bool false]) ∧ Below w1.heap.size w1 w' := fun w1 => by
    have := flowing_any (midS (x / 4) (bd / 4) (pd / 4)) (c / 4) w1 hst (by omega)
    rwa [hf, u1, u2] at this
  clear hf u1 u2 hst
  refine go_ _ ?_
  refine so_callQ (fun w1 _ => px_any (x / 4) w1) rfl rfl rfl (tF rfl) (by decide) ?_
  refine go_ _ ?_
  refine so_new rfl rfl (tZ rfl) (by decide) (fun _ => rfl) rfl (fun _ => rfl) rfl (tS rfl) rfl rfl fun q => go_ _ ?_
  refine so_callQ (fun w1 _ => hcall w1) rfl rfl rfl (tF rfl) (by decide) ?_
  refine go_ _ ?_
  refine so_new rfl rfl (tZ rfl) (by decide) (fun _ => rfl) rfl (fun _ => rfl) rfl (tS rfl) rfl rfl fun q2 => go_ _ ?_
  rcases Int.lt_or_le fr 0 with hneg | hpos
  · have e1 : max (fr / 2) 0 = 0 := by omega
    refine go_ _ ?_
    refine so_callQ (fun w1 _ => works_any w1) rfl (by (first | (with_reducible rfl) | assumption | exact decide_eq_true (by omega) | (simp only [Bool.not_eq_true', Bool.not_eq_false', decide_eq_false_iff_not, decide_eq_true_eq] <;> first | assumption | omega) | decide)) rfl (tF rfl) (by decide) ?_
    refine go_ _ ?_
    exact sret1 rfl rfl rfl
  · have e1 : max (fr / 2) 0 = fr / 2 := by omega
    have e2 : fr - fr / 2 = fr / 2 ∨ fr - fr / 2 = fr / 2 + 1 := by omega
    rcases e2 with e2 | e2
    all_goals
      refine go_ _ ?_
      refine so_callQ (fun w1 _ => works_any w1) rfl (by (first | (with_reducible rfl) | assumption | exact decide_eq_true (by omega) | (simp only [Bool.not_eq_true', Bool.not_eq_false', decide_eq_false_iff_not, decide_eq_true_eq] <;> first | assumption | omega) | decide)) rfl (tF rfl) (by decide) ?_
      refine go_ _ ?_
      exact sret1 rfl rfl rfl

/-! WidthsShrink -/
def shrS (Bd : Int) : Sty := { zSty with b3 := Bd }
theorem shr_flow {C Bd l g : Int} (hC : 0 ≤ C) (hl : 0 ≤ l) (hg : l ≤ g) : shrunkM (shrS Bd) C l g = (min g (max l (C - Bd)), 0, 0) := by
  have e1 : max C 0 = C := by omega
  unfold shrunkM
  have ef : (shrS Bd).frame = Bd + 0 + (0 + 0) := rfl
  have ew : (shrS Bd).w = ⟨0, 0⟩ := rfl
  have em : (shrS Bd).m3 = ⟨0, 0⟩ := rfl
  have en : (shrS Bd).m1 = ⟨0, 0⟩ := rfl
  rw [e1, ef, ew, em, en]
  have r2 : resM ⟨0, 0⟩ C = (0, false) := rfl
  dsimp only
  rw [r2]
  have ec : ∀ y, clampM (shrS Bd) C y = max y 0 := fun y => rfl
  simp only [ec, Bool.false_eq_true, if_false]
  rw [show C - (Bd + 0 + (0 + 0)) - 0 - 0 = C - Bd by omega]
  have : max (min g (max l (C - Bd))) 0 = min g (max l (C - Bd)) := by omega
  rw [this]

set_option maxRecDepth 100000 in
set_option maxHeartbeats 8000000 in
theorem shrink_any (c more l g fr : Int) (w : World) (hc : 0 ≤ c ∧ c ≤ 4294967295) (hm : 0 ≤ more ∧ more ≤ 4294967295) (hl : 0 ≤ l ∧ l ≤ 4294967295) (hg : 0 ≤ g ∧ g ≤ 4294967295) (hf : 0 ≤ fr ∧ fr ≤ 4294967295) : Calls Try.prog 6 #[.int .u32 c, .int .u32 more, .int .u32 l, .int .u32 g, .int .u32 fr] w fun e w' => e = .returned (.bool true) ∧ Below w.heap.size w w' := by
  refine s_quiet [(0, .int .u32 c), (1, .int .u32 more), (2, .int .u32 l), (3, .int .u32 g), (4, .int .u32 fr)] Try.func6 rfl Try.ntmps6 rfl (by simp) ?_
  by_cases hlg : g < l
  · skip
    refine go_ _ ?_
    refine so_callQ (fun w1 _ => works_any w1) rfl rfl rfl (tF rfl) (by decide) ?_
    refine go_ _ ?_
    exact sret1 rfl rfl rfl
  have hst : ∀ C, StB (shrS fr) C := fun C => by
    refine ⟨lnB_0 _, lnB_0 _, lnB_0 _, lnB_0 _, lnB_0 _, inB_0, inB_0, inB_0, ?_, inB_0, inB_0, inB_0, inB_0⟩
    show InB fr; unfold InB; omega
  have hcall : ∀ C, 0 ≤ C → C ≤ 8589934590 → ∀ w1, Calls Try.prog 15 #[.agg (shrS fr).cells.toArray, .int .i64 C, .int .i64 l, .int .i64 g] w1 fun e w' => e = .returned (.tuple #[.agg #[.int .i64 (min g (max l (C - fr))), .int .i64 0, .int .i64 0], .bool false]) ∧ Below w1.heap.size w1 w' := fun C h0 h1 w1 => by
    have := shrunk_any (shrS fr) C l g w1 (hst _) (by omega) (by unfold InB; omega) (by unfold InB; omega)
    obtain ⟨u1, u2⟩ := mid_used (A := min g (max l (C - fr))) (B := 0) (C := 0) (by omega) (by omega) (by omega)
    rwa [shr_flow h0 hl.1 (by omega), u1, u2] at this
  clear hst
  refine go_ _ ?_
  refine so_new rfl rfl (tZ rfl) (by decide) (fun _ => rfl) rfl (fun _ => rfl) rfl (tS rfl) rfl rfl fun q => go_ _ ?_
  refine so_callQ (fun w1 _ => hcall c hc.1 (by omega) w1) rfl rfl rfl (tF rfl) (by decide) ?_
  refine go_ _ ?_
  refine so_new rfl rfl (tZ rfl) (by decide) (fun _ => rfl) rfl (fun _ => rfl) rfl (tS rfl) rfl rfl fun q2 => go_ _ ?_
  refine so_callQ (fun w1 _ => hcall (c + more) (by omega) (by omega) w1) rfl rfl rfl (tF rfl) (by decide) ?_
  refine go_ _ ?_
  refine so_new rfl rfl (tZ rfl) (by decide) (fun _ => rfl) rfl (fun _ => rfl) rfl (tS rfl) rfl rfl fun q3 => go_ _ ?_
  by_cases hr : c - fr < min g (max l (c - fr))
  · have he : min g (max l (c - fr)) = l := by omega
    by_cases hg2 : min g (max l (c - fr)) = g
    all_goals
      refine go_ _ ?_
      refine so_callQ (fun w1 _ => works_any w1) rfl (by (first | (with_reducible rfl) | assumption | exact decide_eq_true (by omega) | (simp only [Bool.not_eq_true', Bool.not_eq_false', decide_eq_false_iff_not, decide_eq_true_eq] <;> first | assumption | omega) | decide)) rfl (tF rfl) (by decide) ?_
      refine go_ _ ?_
      exact sret1 rfl rfl rfl
  · by_cases hg2 : min g (max l (c - fr)) = g
    all_goals
      refine go_ _ ?_
      refine so_callQ (fun w1 _ => works_any w1) rfl (by (first | (with_reducible rfl) | assumption | exact decide_eq_true (by omega) | (simp only [Bool.not_eq_true', Bool.not_eq_false', decide_eq_false_iff_not, decide_eq_true_eq] <;> first | assumption | omega) | decide)) rfl (tF rfl) (by decide) ?_
      refine go_ _ ?_
      exact sret1 rfl rfl rfl
end Go.Proofs.Ytebiahkffkdlbaa
