/- What the laws of widths lean on, in plain Lean. -/
import Derived.Test.YtebiahkffkdlbaaWidL
namespace Go.Proofs.Ytebiahkffkdlbaa
open Go.RowKit

theorem res_pos {l : Ln} {c : Int} (h : lenMayM l 0 0 = true) : 0 ≤ (resM l c).1 := by
  unfold lenMayM at h
  unfold resM
  split
  · rename_i hk
    rw [if_neg (by omega), if_neg (by omega), if_pos hk] at h
    have h := of_decide_eq_true h
    have : 0 ≤ l.n * max c 0 := Int.mul_nonneg h.1 (by omega)
    dsimp only; omega
  · split
    · rename_i hk
      rw [if_neg (by omega), if_pos hk] at h
      have h := of_decide_eq_true h
      exact h.1
    · decide

theorem cut_id {t : Int × Int × Int} (h : beyondM t = false) : usedV t = .agg #[.int .i64 t.1, .int .i64 t.2.1, .int .i64 t.2.2] ∧ (-1099511627776 ≤ t.1 ∧ t.1 ≤ 1099511627776) ∧ (-1099511627776 ≤ t.2.1 ∧ t.2.1 ≤ 1099511627776) ∧ (-1099511627776 ≤ t.2.2 ∧ t.2.2 ≤ 1099511627776) := by
  unfold beyondM at h
  simp only [Bool.or_eq_false_iff, Bool.not_eq_false', decide_eq_true_eq] at h
  obtain ⟨⟨h1, h2⟩, h3⟩ := h
  refine ⟨?_, ?_, ?_, ?_⟩
  · unfold usedV; rw [← h1, ← h2, ← h3]
  all_goals unfold cutM at *; omega

theorem clamp_spec {s : Sty} {c x : Int} (h1 : lenMayM s.minw 0 0 = true) (h2 : lenMayM s.maxw 0 0 = true) :
    0 ≤ clampM s c x ∧ ((resM s.minw c).2 = true → (resM s.minw c).1 ≤ clampM s c x) ∧ ((resM s.maxw c).2 = true → (resM s.maxw c).1 < clampM s c x → (resM s.minw c).2 = true ∧ clampM s c x = (resM s.minw c).1) ∧
    ((resM s.minw c).2 = false → (resM s.maxw c).2 = false → clampM s c x = max x 0) := by
  have a := res_pos (c := c) h1
  have b := res_pos (c := c) h2
  unfold clampM
  generalize resM s.minw c = p at *
  generalize resM s.maxw c = q at *
  obtain ⟨p, is⟩ := p
  obtain ⟨q, so⟩ := q
  dsimp only at *
  cases is <;> cases so <;> simp <;> omega

structure SumP (s : Sty) (c W L R : Int) : Prop where
  used : usedV (flowM s c) = .agg #[.int .i64 W, .int .i64 L, .int .i64 R]
  sum : L + s.frame + W + R = c
  pos : 0 ≤ W
  least : (resM s.minw c).2 = true → (resM s.minw c).1 ≤ W
  most : (resM s.maxw c).2 = true → (resM s.maxw c).1 < W → (resM s.minw c).2 = true ∧ W = (resM s.minw c).1
  auto : s.m3.k = 0 → 0 ≤ L
  px : s.w.k = 1 → (resM s.minw c).2 = false → (resM s.maxw c).2 = false → W = s.w.n
  margin : s.m3.k = 1 → L = s.m3.n
  wb : W ≤ 1099511627776
  lb : -1099511627776 ≤ L ∧ L ≤ 1099511627776
  rb : -1099511627776 ≤ R ∧ R ≤ 1099511627776

theorem sum_spec {s : Sty} {c : Int} (hs : MayP s) (hc : 0 ≤ c) (hb : beyondM (flowM s c) = false) : ∃ W L R, SumP s c W L R := by
  obtain ⟨h1, h2, h3, h4⟩ := cut_id hb
  have cs := clamp_spec (c := c) (x := widthM (resM s.w c).2 (resM s.w c).1 c s.frame (resM s.m3 c).1 (resM s.m1 c).1) hs.minw hs.maxw
  have e : flowM s c = flowT (resM s.w c).2 (resM s.m3 c).2 (resM s.m1 c).2 c s.frame (resM s.m3 c).1 (resM s.m1 c).1 (widthM (resM s.w c).2 (resM s.w c).1 c s.frame (resM s.m3 c).1 (resM s.m1 c).1) (clampM s c (widthM (resM s.w c).2 (resM s.w c).1 c s.frame (resM s.m3 c).1 (resM s.m1 c).1)) := by
    unfold flowM; rw [show max c 0 = c by omega]
  have hw0 : s.w.k = 1 → (resM s.w c) = (s.w.n, true) ∧ 0 ≤ s.w.n := fun hk => by
    refine ⟨by unfold resM; rw [if_neg (by omega), if_pos hk], ?_⟩
    have h := hs.w
    unfold lenMayM at h
    rw [if_neg (by omega), if_pos hk] at h
    exact (of_decide_eq_true h).1
  have hm1 : s.m3.k = 1 → (resM s.m3 c) = (s.m3.n, true) := fun hk => by unfold resM; rw [if_neg (by omega), if_pos hk]
  have hm0 : s.m3.k = 0 → (resM s.m3 c) = (0, false) := fun hk => by unfold resM; rw [if_neg (by omega), if_neg (by omega)]
  have ef : ∀ T, flowM s c = T → usedV T = .agg #[.int .i64 T.1, .int .i64 T.2.1, .int .i64 T.2.2] := fun T hT => by rw [← hT]; exact h1
  rw [e] at h2 h3 h4
  refine ⟨_, _, _, ⟨h1, ?_, ?_, ?_, ?_, ?_, ?_, ?_, ?_, ?_, ?_⟩⟩ <;> rw [e]
  · unfold flowT; dsimp only; omega
  · exact cs.1
  · exact cs.2.1
  · exact cs.2.2.1
  · intro hk
    rw [hm0 hk]
    unfold flowT leftM
    dsimp only
    split
    · omega
    · split <;> omega
  · intro hk a b
    obtain ⟨h, h0⟩ := hw0 hk
    have := cs.2.2.2 a b
    unfold flowT; dsimp only
    rw [this, h]; unfold widthM; simp; omega
  · intro hk
    rw [hm1 hk]
    unfold flowT leftM
    simp
  · exact h2.2
  · exact h3
  · exact h4
end Go.Proofs.Ytebiahkffkdlbaa
