/- Rows without floats, in plain Lean: how many, how many are empty, where they end. -/
import Derived.Test.YtepkhfebflmieaaLinF
namespace Go.Proofs.Ytepkhfebflmieaa
open Go.RowKit

def gotR (rs : List Ro) : Nat := rs.countP fun r => decide (r.xs.length = 0)
def wantF : Bool → List Wg → Int
  | _, [] => 0
  | b, w :: ws => (if b then w.forced else max (w.forced - 1) 0) + wantF false ws
def startF : Bool → List Wg → Nat
  | _, [] => 0
  | b, w :: ws => (if b = true ∨ 0 < w.forced then 1 else 0) + startF false ws

theorem fillL_split (to_ : Int) : ∀ (ws : List Wg) (at_ : Int) (xs : List Int), ∃ p s, ws = p ++ s ∧ (fillL to_ ws at_ xs).2.length = xs.length + p.length ∧ ∀ w ∈ p, w.forced = 0 := by
  intro ws
  induction ws with
  | nil => intro at_ xs; exact ⟨[], [], rfl, by simp [fillL], by simp⟩
  | cons w ws ih =>
    intro at_ xs
    rw [fillL]
    by_cases hc : w.forced ≠ 0 ∨ to_ < wrap64 (wrap64 (at_ + w.gap) + w.w)
    · rw [if_pos hc]; exact ⟨[], w :: ws, rfl, by simp, by simp⟩
    · rw [if_neg hc]
      obtain ⟨p, s, h1, h2, h3⟩ := ih (wrap64 (at_ + wrap64 (w.gap + w.w))) (xs ++ [wrap64 (at_ + w.gap)])
      refine ⟨w :: p, s, by rw [h1]; rfl, by rw [h2]; simp; omega, fun v hv => ?_⟩
      rcases List.mem_cons.1 hv with rfl | hv
      · rcases Decidable.em (v.forced = 0) with h | h
        · exact h
        · exact absurd (.inl h) hc
      · exact h3 v hv
theorem wantF_zero : ∀ (p s : List Wg), (∀ w ∈ p, w.forced = 0) → wantF false (p ++ s) = wantF false s := by
  intro p
  induction p with
  | nil => intro s _; rfl
  | cons w p ih =>
    intro s h
    have hw := h w (by simp)
    rw [List.cons_append, wantF, ih s (fun v hv => h v (by simp [hv])), hw]
    simp only [Bool.false_eq_true, if_false]
    omega
theorem startF_zero : ∀ (p s : List Wg), (∀ w ∈ p, w.forced = 0) → startF false (p ++ s) = startF false s := by
  intro p
  induction p with
  | nil => intro s _; rfl
  | cons w p ih =>
    intro s h
    have hw := h w (by simp)
    rw [List.cons_append, startF, ih s (fun v hv => h v (by simp [hv])), hw]
    simp
theorem startF_le (s : List Wg) : startF false s ≤ startF true s := by
  cases s with
  | nil => exact Nat.le_refl _
  | cons w s => rw [startF, startF]; simp only [true_or, if_true]; split <;> omega
theorem wrap_add (a b : Int) : wrap64 (wrap64 a + b) = wrap64 (a + b) := by unfold wrap64; omega
def R64 (y : Int) : Prop := -9223372036854775808 ≤ y ∧ y ≤ 9223372036854775807
theorem wrap_R (a : Int) : R64 (wrap64 a) := by unfold R64 wrap64; omega
theorem emptyL_end (h : Int) (k : Nat) : ∀ (n : Nat) (y : Int), R64 y → (emptyL h k n y).2 = wrap64 (y + n * h) := by
  intro n
  induction n with
  | zero => intro y hy; rw [emptyL, wrap64_within]; · simp
            unfold R64 at hy; simp; omega
  | succ n ih =>
    intro y hy
    rw [emptyL]
    dsimp only
    rw [ih _ (wrap_R _), wrap_add]
    congr 1
    rw [Int.natCast_succ, Int.add_mul]; omega
theorem emptyL_got (h : Int) (k : Nat) : ∀ (n : Nat) (y : Int), gotR (emptyL h k n y).1 = n := by
  intro n
  induction n with
  | zero => intro y; rfl
  | succ n ih => intro y; rw [emptyL]; unfold gotR at *; rw [List.countP_cons, ih]; simp
theorem down_nil (h left right w y : Int) : downGo [] h left right w y = (left, right, y) := by
  rw [downGo, dif_neg (by simp [nextM])]
  rfl

theorem rows_ends (e : En) (hl : e.l = []) (hf : ∀ x ∈ e.ws, 0 ≤ x.forced ∧ x.forced ≤ 1000) : ∀ (m k : Nat) (y : Int), k ≤ e.ws.length → e.ws.length - k ≤ m → R64 y →
    (gotR (rowsF e m y k).1 : Int) = wantF (decide (k = 0)) (e.ws.drop k) ∧ startF true (e.ws.drop k) + gotR (rowsF e m y k).1 ≤ (rowsF e m y k).1.length ∧ (rowsF e m y k).2 = wrap64 (y + (rowsF e m y k).1.length * e.h) := by
  intro m
  induction m with
  | zero =>
    intro k y hk hm hy
    have : k = e.ws.length := by omega
    subst this
    rw [List.drop_length, rowsF]
    refine ⟨rfl, by simp [startF, gotR], ?_⟩
    rw [wrap64_within]
    · simp
    · unfold R64 at hy; simp; omega
  | succ m ih =>
    intro k y hk hm hy
    by_cases hlt : k < e.ws.length
    · rw [rowsF_step e m y k hlt, List.drop_eq_getElem_cons hlt]
      have hw := hf _ (List.getElem_mem hlt)
      generalize hwk : e.ws[k] = w at *
      have hd := down_nil e.h e.left e.right w.w (emptyL e.h k (endsOf w k).toNat y).2
      have hY := emptyL_end e.h k (endsOf w k).toNat y hy
      generalize hYg : (emptyL e.h k (endsOf w k).toNat y).2 = Y at *
      obtain ⟨p, s, h1, h2, h3⟩ := fillL_split e.right (e.ws.drop (k + 1)) (wrap64 (e.left + w.w)) [e.left]
      have hfb : (fullM e Y k w).1.b = k + 1 + p.length := by
        unfold fullM; rw [hl, hd]; dsimp only; rw [h2]; simp; omega
      have hfy : (fullM e Y k w).2 = wrap64 (Y + e.h) := by
        unfold fullM; rw [hl, hd]
      have hfx : (fullM e Y k w).1.xs.length ≠ 0 := by
        unfold fullM; rw [hl, hd]; dsimp only; rw [List.length_map, h2]; simp
      have hs : s = e.ws.drop (k + 1 + p.length) := by
        have : (e.ws.drop (k + 1)).drop p.length = s := by rw [h1]; simp
        rw [← this, List.drop_drop]
      have hpl : p.length ≤ e.ws.length - (k + 1) := by
        have := congrArg List.length h1
        simp at this; omega
      rw [hfb, hfy]
      obtain ⟨i1, i2, i3⟩ := ih (k + 1 + p.length) (wrap64 (Y + e.h)) (by omega) (by omega) (wrap_R _)
      rw [← hs, decide_eq_false (by omega)] at i1
      rw [← hs] at i2
      have hg : gotR ((emptyL e.h k (endsOf w k).toNat y).1 ++ (fullM e Y k w).1 :: (rowsF e m (wrap64 (Y + e.h)) (k + 1 + p.length)).1) = (endsOf w k).toNat + gotR (rowsF e m (wrap64 (Y + e.h)) (k + 1 + p.length)).1 := by
        unfold gotR at *
        rw [List.countP_append, List.countP_cons]
        have := emptyL_got e.h k (endsOf w k).toNat y
        unfold gotR at this
        rw [this]
        simp [hfx]
      rw [hg, h1]
      simp only [List.length_append, List.length_cons, emptyL_len]
      have hends : endsOf w k = if k = 0 then w.forced else max (w.forced - 1) 0 := by
        unfold endsOf
        by_cases h0 : k = 0
        · rw [if_neg (by omega), if_pos h0]; omega
        · rw [if_pos (by omega), if_neg h0, wrap64_within _ (by omega)]
      have hen0 : 0 ≤ endsOf w k := by unfold endsOf; omega
      refine ⟨?_, ?_, ?_⟩
      · rw [wantF, wantF_zero p s h3]
        push_cast
        rw [i1, Int.toNat_of_nonneg hen0, hends]
        by_cases h0 : k = 0 <;> simp [h0]
      · rw [startF, startF_zero p s h3]
        have := startF_le s
        simp only [true_or, if_true]
        omega
      · rw [i3, wrap_add, hY, Int.add_assoc, wrap_add]
        congr 1
        push_cast
        rw [Int.add_mul, Int.add_mul]
        omega
    · have : k = e.ws.length := by omega
      subst this
      rw [rowsF_end e _ y _ (Nat.le_refl _), List.drop_length]
      refine ⟨rfl, by simp [startF, gotR], ?_⟩
      rw [wrap64_within]
      · simp
      · unfold R64 at hy; simp; omega
end Go.Proofs.Ytepkhfebflmieaa
