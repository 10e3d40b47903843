/- What FloatsRoom leans on, in plain Lean: a part has no less room, a stripe has the room of all its heights, below all is room. -/
import Derived.Test.YtmldhbnkndhijaaFloT
import Derived.Test.YtmldhbnkndhijaaFloQ
namespace Go.Proofs.Ytmldhbnkndhijaa
open Go.RowKit

theorem may_fbs {l : List Fl} (h : mayM l = true) : FBs l := by
  intro f hf
  unfold mayM at h
  simp only [Bool.and_eq_true, List.all_eq_true] at h
  have := h.2 f hf
  simp only [mayF, inF, List.all_cons, List.all_nil, Bool.and_eq_true, decide_eq_true_eq, Bool.and_true] at this
  obtain ⟨⟨⟨_, a, b, c, d⟩, e⟩, g⟩ := this
  exact ⟨by omega, by omega, by omega, by omega, by omega, by omega, by omega, by omega⟩

theorem FBs.take {l : List Fl} (h : FBs l) (n : Nat) : FBs (l.take n) := fun f hf => h f (List.mem_of_mem_take hf)

theorem room_part {l : List Fl} (hl : FBs l) {left right y h : Int} (hy : In53 y) (hh : In53 h) (n : Nat) : (atM (l.take n) left right y h).1 ≤ (atM l left right y h).1 ∧ (atM l left right y h).2.1 ≤ (atM (l.take n) left right y h).2.1 := by
  have a := at_spec hl (left := left) (right := right) hy hh
  have b := at_spec (hl.take n) (left := left) (right := right) hy hh
  constructor
  · rcases b.from_at with e | ⟨f, hf, hs, h2, e⟩
    · rw [e]; exact a.from_ge
    · rw [e]; exact a.lefts f (List.mem_of_mem_take hf) hs h2
  · rcases b.to_at with e | ⟨f, hf, hs, h2, e⟩
    · rw [e]; exact a.to_le
    · rw [e]; exact a.rights f (List.mem_of_mem_take hf) hs h2

/-- The rooms of so many heights, put together. -/
def stripeM (l : List Fl) (left right y : Int) : Nat → Int × Int
  | 0 => (left, right)
  | n + 1 => (max (stripeM l left right y n).1 (atM l left right (y + n) 1).1, min (stripeM l left right y n).2 (atM l left right (y + n) 1).2.1)

theorem stripe_spec {l : List Fl} (hl : FBs l) {left right y : Int} (hy : -1125899906842624 ≤ y ∧ y ≤ 1125899906842624) : ∀ (n : Nat), n ≤ 30 → (stripeM l left right y n).1 ≤ (atM l left right y n).1 ∧ (atM l left right y n).2.1 ≤ (stripeM l left right y n).2 ∧
    left ≤ (stripeM l left right y n).1 ∧ (stripeM l left right y n).2 ≤ right ∧
    (∀ i : Nat, i < n → (atM l left right (y + i) 1).1 ≤ (stripeM l left right y n).1 ∧ (stripeM l left right y n).2 ≤ (atM l left right (y + i) 1).2.1) := by
  intro n
  induction n with
  | zero =>
    intro _
    have a := at_spec hl (left := left) (right := right) (y := y) (h := ((0 : Nat) : Int)) (by unfold In53; omega) (by unfold In53; omega)
    exact ⟨a.from_ge, a.to_le, Int.le_refl _, Int.le_refl _, fun i hi => by omega⟩
  | succ n ih =>
    intro hn
    obtain ⟨i1, i2, i3, i4, i5⟩ := ih (by omega)
    have a := at_spec hl (left := left) (right := right) (y := y) (h := ((n + 1 : Nat) : Int)) (by unfold In53; omega) (by unfold In53; omega)
    have a0 := at_spec hl (left := left) (right := right) (y := y) (h := (n : Int)) (by unfold In53; omega) (by unfold In53; omega)
    have b := at_spec hl (left := left) (right := right) (y := y + n) (h := 1) (by unfold In53; omega) (by unfold In53; omega)
    have up : ∀ f, St (y + n) 1 f → St y ((n + 1 : Nat) : Int) f := fun f h => by unfold St at *; omega
    have up0 : ∀ f, St y (n : Int) f → St y ((n + 1 : Nat) : Int) f := fun f h => by unfold St at *; omega
    have c1 : (atM l left right (y + n) 1).1 ≤ (atM l left right y ((n + 1 : Nat) : Int)).1 := by
      rcases b.from_at with e | ⟨f, hf, hs, h2, e⟩
      · rw [e]; exact a.from_ge
      · rw [e]; exact a.lefts f hf (up f hs) h2
    have c2 : (atM l left right y ((n + 1 : Nat) : Int)).2.1 ≤ (atM l left right (y + n) 1).2.1 := by
      rcases b.to_at with e | ⟨f, hf, hs, h2, e⟩
      · rw [e]; exact a.to_le
      · rw [e]; exact a.rights f hf (up f hs) h2
    have d1 : (atM l left right y (n : Int)).1 ≤ (atM l left right y ((n + 1 : Nat) : Int)).1 := by
      rcases a0.from_at with e | ⟨f, hf, hs, h2, e⟩
      · rw [e]; exact a.from_ge
      · rw [e]; exact a.lefts f hf (up0 f hs) h2
    have d2 : (atM l left right y ((n + 1 : Nat) : Int)).2.1 ≤ (atM l left right y (n : Int)).2.1 := by
      rcases a0.to_at with e | ⟨f, hf, hs, h2, e⟩
      · rw [e]; exact a.to_le
      · rw [e]; exact a.rights f hf (up0 f hs) h2
    unfold stripeM
    dsimp only
    refine ⟨by omega, by omega, by omega, by omega, fun i hi => ?_⟩
    rcases Nat.lt_or_ge i n with h | h
    · have := i5 i h; omega
    · have : i = n := by omega
      subst this; omega

theorem stripe_eq {l : List Fl} (hl : FBs l) {left right y : Int} (hy : -1125899906842624 ≤ y ∧ y ≤ 1125899906842624) (n : Nat) (hn : n ≤ 30) (hn1 : 1 ≤ n) : (stripeM l left right y n).1 = (atM l left right y n).1 ∧ (stripeM l left right y n).2 = (atM l left right y n).2.1 := by
  obtain ⟨i1, i2, i3, i4, i5⟩ := stripe_spec hl hy n hn (left := left) (right := right)
  have a := at_spec hl (left := left) (right := right) (y := y) (h := (n : Int)) (by unfold In53; omega) (by unfold In53; omega)
  have at_ : ∀ f, St y (n : Int) f → ∃ i : Nat, i < n ∧ St (y + i) 1 f := fun f h => by
    unfold St at *
    rcases Int.le_total f.y y with h' | h'
    · exact ⟨0, by omega, by omega⟩
    · refine ⟨(f.y - y).toNat, by omega, h.1, by omega, ?_⟩
      unfold bot; omega
  constructor
  · refine Int.le_antisymm i1 ?_
    rcases a.from_at with e | ⟨f, hf, hs, h2, e⟩
    · rw [e]; exact i3
    · obtain ⟨i, hi, hs'⟩ := at_ f hs
      have b := at_spec hl (left := left) (right := right) (y := y + i) (h := 1) (by unfold In53; omega) (by unfold In53; omega)
      rw [e]; exact Int.le_trans (b.lefts f hf hs' h2) (i5 i hi).1
  · refine Int.le_antisymm ?_ i2
    rcases a.to_at with e | ⟨f, hf, hs, h2, e⟩
    · rw [e]; exact i4
    · obtain ⟨i, hi, hs'⟩ := at_ f hs
      have b := at_spec hl (left := left) (right := right) (y := y + i) (h := 1) (by unfold In53; omega) (by unfold In53; omega)
      rw [e]; exact Int.le_trans (i5 i hi).2 (b.rights f hf hs' h2)

theorem clear_all {l : List Fl} (hl : FBs l) (y : Int) : y ≤ clearM l 3 y ∧ (∀ f ∈ l, bot f ≤ clearM l 3 y) ∧ (clearM l 3 y = y ∨ ∃ f ∈ l, clearM l 3 y = bot f) := by
  induction l generalizing y with
  | nil => exact ⟨Int.le_refl _, by simp, .inl rfl⟩
  | cons f l ih =>
    have hf := hl f List.mem_cons_self
    have e : clearM (f :: l) 3 y = clearM l 3 (max y (bot f)) := by
      unfold clearM
      rw [List.foldl_cons]
      congr 1
      unfold clearS
      rw [if_pos (.inl rfl), hf.bot]
    obtain ⟨h1, h2, h3⟩ := ih (fun g hg => hl g (List.mem_cons_of_mem _ hg)) (max y (bot f))
    rw [e]
    refine ⟨by omega, fun g hg => ?_, ?_⟩
    · rcases List.mem_cons.1 hg with rfl | hg
      · omega
      · exact h2 g hg
    · rcases h3 with h | ⟨g, hg, h⟩
      · rcases Int.le_total y (bot f) with h' | h'
        · exact .inr ⟨f, List.mem_cons_self, by omega⟩
        · exact .inl (by omega)
      · exact .inr ⟨g, List.mem_cons_of_mem _ hg, h⟩

theorem clear_free {l : List Fl} (hl : FBs l) {left right y h : Int} (hy : -1125899906842624 ≤ y ∧ y ≤ 1125899906842624) (hh : In53 h) : (atM l left right (clearM l 3 y) h).1 = left ∧ (atM l left right (clearM l 3 y) h).2.1 = right ∧ (nextM l (clearM l 3 y)).2 = false := by
  obtain ⟨c1, c2, c3⟩ := clear_all hl y
  have hin : In53 (clearM l 3 y) := by
    rcases c3 with h | ⟨f, hf, h⟩
    · rw [h]; unfold In53; omega
    · rw [h]; exact (hl f hf).botIn
  have a := at_spec hl (left := left) (right := right) hin hh
  have no : ∀ f ∈ l, ¬ St (clearM l 3 y) h f := fun f hf hs => by
    have := c2 f hf
    have := hs.2.2
    omega
  refine ⟨?_, ?_, ?_⟩
  · rcases a.from_at with e | ⟨f, hf, hs, _⟩
    · exact e
    · exact absurd hs (no f hf)
  · rcases a.to_at with e | ⟨f, hf, hs, _⟩
    · exact e
    · exact absurd hs (no f hf)
  · cases hn : (nextM l (clearM l 3 y)).2 with
    | false => rfl
    | true =>
      obtain ⟨⟨f, hf, _, h2⟩, _⟩ := (next_spec hl _).1 hn
      have := c2 f hf
      omega
end Go.Proofs.Ytmldhbnkndhijaa
