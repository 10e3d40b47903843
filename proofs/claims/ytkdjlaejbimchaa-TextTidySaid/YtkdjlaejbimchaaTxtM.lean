/- Texts, in plain Lean: stretches and words. -/
import Derived.Test.YtkdjlaejbimchaaAuW
namespace Go.Proofs.Ytkdjlaejbimchaa
open Go.RowKit

def btw (u : Int) : Bool := decide (u = 32) || decide (u = 10)
def advM (av : List Int) (u : Int) : Int := av.getD u.toNat 0
def wideM (av us : List Int) : Int := (us.map (advM av)).sum
def uV (x : Int) : List Value := [.int .u16 x]
def aV (x : Int) : List Value := [.int .i64 x]
def UB (us : List Int) : Prop := ∀ x ∈ us, 0 ≤ x ∧ x ≤ 65535
def AB (av : List Int) : Prop := ∀ x ∈ av, I64 x

structure Str where
  a : Nat
  b : Nat
  word : Bool
def Str.cells (s : Str) : List Value := [.int .i64 (s.a : Nat), .int .i64 (s.b : Nat), .bool s.word]

/-- How many units of this kind stand first. -/
def runLen (b : Bool) : List Int → Nat
  | [] => 0
  | u :: us => if btw u = b then runLen b us + 1 else 0
theorem runLen_le (b : Bool) (us : List Int) : runLen b us ≤ us.length := by
  induction us with
  | nil => simp [runLen]
  | cons u us ih => simp only [runLen, List.length_cons]; split <;> omega

def strM (k : Nat) : List Int → List Str
  | [] => []
  | u :: us => ⟨k, k + (runLen (btw u) us + 1), !btw u⟩ :: strM (k + (runLen (btw u) us + 1)) (us.drop (runLen (btw u) us))
termination_by us => us.length
decreasing_by simp only [List.length_drop, List.length_cons]; omega

/-- Ends among units, and whether there is another. -/
def endsS (s : Int × Bool) (u : Int) : Int × Bool := if u = 10 then (s.1 + 1, s.2) else (s.1, true)
def endsM (us : List Int) : Int × Bool := us.foldl endsS (0, false)

theorem endsM_take (us : List Int) (k : Nat) (hk : k < us.length) : endsM (us.take (k + 1)) = endsS (endsM (us.take k)) us[k] := by
  unfold endsM
  rw [List.take_add_one, List.getElem?_eq_getElem hk, List.foldl_append]; rfl
theorem endsM_b (us : List Int) : ∀ k, 0 ≤ (endsM (us.take k)).1 ∧ (endsM (us.take k)).1 ≤ (k : Int) := by
  intro k
  induction k with
  | zero => simp [endsM]
  | succ k ih =>
    by_cases hk : k < us.length
    · rw [endsM_take us k hk]; unfold endsS; split <;> dsimp only <;> omega
    · rw [List.take_of_length_le (by omega)] at ih ⊢; omega

theorem drop_cons {us : List Int} {k : Nat} (hk : k < us.length) : us.drop k = us[k] :: us.drop (k + 1) := List.drop_eq_getElem_cons hk
theorem advM_b {av : List Int} (h : AB av) (u : Int) : I64 (advM av u) := by
  unfold advM
  by_cases hu : u.toNat < av.length
  · rw [List.getD_eq_getElem?_getD, List.getElem?_eq_getElem hu]; exact h _ (List.getElem_mem hu)
  · rw [List.getD_eq_getElem?_getD, List.getElem?_eq_none (by omega)]; unfold I64; simp

theorem strM_step (us : List Int) (k : Nat) (hk : k < us.length) : strM k (us.drop k) = ⟨k, k + runLen (btw us[k]) (us.drop k), !btw us[k]⟩ :: strM (k + runLen (btw us[k]) (us.drop k)) (us.drop (k + runLen (btw us[k]) (us.drop k))) := by
  have e1 : us.drop k = us[k] :: us.drop (k + 1) := List.drop_eq_getElem_cons hk
  have e2 : runLen (btw us[k]) (us.drop k) = runLen (btw us[k]) (us.drop (k + 1)) + 1 := by rw [e1]; simp [runLen]
  rw [e2]
  conv => lhs; rw [e1, strM]
  rw [List.drop_drop]
  congr 3
  omega
theorem runLen_at (us : List Int) (k : Nat) (b : Bool) (hk : k < us.length) : runLen b (us.drop k) = if btw us[k] = b then runLen b (us.drop (k + 1)) + 1 else 0 := by
  rw [List.drop_eq_getElem_cons hk]; rfl
theorem runLen_bound (us : List Int) (k : Nat) (b : Bool) (hk : k ≤ us.length) : k + runLen b (us.drop k) ≤ us.length := by
  have := runLen_le b (us.drop k)
  rw [List.length_drop] at this
  omega
end Go.Proofs.Ytkdjlaejbimchaa
