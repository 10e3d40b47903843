/- A walk over what is known of a frame: a list of slots and what they hold. One small lemma an operation; the code itself is never rewritten. -/
import Derived.Test.YtdoihebekbfnbaaBase
import Derived.Deep.Quiet
import Derived.OrdersIn
import Derived.TacticsIn
import Derived.OwnWalkIn
import Derived.LoopNIn
import Derived.Sort.LoopGhostIn
import Derived.RangeFuncCalls
namespace Go.Proofs.Ytdoihebekbfnbaa
open Go.RowKit

abbrev Fr := List (Nat × Value)

/-- How many slots; the mark that a range over a function has left, if any; from where on such marks may lie. -/
structure Nx where
  n : Nat
  at_ : Option Nat := none
  lb : Nat := 0
def marks (mk : Option Nat) : List Deferred := (mk.map fun D => { target := .collected D, args := #[] }).toList
/-- What is known of the slots alone. -/
structure HasS (n : Nat) (F : Fr) (a : Act) : Prop where
  size : a.tmps.size = n
  at_ : ∀ s v, F.lookup s = some v → a.tmps[s]? = some v
structure Has (N : Nx) (F : Fr) (a : Act) : Prop where
  size : a.tmps.size = N.n
  defers : a.defers = marks N.at_
  at_ : ∀ s v, F.lookup s = some v → a.tmps[s]? = some v
theorem Has.slots {N : Nx} {F : Fr} {a : Act} (h : Has N F a) : HasS N.n F a := ⟨h.size, h.at_⟩

def evO (F : Fr) : Operand → Option Value
  | .tmp t => F.lookup t
  | .const v => some v
  | .global g => some (.pointer (some ⟨g, 0, none⟩))
  | .func f => some (.func (.func f) #[] #[])

section
variable {N : Nx} {F : Fr} {a : Act} {P : Program} {ops : Array Oper} {w w' : World}

theorem Has.ev (h : Has N F a) {x : Operand} {v : Value} (e : evO F x = some v) : a.eval x = v := by
  cases x with
  | tmp t =>
    have := h.at_ t v e
    simp [Act.eval, Array.getD_eq_getD_getElem?, this]
  | const u => simp [evO] at e; simp [Act.eval, e]
  | global g => simp [evO] at e; simp [Act.eval, e]
  | func f => simp [evO] at e; simp [Act.eval, e]

theorem Has.put (h : Has N F a) {d : Nat} (v : Value) (hd : d < N.n) : Has N ((d, v) :: F) (a.put (some d) v) := by
  refine ⟨by simp [Act.put, h.size], by simp [Act.put, h.defers], fun s u e => ?_⟩
  rw [List.lookup_cons] at e
  by_cases hs : s = d
  · subst hs
    simp at e; subst e
    simp [Act.put, h.size, hd]
  · have hb : (s == d) = false := by simpa using hs
    rw [hb] at e
    have := h.at_ s u e
    simp [Act.put, this, Ne.symm hs]

theorem Has.put_none (h : Has N F a) (v : Value) : Has N F (a.put none v) := h

/-- All that the second list tells stands in the first. -/
def Sub (F G : Fr) : Prop := ∀ s v, G.lookup s = some v → F.lookup s = some v
theorem Has.sub {G : Fr} (h : Has N F a) (hs : Sub F G) : Has N G a := ⟨h.size, h.defers, fun s v e => h.at_ s v (hs s v e)⟩
theorem Sub.refl : Sub F F := fun _ _ h => h
theorem Sub.nil : Sub F [] := fun _ _ h => by simp at h
theorem Sub.cons {G : Fr} {s : Nat} {v : Value} (h : F.lookup s = some v) (hs : Sub F G) : Sub F ((s, v) :: G) := fun t u e => by
  rw [List.lookup_cons] at e
  by_cases ht : t = s
  · subst ht; simp at e; rw [h, e]
  · have hb : (t == s) = false := by simpa using ht
    rw [hb] at e; exact hs t u e

theorem Sub.consE {G : Fr} {s : Nat} {u v : Value} (h : F.lookup s = some u) (e : u = v) (hs : Sub F G) : Sub F ((s, v) :: G) := e ▸ Sub.cons h hs
theorem Sub.consB {G : Fr} {s : Nat} {b c : Bool} (h : F.lookup s = some (.bool b)) (e : b = c) (hs : Sub F G) : Sub F ((s, .bool c) :: G) := e ▸ Sub.cons h hs

/-- An operation that yields this value in every world of a class, and leaves it as it is. -/
def PS (P : Program) (F : Fr) (C : World → Prop) (o : Oper) (v : Value) : Prop :=
  ∀ ρ : Operand → Value, (∀ x v, evO F x = some v → ρ x = v) → ∀ w, C w → (execOp ρ o).run P w = .ok (.value v) w

/-- The fence that holds nothing back: within a round, or none. -/
def FR (r : Option Nat) : Fence := { Fence.wide with round := r }
theorem semAt_of {o : Oper} {ρ : Operand → Value} {nx : Next} (r : Option Nat) (h : (execOp ρ o).run P w = .ok nx w') (hn : ∀ d, nx ≠ .defer d) : (o.semAt r ρ).run P w = .ok nx w' := by
  rw [Oper.semAt_eq r ρ o (fun c hc => ?_)]
  · exact h
  · rw [execOp, hc] at h
    simp only [Sem.run_bind] at h
    cases hr : (resolve ρ c o.type).run P w with
    | ok d w1 => rw [hr] at h; simp at h; exact hn d h.1.symm
    | halt x w1 => rw [hr] at h; simp [Result.andThen] at h
theorem callsIn_of {r : Option Nat} {n : Nat} {f : FuncId} {args : Array Value} {R : Ending → World → Prop} (h : Calls P f args w R) : CallsIn (FR r) n P f args w R := by
  have : CallsIn Fence.wide n P f args w R := callsIn_wide.2 h
  cases r with
  | none => exact this
  | some l => exact this.inRound l

/-! ### Operations, one behind the other -/

def XO (r : Option Nat) (P : Program) (N : Nx) (ops : Array Oper) (l : List Oper) (F : Fr) (w : World) (K : Fr → World → Prop) : Prop :=
  ∀ a, Has N F a → ∀ Q : Exit → Act → World → Prop, (∀ F' a' w', Has N F' a' → K F' w' → Q .normal a' w') → wpListIn (FR r) 0 P ops Q l a w

/-- Is the operation carried out? -/
def wants (ops : Array Oper) (F : Fr) (g : Option (Nat × Bool)) : Option Bool :=
  match g with
  | none => some true
  | some (j, want) =>
    match (ops[j]?).bind (·.dst) with
    | none => none
    | some t =>
      match F.lookup t with
      | some (.bool b) => match want with
        | true => some b
        | false => some (!b)
      | some (.tuple _) => some false
      | _ => none

theorem wants_on {o : Oper} {b : Bool} (h : ∀ t ∈ o.looksAt ops, ∀ v, F.lookup t = some v → a.tmps[t]? = some v) (hg : wants ops F o.guard = some b) : Region.wanted o (yielded ops a.tmps) = b := by
  unfold wants at hg
  unfold Region.wanted
  cases hgd : o.guard with
  | none => simp [hgd] at hg; simp [hg]
  | some p =>
    obtain ⟨j, want⟩ := p
    simp only [hgd] at hg ⊢
    cases ht : (ops[j]?).bind (·.dst) with
    | none => simp [ht] at hg
    | some t =>
      simp only [ht] at hg
      cases hl : F.lookup t with
      | none => simp [hl] at hg
      | some v =>
        have hv := h t (by simp [Oper.looksAt, hgd, ht]) v hl
        cases v with
        | bool c =>
          simp only [hl] at hg
          simp only [yielded, ht, Option.bind_some, hv]
          revert hg; cases want <;> cases c <;> intro hg <;> (cases hg; rfl)
        | tuple vs =>
          simp [hl] at hg
          simp only [yielded, ht, Option.bind_some, hv]
          subst hg
          rfl
        | _ => simp [hl] at hg
theorem wants_spec {o : Oper} {b : Bool} (h : Has N F a) (hg : wants ops F o.guard = some b) : Region.wanted o (yielded ops a.tmps) = b :=
  wants_on (fun t _ v e => h.at_ t v e) hg

variable {r : Option Nat} {K : Fr → World → Prop} {rest : List Oper}

theorem xo_nil (h : K F w) : XO r P N ops [] F w K := fun a ha Q hQ => wpListIn_nil (hQ F a w ha h)

theorem xo_not {o : Oper} {b : Bool} {d : Nat} (hg : wants ops F o.guard = some b) (hb : b = false) (hd : o.dst = some d) (hdN : d < N.n) (h : XO r P N ops rest ((d, undef) :: F) w K) : XO r P N ops (o :: rest) F w K := by
  intro a ha Q hQ
  subst hb
  have hw := wants_spec (o := o) ha hg
  unfold wpListIn
  rw [if_neg (by rw [hw]; simp), hd]
  exact ⟨fun _ _ => trivial, h _ (ha.put undef hdN) Q hQ⟩

theorem xo_not_none {o : Oper} {b : Bool} (hg : wants ops F o.guard = some b) (hb : b = false) (hd : o.dst = none) (h : XO r P N ops rest F w K) : XO r P N ops (o :: rest) F w K := by
  intro a ha Q hQ
  subst hb
  have hw := wants_spec (o := o) ha hg
  unfold wpListIn
  rw [if_neg (by rw [hw]; simp), hd]
  exact ⟨fun _ _ => trivial, h _ ha Q hQ⟩

theorem xo_split {o : Oper} {b : Bool} {p : Nat × Bool} (_h0 : o.guard = some p) (_hg : wants ops F o.guard = some b) (h1 : b = true → XO r P N ops (o :: rest) F w K) (h2 : b = false → XO r P N ops (o :: rest) F w K) : XO r P N ops (o :: rest) F w K := by
  cases b
  · exact h2 rfl
  · exact h1 rfl

/-- What each operation's own lemma leans on: it yields a value. -/
theorem xo_run {o : Oper} {b : Bool} (hg : wants ops F o.guard = some b) (hb : b = true) {d : Nat} (hd : o.dst = some d) (hdN : d < N.n) {v : Value}
    (hr : ∀ ρ : Operand → Value, (∀ x v, evO F x = some v → ρ x = v) → (execOp ρ o).run P w = .ok (.value v) w') (h : XO r P N ops rest ((d, v) :: F) w' K) : XO r P N ops (o :: rest) F w K := by
  intro a ha Q hQ
  subst hb
  have hw := wants_spec (o := o) ha hg
  unfold wpListIn
  rw [if_pos hw]
  refine ⟨fun _ _ => trivial, ?_⟩
  rw [semAt_of _ (hr a.eval (fun x v e => ha.ev e)) (by simp), Oper.uponIn_value, hd]
  exact h _ (ha.put v hdN) Q hQ

theorem xo_pure {o : Oper} {b : Bool} {d : Nat} {v : Value} (hg : wants ops F o.guard = some b) (hb : b = true) (hd : o.dst = some d) (hdN : d < N.n)
    (hr : PS P F (fun w' => w' = w) o v) (h : XO r P N ops rest ((d, v) :: F) w K) : XO r P N ops (o :: rest) F w K :=
  xo_run hg hb hd hdN (fun ρ ha => hr ρ ha w rfl) h

theorem xo_skip {o : Oper} {b : Bool} (hg : wants ops F o.guard = some b) (hb : b = true) (hd : o.dst = none)
    (hr : ∀ ρ : Operand → Value, (∀ x v, evO F x = some v → ρ x = v) → (execOp ρ o).run P w = .ok .skip w') (h : XO r P N ops rest F w' K) : XO r P N ops (o :: rest) F w K := by
  intro a ha Q hQ
  subst hb
  have hw := wants_spec (o := o) ha hg
  unfold wpListIn
  rw [if_pos hw]
  refine ⟨fun _ _ => trivial, ?_⟩
  rw [semAt_of _ (hr a.eval (fun x v e => ha.ev e)) (by simp), Oper.uponIn_skip, hd]
  exact h _ ha Q hQ

/-- A call of a Go function. -/
theorem xo_enter {o : Oper} {b : Bool} (hg : wants ops F o.guard = some b) (hb : b = true) {d : Nat} (hd : o.dst = some d) (hdN : d < N.n) {f : FuncId} {args : Array Value}
    (hr : ∀ ρ : Operand → Value, (∀ x v, evO F x = some v → ρ x = v) → (execOp ρ o).run P w = .ok (.enter f args) w)
    (h : Calls P f args w fun e w' => ∃ v, e = .returned v ∧ XO r P N ops rest ((d, v) :: F) w' K) : XO r P N ops (o :: rest) F w K := by
  intro a ha Q hQ
  subst hb
  have hw := wants_spec (o := o) ha hg
  unfold wpListIn
  rw [if_pos hw]
  refine ⟨fun _ _ => trivial, ?_⟩
  rw [semAt_of _ (hr a.eval (fun x v e => ha.ev e)) (by simp), Oper.uponIn_enter, hd]
  refine ⟨fun h => by simp [FR, Fence.wide] at h, callsIn_of (h.mono ?_)⟩
  rintro e w2 ⟨v, rfl, h2⟩
  exact h2 _ (ha.put v hdN) Q hQ
end

end Go.Proofs.Ytdoihebekbfnbaa
