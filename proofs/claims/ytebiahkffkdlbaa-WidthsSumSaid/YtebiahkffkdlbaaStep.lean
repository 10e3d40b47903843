/- A walk over what is known of a frame: a list of slots and what they hold. One small lemma an operation; the code itself is never rewritten. -/
import Derived.Test.YtebiahkffkdlbaaBase
import Derived.Deep.Quiet
namespace Go.Proofs.Ytebiahkffkdlbaa
open Go.RowKit

abbrev Fr := List (Nat × Value)

structure Has (N : Nat) (F : Fr) (a : Act) : Prop where
  size : a.tmps.size = N
  defers : a.defers = []
  at_ : ∀ s v, F.lookup s = some v → a.tmps[s]? = some v

def evO (F : Fr) : Operand → Option Value
  | .tmp t => F.lookup t
  | .const v => some v
  | .global g => some (.pointer (some ⟨g, 0, none⟩))
  | .func f => some (.func (.func f) #[] #[])

section
variable {N : Nat} {F : Fr} {a : Act} {P : Program} {ops : Array Oper} {w w' : World}

theorem Has.ev (h : Has N F a) {x : Operand} {v : Value} (e : evO F x = some v) : a.eval x = v := by
  cases x with
  | tmp t =>
    have := h.at_ t v e
    simp [Act.eval, Array.getD_eq_getD_getElem?, this]
  | const u => simp [evO] at e; simp [Act.eval, e]
  | global g => simp [evO] at e; simp [Act.eval, e]
  | func f => simp [evO] at e; simp [Act.eval, e]

theorem Has.put (h : Has N F a) {d : Nat} (v : Value) (hd : d < N) : Has N ((d, v) :: F) (a.put (some d) v) := by
  refine ⟨by simp [Act.put, h.size], by simp [Act.put, h.defers], fun s u e => ?_⟩
  rw [List.lookup_cons] at e
  by_cases hs : s = d
  · subst hs
    simp at e; subst e
    simp [Act.put, h.size, hd]
  · have hb : (s == d) = false := by simpa using hs
    rw [hb] at e
    have := h.at_ s u e
    simp [Act.put, this, Ne.symm hs]

theorem Has.put_none (h : Has N F a) (v : Value) : Has N F (a.put none v) := h

/-- All that the second list tells stands in the first. -/
def Sub (F G : Fr) : Prop := ∀ s v, G.lookup s = some v → F.lookup s = some v
theorem Has.sub {G : Fr} (h : Has N F a) (hs : Sub F G) : Has N G a := ⟨h.size, h.defers, fun s v e => h.at_ s v (hs s v e)⟩
theorem Sub.refl : Sub F F := fun _ _ h => h
theorem Sub.nil : Sub F [] := fun _ _ h => by simp at h
theorem Sub.cons {G : Fr} {s : Nat} {v : Value} (h : F.lookup s = some v) (hs : Sub F G) : Sub F ((s, v) :: G) := fun t u e => by
  rw [List.lookup_cons] at e
  by_cases ht : t = s
  · subst ht; simp at e; rw [h, e]
  · have hb : (t == s) = false := by simpa using ht
    rw [hb] at e; exact hs t u e

theorem Sub.consE {G : Fr} {s : Nat} {u v : Value} (h : F.lookup s = some u) (e : u = v) (hs : Sub F G) : Sub F ((s, v) :: G) := e ▸ Sub.cons h hs
theorem Sub.consB {G : Fr} {s : Nat} {b c : Bool} (h : F.lookup s = some (.bool b)) (e : b = c) (hs : Sub F G) : Sub F ((s, .bool c) :: G) := e ▸ Sub.cons h hs

/-- An operation that yields this value in every world of a class, and leaves it as it is. -/
def PS (P : Program) (F : Fr) (C : World → Prop) (o : Oper) (v : Value) : Prop :=
  ∀ ρ : Operand → Value, (∀ x v, evO F x = some v → ρ x = v) → ∀ w, C w → (execOp ρ o).run P w = .ok (.value v) w

/-! ### Operations, one behind the other -/

def XO (P : Program) (N : Nat) (ops : Array Oper) (l : List Oper) (F : Fr) (w : World) (K : Fr → World → Prop) : Prop :=
  ∀ a, Has N F a → ∀ Q : Exit → Act → World → Prop, (∀ F' a' w', Has N F' a' → K F' w' → Q .normal a' w') → wpList P ops Q l a w

/-- Is the operation carried out? -/
def wants (ops : Array Oper) (F : Fr) (g : Option (Nat × Bool)) : Option Bool :=
  match g with
  | none => some true
  | some (j, want) =>
    match (ops[j]?).bind (·.dst) with
    | none => none
    | some t =>
      match F.lookup t with
      | some (.bool b) => match want with
        | true => some b
        | false => some (!b)
      | some (.tuple _) => some false
      | _ => none

theorem wants_on {o : Oper} {b : Bool} (h : ∀ t ∈ o.looksAt ops, ∀ v, F.lookup t = some v → a.tmps[t]? = some v) (hg : wants ops F o.guard = some b) : Region.wanted o (yielded ops a.tmps) = b := by
  unfold wants at hg
  unfold Region.wanted
  cases hgd : o.guard with
  | none => simp [hgd] at hg; simp [hg]
  | some p =>
    obtain ⟨j, want⟩ := p
    simp only [hgd] at hg ⊢
    cases ht : (ops[j]?).bind (·.dst) with
    | none => simp [ht] at hg
    | some t =>
      simp only [ht] at hg
      cases hl : F.lookup t with
      | none => simp [hl] at hg
      | some v =>
        have hv := h t (by simp [Oper.looksAt, hgd, ht]) v hl
        cases v with
        | bool c =>
          simp only [hl] at hg
          simp only [yielded, ht, Option.bind_some, hv]
          revert hg; cases want <;> cases c <;> intro hg <;> (cases hg; rfl)
        | tuple vs =>
          simp [hl] at hg
          simp only [yielded, ht, Option.bind_some, hv]
          subst hg
          rfl
        | _ => simp [hl] at hg
theorem wants_spec {o : Oper} {b : Bool} (h : Has N F a) (hg : wants ops F o.guard = some b) : Region.wanted o (yielded ops a.tmps) = b :=
  wants_on (fun t _ v e => h.at_ t v e) hg

variable {K : Fr → World → Prop} {rest : List Oper}

theorem xo_nil (h : K F w) : XO P N ops [] F w K := fun a ha Q hQ => wpList_nil (hQ F a w ha h)

theorem xo_not {o : Oper} {b : Bool} {d : Nat} (hg : wants ops F o.guard = some b) (hb : b = false) (hd : o.dst = some d) (hdN : d < N) (h : XO P N ops rest ((d, undef) :: F) w K) : XO P N ops (o :: rest) F w K := by
  intro a ha Q hQ
  subst hb
  have hw := wants_spec (o := o) ha hg
  unfold wpList
  rw [if_neg (by rw [hw]; simp), hd]
  exact h _ (ha.put undef hdN) Q hQ

theorem xo_not_none {o : Oper} {b : Bool} (hg : wants ops F o.guard = some b) (hb : b = false) (hd : o.dst = none) (h : XO P N ops rest F w K) : XO P N ops (o :: rest) F w K := by
  intro a ha Q hQ
  subst hb
  have hw := wants_spec (o := o) ha hg
  unfold wpList
  rw [if_neg (by rw [hw]; simp), hd]
  exact h _ ha Q hQ

theorem xo_split {o : Oper} {b : Bool} {p : Nat × Bool} (_h0 : o.guard = some p) (_hg : wants ops F o.guard = some b) (h1 : b = true → XO P N ops (o :: rest) F w K) (h2 : b = false → XO P N ops (o :: rest) F w K) : XO P N ops (o :: rest) F w K := by
  cases b
  · exact h2 rfl
  · exact h1 rfl

/-- What each operation's own lemma leans on: it yields a value. -/
theorem xo_run {o : Oper} {b : Bool} (hg : wants ops F o.guard = some b) (hb : b = true) {d : Nat} (hd : o.dst = some d) (hdN : d < N) {v : Value}
    (hr : ∀ ρ : Operand → Value, (∀ x v, evO F x = some v → ρ x = v) → (execOp ρ o).run P w = .ok (.value v) w') (h : XO P N ops rest ((d, v) :: F) w' K) : XO P N ops (o :: rest) F w K := by
  intro a ha Q hQ
  subst hb
  have hw := wants_spec (o := o) ha hg
  unfold wpList
  rw [if_pos hw]
  refine .inl ?_
  unfold Oper.wp
  rw [hr a.eval (fun x v e => ha.ev e), Oper.upon_value, hd]
  exact h _ (ha.put v hdN) Q hQ

theorem xo_pure {o : Oper} {b : Bool} {d : Nat} {v : Value} (hg : wants ops F o.guard = some b) (hb : b = true) (hd : o.dst = some d) (hdN : d < N)
    (hr : PS P F (fun w' => w' = w) o v) (h : XO P N ops rest ((d, v) :: F) w K) : XO P N ops (o :: rest) F w K :=
  xo_run hg hb hd hdN (fun ρ ha => hr ρ ha w rfl) h

theorem xo_skip {o : Oper} {b : Bool} (hg : wants ops F o.guard = some b) (hb : b = true) (hd : o.dst = none)
    (hr : ∀ ρ : Operand → Value, (∀ x v, evO F x = some v → ρ x = v) → (execOp ρ o).run P w = .ok .skip w') (h : XO P N ops rest F w' K) : XO P N ops (o :: rest) F w K := by
  intro a ha Q hQ
  subst hb
  have hw := wants_spec (o := o) ha hg
  unfold wpList
  rw [if_pos hw]
  refine .inl ?_
  unfold Oper.wp
  rw [hr a.eval (fun x v e => ha.ev e), Oper.upon_skip, hd]
  exact h _ ha Q hQ

/-- A call of a Go function. -/
theorem xo_enter {o : Oper} {b : Bool} (hg : wants ops F o.guard = some b) (hb : b = true) {d : Nat} (hd : o.dst = some d) (hdN : d < N) {f : FuncId} {args : Array Value}
    (hr : ∀ ρ : Operand → Value, (∀ x v, evO F x = some v → ρ x = v) → (execOp ρ o).run P w = .ok (.enter f args) w)
    (h : Calls P f args w fun e w' => ∃ v, e = .returned v ∧ XO P N ops rest ((d, v) :: F) w' K) : XO P N ops (o :: rest) F w K := by
  intro a ha Q hQ
  subst hb
  have hw := wants_spec (o := o) ha hg
  unfold wpList
  rw [if_pos hw]
  refine .inl ?_
  unfold Oper.wp
  rw [hr a.eval (fun x v e => ha.ev e), Oper.upon_enter, hd]
  refine h.mono ?_
  rintro e w2 ⟨v, rfl, h2⟩
  exact h2 _ (ha.put v hdN) Q hQ
end

/-! ### The same where the order is drawn: every operation quiet in a class of worlds -/
section
variable {N : Nat} {F : Fr} {a : Act} {P : Program} {ops : Array Oper} {C : World → Prop} {K : Fr → Prop} {rest : List Oper}

def XQ (P : Program) (N : Nat) (ops : Array Oper) (C : World → Prop) (l : List Oper) (F : Fr) (K : Fr → Prop) : Prop :=
  ∀ a, Has N F a → ∀ Q : Act → Prop, (∀ F' a', Has N F' a' → K F' → Q a') → wpQuiet P ops C Q l a

theorem xq_nil (h : K F) : XQ P N ops C [] F K := fun a ha Q hQ => wpQuiet_nil (hQ F a ha h)
theorem xq_not {o : Oper} {b : Bool} {d : Nat} (hg : wants ops F o.guard = some b) (hb : b = false) (hd : o.dst = some d) (hdN : d < N) (h : XQ P N ops C rest ((d, undef) :: F) K) : XQ P N ops C (o :: rest) F K := by
  intro a ha Q hQ
  subst hb
  have hw := wants_spec (o := o) ha hg
  unfold wpQuiet
  rw [if_neg (by rw [hw]; simp), hd]
  exact h _ (ha.put undef hdN) Q hQ
theorem xq_split {o : Oper} {b : Bool} {p : Nat × Bool} (_h0 : o.guard = some p) (_hg : wants ops F o.guard = some b) (h1 : b = true → XQ P N ops C (o :: rest) F K) (h2 : b = false → XQ P N ops C (o :: rest) F K) : XQ P N ops C (o :: rest) F K := by
  cases b
  · exact h2 rfl
  · exact h1 rfl
theorem xq_run {o : Oper} {b : Bool} (hg : wants ops F o.guard = some b) (hb : b = true) {d : Nat} (hd : o.dst = some d) (hdN : d < N) {v : Value}
    (hr : ∀ ρ : Operand → Value, (∀ x v, evO F x = some v → ρ x = v) → ∀ w, C w → (execOp ρ o).run P w = .ok (.value v) w) (h : XQ P N ops C rest ((d, v) :: F) K) : XQ P N ops C (o :: rest) F K := by
  intro a ha Q hQ
  subst hb
  have hw := wants_spec (o := o) ha hg
  unfold wpQuiet
  rw [if_pos hw]
  refine ⟨v, fun w hC => ?_, ?_⟩
  · unfold Oper.quietAt
    rw [hr a.eval (fun x v e => ha.ev e) w hC]
    exact ⟨rfl, rfl⟩
  · rw [hd]; exact h _ (ha.put v hdN) Q hQ
theorem xq_pure {o : Oper} {b : Bool} {d : Nat} {v : Value} (hg : wants ops F o.guard = some b) (hb : b = true) (hd : o.dst = some d) (hdN : d < N)
    (hr : PS P F C o v) (h : XQ P N ops C rest ((d, v) :: F) K) : XQ P N ops C (o :: rest) F K := xq_run hg hb hd hdN hr h
theorem xq_enter {o : Oper} {b : Bool} (hg : wants ops F o.guard = some b) (hb : b = true) {d : Nat} (hd : o.dst = some d) (hdN : d < N) {f : FuncId} {args : Array Value} {v : Value}
    (hr : ∀ ρ : Operand → Value, (∀ x v, evO F x = some v → ρ x = v) → ∀ w, (execOp ρ o).run P w = .ok (.enter f args) w)
    (hc : ∀ w, C w → Calls P f args w fun e w' => e = .returned v ∧ C w') (h : XQ P N ops C rest ((d, v) :: F) K) : XQ P N ops C (o :: rest) F K := by
  intro a ha Q hQ
  subst hb
  have hw := wants_spec (o := o) ha hg
  unfold wpQuiet
  rw [if_pos hw]
  refine ⟨v, fun w hC => ?_, ?_⟩
  · unfold Oper.quietAt
    rw [hr a.eval (fun x v e => ha.ev e) w]
    exact ⟨rfl, hc w hC⟩
  · rw [hd]; exact h _ (ha.put v hdN) Q hQ
end

end Go.Proofs.Ytebiahkffkdlbaa
