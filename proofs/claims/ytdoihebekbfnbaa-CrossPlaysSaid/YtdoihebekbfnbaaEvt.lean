/- A part of a region that draws its order, with stores and new memory that others of the part may look at: the memory as a function of what has come up and of the new memory's places. -/
import Derived.Test.YtdoihebekbfnbaaMix
import Derived.Test.YtdoihebekbfnbaaOpd
namespace Go.Proofs.Ytdoihebekbfnbaa
open Go.RowKit

/-- What is chosen when new memory is made. -/
abbrev Wt := Nat × Option Addr × Nat
abbrev Nw := List (Nat × (Wt → Value) × (Wt → Hp))
def ptrN (x : Wt) : Value := .pointer (some ⟨x.1, 0, none⟩)
def sl1N (x : Wt) : Value := .slice (some ⟨x.1, 0, none⟩) 1 1
def slN (k : Nat) (x : Wt) : Value := .slice (some ⟨x.1, 0, none⟩) k k

inductive Se where
  | fix (d : Nat) (v : Value)
  | sto
  | new (d : Nat) (v : Value)
  | gen (d : Nat) (v : Value)
def Se.dst : Se → Option Nat
  | .fix d _ => some d
  | .sto => none
  | .new d _ => some d
  | .gen d _ => some d
def Se.upd (F : Fr) : Se → Fr
  | .fix d v => (d, v) :: F
  | .sto => F
  | .new d v => (d, v) :: F
  | .gen d v => (d, v) :: F
def Se.fact (a : Act) : Se → Prop
  | .fix d v => a.tmps[d]? = some v
  | .sto => True
  | .new d v => a.tmps[d]? = some v
  | .gen d v => a.tmps[d]? = some v

abbrev HofT := (Nat → Wt) → (Nat → Bool) → Hp

section
variable {rd : Option Nat} {P : Program} {N : Nx} {B p q : Nat} {w0 w : World} {l r : List Oper} {F : Fr} {n : Nat} {ops : Array Oper} {st : List Nat} {nw : Nw} {Hof : HofT} {α β : Nat → Wt}

/-- New memory. -/
def PN (P : Program) (F : Fr) (C : World → Prop) (o : Oper) (mk : Wt → Value) (Hn : Wt → Hp) : Prop :=
  ∀ ρ : Operand → Value, (∀ x v, evO F x = some v → ρ x = v) → ∀ w, C w → (∃ x w', (execOp ρ o).run P w = .ok (.value (mk x)) w' ∧ Mem w.heap.size w (Hn x) w') ∨
    ∃ f args, (execOp ρ o).run P w = .ok (.enter f args) w ∧ Calls P f args w fun e w' => ∃ x, e = .returned (mk x) ∧ Mem w.heap.size w (Hn x) w'

/-- An operation that turns memory; what it yields tells what was chosen. -/
def PE (P : Program) (F : Fr) (B : Nat) (w0 : World) (o : Oper) (H : Hp) (mk : Wt → Value) (H' : Wt → Hp) : Prop :=
  ∀ ρ : Operand → Value, (∀ x v, evO F x = some v → ρ x = v) → ∀ w, Mem B w0 H w → ∃ x w', x.1 = 0 ∧ (execOp ρ o).run P w = .ok (.value (mk x)) w' ∧ Mem B w0 (H' x) w'

def OpSe (P : Program) (N : Nx) (ops : Array Oper) (p : Nat) (B : Nat) (w0 : World) (st : List Nat) (nw : Nw) (Hof : HofT) (α : Nat → Wt) (i : Nat) (F : Fr) (o : Oper) : Se → Prop
  | .fix d v => (st.contains i = false ∧ nw.lookup i = none) ∧ o.dst = some d ∧ d < N.n ∧ ((wants ops F o.guard = some true ∧ ∀ b, PS P F (Mem B w0 (Hof α b)) o v) ∨ (wants ops F o.guard = some false ∧ v = undef))
  | .sto => (st.contains i = true ∧ nw.lookup i = none) ∧ o.dst = none ∧ wants ops F o.guard = some true ∧ ∀ b, b i = false → PU P F B w0 o (Hof α b) (Hof α (setb b i))
  | .new d v => st.contains i = false ∧ ∃ mk Hn, nw.lookup i = some (mk, Hn) ∧ o.dst = some d ∧ d < N.n ∧ wants ops F o.guard = some true ∧ v = mk (α i) ∧ (∀ b, PN P F (Mem B w0 (Hof α b)) o mk Hn) ∧ ∀ b, b i = false → SubH (Hn (α i) ++ Hof α b) (Hof α (setb b i))
  | .gen d v => st.contains i = true ∧ ∃ mk Hn, nw.lookup i = some (mk, Hn) ∧ o.dst = some d ∧ d < N.n ∧ wants ops F o.guard = some true ∧ v = mk (α i) ∧ (∀ x y : Wt, x.1 = 0 → y.1 = 0 → mk x = mk y → x = y) ∧
    ∃ need : List (Nat × Nat), (∀ x ∈ need, x.1 < i ∧ x.2 ∈ o.looksAt ops ∧ (ops[p + x.1]?).bind (·.dst) = some x.2 ∧ (st.contains x.1 || (nw.lookup x.1).isSome) = true) ∧ ∀ b, b i = false → (∀ x ∈ need, b x.1 = true) → PE P F B w0 o (Hof α b) mk (fun x => Hof (fun j => if j = i then x else α j) (setb b i))

def EWalk (P : Program) (N : Nx) (ops : Array Oper) (p : Nat) (B : Nat) (w0 : World) (st : List Nat) (nw : Nw) (Hof : HofT) (α : Nat → Wt) : Nat → List Oper → Fr → List Se → Prop
  | _, [], _, S => S = []
  | _, _ :: _, _, [] => False
  | i, o :: l, F, s :: S => OpSe P N ops p B w0 st nw Hof α i F o s ∧ EWalk P N ops p B w0 st nw Hof α (i + 1) l (s.upd F) S

theorem OpSe.dst {i : Nat} {o : Oper} : ∀ {s : Se}, OpSe P N ops p B w0 st nw Hof α i F o s → o.dst = s.dst
  | .fix _ _, h => h.2.1
  | .sto, h => h.2.1
  | .new _ _, ⟨_, _, _, _, h, _⟩ => h
  | .gen _ _, ⟨_, _, _, _, h, _⟩ => h

theorem ewalk_len : ∀ {pre : List Oper} {k : Nat} {F : Fr} {S : List Se}, EWalk P N ops p B w0 st nw Hof α k pre F S → S.length = pre.length
  | [], _, _, _, h => by simp [EWalk] at h; subst h; rfl
  | _ :: _, _, _, [], h => h.elim
  | _ :: _, _, _, _ :: _, h => by simp [ewalk_len h.2]

def Se.holds (t : Nat) (v : Value) : Se → Prop
  | .fix d u => d = t ∧ u = v
  | .new d u => d = t ∧ u = v
  | .gen d u => d = t ∧ u = v
  | .sto => False
theorem Se.holds_upd {s : Se} {t : Nat} {v : Value} (h : (s.upd F).lookup t = some v) : s.holds t v ∨ (F.lookup t = some v ∧ s.dst ≠ some t) := by
  cases s with
  | sto => exact .inr ⟨h, by simp [Se.dst]⟩
  | fix d u =>
    simp only [Se.upd, List.lookup_cons] at h
    by_cases ht : t = d
    · subst ht; simp at h; subst h; exact .inl ⟨rfl, rfl⟩
    · have hb : (t == d) = false := by simpa using ht
      rw [hb] at h
      exact .inr ⟨h, by simp only [Se.dst]; exact fun e => ht (Option.some.inj e).symm⟩
  | new d u =>
    simp only [Se.upd, List.lookup_cons] at h
    by_cases ht : t = d
    · subst ht; simp at h; subst h; exact .inl ⟨rfl, rfl⟩
    · have hb : (t == d) = false := by simpa using ht
      rw [hb] at h
      exact .inr ⟨h, by simp only [Se.dst]; exact fun e => ht (Option.some.inj e).symm⟩
  | gen d u =>
    simp only [Se.upd, List.lookup_cons] at h
    by_cases ht : t = d
    · subst ht; simp at h; subst h; exact .inl ⟨rfl, rfl⟩
    · have hb : (t == d) = false := by simpa using ht
      rw [hb] at h
      exact .inr ⟨h, by simp only [Se.dst]; exact fun e => ht (Option.some.inj e).symm⟩
theorem Se.holds_dst {s : Se} {t : Nat} {v : Value} (h : s.holds t v) : s.dst = some t := by
  cases s with
  | sto => exact h.elim
  | fix d u => simp only [Se.dst]; rw [h.1]
  | new d u => simp only [Se.dst]; rw [h.1]
  | gen d u => simp only [Se.dst]; rw [h.1]
theorem Se.holds_fact {s : Se} {t : Nat} {v : Value} {a : Act} (h : s.holds t v) (hf : s.fact a) : a.tmps[t]? = some v := by
  cases s with
  | sto => exact h.elim
  | fix d u => obtain ⟨rfl, rfl⟩ := h; exact hf
  | new d u => obtain ⟨rfl, rfl⟩ := h; exact hf
  | gen d u => obtain ⟨rfl, rfl⟩ := h; exact hf

theorem ewalk_at : ∀ {pre : List Oper} {k : Nat} {F : Fr} {S : List Se} (_ : EWalk P N ops p B w0 st nw Hof α k pre F S) (i : Nat) (s : Se), S[i]? = some s →
    ∃ o Fi, pre[i]? = some o ∧ OpSe P N ops p B w0 st nw Hof α (k + i) Fi o s ∧ o.dst = s.dst ∧
      ∀ t v, Fi.lookup t = some v → (∃ j sj, j < i ∧ S[j]? = some sj ∧ sj.holds t v) ∨ (F.lookup t = some v ∧ ∀ j, j < i → ∀ sp, S[j]? = some sp → sp.dst ≠ some t) := by
  intro pre
  induction pre with
  | nil => intro k F S h i s hs; simp [EWalk] at h; subst h; simp at hs
  | cons o pre ih =>
    intro k F S h i s hs
    cases S with
    | nil => exact h.elim
    | cons s0 S =>
      cases i with
      | zero =>
        simp at hs; subst hs
        exact ⟨o, F, rfl, h.1, h.1.dst, fun t v e => .inr ⟨e, fun j hj => by omega⟩⟩
      | succ i =>
        obtain ⟨o', Fi, h1, h2, h3, h5⟩ := ih h.2 i s (by simpa using hs)
        refine ⟨o', Fi, by simpa using h1, by rw [show k + (i + 1) = k + 1 + i by omega]; exact h2, h3, fun t v e => ?_⟩
        rcases h5 t v e with ⟨j, sj, hj, hS, hh⟩ | ⟨e1, e2⟩
        · exact .inl ⟨j + 1, sj, by omega, by simpa using hS, hh⟩
        · rcases Se.holds_upd e1 with hh | ⟨e3, e4⟩
          · exact .inl ⟨0, s0, by omega, rfl, hh⟩
          · refine .inr ⟨e3, fun j hj sp hsp => ?_⟩
            cases j with
            | zero => simp at hsp; subst hsp; exact e4
            | succ j => exact e2 j (by omega) sp (by simpa using hsp)

/-- Which have come up. -/
def upE (st : List Nat) (nw : Nw) (listed : Array Bool) (p : Nat) : Nat → Bool := fun j => (st.contains j || (nw.lookup j).isSome) && listed.getD (p + j) false
def Ag (p n : Nat) (listed : Array Bool) (α β : Nat → Wt) : Prop := ∀ i, i < n → listed.getD (p + i) false = true → α i = β i
theorem Ag.refl {listed : Array Bool} : Ag p n listed α α := fun _ _ _ => rfl

structure InvE (B : Nat) (w0 : World) (N : Nx) (st : List Nat) (nw : Nw) (Hof : HofT) (l : List Oper) (p n : Nat) (F : Fr) (S : (Nat → Wt) → List Se) (listed : Array Bool) (β : Nat → Wt) (a : Act) (w : World) : Prop where
  len : listed.size = l.length
  size : a.tmps.size = N.n
  defers : a.defers = marks N.at_
  down : Down l listed
  mem : ∀ α, Ag p n listed α β → Mem B w0 (Hof α (upE st nw listed p)) w
  facts : ∀ α, Ag p n listed α β → ∀ i s, (S α)[i]? = some s → listed.getD (p + i) false = true → s.fact a
  old : ∀ t v, F.lookup t = some v → (∀ i o, i < n → l[p + i]? = some o → listed.getD (p + i) false = true → o.dst ≠ some t) → a.tmps[t]? = some v
  pre : ∀ i, i < p → listed.getD i false = true
  post : ∀ i, p + n ≤ i → listed.getD i false = false

theorem upE_set {listed : Array Bool} {i : Nat} (h : p + i < listed.size) (hs : (st.contains i || (nw.lookup i).isSome) = true) : upE st nw (listed.setIfInBounds (p + i) true) p = setb (upE st nw listed p) i := by
  funext j
  unfold upE setb
  by_cases hj : j = i
  · subst hj; rw [if_pos rfl, hs]; simp [h]
  · rw [if_neg hj, getD_set_ne false (by omega)]
theorem upE_fix {listed : Array Bool} {i : Nat} (hs : (st.contains i || (nw.lookup i).isSome) = false) : upE st nw (listed.setIfInBounds (p + i) true) p = upE st nw listed p := by
  funext j
  unfold upE
  by_cases hj : j = i
  · subst hj; rw [hs]; simp
  · rw [getD_set_ne false (by omega)]
theorem Ag.of_set {listed : Array Bool} {i : Nat} {x : Wt} (hun : listed.getD (p + i) false = false) (h : Ag p n (listed.setIfInBounds (p + i) true) α (fun j => if j = i then x else β j)) : Ag p n listed α β := fun j hj hl => by
  have := h j hj (getD_set_true hl)
  dsimp only at this
  rwa [if_neg (fun e => by subst e; rw [hl] at hun; cases hun)] at this
theorem Ag.of_set' {listed : Array Bool} {i : Nat} (h : Ag p n (listed.setIfInBounds (p + i) true) α β) : Ag p n listed α β := fun j hj hl => h j hj (getD_set_true hl)

/-- One operation of the part has come up. -/
theorem InvE.step {S : (Nat → Wt) → List Se} {listed : Array Bool} {a : Act} {i : Nat} {o : Oper} {u : Value} {w' : World} {γ : Nat → Wt} (hI : InvE B w0 N st nw Hof l p n F S listed β a w) (hW : ∀ α, EWalk P N ops p B w0 st nw Hof α 0 ((l.drop p).take n) F (S α)) (hn : p + n ≤ l.length) (hd : mixOk l p (p + n) = true)
    (hin : i < n) (ho : l[p + i]? = some o) (hr : ∀ e ∈ o.after, Region.binds .any e = true → listed.getD e.on false = true)
    (hg : ∀ α, Ag p n (listed.setIfInBounds (p + i) true) α γ → Ag p n listed α β)
    (hw : ∀ α, Ag p n (listed.setIfInBounds (p + i) true) α γ → Mem B w0 (Hof α (upE st nw (listed.setIfInBounds (p + i) true) p)) w')
    (hf : ∀ α, Ag p n (listed.setIfInBounds (p + i) true) α γ → ∀ s, (S α)[i]? = some s → s.fact (a.put o.dst u)) : InvE B w0 N st nw Hof l p n F S (listed.setIfInBounds (p + i) true) γ (a.put o.dst u) w' := by
  obtain ⟨hs, hedge, hpair, hpost⟩ := mixOk_spec hd
  have hkeep : ∀ t, o.dst ≠ some t → (a.put o.dst u).tmps[t]? = a.tmps[t]? := fun t ht => by
    cases hx : o.dst with
    | none => rfl
    | some d => rw [hx] at ht; simp [Act.put, Array.getElem?_setIfInBounds_ne (fun e : d = t => ht (by rw [e]))]
  refine ⟨by simp [hI.len], by cases hx : o.dst <;> simp [Act.put, hI.size], by cases hx : o.dst <;> exact hI.defers, ?_, hw, ?_, ?_, ?_, ?_⟩
  · intro j oj hj hlj e he hb
    rcases getD_set' hlj with rfl | hlj
    · rw [ho] at hj; cases hj
      exact getD_set_true (hr e he hb)
    · exact getD_set_true (hI.down j oj hj hlj e he hb)
  · intro α hα j sj hj hlj
    by_cases hji : j = i
    · subst hji; exact hf α hα sj hj
    · rcases getD_set' hlj with h | hlj
      · omega
      · have h0 := hI.facts α (hg α hα) j sj hj hlj
        have hlen : (S α).length = n := by rw [ewalk_len (hW α)]; simp; omega
        have hjn : j < n := by have := (List.getElem?_eq_some_iff.1 hj).1; omega
        obtain ⟨oj, Fj, h1, h2, h3, _⟩ := ewalk_at (hW α) j sj hj
        have h1 := mseg_at hjn h1
        have hne : ∀ d, sj.dst = some d → o.dst ≠ some d := by
          intro d hdj hdi
          rcases Nat.lt_or_gt_of_ne hji with h | h
          · have := hpair (p + i) (p + j) o oj (by omega) (by omega) (by omega) ho h1
            simp only [mixPair, Bool.and_eq_true, Bool.or_eq_true, bne_iff_ne] at this
            rcases this.1 with h' | h'
            · rw [hdi] at h'; cases h'
            · exact h' (by rw [hdi, h3, hdj])
          · have := hpair (p + j) (p + i) oj o (by omega) (by omega) (by omega) h1 ho
            simp only [mixPair, Bool.and_eq_true, Bool.or_eq_true, bne_iff_ne] at this
            rcases this.1 with h' | h'
            · rw [h3, hdj] at h'; cases h'
            · exact h' (by rw [hdi, h3, hdj])
        cases sj with
        | sto => exact h0
        | fix d v => simp only [Se.fact] at h0 ⊢; rw [hkeep d (hne d rfl)]; exact h0
        | new d v => simp only [Se.fact] at h0 ⊢; rw [hkeep d (hne d rfl)]; exact h0
        | gen d v => simp only [Se.fact] at h0 ⊢; rw [hkeep d (hne d rfl)]; exact h0
  · intro t v e hno
    rw [hkeep t (hno i o hin ho (by simp [hI.len]; omega))]
    exact hI.old t v e (fun j oj hjn hj hlj => hno j oj hjn hj (getD_set_true hlj))
  · intro j hj
    exact getD_set_true (hI.pre j hj)
  · intro j hj
    rw [getD_set_ne false (by omega)]
    exact hI.post j hj

theorem eseg_op {S : (Nat → Wt) → List Se} {listed : Array Bool} {a : Act} {i : Nat} {Q : Exit → Act → World → Prop} {K : Act → World → Prop} (hI : InvE B w0 N st nw Hof l p n F S listed β a w) (hW : ∀ α, EWalk P N l.toArray p B w0 st nw Hof α 0 ((l.drop p).take n) F (S α)) (hn : p + n ≤ l.length) (hd : mixOk l p (p + n) = true)
    (hi : p + i ∈ Region.ready .any l.toArray listed) (hin : i < n)
    (hK : ∀ γ a' w', InvE B w0 N st nw Hof l p n F S (listed.setIfInBounds (p + i) true) γ a' w' → K a' w') : wpOpIn (FR rd) 0 P l.toArray Q (p + i) K a w := by
  have hlen : ∀ α, (S α).length = n := fun α => by rw [ewalk_len (hW α)]; simp; omega
  obtain ⟨hsel, hedge, hpair, hpost⟩ := mixOk_spec hd
  obtain ⟨hun, o, ho, hr⟩ := mem_ready.1 hi
  have ho' : l[p + i]? = some o := by simpa using ho
  have hlt : p + i < listed.size := by rw [hI.len]; exact (List.getElem?_eq_some_iff.1 ho').1
  have hunf : listed.getD (p + i) false = false := by rw [getD_of_lt hlt false true]; exact hun
  have at_ : ∀ α, Ag p n listed α β → ∃ s Fi, (S α)[i]? = some s ∧ OpSe P N l.toArray p B w0 st nw Hof α i Fi o s ∧ (∀ t ∈ o.looksAt l.toArray, ∀ v, Fi.lookup t = some v → a.tmps[t]? = some v) ∧ ∃ ρ : Operand → Value, (∀ x v, evO Fi x = some v → ρ x = v) ∧ execOp a.eval o = execOp ρ o := by
    intro α hα
    obtain ⟨s, hS⟩ : ∃ s, (S α)[i]? = some s := ⟨(S α)[i]'(by rw [hlen]; exact hin), List.getElem?_eq_getElem _⟩
    obtain ⟨o2, Fi, h1, h2, h3, h5⟩ := ewalk_at (hW α) i s hS
    have h1 := mseg_at hin h1
    rw [ho'] at h1
    cases h1
    rw [Nat.zero_add] at h2
    have agree : ∀ t ∈ o.looksAt l.toArray, ∀ v, Fi.lookup t = some v → a.tmps[t]? = some v := by
      intro t ht v e
      rcases h5 t v e with ⟨j, sj, hj, hSj, hh⟩ | ⟨e1, e2⟩
      · obtain ⟨oj, _, g1, _, g2, _⟩ := ewalk_at (hW α) j _ hSj
        have g1 := mseg_at (by omega) g1
        have hp := hpair (p + i) (p + j) o oj (by omega) (by omega) (by omega) ho' g1
        simp only [mixPair, Bool.and_eq_true, Bool.or_eq_true] at hp
        have hl : listed.getD (p + j) false = true := by
          rcases hp.2 with hp | hp
          · exact behind_spec l listed hI.down (p + i) o ho' hr (p + j) hp
          · have := hp.1
            rw [g2, Se.holds_dst hh] at this
            simp at this
            exact (this ht).elim
        exact Se.holds_fact hh (hI.facts α hα j _ hSj hl)
      · refine hI.old t v e1 (fun j oj hjn g1 hlj hdj => ?_)
        rcases Nat.lt_trichotomy j i with h | h | h
        · obtain ⟨sj, hSj⟩ : ∃ s, (S α)[j]? = some s := ⟨(S α)[j]'(by rw [hlen]; exact hjn), List.getElem?_eq_getElem _⟩
          obtain ⟨oj', _, g1', _, g2, _⟩ := ewalk_at (hW α) j _ hSj
          have g1' := mseg_at hjn g1'
          rw [g1] at g1'; cases g1'
          exact e2 j h sj hSj (by rw [← g2, hdj])
        · subst h; rw [hlj] at hunf; cases hunf
        · have hp := hpair (p + j) (p + i) oj o (by omega) (by omega) (by omega) g1 ho'
          simp only [mixPair, Bool.and_eq_true, Bool.or_eq_true] at hp
          rcases hp.2 with hp | hp
          · have := behind_spec l listed hI.down (p + j) oj g1 (hI.down (p + j) oj g1 hlj) (p + i) hp
            rw [this] at hunf; cases hunf
          · have := hp.2
            rw [hdj] at this
            simp at this
            exact this ht
    refine ⟨s, Fi, hS, h2, agree, fun x => (evO Fi x).getD (a.eval x), fun x v e => by simp [e], ?_⟩
    refine execOp_congr o (fun cs b => Region.noSelect_spec hsel (p + i) o cs b ho) (fun x hx => ?_)
    cases x with
    | tmp t =>
      cases e : Fi.lookup t with
      | none => simp [evO, e]
      | some v =>
        have := agree t (List.mem_append_left _ (List.mem_filterMap.2 ⟨.tmp t, by simpa using hx, rfl⟩)) v e
        simp [evO, e, Act.eval, Array.getD_eq_getD_getElem?, this]
    | const u => simp [evO, Act.eval]
    | global g => simp [evO, Act.eval]
    | func f => simp [evO, Act.eval]
  have put_at : ∀ d, d < N.n → ∀ v, (a.put (some d) v).tmps[d]? = some v := fun d hd v => by
    have : d < a.tmps.size := by rw [hI.size]; exact hd
    simp [Act.put, this]
  obtain ⟨s, Fi, hS, h2, agree, ρ, hρ, hex⟩ := at_ β Ag.refl
  unfold wpOpIn
  simp only [ho]
  cases s with
  | fix d v =>
    obtain ⟨⟨k1, k2⟩, hdst, hdN, h2⟩ := h2
    have hev : (st.contains i || (nw.lookup i).isSome) = false := by rw [k1, k2]; rfl
    have same : ∀ α, Ag p n listed α β → ∀ s, (S α)[i]? = some s → s = .fix d v := by
      intro α hα s hs
      obtain ⟨s', Fi', hS', h2', agree', ρ', hρ', hex'⟩ := at_ α hα
      rw [hs] at hS'; cases hS'
      cases s with
      | sto => rw [h2'.1.1] at k1; cases k1
      | new d' v' => obtain ⟨_, mk, Hn, h, _⟩ := h2'; rw [k2] at h; cases h
      | gen d' v' => obtain ⟨_, mk, Hn, h, _⟩ := h2'; rw [k2] at h; cases h
      | fix d' v' =>
        obtain ⟨_, hdst', _, h2'⟩ := h2'
        rw [hdst] at hdst'; cases hdst'
        rcases h2 with ⟨hg, hp⟩ | ⟨hg, rfl⟩ <;> rcases h2' with ⟨hg', hp'⟩ | ⟨hg', rfl⟩
        · have e1 := hp _ ρ hρ w (hI.mem β Ag.refl)
          have e2 := hp' _ ρ' hρ' w (hI.mem α hα)
          rw [← hex] at e1; rw [← hex', e1] at e2
          injection e2 with e2 _; injection e2 with e2; rw [e2]
        · have := wants_on agree' hg'; rw [wants_on agree hg] at this; cases this
        · have := wants_on agree' hg'; rw [wants_on agree hg] at this; cases this
        · rfl
    have done : K (a.put o.dst v) w := hK β _ _ (hI.step hW hn hd hin ho' hr (fun α hα => hα.of_set') (fun α hα => by rw [upE_fix hev]; exact hI.mem α hα.of_set') (fun α hα s hs => by
      rw [same α hα.of_set' s hs, hdst]; exact put_at d hdN v))
    rcases h2 with ⟨hg, hp⟩ | ⟨hg, rfl⟩
    · rw [if_pos (wants_on agree hg)]
      refine ⟨fun _ _ => trivial, ?_⟩
      rw [semAt_of _ (hex ▸ hp _ ρ hρ w (hI.mem β Ag.refl)) (by simp), Oper.uponIn_value]; exact done
    · rw [if_neg (by rw [wants_on agree hg]; simp)]
      exact ⟨fun _ _ => trivial, done⟩
  | sto =>
    obtain ⟨⟨k1, k2⟩, hdst, hg, hu⟩ := h2
    have hev : (st.contains i || (nw.lookup i).isSome) = true := by rw [k1]; rfl
    have hb0 : upE st nw listed p i = false := by unfold upE; rw [hunf, Bool.and_false]
    rw [if_pos (wants_on agree hg)]
    refine ⟨fun _ _ => trivial, ?_⟩
    obtain ⟨w', hv, hm⟩ := hu _ hb0 ρ hρ w (hI.mem β Ag.refl)
    rw [semAt_of _ (hex ▸ hv) (by simp), Oper.uponIn_skip]
    have hk := hK β (a.put o.dst undef) w' (hI.step hW hn hd hin ho' hr (fun α hα => hα.of_set') (fun α hα => ?_) (fun α hα s hs => ?_))
    · exact hk
    · rw [upE_set hlt hev]
      obtain ⟨s', Fi', hS', h2', agree', ρ', hρ', hex'⟩ := at_ α hα.of_set'
      cases s' with
      | fix d' v' => rw [h2'.1.1] at k1; cases k1
      | new d' v' => obtain ⟨_, mk, Hn, h, _⟩ := h2'; rw [k2] at h; cases h
      | gen d' v' => obtain ⟨_, mk, Hn, h, _⟩ := h2'; rw [k2] at h; cases h
      | sto =>
        obtain ⟨_, _, _, hu'⟩ := h2'
        obtain ⟨w'', hv', hm'⟩ := hu' _ hb0 ρ' hρ' w (hI.mem α hα.of_set')
        rw [← hex] at hv; rw [← hex', hv] at hv'
        injection hv' with _ e; rw [e]; exact hm'
    · obtain ⟨s', Fi', hS', h2', _⟩ := at_ α hα.of_set'
      rw [hs] at hS'; cases hS'
      cases s with
      | fix d' v' => rw [h2'.1.1] at k1; cases k1
      | new d' v' => obtain ⟨_, mk, Hn, h, _⟩ := h2'; rw [k2] at h; cases h
      | gen d' v' => obtain ⟨_, mk, Hn, h, _⟩ := h2'; rw [k2] at h; cases h
      | sto => trivial
  | new d v =>
    obtain ⟨k1, mk, Hn, hnw, hdst, hdN, hg, hv, hpn, hsub⟩ := h2
    have hev : (st.contains i || (nw.lookup i).isSome) = true := by rw [hnw]; simp
    have hb0 : upE st nw listed p i = false := by unfold upE; rw [hunf, Bool.and_false]
    rw [if_pos (wants_on agree hg)]
    refine ⟨fun _ _ => trivial, ?_⟩
    have done : ∀ x w', Mem w.heap.size w (Hn x) w' → K (a.put o.dst (mk x)) w' := fun x w' hm => hK (fun j => if j = i then x else β j) _ _ (hI.step hW hn hd hin ho' hr (fun α hα => hα.of_set hunf) (fun α hα => by
      rw [upE_set hlt hev]
      have hx : α i = x := by have := hα i hin (by simp [hlt]); dsimp only at this; rwa [if_pos rfl] at this
      obtain ⟨s', Fi', hS', h2', _⟩ := at_ α (hα.of_set hunf)
      cases s' with
      | fix d' v' => rw [h2'.1.2] at hnw; cases hnw
      | sto => rw [h2'.1.2] at hnw; cases hnw
      | gen d' v' => rw [h2'.1] at k1; cases k1
      | new d' v' =>
        obtain ⟨_, mk', Hn', hnw', _, _, _, _, _, hsub'⟩ := h2'
        rw [hnw] at hnw'; cases hnw'
        have h3 := hsub' _ hb0
        rw [hx] at h3
        exact ((hI.mem α (hα.of_set hunf)).join hm).sub h3) (fun α hα s hs => by
      have hx : α i = x := by have := hα i hin (by simp [hlt]); dsimp only at this; rwa [if_pos rfl] at this
      obtain ⟨s', Fi', hS', h2', _⟩ := at_ α (hα.of_set hunf)
      rw [hs] at hS'; cases hS'
      cases s with
      | fix d' v' => rw [h2'.1.2] at hnw; cases hnw
      | sto => rw [h2'.1.2] at hnw; cases hnw
      | gen d' v' => rw [h2'.1] at k1; cases k1
      | new d' v' =>
        obtain ⟨_, mk', Hn', hnw', hdst', _, _, hv', _, _⟩ := h2'
        rw [hnw] at hnw'; cases hnw'
        rw [hdst] at hdst'; cases hdst'
        rw [hdst, hv', hx]
        exact put_at d hdN _))
    rcases hpn _ ρ hρ w (hI.mem β Ag.refl) with ⟨x, w', hrun, hm⟩ | ⟨f, args, hrun, hc⟩
    · rw [semAt_of _ (hex ▸ hrun) (by simp), Oper.uponIn_value]; exact done x w' hm
    · rw [semAt_of _ (hex ▸ hrun) (by simp), Oper.uponIn_enter]
      refine ⟨fun h => by simp [FR, Fence.wide] at h, callsIn_of (hc.mono ?_)⟩
      rintro e w' ⟨x, rfl, hm⟩
      exact done x w' hm
  | gen d v =>
    obtain ⟨k1, mk, Hn, hnw, hdst, hdN, hg, hv, hinj, need, hneed, hpe⟩ := h2
    have hev : (st.contains i || (nw.lookup i).isSome) = true := by rw [hnw]; simp
    have hb0 : upE st nw listed p i = false := by unfold upE; rw [hunf, Bool.and_false]
    have hnd : ∀ need : List (Nat × Nat), (∀ x ∈ need, x.1 < i ∧ x.2 ∈ o.looksAt l.toArray ∧ (l.toArray[p + x.1]?).bind (·.dst) = some x.2 ∧ (st.contains x.1 || (nw.lookup x.1).isSome) = true) → ∀ x ∈ need, upE st nw listed p x.1 = true := by
      intro need hneed x hx
      obtain ⟨hlt', hlk, hdx, hup⟩ := hneed x hx
      have hlp : p + x.1 < l.length := by omega
      have g1 : l[p + x.1]? = some l[p + x.1] := List.getElem?_eq_getElem hlp
      have hp := hpair (p + i) (p + x.1) o _ (by omega) (by omega) (by omega) ho' g1
      simp only [mixPair, Bool.and_eq_true, Bool.or_eq_true] at hp
      have hdx' : l[p + x.1].dst = some x.2 := by
        rw [List.getElem?_toArray, g1] at hdx; exact hdx
      have hl : listed.getD (p + x.1) false = true := by
        rcases hp.2 with hp | hp
        · exact behind_spec l listed hI.down (p + i) o ho' hr (p + x.1) hp
        · have := hp.1
          rw [hdx'] at this
          simp at this
          exact (this hlk).elim
      unfold upE; rw [hup, hl]; rfl
    rw [if_pos (wants_on agree hg)]
    refine ⟨fun _ _ => trivial, ?_⟩
    obtain ⟨x, w', hx0, hrun, hm⟩ := hpe _ hb0 (hnd need hneed) ρ hρ w (hI.mem β Ag.refl)
    have done : K (a.put o.dst (mk x)) w' := hK (fun j => if j = i then x else β j) _ _ (hI.step hW hn hd hin ho' hr (fun α hα => hα.of_set hunf) (fun α hα => by
      rw [upE_set hlt hev]
      have hx : α i = x := by have := hα i hin (by simp [hlt]); dsimp only at this; rwa [if_pos rfl] at this
      obtain ⟨s', Fi', hS', h2', agree', ρ', hρ', hex'⟩ := at_ α (hα.of_set hunf)
      cases s' with
      | fix d' v' => rw [h2'.1.2] at hnw; cases hnw
      | sto => rw [h2'.1.2] at hnw; cases hnw
      | new d' v' => rw [h2'.1] at k1; cases k1
      | gen d' v' =>
        obtain ⟨_, mk', Hn', hnw', _, _, _, _, _, need', hneed', hpe'⟩ := h2'
        rw [hnw] at hnw'; cases hnw'
        obtain ⟨x', w'', hx0', hrun', hm'⟩ := hpe' _ hb0 (hnd need' hneed') ρ' hρ' w (hI.mem α (hα.of_set hunf))
        have hrun2 := hrun
        rw [← hex] at hrun2
        rw [← hex', hrun2] at hrun'
        injection hrun' with e1 e2
        injection e1 with e1
        have hxx : x = x' := hinj _ _ hx0 hx0' e1
        have hα' : (fun j => if j = i then x' else α j) = α := by
          funext j
          by_cases hj : j = i
          · rw [if_pos hj, hj, hx, hxx]
          · rw [if_neg hj]
        subst e2
        have hm2 : Mem B w0 (Hof (fun j => if j = i then x' else α j) (setb (upE st nw listed p) i)) w' := hm'
        rwa [hα'] at hm2) (fun α hα s hs => by
      have hx : α i = x := by have := hα i hin (by simp [hlt]); dsimp only at this; rwa [if_pos rfl] at this
      obtain ⟨s', Fi', hS', h2', _⟩ := at_ α (hα.of_set hunf)
      rw [hs] at hS'; cases hS'
      cases s with
      | fix d' v' => rw [h2'.1.2] at hnw; cases hnw
      | sto => rw [h2'.1.2] at hnw; cases hnw
      | new d' v' => rw [h2'.1] at k1; cases k1
      | gen d' v' =>
        obtain ⟨_, mk', Hn', hnw', hdst', _, _, hv', _, _⟩ := h2'
        rw [hnw] at hnw'; cases hnw'
        rw [hdst] at hdst'; cases hdst'
        rw [hdst, hv', hx]
        exact put_at d hdN _))
    rw [semAt_of _ (hex ▸ hrun) (by simp), Oper.uponIn_value]; exact done

theorem sd_allocL {KD : List Oper → Fr → Hp → Prop} {rest : List Oper} {H : Hp} {d : Nat} {ty : TypeId} {pos : String} {af : Array Edge} {g : Option (Nat × Bool)} {bw : Bool} {t : TypeId} {z : Value} {cs : List Value} (hz : z.cells.toList = cs) (hg : wants ops F g = some bw) (hb : bw = true) (hF : F.lookup d = none) (hZ : ∀ w, (zeroValue t).run P w = .ok z w) (hN : d < N.n)
    (h : SD false P N B w0 ops n rest F H (fun l F' H' => ∀ q, KD l ((d, .pointer (some ⟨q, 0, none⟩)) :: F') (row q t cs :: H'))) : SD true P N B w0 ops (n + 1) (⟨some d, .alloc t, ty, pos, af, g⟩ :: rest) F H KD := by
  subst hz; exact sd_alloc hg hb hF hZ hN h
theorem so_sub {rd : Option Nat} {F G : Fr} {H L : Hp} {l : List Oper} {K : Fr → Hp → Prop} (hs : Sub F G) (hh : SubH H L) (h : SO rd P N B w0 ops l G L K) : SO rd P N B w0 ops l F H K := fun w hw a ha => h w (hw.sub hh) a (ha.sub hs)
theorem Mem.ownCap {H R : Hp} {A : Option Addr} {n cap sz : Nat} {t : TypeId} {cs : List Value} (h : Mem B w0 H w) (hp : Pick H (own A n cap t sz cs) R) : n ≤ cap := by
  have hk : w.ownsRow 0 t sz (.slice A n cap) n cs := (h.ok _ ((hp.mem _).2 (.inl rfl))).1
  rcases hk.2 with ⟨h0, hn⟩ | ⟨g, cap', cur, hv, hb, hcell, hn, hr⟩
  · omega
  · injection hv with _ _ hc; subst hc; exact hn
theorem so_ownCap {rd : Option Nat} {F : Fr} {H R : Hp} {K : Fr → Hp → Prop} {A : Option Addr} {n cap sz : Nat} {t : TypeId} {cs : List Value} {l : List Oper} (hp : Pick H (own A n cap t sz cs) R) (h : n ≤ cap → SO rd P N B w0 ops l F H K) : SO rd P N B w0 ops l F H K := fun w hw => h (hw.ownCap hp) w hw
theorem toJ {i : Int} {j : Nat} (h : i = (j : Int)) : i = Int.ofNat j := h
def efin : Fr → List Se → Fr
  | F, [] => F
  | F, s :: S => efin (s.upd F) S

theorem efin_has {a : Act} (hs : a.tmps.size = N.n) (hdf : a.defers = marks N.at_) : ∀ (pre : List Oper) (k : Nat) (F : Fr) (S : List Se), EWalk P N ops p B w0 st nw Hof α k pre F S → (∀ (i : Nat) (s : Se), S[i]? = some s → s.fact a) →
    (∀ t v, F.lookup t = some v → (∀ (i : Nat) (s : Se), S[i]? = some s → s.dst ≠ some t) → a.tmps[t]? = some v) → Has N (efin F S) a := by
  intro pre
  induction pre with
  | nil =>
    intro k F S h _ ho
    simp [EWalk] at h; subst h
    exact ⟨hs, hdf, fun s v e => ho s v e (by simp)⟩
  | cons o pre ih =>
    intro k F S h hfa ho
    cases S with
    | nil => exact h.elim
    | cons s S =>
      have hfa' : ∀ (i : Nat) (s : Se), S[i]? = some s → s.fact a := fun i s hi => hfa (i + 1) s (by simpa using hi)
      have h0 := hfa 0 s rfl
      refine ih _ _ S h.2 hfa' (fun t u e hno => ?_)
      rcases Se.holds_upd e with hh | ⟨e1, e2⟩
      · exact Se.holds_fact hh h0
      · refine ho t u e1 (fun i s hi => ?_)
        cases i with
        | zero => simp at hi; subst hi; exact e2
        | succ i => exact hno i s (by simpa using hi)

theorem eseg_main {S : (Nat → Wt) → List Se} {Q : Exit → Act → World → Prop} {K : Fr → World → Prop} (hd : mixOk l p (p + n) = true) (hn : p + n ≤ l.length) (hst : (st ++ nw.map (·.1)).all (fun i => decide (i < n)) = true) (hW : ∀ α, EWalk P N l.toArray p B w0 st nw Hof α 0 ((l.drop p).take n) F (S α))
    (hQ : ∀ F' a' w', Has N F' a' → K F' w' → Q .normal a' w')
    (hf : ∀ α w', Mem B w0 (Hof α fun j => st.contains j || (nw.lookup j).isSome) w' → RG rd P N l (p + n) (l.drop (p + n)) (efin F (S α)) w' K) :
    ∀ (fuel : Nat) (listed : Array Bool) (β : Nat → Wt) (a : Act) (w : World), InvE B w0 N st nw Hof l p n F S listed β a w → listed.count false = fuel → wpAnyIn (FR rd) 0 P .any l.toArray Q fuel listed a w := by
  have hlen : ∀ α, (S α).length = n := fun α => by rw [ewalk_len (hW α)]; simp; omega
  obtain ⟨hsel, hedge, hpair, hpost⟩ := mixOk_spec hd
  have fin_ : ∀ (fuel : Nat) (listed : Array Bool) (β : Nat → Wt) (a : Act) (w : World), InvE B w0 N st nw Hof l p n F S listed β a w → listed.count false = fuel → (∀ i, i < p + n → listed.getD i false = true) → wpAnyIn (FR rd) 0 P .any l.toArray Q fuel listed a w := by
    intro fuel listed β a w hI hc hall
    have h1 := efin_has hI.size hI.defers _ _ _ _ (hW β) (fun i s hi => hI.facts β Ag.refl i s hi (hall _ (by have := (List.getElem?_eq_some_iff.1 hi).1; rw [hlen] at this; omega))) (fun t v e hno => hI.old t v e (fun i o hin ho _ => by
      obtain ⟨s, hS⟩ : ∃ s, (S β)[i]? = some s := ⟨(S β)[i]'(by rw [hlen]; exact hin), List.getElem?_eq_getElem _⟩
      obtain ⟨o', _, g1, _, g2, _⟩ := ewalk_at (hW β) i _ hS
      have g1 := mseg_at hin g1
      rw [ho] at g1; cases g1
      rw [g2]; exact hno i s hS))
    have he : upE st nw listed p = fun j => st.contains j || (nw.lookup j).isSome := by
      funext j
      unfold upE
      cases hj : (st.contains j || (nw.lookup j).isSome) with
      | false => rfl
      | true =>
        have : j < n := by
          rw [Bool.or_eq_true] at hj
          have hmem : j ∈ st ++ nw.map (·.1) := by
            rcases hj with hj | hj
            · exact List.mem_append_left _ (by simpa using hj)
            · refine List.mem_append_right _ ?_
              have : ∀ nw : Nw, (nw.lookup j).isSome = true → j ∈ nw.map (·.1) := by
                intro nw
                induction nw with
                | nil => intro h; simp at h
                | cons y nw ih =>
                  intro h
                  obtain ⟨k, v⟩ := y
                  rw [List.lookup_cons] at h
                  by_cases hjk : j = k
                  · simp [hjk]
                  · have hb : (j == k) = false := by simpa using hjk
                    rw [hb] at h
                    exact List.mem_cons_of_mem _ (ih h)
              exact this nw hj
          have := List.all_eq_true.1 hst j hmem
          simpa using this
        rw [hall (p + j) (by omega)]; rfl
    refine hf β w (he ▸ hI.mem β Ag.refl) hn rfl Q hQ fuel listed a h1 hI.len (fun i hi => ?_) hc
    by_cases h : i < p + n
    · rw [hall i h]; simpa using h
    · rw [hI.post i (by omega)]; simpa using h
  intro fuel
  induction fuel with
  | zero =>
    intro listed β a w hI hc
    exact fin_ 0 listed β a w hI hc (fun i hi => count0 hc i (by rw [hI.len]; omega))
  | succ fuel ih =>
    intro listed β a w hI hc
    by_cases hall : ∀ i, i < p + n → listed.getD i false = true
    · exact fin_ _ listed β a w hI hc hall
    · refine ⟨fun e => ?_, fun i hi => ?_⟩
      · exfalso
        apply hall
        intro i
        induction i using Nat.strongRecOn with
        | ind i ih2 =>
          intro hin
          cases hli : listed.getD i false with
          | true => rfl
          | false =>
            exfalso
            have hil : i < l.length := by omega
            have hr : i ∈ Region.ready .any l.toArray listed := by
              refine mem_ready.2 ⟨by rw [getD_of_lt (by rw [hI.len]; exact hil) true false]; exact hli, l[i], by simp [hil], fun e he hb => ?_⟩
              have := hedge i l[i] (List.getElem?_eq_getElem hil) e he hb
              exact ih2 e.on this (by omega)
            rw [e] at hr; cases hr
      · obtain ⟨h1, o, ho, hr⟩ := mem_ready.1 hi
        have hil : i < l.length := by simpa using (Array.getElem?_eq_some_iff.1 ho).1
        have hpi : p ≤ i := by
          rcases Nat.lt_or_ge i p with h | h
          · have := hI.pre i h
            rw [getD_of_lt (by rw [hI.len]; exact hil) true false, this] at h1; cases h1
          · exact h
        have hin : i < p + n := by
          rcases Nat.lt_or_ge i (p + n) with h | h
          · exact h
          · exfalso
            exact hall (fun j hj => behind_spec l listed hI.down i o (by simpa using ho) hr j (hpost i j hpi h hil hj))
        obtain ⟨k, rfl⟩ : ∃ k, i = p + k := ⟨i - p, by omega⟩
        exact eseg_op hI hW hn hd hi (by omega) (fun γ a' w' hI' => ih _ γ a' w' hI' (count_set (mem_ready.1 hi).1 hc))

/-- The walk in the text's order. -/
def SE (P : Program) (N : Nx) (B : Nat) (w0 : World) (st : List Nat) (nw : Nw) (Hof : HofT) (α : Nat → Wt) (ops : Array Oper) (p : Nat) (i n : Nat) (l : List Oper) (F : Fr) (K : List Oper → Fr → Prop) : Prop :=
  n ≤ l.length ∧ ∃ S, EWalk P N ops p B w0 st nw Hof α i (l.take n) F S ∧ K (l.drop n) (efin F S)

theorem sg_evt {H : Hp} {KG : Fr → Hp → Prop} (n : Nat) (st : List Nat) (nw : Nw) (Hof : HofT) (hd : mixOk l p (p + n) = true) (hst : (st ++ nw.map (·.1)).all (fun i => decide (i < n)) = true) (h0 : ∀ α, Hof α (fun _ => false) = H)
    (h : ∀ α, SE P N B w0 st nw Hof α l.toArray p 0 n r F (fun r' F' => SG rd P N B w0 l (p + n) r' F' (Hof α fun j => st.contains j || (nw.lookup j).isSome) KG)) : SG rd P N B w0 l p r F H KG := fun w hw hple hr Q hQ fuel listed a ha hsz hl hc => by
  subst hr
  have hn := (h fun _ => (0, none, 0)).1
  obtain ⟨S, hS⟩ := Classical.axiomOfChoice (fun α => (h α).2)
  have hW := fun α => (hS α).1
  have hp : p + n ≤ l.length := by rw [List.length_drop] at hn; omega
  refine eseg_main hd hp hst hW hQ (fun α w' hm => ?_) fuel listed (fun _ => (0, none, 0)) a w ⟨hsz, ha.size, ha.defers, ?_, ?_, ?_, ?_, ?_, ?_⟩ hc
  · have := (hS α).2
    rw [List.drop_drop] at this
    exact this w' hm
  · intro i o hi hli e he hb
    have hil := (List.getElem?_eq_some_iff.1 hi).1
    rw [hl i hil] at hli
    have h2 := (mixOk_spec hd).2.1 i o hi e he hb
    rw [hl e.on (by omega)]
    simp at hli ⊢; omega
  · intro α _
    have : upE st nw listed p = fun _ => false := by
      funext j
      unfold upE
      rcases Nat.lt_or_ge (p + j) l.length with h | h
      · rw [hl _ h]; simp
      · simp [Array.getD, hsz, Nat.not_lt.2 h]
    rw [this, h0]; exact hw
  · intro α _ i s hi hli
    have : i < n := by have := (List.getElem?_eq_some_iff.1 hi).1; rw [ewalk_len (hW α)] at this; simp at this; omega
    rw [hl (p + i) (by omega)] at hli
    exfalso; simp at hli; omega
  · intro t v e _; exact ha.at_ t v e
  · intro i hi; rw [hl i (by omega)]; simpa using hi
  · intro i hi
    rcases Nat.lt_or_ge i l.length with h | h
    · rw [hl i h]; simp; omega
    · simp [Array.getD, hsz, Nat.not_lt.2 h]
end

section
variable {P : Program} {N : Nx} {B i n p : Nat} {w0 w : World} {F : Fr} {ops : Array Oper} {st : List Nat} {nw : Nw} {Hof : HofT} {α : Nat → Wt} {rest : List Oper} {K : List Oper → Fr → Prop} {d : Nat} {ty : TypeId} {pos : String} {af : Array Edge} {g : Option (Nat × Bool)} {bw : Bool}

theorem se_nil {l : List Oper} (h : K l F) : SE P N B w0 st nw Hof α ops p i 0 l F K := ⟨Nat.zero_le _, [], rfl, h⟩
theorem se_op {o : Oper} {s : Se} (ho : OpSe P N ops p B w0 st nw Hof α i F o s) (h : SE P N B w0 st nw Hof α ops p (i + 1) n rest (s.upd F) K) : SE P N B w0 st nw Hof α ops p i (n + 1) (o :: rest) F K := by
  obtain ⟨h0, S, h1, h2⟩ := h
  exact ⟨by simp; omega, s :: S, ⟨ho, h1⟩, h2⟩
theorem se_pure {o : Oper} {b : Bool} {v : Value} (hst : st.contains i = false) (hnw : nw.lookup i = none) (hg : wants ops F o.guard = some b) (hb : b = true) (hd : o.dst = some d) (hdN : d < N.n)
    (hr : ∀ b, PS P F (Mem B w0 (Hof α b)) o v) (h : SE P N B w0 st nw Hof α ops p (i + 1) n rest ((d, v) :: F) K) : SE P N B w0 st nw Hof α ops p i (n + 1) (o :: rest) F K :=
  se_op (s := .fix d v) ⟨⟨hst, hnw⟩, hd, hdN, .inl ⟨by rw [hg, hb], hr⟩⟩ h
theorem se_not {o : Oper} {b : Bool} (hst : st.contains i = false) (hnw : nw.lookup i = none) (hg : wants ops F o.guard = some b) (hb : b = false) (hd : o.dst = some d) (hdN : d < N.n) (h : SE P N B w0 st nw Hof α ops p (i + 1) n rest ((d, undef) :: F) K) : SE P N B w0 st nw Hof α ops p i (n + 1) (o :: rest) F K :=
  se_op (s := .fix d undef) ⟨⟨hst, hnw⟩, hd, hdN, .inr ⟨by rw [hg, hb], rfl⟩⟩ h
theorem se_split {o : Oper} {b : Bool} {gp : Nat × Bool} (_h0 : o.guard = some gp) (_hg : wants ops F o.guard = some b) (h1 : b = true → SE P N B w0 st nw Hof α ops p i n (o :: rest) F K) (h2 : b = false → SE P N B w0 st nw Hof α ops p i n (o :: rest) F K) : SE P N B w0 st nw Hof α ops p i n (o :: rest) F K := by
  cases b
  · exact h2 rfl
  · exact h1 rfl
/-- A store of one cell. -/
theorem se_store {x y : Operand} {t t' : TypeId} {b o : Nat} {v : Value} (cs : (Nat → Bool) → List Value) (hst : st.contains i = true) (hnw : nw.lookup i = none) (hg : wants ops F g = some bw) (hb : bw = true) (hx : evO F x = some (.pointer (some ⟨b, o, none⟩))) (hy : evO F y = some v) (hv : v.oneCell' = true)
    (hS : ∀ w, (sizeOf t).run P w = .ok 1 w) (hu : ∀ u, Upd (Hof α u) (row b t' (cs u)) (row b t' ((cs u).set o v)) (Hof α (setb u i))) (ho : ∀ u, o < (cs u).length)
    (h : SE P N B w0 st nw Hof α ops p (i + 1) n rest F K) : SE P N B w0 st nw Hof α ops p i (n + 1) (⟨none, .store t x y, ty, pos, af, g⟩ :: rest) F K :=
  se_op (s := .sto) ⟨⟨hst, hnw⟩, rfl, by rw [← hb]; exact hg, fun u _ ρ ha w hw => by
    have hk : Blk w b t' (cs u).toArray := (hw.ok _ (hu u).mem).1
    have hB := (hw.ok _ (hu u).mem).2 b rfl
    refine ⟨w.setCell ⟨b, o, none⟩ v, ?_, hw.upd (hu u) (Below.setCell (Below.refl _ _) hB v) (fun k _ hne => Below.heap_setCell _ _ _ _ (fun e => hne (by rw [e]; rfl))) ?_ (fun q hq => .inl hq)⟩
    · have hc : w.cell? ⟨b, o, none⟩ = some ((cs u)[o]'(ho u)) := by rw [hk.cell]; simp [ho u]
      simp [execOp, ha _ _ hx, ha _ _ hy, Instr.storeAt, Instr.sureAddr, run_store1 hv hS hc (hk.frozen o)]
    · have := hk.set_ o v
      show Blk _ b t' ((cs u).set o v).toArray
      simpa using this⟩ h
/-- A new block. -/
theorem se_new {o : Oper} {t : TypeId} {cs : List Value} {mk : Wt → Value} {Hn : Wt → Hp} (hnw : nw.lookup i = some (mk, Hn)) (hHn : ∀ q c, Hn (q, c) = [row q t cs]) (hg : wants ops F o.guard = some bw) (hb : bw = true) (hd : o.dst = some d) (hdN : d < N.n)
    (hr : ∀ ρ : Operand → Value, (∀ x v, evO F x = some v → ρ x = v) → ∀ w, (execOp ρ o).run P w = .ok (.value (mk (w.heap.size, none, 0))) (w.alloc (.cells cs.toArray t)))
    (hs : ∀ b, SubH (Hn (α i) ++ Hof α b) (Hof α (setb b i))) (h : SE P N B w0 st nw Hof α ops p (i + 1) n rest ((d, mk (α i)) :: F) K) (hst : st.contains i = false := by rfl) : SE P N B w0 st nw Hof α ops p i (n + 1) (o :: rest) F K :=
  se_op (s := .new d (mk (α i))) ⟨hst, mk, Hn, hnw, hd, hdN, by rw [hg, hb], rfl, fun b ρ ha w hw => .inl ⟨(w.heap.size, none, 0), _, hr ρ ha w, by rw [hHn]; simpa using (Mem.start w).alloc t cs.toArray⟩, fun b _ => hs b⟩ h
theorem se_alloc {t : TypeId} {z : Value} {cs : List Value} {Hn : Wt → Hp} (hnw : nw.lookup i = some (ptrN, Hn)) (hHn : ∀ q c, Hn (q, c) = [row q t cs]) (hg : wants ops F g = some bw) (hb : bw = true) (hZ : ∀ w, (zeroValue t).run P w = .ok z w) (hz : z.cells.toList = cs) (hN : d < N.n)
    (hs : ∀ b, SubH (Hn (α i) ++ Hof α b) (Hof α (setb b i))) (h : SE P N B w0 st nw Hof α ops p (i + 1) n rest ((d, .pointer (some ⟨(α i).1, 0, none⟩)) :: F) K) (hst : st.contains i = false := by rfl) : SE P N B w0 st nw Hof α ops p i (n + 1) (⟨some d, .alloc t, ty, pos, af, g⟩ :: rest) F K :=
  se_new (cs := cs) hnw hHn hg hb rfl hN (fun ρ _ w => by subst hz; simp [execOp, Instr.alloc, hZ, newVar, newRow, ptrN]) hs h hst
theorem se_slice1 {x : Operand} {t e : TypeId} {sz : Nat} {v : Value} {cs : List Value} {Hn : Wt → Hp} (hnw : nw.lookup i = some (sl1N, Hn)) (hHn : ∀ q c, Hn (q, c) = [row q e cs]) (hg : wants ops F g = some bw) (hb : bw = true) (hx : evO F x = some v) (hok : appOk P t e sz = true) (hvs : v.cells.size = sz) (hz : v.cells.toList = cs) (hN : d < N.n)
    (hs : ∀ b, SubH (Hn (α i) ++ Hof α b) (Hof α (setb b i))) (h : SE P N B w0 st nw Hof α ops p (i + 1) n rest ((d, .slice (some ⟨(α i).1, 0, none⟩) 1 1) :: F) K) (hst : st.contains i = false := by rfl) : SE P N B w0 st nw Hof α ops p i (n + 1) (⟨some d, .buildSlice t 1 #[(0, x)], ty, pos, af, g⟩ :: rest) F K :=
  se_new (cs := cs) hnw hHn hg hb rfl hN (fun ρ ha w => by subst hz; simp [execOp, ha _ _ hx, run_slice1 hok hvs, sl1N]) hs h hst
/-- A call that makes memory. -/
theorem se_callN {f : FuncId} {as_ : Array Operand} {ats : Array TypeId} {vs : List Value} {mk : Wt → Value} {Hn : Wt → Hp} (hnw : nw.lookup i = some (mk, Hn)) (hc : ∀ b w, Mem B w0 (Hof α b) w → Calls P f vs.toArray w fun e w' => ∃ x, e = .returned (mk x) ∧ Mem w.heap.size w (Hn x) w') (hg : wants ops F g = some bw) (hb : bw = true)
    (hvs : as_.toList.map (evO F) = vs.map some) (hf : ∀ args w, (callFunc f args).run P w = .ok (.enter f args) w) (hN : d < N.n)
    (hs : ∀ b, SubH (Hn (α i) ++ Hof α b) (Hof α (setb b i))) (h : SE P N B w0 st nw Hof α ops p (i + 1) n rest ((d, mk (α i)) :: F) K) (hst : st.contains i = false := by rfl) :
    SE P N B w0 st nw Hof α ops p i (n + 1) (⟨some d, .call { callee := .value (.func f), args := as_, argTypes := ats }, ty, pos, af, g⟩ :: rest) F K :=
  se_op (s := .new d (mk (α i))) ⟨hst, mk, Hn, hnw, rfl, hN, by rw [← hb]; exact hg, rfl, fun b ρ ha w hw => .inr ⟨f, vs.toArray, by
    have e : as_.map ρ = vs.toArray := args_eval hvs ha
    have e2 := ha (.func f) _ rfl
    simp [execOp, resolve, invoke, e, e2, hf, go_sem], hc b w hw⟩, fun b _ => hs b⟩ h
/-- What an append yields: the slice's place and room are chosen. -/
def slA (n : Nat) (x : Wt) : Value := .slice x.2.1 n x.2.2
/-- append of one element. -/
theorem se_append1 {x y : Operand} {t e : TypeId} {sz m b cap cap1 : Nat} {A : Option Addr} {xs news : List Value} {Hn : Wt → Hp} (need : List (Nat × Nat)) (hst : st.contains i = true) (hnw : nw.lookup i = some (slA (m + 1), Hn)) (hg : wants ops F g = some bw) (hb : bw = true)
    (hx : evO F x = some (.slice A m cap)) (hy : evO F y = some (.slice (some ⟨b, 0, none⟩) 1 cap1)) (hok : appOk P t e sz = true) (hN : d < N.n)
    (hneed : ∀ z ∈ need, z.1 < i ∧ z.2 ∈ (⟨some d, .call { callee := .builtin .append, args := #[x, y], argTypes := #[t, t] }, ty, pos, af, g⟩ : Oper).looksAt ops ∧ (ops[p + z.1]?).bind (·.dst) = some z.2 ∧ (st.contains z.1 || (nw.lookup z.1).isSome) = true)
    (hu : ∀ u, u i = false → (∀ z ∈ need, u z.1 = true) → ∀ A' cap', Upd (Hof α u) (own A m cap e sz xs) (own A' (m + 1) cap' e sz (xs ++ news)) (Hof (fun j => if j = i then (0, A', cap') else α j) (setb u i)))
    (hnews : ∀ u, u i = false → (∀ z ∈ need, u z.1 = true) → Rw B w0 (Hof α u) b 0 news) (hcl : news.length = sz) (h1 : news.all Value.oneCell' = true) (hlen : m + 1 ≤ 4294967296)
    (h : SE P N B w0 st nw Hof α ops p (i + 1) n rest ((d, .slice (α i).2.1 (m + 1) (α i).2.2) :: F) K) :
    SE P N B w0 st nw Hof α ops p i (n + 1) (⟨some d, .call { callee := .builtin .append, args := #[x, y], argTypes := #[t, t] }, ty, pos, af, g⟩ :: rest) F K :=
  se_op (s := .gen d (slA (m + 1) (α i))) ⟨hst, slA (m + 1), Hn, hnw, rfl, hN, by rw [← hb]; exact hg, rfl, fun x y h1 h2 h3 => by
    obtain ⟨x1, x2, x3⟩ := x
    obtain ⟨y1, y2, y3⟩ := y
    simp only [slA] at h3
    injection h3 with e1 _ e2
    simp only at h1 h2
    subst e1 e2 h1 h2; rfl, need, hneed, fun u hu0 hun ρ ha w hw => by
    obtain ⟨hu', ⟨hp, hp2⟩, j, z, hi, hz, hs, hzs, hby⟩ := appOk_spec hok
    have hup := hu u hu0 hun
    have hk : w.ownsRow 0 e sz (.slice A m cap) m xs := (hw.ok _ (hup none 0).mem).1
    have hkB := (hw.ok _ (hup none 0).mem).2
    obtain ⟨g', cap', w', hr, h2, h3, h4, h5⟩ := run_append_lies (P := P) w t ty 0 e j z sz j.bytes hu' hi hz hs rfl hzs hp _ m _ hk ⟨b, 0, none⟩ 1 cap1 news (by omega) (fun j v hv => by rw [add_place]; exact hnews u hu0 hun w hw j v hv) (List.all_eq_true.1 h1) (by omega) (by simp only [maxLen]; omega)
      (Nat.le_trans (Nat.mul_le_mul_right _ hlen) hby) (Nat.zero_le _) _ rfl
    have hfoot : (Value.slice A m cap).ownBlock = A.map (·.block) := by cases A <;> rfl
    refine ⟨(0, some ⟨g', 0, none⟩, cap'), w', rfl, ?_, hw.upd (hup _ _) ?_ (fun k hk hne => ?_) h2 ?_⟩
    · simp [execOp, resolve, invoke, builtin, ha _ _ hx, ha _ _ hy, hr, slA]
    · refine (Below.refl B w).grown h3 hw.le (fun k hk => ?_)
      rw [hfoot] at hk; exact hkB k hk
    · exact h3.block k hk (by rw [hfoot]; exact fun e => hne e.symm)
    · rintro q hq
      cases hq
      rw [hfoot] at h4
      rcases h4 with h4 | h4
      · exact .inl h4
      · exact .inr (by rw [h4]; exact Nat.le_refl _)⟩ h
end
end Go.Proofs.Ytdoihebekbfnbaa
