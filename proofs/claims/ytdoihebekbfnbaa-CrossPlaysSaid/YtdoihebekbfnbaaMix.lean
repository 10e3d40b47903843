/- A part of a region that draws its order, with stores into what none of the others of the part looks at: the memory as a function of which have come up. -/
import Derived.Test.YtdoihebekbfnbaaOpc
namespace Go.Proofs.Ytdoihebekbfnbaa
open Go.RowKit

def mixPair (ops : Array Oper) (oi oj : Oper) (after : Bool) : Bool :=
  (oi.dst.isNone || oi.dst != oj.dst) && (after || (match oj.dst with
   | some d => !(oi.looksAt ops).contains d
   | none => true) && (match oi.dst with
   | some d => !(oj.looksAt ops).contains d
   | none => true))

def mixOk (l : List Oper) (p q : Nat) : Bool :=
  let b := behind l
  let ops := l.toArray
  Region.noSelect ops && (List.range l.length).all fun i =>
    match l[i]? with
    | none => false
    | some oi =>
      oi.after.toList.all (fun e => !Region.binds .any e || decide (e.on < i)) &&
      if i < p then true else if i < q then (List.range i).all fun j => decide (j < p) || match l[j]? with
        | none => false
        | some oj => mixPair ops oi oj ((b.getD i 0).testBit j)
      else (List.range q).all fun j => (b.getD i 0).testBit j

/-- What an operation does: a fixed value, or a store. -/
inductive Sm where
  | fix (d : Nat) (v : Value)
  | sto
def Sm.dst : Sm → Option Nat
  | .fix d _ => some d
  | .sto => none
def Sm.upd (F : Fr) : Sm → Fr
  | .fix d v => (d, v) :: F
  | .sto => F

def setb (b : Nat → Bool) (i : Nat) : Nat → Bool := fun j => if j = i then true else b j

section
variable {rd : Option Nat} {P : Program} {N : Nx} {B p q : Nat} {w0 w : World} {l r : List Oper} {F : Fr} {S : List Sm} {n : Nat} {ops : Array Oper} {st : List Nat} {Hof : (Nat → Bool) → Hp}

theorem mixOk_spec (hd : mixOk l p q = true) : Region.noSelect l.toArray = true ∧ (∀ i o, l[i]? = some o → ∀ e ∈ o.after, Region.binds .any e = true → e.on < i) ∧
    (∀ i j oi oj, p ≤ j → i < q → j < i → l[i]? = some oi → l[j]? = some oj → mixPair l.toArray oi oj (((behind l).getD i 0).testBit j) = true) ∧
    (∀ i j, p ≤ i → q ≤ i → i < l.length → j < q → ((behind l).getD i 0).testBit j = true) := by
  simp only [mixOk, Bool.and_eq_true, List.all_eq_true, List.mem_range] at hd
  obtain ⟨h0, h1⟩ := hd
  refine ⟨h0, fun i o ho e he hb => ?_, fun i j oi oj hpj hin hji hi hj => ?_, fun i j hpi hni hil hji => ?_⟩
  · have := h1 i (List.getElem?_eq_some_iff.1 ho).1
    rw [ho] at this
    simp only [Bool.and_eq_true, List.all_eq_true] at this
    have := this.1 e (by simpa using he)
    simpa [hb] using this
  · have := h1 i (List.getElem?_eq_some_iff.1 hi).1
    rw [hi] at this
    simp only [Bool.and_eq_true, if_neg (show ¬ i < p by omega), if_pos hin, List.all_eq_true, List.mem_range, Bool.or_eq_true, decide_eq_true_eq] at this
    have := (this.2 j hji).resolve_left (by omega)
    rwa [hj] at this
  · have := h1 i hil
    rw [List.getElem?_eq_getElem hil] at this
    simp only [Bool.and_eq_true, if_neg (show ¬ i < p by omega), if_neg (Nat.not_lt.2 hni), List.all_eq_true, List.mem_range] at this
    exact this.2 j hji

/-- A fixed value in every world of the part; a call makes new memory alone. -/
def PM (P : Program) (F : Fr) (C : World → Prop) (o : Oper) (v : Value) : Prop :=
  ∀ ρ : Operand → Value, (∀ x v, evO F x = some v → ρ x = v) → ∀ w, C w → (execOp ρ o).run P w = .ok (.value v) w ∨ ∃ f args, (execOp ρ o).run P w = .ok (.enter f args) w ∧ Calls P f args w fun e w' => e = .returned v ∧ Below w.heap.size w w'
/-- A store. -/
def PU (P : Program) (F : Fr) (B : Nat) (w0 : World) (o : Oper) (H H' : Hp) : Prop :=
  ∀ ρ : Operand → Value, (∀ x v, evO F x = some v → ρ x = v) → ∀ w, Mem B w0 H w → ∃ w', (execOp ρ o).run P w = .ok .skip w' ∧ Mem B w0 H' w'

def OpSm (P : Program) (N : Nx) (ops : Array Oper) (B : Nat) (w0 : World) (st : List Nat) (Hof : (Nat → Bool) → Hp) (i : Nat) (F : Fr) (o : Oper) : Sm → Prop
  | .fix d v => st.contains i = false ∧ o.dst = some d ∧ d < N.n ∧ ((wants ops F o.guard = some true ∧ ∀ b, PM P F (Mem B w0 (Hof b)) o v) ∨ (wants ops F o.guard = some false ∧ v = undef))
  | .sto => st.contains i = true ∧ o.dst = none ∧ wants ops F o.guard = some true ∧ ∀ b, b i = false → PU P F B w0 o (Hof b) (Hof (setb b i))

def MWalk (P : Program) (N : Nx) (ops : Array Oper) (B : Nat) (w0 : World) (st : List Nat) (Hof : (Nat → Bool) → Hp) : Nat → List Oper → Fr → List Sm → Prop
  | _, [], _, S => S = []
  | _, _ :: _, _, [] => False
  | i, o :: l, F, s :: S => OpSm P N ops B w0 st Hof i F o s ∧ MWalk P N ops B w0 st Hof (i + 1) l (s.upd F) S

theorem mwalk_len : ∀ {pre : List Oper} {k : Nat} {F : Fr} {S : List Sm}, MWalk P N ops B w0 st Hof k pre F S → S.length = pre.length
  | [], _, _, _, h => by simp [MWalk] at h; subst h; rfl
  | _ :: _, _, _, [], h => h.elim
  | _ :: _, _, _, _ :: _, h => by simp [mwalk_len h.2]

theorem mwalk_at : ∀ {pre : List Oper} {k : Nat} {F : Fr} {S : List Sm} (_ : MWalk P N ops B w0 st Hof k pre F S) (i : Nat) (s : Sm), S[i]? = some s →
    ∃ o Fi, pre[i]? = some o ∧ OpSm P N ops B w0 st Hof (k + i) Fi o s ∧ o.dst = s.dst ∧
      ∀ t v, Fi.lookup t = some v → (∃ j, j < i ∧ S[j]? = some (.fix t v)) ∨ (F.lookup t = some v ∧ ∀ j, j < i → ∀ sp, S[j]? = some sp → sp.dst ≠ some t) := by
  intro pre
  induction pre with
  | nil => intro k F S h i s hs; simp [MWalk] at h; subst h; simp at hs
  | cons o pre ih =>
    intro k F S h i s hs
    cases S with
    | nil => exact h.elim
    | cons s0 S =>
      cases i with
      | zero =>
        simp at hs; subst hs
        refine ⟨o, F, rfl, h.1, ?_, fun t v e => .inr ⟨e, fun j hj => by omega⟩⟩
        cases s0 <;> exact h.1.2.1
      | succ i =>
        obtain ⟨o', Fi, h1, h2, h3, h5⟩ := ih h.2 i s (by simpa using hs)
        refine ⟨o', Fi, by simpa using h1, by rw [show k + (i + 1) = k + 1 + i by omega]; exact h2, h3, fun t v e => ?_⟩
        rcases h5 t v e with ⟨j, hj, hS⟩ | ⟨e1, e2⟩
        · exact .inl ⟨j + 1, by omega, by simpa using hS⟩
        · cases s0 with
          | fix d u =>
            simp only [Sm.upd] at e1
            rw [List.lookup_cons] at e1
            by_cases ht : t = d
            · subst ht; simp at e1; subst e1; exact .inl ⟨0, by omega, rfl⟩
            · have hb : (t == d) = false := by simpa using ht
              rw [hb] at e1
              refine .inr ⟨e1, fun j hj sp hsp => ?_⟩
              cases j with
              | zero => simp at hsp; subst hsp; simp only [Sm.dst]; exact fun e => ht (Option.some.inj e).symm
              | succ j => exact e2 j (by omega) sp (by simpa using hsp)
          | sto =>
            simp only [Sm.upd] at e1
            refine .inr ⟨e1, fun j hj sp hsp => ?_⟩
            cases j with
            | zero => simp at hsp; subst hsp; simp [Sm.dst]
            | succ j => exact e2 j (by omega) sp (by simpa using hsp)

def Sm.fact (a : Act) : Sm → Prop
  | .fix d v => a.tmps[d]? = some v
  | .sto => True

/-- Which have come up. -/
def upOf (st : List Nat) (listed : Array Bool) (p : Nat) : Nat → Bool := fun j => st.contains j && listed.getD (p + j) false

structure InvM (B : Nat) (w0 : World) (N : Nx) (st : List Nat) (Hof : (Nat → Bool) → Hp) (l : List Oper) (p q : Nat) (F : Fr) (S : List Sm) (listed : Array Bool) (a : Act) (w : World) : Prop where
  len : listed.size = l.length
  size : a.tmps.size = N.n
  defers : a.defers = marks N.at_
  down : Down l listed
  mem : Mem B w0 (Hof (upOf st listed p)) w
  facts : ∀ i s, S[i]? = some s → listed.getD (p + i) false = true → s.fact a
  old : ∀ t v, F.lookup t = some v → (∀ i s, S[i]? = some s → listed.getD (p + i) false = true → s.dst ≠ some t) → a.tmps[t]? = some v
  pre : ∀ i, i < p → listed.getD i false = true
  post : ∀ i, q ≤ i → listed.getD i false = false

theorem mseg_at {i : Nat} {o : Oper} (hi : i < n) (h : ((l.drop p).take n)[i]? = some o) : l[p + i]? = some o := by
  rw [List.getElem?_take_of_lt hi, List.getElem?_drop] at h; exact h

theorem upOf_set {listed : Array Bool} {i : Nat} (h : p + i < listed.size) (hs : st.contains i = true) : upOf st (listed.setIfInBounds (p + i) true) p = setb (upOf st listed p) i := by
  funext j
  unfold upOf setb
  by_cases hj : j = i
  · subst hj; rw [if_pos rfl, hs]; simp [h]
  · rw [if_neg hj, getD_set_ne false (by omega)]
theorem upOf_fix {listed : Array Bool} {i : Nat} (hs : st.contains i = false) : upOf st (listed.setIfInBounds (p + i) true) p = upOf st listed p := by
  funext j
  unfold upOf
  by_cases hj : j = i
  · subst hj; rw [hs]; rfl
  · rw [getD_set_ne false (by omega)]

theorem InvM.step {listed : Array Bool} {a : Act} {i : Nat} {o : Oper} {s : Sm} {u : Value} {w' : World} (hI : InvM B w0 N st Hof l p (p + n) F S listed a w) (hW : MWalk P N ops B w0 st Hof 0 ((l.drop p).take n) F S) (hn : p + n ≤ l.length) (hd : mixOk l p (p + n) = true)
    (hS : S[i]? = some s) (ho : l[p + i]? = some o) (hr : ∀ e ∈ o.after, Region.binds .any e = true → listed.getD e.on false = true)
    (hm : Mem B w0 (Hof (upOf st (listed.setIfInBounds (p + i) true) p)) w') (hf : s.fact (a.put s.dst u)) : InvM B w0 N st Hof l p (p + n) F S (listed.setIfInBounds (p + i) true) (a.put s.dst u) w' := by
  have hlen : S.length = n := by rw [mwalk_len hW]; simp; omega
  obtain ⟨hs, hedge, hpair, hpost⟩ := mixOk_spec hd
  have hin : i < n := by have := (List.getElem?_eq_some_iff.1 hS).1; omega
  have hne : ∀ j sj d, S[j]? = some sj → j ≠ i → sj.dst = some d → s.dst ≠ some d := by
    intro j sj d hj hji hdj hds
    have hjn : j < n := by have := (List.getElem?_eq_some_iff.1 hj).1; omega
    obtain ⟨oj, _, h1, _, h2, _⟩ := mwalk_at hW j sj hj
    obtain ⟨oi, _, h3, _, h4, _⟩ := mwalk_at hW i s hS
    have h1 := mseg_at hjn h1
    have h3 := mseg_at hin h3
    rcases Nat.lt_or_gt_of_ne hji with h | h
    · have := hpair (p + i) (p + j) oi oj (by omega) (by omega) (by omega) h3 h1
      simp only [mixPair, Bool.and_eq_true] at this
      have := this.1
      rw [h2, h4, hdj, hds] at this
      simp at this
    · have := hpair (p + j) (p + i) oj oi (by omega) (by omega) (by omega) h1 h3
      simp only [mixPair, Bool.and_eq_true] at this
      have := this.1
      rw [h2, h4, hdj, hds] at this
      simp at this
  have hkeep : ∀ t, s.dst ≠ some t → (a.put s.dst u).tmps[t]? = a.tmps[t]? := fun t ht => by
    cases hsd : s.dst with
    | none => simp [Act.put]
    | some d =>
      have : d ≠ t := fun e => ht (by rw [hsd, e])
      simp [Act.put, Array.getElem?_setIfInBounds_ne this]
  refine ⟨by simp [hI.len], ?_, ?_, ?_, hm, ?_, ?_, ?_, ?_⟩
  · cases s.dst <;> simp [Act.put, hI.size]
  · cases s.dst <;> simp [Act.put, hI.defers]
  · intro j oj hj hlj e he hb
    rcases getD_set' hlj with rfl | hlj
    · rw [ho] at hj; cases hj
      exact getD_set_true (hr e he hb)
    · exact getD_set_true (hI.down j oj hj hlj e he hb)
  · intro j sj hj hlj
    by_cases hji : j = i
    · subst hji; rw [hS] at hj; cases hj; exact hf
    · rcases getD_set' hlj with h | hlj
      · omega
      · have h0 := hI.facts j sj hj hlj
        cases sj with
        | fix d v => simp only [Sm.fact] at h0 ⊢; rw [hkeep d (hne j _ d hj hji rfl)]; exact h0
        | sto => trivial
  · intro t v e hno
    have ht : s.dst ≠ some t := hno i s hS (by simp [hI.len]; omega)
    rw [hkeep t ht]
    exact hI.old t v e (fun j sj hj hlj => hno j sj hj (getD_set_true hlj))
  · intro j hj
    exact getD_set_true (hI.pre j hj)
  · intro j hj
    rw [getD_set_ne false (by omega)]
    exact hI.post j hj

theorem mseg_op {listed : Array Bool} {a : Act} {i : Nat} {Q : Exit → Act → World → Prop} {K : Act → World → Prop} (hI : InvM B w0 N st Hof l p (p + n) F S listed a w) (hW : MWalk P N l.toArray B w0 st Hof 0 ((l.drop p).take n) F S) (hn : p + n ≤ l.length) (hd : mixOk l p (p + n) = true)
    (hi : p + i ∈ Region.ready .any l.toArray listed) (hin : i < n)
    (hK : ∀ a' w', InvM B w0 N st Hof l p (p + n) F S (listed.setIfInBounds (p + i) true) a' w' → K a' w') : wpOpIn (FR rd) 0 P l.toArray Q (p + i) K a w := by
  have hlen : S.length = n := by rw [mwalk_len hW]; simp; omega
  obtain ⟨hsel, hedge, hpair, hpost⟩ := mixOk_spec hd
  obtain ⟨hun, o, ho, hr⟩ := mem_ready.1 hi
  have ho' : l[p + i]? = some o := by simpa using ho
  obtain ⟨s, hS⟩ : ∃ s, S[i]? = some s := ⟨S[i]'(by omega), List.getElem?_eq_getElem _⟩
  obtain ⟨o2, Fi, h1, h2, h3, h5⟩ := mwalk_at hW i s hS
  have h1 := mseg_at hin h1
  rw [ho'] at h1
  cases h1
  have hlt : p + i < listed.size := by rw [hI.len]; exact (List.getElem?_eq_some_iff.1 ho').1
  have hunf : listed.getD (p + i) false = false := by rw [getD_of_lt hlt false true]; exact hun
  have agree : ∀ t ∈ o.looksAt l.toArray, ∀ v, Fi.lookup t = some v → a.tmps[t]? = some v := by
    intro t ht v e
    rcases h5 t v e with ⟨j, hj, hSj⟩ | ⟨e1, e2⟩
    · obtain ⟨oj, _, g1, _, g2, _⟩ := mwalk_at hW j _ hSj
      have g1 := mseg_at (by omega) g1
      have hp := hpair (p + i) (p + j) o oj (by omega) (by omega) (by omega) ho' g1
      simp only [mixPair, Bool.and_eq_true, Bool.or_eq_true] at hp
      have hl : listed.getD (p + j) false = true := by
        rcases hp.2 with hp | hp
        · exact behind_spec l listed hI.down (p + i) o ho' hr (p + j) hp
        · have := hp.1
          rw [g2] at this
          simp [Sm.dst] at this
          exact (this ht).elim
      exact hI.facts j _ hSj hl
    · refine hI.old t v e1 (fun j sj hj hlj hdj => ?_)
      have hjn : j < n := by have := (List.getElem?_eq_some_iff.1 hj).1; omega
      rcases Nat.lt_trichotomy j i with h | h | h
      · exact e2 j h sj hj hdj
      · subst h; rw [hlj] at hunf; cases hunf
      · obtain ⟨oj, _, g1, _, g2, _⟩ := mwalk_at hW j sj hj
        have g1 := mseg_at hjn g1
        have hp := hpair (p + j) (p + i) oj o (by omega) (by omega) (by omega) g1 ho'
        simp only [mixPair, Bool.and_eq_true, Bool.or_eq_true] at hp
        rcases hp.2 with hp | hp
        · have := behind_spec l listed hI.down (p + j) oj g1 (hI.down (p + j) oj g1 hlj) (p + i) hp
          rw [this] at hunf; cases hunf
        · have := hp.2
          rw [g2, hdj] at this
          simp at this
          exact this ht
  have hrun : ∃ ρ : Operand → Value, (∀ x v, evO Fi x = some v → ρ x = v) ∧ execOp a.eval o = execOp ρ o := by
    refine ⟨fun x => (evO Fi x).getD (a.eval x), fun x v e => by simp [e], ?_⟩
    refine execOp_congr o (fun cs b => Region.noSelect_spec hsel (p + i) o cs b ho) (fun x hx => ?_)
    cases x with
    | tmp t =>
      cases e : Fi.lookup t with
      | none => simp [evO, e]
      | some v =>
        have := agree t (List.mem_append_left _ (List.mem_filterMap.2 ⟨.tmp t, by simpa using hx, rfl⟩)) v e
        simp [evO, e, Act.eval, Array.getD_eq_getD_getElem?, this]
    | const u => simp [evO, Act.eval]
    | global g => simp [evO, Act.eval]
    | func f => simp [evO, Act.eval]
  obtain ⟨ρ, hρ, hex⟩ := hrun
  have done : ∀ u w', Mem B w0 (Hof (upOf st (listed.setIfInBounds (p + i) true) p)) w' → s.fact (a.put s.dst u) → K (a.put o.dst u) w' := fun u w' hw hf => by
    rw [h3]; exact hK _ _ (hI.step hW hn hd hS ho' hr hw hf)
  unfold wpOpIn
  simp only [ho]
  rw [Nat.zero_add] at h2
  cases s with
  | fix d v =>
    have hsame := upOf_fix (p := p) (listed := listed) h2.1
    obtain ⟨_, h2⟩ := h2
    have hput : (a.put (some d) v).tmps[d]? = some v := by
      have : d < a.tmps.size := by rw [hI.size]; exact h2.2.1
      simp [Act.put, this]
    rcases h2.2.2 with ⟨hg, hp⟩ | ⟨hg, rfl⟩
    · rw [if_pos (wants_on agree hg)]
      refine ⟨fun _ _ => trivial, ?_⟩
      rcases hp (upOf st listed p) ρ hρ w hI.mem with hv | ⟨f, args, hv, hc⟩
      · rw [semAt_of _ (hex ▸ hv) (by simp), Oper.uponIn_value]; exact done v w (by rw [hsame]; exact hI.mem) hput
      · rw [semAt_of _ (hex ▸ hv) (by simp), Oper.uponIn_enter]
        refine ⟨fun h => by simp [FR, Fence.wide] at h, callsIn_of (hc.mono ?_)⟩
        rintro e w' ⟨rfl, hb⟩
        exact done v w' (by rw [hsame]; exact hI.mem.keep hb) hput
    · rw [if_neg (by rw [wants_on agree hg]; simp)]
      exact ⟨fun _ _ => trivial, done _ w (by rw [hsame]; exact hI.mem) hput⟩
  | sto =>
    obtain ⟨hst, hd0, hg, hu⟩ := h2
    rw [if_pos (wants_on agree hg)]
    refine ⟨fun _ _ => trivial, ?_⟩
    obtain ⟨w', hv, hm⟩ := hu (upOf st listed p) (by unfold upOf; rw [hunf, Bool.and_false]) ρ hρ w hI.mem
    rw [semAt_of _ (hex ▸ hv) (by simp), Oper.uponIn_skip]
    have hk := done undef w' (by rw [upOf_set hlt hst]; exact hm) trivial
    rw [hd0] at hk ⊢
    exact hk

def mfin : Fr → List Sm → Fr
  | F, [] => F
  | F, s :: S => mfin (s.upd F) S

theorem mfin_has {a : Act} (hs : a.tmps.size = N.n) (hdf : a.defers = marks N.at_) : ∀ (pre : List Oper) (k : Nat) (F : Fr) (S : List Sm), MWalk P N ops B w0 st Hof k pre F S → (∀ (i : Nat) (s : Sm), S[i]? = some s → s.fact a) →
    (∀ t v, F.lookup t = some v → (∀ (i : Nat) (s : Sm), S[i]? = some s → s.dst ≠ some t) → a.tmps[t]? = some v) → Has N (mfin F S) a := by
  intro pre
  induction pre with
  | nil =>
    intro k F S h _ ho
    simp [MWalk] at h; subst h
    exact ⟨hs, hdf, fun s v e => ho s v e (by simp)⟩
  | cons o pre ih =>
    intro k F S h hfa ho
    cases S with
    | nil => exact h.elim
    | cons s S =>
      have hfa' : ∀ (i : Nat) (s : Sm), S[i]? = some s → s.fact a := fun i s hi => hfa (i + 1) s (by simpa using hi)
      have h0 := hfa 0 s rfl
      refine ih _ _ S h.2 hfa' (fun t u e hno => ?_)
      cases s with
      | fix d v =>
        simp only [Sm.upd, List.lookup_cons] at e
        by_cases ht : t = d
        · subst ht; simp at e; subst e; exact h0
        · have hb : (t == d) = false := by simpa using ht
          rw [hb] at e
          refine ho t u e (fun i s hi => ?_)
          cases i with
          | zero => simp at hi; subst hi; simp only [Sm.dst]; exact fun e => ht (Option.some.inj e).symm
          | succ i => exact hno i s (by simpa using hi)
      | sto =>
        refine ho t u e (fun i s hi => ?_)
        cases i with
        | zero => simp at hi; subst hi; simp [Sm.dst]
        | succ i => exact hno i s (by simpa using hi)

theorem mseg_main {Q : Exit → Act → World → Prop} {K : Fr → World → Prop} (hd : mixOk l p (p + n) = true) (hn : p + n ≤ l.length) (hst : st.all (fun i => decide (i < n)) = true) (hW : MWalk P N l.toArray B w0 st Hof 0 ((l.drop p).take n) F S)
    (hQ : ∀ F' a' w', Has N F' a' → K F' w' → Q .normal a' w')
    (hf : ∀ w', Mem B w0 (Hof fun j => st.contains j) w' → RG rd P N l (p + n) (l.drop (p + n)) (mfin F S) w' K) :
    ∀ (fuel : Nat) (listed : Array Bool) (a : Act) (w : World), InvM B w0 N st Hof l p (p + n) F S listed a w → listed.count false = fuel → wpAnyIn (FR rd) 0 P .any l.toArray Q fuel listed a w := by
  have hlen : S.length = n := by rw [mwalk_len hW]; simp; omega
  obtain ⟨hsel, hedge, hpair, hpost⟩ := mixOk_spec hd
  have fin_ : ∀ (fuel : Nat) (listed : Array Bool) (a : Act) (w : World), InvM B w0 N st Hof l p (p + n) F S listed a w → listed.count false = fuel → (∀ i, i < p + n → listed.getD i false = true) → wpAnyIn (FR rd) 0 P .any l.toArray Q fuel listed a w := by
    intro fuel listed a w hI hc hall
    have h1 := mfin_has hI.size hI.defers _ _ _ _ hW (fun i s hi => hI.facts i s hi (hall _ (by have := (List.getElem?_eq_some_iff.1 hi).1; omega))) (fun t v e hno => hI.old t v e (fun i s hi _ => hno i s hi))
    have he : upOf st listed p = fun j => st.contains j := by
      funext j
      unfold upOf
      cases hj : st.contains j with
      | false => rfl
      | true =>
        have : j < n := by
          have := List.all_eq_true.1 hst j (by simpa using hj)
          simpa using this
        rw [hall (p + j) (by omega)]; rfl
    refine hf w (he ▸ hI.mem) hn rfl Q hQ fuel listed a h1 hI.len (fun i hi => ?_) hc
    by_cases h : i < p + n
    · rw [hall i h]; simpa using h
    · rw [hI.post i (by omega)]; simpa using h
  intro fuel
  induction fuel with
  | zero =>
    intro listed a w hI hc
    exact fin_ 0 listed a w hI hc (fun i hi => count0 hc i (by rw [hI.len]; omega))
  | succ fuel ih =>
    intro listed a w hI hc
    by_cases hall : ∀ i, i < p + n → listed.getD i false = true
    · exact fin_ _ listed a w hI hc hall
    · refine ⟨fun e => ?_, fun i hi => ?_⟩
      · exfalso
        apply hall
        intro i
        induction i using Nat.strongRecOn with
        | ind i ih2 =>
          intro hin
          cases hli : listed.getD i false with
          | true => rfl
          | false =>
            exfalso
            have hil : i < l.length := by omega
            have hr : i ∈ Region.ready .any l.toArray listed := by
              refine mem_ready.2 ⟨by rw [getD_of_lt (by rw [hI.len]; exact hil) true false]; exact hli, l[i], by simp [hil], fun e he hb => ?_⟩
              have := hedge i l[i] (List.getElem?_eq_getElem hil) e he hb
              exact ih2 e.on this (by omega)
            rw [e] at hr; cases hr
      · obtain ⟨h1, o, ho, hr⟩ := mem_ready.1 hi
        have hil : i < l.length := by simpa using (Array.getElem?_eq_some_iff.1 ho).1
        have hpi : p ≤ i := by
          rcases Nat.lt_or_ge i p with h | h
          · have := hI.pre i h
            rw [getD_of_lt (by rw [hI.len]; exact hil) true false, this] at h1; cases h1
          · exact h
        have hin : i < p + n := by
          rcases Nat.lt_or_ge i (p + n) with h | h
          · exact h
          · exfalso
            exact hall (fun j hj => behind_spec l listed hI.down i o (by simpa using ho) hr j (hpost i j hpi h hil hj))
        obtain ⟨k, rfl⟩ : ∃ k, i = p + k := ⟨i - p, by omega⟩
        exact mseg_op hI hW hn hd hi (by omega) (fun a' w' hI' => ih _ a' w' hI' (count_set (mem_ready.1 hi).1 hc))

/-- The walk in the text's order. -/
def SM (P : Program) (N : Nx) (B : Nat) (w0 : World) (st : List Nat) (Hof : (Nat → Bool) → Hp) (ops : Array Oper) (i n : Nat) (l : List Oper) (F : Fr) (K : List Oper → Fr → Prop) : Prop :=
  n ≤ l.length ∧ ∃ S, MWalk P N ops B w0 st Hof i (l.take n) F S ∧ K (l.drop n) (mfin F S)

theorem sg_mix {H H' : Hp} {KG : Fr → Hp → Prop} (n : Nat) (st : List Nat) (Hof : (Nat → Bool) → Hp) (hd : mixOk l p (p + n) = true) (hst : st.all (fun i => decide (i < n)) = true) (h0 : Hof (fun _ => false) = H) (h1 : Hof (fun j => st.contains j) = H')
    (h : SM P N B w0 st Hof l.toArray 0 n r F (fun r' F' => SG rd P N B w0 l (p + n) r' F' H' KG)) : SG rd P N B w0 l p r F H KG := fun w hw hple hr Q hQ fuel listed a ha hsz hl hc => by
  subst hr
  obtain ⟨hn, S, hW, hf⟩ := h
  rw [List.drop_drop] at hf
  have hp : p + n ≤ l.length := by rw [List.length_drop] at hn; omega
  refine mseg_main hd hp hst hW hQ (fun w' hm => hf w' (h1 ▸ hm)) fuel listed a w ⟨hsz, ha.size, ha.defers, ?_, ?_, ?_, ?_, ?_, ?_⟩ hc
  · intro i o hi hli e he hb
    have hil := (List.getElem?_eq_some_iff.1 hi).1
    rw [hl i hil] at hli
    have h2 := (mixOk_spec hd).2.1 i o hi e he hb
    rw [hl e.on (by omega)]
    simp at hli ⊢; omega
  · have : upOf st listed p = fun _ => false := by
      funext j
      unfold upOf
      rcases Nat.lt_or_ge (p + j) l.length with h | h
      · rw [hl _ h]; simp
      · simp [Array.getD, hsz, Nat.not_lt.2 h]
    rw [this, h0]; exact hw
  · intro i s hi hli
    have : i < n := by have := (List.getElem?_eq_some_iff.1 hi).1; rw [mwalk_len hW] at this; simp at this; omega
    rw [hl (p + i) (by omega)] at hli
    exfalso; simp at hli; omega
  · intro t v e _; exact ha.at_ t v e
  · intro i hi; rw [hl i (by omega)]; simpa using hi
  · intro i hi
    rcases Nat.lt_or_ge i l.length with h | h
    · rw [hl i h]; simp; omega
    · simp [Array.getD, hsz, Nat.not_lt.2 h]
end

section
variable {P : Program} {N : Nx} {B i n : Nat} {w0 w : World} {F : Fr} {ops : Array Oper} {st : List Nat} {Hof : (Nat → Bool) → Hp} {rest : List Oper} {K : List Oper → Fr → Prop} {d : Nat} {ty : TypeId} {pos : String} {af : Array Edge} {g : Option (Nat × Bool)} {bw : Bool}

theorem sm_nil {l : List Oper} (h : K l F) : SM P N B w0 st Hof ops i 0 l F K := ⟨Nat.zero_le _, [], rfl, h⟩
theorem sm_op {o : Oper} {s : Sm} (ho : OpSm P N ops B w0 st Hof i F o s) (h : SM P N B w0 st Hof ops (i + 1) n rest (s.upd F) K) : SM P N B w0 st Hof ops i (n + 1) (o :: rest) F K := by
  obtain ⟨h0, S, h1, h2⟩ := h
  exact ⟨by simp; omega, s :: S, ⟨ho, h1⟩, h2⟩
theorem sm_pure {o : Oper} {b : Bool} {v : Value} (hst : st.contains i = false) (hg : wants ops F o.guard = some b) (hb : b = true) (hd : o.dst = some d) (hdN : d < N.n)
    (hr : ∀ b, PS P F (Mem B w0 (Hof b)) o v) (h : SM P N B w0 st Hof ops (i + 1) n rest ((d, v) :: F) K) : SM P N B w0 st Hof ops i (n + 1) (o :: rest) F K :=
  sm_op (s := .fix d v) ⟨hst, hd, hdN, .inl ⟨by rw [hg, hb], fun b ρ h w hw => .inl (hr b ρ h w hw)⟩⟩ h
theorem sm_not {o : Oper} {b : Bool} (hst : st.contains i = false) (hg : wants ops F o.guard = some b) (hb : b = false) (hd : o.dst = some d) (hdN : d < N.n) (h : SM P N B w0 st Hof ops (i + 1) n rest ((d, undef) :: F) K) : SM P N B w0 st Hof ops i (n + 1) (o :: rest) F K :=
  sm_op (s := .fix d undef) ⟨hst, hd, hdN, .inr ⟨by rw [hg, hb], rfl⟩⟩ h
/-- A store of one cell. -/
theorem sm_store {x y : Operand} {t t' : TypeId} {b o : Nat} {v : Value} (cs : (Nat → Bool) → List Value) (hst : st.contains i = true) (hg : wants ops F g = some bw) (hb : bw = true) (hx : evO F x = some (.pointer (some ⟨b, o, none⟩))) (hy : evO F y = some v) (hv : v.oneCell' = true)
    (hS : ∀ w, (sizeOf t).run P w = .ok 1 w) (hu : ∀ u, Upd (Hof u) (row b t' (cs u)) (row b t' ((cs u).set o v)) (Hof (setb u i))) (ho : ∀ u, o < (cs u).length)
    (h : SM P N B w0 st Hof ops (i + 1) n rest F K) : SM P N B w0 st Hof ops i (n + 1) (⟨none, .store t x y, ty, pos, af, g⟩ :: rest) F K :=
  sm_op (s := .sto) ⟨hst, rfl, by rw [← hb]; exact hg, fun u _ ρ ha w hw => by
    have hk : Blk w b t' (cs u).toArray := (hw.ok _ (hu u).mem).1
    have hB := (hw.ok _ (hu u).mem).2 b rfl
    refine ⟨w.setCell ⟨b, o, none⟩ v, ?_, hw.upd (hu u) (Below.setCell (Below.refl _ _) hB v) (fun k _ hne => Below.heap_setCell _ _ _ _ (fun e => hne (by rw [e]; rfl))) ?_ (fun q hq => .inl hq)⟩
    · have hc : w.cell? ⟨b, o, none⟩ = some ((cs u)[o]'(ho u)) := by rw [hk.cell]; simp [ho u]
      simp [execOp, ha _ _ hx, ha _ _ hy, Instr.storeAt, Instr.sureAddr, run_store1 hv hS hc (hk.frozen o)]
    · have := hk.set_ o v
      show Blk _ b t' ((cs u).set o v).toArray
      simpa using this⟩ h
end
end Go.Proofs.Ytdoihebekbfnbaa
