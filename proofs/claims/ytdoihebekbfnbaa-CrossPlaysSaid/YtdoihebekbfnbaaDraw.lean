/- A region that draws its order: operations that yield fixed values, calls that make new memory alone, new variables that none of these look at; then a tail that stands behind all of it. One walk in the text's order serves every order. -/
import Derived.Test.YtdoihebekbfnbaaCtl
namespace Go.Proofs.Ytdoihebekbfnbaa
open Go.RowKit

/-- The numbers that stand behind another by the edges, as masks. -/
def maskOf (acc : List Nat) (es : List Edge) : Nat := es.foldl (fun m e => if Region.binds .any e then m ||| (1 <<< e.on) ||| acc.getD e.on 0 else m) 0
def behind (l : List Oper) : List Nat := l.foldl (fun acc o => acc ++ [maskOf acc o.after.toList]) []

def drawPair (ops : Array Oper) (oi oj : Oper) (after : Bool) : Bool :=
  oi.dst != oj.dst && (after || (match oj.dst with
   | some d => !(oi.looksAt ops).contains d
   | none => true) && (match oi.dst with
   | some d => !(oj.looksAt ops).contains d
   | none => true))

/-- The first n in any order, the others behind them one by one. -/
def drawOk (l : List Oper) (n : Nat) : Bool :=
  let b := behind l
  let ops := l.toArray
  Region.noSelect ops && (List.range l.length).all fun i =>
    match l[i]? with
    | none => false
    | some oi =>
      oi.after.toList.all (fun e => !Region.binds .any e || decide (e.on < i)) &&
      if i < n then (List.range i).all fun j => match l[j]? with
        | none => false
        | some oj => drawPair ops oi oj ((b.getD i 0).testBit j)
      else (List.range i).all fun j => (b.getD i 0).testBit j

section
variable {P : Program} {ops : Array Oper} {w : World}

def Down (l : List Oper) (listed : Array Bool) : Prop :=
  ∀ i o, l[i]? = some o → listed.getD i false = true → ∀ e ∈ o.after, Region.binds .any e = true → listed.getD e.on false = true

theorem maskOf_spec (acc : List Nat) (j : Nat) : ∀ (es : List Edge) (m : Nat), (es.foldl (fun m e => if Region.binds .any e then m ||| (1 <<< e.on) ||| acc.getD e.on 0 else m) m).testBit j = true →
    m.testBit j = true ∨ ∃ e ∈ es, Region.binds .any e = true ∧ (e.on = j ∨ (acc.getD e.on 0).testBit j = true) := by
  intro es
  induction es with
  | nil => intro m h; exact .inl h
  | cons e es ih =>
    intro m h
    rw [List.foldl_cons] at h
    rcases ih _ h with h1 | ⟨e', h1, h2⟩
    · by_cases hb : Region.binds .any e = true
      · rw [if_pos hb] at h1
        simp only [Nat.testBit_or, Bool.or_eq_true] at h1
        rcases h1 with (h1 | h1) | h1
        · exact .inl h1
        · refine .inr ⟨e, by simp, hb, .inl ?_⟩
          rw [Nat.one_shiftLeft, Nat.testBit_two_pow] at h1
          simpa using h1
        · exact .inr ⟨e, by simp, hb, .inr h1⟩
      · rw [if_neg hb] at h1; exact .inl h1
    · exact .inr ⟨e', by simp [h1], h2⟩

theorem behind_spec (l : List Oper) (listed : Array Bool) (hd : Down l listed) : ∀ i o, l[i]? = some o → (∀ e ∈ o.after, Region.binds .any e = true → listed.getD e.on false = true) → ∀ j, ((behind l).getD i 0).testBit j = true → listed.getD j false = true := by
  have key : ∀ (m : List Oper) (pre : List Oper) (acc : List Nat), l = pre ++ m → acc.length = pre.length →
      (∀ i o, i < pre.length → l[i]? = some o → (∀ e ∈ o.after, Region.binds .any e = true → listed.getD e.on false = true) → ∀ j, (acc.getD i 0).testBit j = true → listed.getD j false = true) →
      ∀ i o, l[i]? = some o → (∀ e ∈ o.after, Region.binds .any e = true → listed.getD e.on false = true) → ∀ j, ((m.foldl (fun acc o => acc ++ [maskOf acc o.after.toList]) acc).getD i 0).testBit j = true → listed.getD j false = true := by
    intro m
    induction m with
    | nil =>
      intro pre acc hl hlen h i o hi he j hj
      have hlt : i < pre.length := by
        have := (List.getElem?_eq_some_iff.1 hi).1
        rw [hl] at this; simpa using this
      exact h i o hlt hi he j hj
    | cons o m ih =>
      intro pre acc hl hlen h
      rw [List.foldl_cons]
      refine ih (pre ++ [o]) _ (by rw [hl]; simp) (by simp [hlen]) ?_
      intro i oi hi hoi he j hj
      rw [List.length_append, List.length_singleton] at hi
      rcases Nat.lt_or_ge i pre.length with hlt | hge
      · rw [List.getD_eq_getElem?_getD, List.getElem?_append_left (by omega), ← List.getD_eq_getElem?_getD] at hj
        exact h i oi hlt hoi he j hj
      · have hie : i = pre.length := by omega
        subst hie
        have ho : oi = o := by
          rw [hl] at hoi; simpa using hoi.symm
        subst ho
        rw [List.getD_eq_getElem?_getD, List.getElem?_append_right (by omega)] at hj
        simp only [hlen, Nat.sub_self, List.getElem?_cons_zero, Option.getD_some] at hj
        rcases maskOf_spec acc j _ 0 hj with h0 | ⟨e, hee, hb, hj⟩
        · simp at h0
        · have hee' : e ∈ oi.after := by simpa using hee
          have hon := he e hee' hb
          rcases hj with rfl | hj
          · exact hon
          · rcases Nat.lt_or_ge e.on acc.length with h1 | h1
            · obtain ⟨oe, hoe⟩ : ∃ oe, l[e.on]? = some oe := by
                have : e.on < l.length := by rw [hl]; simp; omega
                exact ⟨l[e.on], List.getElem?_eq_getElem this⟩
              exact h e.on oe (by omega) hoe (fun e' he' hb' => hd e.on oe hoe hon e' he' hb') j hj
            · rw [List.getD_eq_getElem?_getD, List.getElem?_eq_none (by omega)] at hj
              simp at hj
  exact key l [] [] (by simp) rfl (fun i o hi => by simp at hi)

/-- What an operation of the first part yields. -/
inductive Sp where
  | fix (d : Nat) (v : Value)
  | new (d : Nat) (t : TypeId) (cs : Array Value) (mk : Nat → Value)
def Sp.dst : Sp → Nat
  | .fix d _ => d
  | .new d _ _ _ => d
def Sp.upd (F : Fr) : Sp → Fr
  | .fix d v => (d, v) :: F
  | .new _ _ _ _ => F

/-- A fixed value in every world above this one; a call makes new memory alone. -/
def PD (P : Program) (F : Fr) (B : Nat) (w0 : World) (o : Oper) (v : Value) : Prop :=
  ∀ ρ : Operand → Value, (∀ x v, evO F x = some v → ρ x = v) → ∀ w, Below B w0 w → (execOp ρ o).run P w = .ok (.value v) w ∨ ∃ f args, (execOp ρ o).run P w = .ok (.enter f args) w ∧ Calls P f args w fun e w' => e = .returned v ∧ Below w.heap.size w w'

def OpSp (P : Program) (N : Nx) (ops : Array Oper) (B : Nat) (w0 : World) (F : Fr) (o : Oper) : Sp → Prop
  | .fix d v => o.dst = some d ∧ d < N.n ∧ ((wants ops F o.guard = some true ∧ PD P F B w0 o v) ∨ (wants ops F o.guard = some false ∧ v = undef))
  | .new d t cs mk => o.dst = some d ∧ d < N.n ∧ wants ops F o.guard = some true ∧ F.lookup d = none ∧ ∀ ρ : Operand → Value, (∀ x v, evO F x = some v → ρ x = v) → ∀ w, (execOp ρ o).run P w = .ok (.value (mk w.heap.size)) (w.alloc (.cells cs t))

def Walk (P : Program) (N : Nx) (ops : Array Oper) (B : Nat) (w0 : World) : List Oper → Fr → List Sp → Prop
  | [], _, S => S = []
  | _ :: _, _, [] => False
  | o :: l, F, s :: S => OpSp P N ops B w0 F o s ∧ Walk P N ops B w0 l (s.upd F) S

def fin (B : Nat) (w' : World) : List Sp → Fr → (Fr → Prop) → Prop
  | [], F, K => K F
  | .fix d v :: S, F, K => fin B w' S ((d, v) :: F) K
  | .new d t cs mk :: S, F, K => fin B w' S F (fun F' => ∀ g, B ≤ g → Blk w' g t cs → K ((d, mk g) :: F'))

/-- The walk in the text's order: n operations of the first part, then what is left of the list. -/
def XD (P : Program) (N : Nx) (ops : Array Oper) (B : Nat) (w0 : World) (n : Nat) (l : List Oper) (F : Fr) (K : World → List Oper → Fr → Prop) : Prop :=
  n ≤ l.length ∧ ∃ S, Walk P N ops B w0 (l.take n) F S ∧ ∀ w', Below B w0 w' → fin B w' S F (K w' (l.drop n))

variable {N : Nx} {B n : Nat} {w0 : World} {F : Fr} {rest : List Oper} {K : World → List Oper → Fr → Prop}

theorem xd_nil {l : List Oper} (h : ∀ w', Below B w0 w' → K w' l F) : XD P N ops B w0 0 l F K := ⟨Nat.zero_le _, [], rfl, h⟩
theorem xd_op {o : Oper} {d : Nat} {v : Value} (ho : OpSp P N ops B w0 F o (.fix d v)) (h : XD P N ops B w0 n rest ((d, v) :: F) K) : XD P N ops B w0 (n + 1) (o :: rest) F K := by
  obtain ⟨h0, S, h1, h2⟩ := h
  exact ⟨by simp; omega, .fix d v :: S, ⟨ho, h1⟩, h2⟩
theorem xd_pure {o : Oper} {b : Bool} {d : Nat} {v : Value} (hg : wants ops F o.guard = some b) (hb : b = true) (hd : o.dst = some d) (hdN : d < N.n)
    (hr : PS P F (Below B w0) o v) (h : XD P N ops B w0 n rest ((d, v) :: F) K) : XD P N ops B w0 (n + 1) (o :: rest) F K :=
  xd_op ⟨hd, hdN, .inl ⟨by rw [hg, hb], fun ρ h w hw => .inl (hr ρ h w hw)⟩⟩ h
theorem xd_not {o : Oper} {b : Bool} {d : Nat} (hg : wants ops F o.guard = some b) (hb : b = false) (hd : o.dst = some d) (hdN : d < N.n) (h : XD P N ops B w0 n rest ((d, undef) :: F) K) : XD P N ops B w0 (n + 1) (o :: rest) F K :=
  xd_op ⟨hd, hdN, .inr ⟨by rw [hg, hb], rfl⟩⟩ h
theorem xd_split {o : Oper} {b : Bool} {p : Nat × Bool} (_h0 : o.guard = some p) (_hg : wants ops F o.guard = some b) (h1 : b = true → XD P N ops B w0 n (o :: rest) F K) (h2 : b = false → XD P N ops B w0 n (o :: rest) F K) : XD P N ops B w0 n (o :: rest) F K := by
  cases b
  · exact h2 rfl
  · exact h1 rfl
theorem xd_call {f : FuncId} {as_ : Array Operand} {ats : Array TypeId} {vs : List Value} {d : Nat} {v : Value} {ty : TypeId} {pos : String} {af : Array Edge} {g : Option (Nat × Bool)} {b : Bool} (hg : wants ops F g = some b) (hb : b = true)
    (hvs : as_.toList.map (evO F) = vs.map some) (hf : ∀ args w, (callFunc f args).run P w = .ok (.enter f args) w) (hN : d < N.n)
    (hc : ∀ w, Below B w0 w → Calls P f vs.toArray w fun e w' => e = .returned v ∧ Below w.heap.size w w') (h : XD P N ops B w0 n rest ((d, v) :: F) K) :
    XD P N ops B w0 (n + 1) (⟨some d, .call { callee := .value (.func f), args := as_, argTypes := ats }, ty, pos, af, g⟩ :: rest) F K :=
  xd_op ⟨rfl, hN, .inl ⟨by rw [← hb]; exact hg, fun ρ ha w hw => .inr ⟨f, vs.toArray, by
    have e : as_.map ρ = vs.toArray := args_eval hvs ha
    have e2 := ha (.func f) _ rfl
    simp [execOp, resolve, invoke, e, e2, hf, go_sem], hc w hw⟩⟩⟩ h
theorem xd_callC {f : FuncId} {as_ : Array Operand} {ats : Array TypeId} {vs : List Value} {d : Nat} {v : Value} {ty : TypeId} {pos : String} {af : Array Edge} {g : Option (Nat × Bool)} {b : Bool}
    (hc : ∀ w, Below B w0 w → Calls P f vs.toArray w fun e w' => e = .returned v ∧ Below w.heap.size w w') (hg : wants ops F g = some b) (hb : b = true)
    (hvs : as_.toList.map (evO F) = vs.map some) (hf : ∀ args w, (callFunc f args).run P w = .ok (.enter f args) w) (hN : d < N.n) (h : XD P N ops B w0 n rest ((d, v) :: F) K) :
    XD P N ops B w0 (n + 1) (⟨some d, .call { callee := .value (.func f), args := as_, argTypes := ats }, ty, pos, af, g⟩ :: rest) F K := xd_call hg hb hvs hf hN hc h
theorem xd_alloc {t : TypeId} {z : Value} {d : Nat} {ty : TypeId} {pos : String} {af : Array Edge} {g : Option (Nat × Bool)} {b : Bool} (hg : wants ops F g = some b) (hb : b = true) (hF : F.lookup d = none) (hZ : ∀ w, (zeroValue t).run P w = .ok z w) (hN : d < N.n)
    (h : XD P N ops B w0 n rest F (fun w' l F' => ∀ g, B ≤ g → Blk w' g t z.cells → K w' l ((d, .pointer (some ⟨g, 0, none⟩)) :: F'))) : XD P N ops B w0 (n + 1) (⟨some d, .alloc t, ty, pos, af, g⟩ :: rest) F K := by
  obtain ⟨h0, S, h1, h2⟩ := h
  exact ⟨by simp; omega, .new d t z.cells (fun g => .pointer (some ⟨g, 0, none⟩)) :: S, ⟨⟨rfl, hN, by rw [← hb]; exact hg, hF, fun ρ _ w => by simp [execOp, Instr.alloc, hZ, newVar, newRow]⟩, h1⟩, h2⟩
/-- A new block of whatever kind. -/
theorem xd_new {o : Oper} {t : TypeId} {cs : Array Value} (mk : Nat → Value) {d : Nat} {b : Bool} (hg : wants ops F o.guard = some b) (hb : b = true) (hd : o.dst = some d) (hF : F.lookup d = none) (hN : d < N.n)
    (hr : ∀ ρ : Operand → Value, (∀ x v, evO F x = some v → ρ x = v) → ∀ w, (execOp ρ o).run P w = .ok (.value (mk w.heap.size)) (w.alloc (.cells cs t)))
    (h : XD P N ops B w0 n rest F (fun w' l F' => ∀ g, B ≤ g → Blk w' g t cs → K w' l ((d, mk g) :: F'))) : XD P N ops B w0 (n + 1) (o :: rest) F K := by
  obtain ⟨h0, S, h1, h2⟩ := h
  exact ⟨by simp; omega, .new d t cs mk :: S, ⟨⟨hd, hN, by rw [← hb]; exact hg, hF, hr⟩, h1⟩, h2⟩
end

/-! ### Why one order serves all -/
section
variable {P : Program} {N : Nx} {B : Nat} {w0 w : World} {l pre : List Oper} {n : Nat} {F : Fr} {S : List Sp} {ops : Array Oper}

theorem walk_len : ∀ {pre : List Oper} {F : Fr} {S : List Sp}, Walk P N ops B w0 pre F S → S.length = pre.length
  | [], _, _, h => by simp [Walk] at h; subst h; rfl
  | _ :: _, _, [], h => h.elim
  | _ :: _, _, _ :: _, h => by simp [walk_len h.2]

theorem walk_at : ∀ {pre : List Oper} {F : Fr} {S : List Sp} (_ : Walk P N ops B w0 pre F S) (i : Nat) (s : Sp), S[i]? = some s →
    ∃ o Fi, pre[i]? = some o ∧ OpSp P N ops B w0 Fi o s ∧ o.dst = some s.dst ∧ s.dst < N.n ∧
      ∀ t v, Fi.lookup t = some v → (∃ j, j < i ∧ S[j]? = some (.fix t v)) ∨ (F.lookup t = some v ∧ ∀ j, j < i → ∀ sp, S[j]? = some sp → sp.dst ≠ t) := by
  intro pre
  induction pre with
  | nil => intro F S h i s hs; simp [Walk] at h; subst h; simp at hs
  | cons o pre ih =>
    intro F S h i s hs
    cases S with
    | nil => exact h.elim
    | cons s0 S =>
      cases i with
      | zero =>
        simp at hs; subst hs
        refine ⟨o, F, rfl, h.1, ?_, ?_, fun t v e => .inr ⟨e, fun j hj => by omega⟩⟩
        · cases s0 <;> exact h.1.1
        · cases s0 <;> exact h.1.2.1
      | succ i =>
        obtain ⟨o', Fi, h1, h2, h3, h4, h5⟩ := ih h.2 i s (by simpa using hs)
        refine ⟨o', Fi, by simpa using h1, h2, h3, h4, fun t v e => ?_⟩
        rcases h5 t v e with ⟨j, hj, hS⟩ | ⟨e1, e2⟩
        · exact .inl ⟨j + 1, by omega, by simpa using hS⟩
        · cases s0 with
          | fix d u =>
            simp only [Sp.upd] at e1
            rw [List.lookup_cons] at e1
            by_cases ht : t = d
            · subst ht; simp at e1; subst e1; exact .inl ⟨0, by omega, rfl⟩
            · have hb : (t == d) = false := by simpa using ht
              rw [hb] at e1
              refine .inr ⟨e1, fun j hj sp hsp => ?_⟩
              cases j with
              | zero => simp at hsp; subst hsp; exact fun e => ht e.symm
              | succ j => exact e2 j (by omega) sp (by simpa using hsp)
          | new d t' cs mk =>
            simp only [Sp.upd] at e1
            refine .inr ⟨e1, fun j hj sp hsp => ?_⟩
            cases j with
            | zero =>
              simp at hsp; subst hsp
              intro e; have := h.1.2.2.2.1
              simp only [Sp.dst] at e; subst e; rw [e1] at this; simp at this
            | succ j => exact e2 j (by omega) sp (by simpa using hsp)

/-- What is true of a slot once its operation has come up. -/
def Sp.fact (B : Nat) (a : Act) (w : World) : Sp → Prop
  | .fix d v => a.tmps[d]? = some v
  | .new d t cs mk => ∃ g, B ≤ g ∧ a.tmps[d]? = some (mk g) ∧ Blk w g t cs

structure Inv (B : Nat) (w0 : World) (N : Nx) (l : List Oper) (n : Nat) (F : Fr) (S : List Sp) (listed : Array Bool) (a : Act) (w : World) : Prop where
  len : listed.size = l.length
  size : a.tmps.size = N.n
  defers : a.defers = marks N.at_
  down : Down l listed
  below : Below B w0 w
  facts : ∀ i s, S[i]? = some s → listed.getD i false = true → s.fact B a w
  old : ∀ t v, F.lookup t = some v → (∀ i s, S[i]? = some s → listed.getD i false = true → s.dst ≠ t) → a.tmps[t]? = some v
  post : ∀ i, n ≤ i → listed.getD i false = false

theorem getD_of_lt {x : Array Bool} {i : Nat} (h : i < x.size) (b c : Bool) : x.getD i b = x.getD i c := by simp [Array.getD, h]
theorem getD_set' {x : Array Bool} {i j : Nat} (h : (x.setIfInBounds i true).getD j false = true) : j = i ∨ x.getD j false = true := by
  by_cases hij : j = i
  · exact .inl hij
  · right; rwa [getD_set_ne false (Ne.symm hij)] at h
theorem count0 {x : Array Bool} (h : x.count false = 0) (i : Nat) (hi : i < x.size) : x.getD i false = true := by
  have := Array.count_eq_zero.1 h
  have h1 : x[i] ≠ false := fun e => this (e ▸ Array.getElem_mem hi)
  simp [Array.getD, hi]
  simpa using h1
theorem count_set {x : Array Bool} {i k : Nat} (hi : x.getD i true = false) (h : x.count false = k + 1) : (x.setIfInBounds i true).count false = k := by
  have hlt : i < x.size := by
    rcases Nat.lt_or_ge i x.size with h' | h'
    · exact h'
    · simp [Array.getElem?_eq_none h'] at hi
  have hv : x[i] = false := by simpa [Array.getD, hlt] using hi
  rw [Array.setIfInBounds_def, dif_pos hlt, Array.count_set]
  simp [hv, h]

theorem drawOk_spec (hd : drawOk l n = true) : Region.noSelect l.toArray = true ∧ (∀ i o, l[i]? = some o → ∀ e ∈ o.after, Region.binds .any e = true → e.on < i) ∧
    (∀ i j oi oj, i < n → j < i → l[i]? = some oi → l[j]? = some oj → drawPair l.toArray oi oj (((behind l).getD i 0).testBit j) = true) ∧
    (∀ i j, n ≤ i → i < l.length → j < i → ((behind l).getD i 0).testBit j = true) := by
  simp only [drawOk, Bool.and_eq_true, List.all_eq_true, List.mem_range] at hd
  obtain ⟨h0, h1⟩ := hd
  refine ⟨h0, fun i o ho e he hb => ?_, fun i j oi oj hin hji hi hj => ?_, fun i j hni hil hji => ?_⟩
  · have := h1 i (List.getElem?_eq_some_iff.1 ho).1
    rw [ho] at this
    simp only [Bool.and_eq_true, List.all_eq_true] at this
    have := this.1 e (by simpa using he)
    simpa [hb] using this
  · have := h1 i (List.getElem?_eq_some_iff.1 hi).1
    rw [hi] at this
    simp only [Bool.and_eq_true, if_pos hin, List.all_eq_true, List.mem_range] at this
    have := this.2 j hji
    rwa [hj] at this
  · have := h1 i hil
    rw [List.getElem?_eq_getElem hil] at this
    simp only [Bool.and_eq_true, if_neg (Nat.not_lt.2 hni), List.all_eq_true, List.mem_range] at this
    exact this.2 j hji

theorem spec_lt (hl : S.length = n) {i : Nat} {s : Sp} (h : S[i]? = some s) : i < n := hl ▸ (List.getElem?_eq_some_iff.1 h).1

/-- One operation of the first part has come up. -/
theorem Inv.step {listed : Array Bool} {a : Act} {i : Nat} {o : Oper} {s : Sp} {u : Value} {w' : World} (hI : Inv B w0 N l n F S listed a w) (hW : Walk P N ops B w0 (l.take n) F S) (hn : n ≤ l.length) (hd : drawOk l n = true)
    (hS : S[i]? = some s) (ho : l[i]? = some o) (hr : ∀ e ∈ o.after, Region.binds .any e = true → listed.getD e.on false = true)
    (hw : Below w.heap.size w w') (hf : s.fact B (a.put (some s.dst) u) w') (hB : B ≤ w0.heap.size) : Inv B w0 N l n F S (listed.setIfInBounds i true) (a.put (some s.dst) u) w' := by
  have hlen : S.length = n := by rw [walk_len hW]; simp; omega
  obtain ⟨hs, hedge, hpair, hpost⟩ := drawOk_spec hd
  have hin : i < n := spec_lt hlen hS
  -- slots of others
  have hne : ∀ j sj, S[j]? = some sj → j ≠ i → sj.dst ≠ s.dst := by
    intro j sj hj hji
    have hjn : j < n := spec_lt hlen hj
    obtain ⟨oj, _, h1, _, h2, _⟩ := walk_at hW j sj hj
    obtain ⟨oi, _, h3, _, h4, _⟩ := walk_at hW i s hS
    rw [List.getElem?_take_of_lt hjn] at h1
    rw [List.getElem?_take_of_lt hin] at h3
    rcases Nat.lt_or_gt_of_ne hji with h | h
    · have := hpair i j oi oj hin h h3 h1
      simp only [drawPair, Bool.and_eq_true, bne_iff_ne] at this
      intro e; exact this.1 (by rw [h4, h2, e])
    · have := hpair j i oj oi hjn h h1 h3
      simp only [drawPair, Bool.and_eq_true, bne_iff_ne] at this
      intro e; exact this.1 (by rw [h4, h2, e])
  have hkeep : ∀ t, t ≠ s.dst → (a.put (some s.dst) u).tmps[t]? = a.tmps[t]? := fun t ht => by
    simp [Act.put, Array.getElem?_setIfInBounds_ne (Ne.symm ht)]
  refine ⟨by simp [hI.len], by simp [Act.put, hI.size], hI.defers, ?_, hI.below.trans (hw.mono (Nat.le_trans hB hI.below.size)), ?_, ?_, ?_⟩
  · intro j oj hj hlj e he hb
    rcases getD_set' hlj with rfl | hlj
    · rw [ho] at hj; cases hj
      exact getD_set_true (hr e he hb)
    · exact getD_set_true (hI.down j oj hj hlj e he hb)
  · intro j sj hj hlj
    by_cases hji : j = i
    · subst hji; rw [hS] at hj; cases hj; exact hf
    · rcases getD_set' hlj with h | hlj
      · exact (hji h).elim
      · have h0 := hI.facts j sj hj hlj
        have hd' := hne j sj hj hji
        cases sj with
        | fix d v => simp only [Sp.fact] at h0 ⊢; rw [hkeep d hd']; exact h0
        | new d t cs mk =>
          obtain ⟨g, h1, h2, h3⟩ := h0
          exact ⟨g, h1, by rw [hkeep d hd']; exact h2, h3.below hw h3.lt⟩
  · intro t v e hno
    have ht : t ≠ s.dst := fun h => hno i s hS (by simp [hI.len]; omega) h.symm
    rw [hkeep t ht]
    exact hI.old t v e (fun j sj hj hlj => hno j sj hj (getD_set_true hlj))
  · intro j hj
    rw [getD_set_ne false (by omega)]
    exact hI.post j hj

theorem fin_has {a : Act} (hs : a.tmps.size = N.n) (hdf : a.defers = marks N.at_) : ∀ (pre : List Oper) (F : Fr) (S : List Sp) (K : Fr → Prop), Walk P N ops B w0 pre F S → (∀ (i : Nat) (s : Sp), S[i]? = some s → s.fact B a w) →
    (∀ t v, F.lookup t = some v → (∀ (i : Nat) (s : Sp), S[i]? = some s → s.dst ≠ t) → a.tmps[t]? = some v) → fin B w S F K → ∃ F', Has N F' a ∧ K F' := by
  intro pre
  induction pre with
  | nil =>
    intro F S K h _ ho hf
    simp [Walk] at h; subst h
    exact ⟨F, ⟨hs, hdf, fun s v e => ho s v e (by simp)⟩, hf⟩
  | cons o pre ih =>
    intro F S K h hfa ho hf
    cases S with
    | nil => exact h.elim
    | cons s S =>
      have hfa' : ∀ (i : Nat) (s : Sp), S[i]? = some s → s.fact B a w := fun i s hi => hfa (i + 1) s (by simpa using hi)
      have h0 := hfa 0 s rfl
      cases s with
      | fix d v =>
        refine ih _ S K h.2 hfa' (fun t u e hno => ?_) hf
        simp only [Sp.upd, List.lookup_cons] at e
        by_cases ht : t = d
        · subst ht; simp at e; subst e; exact h0
        · have hb : (t == d) = false := by simpa using ht
          rw [hb] at e
          refine ho t u e (fun i s hi => ?_)
          cases i with
          | zero => simp at hi; subst hi; exact fun e => ht e.symm
          | succ i => exact hno i s (by simpa using hi)
      | new d t cs mk =>
        have hold : ∀ t u, F.lookup t = some u → (∀ (i : Nat) (s : Sp), S[i]? = some s → s.dst ≠ t) → a.tmps[t]? = some u := by
          intro t u e hno
          refine ho t u e (fun i s hi => ?_)
          cases i with
          | zero =>
            simp at hi; subst hi
            intro hd; simp only [Sp.dst] at hd; subst hd
            have := h.1.2.2.2.1
            rw [e] at this; cases this
          | succ i => exact hno i s (by simpa using hi)
        obtain ⟨F', h1, h2⟩ := ih _ S _ h.2 hfa' hold hf
        obtain ⟨g, g1, g2, g3⟩ := h0
        refine ⟨_, ⟨hs, hdf, fun s v e => ?_⟩, h2 g g1 g3⟩
        rw [List.lookup_cons] at e
        by_cases ht : s = d
        · subst ht; simp at e; subst e; exact g2
        · have hb : (s == d) = false := by simpa using ht
          rw [hb] at e
          exact h1.at_ s v e

end
end Go.Proofs.Ytdoihebekbfnbaa
