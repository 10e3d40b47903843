/- A region that draws its order, part by part: each part free in itself, all that follows behind all of it. -/
import Derived.Test.YtdoihebekbfnbaaDraw
namespace Go.Proofs.Ytdoihebekbfnbaa
open Go.RowKit

def segOk (l : List Oper) (p q : Nat) : Bool :=
  let b := behind l
  let ops := l.toArray
  Region.noSelect ops && (List.range l.length).all fun i =>
    match l[i]? with
    | none => false
    | some oi =>
      oi.after.toList.all (fun e => !Region.binds .any e || decide (e.on < i)) &&
      if i < p then true else if i < q then (List.range i).all fun j => decide (j < p) || match l[j]? with
        | none => false
        | some oj => drawPair ops oi oj ((b.getD i 0).testBit j)
      else (List.range q).all fun j => (b.getD i 0).testBit j

section
variable {rd : Option Nat} {P : Program} {N : Nx} {B p q : Nat} {w0 w : World} {l r : List Oper} {F : Fr} {S : List Sp} {n : Nat} {ops : Array Oper}

theorem segOk_spec (hd : segOk l p q = true) : Region.noSelect l.toArray = true ∧ (∀ i o, l[i]? = some o → ∀ e ∈ o.after, Region.binds .any e = true → e.on < i) ∧
    (∀ i j oi oj, p ≤ j → i < q → j < i → l[i]? = some oi → l[j]? = some oj → drawPair l.toArray oi oj (((behind l).getD i 0).testBit j) = true) ∧
    (∀ i j, p ≤ i → q ≤ i → i < l.length → j < q → ((behind l).getD i 0).testBit j = true) := by
  simp only [segOk, Bool.and_eq_true, List.all_eq_true, List.mem_range] at hd
  obtain ⟨h0, h1⟩ := hd
  refine ⟨h0, fun i o ho e he hb => ?_, fun i j oi oj hpj hin hji hi hj => ?_, fun i j hpi hni hil hji => ?_⟩
  · have := h1 i (List.getElem?_eq_some_iff.1 ho).1
    rw [ho] at this
    simp only [Bool.and_eq_true, List.all_eq_true] at this
    have := this.1 e (by simpa using he)
    simpa [hb] using this
  · have := h1 i (List.getElem?_eq_some_iff.1 hi).1
    rw [hi] at this
    simp only [Bool.and_eq_true, if_neg (show ¬ i < p by omega), if_pos hin, List.all_eq_true, List.mem_range, Bool.or_eq_true, decide_eq_true_eq] at this
    have := (this.2 j hji).resolve_left (by omega)
    rwa [hj] at this
  · have := h1 i hil
    rw [List.getElem?_eq_getElem hil] at this
    simp only [Bool.and_eq_true, if_neg (show ¬ i < p by omega), if_neg (Nat.not_lt.2 hni), List.all_eq_true, List.mem_range] at this
    exact this.2 j hji

structure InvS (B : Nat) (w0 : World) (N : Nx) (l : List Oper) (p q : Nat) (F : Fr) (S : List Sp) (listed : Array Bool) (a : Act) (w : World) : Prop where
  len : listed.size = l.length
  size : a.tmps.size = N.n
  defers : a.defers = marks N.at_
  down : Down l listed
  below : Below B w0 w
  facts : ∀ i s, S[i]? = some s → listed.getD (p + i) false = true → s.fact B a w
  old : ∀ t v, F.lookup t = some v → (∀ i s, S[i]? = some s → listed.getD (p + i) false = true → s.dst ≠ t) → a.tmps[t]? = some v
  pre : ∀ i, i < p → listed.getD i false = true
  post : ∀ i, q ≤ i → listed.getD i false = false

theorem seg_at (hW : Walk P N ops B w0 ((l.drop p).take n) F S) {i : Nat} {o : Oper} (hi : i < n) (h : ((l.drop p).take n)[i]? = some o) : l[p + i]? = some o := by
  rw [List.getElem?_take_of_lt hi, List.getElem?_drop] at h; exact h

/-- One operation of the part has come up. -/
theorem InvS.step {listed : Array Bool} {a : Act} {i : Nat} {o : Oper} {s : Sp} {u : Value} {w' : World} (hI : InvS B w0 N l p (p + n) F S listed a w) (hW : Walk P N ops B w0 ((l.drop p).take n) F S) (hn : p + n ≤ l.length) (hd : segOk l p (p + n) = true)
    (hS : S[i]? = some s) (ho : l[p + i]? = some o) (hr : ∀ e ∈ o.after, Region.binds .any e = true → listed.getD e.on false = true)
    (hw : Below w.heap.size w w') (hf : s.fact B (a.put (some s.dst) u) w') (hB : B ≤ w0.heap.size) : InvS B w0 N l p (p + n) F S (listed.setIfInBounds (p + i) true) (a.put (some s.dst) u) w' := by
  have hlen : S.length = n := by rw [walk_len hW]; simp; omega
  obtain ⟨hs, hedge, hpair, hpost⟩ := segOk_spec hd
  have hin : i < n := spec_lt hlen hS
  have hne : ∀ j sj, S[j]? = some sj → j ≠ i → sj.dst ≠ s.dst := by
    intro j sj hj hji
    have hjn : j < n := spec_lt hlen hj
    obtain ⟨oj, _, h1, _, h2, _⟩ := walk_at hW j sj hj
    obtain ⟨oi, _, h3, _, h4, _⟩ := walk_at hW i s hS
    have h1 := seg_at hW hjn h1
    have h3 := seg_at hW hin h3
    rcases Nat.lt_or_gt_of_ne hji with h | h
    · have := hpair (p + i) (p + j) oi oj (by omega) (by omega) (by omega) h3 h1
      simp only [drawPair, Bool.and_eq_true, bne_iff_ne] at this
      intro e; exact this.1 (by rw [h4, h2, e])
    · have := hpair (p + j) (p + i) oj oi (by omega) (by omega) (by omega) h1 h3
      simp only [drawPair, Bool.and_eq_true, bne_iff_ne] at this
      intro e; exact this.1 (by rw [h4, h2, e])
  have hkeep : ∀ t, t ≠ s.dst → (a.put (some s.dst) u).tmps[t]? = a.tmps[t]? := fun t ht => by
    simp [Act.put, Array.getElem?_setIfInBounds_ne (Ne.symm ht)]
  refine ⟨by simp [hI.len], by simp [Act.put, hI.size], hI.defers, ?_, hI.below.trans (hw.mono (Nat.le_trans hB hI.below.size)), ?_, ?_, ?_, ?_⟩
  · intro j oj hj hlj e he hb
    rcases getD_set' hlj with rfl | hlj
    · rw [ho] at hj; cases hj
      exact getD_set_true (hr e he hb)
    · exact getD_set_true (hI.down j oj hj hlj e he hb)
  · intro j sj hj hlj
    by_cases hji : j = i
    · subst hji; rw [hS] at hj; cases hj; exact hf
    · rcases getD_set' hlj with h | hlj
      · omega
      · have h0 := hI.facts j sj hj hlj
        have hd' := hne j sj hj hji
        cases sj with
        | fix d v => simp only [Sp.fact] at h0 ⊢; rw [hkeep d hd']; exact h0
        | new d t cs mk =>
          obtain ⟨g, h1, h2, h3⟩ := h0
          exact ⟨g, h1, by rw [hkeep d hd']; exact h2, h3.below hw h3.lt⟩
  · intro t v e hno
    have ht : t ≠ s.dst := fun h => hno i s hS (by simp [hI.len]; omega) h.symm
    rw [hkeep t ht]
    exact hI.old t v e (fun j sj hj hlj => hno j sj hj (getD_set_true hlj))
  · intro j hj
    exact getD_set_true (hI.pre j hj)
  · intro j hj
    rw [getD_set_ne false (by omega)]
    exact hI.post j hj

/-- An operation of the part that may come up now. -/
theorem seg_op {listed : Array Bool} {a : Act} {i : Nat} {Q : Exit → Act → World → Prop} {K : Act → World → Prop} (hI : InvS B w0 N l p (p + n) F S listed a w) (hW : Walk P N l.toArray B w0 ((l.drop p).take n) F S) (hn : p + n ≤ l.length) (hd : segOk l p (p + n) = true)
    (hB : B ≤ w0.heap.size) (hi : p + i ∈ Region.ready .any l.toArray listed) (hin : i < n)
    (hK : ∀ a' w', InvS B w0 N l p (p + n) F S (listed.setIfInBounds (p + i) true) a' w' → K a' w') : wpOpIn (FR rd) 0 P l.toArray Q (p + i) K a w := by
  have hlen : S.length = n := by rw [walk_len hW]; simp; omega
  obtain ⟨hsel, hedge, hpair, hpost⟩ := segOk_spec hd
  obtain ⟨hun, o, ho, hr⟩ := mem_ready.1 hi
  have ho' : l[p + i]? = some o := by simpa using ho
  obtain ⟨s, hS⟩ : ∃ s, S[i]? = some s := ⟨S[i]'(by omega), List.getElem?_eq_getElem _⟩
  obtain ⟨o2, Fi, h1, h2, h3, h4, h5⟩ := walk_at hW i s hS
  have h1 := seg_at hW hin h1
  rw [ho'] at h1
  cases h1
  have hunf : listed.getD (p + i) false = false := by rw [getD_of_lt (by rw [hI.len]; exact (List.getElem?_eq_some_iff.1 ho').1) false true]; exact hun
  have agree : ∀ t ∈ o.looksAt l.toArray, ∀ v, Fi.lookup t = some v → a.tmps[t]? = some v := by
    intro t ht v e
    rcases h5 t v e with ⟨j, hj, hSj⟩ | ⟨e1, e2⟩
    · obtain ⟨oj, _, g1, _, g2, _⟩ := walk_at hW j _ hSj
      have g1 := seg_at hW (by omega) g1
      have hp := hpair (p + i) (p + j) o oj (by omega) (by omega) (by omega) ho' g1
      simp only [drawPair, Bool.and_eq_true, Bool.or_eq_true] at hp
      have hl : listed.getD (p + j) false = true := by
        rcases hp.2 with hp | hp
        · exact behind_spec l listed hI.down (p + i) o ho' hr (p + j) hp
        · have := hp.1
          rw [g2] at this
          simp [Sp.dst] at this
          exact (this ht).elim
      exact hI.facts j _ hSj hl
    · refine hI.old t v e1 (fun j sj hj hlj hdj => ?_)
      have hjn : j < n := spec_lt hlen hj
      rcases Nat.lt_trichotomy j i with h | h | h
      · exact e2 j h sj hj hdj
      · subst h; rw [hlj] at hunf; cases hunf
      · obtain ⟨oj, _, g1, _, g2, _⟩ := walk_at hW j sj hj
        have g1 := seg_at hW hjn g1
        have hp := hpair (p + j) (p + i) oj o (by omega) (by omega) (by omega) g1 ho'
        simp only [drawPair, Bool.and_eq_true, Bool.or_eq_true] at hp
        rcases hp.2 with hp | hp
        · have := behind_spec l listed hI.down (p + j) oj g1 (hI.down (p + j) oj g1 hlj) (p + i) hp
          rw [this] at hunf; cases hunf
        · have := hp.2
          rw [g2, hdj] at this
          simp at this
          exact this ht
  have hrun : ∃ ρ : Operand → Value, (∀ x v, evO Fi x = some v → ρ x = v) ∧ execOp a.eval o = execOp ρ o := by
    refine ⟨fun x => (evO Fi x).getD (a.eval x), fun x v e => by simp [e], ?_⟩
    refine execOp_congr o (fun cs b => Region.noSelect_spec hsel (p + i) o cs b ho) (fun x hx => ?_)
    cases x with
    | tmp t =>
      cases e : Fi.lookup t with
      | none => simp [evO, e]
      | some v =>
        have := agree t (List.mem_append_left _ (List.mem_filterMap.2 ⟨.tmp t, by simpa using hx, rfl⟩)) v e
        simp [evO, e, Act.eval, Array.getD_eq_getD_getElem?, this]
    | const u => simp [evO, Act.eval]
    | global g => simp [evO, Act.eval]
    | func f => simp [evO, Act.eval]
  obtain ⟨ρ, hρ, hex⟩ := hrun
  have done : ∀ u w', Below w.heap.size w w' → s.fact B (a.put (some s.dst) u) w' → K (a.put o.dst u) w' := fun u w' hw hf => by
    rw [h3]; exact hK _ _ (hI.step hW hn hd hS ho' hr hw hf hB)
  unfold wpOpIn
  simp only [ho]
  cases s with
  | fix d v =>
    have hput : (a.put (some d) v).tmps[d]? = some v := by
      have : d < a.tmps.size := by rw [hI.size]; exact h4
      simp [Act.put, this]
    rcases h2.2.2 with ⟨hg, hp⟩ | ⟨hg, rfl⟩
    · rw [if_pos (wants_on agree hg)]
      refine ⟨fun _ _ => trivial, ?_⟩
      rcases hp ρ hρ w hI.below with hv | ⟨f, args, hv, hc⟩
      · rw [semAt_of _ (hex ▸ hv) (by simp), Oper.uponIn_value]; exact done v w (Below.refl _ _) hput
      · rw [semAt_of _ (hex ▸ hv) (by simp), Oper.uponIn_enter]
        refine ⟨fun h => by simp [FR, Fence.wide] at h, callsIn_of (hc.mono ?_)⟩
        rintro e w' ⟨rfl, hb⟩
        exact done v w' hb hput
    · rw [if_neg (by rw [wants_on agree hg]; simp)]
      exact ⟨fun _ _ => trivial, done _ w (Below.refl _ _) hput⟩
  | new d t cs mk =>
    obtain ⟨_, _, hg, _, hnew⟩ := h2
    rw [if_pos (wants_on agree hg)]
    refine ⟨fun _ _ => trivial, ?_⟩
    rw [semAt_of _ (hex ▸ hnew ρ hρ w) (by simp), Oper.uponIn_value]
    refine done _ _ ((Below.refl _ _).alloc (Nat.le_refl _) _) ⟨w.heap.size, Nat.le_trans hB hI.below.size, ?_, Blk.new _ _ _⟩
    have : d < a.tmps.size := by rw [hI.size]; exact h4
    simp [Act.put, Sp.dst, this]

/-- The region from its place p on: all ahead of it has come up. -/
def RG (rd : Option Nat) (P : Program) (N : Nx) (l : List Oper) (p : Nat) (r : List Oper) (F : Fr) (w : World) (K : Fr → World → Prop) : Prop :=
  p ≤ l.length → l.drop p = r → ∀ Q : Exit → Act → World → Prop, (∀ F' a' w', Has N F' a' → K F' w' → Q .normal a' w') → ∀ (fuel : Nat) (listed : Array Bool) (a : Act), Has N F a → listed.size = l.length →
    (∀ i, i < l.length → listed.getD i false = decide (i < p)) → listed.count false = fuel → wpAnyIn (FR rd) 0 P .any l.toArray Q fuel listed a w

theorem rg_end {K : Fr → World → Prop} (h : K F w) : RG rd P N l p [] F w K := fun _ hr Q hQ fuel listed a ha hsz hl hc => by
  have hpl : l.length ≤ p := by
    rcases Nat.lt_or_ge p l.length with h | h
    · rw [List.drop_eq_getElem_cons h] at hr; cases hr
    · exact h
  have hnr : Region.ready .any l.toArray listed = [] := by
    rw [List.eq_nil_iff_forall_not_mem]
    intro i hi
    obtain ⟨h1, o, ho, _⟩ := mem_ready.1 hi
    have hil : i < l.length := by simpa using (Array.getElem?_eq_some_iff.1 ho).1
    rw [getD_of_lt (by omega) true false, hl i hil] at h1
    simp at h1; omega
  cases fuel with
  | zero => exact ⟨hnr, hQ F a w ha h⟩
  | succ fuel => exact ⟨fun _ => hQ F a w ha h, fun i hi => by rw [hnr] at hi; cases hi⟩

/-- Only what is of the part can be ready. -/
theorem seg_free_main {Q : Exit → Act → World → Prop} {K : Fr → World → Prop} (hd : segOk l p (p + n) = true) (hn : p + n ≤ l.length) (hB : B ≤ w0.heap.size) (hW : Walk P N l.toArray B w0 ((l.drop p).take n) F S)
    (hQ : ∀ F' a' w', Has N F' a' → K F' w' → Q .normal a' w')
    (hf : ∀ w', Below B w0 w' → fin B w' S F (fun F' => RG rd P N l (p + n) (l.drop (p + n)) F' w' K)) :
    ∀ (fuel : Nat) (listed : Array Bool) (a : Act) (w : World), InvS B w0 N l p (p + n) F S listed a w → listed.count false = fuel → wpAnyIn (FR rd) 0 P .any l.toArray Q fuel listed a w := by
  have hlen : S.length = n := by rw [walk_len hW]; simp; omega
  obtain ⟨hsel, hedge, hpair, hpost⟩ := segOk_spec hd
  have fin_ : ∀ (fuel : Nat) (listed : Array Bool) (a : Act) (w : World), InvS B w0 N l p (p + n) F S listed a w → listed.count false = fuel → (∀ i, i < p + n → listed.getD i false = true) → wpAnyIn (FR rd) 0 P .any l.toArray Q fuel listed a w := by
    intro fuel listed a w hI hc hall
    obtain ⟨F', h1, h2⟩ := fin_has hI.size hI.defers _ _ _ _ hW (fun i s hi => hI.facts i s hi (hall _ (by have := spec_lt hlen hi; omega))) (fun t v e hno => hI.old t v e (fun i s hi _ => hno i s hi)) (hf w hI.below)
    refine h2 hn rfl Q hQ fuel listed a h1 hI.len (fun i hi => ?_) hc
    by_cases h : i < p + n
    · rw [hall i h]; simpa using h
    · rw [hI.post i (by omega)]; simpa using h
  intro fuel
  induction fuel with
  | zero =>
    intro listed a w hI hc
    exact fin_ 0 listed a w hI hc (fun i hi => count0 hc i (by rw [hI.len]; omega))
  | succ fuel ih =>
    intro listed a w hI hc
    by_cases hall : ∀ i, i < p + n → listed.getD i false = true
    · exact fin_ _ listed a w hI hc hall
    · refine ⟨fun e => ?_, fun i hi => ?_⟩
      · exfalso
        apply hall
        intro i
        induction i using Nat.strongRecOn with
        | ind i ih2 =>
          intro hin
          cases hli : listed.getD i false with
          | true => rfl
          | false =>
            exfalso
            have hil : i < l.length := by omega
            have hr : i ∈ Region.ready .any l.toArray listed := by
              refine mem_ready.2 ⟨by rw [getD_of_lt (by rw [hI.len]; exact hil) true false]; exact hli, l[i], by simp [hil], fun e he hb => ?_⟩
              have := hedge i l[i] (List.getElem?_eq_getElem hil) e he hb
              exact ih2 e.on this (by omega)
            rw [e] at hr; cases hr
      · obtain ⟨h1, o, ho, hr⟩ := mem_ready.1 hi
        have hil : i < l.length := by simpa using (Array.getElem?_eq_some_iff.1 ho).1
        have hpi : p ≤ i := by
          rcases Nat.lt_or_ge i p with h | h
          · have := hI.pre i h
            rw [getD_of_lt (by rw [hI.len]; exact hil) true false, this] at h1; cases h1
          · exact h
        have hin : i < p + n := by
          rcases Nat.lt_or_ge i (p + n) with h | h
          · exact h
          · exfalso
            exact hall (fun j hj => behind_spec l listed hI.down i o (by simpa using ho) hr j (hpost i j hpi h hil hj))
        obtain ⟨k, rfl⟩ : ∃ k, i = p + k := ⟨i - p, by omega⟩
        exact seg_op hI hW hn hd hB hi (by omega) (fun a' w' hI' => ih _ a' w' hI' (count_set (mem_ready.1 hi).1 hc))

/-- A part, free in itself. -/
theorem rg_free {K : Fr → World → Prop} (n : Nat) (hd : segOk l p (p + n) = true)
    (h : XD P N l.toArray w.heap.size w n r F (fun w' r' F' => RG rd P N l (p + n) r' F' w' K)) : RG rd P N l p r F w K := fun hple hr Q hQ fuel listed a ha hsz hl hc => by
  subst hr
  obtain ⟨hn, S, hW, hf⟩ := h
  rw [List.drop_drop] at hf
  have hp : p + n ≤ l.length := by rw [List.length_drop] at hn; omega
  refine seg_free_main hd hp (Nat.le_refl _) hW hQ hf fuel listed a w ⟨hsz, ha.size, ha.defers, ?_, Below.refl _ _, ?_, ?_, ?_, ?_⟩ hc
  · intro i o hi hli e he hb
    have hil := (List.getElem?_eq_some_iff.1 hi).1
    rw [hl i hil] at hli
    have h2 := (segOk_spec hd).2.1 i o hi e he hb
    rw [hl e.on (by omega)]
    simp at hli ⊢; omega
  · intro i s hi hli
    have : i < n := by have := (List.getElem?_eq_some_iff.1 hi).1; rw [walk_len hW] at this; simp at this; omega
    rw [hl (p + i) (by omega)] at hli
    exfalso; simp at hli; omega
  · intro t v e _; exact ha.at_ t v e
  · intro i hi; rw [hl i (by omega)]; simpa using hi
  · intro i hi
    rcases Nat.lt_or_ge i l.length with h | h
    · rw [hl i h]; simp; omega
    · simp [Array.getD, hsz, Nat.not_lt.2 h]

/-- One operation, behind all ahead of it and ahead of all behind it. -/
theorem rg_one {K : Fr → World → Prop} {o : Oper} (hd : segOk l p (p + 1) = true) (h : XO rd P N l.toArray [o] F w (fun F' w' => RG rd P N l (p + 1) r F' w' K)) : RG rd P N l p (o :: r) F w K := fun _ hr Q hQ fuel listed a ha hsz hl hc => by
  obtain ⟨hsel, hedge, hpair, hpost⟩ := segOk_spec hd
  have hpl : p < l.length := by
    rcases Nat.lt_or_ge p l.length with h | h
    · exact h
    · rw [List.drop_of_length_le h] at hr; cases hr
  have hr2 : l[p] = o ∧ l.drop (p + 1) = r := by
    rw [List.drop_eq_getElem_cons hpl] at hr; injection hr with e1 e2; exact ⟨e1, e2⟩
  obtain ⟨ho, hrest⟩ := hr2
  have hlo : l[p]? = some o := by rw [List.getElem?_eq_getElem hpl, ho]
  have hpr : p ∈ Region.ready .any l.toArray listed := by
    refine mem_ready.2 ⟨?_, o, by simpa using hlo, fun e he hb => ?_⟩
    · rw [getD_of_lt (by omega) true false, hl p hpl]; simp
    · have := hedge p o hlo e he hb
      rw [hl e.on (by omega)]; simpa using this
  cases fuel with
  | zero => have := count0 hc p (by omega); rw [hl p hpl] at this; simp at this
  | succ fuel =>
    refine ⟨fun e => (by rw [e] at hpr; cases hpr), fun i hi => ?_⟩
    obtain ⟨h1, oi, hoi, hri⟩ := mem_ready.1 hi
    have hil : i < l.length := by simpa using (Array.getElem?_eq_some_iff.1 hoi).1
    have hip : ¬ i < p := by
      rw [getD_of_lt (by omega) true false, hl i hil] at h1
      simpa using h1
    have hdown : Down l listed := by
      intro j oj hj hlj e he hb
      have hjl := (List.getElem?_eq_some_iff.1 hj).1
      rw [hl j hjl] at hlj
      have h2 := hedge j oj hj e he hb
      rw [hl e.on (by omega)]
      simp at hlj ⊢; omega
    have hie : i = p := by
      rcases Nat.lt_or_ge p i with h' | h'
      · have h2 := behind_spec l listed hdown i oi (by simpa using hoi) hri p (hpost i p (by omega) (by omega) hil (by omega))
        rw [hl p hpl] at h2; simp at h2
      · omega
    subst hie
    have hh := h a ha (fun e a' w' => match e with | .normal => wpAnyIn (FR rd) 0 P .any l.toArray Q fuel (listed.setIfInBounds i true) a' w' | e => Q e a' w') (fun F' a' w' hF hK => by
      refine hK hpl hrest Q hQ fuel _ a' hF (by simpa using hsz) (fun j hj => ?_) (count_set h1 hc)
      by_cases hji : j = i
      · subst hji; simp [Array.getD, hsz, hj]
      · rw [getD_set_ne false (Ne.symm hji), hl j hj]
        simp; omega)
    have hoo : oi = o := by
      have : l[i]? = some oi := by simpa using hoi
      rw [hlo] at this; exact (Option.some.inj this).symm
    subst hoo
    unfold wpOpIn
    simp only [hoi]
    unfold wpListIn at hh
    split
    · rename_i hw
      rw [if_pos hw] at hh
      obtain ⟨h0, hh⟩ := hh
      refine ⟨h0, ?_⟩
      generalize (oi.semAt (FR rd).round a.eval).run P w = res at hh ⊢
      cases res with
      | ok nx w1 =>
        cases nx <;> simp only [Oper.uponIn, wpListIn] at hh ⊢ <;> first | exact hh | exact ⟨hh.1, CallsIn.mono hh.2 (fun e w2 he => by cases e <;> exact he)⟩ | exact ⟨hh.1, RoundIn.mono hh.2 (fun e w2 he => by cases e <;> exact he)⟩
      | halt x w1 => cases x <;> simp only [Oper.uponIn] at hh ⊢ <;> exact hh
    · rename_i hw
      rw [if_neg hw] at hh
      exact ⟨hh.1, hh.2⟩

/-- The region, walked part by part. -/
theorem x_parts {id : Nat} {K : Exit → Fr → World → Prop} (hm : P.follows .mixedOrders = true) (h : RG rd P N l 0 l F w.drew (K .normal)) : X rd P N (.region id l.toArray true) F w K := fun a ha => by
  refine wpIn_region_any hm ?_
  exact h (Nat.zero_le _) rfl _ (fun F' a' w' h1 h2 => ⟨F', h1, h2⟩) _ _ a ha (by simp) (fun i hi => by simp [Array.getD]) (by simp)
end
end Go.Proofs.Ytdoihebekbfnbaa
