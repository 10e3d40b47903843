/- A range over a function: the iterator's own contract, the rounds, what stands behind. -/
import Derived.Test.YtepkhfebflmieaaOpc
import Derived.RangeFuncSeq
import Derived.RangeFuncRecord
import Derived.RangeFuncIn
namespace Go.Proofs.Ytepkhfebflmieaa
open Go.RowKit

/-- A loop's record. -/
def lob (g : Nat) (l : Loop) : Ent where
  foot := some g
  ok w := w.heap[g]? = some (.loop l)
  keep h hw := (h g rfl).trans hw
  lt e hw := by cases e; exact (Array.getElem?_eq_some_iff.1 hw).1
  nd e hw := by cases e; intro h; rw [show _ = _ from hw] at h; cases h

section
variable {B : Nat} {w0 w w' : World} {H H' R T : Hp} {e : Ent}
theorem Mem.perm (hp : H.Perm H') (h : Mem B w0 H w) : Mem B w0 H' w :=
  ⟨h.below, h.base, fun e he => h.ok e (hp.mem_iff.2 he), (hp.pairwise_iff (fun {_ _} h => Apart.symm h)).1 h.apart, h.others⟩
theorem Mem.rebase (h : Mem B w0 H w) : Mem B w H w := ⟨Below.refl _ _, h.le, h.ok, h.apart, fun _ _ h => h⟩
theorem Mem.trans {X : Hp} {w1 : World} (h0 : Mem B w0 X w1) (h : Mem B w1 H w) : Mem B w0 H w := ⟨h0.below.trans h.below, h0.base, h.ok, h.apart, fun k c hk => h.others k c (h0.others k c hk)⟩
theorem Mem.bare (h : Mem B w0 H w) : Mem B w0 [] w := h.sub .nil
theorem Mem.lob {g : Nat} {l : Loop} (h : Mem B w0 (lob g l :: H) w) : w.heap[g]? = some (.loop l) ∧ B ≤ g := ⟨(h.ok _ (List.mem_cons_self ..)).1, (h.ok _ (List.mem_cons_self ..)).2 g rfl⟩
theorem Mem.lob_set {g : Nat} {l l' : Loop} (h : Mem B w0 (Go.Proofs.Ytepkhfebflmieaa.lob g l :: H) w) : Mem B w0 (Go.Proofs.Ytepkhfebflmieaa.lob g l' :: H) (w.putObj g (.loop l')) := by
  obtain ⟨h1, h2⟩ := h.lob
  have hlt := (Array.getElem?_eq_some_iff.1 h1).1
  refine h.upd .here ((Below.refl B w).grown (grownBy_putObj' w g _) h.le (fun k e => by cases e; exact h2)) (fun k _ hne => World.putObj_heap_other (fun e => hne (by rw [e]; rfl))) (World.putObj_heap_same hlt) (fun q hq => .inl hq)
theorem RdH.rebase {α : Type} {c : α → List Value} {sz : Nat} {A : Option Addr} {l : List α} {w1 : World} {X : Hp} (h : RdH B w0 [] c sz A l) (h1 : Mem B w0 X w1) (Y : Hp) : RdH B w1 Y c sz A l := fun w hw => h w (h1.trans hw).bare
theorem Rw.rebase {b o : Nat} {cs : List Value} {w1 : World} {X : Hp} (h : Rw B w0 [] b o cs) (h1 : Mem B w0 X w1) : Rw B w1 [] b o cs := fun w hw => h w (h1.trans hw).bare
end

/-- **AN ITERATOR's CONTRACT**: it yields this list, in order, to whoever keeps his word of each; its own memory is 'Hi' to begin with. -/
def IterC {α : Type} (P : Program) (gf : Nat) (lb : List Value) (encs : α → List Value) (Hi : Hp) (l : List α) (C0 : Nat → World → Prop) : Prop :=
  ∀ (B : Nat) (w0 : World), C0 B w0 → ∀ (J : List α → Hp → Prop) (L : Nat),
    (∀ pre x, (∃ suf, l = pre ++ x :: suf) → ∀ R, J pre R → ∀ T W, Mem B w0 (T ++ R) W → YieldAt (FR none) 0 P L (encs x).toArray W fun e W' => e = .returned (.bool true) ∧ ∃ R', J (pre ++ [x]) R' ∧ Mem B w0 (T ++ R') W') →
    ∀ R W, J [] R → Mem B w0 (Hi ++ R) W → Calls P gf (.func (.yield L) #[] #[] :: lb).toArray W fun e W' => (∃ v, e = .returned v) ∧ ∃ R' Hx, J l R' ∧ Mem B w0 (Hx ++ R') W'

section
variable {P : Program} {N : Nx} {B : Nat} {w0 : World} {F : Fr} {H : Hp} {ops : Array Oper} {rest : List Oper} {K : Fr → Hp → Prop} {d : Nat} {ty : TypeId} {pos : String} {af : Array Edge} {g : Option (Nat × Bool)} {bw : Bool}

/-- The yield, in the iterator's walk. -/
theorem so_yield {x : Operand} {L : Nat} {as_ : Array Operand} {ats : Array TypeId} {vs : List Value} {R T : Hp} {J' : Hp → Prop} (hx : evO F x = some (.func (.yield L) #[] #[])) (hcat : CatH T R H)
    (hY : ∀ T W, Mem B w0 (T ++ R) W → YieldAt (FR none) 0 P L vs.toArray W fun e W' => e = .returned (.bool true) ∧ ∃ R', J' R' ∧ Mem B w0 (T ++ R') W')
    (hg : wants ops F g = some bw) (hb : bw = true) (hvs : as_.toList.map (evO F) = vs.map some) (hN : d < N.n)
    (h : ∀ R', J' R' → ∀ H', CatH T R' H' → SO none P N B w0 ops rest ((d, .bool true) :: F) H' K) :
    SO none P N B w0 ops (⟨some d, .call { callee := .value x, args := as_, argTypes := ats }, ty, pos, af, g⟩ :: rest) F H K := fun w hw => by
  intro a ha Q hQ
  subst hb
  have hw' := wants_spec (o := ⟨some d, .call { callee := .value x, args := as_, argTypes := ats }, ty, pos, af, g⟩) ha hg
  have hw2 : Mem B w0 (T ++ R) w := by rw [hcat.eq]; exact hw
  obtain ⟨fn, tmps, assign, body, hy, hr⟩ := hY T w hw2
  have gen : ∀ ρ : Operand → Value, (∀ x v, evO F x = some v → ρ x = v) → (execOp ρ ⟨some d, .call { callee := .value x, args := as_, argTypes := ats }, ty, pos, af, g⟩).run P w = .ok (.round L fn tmps assign body) w := fun ρ hρ => by
    have e : as_.map ρ = vs.toArray := args_eval hvs hρ
    have e2 := hρ _ _ hx
    simp [execOp, resolve, invoke, e, e2, hy, go_sem]
  have hrun := gen a.eval (fun x v e => ha.ev e)
  unfold wpListIn
  rw [if_pos hw']
  refine ⟨fun _ _ => trivial, ?_⟩
  rw [semAt_of _ hrun (by simp)]
  refine ⟨fun h => by simp [FR, Fence.wide] at h, hr.mono ?_⟩
  rintro e w' ⟨rfl, R', hJ, hM⟩
  exact h R' hJ _ (catH_of T R') w' hM _ (ha.put (.bool true) hN) Q hQ
where
  catH_of : ∀ (T R : Hp), CatH T R (T ++ R)
    | [], _ => .nil
    | _ :: T, R => .cons (catH_of T R)
end

theorem zip_slots (ps : List Tmp) (vs : List Value) (hnd : ps.Nodup) (hl : vs.length = ps.length) (n : Nat) (hn : ∀ p ∈ ps, p < n) (F : Fr) (t : Array Value) (h : HasS n F { tmps := t, defers := [] }) :
    HasS n (ps.zip vs ++ F) { tmps := (ps.toArray.zip vs.toArray).foldl (fun t (p, v) => t.setIfInBounds p v) t, defers := [] } := by
  have e : (ps.toArray.zip vs.toArray).foldl (fun t (p, v) => t.setIfInBounds p v) t = (ps.zip vs).foldl (fun t (p, v) => t.setIfInBounds p v) t := by
    simp
  rw [e]
  clear e
  induction ps generalizing vs t F with
  | nil => simpa using h
  | cons p ps ih =>
    cases vs with
    | nil => simp at hl
    | cons v vs =>
      rw [List.zip_cons_cons, List.foldl_cons]
      have h2 : HasS n ((p, v) :: F) { tmps := t.setIfInBounds p v, defers := [] } := by
        have hsz : t.size = n := h.size
        have hp : p < t.size := by rw [hsz]; exact hn p (by simp)
        refine ⟨by simpa using hsz, fun s u e => ?_⟩
        rw [List.lookup_cons] at e
        by_cases hs : s = p
        · subst hs; simp at e; subst e; simp [hp]
        · have hb : (s == p) = false := by simpa using hs
          rw [hb] at e
          have := h.at_ s u e
          simp only [Array.getElem?_setIfInBounds_ne (Ne.symm hs)]; exact this
      have := ih vs (List.nodup_cons.1 hnd).2 (by simpa using hl) (fun q hq => hn q (by simp [hq])) _ _ h2
      refine ⟨this.size, fun s u e => this.at_ s u ?_⟩
      rw [List.cons_append, List.lookup_cons] at e
      by_cases hs : s = p
      · subst hs
        simp at e; subst e
        have hnot : ∀ (ps : List Tmp) (vs : List Value), s ∉ ps → ((ps.zip vs) ++ (s, v) :: F).lookup s = some v := by
          intro ps
          induction ps with
          | nil => intro vs _; simp
          | cons q ps ih2 =>
            intro vs hq
            cases vs with
            | nil => simp
            | cons u vs =>
              rw [List.zip_cons_cons, List.cons_append, List.lookup_cons]
              have : (s == q) = false := by simp only [beq_eq_false_iff_ne, ne_eq]; exact fun e => hq (by simp [e])
              rw [this]; exact ih2 vs (fun h => hq (by simp [h]))
        exact hnot ps vs (List.nodup_cons.1 hnd).1
      · have hb : (s == p) = false := by simpa using hs
        rw [hb] at e
        have key : ∀ (X : Fr), (X ++ F).lookup s = some u → (X ++ (p, v) :: F).lookup s = some u := by
          intro X
          induction X with
          | nil => intro h; rw [List.nil_append, List.lookup_cons, hb]; exact h
          | cons y X ih2 =>
            obtain ⟨y1, y2⟩ := y
            intro h
            rw [List.cons_append, List.lookup_cons] at h ⊢
            cases hy : s == y1 with
            | true => rw [hy] at h; exact h
            | false => rw [hy] at h; exact ih2 h
        exact key _ e

/-- Where a function only returns from here on. -/
def onlyRet (K : Exit → Fr → Hp → Prop) : Exit → Fr → Hp → Prop
  | .ret, F, H => K .ret F H
  | _, _, _ => False
theorem onlyRet_r {K : Exit → Fr → Hp → Prop} {F : Fr} {H : Hp} (h : K .ret F H) : onlyRet K .ret F H := h

section
variable {P : Program} {N : Nx} {B : Nat} {w0 : World} {F : Fr} {H : Hp} {K : Exit → Fr → Hp → Prop}

/-- What stands ahead of c2, of which the last part may leave what defers behind. -/
def SQ (rd : Option Nat) (P : Program) (N : Nx) (B : Nat) (w0 : World) (r c2 : Code) (F : Fr) (H : Hp) (K : Exit → Fr → Hp → Prop) : Prop :=
  NOk N w0 → ∀ w, Mem B w0 H w → ∀ a, Has N F a → r.wpIn (FR rd) 0 P (Exit.then (c2.wpIn (FR rd) 0 P (fun e a' w' => ∃ F', HasE N e F' a' w' ∧ ∃ H', Mem B w0 H' w' ∧ K e F' H')) (fun e a' w' => ∃ F', HasE N e F' a' w' ∧ ∃ H', Mem B w0 H' w' ∧ K e F' H')) a w
theorem sq_start {rd : Option Nat} {r c2 : Code} (h : SQ rd P N B w0 r c2 F H K) : S rd P N B w0 (.seq r c2) F H K := fun hn w hw a ha => wpIn_seq (h hn w hw a ha)
theorem sq_seq {rd : Option Nat} {c r c2 : Code} (h : S rd P N B w0 c F H (thenH (fun F' H' => SQ rd P N B w0 r c2 F' H' K) K)) : SQ rd P N B w0 (.seq c r) c2 F H K := fun hn w hw a ha => by
  refine wpIn_seq (wpIn_mono (h hn w hw a ha) ?_)
  rintro e a' w' ⟨F', h1, H', h2, h3⟩
  cases e with
  | normal => exact h3 hn w' h2 a' h1
  | _ => exact ⟨F', h1, H', h2, h3⟩

theorem sq_range {α : Type} {g : Operand} {ps : List Tmp} {assign body c2 : Code} {gf : Nat} {lb : List Value} (l : List α) (encs : α → List Value) (Hi R0 : Hp) (J : List α → Hp → Prop) {C0 : Nat → World → Prop}
    (hg : evO F g = some (.func (.func gf) #[] lb.toArray)) (eg : ∀ args w, (callFunc gf args).run P w = .ok (.enter gf args) w) (hmk : N.at_ = none) (hps : ∀ x, (encs x).length = ps.length) (hnd : ps.Nodup) (hpn : ∀ p ∈ ps, p < N.n)
    (hH : SubH H (Hi ++ R0)) (hJ0 : J [] R0) (hit : IterC P gf lb encs Hi l C0) (hC : ∀ W1, Mem B w0 [] W1 → C0 B W1)
    (hround : ∀ (L : Nat) (W1 : World) pre x R T, Mem B w0 [] W1 → (∃ suf, l = pre ++ x :: suf) → J pre R → S (some L) P ⟨N.n, none, 0⟩ B W1 assign (ps.zip (encs x) ++ F) (R ++ T)
      (fun e F1 H1 => e = .normal ∧ ∃ R1, SubH H1 (R1 ++ T) ∧ ∀ T', S (some L) P ⟨N.n, none, 0⟩ B W1 body F1 (R1 ++ T') (fun e _ H2 => e = .normal ∧ ∃ R', J (pre ++ [x]) R' ∧ SubH H2 (R' ++ T'))))
    (hc2 : ∀ W1 N', Mem B w0 [] W1 → N'.n = N.n → ∀ R', J l R' → S none P N' B W1 c2 F R' (onlyRet K)) : SQ none P N B w0 (.rangeFunc g ps.toArray assign body) c2 F H K := by
  intro hn w hw a ha
  refine wpIn_rangeFunc ?_
  intro fn _
  obtain ⟨rec, hrec⟩ : ∃ rec : LoopState → Option Code → Loop, rec = fun st pe => { state := st, pending := pe, fn, tmps := a.tmps, params := ps.toArray, assign, body, defers := w.heap.size } := ⟨_, rfl⟩
  obtain ⟨W1, hW1⟩ : ∃ W1, (w.alloc (.deferred (some []))).alloc (.loop (rec .ready none)) = W1 := ⟨_, rfl⟩
  have hL1 : W1.heap[w.heap.size + 1]? = some (.loop (rec .ready none)) := by
    rw [← hW1]; have := World.alloc_heap_new (w.alloc (.deferred (some []))) (.loop (rec .ready none)); rwa [World.size_alloc] at this
  have hK1 : W1.heap[w.heap.size]? = some (.deferred (some [])) := by
    rw [← hW1]; exact (Below.heap_alloc _ _ _ (by simp)).trans (World.alloc_heap_new w _)
  have hb1 : Below w.heap.size w W1 := by rw [← hW1]; exact ((Below.refl _ w).alloc (Nat.le_refl _) _).alloc (by simp) _
  have hM0 : Mem B w0 (Hi ++ R0) W1 := (hw.sub hH).keep hb1
  have hbare : Mem B w0 [] W1 := hM0.bare
  have hM1 : Mem B W1 (lob (w.heap.size + 1) (rec .ready none) :: (Hi ++ R0)) W1 := by
    have h := hM0.rebase
    refine ⟨h.below, h.base, fun e he => ?_, ?_, h.others⟩
    · rcases List.mem_cons.1 he with rfl | he
      · exact ⟨hL1, fun g hg => by cases hg; have := hw.le; omega⟩
      · exact h.ok e he
    · rw [List.pairwise_cons]
      refine ⟨fun x hx g hg hx' => ?_, h.apart⟩
      cases hg
      have := x.lt hx' ((hw.sub hH).ok x hx).1
      omega
  refine ⟨w.heap.size + 1, [{ target := .collected w.heap.size, args := #[] }], W1, { target := .fn (.func gf) lb.toArray, args := #[.func (.yield (w.heap.size + 1)) #[] #[]] }, W1, gf,
    (.func (.yield (w.heap.size + 1)) #[] #[] :: lb).toArray, W1, ?_, ?_, fun _ _ => trivial, ?_, (fun h => by simp [FR, Fence.wide] at h), ?_⟩
  · rw [← hW1, hrec]; exact run_enterLoop_outer _ _ _ _ _
  · have e := ha.ev hg
    simp only [resolve, e]
    simp [go_sem]
  · simp [invoke, go_sem, eg]
  · refine callsIn_of ((hit B W1 (hC W1 hbare) (fun pre R => ∃ R', J pre R' ∧ R = lob (w.heap.size + 1) (rec .ready none) :: R') (w.heap.size + 1) ?_ (lob (w.heap.size + 1) (rec .ready none) :: R0) W1 ⟨R0, hJ0, rfl⟩ (hM1.perm List.perm_middle.symm)).mono ?_)
    · rintro pre x hpx _ ⟨R, hJ, rfl⟩ T W hM
      have hM' := hM.perm List.perm_middle
      obtain ⟨hl, _⟩ := hM'.lob
      have hy := run_yield (P := P) (args := (encs x).toArray) hl (by rw [hrec]; simp [hps])
      rw [hrec] at hy
      refine ⟨fn, _, assign, body, hy, roundIn_of_wpIn trivial ?_⟩
      have hs := hround (w.heap.size + 1) W1 pre x R (lob (w.heap.size + 1) (rec .ready none) :: T) hbare hpx hJ ⟨Nat.zero_le _, fun D hD => by cases hD⟩ W
        (hM.perm (by
          refine (List.perm_append_comm).trans ?_
          exact List.perm_middle.symm)) { tmps := _, defers := [] } ⟨(zip_slots ps (encs x) hnd (hps x) N.n hpn F a.tmps ⟨ha.size, ha.at_⟩).size, rfl, (zip_slots ps (encs x) hnd (hps x) N.n hpn F a.tmps ⟨ha.size, ha.at_⟩).at_⟩
      refine wpIn_mono hs ?_
      rintro e a1 w1 ⟨F1, hF1, H1, hm1, rfl, R1, hs1, hbody⟩
      have hm1' : Mem B W1 (lob (w.heap.size + 1) (rec .ready none) :: (R1 ++ T)) w1 := (hm1.sub hs1).perm List.perm_middle
      obtain ⟨hl1, _⟩ := hm1'.lob
      refine ⟨_, run_beginRound hl1 (by rw [hrec]), ?_⟩
      have hm2 := hm1'.lob_set (l' := { rec .ready none with state := .busy })
      refine wpIn_mono (hbody (lob (w.heap.size + 1) { rec .ready none with state := .busy } :: T) ⟨Nat.zero_le _, fun D hD => by cases hD⟩ _ (hm2.perm List.perm_middle.symm) a1 hF1) ?_
      rintro e a2 w2 ⟨F2, _, H2, hm3, rfl, R2, hJ2, hs2⟩
      have hm3' : Mem B W1 (lob (w.heap.size + 1) { rec .ready none with state := .busy } :: (R2 ++ T)) w2 := (hm3.sub hs2).perm List.perm_middle
      obtain ⟨hl3, _⟩ := hm3'.lob
      have hend := run_endRound (P := P) none hl3
      refine ⟨_, _, hend, rfl, _, ⟨R2, hJ2, rfl⟩, ?_⟩
      have hm4 := hm3'.lob_set (l' := rec .ready none)
      have hp : (lob (w.heap.size + 1) (rec .ready none) :: (R2 ++ T)).Perm (T ++ lob (w.heap.size + 1) (rec .ready none) :: R2) := by
        refine (List.Perm.cons _ List.perm_append_comm).trans ?_
        exact List.perm_middle.symm
      rw [hrec] at hm4 ⊢
      exact hm4.perm (by rw [hrec] at hp; exact hp)
    · rintro e W2 ⟨⟨v, rfl⟩, _, Hx, ⟨R2, hJ2, rfl⟩, hM2⟩
      have hM2' := hM2.perm List.perm_middle
      obtain ⟨hl2, _⟩ := hM2'.lob
      have hend := run_endLoop (P := P) hl2 (by rw [hrec]; simp)
      have hpe : (rec .ready none).pending = none := by rw [hrec]
      refine ⟨none, _, hend.trans (congrArg (fun p => Result.ok p _) hpe), ?_⟩
      have hm4 := (hM2'.lob_set (l' := { rec .ready none with state := .exhausted })).tail
      have hm5 : Mem B W1 R2 _ := hm4.sub (by
        have : ∀ (X Y : Hp), SubH (X ++ Y) Y := fun X Y => by
          induction X with
          | nil => exact .refl
          | cons x X ih => exact .drop ih
        exact this Hx R2)
      show c2.wpIn (FR none) 0 P _ _ _
      have hd : a.defers = [] := by rw [ha.defers, hmk]; rfl
      refine wpIn_mono (hc2 W1 ⟨N.n, some w.heap.size, N.lb⟩ hbare rfl R2 hJ2 ⟨Nat.le_trans hn.1 (Nat.le_trans hw.below.size hb1.size), fun D hD => by cases hD; exact ⟨hK1, Nat.le_trans hn.1 hw.below.size⟩⟩ _ hm5 { a with defers := [{ target := .collected w.heap.size, args := #[] }] ++ a.defers } ⟨ha.size, by show [_] ++ a.defers = _; rw [hd]; rfl, ha.at_⟩) ?_
      rintro e a3 w3 ⟨F3, hF3, H3, hm6, hk⟩
      cases e with
      | ret => exact ⟨F3, hF3, H3, hbare.trans hm6, hk⟩
      | _ => exact hk.elim
theorem sq_rangeB {α : Type} {id : Nat} {g : Operand} {ps : List Tmp} {assign body c2 : Code} {gf : Nat} {lb : List Value} (l : List α) (encs : α → List Value) (Hi R0 : Hp) (J : List α → Hp → Prop) {C0 : Nat → World → Prop}
    (hg : evO F g = some (.func (.func gf) #[] lb.toArray)) (eg : ∀ args w, (callFunc gf args).run P w = .ok (.enter gf args) w) (hmk : N.at_ = none) (hps : ∀ x, (encs x).length = ps.length) (hnd : ps.Nodup) (hpn : ∀ p ∈ ps, p < N.n)
    (hH : SubH H (Hi ++ R0)) (hJ0 : J [] R0) (hit : IterC P gf lb encs Hi l C0) (hC : ∀ W1, Mem B w0 [] W1 → C0 B W1)
    (hround : ∀ (L : Nat) (W1 : World) pre x R T, Mem B w0 [] W1 → (∃ suf, l = pre ++ x :: suf) → J pre R → S (some L) P ⟨N.n, none, 0⟩ B W1 assign (ps.zip (encs x) ++ F) (R ++ T)
      (fun e F1 H1 => e = .normal ∧ ∃ R1, SubH H1 (R1 ++ T) ∧ ∀ T', S (some L) P ⟨N.n, none, 0⟩ B W1 body F1 (R1 ++ T') (fun e _ H2 => e = .normal ∧ ∃ R', J (pre ++ [x]) R' ∧ SubH H2 (R' ++ T'))))
    (hc2 : ∀ W1 N', Mem B w0 [] W1 → N'.n = N.n → ∀ R', J l R' → S none P N' B W1 c2 F R' (onlyRet K)) : SQ none P N B w0 (.block id (.rangeFunc g ps.toArray assign body)) c2 F H K := by
  intro hn w hw a ha
  refine wpIn_block (wpIn_rangeFunc ?_)
  intro fn _
  obtain ⟨rec, hrec⟩ : ∃ rec : LoopState → Option Code → Loop, rec = fun st pe => { state := st, pending := pe, fn, tmps := a.tmps, params := ps.toArray, assign, body, defers := w.heap.size } := ⟨_, rfl⟩
  obtain ⟨W1, hW1⟩ : ∃ W1, (w.alloc (.deferred (some []))).alloc (.loop (rec .ready none)) = W1 := ⟨_, rfl⟩
  have hL1 : W1.heap[w.heap.size + 1]? = some (.loop (rec .ready none)) := by
    rw [← hW1]; have := World.alloc_heap_new (w.alloc (.deferred (some []))) (.loop (rec .ready none)); rwa [World.size_alloc] at this
  have hK1 : W1.heap[w.heap.size]? = some (.deferred (some [])) := by
    rw [← hW1]; exact (Below.heap_alloc _ _ _ (by simp)).trans (World.alloc_heap_new w _)
  have hb1 : Below w.heap.size w W1 := by rw [← hW1]; exact ((Below.refl _ w).alloc (Nat.le_refl _) _).alloc (by simp) _
  have hM0 : Mem B w0 (Hi ++ R0) W1 := (hw.sub hH).keep hb1
  have hbare : Mem B w0 [] W1 := hM0.bare
  have hM1 : Mem B W1 (lob (w.heap.size + 1) (rec .ready none) :: (Hi ++ R0)) W1 := by
    have h := hM0.rebase
    refine ⟨h.below, h.base, fun e he => ?_, ?_, h.others⟩
    · rcases List.mem_cons.1 he with rfl | he
      · exact ⟨hL1, fun g hg => by cases hg; have := hw.le; omega⟩
      · exact h.ok e he
    · rw [List.pairwise_cons]
      refine ⟨fun x hx g hg hx' => ?_, h.apart⟩
      cases hg
      have := x.lt hx' ((hw.sub hH).ok x hx).1
      omega
  refine ⟨w.heap.size + 1, [{ target := .collected w.heap.size, args := #[] }], W1, { target := .fn (.func gf) lb.toArray, args := #[.func (.yield (w.heap.size + 1)) #[] #[]] }, W1, gf,
    (.func (.yield (w.heap.size + 1)) #[] #[] :: lb).toArray, W1, ?_, ?_, fun _ _ => trivial, ?_, (fun h => by simp [FR, Fence.wide] at h), ?_⟩
  · rw [← hW1, hrec]; exact run_enterLoop_outer _ _ _ _ _
  · have e := ha.ev hg
    simp only [resolve, e]
    simp [go_sem]
  · simp [invoke, go_sem, eg]
  · refine callsIn_of ((hit B W1 (hC W1 hbare) (fun pre R => ∃ R', J pre R' ∧ R = lob (w.heap.size + 1) (rec .ready none) :: R') (w.heap.size + 1) ?_ (lob (w.heap.size + 1) (rec .ready none) :: R0) W1 ⟨R0, hJ0, rfl⟩ (hM1.perm List.perm_middle.symm)).mono ?_)
    · rintro pre x hpx _ ⟨R, hJ, rfl⟩ T W hM
      have hM' := hM.perm List.perm_middle
      obtain ⟨hl, _⟩ := hM'.lob
      have hy := run_yield (P := P) (args := (encs x).toArray) hl (by rw [hrec]; simp [hps])
      rw [hrec] at hy
      refine ⟨fn, _, assign, body, hy, roundIn_of_wpIn trivial ?_⟩
      have hs := hround (w.heap.size + 1) W1 pre x R (lob (w.heap.size + 1) (rec .ready none) :: T) hbare hpx hJ ⟨Nat.zero_le _, fun D hD => by cases hD⟩ W
        (hM.perm (by
          refine (List.perm_append_comm).trans ?_
          exact List.perm_middle.symm)) { tmps := _, defers := [] } ⟨(zip_slots ps (encs x) hnd (hps x) N.n hpn F a.tmps ⟨ha.size, ha.at_⟩).size, rfl, (zip_slots ps (encs x) hnd (hps x) N.n hpn F a.tmps ⟨ha.size, ha.at_⟩).at_⟩
      refine wpIn_mono hs ?_
      rintro e a1 w1 ⟨F1, hF1, H1, hm1, rfl, R1, hs1, hbody⟩
      have hm1' : Mem B W1 (lob (w.heap.size + 1) (rec .ready none) :: (R1 ++ T)) w1 := (hm1.sub hs1).perm List.perm_middle
      obtain ⟨hl1, _⟩ := hm1'.lob
      refine ⟨_, run_beginRound hl1 (by rw [hrec]), ?_⟩
      have hm2 := hm1'.lob_set (l' := { rec .ready none with state := .busy })
      refine wpIn_mono (hbody (lob (w.heap.size + 1) { rec .ready none with state := .busy } :: T) ⟨Nat.zero_le _, fun D hD => by cases hD⟩ _ (hm2.perm List.perm_middle.symm) a1 hF1) ?_
      rintro e a2 w2 ⟨F2, _, H2, hm3, rfl, R2, hJ2, hs2⟩
      have hm3' : Mem B W1 (lob (w.heap.size + 1) { rec .ready none with state := .busy } :: (R2 ++ T)) w2 := (hm3.sub hs2).perm List.perm_middle
      obtain ⟨hl3, _⟩ := hm3'.lob
      have hend := run_endRound (P := P) none hl3
      refine ⟨_, _, hend, rfl, _, ⟨R2, hJ2, rfl⟩, ?_⟩
      have hm4 := hm3'.lob_set (l' := rec .ready none)
      have hp : (lob (w.heap.size + 1) (rec .ready none) :: (R2 ++ T)).Perm (T ++ lob (w.heap.size + 1) (rec .ready none) :: R2) := by
        refine (List.Perm.cons _ List.perm_append_comm).trans ?_
        exact List.perm_middle.symm
      rw [hrec] at hm4 ⊢
      exact hm4.perm (by rw [hrec] at hp; exact hp)
    · rintro e W2 ⟨⟨v, rfl⟩, _, Hx, ⟨R2, hJ2, rfl⟩, hM2⟩
      have hM2' := hM2.perm List.perm_middle
      obtain ⟨hl2, _⟩ := hM2'.lob
      have hend := run_endLoop (P := P) hl2 (by rw [hrec]; simp)
      have hpe : (rec .ready none).pending = none := by rw [hrec]
      refine ⟨none, _, hend.trans (congrArg (fun p => Result.ok p _) hpe), ?_⟩
      have hm4 := (hM2'.lob_set (l' := { rec .ready none with state := .exhausted })).tail
      have hm5 : Mem B W1 R2 _ := hm4.sub (by
        have : ∀ (X Y : Hp), SubH (X ++ Y) Y := fun X Y => by
          induction X with
          | nil => exact .refl
          | cons x X ih => exact .drop ih
        exact this Hx R2)
      show c2.wpIn (FR none) 0 P _ _ _
      have hd : a.defers = [] := by rw [ha.defers, hmk]; rfl
      refine wpIn_mono (hc2 W1 ⟨N.n, some w.heap.size, N.lb⟩ hbare rfl R2 hJ2 ⟨Nat.le_trans hn.1 (Nat.le_trans hw.below.size hb1.size), fun D hD => by cases hD; exact ⟨hK1, Nat.le_trans hn.1 hw.below.size⟩⟩ _ hm5 { a with defers := [{ target := .collected w.heap.size, args := #[] }] ++ a.defers } ⟨ha.size, by show [_] ++ a.defers = _; rw [hd]; rfl, ha.at_⟩) ?_
      rintro e a3 w3 ⟨F3, hF3, H3, hm6, hk⟩
      cases e with
      | ret => exact ⟨F3, hF3, H3, hbare.trans hm6, hk⟩
      | _ => exact hk.elim
end
end Go.Proofs.Ytepkhfebflmieaa
