/- A range over a function whose iterator has memory of its own, which it turns and hands on. -/
import Derived.Test.YtepkhfebflmieaaIter
namespace Go.Proofs.Ytepkhfebflmieaa
open Go.RowKit

/-- **AN ITERATOR's CONTRACT**: it yields values, with memory that goes with each, to whoever keeps his word; 'Hi' is its own memory to begin with, 'Hf' what it leaves. -/
def IterG {α : Type} (P : Program) (gf : Nat) (lb : List Value) (encs : α → List Value) (give : α → Hp) (Hi : Hp) (Hf : List α → Hp) (ok fin : List α → Prop) (C0 : Nat → World → Prop) : Prop :=
  ∀ (B : Nat) (w0 : World), C0 B w0 → ∀ (J : List α → Hp → Prop) (L : Nat),
    (∀ pre x, ok (pre ++ [x]) → ∀ R, J pre R → ∀ T W, Mem B w0 (T ++ (give x ++ R)) W → YieldAt (FR none) 0 P L (encs x).toArray W fun e W' => e = .returned (.bool true) ∧ ∃ R', J (pre ++ [x]) R' ∧ Mem B w0 (T ++ R') W') →
    ∀ R W, J [] R → Mem B w0 (Hi ++ R) W → Calls P gf (.func (.yield L) #[] #[] :: lb).toArray W fun e W' => (∃ v, e = .returned v) ∧ ∃ zs R', fin zs ∧ J zs R' ∧ Mem B w0 (Hf zs ++ R') W'

section
variable {P : Program} {N : Nx} {B : Nat} {w0 : World} {F : Fr} {H : Hp} {ops : Array Oper} {rest : List Oper} {K : Fr → Hp → Prop} {d : Nat} {ty : TypeId} {pos : String} {af : Array Edge} {g : Option (Nat × Bool)} {bw : Bool}
/-- The yield, with memory that goes with it. -/
theorem so_yieldG {x : Operand} {L : Nat} {as_ : Array Operand} {ats : Array TypeId} {vs : List Value} {G R T : Hp} {J' : Hp → Prop} (hx : evO F x = some (.func (.yield L) #[] #[])) (hs : SubH H (T ++ (G ++ R)))
    (hY : ∀ T W, Mem B w0 (T ++ (G ++ R)) W → YieldAt (FR none) 0 P L vs.toArray W fun e W' => e = .returned (.bool true) ∧ ∃ R', J' R' ∧ Mem B w0 (T ++ R') W')
    (hg : wants ops F g = some bw) (hb : bw = true) (hvs : as_.toList.map (evO F) = vs.map some) (hN : d < N.n)
    (h : ∀ R', J' R' → SO none P N B w0 ops rest ((d, .bool true) :: F) (T ++ R') K) :
    SO none P N B w0 ops (⟨some d, .call { callee := .value x, args := as_, argTypes := ats }, ty, pos, af, g⟩ :: rest) F H K := fun w hw => by
  intro a ha Q hQ
  subst hb
  have hw' := wants_spec (o := ⟨some d, .call { callee := .value x, args := as_, argTypes := ats }, ty, pos, af, g⟩) ha hg
  have hw2 : Mem B w0 (T ++ (G ++ R)) w := hw.sub hs
  obtain ⟨fn, tmps, assign, body, hy, hr⟩ := hY T w hw2
  have gen : ∀ ρ : Operand → Value, (∀ x v, evO F x = some v → ρ x = v) → (execOp ρ ⟨some d, .call { callee := .value x, args := as_, argTypes := ats }, ty, pos, af, g⟩).run P w = .ok (.round L fn tmps assign body) w := fun ρ hρ => by
    have e : as_.map ρ = vs.toArray := args_eval hvs hρ
    have e2 := hρ _ _ hx
    simp [execOp, resolve, invoke, e, e2, hy, go_sem]
  have hrun := gen a.eval (fun x v e => ha.ev e)
  unfold wpListIn
  rw [if_pos hw']
  refine ⟨fun _ _ => trivial, ?_⟩
  rw [semAt_of _ hrun (by simp)]
  refine ⟨fun h => by simp [FR, Fence.wide] at h, hr.mono ?_⟩
  rintro e w' ⟨rfl, R', hJ, hM⟩
  exact h R' hJ w' hM _ (ha.put (.bool true) hN) Q hQ
end
section
variable {P : Program} {N : Nx} {B : Nat} {w0 : World} {F : Fr} {H : Hp} {K : Exit → Fr → Hp → Prop}
theorem sq_rangeG {α : Type} {id : Nat} {g : Operand} {ps : List Tmp} {assign body c2 : Code} {gf : Nat} {lb : List Value} (encs : α → List Value) (give : α → Hp) (Hi R0 : Hp) (Hf : List α → Hp) (ok fin : List α → Prop) (J : List α → Hp → Prop) {C0 : Nat → World → Prop}
    (hg : evO F g = some (.func (.func gf) #[] lb.toArray)) (eg : ∀ args w, (callFunc gf args).run P w = .ok (.enter gf args) w) (hmk : N.at_ = none) (hps : ∀ x, (encs x).length = ps.length) (hnd : ps.Nodup) (hpn : ∀ p ∈ ps, p < N.n)
    (hH : SubH H (Hi ++ R0)) (hJ0 : J [] R0) (hit : IterG P gf lb encs give Hi Hf ok fin C0) (hC : ∀ W1, Mem B w0 [] W1 → C0 B W1)
    (hround : ∀ (L : Nat) (W1 : World) pre x R T, Mem B w0 [] W1 → ok (pre ++ [x]) → J pre R → S (some L) P ⟨N.n, none, 0⟩ B W1 assign (ps.zip (encs x) ++ F) (give x ++ R ++ T)
      (fun e F1 H1 => e = .normal ∧ ∃ R1, SubH H1 (R1 ++ T) ∧ ∀ T', S (some L) P ⟨N.n, none, 0⟩ B W1 body F1 (R1 ++ T') (fun e _ H2 => e = .normal ∧ ∃ R', J (pre ++ [x]) R' ∧ SubH H2 (R' ++ T'))))
    (hc2 : ∀ W1 N', Mem B w0 [] W1 → N'.n = N.n → ∀ zs R', fin zs → J zs R' → S none P N' B W1 c2 F (Hf zs ++ R') (onlyRet K)) : SQ none P N B w0 (.block id (.rangeFunc g ps.toArray assign body)) c2 F H K := by
  intro hn w hw a ha
  refine wpIn_block (wpIn_rangeFunc ?_)
  intro fn _
  obtain ⟨rec, hrec⟩ : ∃ rec : LoopState → Option Code → Loop, rec = fun st pe => { state := st, pending := pe, fn, tmps := a.tmps, params := ps.toArray, assign, body, defers := w.heap.size } := ⟨_, rfl⟩
  obtain ⟨W1, hW1⟩ : ∃ W1, (w.alloc (.deferred (some []))).alloc (.loop (rec .ready none)) = W1 := ⟨_, rfl⟩
  have hL1 : W1.heap[w.heap.size + 1]? = some (.loop (rec .ready none)) := by
    rw [← hW1]; have := World.alloc_heap_new (w.alloc (.deferred (some []))) (.loop (rec .ready none)); rwa [World.size_alloc] at this
  have hK1 : W1.heap[w.heap.size]? = some (.deferred (some [])) := by
    rw [← hW1]; exact (Below.heap_alloc _ _ _ (by simp)).trans (World.alloc_heap_new w _)
  have hb1 : Below w.heap.size w W1 := by rw [← hW1]; exact ((Below.refl _ w).alloc (Nat.le_refl _) _).alloc (by simp) _
  have hM0 : Mem B w0 (Hi ++ R0) W1 := (hw.sub hH).keep hb1
  have hbare : Mem B w0 [] W1 := hM0.bare
  have hM1 : Mem B W1 (lob (w.heap.size + 1) (rec .ready none) :: (Hi ++ R0)) W1 := by
    have h := hM0.rebase
    refine ⟨h.below, h.base, fun e he => ?_, ?_, h.others⟩
    · rcases List.mem_cons.1 he with rfl | he
      · exact ⟨hL1, fun g hg => by cases hg; have := hw.le; omega⟩
      · exact h.ok e he
    · rw [List.pairwise_cons]
      refine ⟨fun x hx g hg hx' => ?_, h.apart⟩
      cases hg
      have := x.lt hx' ((hw.sub hH).ok x hx).1
      omega
  refine ⟨w.heap.size + 1, [{ target := .collected w.heap.size, args := #[] }], W1, { target := .fn (.func gf) lb.toArray, args := #[.func (.yield (w.heap.size + 1)) #[] #[]] }, W1, gf,
    (.func (.yield (w.heap.size + 1)) #[] #[] :: lb).toArray, W1, ?_, ?_, fun _ _ => trivial, ?_, (fun h => by simp [FR, Fence.wide] at h), ?_⟩
  · rw [← hW1, hrec]; exact run_enterLoop_outer _ _ _ _ _
  · have e := ha.ev hg
    simp only [resolve, e]
    simp [go_sem]
  · simp [invoke, go_sem, eg]
  · refine callsIn_of ((hit B W1 (hC W1 hbare) (fun pre R => ∃ R', J pre R' ∧ R = lob (w.heap.size + 1) (rec .ready none) :: R') (w.heap.size + 1) ?_ (lob (w.heap.size + 1) (rec .ready none) :: R0) W1 ⟨R0, hJ0, rfl⟩ (hM1.perm List.perm_middle.symm)).mono ?_)
    · rintro pre x hpx _ ⟨R, hJ, rfl⟩ T W hM
      have hpm : (T ++ (give x ++ lob (w.heap.size + 1) (rec .ready none) :: R)).Perm (lob (w.heap.size + 1) (rec .ready none) :: (T ++ (give x ++ R))) := ((List.Perm.append_left T List.perm_middle).trans List.perm_middle)
      have hM' := hM.perm hpm
      obtain ⟨hl, _⟩ := hM'.lob
      have hy := run_yield (P := P) (args := (encs x).toArray) hl (by rw [hrec]; simp [hps])
      rw [hrec] at hy
      refine ⟨fn, _, assign, body, hy, roundIn_of_wpIn trivial ?_⟩
      have hs := hround (w.heap.size + 1) W1 pre x R (lob (w.heap.size + 1) (rec .ready none) :: T) hbare hpx hJ ⟨Nat.zero_le _, fun D hD => by cases hD⟩ W
        (hM'.perm (by
          refine (List.Perm.cons _ List.perm_append_comm).trans ?_
          exact List.perm_middle.symm)) { tmps := _, defers := [] } ⟨(zip_slots ps (encs x) hnd (hps x) N.n hpn F a.tmps ⟨ha.size, ha.at_⟩).size, rfl, (zip_slots ps (encs x) hnd (hps x) N.n hpn F a.tmps ⟨ha.size, ha.at_⟩).at_⟩
      refine wpIn_mono hs ?_
      rintro e a1 w1 ⟨F1, hF1, H1, hm1, rfl, R1, hs1, hbody⟩
      have hm1' : Mem B W1 (lob (w.heap.size + 1) (rec .ready none) :: (R1 ++ T)) w1 := (hm1.sub hs1).perm List.perm_middle
      obtain ⟨hl1, _⟩ := hm1'.lob
      refine ⟨_, run_beginRound hl1 (by rw [hrec]), ?_⟩
      have hm2 := hm1'.lob_set (l' := { rec .ready none with state := .busy })
      refine wpIn_mono (hbody (lob (w.heap.size + 1) { rec .ready none with state := .busy } :: T) ⟨Nat.zero_le _, fun D hD => by cases hD⟩ _ (hm2.perm List.perm_middle.symm) a1 hF1) ?_
      rintro e a2 w2 ⟨F2, _, H2, hm3, rfl, R2, hJ2, hs2⟩
      have hm3' : Mem B W1 (lob (w.heap.size + 1) { rec .ready none with state := .busy } :: (R2 ++ T)) w2 := (hm3.sub hs2).perm List.perm_middle
      obtain ⟨hl3, _⟩ := hm3'.lob
      have hend := run_endRound (P := P) none hl3
      refine ⟨_, _, hend, rfl, _, ⟨R2, hJ2, rfl⟩, ?_⟩
      have hm4 := hm3'.lob_set (l' := rec .ready none)
      have hp : (lob (w.heap.size + 1) (rec .ready none) :: (R2 ++ T)).Perm (T ++ lob (w.heap.size + 1) (rec .ready none) :: R2) := by
        refine (List.Perm.cons _ List.perm_append_comm).trans ?_
        exact List.perm_middle.symm
      rw [hrec] at hm4 ⊢
      exact hm4.perm (by rw [hrec] at hp; exact hp)
    · rintro e W2 ⟨⟨v, rfl⟩, zs, _, hfin, ⟨R2, hJ2, rfl⟩, hM2⟩
      have hM2' := hM2.perm List.perm_middle
      obtain ⟨hl2, _⟩ := hM2'.lob
      have hend := run_endLoop (P := P) hl2 (by rw [hrec]; simp)
      have hpe : (rec .ready none).pending = none := by rw [hrec]
      refine ⟨none, _, hend.trans (congrArg (fun p => Result.ok p _) hpe), ?_⟩
      have hm4 := (hM2'.lob_set (l' := { rec .ready none with state := .exhausted })).tail
      have hm5 : Mem B W1 (Hf zs ++ R2) _ := hm4
      show c2.wpIn (FR none) 0 P _ _ _
      have hd : a.defers = [] := by rw [ha.defers, hmk]; rfl
      refine wpIn_mono (hc2 W1 ⟨N.n, some w.heap.size, N.lb⟩ hbare rfl zs R2 hfin hJ2 ⟨Nat.le_trans hn.1 (Nat.le_trans hw.below.size hb1.size), fun D hD => by cases hD; exact ⟨hK1, Nat.le_trans hn.1 hw.below.size⟩⟩ _ hm5 { a with defers := [{ target := .collected w.heap.size, args := #[] }] ++ a.defers } ⟨ha.size, by show [_] ++ a.defers = _; rw [hd]; rfl, ha.at_⟩) ?_
      rintro e a3 w3 ⟨F3, hF3, H3, hm6, hk⟩
      cases e with
      | ret => exact ⟨F3, hF3, H3, hbare.trans hm6, hk⟩
      | _ => exact hk.elim
end
end Go.Proofs.Ytepkhfebflmieaa
