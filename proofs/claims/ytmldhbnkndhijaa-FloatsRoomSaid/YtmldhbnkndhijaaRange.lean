/- A range over a function whose iterator and whose body are both at hand: what holds when a round begins, when it ends, when it leaves, said of worlds. -/
import Derived.Test.YtmldhbnkndhijaaBase
import Derived.RangeFuncNested
import Derived.RangeFuncBound
import Derived.RangeFuncCalls
import Derived.RangeFuncLeaves
import Derived.Shelf.Abstract
import Derived.Shelf.RegionOpen
import Derived.WalkKit
import Derived.OwnWalkIn
import Derived.TacticsInMore
import Derived.LoopNIn
import Derived.LoopIn
namespace Go.Proofs.Ytmldhbnkndhijaa
open Go.RowKit Go.Shelf

/-- A word on worlds that does not mind what becomes of a block from B on that holds no cells. -/
def Idle (B : Nat) (I : World → Prop) : Prop := ∀ (W : World) (r : Nat) (o o' : Obj), I W → B ≤ r → W.heap[r]? = some o → o.isCells = false → I (W.putObj r o')

theorem Idle.and {B : Nat} {I J : World → Prop} (h : Idle B I) (k : Idle B J) : Idle B (fun W => I W ∧ J W) := fun W r o o' hs hB hl ho => ⟨h W r o o' hs.1 hB hl ho, k W r o o' hs.2 hB hl ho⟩
theorem idle_const (B : Nat) (p : Prop) : Idle B (fun _ => p) := fun _ _ _ _ h _ _ _ => h
theorem idle_ex {B : Nat} {α : Sort _} {I : α → World → Prop} (h : ∀ x, Idle B (I x)) : Idle B (fun W => ∃ x, I x W) := fun W r o o' ⟨x, hx⟩ hB hl ho => ⟨x, h x W r o o' hx hB hl ho⟩
theorem idle_below {B C : Nat} (w : World) (hB : C ≤ B) (hw : C ≤ w.heap.size) : Idle B (fun W => Below C w W) := fun W r o o' h hr _ _ => h.grown (grownBy_putObj' W r o') (Nat.le_trans hw h.size) (fun k e => by cases e; omega)
theorem idle_cell (B : Nat) (a : Addr) (v : Value) : Idle B (fun W => W.cell? a = some v) := fun W r o o' h _ hl ho => cell_kept h (grownBy_putObj' W r o') (fun k e => by cases e; exact ⟨o, hl, ho⟩)
theorem idle_frozen (B : Nat) (a : Addr) (v : Value) : Idle B (fun W => W.cell? a = some v ∧ W.frozen? a = false) := fun W r o o' h _ hl ho =>
  ⟨cell_kept h.1 (grownBy_putObj' W r o') (fun k e => by cases e; exact ⟨o, hl, ho⟩), (frozen_kept h.1 (grownBy_putObj' W r o') (fun k e => by cases e; exact ⟨o, hl, ho⟩)).trans h.2⟩
theorem idle_block (B : Nat) (b : Nat) (cs : Array Value) (t : TypeId) (f : Nat × Nat) : Idle B (fun W => W.heap[b]? = some (.cells cs t f)) := fun W r o o' h _ hl ho => by
  refine (World.putObj_heap_other (fun e => ?_)).trans h
  subst e
  rw [h] at hl; cases hl; cases ho

theorem idle_blk (B : Nat) (b : Nat) (cs : Array Value) (t : TypeId) : Idle B (fun W => Blk W b t cs) := idle_block B b cs t (0, 0)

theorem keepsOthers_below {B : Nat} {W W' : World} (h : Below B W W') (hB : W.heap.size ≤ B) : KeepsOthers W W' :=
  ⟨h.size, fun k o hk _ => (h.block k (Nat.lt_of_lt_of_le (Array.getElem?_eq_some_iff.1 hk).1 hB)).trans hk⟩

theorem below_putObj {B : Nat} {w W : World} {r : Nat} (h : Below B w W) (hB : B ≤ w.heap.size) (hr : B ≤ r) (o' : Obj) : Below B w (W.putObj r o') :=
  h.grown (grownBy_putObj' W r o') (Nat.le_trans hB h.size) (fun k e => by cases e; exact hr)

theorem cell_putObj {W : World} {r : Nat} {o : Obj} {a : Addr} {v : Value} (h : W.cell? a = some v) (hl : W.heap[r]? = some o) (ho : o.isCells = false) (o' : Obj) : (W.putObj r o').cell? a = some v :=
  cell_kept h (grownBy_putObj' W r o') (fun k e => by cases e; exact ⟨o, hl, ho⟩)

/-- How a round's body may be left. -/
def roundOut (Go : World → Prop) (Out : Code → World → Prop) (W : World) : Exit → Act → World → Prop
  | .normal, _, W' => KeepsOthers W W' ∧ Go W'
  | .ret, _, W' => KeepsOthers W W' ∧ Out .ret W'
  | .exit id, _, W' => KeepsOthers W W' ∧ Out (.exit id) W'
  | .goto t, _, W' => KeepsOthers W W' ∧ Out (.goto t) W'
  | .panic _, _, _ => False
  | .outgrown, _, _ => False

variable {n : Nat} {P : Program}

theorem range_law {α : Type} {g : Operand} {ps : Array Tmp} {assign body : Code} {Q : Exit → Act → World → Prop} {a : Act} {w : World}
    {gf : Nat} {lb : Array Value} (hg : a.eval g = .func (.func gf) #[] lb) (eg : ∀ args w, (callFunc gf args).run P w = .ok (.enter gf args) w)
    (encs : α → Array Value) (hps : ∀ x, (encs x).size = ps.size)
    (Pre Go : α → World → Prop) (Out : Code → World → Prop) (Fin : World → Prop)
    (hGo : ∀ x, Idle w.heap.size (Go x)) (hOut : ∀ c, Idle w.heap.size (Out c)) (hFin : Idle w.heap.size Fin)
    (hround : ∀ (l : Nat) (x : α) (W : World) (K : Act → World → Prop), w.heap.size + 2 ≤ W.heap.size → Pre x W →
      (∀ (a₁ : Act) (W' : World) (I : World → Prop), Idle w.heap.size I → I W' → KeepsOthers W W' → (∀ W2, w.heap.size + 2 ≤ W2.heap.size → I W2 → body.wpIn (Fence.wide.inRound l) n P (roundOut (Go x) Out W2) a₁ W2) → K a₁ W') →
      assign.wpIn (Fence.wide.inRound l) n P (Exit.then K (fun _ _ _ => False)) { tmps := (ps.zip (encs x)).foldl (fun t (p, v) => t.setIfInBounds p v) a.tmps, defers := [] } W)
    (hseq : ∀ (R : World → Prop) (Rd : Code → World → Prop) (W1 : World), (∀ W W', KeepsOthers W W' → R W → R W') → (∀ c W W', KeepsOthers W W' → Rd c W → Rd c W') → (∀ W, R W → w.heap.size + 2 ≤ W.heap.size) →
      (∀ x W, R W → Pre x W → YieldAt Fence.wide n P (w.heap.size + 1) (encs x) W fun e W' => (e = .returned (.bool true) ∧ Go x W' ∧ R W') ∨ (e = .returned (.bool false) ∧ ∃ c, Out c W' ∧ Rd c W')) →
      R W1 → Below w.heap.size w W1 →
      CallsIn Fence.wide (n + 1) P gf (#[.func (.yield (w.heap.size + 1)) #[] #[]] ++ lb) W1 fun e W' => (∃ v, e = .returned v) ∧ ((Fin W' ∧ R W') ∨ (∃ c, Out c W' ∧ Rd c W')))
    (hdone : ∀ (D : Nat) (W : World), w.heap.size ≤ D → Fin W → W.heap[D]? = some (.deferred (some [])) → Q .normal { a with defers := { target := .collected D, args := #[] } :: a.defers } W)
    (hstop : ∀ (D : Nat) (c : Code) (W : World), w.heap.size ≤ D → Out c W → W.heap[D]? = some (.deferred (some [])) → c.wpIn Fence.wide (n + 2) P Q { a with defers := { target := .collected D, args := #[] } :: a.defers } W) :
    (Code.rangeFunc g ps assign body).wpIn Fence.wide (n + 2) P Q a w := by
  refine wpIn_rangeFunc ?_
  intro fn hfn
  obtain ⟨rec, hrec⟩ : ∃ rec : LoopState → Option Code → Loop, rec = fun st pe => { state := st, pending := pe, fn, tmps := a.tmps, params := ps, assign, body, defers := w.heap.size } := ⟨_, rfl⟩
  obtain ⟨W1, hW1⟩ : ∃ W1, (w.alloc (.deferred (some []))).alloc (.loop (rec .ready none)) = W1 := ⟨_, rfl⟩
  have hL1 : W1.heap[w.heap.size + 1]? = some (.loop (rec .ready none)) := by
    rw [← hW1]; have := World.alloc_heap_new (w.alloc (.deferred (some []))) (.loop (rec .ready none)); rwa [World.size_alloc] at this
  have hK1 : W1.heap[w.heap.size]? = some (.deferred (some [])) := by
    rw [← hW1]; exact (Below.heap_alloc _ _ _ (by simp)).trans (World.alloc_heap_new w _)
  have hb1 : Below w.heap.size w W1 := by rw [← hW1]; exact ((Below.refl _ w).alloc (Nat.le_refl _) _).alloc (by simp) _
  refine ⟨w.heap.size + 1, [{ target := .collected w.heap.size, args := #[] }], W1, { target := .fn (.func gf) lb, args := #[.func (.yield (w.heap.size + 1)) #[] #[]] }, W1, gf,
    #[.func (.yield (w.heap.size + 1)) #[] #[]] ++ lb, W1, ?_, ?_, fun _ _ => trivial, ?_, (fun h => by cases h), ?_⟩
  · rw [← hW1, hrec]; exact run_enterLoop_outer _ _ _ _ _
  · simp only [resolve, hg]
    simp [go_sem]
  · simp [invoke, go_sem, eg]
  · refine (hseq (fun W => W.heap[w.heap.size + 1]? = some (.loop (rec .ready none)) ∧ W.heap[w.heap.size]? = some (.deferred (some [])))
      (fun c W => W.heap[w.heap.size + 1]? = some (.loop (rec .done (some c))) ∧ W.heap[w.heap.size]? = some (.deferred (some []))) W1
      (fun W W' hk h => ⟨hk.same _ _ h.1 rfl, hk.same _ _ h.2 rfl⟩) (fun c W W' hk h => ⟨hk.same _ _ h.1 rfl, hk.same _ _ h.2 rfl⟩)
      (fun W h => by have := (Array.getElem?_eq_some_iff.1 h.1).1; omega) ?_ ⟨hL1, hK1⟩ hb1).mono ?_
    · rintro x W ⟨hl, hk⟩ hp
      have hlt : w.heap.size + 1 < W.heap.size := (Array.getElem?_eq_some_iff.1 hl).1
      have hy := run_yield (P := P) (args := encs x) hl (by rw [hrec]; exact hps x)
      rw [hrec] at hy
      refine ⟨fn, _, assign, body, hy, roundIn_of_wpIn hfn (hround _ x W _ (by omega) hp ?_)⟩
      intro a₁ W' I hI hIW hkW hb
      have hl' := hkW.same _ _ hl rfl
      have hlt' : w.heap.size + 1 < W'.heap.size := (Array.getElem?_eq_some_iff.1 hl').1
      refine ⟨_, run_beginRound hl' (by rw [hrec]), ?_⟩
      have hl2 : (W'.putObj (w.heap.size + 1) (.loop { rec .ready none with state := .busy })).heap[w.heap.size + 1]? = some (.loop { rec .ready none with state := .busy }) := World.putObj_heap_same hlt'
      have hk2 : (W'.putObj (w.heap.size + 1) (.loop { rec .ready none with state := .busy })).heap[w.heap.size]? = some (.deferred (some [])) := (World.putObj_heap_other (by omega)).trans (hkW.same _ _ hk rfl)
      refine wpIn_mono (hb _ (by simp [World.putObj]; omega) (hI _ _ _ _ hIW (by omega) hl' rfl)) ?_
      have fin : ∀ (jump : Option Code) (W3 : World), KeepsOthers (W'.putObj (w.heap.size + 1) (.loop { rec .ready none with state := .busy })) W3 →
          (Instr.endRound (w.heap.size + 1) jump).run P W3 = .ok (.bool jump.isNone) (W3.putObj (w.heap.size + 1) (.loop (rec (if jump.isNone then .ready else .done) jump))) ∧
          W3.heap[w.heap.size + 1]? = some (.loop { rec .ready none with state := .busy }) ∧
          (W3.putObj (w.heap.size + 1) (.loop (rec (if jump.isNone then .ready else .done) jump))).heap[w.heap.size + 1]? = some (.loop (rec (if jump.isNone then .ready else .done) jump)) ∧
          (W3.putObj (w.heap.size + 1) (.loop (rec (if jump.isNone then .ready else .done) jump))).heap[w.heap.size]? = some (.deferred (some [])) := fun jump W3 hk3 => by
        have hl3 := hk3.same _ _ hl2 rfl
        have := run_endRound (P := P) jump hl3
        rw [hrec] at this ⊢
        exact ⟨this, by rw [hrec] at hl3; exact hl3, World.putObj_heap_same (Array.getElem?_eq_some_iff.1 hl3).1, (World.putObj_heap_other (by omega)).trans (hk3.same _ _ hk2 rfl)⟩
      rintro e a3 W3 hq
      cases e with
      | normal =>
        obtain ⟨hk3, hi3⟩ := hq
        obtain ⟨hr, hl3, hl4, hk4⟩ := fin none W3 hk3
        exact ⟨_, _, hr, .inl ⟨rfl, hGo x _ _ _ _ hi3 (by omega) hl3 rfl, hl4, hk4⟩⟩
      | ret =>
        obtain ⟨hk3, hi3⟩ := hq
        obtain ⟨hr, hl3, hl4, hk4⟩ := fin (some .ret) W3 hk3
        exact ⟨_, _, hr, .inr ⟨rfl, .ret, hOut _ _ _ _ _ hi3 (by omega) hl3 rfl, hl4, hk4⟩⟩
      | exit id =>
        obtain ⟨hk3, hi3⟩ := hq
        obtain ⟨hr, hl3, hl4, hk4⟩ := fin (some (.exit id)) W3 hk3
        exact ⟨_, _, hr, .inr ⟨rfl, .exit id, hOut _ _ _ _ _ hi3 (by omega) hl3 rfl, hl4, hk4⟩⟩
      | goto t =>
        obtain ⟨hk3, hi3⟩ := hq
        obtain ⟨hr, hl3, hl4, hk4⟩ := fin (some (.goto t)) W3 hk3
        exact ⟨_, _, hr, .inr ⟨rfl, .goto t, hOut _ _ _ _ _ hi3 (by omega) hl3 rfl, hl4, hk4⟩⟩
      | panic ch => exact hq.elim
      | outgrown => exact hq.elim
    · rintro e W2 ⟨⟨v, rfl⟩, (⟨hi, hl, hk⟩ | ⟨c, hi, hl, hk⟩)⟩
      · exact ⟨none, _, by have := run_endLoop (P := P) hl (by rw [hrec]; simp); rw [hrec] at this; exact this, hdone _ _ (Nat.le_refl _) (hFin _ _ _ _ hi (by omega) hl rfl) ((World.putObj_heap_other (by omega)).trans hk)⟩
      · exact ⟨some c, _, by have := run_endLoop (P := P) hl (by rw [hrec]; simp); rw [hrec] at this; exact this, hstop _ c _ (Nat.le_refl _) (hOut c _ _ _ _ hi (by omega) hl rfl) ((World.putObj_heap_other (by omega)).trans hk)⟩

end Go.Proofs.Ytmldhbnkndhijaa
