/- Helpers that name no program: slices that read as lists, folds, draws. -/
import Derived.WalkKit
import Derived.WalkSpells
import Derived.WalkLawsBesides
import Derived.WalkSmall
import Derived.Deep.QuietTactic
import Derived.BigQuiet
import Derived.Lib.Hide
import Derived.Handy
import Derived.Deep.DeepCutAuto
import Derived.Deep.LoopGhost
import Derived.Deep.CutRange
import Derived.Deep.RegionHeld3
import Derived.StillTailTactics
import Derived.Deep.AppendLies
import Derived.Maps.AppendAt
namespace Go.Proofs.Ytdoihebekbfnbaa
open Go.RowKit

section
variable {P : Program} {w : World}
theorem run_max2 (ts : Array TypeId) (t : TypeId) (k k' : IntKind) (x y : Int) : (Builtin.max_ ts t #[.int k x, .int k' y]).run P w = .ok (.int k (max x y)) w := by
  have e : (if x < y then y else x) = max x y := by omega
  rw [← e]; simp [Builtin.max_, Builtin.max2]
theorem run_min2 (ts : Array TypeId) (t : TypeId) (k k' : IntKind) (x y : Int) : (Builtin.min_ ts t #[.int k x, .int k' y]).run P w = .ok (.int k (min x y)) w := by
  have e : (if y < x then y else x) = min x y := by omega
  rw [← e]; simp [Builtin.min_, Builtin.min2]
theorem run_max3 (ts : Array TypeId) (t : TypeId) (k k' k'' : IntKind) (x y z : Int) : (Builtin.max_ ts t #[.int k x, .int k' y, .int k'' z]).run P w = .ok (.int k (max (max x y) z)) w := by
  have e : (if (if x < y then y else x) < z then z else (if x < y then y else x)) = max (max x y) z := by omega
  rw [← e]; simp [Builtin.max_, Builtin.max2]
theorem run_min3 (ts : Array TypeId) (t : TypeId) (k k' k'' : IntKind) (x y z : Int) : (Builtin.min_ ts t #[.int k x, .int k' y, .int k'' z]).run P w = .ok (.int k (min (min x y) z)) w := by
  have e : (if z < (if y < x then y else x) then z else (if y < x then y else x)) = min (min x y) z := by omega
  rw [← e]; simp [Builtin.min_, Builtin.min2]
end
attribute [go_sem ↓] run_max2 run_min2 run_max3 run_min3

/-- The elements of a slice, each of so many cells, lie below block B and read as the list says. -/
def SlAt {α : Type} (E : World → Nat → Nat → α → Prop) (sz : Nat) (W : World) (B : Nat) (A : Option Addr) (l : List α) : Prop :=
  ∀ k (h : k < l.length), ∃ b o, A = some ⟨b, o, none⟩ ∧ b < B ∧ E W b (o + k * sz) l[k]

def Keeps {α : Type} (E : World → Nat → Nat → α → Prop) : Prop :=
  ∀ (B : Nat) (w w' : World) (b o : Nat) (x : α), E w b o x → Below B w w' → b < B → E w' b o x

theorem SlAt.below {α : Type} {E : World → Nat → Nat → α → Prop} (hE : Keeps E) {sz B C : Nat} {w w' : World} {A : Option Addr} {l : List α} (h : SlAt E sz w C A l) (hb : Below B w w') (hB : C ≤ B) : SlAt E sz w' C A l :=
  fun k hk => let ⟨b, o, e, hl, hh⟩ := h k hk; ⟨b, o, e, hl, hE _ _ _ _ _ _ hh hb (Nat.lt_of_lt_of_le hl hB)⟩

theorem SlAt.more {α : Type} {E : World → Nat → Nat → α → Prop} {sz B C : Nat} {w : World} {A : Option Addr} {l : List α} (h : SlAt E sz w C A l) (hB : C ≤ B) : SlAt E sz w B A l :=
  fun k hk => let ⟨b, o, e, hl, hh⟩ := h k hk; ⟨b, o, e, by omega, hh⟩

theorem SlAt.nil {α : Type} {E : World → Nat → Nat → α → Prop} {sz B : Nat} {w : World} {A : Option Addr} : SlAt E sz w B A [] :=
  fun k hk => absurd hk (by simp)

theorem SlAt.take {α : Type} {E : World → Nat → Nat → α → Prop} {sz B : Nat} {w : World} {A : Option Addr} {l : List α} (h : SlAt E sz w B A l) (n : Nat) : SlAt E sz w B A (l.take n) :=
  fun k hk => by
    obtain ⟨b, o, e, hl, hh⟩ := h k (by simp at hk; omega)
    exact ⟨b, o, e, hl, by rw [List.getElem_take]; exact hh⟩

theorem flatMap_at {α : Type} (c : α → List Value) (n : Nat) (hc : ∀ x, (c x).length = n) : ∀ (l : List α) (k j : Nat) (h : k < l.length), j < n → (l.flatMap c)[k * n + j]? = (c l[k])[j]?
  | [], k, j, h, _ => absurd h (by simp)
  | x :: l, 0, j, h, hj => by
    rw [List.flatMap_cons, Nat.zero_mul, Nat.zero_add, List.getElem?_append_left (by rw [hc]; exact hj)]; rfl
  | x :: l, k + 1, j, h, hj => by
    have h' : k < l.length := by simpa using h
    rw [List.flatMap_cons, List.getElem?_append_right (by rw [hc, Nat.succ_mul]; omega), hc, show (k + 1) * n + j - n = k * n + j by rw [Nat.succ_mul]; omega, flatMap_at c n hc l k j h' hj]
    rfl

theorem flatMap_len {α : Type} (c : α → List Value) (n : Nat) (hc : ∀ x, (c x).length = n) : ∀ (l : List α), (l.flatMap c).length = l.length * n
  | [] => by simp
  | x :: l => by rw [List.flatMap_cons, List.length_append, hc, flatMap_len c n hc l, List.length_cons, Nat.succ_mul]; omega

/-- E is told by the element's cells alone. -/
def ByCells {α : Type} (E : World → Nat → Nat → α → Prop) (c : α → List Value) (sz : Nat) : Prop :=
  (∀ x, (c x).length = sz) ∧ ∀ (w : World) (b o : Nat) (x : α), (∀ j, j < sz → w.cell? ⟨b, o + j, none⟩ = (c x)[j]?) → E w b o x

theorem SlAt.of_cells {α : Type} {E : World → Nat → Nat → α → Prop} {c : α → List Value} {sz : Nat} (hE : ByCells E c sz) {W : World} {g : Nat} {l : List α}
    (h : ∀ j u, (l.flatMap c)[j]? = some u → W.cell? ⟨g, j, none⟩ = some u) {B : Nat} (hB : g < B) : SlAt E sz W B (some ⟨g, 0, none⟩) l := by
  intro k hk
  refine ⟨g, 0, rfl, hB, hE.2 W g _ _ fun j hj => ?_⟩
  have e := flatMap_at c sz hE.1 l k j hk hj
  have hlt : j < (c l[k]).length := by rw [hE.1]; exact hj
  rw [List.getElem?_eq_getElem hlt] at e ⊢
  rw [Nat.zero_add]
  exact h _ _ e

/-- A slice value of the call's own. -/
def OwnSl {α : Type} (c : α → List Value) (sz : Nat) (e : TypeId) (base : Nat) (w : World) (A : Option Addr) (cap : Nat) (l : List α) : Prop := w.ownsRow base e sz (.slice A l.length cap) l.length (l.flatMap c)

theorem OwnSl.sl {α : Type} {E : World → Nat → Nat → α → Prop} {c : α → List Value} {sz : Nat} (hE : ByCells E c sz) {e : TypeId} {base : Nat} {w : World} {A : Option Addr} {cap : Nat} {l : List α} (h : OwnSl c sz e base w A cap l) : SlAt E sz w w.heap.size A l := by
  rcases h.2 with ⟨_, h0⟩ | ⟨g, cap', cur, hv, _, _, _⟩
  · have : l = [] := List.eq_nil_of_length_eq_zero h0
    subst this; exact SlAt.nil
  · have hA : A = some ⟨g, 0, none⟩ := by injection hv
    subst hA
    refine SlAt.of_cells hE (fun j u hu => ?_) (h.lt g rfl).2
    have := h.cells (g := g) rfl j u hu
    simpa [Addr.add] using (by unfold Addr.add at this; split at this <;> simp_all)

theorem OwnSl.nil {α : Type} {c : α → List Value} {sz : Nat} {e : TypeId} {base : Nat} {w : World} : OwnSl c sz e base w none 0 ([] : List α) := World.ownsRow_nil w base e sz

theorem drop_at {α : Type} (l : List α) (k : Nat) (h : k < l.length) : l.drop k = l[k] :: l.drop (k + 1) := List.drop_eq_getElem_cons h

theorem fold_at {α β : Type} {f : β → α → β} {s r : β} {l : List α} {k : Nat} (h : k < l.length) (e : (l.drop k).foldl f s = r) : (l.drop (k + 1)).foldl f (f s l[k]) = r := by
  rw [drop_at l k h] at e; exact e

theorem fold_end {α β : Type} {f : β → α → β} {s r : β} {l : List α} {k : Nat} (h : ¬ k < l.length) (e : (l.drop k).foldl f s = r) : s = r := by
  rw [List.drop_of_length_le (by omega)] at e; exact e

theorem fold_step {α β : Type} {f : β → α → β} {s s' r : β} {x : α} {l : List α} (h : l.foldl f (f s x) = r) (e : f s x = s') : l.foldl f s' = r := by
  rw [← e]; exact h

theorem cell_set_ne {b g : Nat} (h : b ≠ g) (W : World) (i j : Nat) (v : Value) : (W.setCell ⟨g, i, none⟩ v).cell? ⟨b, j, none⟩ = W.cell? ⟨b, j, none⟩ :=
  World.cell?_setCell_other W ⟨g, i, none⟩ ⟨b, j, none⟩ v (fun e => h (by cases e; rfl))
theorem cell_drew' (W : World) (a : Addr) : W.drew.cell? a = W.cell? a := rfl

/-- 'Below' from a world on, kept over a draw. -/
theorem _root_.Go.RowKit.Below.drewN' {B : Nat} {a w : World} (h : Below B a w) (n : Nat) : Below B a (w.drewN n) := below_drewN h n

/-- A block that is known whole. -/
def Blk (w : World) (g : Nat) (t : TypeId) (cs : Array Value) : Prop := w.heap[g]? = some (.cells cs t (0, 0))
section
variable {w w' : World} {g : Nat} {t : TypeId} {cs : Array Value}
theorem Blk.lt (h : Blk w g t cs) : g < w.heap.size := (Array.getElem?_eq_some_iff.1 h).1
theorem Blk.cell (h : Blk w g t cs) (i : Nat) : w.cell? ⟨g, i, none⟩ = cs[i]? := cell_of_row w g i cs t (0, 0) h
theorem Blk.frozen (h : Blk w g t cs) (i : Nat) : w.frozen? ⟨g, i, none⟩ = false := by
  unfold Blk at h
  simp [World.frozen?, h]
theorem Blk.new (w : World) (t : TypeId) (cs : Array Value) : Blk (w.alloc (.cells cs t)) w.heap.size t cs := Go.heap_alloc_new w _
theorem Blk.alloc (h : Blk w g t cs) (o : Obj) : Blk (w.alloc o) g t cs := (Below.heap_alloc w o g h.lt).trans h
theorem Blk.set_ (h : Blk w g t cs) (i : Nat) (u : Value) : Blk (w.setCell ⟨g, i, none⟩ u) g t (cs.setIfInBounds i u) := by
  unfold Blk at h ⊢
  simp [World.setCell, Array.getElem?_modify, h]
theorem Blk.far (h : Blk w g t cs) {p : Addr} (hp : g ≠ p.block) (u : Value) : Blk (w.setCell p u) g t cs := (Below.heap_setCell w p u g hp).trans h
theorem Blk.below {B : Nat} (h : Blk w g t cs) (hb : Below B w w') (hg : g < B) : Blk w' g t cs := (hb.block g hg).trans h
theorem Blk.drewN (h : Blk w g t cs) (n : Nat) : Blk (w.drewN n) g t cs := h
theorem Blk.drew (h : Blk w g t cs) : Blk w.drew g t cs := h
end

end Go.Proofs.Ytdoihebekbfnbaa
