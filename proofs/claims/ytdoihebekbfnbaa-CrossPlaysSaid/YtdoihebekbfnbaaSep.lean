/- Memory of the call's own as a list of things that lie apart: a walk over known slots and over that list; no world is named. -/
import Derived.Test.YtdoihebekbfnbaaMem
import Derived.Test.YtdoihebekbfnbaaSeg
import Derived.Laws.OwnMore
import Derived.RangeFuncLeaves
import Derived.RangeFuncNested
namespace Go.Proofs.Ytdoihebekbfnbaa
open Go.RowKit

/-- A thing in memory: at most one block is its own. -/
structure Ent where
  foot : Option Nat
  ok : World → Prop
  keep : ∀ {w w' : World}, (∀ g, foot = some g → w'.heap[g]? = w.heap[g]?) → ok w → ok w'
  lt : ∀ {w : World} {g : Nat}, foot = some g → ok w → g < w.heap.size
  nd : ∀ {w : World} {g : Nat} {c : Option (List Deferred)}, foot = some g → ok w → w.heap[g]? ≠ some (.deferred c)

abbrev Hp := List Ent

/-- A block that is known whole. -/
def row (g : Nat) (t : TypeId) (cs : List Value) : Ent where
  foot := some g
  ok w := Blk w g t cs.toArray
  keep h hw := (h g rfl).trans hw
  lt e hw := by cases e; exact hw.lt
  nd e hw := by cases e; intro h; rw [show _ = _ from hw] at h; cases h

/-- A slice whose block, if any, is the call's own. -/
def own (A : Option Addr) (n cap : Nat) (t : TypeId) (sz : Nat) (xs : List Value) : Ent where
  foot := A.map (·.block)
  ok w := w.ownsRow 0 t sz (.slice A n cap) n xs
  keep h hw := by
    refine ⟨hw.1, ?_⟩
    rcases hw.2 with h0 | ⟨g, cap', cur, hv, hb, hc, hr⟩
    · exact .inl h0
    · refine .inr ⟨g, cap', cur, hv, hb, ?_, hr⟩
      injection hv with hA
      rw [h g (by rw [hA]; rfl)]; exact hc
  lt e hw := by
    rcases hw.2 with ⟨h0, _⟩ | ⟨g, cap', cur, hv, hb, hc, hr⟩
    · injection h0 with hA; rw [hA] at e; cases e
    · injection hv with hA
      rw [hA] at e; cases e
      exact (Array.getElem?_eq_some_iff.1 hc).1
  nd e hw := by
    intro h
    rcases hw.2 with ⟨h0, _⟩ | ⟨g, cap', cur, hv, hb, hc, hr⟩
    · injection h0 with hA; rw [hA] at e; cases e
    · injection hv with hA
      rw [hA] at e; cases e
      rw [hc] at h; cases h

def Apart (a b : Ent) : Prop := ∀ g, a.foot = some g → b.foot ≠ some g

structure Mem (B : Nat) (w0 : World) (H : Hp) (w : World) : Prop where
  below : Below B w0 w
  base : B ≤ w0.heap.size
  ok : ∀ e ∈ H, e.ok w ∧ ∀ g, e.foot = some g → B ≤ g
  apart : H.Pairwise Apart
  others : ∀ (k : Nat) (c : Option (List Deferred)), w0.heap[k]? = some (Obj.deferred c) → w.heap[k]? = some (Obj.deferred c)

section
variable {B : Nat} {w0 w w' : World} {H H' R : Hp} {e e' : Ent}

theorem Mem.start (w : World) : Mem w.heap.size w [] w := ⟨Below.refl _ _, Nat.le_refl _, by simp, .nil, fun _ _ h => h⟩
theorem Mem.le (h : Mem B w0 H w) : B ≤ w.heap.size := Nat.le_trans h.base h.below.size

theorem Mem.keep (h : Mem B w0 H w) (hb : Below w.heap.size w w') : Mem B w0 H w' :=
  ⟨h.below.trans (hb.mono h.le), h.base, fun e he => ⟨e.keep (fun g hg => hb.block g (e.lt hg (h.ok e he).1)) (h.ok e he).1, (h.ok e he).2⟩, h.apart, fun k c hk => (hb.block k (Array.getElem?_eq_some_iff.1 (h.others k c hk)).1).trans (h.others k c hk)⟩
theorem Mem.drew (h : Mem B w0 H w) : Mem B w0 H w.drew := h.keep (Below.refl _ w).drew
theorem Mem.tail (h : Mem B w0 (e :: H) w) : Mem B w0 H w := ⟨h.below, h.base, fun x hx => h.ok x (List.mem_cons_of_mem _ hx), (List.pairwise_cons.1 h.apart).2, h.others⟩

/-- New memory beside the old. -/
theorem Mem.join {Hn : Hp} (h : Mem B w0 H w) (hn : Mem w.heap.size w Hn w') : Mem B w0 (Hn ++ H) w' := by
  have hk := h.keep hn.below
  refine ⟨hk.below, h.base, fun e he => ?_, ?_, hk.others⟩
  · rcases List.mem_append.1 he with he | he
    · exact ⟨(hn.ok e he).1, fun g hg => Nat.le_trans h.le ((hn.ok e he).2 g hg)⟩
    · exact hk.ok e he
  · rw [List.pairwise_append]
    refine ⟨hn.apart, h.apart, fun a ha b hb g hg hg' => ?_⟩
    have h1 := (hn.ok a ha).2 g hg
    have h2 := b.lt hg' (h.ok b hb).1
    omega
theorem Mem.new (h : Mem B w0 H w) {g : Nat} (hg : e.foot = some g) (hs : w.heap.size ≤ g) (hk : e.ok w') (hb : Below w.heap.size w w') : Mem B w0 (e :: H) w' :=
  h.join (Hn := [e]) ⟨hb, Nat.le_refl _, fun x hx => by rw [List.mem_singleton.1 hx]; exact ⟨hk, fun g' hg' => by rw [hg] at hg'; cases hg'; exact hs⟩, List.pairwise_singleton _ _, fun k c hk => (hb.block k (Array.getElem?_eq_some_iff.1 hk).1).trans hk⟩
theorem Mem.alloc (h : Mem B w0 H w) (t : TypeId) (cs : Array Value) : Mem B w0 (row w.heap.size t cs.toList :: H) (w.alloc (.cells cs t)) :=
  h.new (g := w.heap.size) rfl (Nat.le_refl _) (Blk.new w t cs) ((Below.refl _ _).alloc (Nat.le_refl _) _)

/-- One of the list, the others. -/
inductive Pick : Hp → Ent → Hp → Prop
  | here {e : Ent} {H : Hp} : Pick (e :: H) e H
  | there {e x : Ent} {H R : Hp} : Pick H e R → Pick (x :: H) e (x :: R)

theorem Pick.mem (h : Pick H e R) : ∀ x, x ∈ H ↔ x = e ∨ x ∈ R := by
  induction h with
  | here => intro x; simp
  | there _ ih => intro x; simp only [List.mem_cons, ih]; constructor <;> rintro (h | h | h) <;> simp [h]
theorem Apart.symm {a b : Ent} (h : Apart a b) : Apart b a := fun g h1 h2 => h g h2 h1
theorem Pick.pair (h : Pick H e R) : H.Pairwise Apart → (e :: R).Pairwise Apart := by
  induction h with
  | here => exact id
  | there hp ih =>
    intro hx
    rw [List.pairwise_cons] at hx
    have h2 := ih hx.2
    rw [List.pairwise_cons] at h2 ⊢
    refine ⟨fun a ha => ?_, ?_⟩
    · rcases List.mem_cons.1 ha with rfl | ha
      · exact (hx.1 _ ((hp.mem _).2 (.inl rfl))).symm
      · exact h2.1 a ha
    · rw [List.pairwise_cons]
      exact ⟨fun a ha => hx.1 a ((hp.mem _).2 (.inr ha)), h2.2⟩
theorem Mem.pick (hp : Pick H e R) (h : Mem B w0 H w) : Mem B w0 (e :: R) w :=
  ⟨h.below, h.base, fun x hx => h.ok x ((hp.mem x).2 (by simpa using hx)), hp.pair h.apart, h.others⟩

/-- The second list's things all stand in the first. -/
inductive SubH : Hp → Hp → Prop
  | refl {H : Hp} : SubH H H
  | nil {H : Hp} : SubH H []
  | cons {H R L : Hp} {e : Ent} : Pick H e R → SubH R L → SubH H (e :: L)
  | drop {H L : Hp} {e : Ent} : SubH H L → SubH (e :: H) L
theorem Mem.sub (hs : SubH H H') : Mem B w0 H w → Mem B w0 H' w := by
  induction hs with
  | refl => exact id
  | nil => intro h; exact ⟨h.below, h.base, by simp, .nil, h.others⟩
  | drop _ ih => intro h; exact ih h.tail
  | cons hp hs' ih =>
    intro h
    have h1 := h.pick hp
    have h2 := ih h1.tail
    refine ⟨h.below, h.base, fun x hx => ?_, ?_, h.others⟩
    · rcases List.mem_cons.1 hx with rfl | hx
      · exact h1.ok _ (by simp)
      · exact h2.ok x hx
    · rw [List.pairwise_cons]
      refine ⟨fun a ha => ?_, h2.apart⟩
      have key : ∀ {H L : Hp}, SubH H L → ∀ a ∈ L, a ∈ H := by
        intro H L h
        induction h with
        | refl => exact fun _ h => h
        | nil => intro a h; cases h
        | cons hp _ ih => intro a h; exact (hp.mem _).2 ((List.mem_cons.1 h).imp id (ih a))
        | drop _ ih => intro a h; exact List.mem_cons_of_mem _ (ih a h)
      exact (List.pairwise_cons.1 h1.apart).1 a (key hs' a ha)
theorem SubH.consR {g : Nat} {t : TypeId} {cs cs' : List Value} {L : Hp} (hp : Pick H (row g t cs) R) (e : cs = cs') (h : SubH R L) : SubH H (row g t cs' :: L) := e ▸ SubH.cons hp h
theorem SubH.consO {A : Option Addr} {n n' cap sz : Nat} {t : TypeId} {cs cs' : List Value} {L : Hp} (hp : Pick H (own A n cap t sz cs) R) (en : n = n') (e : cs = cs') (h : SubH R L) : SubH H (own A n' cap t sz cs' :: L) := en ▸ e ▸ SubH.cons hp h

/-- One of the list, and the list with another in its place. -/
inductive Upd : Hp → Ent → Ent → Hp → Prop
  | here {e e' : Ent} {H : Hp} : Upd (e :: H) e e' (e' :: H)
  | there {e e' x : Ent} {H R : Hp} : Upd H e e' R → Upd (x :: H) e e' (x :: R)
theorem Upd.mem (h : Upd H e e' R) : e ∈ H := by
  induction h with
  | here => simp
  | there _ ih => exact List.mem_cons_of_mem _ ih
theorem Upd.mem' (h : Upd H e e' R) : ∀ x ∈ R, x = e' ∨ x ∈ H := by
  induction h with
  | here => intro x hx; rcases List.mem_cons.1 hx with h | h <;> simp [h]
  | there _ ih =>
    intro x hx
    rcases List.mem_cons.1 hx with rfl | h
    · simp
    · rcases ih x h with h | h <;> simp [h]

theorem Mem.upd (hu : Upd H e e' H') (h : Mem B w0 H w) (hb : Below B w w') (hk : ∀ k, k < w.heap.size → e.foot ≠ some k → w'.heap[k]? = w.heap[k]?) (he : e'.ok w')
    (hf : ∀ g, e'.foot = some g → e.foot = some g ∨ w.heap.size ≤ g) : Mem B w0 H' w' := by
  have hB := h.le
  have key : (∀ x ∈ H', x.ok w' ∧ ∀ g, x.foot = some g → B ≤ g) ∧ H'.Pairwise Apart := by
    have hok := h.ok; have hap := h.apart
    clear h
    have main : ∀ {x : Ent}, x.ok w → Apart e x → x.ok w' := fun {x} hx ha => x.keep (fun g hg => hk g (x.lt hg hx) (fun h => ha g h hg)) hx
    have apart' : ∀ {x : Ent}, x.ok w → Apart e x → Apart e' x := fun {x} hx ha g hg hx' => by
      rcases hf g hg with h | h
      · exact ha g h hx'
      · have := x.lt hx' hx; omega
    induction hu with
    | here =>
      rename_i e _ T
      have h0 := hok e (by simp)
      rw [List.pairwise_cons] at hap
      refine ⟨fun x hx => ?_, ?_⟩
      · rcases List.mem_cons.1 hx with rfl | hx
        · exact ⟨he, fun g hg => by
            rcases hf g hg with h | h
            · exact h0.2 g h
            · omega⟩
        · have := hok x (List.mem_cons_of_mem _ hx)
          exact ⟨main this.1 (hap.1 x hx), this.2⟩
      · rw [List.pairwise_cons]
        exact ⟨fun x hx => apart' (hok x (List.mem_cons_of_mem _ hx)).1 (hap.1 x hx), hap.2⟩
    | there hu ih =>
      rename_i e _ y T R
      rw [List.pairwise_cons] at hap
      obtain ⟨i1, i2⟩ := ih hk he hf (fun x hx => hok x (List.mem_cons_of_mem _ hx)) hap.2 main apart'
      have h0 := hok y (by simp)
      have hye := (hap.1 _ hu.mem).symm
      refine ⟨fun x hx => ?_, ?_⟩
      · rcases List.mem_cons.1 hx with rfl | hx
        · exact ⟨main h0.1 hye, h0.2⟩
        · exact i1 x hx
      · rw [List.pairwise_cons]
        refine ⟨fun x hx => ?_, i2⟩
        rcases hu.mem' x hx with rfl | hx
        · exact (apart' h0.1 hye).symm
        · exact hap.1 x hx
  exact ⟨h.below.trans hb, h.base, key.1, key.2, fun k c hk0 =>
    have h1 := h.others k c hk0
    (hk k (Array.getElem?_eq_some_iff.1 h1).1 (fun e0 => e.nd e0 (h.ok _ hu.mem).1 h1)).trans h1⟩

/-! What is read. -/
def Cl (B : Nat) (w0 : World) (H : Hp) (b o : Nat) (v : Value) : Prop := ∀ w, Mem B w0 H w → w.cell? ⟨b, o, none⟩ = some v
def Rw (B : Nat) (w0 : World) (H : Hp) (b o : Nat) (cs : List Value) : Prop := ∀ w, Mem B w0 H w → Row w b o cs

theorem cl_there {b o : Nat} {v : Value} (h : Cl B w0 H b o v) : Cl B w0 (e :: H) b o v := fun w hw => h w hw.tail
theorem rw_there {b o : Nat} {cs : List Value} (h : Rw B w0 H b o cs) : Rw B w0 (e :: H) b o cs := fun w hw => h w hw.tail
theorem cl_here {g j : Nat} {t : TypeId} {cs : List Value} {v : Value} (h : cs[j]? = some v) : Cl B w0 (row g t cs :: H) g j v := fun w hw => by
  have := (hw.ok _ (List.mem_cons_self ..)).1
  exact (Blk.cell this j).trans (by simpa using h)
theorem rw_here {g : Nat} {t : TypeId} {cs : List Value} : Rw B w0 (row g t cs :: H) g 0 cs := fun w hw j u hj => by
  have := (hw.ok _ (List.mem_cons_self ..)).1
  rw [Nat.zero_add]; exact (Blk.cell this j).trans (by simpa using hj)
theorem cl_rw {b o j : Nat} {cs : List Value} {v : Value} (h : Rw B w0 H b o cs) (hj : cs[j]? = some v) : Cl B w0 H b (o + j) v := fun w hw => h w hw j v hj
theorem cl_rw0 {b o : Nat} {cs : List Value} {v : Value} (h : Rw B w0 H b o cs) (hj : cs[0]? = some v) : Cl B w0 H b o v := fun w hw => h w hw 0 v hj
theorem cl_rwz {b j : Nat} {cs : List Value} {v : Value} (h : Rw B w0 H b 0 cs) (hj : cs[j]? = some v) : Cl B w0 H b j v := fun w hw => by have := h w hw j v hj; rwa [Nat.zero_add] at this
/-- A part of a row. -/
theorem rw_part {b o j n : Nat} {cs ds : List Value} (h : Rw B w0 H b o cs) (hd : (cs.drop j).take n = ds) : Rw B w0 H b (o + j) ds := fun w hw i u hu => by
  subst hd
  have : cs[j + i]? = some u := by
    rw [List.getElem?_take] at hu
    split at hu
    · rwa [List.getElem?_drop] at hu
    · cases hu
  rw [Nat.add_assoc]; exact h w hw _ u this
theorem Rw.base {b o : Nat} {cs : List Value} (hb : b < B) (h : Row w0 b o cs) : Rw B w0 [] b o cs := fun w hw => h.below hw.below hb
theorem Rw.sub {b o : Nat} {cs : List Value} (h : Rw B w0 H' b o cs) (hs : SubH H H') : Rw B w0 H b o cs := fun w hw => h w (hw.sub hs)

/-- A slice that can be read from this world on. -/
def Rd {α : Type} (w : World) (c : α → List Value) (sz : Nat) (A : Option Addr) (l : List α) : Prop :=
  ∀ k (h : k < l.length), ∃ b o, A = some ⟨b, o, none⟩ ∧ b < w.heap.size ∧ Row w b (o + k * sz) (c l[k])
def RdH {α : Type} (B : Nat) (w0 : World) (H : Hp) (c : α → List Value) (sz : Nat) (A : Option Addr) (l : List α) : Prop := ∀ w, Mem B w0 H w → Rd w c sz A l
section
variable {α : Type} {c : α → List Value} {sz : Nat} {A : Option Addr} {l : List α}
theorem Rd.nil : Rd w c sz A [] := fun k hk => absurd hk (by simp)
theorem Rd.keep (h : Rd w c sz A l) (hb : Below w.heap.size w w') : Rd w' c sz A l := fun k hk => by
  obtain ⟨b, o, hA, hlt, hr⟩ := h k hk
  exact ⟨b, o, hA, Nat.lt_of_lt_of_le hlt hb.size, hr.below hb hlt⟩
theorem Rd.base (h : Rd w0 c sz A l) (hB : B = w0.heap.size) : RdH B w0 H c sz A l := fun w hw => h.keep (hB ▸ hw.below)
theorem RdH.sub (h : RdH B w0 H' c sz A l) (hs : SubH H H') : RdH B w0 H c sz A l := fun w hw => h w (hw.sub hs)
theorem RdH.cons (h : RdH B w0 H c sz A l) : RdH B w0 (e :: H) c sz A l := fun w hw => h w hw.tail
theorem Rd.at (h : Rd w c sz A l) (k : Nat) (hk : k < l.length) : ∃ b o, A = some ⟨b, o, none⟩ ∧ Rw w.heap.size w [] b (o + k * sz) (c l[k]) := by
  obtain ⟨b, o, hA, hlt, hr⟩ := h k hk
  exact ⟨b, o, hA, Rw.base hlt hr⟩
theorem RdH.at (h : RdH B w0 H c sz A l) (hw : Mem B w0 H w) (k : Nat) (hk : k < l.length) : ∃ b o, A = some ⟨b, o, none⟩ ∧ Rw B w0 H b (o + k * sz) (c l[k]) := by
  obtain ⟨b, o, hA, _, _⟩ := h w hw k hk
  refine ⟨b, o, hA, fun w' hw' => ?_⟩
  obtain ⟨b', o', hA', _, hr⟩ := h w' hw' k hk
  rw [hA] at hA'; cases hA'
  exact hr
theorem Rd.of_row {g o : Nat} (hlt : g < w.heap.size) (hc : ∀ x, (c x).length = sz) (h : Row w g o (l.flatMap c)) : Rd w c sz (some ⟨g, o, none⟩) l := fun k hk => by
  refine ⟨g, o, rfl, hlt, fun j u hj => ?_⟩
  have hjs : j < sz := by have := (List.getElem?_eq_some_iff.1 hj).1; rwa [hc] at this
  rw [Nat.add_assoc]
  exact h _ u ((flatMap_at c sz hc l k j hk hjs).trans hj)
theorem own_rd {n cap : Nat} {t : TypeId} (hz : 0 < sz) (hc : ∀ x, (c x).length = sz) : RdH B w0 (own A n cap t sz (l.flatMap c) :: H) c sz A l := fun w hw => by
  have hk : w.ownsRow 0 t sz (.slice A n cap) n (l.flatMap c) := (hw.ok _ (List.mem_cons_self ..)).1
  have hl := hk.1
  rw [flatMap_len c sz hc] at hl
  rcases hk.2 with ⟨h0, hn⟩ | ⟨g, cap', cur, hv, hb, hcell, hr⟩
  · subst hn
    have hl0 : l = [] := List.eq_nil_of_length_eq_zero (by
      rw [Nat.zero_mul] at hl
      rcases Nat.mul_eq_zero.1 hl with h | h <;> omega)
    subst hl0; exact Rd.nil
  · injection hv with hA; subst hA
    refine Rd.of_row (Array.getElem?_eq_some_iff.1 hcell).1 hc (fun j u hu => ?_)
    have := hk.cells (g := g) rfl j u hu
    rw [Nat.zero_add]
    simpa [Addr.add] using (by unfold Addr.add at this; split at this <;> simp_all)
theorem own_rd1 {α : Type} {f : α → Value} {l : List α} {A : Option Addr} {n cap : Nat} {t : TypeId} : RdH B w0 (own A n cap t 1 (l.map f) :: H) (fun x => [f x]) 1 A l := by
  have e : l.map f = l.flatMap (fun x => [f x]) := by induction l with | nil => rfl | cons a l ih => rw [List.map_cons, ih]; rfl
  rw [e]; exact own_rd (by omega) (fun _ => rfl)
theorem cl_own {g n cap sz j : Nat} {t : TypeId} {cs : List Value} {v : Value} (h : cs[j]? = some v) : Cl B w0 (own (some ⟨g, 0, none⟩) n cap t sz cs :: H) g j v := fun w hw => by
  have hk : w.ownsRow 0 t sz (.slice (some ⟨g, 0, none⟩) n cap) n cs := (hw.ok _ (List.mem_cons_self ..)).1
  have := hk.cells (g := g) rfl j v h
  simpa [Addr.add] using (by unfold Addr.add at this; split at this <;> simp_all)
theorem own_at1 {α : Type} {f : α → Value} {l : List α} {g n cap : Nat} {t : TypeId} (k : Nat) (hk : k < l.length) : Rw B w0 (own (some ⟨g, 0, none⟩) n cap t 1 (l.map f) :: H) g (0 + k * 1) [f l[k]] := fun w hw => by
  obtain ⟨b, o, hA, _, hr⟩ := own_rd1 w hw k hk
  cases hA; exact hr
theorem own_at {α : Type} {c : α → List Value} {sz : Nat} {l : List α} {g n cap : Nat} {t : TypeId} (hz : 0 < sz) (hc : ∀ x, (c x).length = sz) (k : Nat) (hk : k < l.length) : Rw B w0 (own (some ⟨g, 0, none⟩) n cap t sz (l.flatMap c) :: H) g (0 + k * sz) (c l[k]) := fun w hw => by
  obtain ⟨b, o, hA, _, hr⟩ := own_rd hz hc w hw k hk
  cases hA; exact hr
theorem Mem.ownSome {w : World} {A : Option Addr} {n cap sz : Nat} {t : TypeId} {cs : List Value} (h : Mem B w0 H w) (hp : Pick H (own A n cap t sz cs) R) (hn : 0 < n) : ∃ q, A = some ⟨q, 0, none⟩ := by
  have hk : w.ownsRow 0 t sz (.slice A n cap) n cs := (h.ok _ ((hp.mem _).2 (.inl rfl))).1
  rcases hk.2 with ⟨_, h0⟩ | ⟨g, cap', cur, hv, _⟩
  · omega
  · injection hv with hA; exact ⟨g, hA⟩
/-- A row that is filled from the left. -/
theorem fill_set {α : Type} {f : α → Value} {z : Value} {l : List α} {k : Nat} (h : k < l.length) : ((l.take k).map f ++ List.replicate (l.length - k) z).set k (f l[k]) = (l.take (k + 1)).map f ++ List.replicate (l.length - (k + 1)) z := by
  rw [List.set_append, if_neg (by simp; omega)]
  have e1 : k - ((l.take k).map f).length = 0 := by simp; omega
  rw [e1, show l.length - k = (l.length - (k + 1)) + 1 by omega, List.replicate_succ, List.set_cons_zero, List.take_add_one, List.getElem?_eq_getElem h]
  simp only [Option.toList_some, List.map_append, List.map_cons, List.map_nil, List.append_assoc, List.cons_append, List.nil_append]
theorem RdH.drop (h : RdH B w0 H c sz A l) : RdH B w0 (e :: H) c sz A l := h.cons
end
end

/-! ### The walk -/
def NOk (N : Nx) (w0 : World) : Prop := N.lb ≤ w0.heap.size ∧ ∀ D, N.at_ = some D → w0.heap[D]? = some (.deferred (some [])) ∧ N.lb ≤ D
theorem NOk.now {N : Nx} {B : Nat} {w0 w : World} {H : Hp} (h : NOk N w0) (hw : Mem B w0 H w) : MkOk N.lb N.at_ w := fun D hD => ⟨hw.others D _ (h.2 D hD).1, (h.2 D hD).2⟩
def S (rd : Option Nat) (P : Program) (N : Nx) (B : Nat) (w0 : World) (c : Code) (F : Fr) (H : Hp) (K : Exit → Fr → Hp → Prop) : Prop :=
  NOk N w0 → ∀ w, Mem B w0 H w → X rd P N c F w (fun e F' w' => ∃ H', Mem B w0 H' w' ∧ K e F' H')
def SO (rd : Option Nat) (P : Program) (N : Nx) (B : Nat) (w0 : World) (ops : Array Oper) (l : List Oper) (F : Fr) (H : Hp) (K : Fr → Hp → Prop) : Prop :=
  ∀ w, Mem B w0 H w → XO rd P N ops l F w (fun F' w' => ∃ H', Mem B w0 H' w' ∧ K F' H')

def thenH (k : Fr → Hp → Prop) (K : Exit → Fr → Hp → Prop) : Exit → Fr → Hp → Prop
  | .normal => k
  | e => K e
def inBlkH (id : Nat) (K : Exit → Fr → Hp → Prop) : Exit → Fr → Hp → Prop
  | .exit i, F, H => if i = id then K .normal F H else K (.exit i) F H
  | e, F, H => K e F H

section
variable {rd : Option Nat} {P : Program} {N : Nx} {B : Nat} {w0 : World} {F : Fr} {H H' R : Hp} {c c1 c2 : Code} {K K' : Exit → Fr → Hp → Prop}

theorem S.mono (h : S rd P N B w0 c F H K) (hk : ∀ e F' H', K e F' H' → K' e F' H') : S rd P N B w0 c F H K' :=
  fun hn w hw => (h hn w hw).mono fun e F' w' ⟨H', h1, h2⟩ => ⟨H', h1, hk _ _ _ h2⟩
theorem s_sub {G : Fr} {L : Hp} (hs : Sub F G) (hh : SubH H L) (h : S rd P N B w0 c G L K) : S rd P N B w0 c F H K := fun hn w hw => x_sub hs (h hn w (hw.sub hh))

theorem s_seq (h : S rd P N B w0 c1 F H (thenH (fun F' H' => S rd P N B w0 c2 F' H' K) K)) : S rd P N B w0 (.seq c1 c2) F H K := fun hn w hw => by
  refine x_seq ((h hn w hw).mono ?_)
  rintro e F' w' ⟨H', h1, h2⟩
  cases e with
  | normal => exact h2 hn w' h1
  | _ => exact ⟨H', h1, h2⟩
theorem s_skip (h : K .normal F H) : S rd P N B w0 .skip F H K := fun _ _ hw => x_skip ⟨H, hw, h⟩
theorem s_exit {id : Nat} (h : K (.exit id) F H) : S rd P N B w0 (.exit id) F H K := fun _ _ hw => x_exit ⟨H, hw, h⟩
theorem s_ret (h : K .ret F H) : S rd P N B w0 .ret F H K := fun hn _ hw => x_ret (hn.now hw) ⟨H, hw, h⟩
theorem s_block {id : Nat} (h : S rd P N B w0 c F H (inBlkH id K)) : S rd P N B w0 (.block id c) F H K := fun hn w hw => by
  refine x_block ((h hn w hw).mono ?_)
  rintro e F' w' ⟨H', h1, h2⟩
  cases e with
  | exit i =>
    simp only [inBlkH] at h2
    simp only [inBlk]
    split
    · rename_i hi; rw [if_pos hi] at h2; exact ⟨H', h1, h2⟩
    · rename_i hi; rw [if_neg hi] at h2; exact ⟨H', h1, h2⟩
  | _ => exact ⟨H', h1, h2⟩
theorem thenH_n {k : Fr → Hp → Prop} (h : k F H) : thenH k K .normal F H := h
theorem thenH_e {k : Fr → Hp → Prop} {i : Nat} (h : K (.exit i) F H) : thenH k K (.exit i) F H := h
theorem thenH_r {k : Fr → Hp → Prop} (h : K .ret F H) : thenH k K .ret F H := h
theorem inBlkH_n {id : Nat} (h : K .normal F H) : inBlkH id K .normal F H := h
theorem inBlkH_r {id : Nat} (h : K .ret F H) : inBlkH id K .ret F H := h
theorem inBlkH_s {id : Nat} (h : K .normal F H) : inBlkH id K (.exit id) F H := (if_pos rfl).mpr h
theorem inBlkH_o {id i : Nat} (hi : i ≠ id) (h : K (.exit i) F H) : inBlkH id K (.exit i) F H := (if_neg hi).mpr h

theorem s_cond_t {x : Operand} {b : Bool} (hx : evO F x = some (.bool b)) (hb : b = true) (h : S rd P N B w0 c1 F H K) : S rd P N B w0 (.cond x c1 c2) F H K := fun hn w hw => x_cond_t hx hb (h hn w hw)
theorem s_cond_f {x : Operand} {b : Bool} (hx : evO F x = some (.bool b)) (hb : b = false) (h : S rd P N B w0 c2 F H K) : S rd P N B w0 (.cond x c1 c2) F H K := fun hn w hw => x_cond_f hx hb (h hn w hw)
theorem s_cond {x : Operand} {b : Bool} (hx : evO F x = some (.bool b)) (h1 : b = true → S rd P N B w0 c1 F H K) (h2 : b = false → S rd P N B w0 c2 F H K) : S rd P N B w0 (.cond x c1 c2) F H K := by
  cases b
  · exact s_cond_f hx rfl (h2 rfl)
  · exact s_cond_t hx rfl (h1 rfl)
/-- The same, the test as a proposition. -/
theorem s_if {x : Operand} {p : Prop} [Decidable p] (hx : evO F x = some (.bool (decide p))) (h1 : p → S rd P N B w0 c1 F H K) (h2 : ¬ p → S rd P N B w0 c2 F H K) : S rd P N B w0 (.cond x c1 c2) F H K :=
  s_cond hx (fun h => h1 (of_decide_eq_true h)) (fun h => h2 (of_decide_eq_false h))
theorem s_ifn {x : Operand} {p : Prop} [Decidable p] (hx : evO F x = some (.bool (!decide p))) (h1 : ¬ p → S rd P N B w0 c1 F H K) (h2 : p → S rd P N B w0 c2 F H K) : S rd P N B w0 (.cond x c1 c2) F H K :=
  s_cond hx (fun h => h1 (by simpa using h)) (fun h => h2 (by simpa using h))

theorem s_region {id : Nat} {l : List Oper} (h : SO rd P N B w0 l.toArray l F H (K .normal)) : S rd P N B w0 (.region id l.toArray false) F H K := fun _ w hw => x_region (h w hw)

/-- A loop: a state of one's own, a measure on it. -/
theorem s_loop {ι : Type} (G : ι → Fr) (Hg : ι → Hp) (I : ι → Prop) (μ : ι → Nat) (i0 : ι) (hs : Sub F (G i0)) (hh : SubH H (Hg i0)) (h0 : I i0)
    (h : ∀ i, I i → S rd P N B w0 c (G i) (Hg i) (thenH (fun F' H' => ∃ j, μ j < μ i ∧ Sub F' (G j) ∧ SubH H' (Hg j) ∧ I j) K)) : S rd P N B w0 (.loop c) F H K := fun hn w hw => by
  refine x_loop G (fun i w => I i ∧ Mem B w0 (Hg i) w) μ i0 hs ⟨h0, hw.sub hh⟩ ?_
  rintro i w ⟨hi, hw⟩
  refine (h i hi hn w hw).mono ?_
  rintro e F' w' ⟨H', h1, h2⟩
  cases e with
  | normal =>
    obtain ⟨j, hj, hs, hh, hI⟩ := h2
    exact ⟨j, hj, hs, hI, h1.sub hh⟩
  | _ => exact ⟨H', h1, h2⟩

/-- A loop over a list's places: a fold. -/
theorem s_fold {α σ : Type} (l : List α) (f : σ → α → σ) (s0 : σ) (G : Nat → σ → Fr) (Hg : Nat → σ → Hp) (hs : Sub F (G 0 s0)) (hh : SubH H (Hg 0 s0))
    (hstep : ∀ (k : Nat) (hk : k < l.length) (s : σ), (k : Int) < (l.length : Int) → S rd P N B w0 c (G k s) (Hg k s) (thenH (fun F' H' => Sub F' (G (k + 1) (f s l[k])) ∧ SubH H' (Hg (k + 1) (f s l[k]))) K))
    (hend : ¬ (l.length : Int) < (l.length : Int) → S rd P N B w0 c (G l.length (l.foldl f s0)) (Hg l.length (l.foldl f s0)) (thenH (fun _ _ => False) K)) : S rd P N B w0 (.loop c) F H K := by
  refine s_loop (ι := Nat × σ) (fun i => G i.1 i.2) (fun i => Hg i.1 i.2) (fun i => i.1 ≤ l.length ∧ (l.drop i.1).foldl f i.2 = l.foldl f s0) (fun i => l.length - i.1) (0, s0) hs hh ⟨Nat.zero_le _, rfl⟩ ?_
  rintro ⟨k, s⟩ ⟨hk, hf⟩
  by_cases hlt : k < l.length
  · refine (hstep k hlt s (by omega)).mono fun e F' H' h => ?_
    cases e with
    | normal => exact ⟨(k + 1, f s l[k]), by dsimp only; omega, h.1, h.2, by dsimp only; omega, fold_at hlt hf⟩
    | _ => exact h
  · have hk' : k = l.length := by dsimp only at hk; omega
    subst hk'
    have := fold_end hlt hf
    dsimp only at this ⊢
    subst this
    refine (hend (by omega)).mono fun e F' H' h => ?_
    cases e with
    | normal => exact h.elim
    | _ => exact h

/-- The ways meet: what is known behind the first part. -/
theorem s_join {ι : Type} (G : ι → Fr) (Hg : ι → Hp) (I : ι → Prop) (h1 : S rd P N B w0 c1 F H (thenH (fun F' H' => ∃ i, Sub F' (G i) ∧ SubH H' (Hg i) ∧ I i) K)) (h2 : ∀ i, I i → S rd P N B w0 c2 (G i) (Hg i) K) : S rd P N B w0 (.seq c1 c2) F H K :=
  s_seq (h1.mono fun e F' H' hk => by
    cases e with
    | normal => obtain ⟨i, h3, h4, h5⟩ := hk; exact s_sub h3 h4 (h2 i h5)
    | _ => exact hk)
theorem SO.mono {ops : Array Oper} {l : List Oper} {K K' : Fr → Hp → Prop} (h : SO rd P N B w0 ops l F H K) (hk : ∀ F' H', K F' H' → K' F' H') : SO rd P N B w0 ops l F H K' :=
  fun w hw => (h w hw).mono fun F' w' ⟨H', h1, h2⟩ => ⟨H', h1, hk _ _ h2⟩
/-- The same, whatever stands behind. -/
theorem s_joinK {ι : Type} (G : ι → Fr) (Hg : ι → Hp) (I : ι → Prop) (h1 : S rd P N B w0 c F H (thenH (fun F' H' => ∃ i, Sub F' (G i) ∧ SubH H' (Hg i) ∧ I i) K)) (h2 : ∀ i, I i → ∀ F' H', Sub F' (G i) → SubH H' (Hg i) → K .normal F' H') : S rd P N B w0 c F H K :=
  h1.mono fun e F' H' hk => by
    cases e with
    | normal => obtain ⟨i, h3, h4, h5⟩ := hk; exact h2 i h5 F' H' h3 h4
    | _ => exact hk
theorem so_joinK {ι : Type} {ops : Array Oper} {l : List Oper} {K : Fr → Hp → Prop} (G : ι → Fr) (Hg : ι → Hp) (I : ι → Prop) (h1 : SO rd P N B w0 ops l F H (fun F' H' => ∃ i, Sub F' (G i) ∧ SubH H' (Hg i) ∧ I i)) (h2 : ∀ i, I i → ∀ F' H', Sub F' (G i) → SubH H' (Hg i) → K F' H') : SO rd P N B w0 ops l F H K :=
  h1.mono fun F' H' hk => by obtain ⟨i, h3, h4, h5⟩ := hk; exact h2 i h5 F' H' h3 h4

/-- The ways meet ahead of what is known to stand behind. -/
theorem s_meet {ι : Type} (G : ι → Fr) (Hg : ι → Hp) (I : ι → Prop) {K2 : Exit → Fr → Hp → Prop} (h1 : S rd P N B w0 c F H (thenH (fun F' H' => ∃ i, Sub F' (G i) ∧ SubH H' (Hg i) ∧ I i) K)) (h2 : ∀ i, I i → S rd P N B w0 c2 (G i) (Hg i) K2) : S rd P N B w0 c F H (thenH (fun F' H' => S rd P N B w0 c2 F' H' K2) K) :=
  h1.mono fun e F' H' hk => by
    cases e with
    | normal => obtain ⟨i, h3, h4, h5⟩ := hk; exact s_sub h3 h4 (h2 i h5)
    | _ => exact hk

/-- What a function's end owes. -/
def RetS (P : Program) (N : Nx) (B : Nat) (w0 : World) (fn : Func) (Q : Value → Hp → Prop) : Exit → Fr → Hp → Prop
  | .normal, F, H | .ret, F, H => ∀ a w, HasS N.n F a → Mem B w0 H w → ∃ v, (results fn a.tmps).run P w = .ok v w ∧ Q v H
  | _, _, _ => False

theorem Mem.unmark {w : World} {D : Nat} (h : Mem B w0 H w) (hD : w.heap[D]? = some (.deferred (some []))) (hl : w0.heap.size ≤ D) (o : Obj) : Mem B w0 H (w.putObj D o) := by
  have hs : (w.putObj D o).heap.size = w.heap.size := by simp [World.putObj]
  have ho : ∀ k, k ≠ D → (w.putObj D o).heap[k]? = w.heap[k]? := fun k hk => World.putObj_heap_other hk
  refine ⟨⟨h.below.os, h.below.tape, h.below.output, by rw [hs]; exact h.below.size, fun k hk => ?_⟩, h.base, fun e he => ⟨e.keep (fun g hg => ho g (fun e0 => ?_)) (h.ok e he).1, (h.ok e he).2⟩, h.apart, fun k c hk => ?_⟩
  · have := h.base
    rw [ho k (by omega)]; exact h.below.block k hk
  · subst e0; exact e.nd hg (h.ok e he).1 hD
  · have hk' := (Array.getElem?_eq_some_iff.1 hk).1
    rw [ho k (by omega)]; exact h.others k c hk

theorem s_calls (F : Fr) {f : FuncId} {fn : Func} {w : World} {Q : Value → Hp → Prop} (hf : P.funcs[f]? = some fn) (hb : fn.body = some c) {n : Nat} (hn : fn.ntmps = n) (hk : F.map (·.1) = List.range F.length) (hl : F.length ≤ n) (hw : Mem B w0 H w)
    (h : S none P ⟨n, none, w0.heap.size⟩ B w0 c F H (RetS P ⟨n, none, w0.heap.size⟩ B w0 fn Q)) : Calls P f (F.map (·.2)).toArray w fun e w' => ∃ v H', e = .returned v ∧ Mem B w0 H' w' ∧ Q v H' := by
  refine (callsIn_wide (n := 0)).1 (callsIn_of_wp_marks (F := Fence.wide) hf hb trivial (wpIn_mono (h ⟨Nat.le_refl _, fun D hD => by cases hD⟩ w hw _ ?_) ?_) rfl)
  · obtain ⟨h1, h2⟩ := first_slots F hk hl
    rw [hn]
    exact ⟨h1, rfl, h2⟩
  · rintro e a' w' ⟨F', hh, H', h1, h2⟩
    cases e with
    | normal =>
      obtain ⟨v, h3, h4⟩ := h2 a' w' hh.slots h1
      have hd : a'.defers = [] := hh.defers
      show LeavesInM _ _ _ _ _ _ a'.defers _ _
      rw [hd]
      exact ⟨v, h3, v, H', rfl, h1, h4⟩
    | ret =>
      obtain ⟨mk, hm, hok⟩ := hh
      show LeavesInM _ _ _ _ _ _ a'.defers _ _
      cases mk with
      | none =>
        have hd : a'.defers = [] := hm.defers
        rw [hd]
        obtain ⟨v, h3, h4⟩ := h2 a' w' hm.slots h1
        exact ⟨v, h3, v, H', rfl, h1, h4⟩
      | some D =>
        have hd : a'.defers = [{ target := .collected D, args := #[] }] := hm.defers
        rw [hd]
        obtain ⟨hD, hlb⟩ := hok D rfl
        have h1' := h1.unmark hD hlb (.deferred none)
        obtain ⟨v, h3, h4⟩ := h2 a' _ hm.slots h1'
        refine ⟨by simp, .inl ⟨D, w'.putObj D (.deferred none), rfl, ?_, ?_⟩⟩
        · exact run_takeDeferred hD
        · exact ⟨v, h3, v, H', rfl, h1', h4⟩
    | _ => exact h2.elim
/-- A function that yields this value and turns nothing that was there. -/
theorem s_quiet (F : Fr) {f : FuncId} {fn : Func} {w : World} {x : Value} (hf : P.funcs[f]? = some fn) (hb : fn.body = some c) {n : Nat} (hn : fn.ntmps = n) (hk : F.map (·.1) = List.range F.length) (hl : F.length ≤ n)
    (h : S none P ⟨n, none, w.heap.size⟩ w.heap.size w c F [] (RetS P ⟨n, none, w.heap.size⟩ w.heap.size w fn (fun v _ => v = x))) : Calls P f (F.map (·.2)).toArray w fun e w' => e = .returned x ∧ Below w.heap.size w w' :=
  (s_calls F hf hb hn hk hl (Mem.start w) h).mono fun _ _ ⟨_, _, he, hm, hv⟩ => ⟨by rw [he, hv], hm.below⟩

/-- A function that makes memory, and turns nothing that was there. -/
theorem s_callsN {ι : Type} (F : Fr) {f : FuncId} {fn : Func} {w : World} (v : ι → Value) (Hn : ι → Hp) (I : ι → Prop) (hf : P.funcs[f]? = some fn) (hb : fn.body = some c) {n : Nat} (hn : fn.ntmps = n) (hk : F.map (·.1) = List.range F.length) (hl : F.length ≤ n)
    (h : S none P ⟨n, none, w.heap.size⟩ w.heap.size w c F [] (RetS P ⟨n, none, w.heap.size⟩ w.heap.size w fn (fun x H' => ∃ i, I i ∧ x = v i ∧ SubH H' (Hn i)))) : Calls P f (F.map (·.2)).toArray w fun e w' => ∃ i, I i ∧ e = .returned (v i) ∧ Mem w.heap.size w (Hn i) w' :=
  (s_calls F hf hb hn hk hl (Mem.start w) h).mono fun _ _ ⟨_, _, he, hm, i, hi, hv, hs⟩ => ⟨i, hi, by rw [he, hv], hm.sub hs⟩

theorem sret0 {fn : Func} {Q : Value → Hp → Prop} (hr : fn.results = #[]) (h : Q (.tuple #[]) H) : RetS P N B w0 fn Q .ret F H := fun _ _ _ _ => ⟨_, results_none hr _ _ _, h⟩
theorem sret0n {fn : Func} {Q : Value → Hp → Prop} (hr : fn.results = #[]) (h : Q (.tuple #[]) H) : RetS P N B w0 fn Q .normal F H := fun _ _ _ _ => ⟨_, results_none hr _ _ _, h⟩
theorem sret1 {fn : Func} {Q : Value → Hp → Prop} {t : Tmp} {v : Value} (hr : fn.results = #[.tmp t]) (hv : F.lookup t = some v) (h : Q v H) : RetS P N B w0 fn Q .ret F H :=
  fun a _ ha _ => ⟨v, by rw [results_tmp hr, ha.getD hv], h⟩
theorem sret2 {fn : Func} {Q : Value → Hp → Prop} {t u : Tmp} {v x : Value} (hr : fn.results = #[.tmp t, .tmp u]) (hv : F.lookup t = some v) (hx : F.lookup u = some x) (h : Q (.tuple #[v, x]) H) : RetS P N B w0 fn Q .ret F H :=
  fun a _ ha _ => ⟨.tuple #[v, x], by have e1 := ha.getD hv; have e2 := ha.getD hx; simp [Array.getD_eq_getD_getElem?] at e1 e2; simp [results, hr, e1, e2], h⟩
theorem sret3 {fn : Func} {Q : Value → Hp → Prop} {t u s : Tmp} {v x y : Value} (hr : fn.results = #[.tmp t, .tmp u, .tmp s]) (hv : F.lookup t = some v) (hx : F.lookup u = some x) (hy : F.lookup s = some y) (h : Q (.tuple #[v, x, y]) H) : RetS P N B w0 fn Q .ret F H :=
  fun a _ ha _ => ⟨.tuple #[v, x, y], by have e1 := ha.getD hv; have e2 := ha.getD hx; have e3 := ha.getD hy; simp [Array.getD_eq_getD_getElem?] at e1 e2 e3; simp [results, hr, e1, e2, e3], h⟩
/-- One result that lies in a block of its own. -/
theorem sretCell {fn : Func} {Q : Value → Hp → Prop} {t : Tmp} {ty : TypeId} {b : Nat} {cs : List Value} (hr : fn.results = #[.cell t ty]) (hv : F.lookup t = some (.pointer (some ⟨b, 0, none⟩)))
    (hA : ∀ w, (isAgg ty).run P w = .ok true w) (hS : ∀ w, (sizeOf ty).run P w = .ok cs.length w) (hc : Rw B w0 H b 0 cs) (h : Q (.agg cs.toArray) H) : RetS P N B w0 fn Q .ret F H :=
  fun a w ha hw => ⟨.agg cs.toArray, by
    have := run_loadCells_list (P := P) w ⟨b, 0, none⟩ cs (fun j v hv => by rw [add_place]; exact hc w hw j v hv)
    have e1 := ha.getD hv; simp [Array.getD_eq_getD_getElem?] at e1; simp [results, hr, e1, asAddr, loadVar, hA, hS, this], h⟩
/-- A cell and a slot. -/
theorem sretCell2 {fn : Func} {Q : Value → Hp → Prop} {t u : Tmp} {ty : TypeId} {b : Nat} {cs : List Value} {x : Value} (hr : fn.results = #[.cell t ty, .tmp u]) (hv : F.lookup t = some (.pointer (some ⟨b, 0, none⟩))) (hx : F.lookup u = some x)
    (hA : ∀ w, (isAgg ty).run P w = .ok true w) (hS : ∀ w, (sizeOf ty).run P w = .ok cs.length w) (hc : Rw B w0 H b 0 cs) (h : Q (.tuple #[.agg cs.toArray, x]) H) : RetS P N B w0 fn Q .ret F H :=
  fun a w ha hw => ⟨.tuple #[.agg cs.toArray, x], by
    have := run_loadCells_list (P := P) w ⟨b, 0, none⟩ cs (fun j v hv => by rw [add_place]; exact hc w hw j v hv)
    have e1 := ha.getD hv; have e2 := ha.getD hx; simp [Array.getD_eq_getD_getElem?] at e1 e2; simp [results, hr, e1, e2, asAddr, loadVar, hA, hS, this], h⟩
end

/-! ### Operations -/
inductive CopyL : List Value → List Value → Prop
  | nil : CopyL [] []
  | cons {x : Value} {xs ys : List Value} : CopyL xs ys → CopyL (x :: xs) (x :: ys)
theorem CopyL.consI {x : Value} {xs ys : List Value} {k : IntKind} {n : Int} (e : x = .int k n) (h : CopyL xs ys) : CopyL (x :: xs) (.int k n :: ys) := e ▸ .cons h
theorem CopyL.consB {x : Value} {xs ys : List Value} {b : Bool} (e : x = .bool b) (h : CopyL xs ys) : CopyL (x :: xs) (.bool b :: ys) := e ▸ .cons h
theorem CopyL.consS {x : Value} {xs ys : List Value} {A : Option Addr} {n c : Nat} (e : x = .slice A n c) (h : CopyL xs ys) : CopyL (x :: xs) (.slice A n c :: ys) := e ▸ .cons h
theorem CopyL.consP {x : Value} {xs ys : List Value} {A : Option Addr} (e : x = .pointer A) (h : CopyL xs ys) : CopyL (x :: xs) (.pointer A :: ys) := e ▸ .cons h
theorem CopyL.consF {x : Value} {xs ys : List Value} {f : Fn} {ts us : Array Value} (e : x = .func f ts us) (h : CopyL xs ys) : CopyL (x :: xs) (.func f ts us :: ys) := e ▸ .cons h
theorem CopyL.refl : ∀ (xs : List Value), CopyL xs xs
  | [] => .nil
  | _ :: xs => .cons (CopyL.refl xs)
theorem CopyL.agg {cs : List Value} : CopyL (Value.agg cs.toArray).cells.toList cs := CopyL.refl cs
theorem CopyL.eq {xs ys : List Value} (h : CopyL xs ys) : xs = ys := by
  induction h with
  | nil => rfl
  | cons _ ih => rw [ih]
section
variable {rd : Option Nat} {P : Program} {N : Nx} {B : Nat} {w0 : World} {F : Fr} {H H' R : Hp} {ops : Array Oper} {rest : List Oper} {K : Fr → Hp → Prop} {d : Nat} {ty : TypeId} {pos : String} {af : Array Edge} {g : Option (Nat × Bool)} {bw : Bool}

theorem so_nil (h : K F H) : SO rd P N B w0 ops [] F H K := fun _ hw => xo_nil ⟨H, hw, h⟩
theorem so_not {o : Oper} {b : Bool} (hg : wants ops F o.guard = some b) (hb : b = false) (hd : o.dst = some d) (hdN : d < N.n) (h : SO rd P N B w0 ops rest ((d, undef) :: F) H K) : SO rd P N B w0 ops (o :: rest) F H K := fun w hw => xo_not hg hb hd hdN (h w hw)
theorem so_not_none {o : Oper} {b : Bool} (hg : wants ops F o.guard = some b) (hb : b = false) (hd : o.dst = none) (h : SO rd P N B w0 ops rest F H K) : SO rd P N B w0 ops (o :: rest) F H K := fun w hw => xo_not_none hg hb hd (h w hw)
theorem so_split {o : Oper} {b : Bool} {p : Nat × Bool} (h0 : o.guard = some p) (hg : wants ops F o.guard = some b) (h1 : b = true → SO rd P N B w0 ops (o :: rest) F H K) (h2 : b = false → SO rd P N B w0 ops (o :: rest) F H K) : SO rd P N B w0 ops (o :: rest) F H K :=
  fun w hw => xo_split h0 hg (fun h => h1 h w hw) (fun h => h2 h w hw)
theorem so_pure {o : Oper} {b : Bool} {v : Value} (hg : wants ops F o.guard = some b) (hb : b = true) (hd : o.dst = some d) (hdN : d < N.n) (hr : PS P F (Mem B w0 H) o v) (h : SO rd P N B w0 ops rest ((d, v) :: F) H K) : SO rd P N B w0 ops (o :: rest) F H K :=
  fun w hw => xo_run hg hb hd hdN (fun ρ ha => hr ρ ha w hw) (h w hw)
theorem so_pick_s {c x y : Operand} {b : Bool} (_hc : evO F c = some (.bool b)) (h1 : b = true → SO rd P N B w0 ops (⟨some d, .pick c x y, ty, pos, af, g⟩ :: rest) F H K) (h2 : b = false → SO rd P N B w0 ops (⟨some d, .pick c x y, ty, pos, af, g⟩ :: rest) F H K) : SO rd P N B w0 ops (⟨some d, .pick c x y, ty, pos, af, g⟩ :: rest) F H K := by
  cases b
  · exact h2 rfl
  · exact h1 rfl

theorem so_alloc {t : TypeId} {z : Value} {cs : List Value} (hg : wants ops F g = some bw) (hb : bw = true) (hZ : ∀ w, (zeroValue t).run P w = .ok z w) (hc : CopyL z.cells.toList cs) (hN : d < N.n)
    (h : ∀ q, SO rd P N B w0 ops rest ((d, .pointer (some ⟨q, 0, none⟩)) :: F) (row q t cs :: H) K) : SO rd P N B w0 ops (⟨some d, .alloc t, ty, pos, af, g⟩ :: rest) F H K :=
  fun w hw => xo_alloc hg hb hZ hN (h _ _ (hc.eq ▸ hw.alloc t _))
theorem so_box {x : Operand} {t : TypeId} {v : Value} {cs : List Value} (hg : wants ops F g = some bw) (hb : bw = true) (hx : evO F x = some v) (hc : CopyL v.cells.toList cs) (hN : d < N.n)
    (h : ∀ q, SO rd P N B w0 ops rest ((d, .pointer (some ⟨q, 0, none⟩)) :: F) (row q t cs :: H) K) : SO rd P N B w0 ops (⟨some d, .box t x, ty, pos, af, g⟩ :: rest) F H K :=
  fun w hw => xo_box hg hb hx hN (h _ _ (hc.eq ▸ hw.alloc t _))
/-- A new variable and its value: one block. -/
theorem so_new {y : Operand} {t : TypeId} {cs : List Value} {c : Nat} {z : Value} {ty' : TypeId} {pos' : String} {af' : Array Edge} {g' : Option (Nat × Bool)} {bw' : Bool} (hg : wants ops F g = some bw) (hb : bw = true) (hZ : ∀ w, (zeroValue t).run P w = .ok z w) (hN : d < N.n)
    (hg' : ∀ q, wants ops ((d, .pointer (some ⟨q, 0, none⟩)) :: F) g' = some bw') (hb' : bw' = true)
    (hy : ∀ q, evO ((d, .pointer (some ⟨q, 0, none⟩)) :: F) y = some (.agg cs.toArray)) (hzc : z.cells.size = cs.length) (hS : ∀ w, (sizeOf t).run P w = .ok c w) (hcs : cs.length = c) (h1 : cs.all Value.oneCell' = true)
    (h : ∀ q, SO rd P N B w0 ops rest ((d, .pointer (some ⟨q, 0, none⟩)) :: F) (row q t cs :: H) K) :
    SO rd P N B w0 ops (⟨some d, .alloc t, ty, pos, af, g⟩ :: ⟨none, .store t (.tmp d) y, ty', pos', af', g'⟩ :: rest) F H K :=
  fun w hw => xo_new (cs := cs.toArray) hg hb hZ hN (hg' _) hb' (hy _) (by simpa using hzc) hS (by simpa using hcs) (by simpa using h1) (h _ _ (hw.alloc t _))

/-- A store of one cell. -/
theorem so_store {x y : Operand} {t t' : TypeId} {b o : Nat} {v : Value} {cs : List Value} (hg : wants ops F g = some bw) (hb : bw = true) (hx : evO F x = some (.pointer (some ⟨b, o, none⟩))) (hy : evO F y = some v) (hv : v.oneCell' = true)
    (hS : ∀ w, (sizeOf t).run P w = .ok 1 w) (hu : Upd H (row b t' cs) (row b t' (cs.set o v)) H') (ho : o < cs.length)
    (h : SO rd P N B w0 ops rest F H' K) : SO rd P N B w0 ops (⟨none, .store t x y, ty, pos, af, g⟩ :: rest) F H K := fun w hw => by
  have hk : Blk w b t' cs.toArray := (hw.ok _ hu.mem).1
  have hB := (hw.ok _ hu.mem).2 b rfl
  refine xo_store1 (u := cs[o]) hg hb hx hy hv hS (by rw [hk.cell]; simp) (hk.frozen o) (h _ (hw.upd hu (Below.setCell (Below.refl _ _) hB v) (fun k _ hne => Below.heap_setCell _ _ _ _ (fun e => hne (by rw [e]; rfl))) ?_ (fun q hq => .inl hq)))
  have := hk.set_ o v
  show Blk _ b t' (cs.set o v).toArray
  simpa using this
/-- Into a slice of the call's own. -/
theorem so_storeO {x y : Operand} {t t' : TypeId} {b o n cap sz : Nat} {v : Value} {xs : List Value} (hg : wants ops F g = some bw) (hb : bw = true) (hx : evO F x = some (.pointer (some ⟨b, o, none⟩))) (hy : evO F y = some v) (hv : v.oneCell' = true)
    (hS : ∀ w, (sizeOf t).run P w = .ok 1 w) (hu : Upd H (own (some ⟨b, 0, none⟩) n cap t' sz xs) (own (some ⟨b, 0, none⟩) n cap t' sz (xs.set o v)) H') (ho : o < xs.length)
    (h : SO rd P N B w0 ops rest F H' K) : SO rd P N B w0 ops (⟨none, .store t x y, ty, pos, af, g⟩ :: rest) F H K := fun w hw => by
  have hk : w.ownsRow 0 t' sz (.slice (some ⟨b, 0, none⟩) n cap) n xs := (hw.ok _ hu.mem).1
  have hB := (hw.ok _ hu.mem).2 b rfl
  have hc := hk.cells (g := b) rfl o xs[o] (List.getElem?_eq_getElem ho)
  refine xo_store1 (u := xs[o]) hg hb hx hy hv hS ?_ (hk.frozenAt o) (h _ (hw.upd hu (Below.setCell (Below.refl _ _) hB v) (fun k _ hne => Below.heap_setCell _ _ _ _ (fun e => hne (by rw [e]; rfl))) (hk.stored o v).1 (fun q hq => .inl hq)))
  rw [← hc]; congr 1; unfold Addr.add; split <;> simp_all
/-- A store over a whole block. -/
theorem so_storeB {x y : Operand} {t : TypeId} {b c : Nat} {cs old : List Value} (hg : wants ops F g = some bw) (hb : bw = true) (hx : evO F x = some (.pointer (some ⟨b, 0, none⟩))) (hy : evO F y = some (.agg cs.toArray))
    (hS : ∀ w, (sizeOf t).run P w = .ok c w) (hcs : cs.length = c) (h1 : cs.all Value.oneCell' = true) (hu : Upd H (row b t old) (row b t cs) H') (ho : old.length = cs.length)
    (h : SO rd P N B w0 ops rest F H' K) : SO rd P N B w0 ops (⟨none, .store t x y, ty, pos, af, g⟩ :: rest) F H K := fun w hw => by
  have hk : Blk w b t old.toArray := (hw.ok _ hu.mem).1
  have hB := (hw.ok _ hu.mem).2 b rfl
  have hrow : (storeCells ⟨b, 0, none⟩ cs).run P w = .ok () (w.setRow b cs.toArray) := by
    have := run_storeCells_from (P := P) b t cs 0 old.toArray w hk (by simpa using ho.symm) (List.all_eq_true.1 h1)
    simpa using this
  refine xo_skip (w' := w.setRow b cs.toArray) hg hb rfl (fun ρ ha => ?_) (h _ (hw.upd hu (setRow_below hB cs.toArray) (fun k _ hne => ?_) (setRow_heap w b old.toArray cs.toArray t (0, 0) hk) (fun q hq => .inl hq)))
  · simp [execOp, ha _ _ hx, ha _ _ hy, Instr.storeAt, Instr.sureAddr, storeVar, Value.cells, hS, hcs, hrow]
  · have : b ≠ k := fun e => hne (by rw [e]; rfl)
    simp [World.setRow, Array.getElem?_modify, this]

/-- A call that turns nothing that was there. -/
theorem so_callQ {f : FuncId} {as_ : Array Operand} {ats : Array TypeId} {vs : List Value} {v : Value} (hc : ∀ w, Mem B w0 H w → Calls P f vs.toArray w fun e w' => e = .returned v ∧ Below w.heap.size w w') (hg : wants ops F g = some bw) (hb : bw = true)
    (hvs : as_.toList.map (evO F) = vs.map some) (hf : ∀ args w, (callFunc f args).run P w = .ok (.enter f args) w) (hN : d < N.n)
    (h : SO rd P N B w0 ops rest ((d, v) :: F) H K) :
    SO rd P N B w0 ops (⟨some d, .call { callee := .value (.func f), args := as_, argTypes := ats }, ty, pos, af, g⟩ :: rest) F H K := fun w hw =>
  xo_callC (hc w hw) hg hb hvs hf hN fun _ w' ⟨he, hb⟩ => ⟨v, he, h w' (hw.keep hb)⟩
inductive CatH : Hp → Hp → Hp → Prop
  | nil {H : Hp} : CatH [] H H
  | cons {e : Ent} {T H R : Hp} : CatH T H R → CatH (e :: T) H (e :: R)
theorem CatH.eq {T H R : Hp} (h : CatH T H R) : T ++ H = R := by
  induction h with
  | nil => rfl
  | cons _ ih => rw [List.cons_append, ih]
/-- A call that makes memory. -/
theorem so_callN {ι : Type} {f : FuncId} {as_ : Array Operand} {ats : Array TypeId} {vs : List Value} {v : ι → Value} {Hn Hj : ι → Hp} {I : ι → Prop} (hc : ∀ w, Mem B w0 H w → Calls P f vs.toArray w fun e w' => ∃ i, I i ∧ e = .returned (v i) ∧ Mem w.heap.size w (Hn i) w') (hg : wants ops F g = some bw) (hb : bw = true)
    (hvs : as_.toList.map (evO F) = vs.map some) (hf : ∀ args w, (callFunc f args).run P w = .ok (.enter f args) w) (hN : d < N.n)
    (h : ∀ i, I i → SO rd P N B w0 ops rest ((d, v i) :: F) (Hj i) K) (hj : ∀ i, CatH (Hn i) H (Hj i) := by intro _; repeat (first | exact CatH.nil | apply CatH.cons)) :
    SO rd P N B w0 ops (⟨some d, .call { callee := .value (.func f), args := as_, argTypes := ats }, ty, pos, af, g⟩ :: rest) F H K := fun w hw =>
  xo_callC (hc w hw) hg hb hvs hf hN fun _ w' ⟨i, hi, he, hb⟩ => ⟨v i, he, h i hi w' ((hj i).eq ▸ hw.join hb)⟩
/-- A call that turns what it is handed. -/
theorem so_callM {ι : Type} {f : FuncId} {as_ : Array Operand} {ats : Array TypeId} {vs : List Value} {v : ι → Value} {L : Hp} {Hn : ι → Hp} {I : ι → Prop} (hs : SubH H L) (hc : ∀ w, Mem B w0 L w → Calls P f vs.toArray w fun e w' => ∃ i, I i ∧ e = .returned (v i) ∧ Mem B w0 (Hn i) w') (hg : wants ops F g = some bw) (hb : bw = true)
    (hvs : as_.toList.map (evO F) = vs.map some) (hf : ∀ args w, (callFunc f args).run P w = .ok (.enter f args) w) (hN : d < N.n)
    (h : ∀ i, I i → SO rd P N B w0 ops rest ((d, v i) :: F) (Hn i) K) :
    SO rd P N B w0 ops (⟨some d, .call { callee := .value (.func f), args := as_, argTypes := ats }, ty, pos, af, g⟩ :: rest) F H K := fun w hw =>
  xo_callC (hc w (hw.sub hs)) hg hb hvs hf hN fun _ w' ⟨i, hi, he, hb⟩ => ⟨v i, he, h i hi w' hb⟩
end

/-! ### A region that draws its order -/
section
variable {rd : Option Nat} {P : Program} {N : Nx} {B n : Nat} {w0 : World} {F : Fr} {H : Hp} {l : List Oper} {ops : Array Oper} {rest : List Oper} {KD : List Oper → Fr → Hp → Prop} {d : Nat} {ty : TypeId} {pos : String} {af : Array Edge} {g : Option (Nat × Bool)} {bw one : Bool}

theorem fin_mono {B : Nat} {w' : World} : ∀ (S : List Sp) (F : Fr) (K1 K2 : Fr → Prop), (∀ F', K1 F' → K2 F') → fin B w' S F K1 → fin B w' S F K2
  | [], _, _, _, hk, h => hk _ h
  | .fix _ _ :: S, _, _, _, hk, h => fin_mono S _ _ _ hk h
  | .new _ _ _ _ :: S, _, _, _, hk, h => fin_mono S _ _ _ (fun F' h g h1 h2 => hk _ (h g h1 h2)) h
theorem XD.mono {B : Nat} {w0 : World} {K1 K2 : World → List Oper → Fr → Prop} (h : XD P N ops B w0 n l F K1) (hk : ∀ w' l F', Below B w0 w' → K1 w' l F' → K2 w' l F') : XD P N ops B w0 n l F K2 := by
  obtain ⟨h0, S, h1, h2⟩ := h
  exact ⟨h0, S, h1, fun w' hb => fin_mono _ _ _ _ (fun F' h => hk _ _ _ hb h) (h2 w' hb)⟩

/-- 'one': a block may be made (one alone). -/
def SD (one : Bool) (P : Program) (N : Nx) (B : Nat) (w0 : World) (ops : Array Oper) (n : Nat) (l : List Oper) (F : Fr) (H : Hp) (KD : List Oper → Fr → Hp → Prop) : Prop :=
  ∀ w, Mem B w0 H w → XD P N ops w.heap.size w n l F (fun w' l' F' => ∃ H', Mem B w0 H' w' ∧ (one = false → H' = H) ∧ KD l' F' H')

theorem sd_nil (h : KD l F H) : SD one P N B w0 ops 0 l F H KD := fun _ hw => xd_nil fun _ hb => ⟨H, hw.keep hb, fun _ => rfl, h⟩
theorem sd_pure {o : Oper} {b : Bool} {v : Value} (hg : wants ops F o.guard = some b) (hb : b = true) (hd : o.dst = some d) (hdN : d < N.n) (hr : PS P F (Mem B w0 H) o v) (h : SD one P N B w0 ops n rest ((d, v) :: F) H KD) : SD one P N B w0 ops (n + 1) (o :: rest) F H KD :=
  fun w hw => xd_pure hg hb hd hdN (fun ρ ha w1 hw1 => hr ρ ha w1 (hw.keep hw1)) (h w hw)
theorem sd_not {o : Oper} {b : Bool} (hg : wants ops F o.guard = some b) (hb : b = false) (hd : o.dst = some d) (hdN : d < N.n) (h : SD one P N B w0 ops n rest ((d, undef) :: F) H KD) : SD one P N B w0 ops (n + 1) (o :: rest) F H KD :=
  fun w hw => xd_not hg hb hd hdN (h w hw)
theorem sd_split {o : Oper} {b : Bool} {p : Nat × Bool} (h0 : o.guard = some p) (hg : wants ops F o.guard = some b) (h1 : b = true → SD one P N B w0 ops n (o :: rest) F H KD) (h2 : b = false → SD one P N B w0 ops n (o :: rest) F H KD) : SD one P N B w0 ops n (o :: rest) F H KD := by
  cases b
  · exact h2 rfl
  · exact h1 rfl
theorem sd_callQ {f : FuncId} {as_ : Array Operand} {ats : Array TypeId} {vs : List Value} {v : Value} (hc : ∀ w, Mem B w0 H w → Calls P f vs.toArray w fun e w' => e = .returned v ∧ Below w.heap.size w w') (hg : wants ops F g = some bw) (hb : bw = true)
    (hvs : as_.toList.map (evO F) = vs.map some) (hf : ∀ args w, (callFunc f args).run P w = .ok (.enter f args) w) (hN : d < N.n) (h : SD one P N B w0 ops n rest ((d, v) :: F) H KD) :
    SD one P N B w0 ops (n + 1) (⟨some d, .call { callee := .value (.func f), args := as_, argTypes := ats }, ty, pos, af, g⟩ :: rest) F H KD :=
  fun w hw => xd_call hg hb hvs hf hN (fun w1 hw1 => hc w1 (hw.keep hw1)) (h w hw)
theorem sd_new {o : Oper} {t : TypeId} {cs : List Value} (mk : Nat → Value) {b : Bool} (hg : wants ops F o.guard = some b) (hb : b = true) (hd : o.dst = some d) (hF : F.lookup d = none) (hN : d < N.n)
    (hr : ∀ ρ : Operand → Value, (∀ x v, evO F x = some v → ρ x = v) → ∀ w, (execOp ρ o).run P w = .ok (.value (mk w.heap.size)) (w.alloc (.cells cs.toArray t)))
    (h : SD false P N B w0 ops n rest F H (fun l F' H' => ∀ q, KD l ((d, mk q) :: F') (row q t cs :: H'))) : SD true P N B w0 ops (n + 1) (o :: rest) F H KD :=
  fun w hw => xd_new mk hg hb hd hF hN hr ((h w hw).mono fun w' l F' hb ⟨H', h1, h2, h3⟩ => fun q hq hB => by
    have := h2 rfl; subst this
    exact ⟨row q t cs :: H', ⟨h1.below, h1.base, fun e he => by
      rcases List.mem_cons.1 he with rfl | he
      · exact ⟨hB, fun q' e => by cases e; exact Nat.le_trans hw.le hq⟩
      · exact h1.ok e he, by
      rw [List.pairwise_cons]
      refine ⟨fun x hx q' e hx' => ?_, h1.apart⟩
      cases e
      have := x.lt hx' (hw.ok x hx).1
      omega, h1.others⟩, fun e => absurd e (by decide), h3 q⟩)
theorem sd_alloc {t : TypeId} {z : Value} (hg : wants ops F g = some bw) (hb : bw = true) (hF : F.lookup d = none) (hZ : ∀ w, (zeroValue t).run P w = .ok z w) (hN : d < N.n)
    (h : SD false P N B w0 ops n rest F H (fun l F' H' => ∀ q, KD l ((d, .pointer (some ⟨q, 0, none⟩)) :: F') (row q t z.cells.toList :: H'))) : SD true P N B w0 ops (n + 1) (⟨some d, .alloc t, ty, pos, af, g⟩ :: rest) F H KD :=
  sd_new (fun q => .pointer (some ⟨q, 0, none⟩)) hg hb rfl hF hN (fun ρ _ w => by simp [execOp, Instr.alloc, hZ, newVar, newRow]) h
theorem sd_slice1 {x : Operand} {t e : TypeId} {sz : Nat} {v : Value} (hg : wants ops F g = some bw) (hb : bw = true) (hx : evO F x = some v) (hok : appOk P t e sz = true) (hvs : v.cells.size = sz) (hF : F.lookup d = none) (hN : d < N.n)
    (h : SD false P N B w0 ops n rest F H (fun l F' H' => ∀ q, KD l ((d, .slice (some ⟨q, 0, none⟩) 1 1) :: F') (row q e v.cells.toList :: H'))) : SD true P N B w0 ops (n + 1) (⟨some d, .buildSlice t 1 #[(0, x)], ty, pos, af, g⟩ :: rest) F H KD :=
  sd_new (cs := v.cells.toList) (fun q => .slice (some ⟨q, 0, none⟩) 1 1) hg hb rfl hF hN (fun ρ ha w => by simp [execOp, ha _ _ hx, run_slice1 hok hvs]) h
end

/-- The same, part by part. -/
def SG (rd : Option Nat) (P : Program) (N : Nx) (B : Nat) (w0 : World) (l : List Oper) (p : Nat) (r : List Oper) (F : Fr) (H : Hp) (K : Fr → Hp → Prop) : Prop :=
  ∀ w, Mem B w0 H w → RG rd P N l p r F w (fun F' w' => ∃ H', Mem B w0 H' w' ∧ K F' H')
section
variable {rd : Option Nat} {P : Program} {N : Nx} {B p : Nat} {w0 : World} {F : Fr} {H : Hp} {l r : List Oper} {KG : Fr → Hp → Prop}
theorem s_parts {id : Nat} {K : Exit → Fr → Hp → Prop} (hm : P.follows .mixedOrders = true) (h : SG rd P N B w0 l 0 l F H (K .normal)) : S rd P N B w0 (.region id l.toArray true) F H K := fun _ w hw => x_parts hm (h w.drew hw.drew)
theorem sg_end (h : KG F H) : SG rd P N B w0 l p [] F H KG := fun _ hw => rg_end ⟨H, hw, h⟩
theorem sg_free (n : Nat) (hd : segOk l p (p + n) = true) (h : SD true P N B w0 l.toArray n r F H (fun r' F' H' => SG rd P N B w0 l (p + n) r' F' H' KG)) : SG rd P N B w0 l p r F H KG := fun w hw =>
  rg_free n hd ((h w hw).mono fun w' _ _ _ ⟨_, h1, _, h2⟩ => h2 w' h1)
theorem sg_one {o : Oper} (hd : segOk l p (p + 1) = true) (h : SO rd P N B w0 l.toArray [o] F H (fun F' H' => SG rd P N B w0 l (p + 1) r F' H' KG)) : SG rd P N B w0 l p (o :: r) F H KG := fun w hw =>
  rg_one hd ((h w hw).mono fun F' w' ⟨_, h1, h2⟩ => h2 w' h1)
theorem SG.sub {G : Fr} {L : Hp} (hs : Sub F G) (hh : SubH H L) (h : SG rd P N B w0 l p r G L KG) : SG rd P N B w0 l p r F H KG := fun w hw hp hr Q hQ fuel listed a ha => h w (hw.sub hh) hp hr Q hQ fuel listed a (ha.sub hs)
end

/-! ### Slices of the call's own -/
section
variable {rd : Option Nat} {P : Program} {N : Nx} {B : Nat} {w0 : World} {F : Fr} {H H' R : Hp} {ops : Array Oper} {rest : List Oper} {K : Fr → Hp → Prop} {d : Nat} {ty : TypeId} {pos : String} {af : Array Edge} {g : Option (Nat × Bool)} {bw : Bool}

theorem so_slice1 {x : Operand} {t e : TypeId} {sz : Nat} {v : Value} (hg : wants ops F g = some bw) (hb : bw = true) (hx : evO F x = some v) (hok : appOk P t e sz = true) (hvs : v.cells.size = sz) (hN : d < N.n)
    (h : ∀ q, SO rd P N B w0 ops rest ((d, .slice (some ⟨q, 0, none⟩) 1 1) :: F) (row q e v.cells.toList :: H) K) : SO rd P N B w0 ops (⟨some d, .buildSlice t 1 #[(0, x)], ty, pos, af, g⟩ :: rest) F H K :=
  fun w hw => xo_slice1 hg hb hx hok hvs hN (h _ _ (hw.alloc e _))

/-- A slice that is not empty has a block. -/
theorem s_ownSome {A : Option Addr} {n cap sz : Nat} {t : TypeId} {cs : List Value} {c : Code} {K : Exit → Fr → Hp → Prop} (hp : Pick H (own A n cap t sz cs) R) (hn : 0 < n) (h : ∀ q, A = some ⟨q, 0, none⟩ → S rd P N B w0 c F H K) : S rd P N B w0 c F H K := fun hn' w hw => by
  obtain ⟨q, hq⟩ := hw.ownSome hp hn
  exact h q hq hn' w hw
theorem so_ownSome {A : Option Addr} {n cap sz : Nat} {t : TypeId} {cs : List Value} {l : List Oper} (hp : Pick H (own A n cap t sz cs) R) (hn : 0 < n) (h : ∀ q, A = some ⟨q, 0, none⟩ → SO rd P N B w0 ops l F H K) : SO rd P N B w0 ops l F H K := fun w hw => by
  obtain ⟨q, hq⟩ := hw.ownSome hp hn
  exact h q hq w hw
/-- A slice of no block yet. -/
theorem Mem.ownNil {w : World} (h : Mem B w0 H w) (t : TypeId) (sz : Nat) : Mem B w0 (own none 0 0 t sz [] :: H) w :=
  ⟨h.below, h.base, fun e he => by
    rcases List.mem_cons.1 he with rfl | he
    · exact ⟨World.ownsRow_nil w 0 t sz, fun g hg => by cases hg⟩
    · exact h.ok e he, by rw [List.pairwise_cons]; exact ⟨fun a _ g hg => absurd hg (by simp [own]), h.apart⟩, h.others⟩
theorem SubH.ownNil {L : Hp} {t : TypeId} {sz : Nat} (h : ∀ {B : Nat} {w0 w : World}, Mem B w0 H w → Mem B w0 L w) {B : Nat} {w0 w : World} : Mem B w0 H w → Mem B w0 (own none 0 0 t sz [] :: L) w := fun hw => (h hw).ownNil t sz
theorem s_ownNil (t : TypeId) (sz : Nat) {c : Code} {K : Exit → Fr → Hp → Prop} (h : S rd P N B w0 c F (own none 0 0 t sz [] :: H) K) : S rd P N B w0 c F H K := fun hn w hw => h hn w (hw.ownNil t sz)
theorem so_ownNil (t : TypeId) (sz : Nat) {l : List Oper} (h : SO rd P N B w0 ops l F (own none 0 0 t sz [] :: H) K) : SO rd P N B w0 ops l F H K := fun w hw => h w (hw.ownNil t sz)

/-- A slice of so many zeros, of one cell each. -/
theorem so_make1 {x y : Operand} {t e : TypeId} {k1 k2 : IntKind} {n : Nat} {z : Value} (hg : wants ops F g = some bw) (hb : bw = true) (hx : evO F x = some (.int k1 (n : Int))) (hy : evO F y = some (.int k2 (n : Int)))
    (hok : appOk P t e 1 = true) (hZ : ∀ w, (zeroValue e).run P w = .ok z w) (hzc : z.cells = #[z]) (hn : n ≤ 4294967296) (hN : d < N.n)
    (h : ∀ q, SO rd P N B w0 ops rest ((d, .slice (some ⟨q, 0, none⟩) n n) :: F) (own (some ⟨q, 0, none⟩) n n e 1 (List.replicate n z) :: H) K) : SO rd P N B w0 ops (⟨some d, .makeSlice t x y, ty, pos, af, g⟩ :: rest) F H K := fun w hw => by
  obtain ⟨hu', ⟨hp, hp2⟩, i, z', hi, hz, hs, hzs, hby⟩ := appOk_spec hok
  have hzz : z' = z := by
    have := hZ w
    simp [zeroValue, typeInfo, hi, hz] at this; exact this
  subst hzz
  obtain ⟨w', hr, h2, h3⟩ := run_make_full (P := P) w 0 t e i z' 1 hu' hi hz hs k1 k2 n (by
    have : i.bytes * n ≤ i.bytes * 4294967296 := Nat.mul_le_mul_left _ hn
    omega) (by simp only [maxLen]; omega) (Nat.zero_le _)
  rw [hzc, toList_madeCells_one, Nat.mul_one] at h2
  have hb0 : Below w.heap.size w w' := (Below.refl _ w).grown h3 (Nat.le_refl _) (fun k hk => by cases hk)
  refine xo_run (w' := w') hg hb rfl hN (fun ρ ha => by simp [execOp, ha _ _ hx, ha _ _ hy, hr]) (h _ w' (hw.new (e := own _ n n e 1 _) (g := w.heap.size) rfl (Nat.le_refl _) h2 hb0))

/-- append of one element. -/
theorem so_append1 {x y : Operand} {t e : TypeId} {sz n b cap cap1 : Nat} {A : Option Addr} {xs news : List Value} {R' : Option Addr → Nat → Hp} (hg : wants ops F g = some bw) (hb : bw = true)
    (hx : evO F x = some (.slice A n cap)) (hy : evO F y = some (.slice (some ⟨b, 0, none⟩) 1 cap1)) (hok : appOk P t e sz = true) (hN : d < N.n)
    (hu : ∀ A' cap', Upd H (own A n cap e sz xs) (own A' (n + 1) cap' e sz (xs ++ news)) (R' A' cap')) (hnews : Rw B w0 H b 0 news) (hcl : news.length = sz) (h1 : news.all Value.oneCell' = true) (hlen : n + 1 ≤ 4294967296)
    (h : ∀ A' cap', SO rd P N B w0 ops rest ((d, .slice A' (n + 1) cap') :: F) (R' A' cap') K) :
    SO rd P N B w0 ops (⟨some d, .call { callee := .builtin .append, args := #[x, y], argTypes := #[t, t] }, ty, pos, af, g⟩ :: rest) F H K := fun w hw => by
  obtain ⟨hu', ⟨hp, hp2⟩, i, z, hi, hz, hs, hzs, hby⟩ := appOk_spec hok
  have hk : w.ownsRow 0 e sz (.slice A n cap) n xs := (hw.ok _ (hu none 0).mem).1
  have hkB := (hw.ok _ (hu none 0).mem).2
  obtain ⟨g', cap', w', hr, h2, h3, h4, h5⟩ := run_append_lies (P := P) w t ty 0 e i z sz i.bytes hu' hi hz hs rfl hzs hp _ n _ hk ⟨b, 0, none⟩ 1 cap1 news (by omega) (fun j v hv => by rw [add_place]; exact hnews w hw j v hv) (List.all_eq_true.1 h1) (by omega) (by simp only [maxLen]; omega)
    (Nat.le_trans (Nat.mul_le_mul_right _ hlen) hby) (Nat.zero_le _) _ rfl
  have hfoot : (Value.slice A n cap).ownBlock = A.map (·.block) := by cases A <;> rfl
  refine xo_run (w' := w') hg hb rfl hN (fun ρ ha => ?_) (h (some ⟨g', 0, none⟩) cap' w' (hw.upd (hu _ _) ?_ (fun k hk hne => ?_) h2 ?_))
  · simp [execOp, resolve, invoke, builtin, ha _ _ hx, ha _ _ hy, hr]
  · refine (Below.refl B w).grown h3 hw.le (fun k hk => ?_)
    rw [hfoot] at hk; exact hkB k hk
  · exact h3.block k hk (by rw [hfoot]; exact fun e => hne e.symm)
  · rintro q hq
    cases hq
    rw [hfoot] at h4
    rcases h4 with h4 | h4
    · exact .inl h4
    · exact .inr (by rw [h4]; exact Nat.le_refl _)
end
end Go.Proofs.Ytdoihebekbfnbaa
