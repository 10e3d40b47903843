/- What the functions of package floats compute, in plain Lean, wrap-round and all. -/
import Derived.Test.YtepkhfebflmieaaBase
namespace Go.Proofs.Ytepkhfebflmieaa
open Go.RowKit

structure Fl where
  side : Int
  x : Int
  y : Int
  w : Int
  h : Int
deriving DecidableEq

structure FlIn (W : World) (b o : Nat) (f : Fl) : Prop where
  c0 : W.cell? ⟨b, o, none⟩ = some (.int .u8 f.side)
  c1 : W.cell? ⟨b, o + 1, none⟩ = some (.int .i64 f.x)
  c2 : W.cell? ⟨b, o + 2, none⟩ = some (.int .i64 f.y)
  c3 : W.cell? ⟨b, o + 3, none⟩ = some (.int .i64 f.w)
  c4 : W.cell? ⟨b, o + 4, none⟩ = some (.int .i64 f.h)

theorem flKeeps : Keeps FlIn := fun _ _ _ _ _ _ h hb hB =>
  let ⟨h0, h1, h2, h3, h4⟩ := h
  ⟨(hb.cell (p := ⟨_, _, _⟩) hB).trans h0, (hb.cell (p := ⟨_, _, _⟩) hB).trans h1, (hb.cell (p := ⟨_, _, _⟩) hB).trans h2, (hb.cell (p := ⟨_, _, _⟩) hB).trans h3, (hb.cell (p := ⟨_, _, _⟩) hB).trans h4⟩

abbrev FlSl := SlAt FlIn 5

def Fl.cells (f : Fl) : List Value := [.int .u8 f.side, .int .i64 f.x, .int .i64 f.y, .int .i64 f.w, .int .i64 f.h]
theorem flByCells : ByCells FlIn Fl.cells 5 := ⟨fun _ => rfl, fun _ _ _ _ h => ⟨h 0 (by omega), h 1 (by omega), h 2 (by omega), h 3 (by omega), h 4 (by omega)⟩⟩

def Fl.val (f : Fl) : Value := .agg #[.int .u8 f.side, .int .i64 f.x, .int .i64 f.y, .int .i64 f.w, .int .i64 f.h]

/-- A size, as the laws have it. -/
structure Sz where
  r : Bool
  w : Int
  h : Int
  y : Int

structure SzIn (W : World) (b o : Nat) (s : Sz) : Prop where
  c0 : W.cell? ⟨b, o, none⟩ = some (.bool s.r)
  c1 : W.cell? ⟨b, o + 1, none⟩ = some (.int .u16 s.w)
  c2 : W.cell? ⟨b, o + 2, none⟩ = some (.int .u16 s.h)
  c3 : W.cell? ⟨b, o + 3, none⟩ = some (.int .u16 s.y)

theorem szKeeps : Keeps SzIn := fun _ _ _ _ _ _ h hb hB =>
  let ⟨h0, h1, h2, h3⟩ := h
  ⟨(hb.cell (p := ⟨_, _, _⟩) hB).trans h0, (hb.cell (p := ⟨_, _, _⟩) hB).trans h1, (hb.cell (p := ⟨_, _, _⟩) hB).trans h2, (hb.cell (p := ⟨_, _, _⟩) hB).trans h3⟩

abbrev SzSl := SlAt SzIn 4
def U16 (n : Int) : Prop := 0 ≤ n ∧ n ≤ 65535
structure SzB (s : Sz) : Prop where
  w : U16 s.w
  h : U16 s.h
  y : U16 s.y
def Sz.side (s : Sz) : Int := if s.r = true then 2 else 1

def nextS (y : Int) (st : Int × Bool) (f : Fl) : Int × Bool :=
  if y < wrap64 (f.y + f.h) ∧ (st.2 = false ∨ wrap64 (f.y + f.h) < st.1) then (wrap64 (f.y + f.h), true) else st
def nextM (l : List Fl) (y : Int) : Int × Bool := l.foldl (nextS y) (0, false)

def stands (y h : Int) (f : Fl) : Bool := decide (0 < f.h) && decide (f.y < wrap64 (y + h)) && decide (y < wrap64 (f.y + f.h))

def atS (y h : Int) (st : Int × Int × Bool) (f : Fl) : Int × Int × Bool :=
  if stands y h f = true then (if f.side = 2 then (st.1, min st.2.1 f.x, true) else (max st.1 (wrap64 (f.x + f.w)), st.2.1, true)) else st
def atM (l : List Fl) (left right y h : Int) : Int × Int × Bool := l.foldl (atS y h) (left, right, false)

def clearS (side : Int) (y : Int) (f : Fl) : Int :=
  if side = 3 ∨ (side ≠ 0 ∧ f.side = side) then max y (wrap64 (f.y + f.h)) else y
def clearM (l : List Fl) (side y : Int) : Int := l.foldl (clearS side) y

/-- How many bottoms lie above a height. -/
def bots (l : List Fl) (y : Int) : Nat := (l.filter fun f => decide (y < wrap64 (f.y + f.h))).length

theorem next_fold (y : Int) : ∀ (l : List Fl) (s : Int × Bool), ((l.foldl (nextS y) s).2 = true → (s.2 = true ∧ l.foldl (nextS y) s = s) ∨ (∃ f ∈ l, (l.foldl (nextS y) s).1 = wrap64 (f.y + f.h) ∧ y < wrap64 (f.y + f.h)))
  | [], s => fun h => .inl ⟨h, rfl⟩
  | f :: l, s => fun h => by
    rw [List.foldl_cons] at h ⊢
    rcases next_fold y l (nextS y s f) h with ⟨h1, h2⟩ | ⟨g, hg, h2⟩
    · rw [h2]
      unfold nextS at h1 ⊢
      split
      · rename_i hc; exact .inr ⟨f, List.mem_cons_self, rfl, hc.1⟩
      · rename_i hc; rw [if_neg hc] at h1; exact .inl ⟨h1, rfl⟩
    · exact .inr ⟨g, List.mem_cons_of_mem _ hg, h2⟩

theorem next_mem {l : List Fl} {y : Int} (h : (nextM l y).2 = true) : ∃ f ∈ l, (nextM l y).1 = wrap64 (f.y + f.h) ∧ y < wrap64 (f.y + f.h) := by
  rcases next_fold y l (0, false) h with ⟨h1, _⟩ | h1
  · cases h1
  · exact h1

theorem filter_lt {α : Type} (p q : α → Bool) (hpq : ∀ x, q x = true → p x = true) : ∀ (l : List α) (x : α), x ∈ l → p x = true → q x = false → (l.filter q).length < (l.filter p).length
  | [], _, hx, _, _ => by cases hx
  | a :: l, x, hx, hp, hq => by
    have hle : (l.filter q).length ≤ (l.filter p).length := by
      clear hx
      induction l with
      | nil => simp
      | cons b l ih =>
        rw [List.filter_cons, List.filter_cons]
        by_cases hb : q b = true
        · rw [if_pos hb, if_pos (hpq _ hb)]; simpa using ih
        · rw [if_neg hb]; split <;> first | (rw [List.length_cons]; omega) | exact ih
    rw [List.filter_cons, List.filter_cons]
    rcases List.mem_cons.1 hx with rfl | hx
    · rw [if_pos hp, if_neg (by rw [hq]; simp), List.length_cons]; omega
    · have := filter_lt p q hpq l x hx hp hq
      by_cases hb : q a = true
      · rw [if_pos hb, if_pos (hpq _ hb)]; simpa using this
      · rw [if_neg hb]; split <;> first | (rw [List.length_cons]; omega) | exact this

theorem bots_lt {l : List Fl} {y : Int} (h : (nextM l y).2 = true) : bots l (nextM l y).1 < bots l y := by
  obtain ⟨f, hf, he, hy⟩ := next_mem h
  exact filter_lt _ _ (fun g hg => decide_eq_true (by have := of_decide_eq_true hg; omega)) l f hf (by simpa using hy) (by rw [he]; exact decide_eq_false (Int.lt_irrefl _))

/-- The search of Place: the room and the height at which there is some. -/
def placeGo (l : List Fl) (left right w : Int) (y : Int) : Option (Int × Int × Int) :=
  if (atM l left right y 1).2.2 = true ∧ wrap64 ((atM l left right y 1).2.1 - (atM l left right y 1).1) < w then
    if _h : (nextM l y).2 = true then placeGo l left right w (nextM l y).1 else none
  else some ((atM l left right y 1).1, (atM l left right y 1).2.1, y)
termination_by bots l y
decreasing_by exact bots_lt _h

def topM (l : List Fl) (y : Int) : Int := l.foldl (fun y f => max y f.y) y

def placeEnd (side w h : Int) : Option (Int × Int × Int) → Fl
  | none => ⟨1, 0, 0, w, h⟩
  | some (a, b, y) => if side = 2 then ⟨2, wrap64 (b - w), y, w, h⟩ else ⟨1, a, y, w, h⟩

def placeM (l : List Fl) (side w h left right y : Int) : Fl := placeEnd side (max w 0) (max h 0) (placeGo l left right (max w 0) (topM l y))

end Go.Proofs.Ytepkhfebflmieaa
