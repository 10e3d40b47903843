/- Heights of boxes, and where the items of a Flex stand: what is computed. -/
import Derived.Test.YtdoihebekbfnbaaWinW
import Derived.Test.YtdoihebekbfnbaaBig
namespace Go.Proofs.Ytdoihebekbfnbaa
open Go.RowKit

def pxM (l : Ln) (none : Int) : Int := if l.k = 1 then l.n else none
def highM (s : Sty) (auto : Int) : Int :=
  max (max (min (pxM s.h auto) (pxM s.maxh (pxM s.h auto))) (pxM s.minh (min (pxM s.h auto) (pxM s.maxh (pxM s.h auto))))) 0

structure Us where
  w : Int
  left : Int
  right : Int
def Us.cells (u : Us) : List Value := [.int .i64 u.w, .int .i64 u.left, .int .i64 u.right]
structure Fg where
  x : Int
  y : Int
  w : Int
  h : Int
def Fg.cells (f : Fg) : List Value := [.int .i64 f.x, .int .i64 f.y, .int .i64 f.w, .int .i64 f.h, .slice none 0 0]
def Fg.zero : Fg := ⟨0, 0, 0, 0⟩
structure It where
  s : Sty
  wide : Int
  high : Int
  above : Int
  below : Int
  left : Int
  right : Int
  down : Int
def It.cells (x : It) : List Value := x.s.cells ++ [.int .i64 x.wide, .int .i64 x.high, .int .i64 x.above, .int .i64 x.below, .int .i64 x.left, .int .i64 x.right, .int .i64 x.down]
def Sty.down (s : Sty) : Int := s.b0 + s.p0 + (s.b2 + s.p2)
def itM (c : Int) (s : Sty) (u : Us) (h : Int) : It := ⟨s, s.frame + u.w, h, (resM s.m0 c).1, (resM s.m2 c).1, u.left, u.right, s.down⟩
def itemsM (c : Int) (kids : List Sty) (us : List Us) (hs : List Int) : List It := kids.mapIdx fun i s => itM c s (us[i]?.getD ⟨0, 0, 0⟩) (hs[i]?.getD 0)
structure KidB (s : Sty) (c : Int) : Prop where
  st : StB s c
  m0 : LnB s.m0 c
  m2 : LnB s.m2 c

/-- The numbers of an item, of a style's heights, are within bounds. -/
def In1 (n : Int) : Prop := -100000000000000 ≤ n ∧ n ≤ 100000000000000
structure ItB (x : It) : Prop where
  wide : In1 x.wide
  high : In1 x.high
  above : In1 x.above
  below : In1 x.below
  left : In1 x.left
  right : In1 x.right
  down : In1 x.down
  h : In1 x.s.h.n
  minh : In1 x.s.minh.n
  maxh : In1 x.s.maxh.n

def begM (s : Sty) (left : Int) : Int := if s.justify = 1 then left else if s.justify = 2 then left / 2 else 0
def movM (s : Sty) (left : Int) (i n : Nat) : Int := if s.justify = 3 ∧ 0 < left ∧ 2 ≤ n then left / ((n : Int) - 1) * i + left % ((n : Int) - 1) * i / ((n : Int) - 1) else 0
def hgtM (s : Sty) (x : It) (tall : Int) : Int := if s.items = 3 ∧ x.s.h.k = 0 then highM x.s (max (tall - x.above - x.below - x.down) 0) + x.down else x.high
def overM (s : Sty) (over : Int) : Int := if s.items = 1 then over else if s.items = 2 then over / 2 else 0
def It.all (x : It) : Int := x.left + x.wide + x.right
def fragM (s : Sty) (x : It) (top tall at_ mv : Int) : Fg := ⟨at_ + x.left + mv, top + x.above + overM s (tall - hgtM s x tall - x.above - x.below), x.wide, hgtM s x tall⟩

/-- One row: its items from the i-th on. -/
def rowGo (s : Sty) (l : List It) (top tall left : Int) (n : Nat) : List Nat → Nat → Int → List Fg → List Fg
  | [], _, _, out => out
  | k :: ks, i, at_, out => match l[k]? with
    | some x => rowGo s l top tall left n ks (i + 1) (at_ + x.all) (out.set k (fragM s x top tall at_ (movM s left i n)))
    | none => out
def leftM' (c : Int) (l : List It) (row : List Nat) : Int := row.foldl (fun a k => a - (l[k]?.elim 0 It.all)) c
def tallM (l : List It) (row : List Nat) : Int := row.foldl (fun a k => max a (l[k]?.elim 0 fun x => x.high + x.above + x.below)) 0
def rowTallM (s : Sty) (l : List It) (row : List Nat) (only : Bool) : Int := if only = true ∧ s.h.k = 1 then highM s 0 else tallM l row
def rowM (s : Sty) (c : Int) (l : List It) (row : List Nat) (top tall : Int) (out : List Fg) : List Fg :=
  rowGo s l top tall (leftM' c l row) row.length row 0 (begM s (leftM' c l row)) out
def rowsM20 (s : Sty) (c : Int) (l : List It) (only : Bool) (rows : List (List Nat)) (st : List Fg × Int) : List Fg × Int :=
  rows.foldl (fun st row => (rowM s c l row st.2 (rowTallM s l row only) st.1, st.2 + rowTallM s l row only)) st
def cutF (f : Fg) : Fg := ⟨cutM f.x, cutM f.y, cutM f.w, cutM f.h⟩
def beyF (f : Fg) : Bool := ((!decide (f.x = cutM f.x)) || (!decide (f.y = cutM f.y))) || (!decide (f.w = cutM f.w)) || (!decide (f.h = cutM f.h))
def placeM (s : Sty) (c : Int) (l : List It) (rows : List (List Nat)) : List Fg × Int := rowsM20 s c l (rows.length == 1) rows (List.replicate l.length Fg.zero, 0)
end Go.Proofs.Ytdoihebekbfnbaa
