/- Lengths, styles, and what package widths computes, in plain Lean, within bounds. -/
import Derived.Test.YtdoihebekbfnbaaGo
namespace Go.Proofs.Ytdoihebekbfnbaa
open Go.RowKit

structure Ln where
  k : Int
  n : Int
def Ln.cells (l : Ln) : List Value := [.int .u8 l.k, .int .i64 l.n]

structure Sty where
  kind : Int
  flow : Bool
  float : Int
  clear : Int
  w : Ln
  h : Ln
  minw : Ln
  maxw : Ln
  minh : Ln
  maxh : Ln
  m0 : Ln
  m1 : Ln
  m2 : Ln
  m3 : Ln
  b0 : Int
  b1 : Int
  b2 : Int
  b3 : Int
  p0 : Int
  p1 : Int
  p2 : Int
  p3 : Int
  align : Int
  line : Int
  wrap : Bool
  justify : Int
  items : Int
  order : Int
  grow : Int
  shrink : Int
  basis : Ln
  ua : Option Addr
  un : Nat
  uc : Nat
def Sty.cells (s : Sty) : List Value := [.int .u8 s.kind, .bool s.flow, .int .u8 s.float, .int .u8 s.clear, .int .u8 s.w.k, .int .i64 s.w.n, .int .u8 s.h.k, .int .i64 s.h.n, .int .u8 s.minw.k, .int .i64 s.minw.n, .int .u8 s.maxw.k, .int .i64 s.maxw.n,
  .int .u8 s.minh.k, .int .i64 s.minh.n, .int .u8 s.maxh.k, .int .i64 s.maxh.n, .int .u8 s.m0.k, .int .i64 s.m0.n, .int .u8 s.m1.k, .int .i64 s.m1.n, .int .u8 s.m2.k, .int .i64 s.m2.n, .int .u8 s.m3.k, .int .i64 s.m3.n,
  .int .i64 s.b0, .int .i64 s.b1, .int .i64 s.b2, .int .i64 s.b3, .int .i64 s.p0, .int .i64 s.p1, .int .i64 s.p2, .int .i64 s.p3, .int .u8 s.align, .int .i64 s.line, .bool s.wrap, .int .u8 s.justify, .int .u8 s.items, .int .i64 s.order, .int .i64 s.grow, .int .i64 s.shrink,
  .int .u8 s.basis.k, .int .i64 s.basis.n, .slice s.ua s.un s.uc]

def resM (l : Ln) (c : Int) : Int × Bool := if l.k = 2 then (l.n * max c 0 / 10000, true) else if l.k = 1 then (l.n, true) else (0, false)
/-- A length within bounds. -/
structure LnB (l : Ln) (c : Int) : Prop where
  part : l.k = 2 → -110000000000000000 ≤ l.n * max c 0 ∧ l.n * max c 0 ≤ 110000000000000000
  px : l.k = 1 → -11000000000000 ≤ l.n ∧ l.n ≤ 11000000000000
theorem LnB.res {l : Ln} {c : Int} (h : LnB l c) : -11000000000000 ≤ (resM l c).1 ∧ (resM l c).1 ≤ 11000000000000 := by
  unfold resM
  split
  · rename_i h2; have := h.part h2; dsimp only; omega
  · split
    · rename_i h1; exact h.px h1
    · decide

def InB (n : Int) : Prop := -11000000000000 ≤ n ∧ n ≤ 11000000000000
structure StB (s : Sty) (c : Int) : Prop where
  w : LnB s.w c
  minw : LnB s.minw c
  maxw : LnB s.maxw c
  m1 : LnB s.m1 c
  m3 : LnB s.m3 c
  b0 : InB s.b0
  b1 : InB s.b1
  b2 : InB s.b2
  b3 : InB s.b3
  p0 : InB s.p0
  p1 : InB s.p1
  p2 : InB s.p2
  p3 : InB s.p3

def Sty.frame (s : Sty) : Int := s.b3 + s.p3 + (s.b1 + s.p1)
def clampM (s : Sty) (c w : Int) : Int :=
  let w1 := if (resM s.maxw c).2 = true then min w (resM s.maxw c).1 else w
  let w2 := if (resM s.minw c).2 = true then max w1 (resM s.minw c).1 else w1
  max w2 0
def cutM (x : Int) : Int := max (-1099511627776) (min x 1099511627776)
def leftM (wis one two : Bool) (m n w cl rest : Int) : Int := if (wis = false ∧ cl = w) ∨ one = true then m else if two = false then max (rest / 2) 0 else max (rest - n) 0
def flowT (wis one two : Bool) (c f m n w cl : Int) : Int × Int × Int := (cl, leftM wis one two m n w cl (c - f - cl), c - f - cl - leftM wis one two m n w cl (c - f - cl))
def widthM (wis : Bool) (wv c f m n : Int) : Int := if wis = true then wv else max (c - f - m - n) 0
def flowM (s : Sty) (c0 : Int) : Int × Int × Int :=
  flowT (resM s.w (max c0 0)).2 (resM s.m3 (max c0 0)).2 (resM s.m1 (max c0 0)).2 (max c0 0) s.frame (resM s.m3 (max c0 0)).1 (resM s.m1 (max c0 0)).1
    (widthM (resM s.w (max c0 0)).2 (resM s.w (max c0 0)).1 (max c0 0) s.frame (resM s.m3 (max c0 0)).1 (resM s.m1 (max c0 0)).1)
    (clampM s (max c0 0) (widthM (resM s.w (max c0 0)).2 (resM s.w (max c0 0)).1 (max c0 0) s.frame (resM s.m3 (max c0 0)).1 (resM s.m1 (max c0 0)).1))
def shrunkM (s : Sty) (c0 least greatest : Int) : Int × Int × Int :=
  let c := max c0 0
  let w := if (resM s.w c).2 = true then (resM s.w c).1 else min greatest (max least (c - s.frame - (resM s.m3 c).1 - (resM s.m1 c).1))
  (clampM s c w, (resM s.m3 c).1, (resM s.m1 c).1)
def usedV (t : Int × Int × Int) : Value := .agg #[.int .i64 (cutM t.1), .int .i64 (cutM t.2.1), .int .i64 (cutM t.2.2)]
def beyondM (t : Int × Int × Int) : Bool := ((!decide (t.1 = cutM t.1)) || (!decide (t.2.1 = cutM t.2.1))) || !decide (t.2.2 = cutM t.2.2)

/-- The part of a whole, as the code reckons it, is the floor. -/
theorem part_floor (m : Int) (h : -110000000000000000 ≤ m ∧ m ≤ 110000000000000000) :
    (m.tmod 10000 < 0 → (wrap64 (m - wrap64 (10000 + m.tmod 10000))).tdiv 10000 = m / 10000) ∧ (¬ m.tmod 10000 < 0 → (wrap64 (m - m.tmod 10000)).tdiv 10000 = m / 10000) := by
  have e1 : m.tmod 10000 = m - 10000 * m.tdiv 10000 := by have := Int.mul_tdiv_add_tmod m 10000; omega
  have r : -10000 < m.tmod 10000 ∧ m.tmod 10000 < 10000 := by
    have a := Int.tmod_lt_of_pos m (show (0 : Int) < 10000 by omega)
    have b := Int.lt_tmod_of_pos m (show (0 : Int) < 10000 by omega)
    omega
  have t : ∀ q : Int, (10000 * q).tdiv 10000 = q := fun q => Int.mul_tdiv_cancel_left q (by omega)
  constructor
  · intro hn
    rw [wrap64_within (10000 + m.tmod 10000) (by omega), wrap64_within _ (by omega)]
    have : m - (10000 + m.tmod 10000) = 10000 * (m.tdiv 10000 - 1) := by omega
    rw [this, t]; omega
  · intro hn
    have hm : 0 ≤ m.tmod 10000 := by omega
    rw [wrap64_within _ (by omega)]
    have : m - m.tmod 10000 = 10000 * m.tdiv 10000 := by omega
    rw [this, t]; omega

end Go.Proofs.Ytdoihebekbfnbaa
