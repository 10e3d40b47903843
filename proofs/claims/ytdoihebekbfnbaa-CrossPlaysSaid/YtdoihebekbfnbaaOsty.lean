/- Styles, used widths, numbers that are handed in. -/
import Derived.Test.YtdoihebekbfnbaaOpen
import Derived.Test.YtdoihebekbfnbaaWidM
namespace Go.Proofs.Ytdoihebekbfnbaa
open Go.ChangeShapes Go.WideShapes Go.ChangeAt Go.RowKit Go.Deep

section
variable {H : Type} {enc : TypeId × Value → H} {w : World} {base : Nat} {spare : Nat → Bool} {held : Bool}
theorem sub_of_trod {t : TypeId} {n : Nat} {vs : List Value} {y : DataW H × List MemPlace} (hl : vs.length = Try.prog.cellsOf t) (h : DataW.trod enc Try.prog w base spare held n t vs = some y) : SubT enc Try.prog w base spare held t vs 0 :=
  ⟨n, y, by rw [List.drop_zero, List.take_of_length_le (by omega)]; exact h⟩
set_option maxRecDepth 100000 in
theorem sty_of_sub {cs : List Value} (hs : SubT enc Try.prog w base spare held 28 cs 0) (hlen_ : cs.length = 43) : ∃ s : Sty, cs = s.cells := by
  obtain ⟨z0, h0, g0⟩ := (hs.field (unT_spec _ _ rfl) (j := 0) rfl (of_decide_eq_true (by kernel_rfl))).int (unT_spec _ _ rfl) (by kernel_rfl)
  obtain ⟨z1, h1⟩ := (hs.field (unT_spec _ _ rfl) (j := 1) rfl (of_decide_eq_true (by kernel_rfl))).bool (unT_spec _ _ rfl) (by kernel_rfl)
  obtain ⟨z2, h2, g2⟩ := (hs.field (unT_spec _ _ rfl) (j := 2) rfl (of_decide_eq_true (by kernel_rfl))).int (unT_spec _ _ rfl) (by kernel_rfl)
  obtain ⟨z3, h3, g3⟩ := (hs.field (unT_spec _ _ rfl) (j := 3) rfl (of_decide_eq_true (by kernel_rfl))).int (unT_spec _ _ rfl) (by kernel_rfl)
  obtain ⟨z4, h4, g4⟩ := ((hs.field (unT_spec _ _ rfl) (j := 4) rfl (of_decide_eq_true (by kernel_rfl))).field (unT_spec _ _ rfl) (j := 0) rfl (of_decide_eq_true (by kernel_rfl))).int (unT_spec _ _ rfl) (by kernel_rfl)
  obtain ⟨z5, h5, g5⟩ := ((hs.field (unT_spec _ _ rfl) (j := 4) rfl (of_decide_eq_true (by kernel_rfl))).field (unT_spec _ _ rfl) (j := 1) rfl (of_decide_eq_true (by kernel_rfl))).int (unT_spec _ _ rfl) (by kernel_rfl)
  obtain ⟨z6, h6, g6⟩ := ((hs.field (unT_spec _ _ rfl) (j := 5) rfl (of_decide_eq_true (by kernel_rfl))).field (unT_spec _ _ rfl) (j := 0) rfl (of_decide_eq_true (by kernel_rfl))).int (unT_spec _ _ rfl) (by kernel_rfl)
  obtain ⟨z7, h7, g7⟩ := ((hs.field (unT_spec _ _ rfl) (j := 5) rfl (of_decide_eq_true (by kernel_rfl))).field (unT_spec _ _ rfl) (j := 1) rfl (of_decide_eq_true (by kernel_rfl))).int (unT_spec _ _ rfl) (by kernel_rfl)
  obtain ⟨z8, h8, g8⟩ := ((hs.field (unT_spec _ _ rfl) (j := 6) rfl (of_decide_eq_true (by kernel_rfl))).field (unT_spec _ _ rfl) (j := 0) rfl (of_decide_eq_true (by kernel_rfl))).int (unT_spec _ _ rfl) (by kernel_rfl)
  obtain ⟨z9, h9, g9⟩ := ((hs.field (unT_spec _ _ rfl) (j := 6) rfl (of_decide_eq_true (by kernel_rfl))).field (unT_spec _ _ rfl) (j := 1) rfl (of_decide_eq_true (by kernel_rfl))).int (unT_spec _ _ rfl) (by kernel_rfl)
  obtain ⟨z10, h10, g10⟩ := ((hs.field (unT_spec _ _ rfl) (j := 7) rfl (of_decide_eq_true (by kernel_rfl))).field (unT_spec _ _ rfl) (j := 0) rfl (of_decide_eq_true (by kernel_rfl))).int (unT_spec _ _ rfl) (by kernel_rfl)
  obtain ⟨z11, h11, g11⟩ := ((hs.field (unT_spec _ _ rfl) (j := 7) rfl (of_decide_eq_true (by kernel_rfl))).field (unT_spec _ _ rfl) (j := 1) rfl (of_decide_eq_true (by kernel_rfl))).int (unT_spec _ _ rfl) (by kernel_rfl)
  obtain ⟨z12, h12, g12⟩ := ((hs.field (unT_spec _ _ rfl) (j := 8) rfl (of_decide_eq_true (by kernel_rfl))).field (unT_spec _ _ rfl) (j := 0) rfl (of_decide_eq_true (by kernel_rfl))).int (unT_spec _ _ rfl) (by kernel_rfl)
  obtain ⟨z13, h13, g13⟩ := ((hs.field (unT_spec _ _ rfl) (j := 8) rfl (of_decide_eq_true (by kernel_rfl))).field (unT_spec _ _ rfl) (j := 1) rfl (of_decide_eq_true (by kernel_rfl))).int (unT_spec _ _ rfl) (by kernel_rfl)
  obtain ⟨z14, h14, g14⟩ := ((hs.field (unT_spec _ _ rfl) (j := 9) rfl (of_decide_eq_true (by kernel_rfl))).field (unT_spec _ _ rfl) (j := 0) rfl (of_decide_eq_true (by kernel_rfl))).int (unT_spec _ _ rfl) (by kernel_rfl)
  obtain ⟨z15, h15, g15⟩ := ((hs.field (unT_spec _ _ rfl) (j := 9) rfl (of_decide_eq_true (by kernel_rfl))).field (unT_spec _ _ rfl) (j := 1) rfl (of_decide_eq_true (by kernel_rfl))).int (unT_spec _ _ rfl) (by kernel_rfl)
  obtain ⟨z16, h16, g16⟩ := (((hs.field (unT_spec _ _ rfl) (j := 10) rfl (of_decide_eq_true (by kernel_rfl))).elem (unT_spec _ _ rfl) 0 (by decide) (of_decide_eq_true (by kernel_rfl))).field (unT_spec _ _ rfl) (j := 0) rfl (of_decide_eq_true (by kernel_rfl))).int (unT_spec _ _ rfl) (by kernel_rfl)
  obtain ⟨z17, h17, g17⟩ := (((hs.field (unT_spec _ _ rfl) (j := 10) rfl (of_decide_eq_true (by kernel_rfl))).elem (unT_spec _ _ rfl) 0 (by decide) (of_decide_eq_true (by kernel_rfl))).field (unT_spec _ _ rfl) (j := 1) rfl (of_decide_eq_true (by kernel_rfl))).int (unT_spec _ _ rfl) (by kernel_rfl)
  obtain ⟨z18, h18, g18⟩ := (((hs.field (unT_spec _ _ rfl) (j := 10) rfl (of_decide_eq_true (by kernel_rfl))).elem (unT_spec _ _ rfl) 1 (by decide) (of_decide_eq_true (by kernel_rfl))).field (unT_spec _ _ rfl) (j := 0) rfl (of_decide_eq_true (by kernel_rfl))).int (unT_spec _ _ rfl) (by kernel_rfl)
  obtain ⟨z19, h19, g19⟩ := (((hs.field (unT_spec _ _ rfl) (j := 10) rfl (of_decide_eq_true (by kernel_rfl))).elem (unT_spec _ _ rfl) 1 (by decide) (of_decide_eq_true (by kernel_rfl))).field (unT_spec _ _ rfl) (j := 1) rfl (of_decide_eq_true (by kernel_rfl))).int (unT_spec _ _ rfl) (by kernel_rfl)
  obtain ⟨z20, h20, g20⟩ := (((hs.field (unT_spec _ _ rfl) (j := 10) rfl (of_decide_eq_true (by kernel_rfl))).elem (unT_spec _ _ rfl) 2 (by decide) (of_decide_eq_true (by kernel_rfl))).field (unT_spec _ _ rfl) (j := 0) rfl (of_decide_eq_true (by kernel_rfl))).int (unT_spec _ _ rfl) (by kernel_rfl)
  obtain ⟨z21, h21, g21⟩ := (((hs.field (unT_spec _ _ rfl) (j := 10) rfl (of_decide_eq_true (by kernel_rfl))).elem (unT_spec _ _ rfl) 2 (by decide) (of_decide_eq_true (by kernel_rfl))).field (unT_spec _ _ rfl) (j := 1) rfl (of_decide_eq_true (by kernel_rfl))).int (unT_spec _ _ rfl) (by kernel_rfl)
  obtain ⟨z22, h22, g22⟩ := (((hs.field (unT_spec _ _ rfl) (j := 10) rfl (of_decide_eq_true (by kernel_rfl))).elem (unT_spec _ _ rfl) 3 (by decide) (of_decide_eq_true (by kernel_rfl))).field (unT_spec _ _ rfl) (j := 0) rfl (of_decide_eq_true (by kernel_rfl))).int (unT_spec _ _ rfl) (by kernel_rfl)
  obtain ⟨z23, h23, g23⟩ := (((hs.field (unT_spec _ _ rfl) (j := 10) rfl (of_decide_eq_true (by kernel_rfl))).elem (unT_spec _ _ rfl) 3 (by decide) (of_decide_eq_true (by kernel_rfl))).field (unT_spec _ _ rfl) (j := 1) rfl (of_decide_eq_true (by kernel_rfl))).int (unT_spec _ _ rfl) (by kernel_rfl)
  obtain ⟨z24, h24, g24⟩ := ((hs.field (unT_spec _ _ rfl) (j := 11) rfl (of_decide_eq_true (by kernel_rfl))).elem (unT_spec _ _ rfl) 0 (by decide) (of_decide_eq_true (by kernel_rfl))).int (unT_spec _ _ rfl) (by kernel_rfl)
  obtain ⟨z25, h25, g25⟩ := ((hs.field (unT_spec _ _ rfl) (j := 11) rfl (of_decide_eq_true (by kernel_rfl))).elem (unT_spec _ _ rfl) 1 (by decide) (of_decide_eq_true (by kernel_rfl))).int (unT_spec _ _ rfl) (by kernel_rfl)
  obtain ⟨z26, h26, g26⟩ := ((hs.field (unT_spec _ _ rfl) (j := 11) rfl (of_decide_eq_true (by kernel_rfl))).elem (unT_spec _ _ rfl) 2 (by decide) (of_decide_eq_true (by kernel_rfl))).int (unT_spec _ _ rfl) (by kernel_rfl)
  obtain ⟨z27, h27, g27⟩ := ((hs.field (unT_spec _ _ rfl) (j := 11) rfl (of_decide_eq_true (by kernel_rfl))).elem (unT_spec _ _ rfl) 3 (by decide) (of_decide_eq_true (by kernel_rfl))).int (unT_spec _ _ rfl) (by kernel_rfl)
  obtain ⟨z28, h28, g28⟩ := ((hs.field (unT_spec _ _ rfl) (j := 12) rfl (of_decide_eq_true (by kernel_rfl))).elem (unT_spec _ _ rfl) 0 (by decide) (of_decide_eq_true (by kernel_rfl))).int (unT_spec _ _ rfl) (by kernel_rfl)
  obtain ⟨z29, h29, g29⟩ := ((hs.field (unT_spec _ _ rfl) (j := 12) rfl (of_decide_eq_true (by kernel_rfl))).elem (unT_spec _ _ rfl) 1 (by decide) (of_decide_eq_true (by kernel_rfl))).int (unT_spec _ _ rfl) (by kernel_rfl)
  obtain ⟨z30, h30, g30⟩ := ((hs.field (unT_spec _ _ rfl) (j := 12) rfl (of_decide_eq_true (by kernel_rfl))).elem (unT_spec _ _ rfl) 2 (by decide) (of_decide_eq_true (by kernel_rfl))).int (unT_spec _ _ rfl) (by kernel_rfl)
  obtain ⟨z31, h31, g31⟩ := ((hs.field (unT_spec _ _ rfl) (j := 12) rfl (of_decide_eq_true (by kernel_rfl))).elem (unT_spec _ _ rfl) 3 (by decide) (of_decide_eq_true (by kernel_rfl))).int (unT_spec _ _ rfl) (by kernel_rfl)
  obtain ⟨z32, h32, g32⟩ := (hs.field (unT_spec _ _ rfl) (j := 13) rfl (of_decide_eq_true (by kernel_rfl))).int (unT_spec _ _ rfl) (by kernel_rfl)
  obtain ⟨z33, h33, g33⟩ := (hs.field (unT_spec _ _ rfl) (j := 14) rfl (of_decide_eq_true (by kernel_rfl))).int (unT_spec _ _ rfl) (by kernel_rfl)
  obtain ⟨z34, h34⟩ := (hs.field (unT_spec _ _ rfl) (j := 15) rfl (of_decide_eq_true (by kernel_rfl))).bool (unT_spec _ _ rfl) (by kernel_rfl)
  obtain ⟨z35, h35, g35⟩ := (hs.field (unT_spec _ _ rfl) (j := 16) rfl (of_decide_eq_true (by kernel_rfl))).int (unT_spec _ _ rfl) (by kernel_rfl)
  obtain ⟨z36, h36, g36⟩ := (hs.field (unT_spec _ _ rfl) (j := 17) rfl (of_decide_eq_true (by kernel_rfl))).int (unT_spec _ _ rfl) (by kernel_rfl)
  obtain ⟨z37, h37, g37⟩ := (hs.field (unT_spec _ _ rfl) (j := 18) rfl (of_decide_eq_true (by kernel_rfl))).int (unT_spec _ _ rfl) (by kernel_rfl)
  obtain ⟨z38, h38, g38⟩ := (hs.field (unT_spec _ _ rfl) (j := 19) rfl (of_decide_eq_true (by kernel_rfl))).int (unT_spec _ _ rfl) (by kernel_rfl)
  obtain ⟨z39, h39, g39⟩ := (hs.field (unT_spec _ _ rfl) (j := 20) rfl (of_decide_eq_true (by kernel_rfl))).int (unT_spec _ _ rfl) (by kernel_rfl)
  obtain ⟨z40, h40, g40⟩ := ((hs.field (unT_spec _ _ rfl) (j := 21) rfl (of_decide_eq_true (by kernel_rfl))).field (unT_spec _ _ rfl) (j := 0) rfl (of_decide_eq_true (by kernel_rfl))).int (unT_spec _ _ rfl) (by kernel_rfl)
  obtain ⟨z41, h41, g41⟩ := ((hs.field (unT_spec _ _ rfl) (j := 21) rfl (of_decide_eq_true (by kernel_rfl))).field (unT_spec _ _ rfl) (j := 1) rfl (of_decide_eq_true (by kernel_rfl))).int (unT_spec _ _ rfl) (by kernel_rfl)
  obtain ⟨A42, l42, c42, n42, y42, h42, t42⟩ := (hs.field (unT_spec _ _ rfl) (j := 22) rfl (of_decide_eq_true (by kernel_rfl))).slice (unT_spec _ _ rfl) (by kernel_rfl)
  refine ⟨⟨z0, z1, z2, z3, ⟨z4, z5⟩, ⟨z6, z7⟩, ⟨z8, z9⟩, ⟨z10, z11⟩, ⟨z12, z13⟩, ⟨z14, z15⟩, ⟨z16, z17⟩, ⟨z18, z19⟩, ⟨z20, z21⟩, ⟨z22, z23⟩, z24, z25, z26, z27, z28, z29, z30, z31, z32, z33, z34, z35, z36, z37, z38, z39, ⟨z40, z41⟩, A42, l42, c42⟩, ?_⟩
  have e : cs.drop 0 = _ := Gets.eq (.cons h0 (.cons h1 (.cons h2 (.cons h3 (.cons h4 (.cons h5 (.cons h6 (.cons h7 (.cons h8 (.cons h9 (.cons h10 (.cons h11 (.cons h12 (.cons h13 (.cons h14 (.cons h15 (.cons h16 (.cons h17 (.cons h18 (.cons h19 (.cons h20 (.cons h21 (.cons h22 (.cons h23 (.cons h24 (.cons h25 (.cons h26 (.cons h27 (.cons h28 (.cons h29 (.cons h30 (.cons h31 (.cons h32 (.cons h33 (.cons h34 (.cons h35 (.cons h36 (.cons h37 (.cons h38 (.cons h39 (.cons h40 (.cons h41 (.cons h42 (.nil hlen_))))))))))))))))))))))))))))))))))))))))))))
  rw [List.drop_zero] at e
  rw [e]; rfl
theorem open_sty (vs : List Value) (n : Nat) (y : DataW H × List MemPlace) (hl : vs.length = 43) (h : DataW.trod enc Try.prog w base spare held n 28 vs = some y) : ∃ s : Sty, True ∧ vs = s.cells := by
  obtain ⟨s, hs⟩ := sty_of_sub (sub_of_trod (hl.trans (by kernel_rfl)) h) hl
  exact ⟨s, trivial, hs⟩
end
end Go.Proofs.Ytdoihebekbfnbaa
