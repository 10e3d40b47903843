/- The case of chapter 20 that is handed in. -/
import Derived.Test.YtdoihebekbfnbaaCroY
import Derived.Test.YtdoihebekbfnbaaOsty
namespace Go.Proofs.Ytdoihebekbfnbaa
open Go.ChangeShapes Go.WideShapes Go.ChangeAt Go.RowKit Go.Deep

section
variable {H : Type} {enc : TypeId × Value → H} {w : World} {base : Nat} {spare : Nat → Bool} {held : Bool}
set_option maxRecDepth 100000 in
theorem open_us (vs : List Value) (n : Nat) (y : DataW H × List MemPlace) (hl : vs.length = 3) (h : DataW.trod enc Try.prog w base spare held n 48 vs = some y) : ∃ u : Us, True ∧ vs = u.cells := by
  obtain ⟨v0, v1, v2, rfl⟩ := list3 hl
  obtain ⟨_, hf⟩ := open_fields Try.underlying48 h
  obtain ⟨y0, n0, t0⟩ := hf 0 _ rfl
  obtain ⟨y1, n1, t1⟩ := hf 1 _ rfl
  obtain ⟨y2, n2, t2⟩ := hf 2 _ rfl
  obtain ⟨z0, rfl, _⟩ := cell_int (unT_spec _ _ rfl) t0
  obtain ⟨z1, rfl, _⟩ := cell_int (unT_spec _ _ rfl) t1
  obtain ⟨z2, rfl, _⟩ := cell_int (unT_spec _ _ rfl) t2
  exact ⟨⟨z0, z1, z2⟩, trivial, rfl⟩
theorem open_h (vs : List Value) (n : Nat) (y : DataW H × List MemPlace) (hl : vs.length = 1) (h : DataW.trod enc Try.prog w base spare held n 2 vs = some y) : ∃ u : Int, True ∧ vs = hC u := by
  obtain ⟨v0, rfl⟩ := list1 hl
  obtain ⟨z0, rfl, _⟩ := cell_int (unT_spec _ _ rfl) h
  exact ⟨z0, trivial, rfl⟩
set_option maxRecDepth 100000 in
theorem open_case20 {r : Reach} {b0 : Nat} {v : Value} {d : DataW H} {p : List MemPlace} (hv : Value.okWide Try.prog w r b0 33 v) (h : DataW.Trod enc Try.prog w base spare held 33 v d p) :
    ∃ x : Case, v = .agg x.cells.toArray ∧ x.R w ∧ (x.kids.length ≤ 9223372036854775807 ∧ x.us.length ≤ 9223372036854775807 ∧ x.hs.length ≤ 9223372036854775807) ∧ (x.Ak = none → x.ck = 0) ∧ (x.Au = none → x.cu = 0) ∧ (x.Ah = none → x.ch = 0) := by
  obtain ⟨cs, rfl, hl, hs⟩ := open_val (unT_spec _ _ rfl) hv h
  have hlen_ : cs.length = 47 := hl.trans (by kernel_rfl)
  clear hv h hl
  obtain ⟨z0, h0, g0⟩ := ((hs.field (unT_spec _ _ rfl) (j := 0) rfl (of_decide_eq_true (by kernel_rfl))).field (unT_spec _ _ rfl) (j := 0) rfl (of_decide_eq_true (by kernel_rfl))).int (unT_spec _ _ rfl) (by kernel_rfl)
  obtain ⟨z1, h1⟩ := ((hs.field (unT_spec _ _ rfl) (j := 0) rfl (of_decide_eq_true (by kernel_rfl))).field (unT_spec _ _ rfl) (j := 1) rfl (of_decide_eq_true (by kernel_rfl))).bool (unT_spec _ _ rfl) (by kernel_rfl)
  obtain ⟨z2, h2, g2⟩ := ((hs.field (unT_spec _ _ rfl) (j := 0) rfl (of_decide_eq_true (by kernel_rfl))).field (unT_spec _ _ rfl) (j := 2) rfl (of_decide_eq_true (by kernel_rfl))).int (unT_spec _ _ rfl) (by kernel_rfl)
  obtain ⟨z3, h3, g3⟩ := ((hs.field (unT_spec _ _ rfl) (j := 0) rfl (of_decide_eq_true (by kernel_rfl))).field (unT_spec _ _ rfl) (j := 3) rfl (of_decide_eq_true (by kernel_rfl))).int (unT_spec _ _ rfl) (by kernel_rfl)
  obtain ⟨z4, h4, g4⟩ := (((hs.field (unT_spec _ _ rfl) (j := 0) rfl (of_decide_eq_true (by kernel_rfl))).field (unT_spec _ _ rfl) (j := 4) rfl (of_decide_eq_true (by kernel_rfl))).field (unT_spec _ _ rfl) (j := 0) rfl (of_decide_eq_true (by kernel_rfl))).int (unT_spec _ _ rfl) (by kernel_rfl)
  obtain ⟨z5, h5, g5⟩ := (((hs.field (unT_spec _ _ rfl) (j := 0) rfl (of_decide_eq_true (by kernel_rfl))).field (unT_spec _ _ rfl) (j := 4) rfl (of_decide_eq_true (by kernel_rfl))).field (unT_spec _ _ rfl) (j := 1) rfl (of_decide_eq_true (by kernel_rfl))).int (unT_spec _ _ rfl) (by kernel_rfl)
  obtain ⟨z6, h6, g6⟩ := (((hs.field (unT_spec _ _ rfl) (j := 0) rfl (of_decide_eq_true (by kernel_rfl))).field (unT_spec _ _ rfl) (j := 5) rfl (of_decide_eq_true (by kernel_rfl))).field (unT_spec _ _ rfl) (j := 0) rfl (of_decide_eq_true (by kernel_rfl))).int (unT_spec _ _ rfl) (by kernel_rfl)
  obtain ⟨z7, h7, g7⟩ := (((hs.field (unT_spec _ _ rfl) (j := 0) rfl (of_decide_eq_true (by kernel_rfl))).field (unT_spec _ _ rfl) (j := 5) rfl (of_decide_eq_true (by kernel_rfl))).field (unT_spec _ _ rfl) (j := 1) rfl (of_decide_eq_true (by kernel_rfl))).int (unT_spec _ _ rfl) (by kernel_rfl)
  obtain ⟨z8, h8, g8⟩ := (((hs.field (unT_spec _ _ rfl) (j := 0) rfl (of_decide_eq_true (by kernel_rfl))).field (unT_spec _ _ rfl) (j := 6) rfl (of_decide_eq_true (by kernel_rfl))).field (unT_spec _ _ rfl) (j := 0) rfl (of_decide_eq_true (by kernel_rfl))).int (unT_spec _ _ rfl) (by kernel_rfl)
  obtain ⟨z9, h9, g9⟩ := (((hs.field (unT_spec _ _ rfl) (j := 0) rfl (of_decide_eq_true (by kernel_rfl))).field (unT_spec _ _ rfl) (j := 6) rfl (of_decide_eq_true (by kernel_rfl))).field (unT_spec _ _ rfl) (j := 1) rfl (of_decide_eq_true (by kernel_rfl))).int (unT_spec _ _ rfl) (by kernel_rfl)
  obtain ⟨z10, h10, g10⟩ := (((hs.field (unT_spec _ _ rfl) (j := 0) rfl (of_decide_eq_true (by kernel_rfl))).field (unT_spec _ _ rfl) (j := 7) rfl (of_decide_eq_true (by kernel_rfl))).field (unT_spec _ _ rfl) (j := 0) rfl (of_decide_eq_true (by kernel_rfl))).int (unT_spec _ _ rfl) (by kernel_rfl)
  obtain ⟨z11, h11, g11⟩ := (((hs.field (unT_spec _ _ rfl) (j := 0) rfl (of_decide_eq_true (by kernel_rfl))).field (unT_spec _ _ rfl) (j := 7) rfl (of_decide_eq_true (by kernel_rfl))).field (unT_spec _ _ rfl) (j := 1) rfl (of_decide_eq_true (by kernel_rfl))).int (unT_spec _ _ rfl) (by kernel_rfl)
  obtain ⟨z12, h12, g12⟩ := (((hs.field (unT_spec _ _ rfl) (j := 0) rfl (of_decide_eq_true (by kernel_rfl))).field (unT_spec _ _ rfl) (j := 8) rfl (of_decide_eq_true (by kernel_rfl))).field (unT_spec _ _ rfl) (j := 0) rfl (of_decide_eq_true (by kernel_rfl))).int (unT_spec _ _ rfl) (by kernel_rfl)
  obtain ⟨z13, h13, g13⟩ := (((hs.field (unT_spec _ _ rfl) (j := 0) rfl (of_decide_eq_true (by kernel_rfl))).field (unT_spec _ _ rfl) (j := 8) rfl (of_decide_eq_true (by kernel_rfl))).field (unT_spec _ _ rfl) (j := 1) rfl (of_decide_eq_true (by kernel_rfl))).int (unT_spec _ _ rfl) (by kernel_rfl)
  obtain ⟨z14, h14, g14⟩ := (((hs.field (unT_spec _ _ rfl) (j := 0) rfl (of_decide_eq_true (by kernel_rfl))).field (unT_spec _ _ rfl) (j := 9) rfl (of_decide_eq_true (by kernel_rfl))).field (unT_spec _ _ rfl) (j := 0) rfl (of_decide_eq_true (by kernel_rfl))).int (unT_spec _ _ rfl) (by kernel_rfl)
  obtain ⟨z15, h15, g15⟩ := (((hs.field (unT_spec _ _ rfl) (j := 0) rfl (of_decide_eq_true (by kernel_rfl))).field (unT_spec _ _ rfl) (j := 9) rfl (of_decide_eq_true (by kernel_rfl))).field (unT_spec _ _ rfl) (j := 1) rfl (of_decide_eq_true (by kernel_rfl))).int (unT_spec _ _ rfl) (by kernel_rfl)
  obtain ⟨z16, h16, g16⟩ := ((((hs.field (unT_spec _ _ rfl) (j := 0) rfl (of_decide_eq_true (by kernel_rfl))).field (unT_spec _ _ rfl) (j := 10) rfl (of_decide_eq_true (by kernel_rfl))).elem (unT_spec _ _ rfl) 0 (by decide) (of_decide_eq_true (by kernel_rfl))).field (unT_spec _ _ rfl) (j := 0) rfl (of_decide_eq_true (by kernel_rfl))).int (unT_spec _ _ rfl) (by kernel_rfl)
  obtain ⟨z17, h17, g17⟩ := ((((hs.field (unT_spec _ _ rfl) (j := 0) rfl (of_decide_eq_true (by kernel_rfl))).field (unT_spec _ _ rfl) (j := 10) rfl (of_decide_eq_true (by kernel_rfl))).elem (unT_spec _ _ rfl) 0 (by decide) (of_decide_eq_true (by kernel_rfl))).field (unT_spec _ _ rfl) (j := 1) rfl (of_decide_eq_true (by kernel_rfl))).int (unT_spec _ _ rfl) (by kernel_rfl)
  obtain ⟨z18, h18, g18⟩ := ((((hs.field (unT_spec _ _ rfl) (j := 0) rfl (of_decide_eq_true (by kernel_rfl))).field (unT_spec _ _ rfl) (j := 10) rfl (of_decide_eq_true (by kernel_rfl))).elem (unT_spec _ _ rfl) 1 (by decide) (of_decide_eq_true (by kernel_rfl))).field (unT_spec _ _ rfl) (j := 0) rfl (of_decide_eq_true (by kernel_rfl))).int (unT_spec _ _ rfl) (by kernel_rfl)
  obtain ⟨z19, h19, g19⟩ := ((((hs.field (unT_spec _ _ rfl) (j := 0) rfl (of_decide_eq_true (by kernel_rfl))).field (unT_spec _ _ rfl) (j := 10) rfl (of_decide_eq_true (by kernel_rfl))).elem (unT_spec _ _ rfl) 1 (by decide) (of_decide_eq_true (by kernel_rfl))).field (unT_spec _ _ rfl) (j := 1) rfl (of_decide_eq_true (by kernel_rfl))).int (unT_spec _ _ rfl) (by kernel_rfl)
  obtain ⟨z20, h20, g20⟩ := ((((hs.field (unT_spec _ _ rfl) (j := 0) rfl (of_decide_eq_true (by kernel_rfl))).field (unT_spec _ _ rfl) (j := 10) rfl (of_decide_eq_true (by kernel_rfl))).elem (unT_spec _ _ rfl) 2 (by decide) (of_decide_eq_true (by kernel_rfl))).field (unT_spec _ _ rfl) (j := 0) rfl (of_decide_eq_true (by kernel_rfl))).int (unT_spec _ _ rfl) (by kernel_rfl)
  obtain ⟨z21, h21, g21⟩ := ((((hs.field (unT_spec _ _ rfl) (j := 0) rfl (of_decide_eq_true (by kernel_rfl))).field (unT_spec _ _ rfl) (j := 10) rfl (of_decide_eq_true (by kernel_rfl))).elem (unT_spec _ _ rfl) 2 (by decide) (of_decide_eq_true (by kernel_rfl))).field (unT_spec _ _ rfl) (j := 1) rfl (of_decide_eq_true (by kernel_rfl))).int (unT_spec _ _ rfl) (by kernel_rfl)
  obtain ⟨z22, h22, g22⟩ := ((((hs.field (unT_spec _ _ rfl) (j := 0) rfl (of_decide_eq_true (by kernel_rfl))).field (unT_spec _ _ rfl) (j := 10) rfl (of_decide_eq_true (by kernel_rfl))).elem (unT_spec _ _ rfl) 3 (by decide) (of_decide_eq_true (by kernel_rfl))).field (unT_spec _ _ rfl) (j := 0) rfl (of_decide_eq_true (by kernel_rfl))).int (unT_spec _ _ rfl) (by kernel_rfl)
  obtain ⟨z23, h23, g23⟩ := ((((hs.field (unT_spec _ _ rfl) (j := 0) rfl (of_decide_eq_true (by kernel_rfl))).field (unT_spec _ _ rfl) (j := 10) rfl (of_decide_eq_true (by kernel_rfl))).elem (unT_spec _ _ rfl) 3 (by decide) (of_decide_eq_true (by kernel_rfl))).field (unT_spec _ _ rfl) (j := 1) rfl (of_decide_eq_true (by kernel_rfl))).int (unT_spec _ _ rfl) (by kernel_rfl)
  obtain ⟨z24, h24, g24⟩ := (((hs.field (unT_spec _ _ rfl) (j := 0) rfl (of_decide_eq_true (by kernel_rfl))).field (unT_spec _ _ rfl) (j := 11) rfl (of_decide_eq_true (by kernel_rfl))).elem (unT_spec _ _ rfl) 0 (by decide) (of_decide_eq_true (by kernel_rfl))).int (unT_spec _ _ rfl) (by kernel_rfl)
  obtain ⟨z25, h25, g25⟩ := (((hs.field (unT_spec _ _ rfl) (j := 0) rfl (of_decide_eq_true (by kernel_rfl))).field (unT_spec _ _ rfl) (j := 11) rfl (of_decide_eq_true (by kernel_rfl))).elem (unT_spec _ _ rfl) 1 (by decide) (of_decide_eq_true (by kernel_rfl))).int (unT_spec _ _ rfl) (by kernel_rfl)
  obtain ⟨z26, h26, g26⟩ := (((hs.field (unT_spec _ _ rfl) (j := 0) rfl (of_decide_eq_true (by kernel_rfl))).field (unT_spec _ _ rfl) (j := 11) rfl (of_decide_eq_true (by kernel_rfl))).elem (unT_spec _ _ rfl) 2 (by decide) (of_decide_eq_true (by kernel_rfl))).int (unT_spec _ _ rfl) (by kernel_rfl)
  obtain ⟨z27, h27, g27⟩ := (((hs.field (unT_spec _ _ rfl) (j := 0) rfl (of_decide_eq_true (by kernel_rfl))).field (unT_spec _ _ rfl) (j := 11) rfl (of_decide_eq_true (by kernel_rfl))).elem (unT_spec _ _ rfl) 3 (by decide) (of_decide_eq_true (by kernel_rfl))).int (unT_spec _ _ rfl) (by kernel_rfl)
  obtain ⟨z28, h28, g28⟩ := (((hs.field (unT_spec _ _ rfl) (j := 0) rfl (of_decide_eq_true (by kernel_rfl))).field (unT_spec _ _ rfl) (j := 12) rfl (of_decide_eq_true (by kernel_rfl))).elem (unT_spec _ _ rfl) 0 (by decide) (of_decide_eq_true (by kernel_rfl))).int (unT_spec _ _ rfl) (by kernel_rfl)
  obtain ⟨z29, h29, g29⟩ := (((hs.field (unT_spec _ _ rfl) (j := 0) rfl (of_decide_eq_true (by kernel_rfl))).field (unT_spec _ _ rfl) (j := 12) rfl (of_decide_eq_true (by kernel_rfl))).elem (unT_spec _ _ rfl) 1 (by decide) (of_decide_eq_true (by kernel_rfl))).int (unT_spec _ _ rfl) (by kernel_rfl)
  obtain ⟨z30, h30, g30⟩ := (((hs.field (unT_spec _ _ rfl) (j := 0) rfl (of_decide_eq_true (by kernel_rfl))).field (unT_spec _ _ rfl) (j := 12) rfl (of_decide_eq_true (by kernel_rfl))).elem (unT_spec _ _ rfl) 2 (by decide) (of_decide_eq_true (by kernel_rfl))).int (unT_spec _ _ rfl) (by kernel_rfl)
  obtain ⟨z31, h31, g31⟩ := (((hs.field (unT_spec _ _ rfl) (j := 0) rfl (of_decide_eq_true (by kernel_rfl))).field (unT_spec _ _ rfl) (j := 12) rfl (of_decide_eq_true (by kernel_rfl))).elem (unT_spec _ _ rfl) 3 (by decide) (of_decide_eq_true (by kernel_rfl))).int (unT_spec _ _ rfl) (by kernel_rfl)
  obtain ⟨z32, h32, g32⟩ := ((hs.field (unT_spec _ _ rfl) (j := 0) rfl (of_decide_eq_true (by kernel_rfl))).field (unT_spec _ _ rfl) (j := 13) rfl (of_decide_eq_true (by kernel_rfl))).int (unT_spec _ _ rfl) (by kernel_rfl)
  obtain ⟨z33, h33, g33⟩ := ((hs.field (unT_spec _ _ rfl) (j := 0) rfl (of_decide_eq_true (by kernel_rfl))).field (unT_spec _ _ rfl) (j := 14) rfl (of_decide_eq_true (by kernel_rfl))).int (unT_spec _ _ rfl) (by kernel_rfl)
  obtain ⟨z34, h34⟩ := ((hs.field (unT_spec _ _ rfl) (j := 0) rfl (of_decide_eq_true (by kernel_rfl))).field (unT_spec _ _ rfl) (j := 15) rfl (of_decide_eq_true (by kernel_rfl))).bool (unT_spec _ _ rfl) (by kernel_rfl)
  obtain ⟨z35, h35, g35⟩ := ((hs.field (unT_spec _ _ rfl) (j := 0) rfl (of_decide_eq_true (by kernel_rfl))).field (unT_spec _ _ rfl) (j := 16) rfl (of_decide_eq_true (by kernel_rfl))).int (unT_spec _ _ rfl) (by kernel_rfl)
  obtain ⟨z36, h36, g36⟩ := ((hs.field (unT_spec _ _ rfl) (j := 0) rfl (of_decide_eq_true (by kernel_rfl))).field (unT_spec _ _ rfl) (j := 17) rfl (of_decide_eq_true (by kernel_rfl))).int (unT_spec _ _ rfl) (by kernel_rfl)
  obtain ⟨z37, h37, g37⟩ := ((hs.field (unT_spec _ _ rfl) (j := 0) rfl (of_decide_eq_true (by kernel_rfl))).field (unT_spec _ _ rfl) (j := 18) rfl (of_decide_eq_true (by kernel_rfl))).int (unT_spec _ _ rfl) (by kernel_rfl)
  obtain ⟨z38, h38, g38⟩ := ((hs.field (unT_spec _ _ rfl) (j := 0) rfl (of_decide_eq_true (by kernel_rfl))).field (unT_spec _ _ rfl) (j := 19) rfl (of_decide_eq_true (by kernel_rfl))).int (unT_spec _ _ rfl) (by kernel_rfl)
  obtain ⟨z39, h39, g39⟩ := ((hs.field (unT_spec _ _ rfl) (j := 0) rfl (of_decide_eq_true (by kernel_rfl))).field (unT_spec _ _ rfl) (j := 20) rfl (of_decide_eq_true (by kernel_rfl))).int (unT_spec _ _ rfl) (by kernel_rfl)
  obtain ⟨z40, h40, g40⟩ := (((hs.field (unT_spec _ _ rfl) (j := 0) rfl (of_decide_eq_true (by kernel_rfl))).field (unT_spec _ _ rfl) (j := 21) rfl (of_decide_eq_true (by kernel_rfl))).field (unT_spec _ _ rfl) (j := 0) rfl (of_decide_eq_true (by kernel_rfl))).int (unT_spec _ _ rfl) (by kernel_rfl)
  obtain ⟨z41, h41, g41⟩ := (((hs.field (unT_spec _ _ rfl) (j := 0) rfl (of_decide_eq_true (by kernel_rfl))).field (unT_spec _ _ rfl) (j := 21) rfl (of_decide_eq_true (by kernel_rfl))).field (unT_spec _ _ rfl) (j := 1) rfl (of_decide_eq_true (by kernel_rfl))).int (unT_spec _ _ rfl) (by kernel_rfl)
  obtain ⟨A42, l42, c42, n42, y42, h42, t42⟩ := ((hs.field (unT_spec _ _ rfl) (j := 0) rfl (of_decide_eq_true (by kernel_rfl))).field (unT_spec _ _ rfl) (j := 22) rfl (of_decide_eq_true (by kernel_rfl))).slice (unT_spec _ _ rfl) (by kernel_rfl)
  obtain ⟨z43, h43, g43⟩ := (hs.field (unT_spec _ _ rfl) (j := 1) rfl (of_decide_eq_true (by kernel_rfl))).int (unT_spec _ _ rfl) (by kernel_rfl)
  obtain ⟨A44, l44, c44, n44, y44, h44, t44⟩ := (hs.field (unT_spec _ _ rfl) (j := 2) rfl (of_decide_eq_true (by kernel_rfl))).slice (unT_spec _ _ rfl) (by kernel_rfl)
  obtain ⟨A45, l45, c45, n45, y45, h45, t45⟩ := (hs.field (unT_spec _ _ rfl) (j := 3) rfl (of_decide_eq_true (by kernel_rfl))).slice (unT_spec _ _ rfl) (by kernel_rfl)
  obtain ⟨A46, l46, c46, n46, y46, h46, t46⟩ := (hs.field (unT_spec _ _ rfl) (j := 4) rfl (of_decide_eq_true (by kernel_rfl))).slice (unT_spec _ _ rfl) (by kernel_rfl)
  obtain ⟨Ak, kids, ck, e0, m0, k1, k2, k3, _⟩ := open_slice_rd Sty.cells (fun _ => True) 43 Try.underlying29 (by kernel_rfl) (by decide) (fun vs n y hl ht => open_sty vs n y hl ht) t44
  obtain ⟨Au, us, cu, e1, m1, k4, k5, k6, _⟩ := open_slice_rd Us.cells (fun _ => True) 3 Try.underlying30 (by kernel_rfl) (by decide) (fun vs n y hl ht => open_us vs n y hl ht) t45
  obtain ⟨Ah, hs, ch, e2, m2, k7, k8, k9, _⟩ := open_slice_rd hC (fun _ => True) 1 Try.underlying31 (by kernel_rfl) (by decide) (fun vs n y hl ht => open_h vs n y hl ht) t46
  simp at e0 e1 e2
  obtain ⟨rfl, rfl, rfl⟩ := e0
  obtain ⟨rfl, rfl, rfl⟩ := e1
  obtain ⟨rfl, rfl, rfl⟩ := e2
  simp only [maxLen] at k2 k5 k8
  refine ⟨⟨⟨z0, z1, z2, z3, ⟨z4, z5⟩, ⟨z6, z7⟩, ⟨z8, z9⟩, ⟨z10, z11⟩, ⟨z12, z13⟩, ⟨z14, z15⟩, ⟨z16, z17⟩, ⟨z18, z19⟩, ⟨z20, z21⟩, ⟨z22, z23⟩, z24, z25, z26, z27, z28, z29, z30, z31, z32, z33, z34, z35, z36, z37, z38, z39, ⟨z40, z41⟩, A42, l42, c42⟩, z43, kids, us, hs, A44, A45, A46, c44, c45, c46⟩, ?_, ⟨k3, k6, k9⟩, ⟨by dsimp only; omega, by dsimp only; omega, by dsimp only; omega⟩, m0, m1, m2⟩
  have e : cs.drop 0 = _ := Gets.eq (.cons h0 (.cons h1 (.cons h2 (.cons h3 (.cons h4 (.cons h5 (.cons h6 (.cons h7 (.cons h8 (.cons h9 (.cons h10 (.cons h11 (.cons h12 (.cons h13 (.cons h14 (.cons h15 (.cons h16 (.cons h17 (.cons h18 (.cons h19 (.cons h20 (.cons h21 (.cons h22 (.cons h23 (.cons h24 (.cons h25 (.cons h26 (.cons h27 (.cons h28 (.cons h29 (.cons h30 (.cons h31 (.cons h32 (.cons h33 (.cons h34 (.cons h35 (.cons h36 (.cons h37 (.cons h38 (.cons h39 (.cons h40 (.cons h41 (.cons h42 (.cons h43 (.cons h44 (.cons h45 (.cons h46 (.nil hlen_))))))))))))))))))))))))))))))))))))))))))))))))
  rw [List.drop_zero] at e
  rw [e]; rfl
end
end Go.Proofs.Ytdoihebekbfnbaa
