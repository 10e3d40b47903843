/- For every input the law FloatsPlays returns true, and its arguments read as they did. No condition. -/
import Derived.Test.YtmldhbnkndhijaaOpen
import Derived.Test.YtmldhbnkndhijaaFloY
namespace Go.Proofs.Ytmldhbnkndhijaa
open Go.ChangeShapes Go.WideShapes Go.ChangeAt Go.RowKit Go.Deep

theorem open_fl {H : Type} {enc : TypeId × Value → H} {w : World} {base : Nat} {spare : Nat → Bool} {held : Bool} (vs : List Value) (n : Nat) (y : DataW H × List MemPlace) (hl : vs.length = 5) (h : DataW.trod enc Try.prog w base spare held n 29 vs = some y) : ∃ f : Fl, True ∧ vs = f.cells := by
  obtain ⟨v0, v1, v2, v3, v4, rfl⟩ := list5 hl
  obtain ⟨_, hf⟩ := open_fields Try.underlying29 h
  obtain ⟨y0, n0, t0⟩ := hf 0 _ rfl
  obtain ⟨y1, n1, t1⟩ := hf 1 _ rfl
  obtain ⟨y2, n2, t2⟩ := hf 2 _ rfl
  obtain ⟨y3, n3, t3⟩ := hf 3 _ rfl
  obtain ⟨y4, n4, t4⟩ := hf 4 _ rfl
  obtain ⟨z0, rfl, _⟩ := cell_int Try.underlying5 t0
  obtain ⟨z1, rfl, _⟩ := cell_int Try.underlying2 t1
  obtain ⟨z2, rfl, _⟩ := cell_int Try.underlying2 t2
  obtain ⟨z3, rfl, _⟩ := cell_int Try.underlying2 t3
  obtain ⟨z4, rfl, _⟩ := cell_int Try.underlying2 t4
  exact ⟨⟨z0, z1, z2, z3, z4⟩, trivial, rfl⟩

theorem open_floats {H : Type} {enc : TypeId × Value → H} {w : World} {base : Nat} {spare : Nat → Bool} {held : Bool} {fuel : Nat} {cs : List Value} {x : DataW H × List MemPlace} (h : DataW.trod enc Try.prog w base spare held fuel 25 cs = some x) :
    ∃ (A : Option Addr) (l : List Fl) (cap : Nat), cs = [.slice A l.length cap] ∧ (A = none → cap = 0) ∧ l.length ≤ cap ∧ cap ≤ maxLen ∧ Rd w Fl.cells 5 A l := by
  obtain ⟨A, l, cap, h1, h2, h3, h4, h5, _⟩ := open_slice_rd Fl.cells (fun _ => True) 5 Try.underlying25 (by kernel_rfl) (by decide) (fun vs n y hl ht => open_fl vs n y hl ht) h
  exact ⟨A, l, cap, h1, h2, h3, h4, h5⟩

theorem open_ask {H : Type} {enc : TypeId × Value → H} {w : World} {base : Nat} {spare : Nat → Bool} {held : Bool} {r : Reach} {b0 : Nat} {v : Value} {d : DataW H} {p : List MemPlace} (hv : Value.okWide Try.prog w r b0 37 v) (h : DataW.Trod enc Try.prog w base spare held 37 v d p) : ∃ x : Ask, v = .agg x.cells.toArray := by
  obtain ⟨cs, rfl, hl, hf⟩ := open_struct Try.underlying37 hv h
  obtain ⟨v0, v1, v2, v3, v4, v5, rfl⟩ := list6 (hl.trans (by kernel_rfl))
  obtain ⟨y0, n0, t0⟩ := hf 0 _ rfl
  obtain ⟨y1, n1, t1⟩ := hf 1 _ rfl
  obtain ⟨y2, n2, t2⟩ := hf 2 _ rfl
  obtain ⟨y3, n3, t3⟩ := hf 3 _ rfl
  obtain ⟨y4, n4, t4⟩ := hf 4 _ rfl
  obtain ⟨y5, n5, t5⟩ := hf 5 _ rfl
  obtain ⟨z0, rfl, _⟩ := cell_int Try.underlying5 t0
  obtain ⟨z1, rfl, _⟩ := cell_int Try.underlying2 t1
  obtain ⟨z2, rfl, _⟩ := cell_int Try.underlying2 t2
  obtain ⟨z3, rfl, _⟩ := cell_int Try.underlying2 t3
  obtain ⟨z4, rfl, _⟩ := cell_int Try.underlying2 t4
  obtain ⟨z5, rfl, _⟩ := cell_int Try.underlying2 t5
  exact ⟨⟨z0, z1, z2, z3, z4, z5⟩, rfl⟩

set_option maxRecDepth 100000 in
theorem plays_lifted (os : Os) (started : os.Started) (H : Type) (enc : TypeId × Value → H) :
    ReturnsInHanded {} Try.checked os 5 .any (Rows.floatsPlaysSpec.pre6 enc Try.prog Try.f5 Rows.floatsPlaysRow.domain false) (Rows.floatsPlaysSpec.post enc Try.prog Try.f5 Rows.floatsPlaysRow.apart Rows.floatsPlaysRow.fresh Rows.floatsPlaysRow.handsOn Rows.floatsPlaysRow.again) := by
  refine returnsInHanded_of_change (C := Try.checked) own_knob started (by kernel_rfl) Try.func5
    (ChangeSpec.witness6 (enc := enc) (C := Try.checked) false ⟨#[], #[.slice none 0 0, .agg #[.int .u8 0, .int .i64 0, .int .i64 0, .int .i64 0, .int .i64 0, .int .i64 0]], []⟩ 8 (by kernel_rfl) (by kernel_rfl) (by kernel_rfl) (by kernel_rfl)) ?_
  intro W base args ds gs before hval0 hW _ _
  have hval : ∀ (j : Nat) t v, Try.f5.params[j]? = some t → args[j]? = some v → Value.okWide Try.prog W .any base t v := hval0
  have hW' := hW
  obtain ⟨p, q, hA0, hV, rfl, hfz, hnd⟩ := hW
  have hA : DataW.TrodAll enc Try.prog W 0 (fun _ => true) true Try.f5.params.toList args.toList ds p := hA0
  obtain ⟨rfl, rfl⟩ := trodVars_none hV
  have hlt : ∀ x ∈ p, x.block < W.heap.size := fun x hx => hW'.lt x (by simpa using hx)
  have key : Calls Try.prog 5 args W fun e W' => e = .returned (.bool true) ∧ Below W.heap.size W W' := by
    rw [Try.params5] at hA hval
    clear hA0 hval0 hW'
    obtain ⟨v0, v1, d0, d1, p0, p1, rfl, rfl, rfl, h0, h1⟩ := trodAll_two hA
    obtain ⟨a0, len0, cap0, rfl⟩ := okWide_slice Try.underlying25 (hval 0 _ v0 rfl rfl)
    obtain ⟨x, rfl⟩ := open_ask (hval 1 _ v1 rfl rfl) h1
    obtain ⟨fuel0, hf⟩ := h0
    obtain ⟨A, l, cap, hcs, hnil, hlc, hcm, hR⟩ := open_floats hf
    simp [Value.cells] at hcs
    obtain ⟨rfl, rfl, rfl⟩ := hcs
    exact plays_any _ l _ x W (Nat.le_trans hlc hcm) hnil hR
  refine key.mono fun e W' ⟨he, hB⟩ => ?_
  subst he
  have hdl := trod_count hA
  obtain ⟨ds0, ds1, rfl⟩ := list2 hdl
  exact ⟨_, rfl, [ds0, ds1], [], _, [], p, [], by simpa using hW', trodAll_mk1 (shut_bool Try.underlying4 true), trodAll_below laid_out hB (by rw [Try.params5]; simp only [List.mem_cons, List.not_mem_nil, or_false, forall_eq_or_imp, forall_eq]; (repeat' apply And.intro) <;> first | kernel_rfl | exact of_decide_eq_true (by kernel_rfl)) hA hlt, rfl, hB.frame _, fun h => by cases h⟩

theorem plays_holds : Rows.FloatsPlaysSaid :=
  OpenClaim.holds_of_wide 5 Try.f5 rfl rfl rfl rfl rfl rfl rfl ⟨rfl, rfl, rfl, rfl, rfl⟩ rfl rfl rfl rfl rfl (by kernel_rfl) Try.func5 (by kernel_rfl)
    (of_decide_eq_true (by kernel_rfl)) (by unfold Func.isWrapper; rw [if_neg (of_decide_eq_false (by kernel_rfl))]; exact ⟨rfl, rfl⟩)
    (fun os started H enc _ => plays_lifted os started H enc)


end Go.Proofs.Ytmldhbnkndhijaa
