/- For every input the law LinesEnds returns true, and its arguments read as they did. No condition. -/
import Derived.Test.YtepkhfebflmieaaOpen
import Derived.Test.YtepkhfebflmieaaLinA
namespace Go.Proofs.Ytepkhfebflmieaa
open Go.ChangeShapes Go.WideShapes Go.ChangeAt Go.RowKit Go.Deep

section
variable {H : Type} {enc : TypeId × Value → H} {w : World} {base : Nat} {spare : Nat → Bool} {held : Bool}
theorem open_fl (vs : List Value) (n : Nat) (y : DataW H × List MemPlace) (hl : vs.length = 5) (h : DataW.trod enc Try.prog w base spare held n 40 vs = some y) : ∃ f : Fl, True ∧ vs = f.cells := by
  obtain ⟨v0, v1, v2, v3, v4, rfl⟩ := list5 hl
  obtain ⟨_, hf⟩ := open_fields Try.underlying40 h
  obtain ⟨y0, n0, t0⟩ := hf 0 _ rfl
  obtain ⟨y1, n1, t1⟩ := hf 1 _ rfl
  obtain ⟨y2, n2, t2⟩ := hf 2 _ rfl
  obtain ⟨y3, n3, t3⟩ := hf 3 _ rfl
  obtain ⟨y4, n4, t4⟩ := hf 4 _ rfl
  obtain ⟨z0, rfl, _⟩ := cell_int Try.underlying5 t0
  obtain ⟨z1, rfl, _⟩ := cell_int Try.underlying2 t1
  obtain ⟨z2, rfl, _⟩ := cell_int Try.underlying2 t2
  obtain ⟨z3, rfl, _⟩ := cell_int Try.underlying2 t3
  obtain ⟨z4, rfl, _⟩ := cell_int Try.underlying2 t4
  exact ⟨⟨z0, z1, z2, z3, z4⟩, trivial, rfl⟩
theorem open_wg (vs : List Value) (n : Nat) (y : DataW H × List MemPlace) (hl : vs.length = 5) (h : DataW.trod enc Try.prog w base spare held n 37 vs = some y) : ∃ f : Wg, True ∧ vs = f.cells := by
  obtain ⟨v0, v1, v2, v3, v4, rfl⟩ := list5 hl
  obtain ⟨_, hf⟩ := open_fields Try.underlying37 h
  obtain ⟨y0, n0, t0⟩ := hf 0 _ rfl
  obtain ⟨y1, n1, t1⟩ := hf 1 _ rfl
  obtain ⟨y2, n2, t2⟩ := hf 2 _ rfl
  obtain ⟨y3, n3, t3⟩ := hf 3 _ rfl
  obtain ⟨y4, n4, t4⟩ := hf 4 _ rfl
  obtain ⟨z0, rfl, _⟩ := cell_int (unT_spec _ _ rfl) t0
  obtain ⟨z1, rfl, _⟩ := cell_int (unT_spec _ _ rfl) t1
  obtain ⟨z2, rfl, _⟩ := cell_int (unT_spec _ _ rfl) t2
  obtain ⟨z3, rfl, _⟩ := cell_int (unT_spec _ _ rfl) t3
  obtain ⟨z4, rfl, _⟩ := cell_int (unT_spec _ _ rfl) t4
  exact ⟨⟨z0, z1, z2, z3, z4⟩, trivial, rfl⟩
theorem open_case {r : Reach} {b0 : Nat} {v : Value} {d : DataW H} {p : List MemPlace} (hv : Value.okWide Try.prog w r b0 25 v) (h : DataW.Trod enc Try.prog w base spare held 25 v d p) :
    ∃ x : Cs, v = .agg x.cells.toArray ∧ x.l.length ≤ maxLen ∧ x.ws.length ≤ maxLen ∧ Rd w Wg.cells 5 x.Aw x.ws ∧ Rd w Fl.cells 5 x.Al x.l := by
  obtain ⟨cs, rfl, hl, hs⟩ := open_val (unT_spec _ _ rfl) hv h
  have hlen_ : cs.length = 7 := hl.trans (by kernel_rfl)
  clear hv h hl
  obtain ⟨A0, l0, c0, n0, y0, h0, t0⟩ := (hs.field (unT_spec _ _ rfl) (j := 0) rfl (of_decide_eq_true (by kernel_rfl))).slice (unT_spec _ _ rfl) (by kernel_rfl)
  obtain ⟨z1, h1, g1⟩ := (hs.field (unT_spec _ _ rfl) (j := 1) rfl (of_decide_eq_true (by kernel_rfl))).int (unT_spec _ _ rfl) (by kernel_rfl)
  obtain ⟨z2, h2, g2⟩ := (hs.field (unT_spec _ _ rfl) (j := 2) rfl (of_decide_eq_true (by kernel_rfl))).int (unT_spec _ _ rfl) (by kernel_rfl)
  obtain ⟨z3, h3, g3⟩ := (hs.field (unT_spec _ _ rfl) (j := 3) rfl (of_decide_eq_true (by kernel_rfl))).int (unT_spec _ _ rfl) (by kernel_rfl)
  obtain ⟨z4, h4, g4⟩ := (hs.field (unT_spec _ _ rfl) (j := 4) rfl (of_decide_eq_true (by kernel_rfl))).int (unT_spec _ _ rfl) (by kernel_rfl)
  obtain ⟨z5, h5, g5⟩ := (hs.field (unT_spec _ _ rfl) (j := 5) rfl (of_decide_eq_true (by kernel_rfl))).int (unT_spec _ _ rfl) (by kernel_rfl)
  obtain ⟨A6, l6, c6, n6, y6, h6, t6⟩ := (hs.field (unT_spec _ _ rfl) (j := 6) rfl (of_decide_eq_true (by kernel_rfl))).slice (unT_spec _ _ rfl) (by kernel_rfl)
  obtain ⟨Aw, ws, cw, e0, _, k1, k2, k3, _⟩ := open_slice_rd Wg.cells (fun _ => True) 5 Try.underlying22 (by kernel_rfl) (by decide) (fun vs n y hl ht => open_wg vs n y hl ht) t0
  obtain ⟨Al, fl, cl, e6, _, k4, k5, k6, _⟩ := open_slice_rd Fl.cells (fun _ => True) 5 Try.underlying23 (by kernel_rfl) (by decide) (fun vs n y hl ht => open_fl vs n y hl ht) t6
  simp at e0 e6
  obtain ⟨rfl, rfl, rfl⟩ := e0
  obtain ⟨rfl, rfl, rfl⟩ := e6
  refine ⟨⟨ws, fl, z1, z2, z3, z4, z5, A0, A6, c0, c6⟩, ?_, Nat.le_trans k4 k5, Nat.le_trans k1 k2, k3, k6⟩
  have e : cs.drop 0 = _ := Gets.eq (.cons h0 (.cons h1 (.cons h2 (.cons h3 (.cons h4 (.cons h5 (.cons h6 (.nil hlen_))))))))
  rw [List.drop_zero] at e
  rw [e]; rfl
end

set_option maxRecDepth 100000 in
theorem ends_lifted (os : Os) (started : os.Started) (H : Type) (enc : TypeId × Value → H) :
    ReturnsInHanded {} Try.checked os 4 .any (Rows.linesEndsSpec.pre6 enc Try.prog Try.f4 Rows.linesEndsRow.domain false) (Rows.linesEndsSpec.post enc Try.prog Try.f4 Rows.linesEndsRow.apart Rows.linesEndsRow.fresh Rows.linesEndsRow.handsOn Rows.linesEndsRow.again) := by
  refine returnsInHanded_of_change (C := Try.checked) own_knob started (by kernel_rfl) Try.func4
    (ChangeSpec.witness6 (enc := enc) (C := Try.checked) false ⟨#[], #[.agg #[.slice none 0 0, .int .i64 0, .int .u8 0, .int .i64 0, .int .i64 0, .int .i64 0, .slice none 0 0]], []⟩ 8 (by kernel_rfl) (by kernel_rfl) (by kernel_rfl) (by kernel_rfl)) ?_
  intro W base args ds gs before hval0 hW _ _
  have hval : ∀ (j : Nat) t v, Try.f4.params[j]? = some t → args[j]? = some v → Value.okWide Try.prog W .any base t v := hval0
  have hW' := hW
  obtain ⟨p, q, hA0, hV, rfl, hfz, hnd⟩ := hW
  have hA : DataW.TrodAll enc Try.prog W 0 (fun _ => true) true Try.f4.params.toList args.toList ds p := hA0
  obtain ⟨rfl, rfl⟩ := trodVars_none hV
  have hlt : ∀ x ∈ p, x.block < W.heap.size := fun x hx => hW'.lt x (by simpa using hx)
  have key : Calls Try.prog 4 args W fun e W' => e = .returned (.bool true) ∧ Below W.heap.size W W' := by
    rw [Try.params4] at hA hval
    clear hA0 hval0 hW'
    obtain ⟨v0, d0, rfl, rfl, h0⟩ := trodAll_one hA
    obtain ⟨x, rfl, hlen, hlw, hR, hR'⟩ := open_case (hval 0 _ v0 rfl rfl) h0
    exact ends_any x W hlen hlw hR hR'
  refine key.mono fun e W' ⟨he, hB⟩ => ?_
  subst he
  have hdl := trod_count hA
  obtain ⟨ds0, rfl⟩ := list1 hdl
  exact ⟨_, rfl, [ds0], [], _, [], p, [], by simpa using hW', trodAll_mk1 (shut_bool Try.underlying4 true), trodAll_below laid_out hB (by rw [Try.params4]; simp only [List.mem_cons, List.not_mem_nil, or_false, forall_eq_or_imp, forall_eq]; (repeat' apply And.intro) <;> first | kernel_rfl | exact of_decide_eq_true (by kernel_rfl)) hA hlt, rfl, hB.frame _, fun h => by cases h⟩

theorem ends_holds : Rows.LinesEndsSaid :=
  OpenClaim.holds_of_wide 4 Try.f4 rfl rfl rfl rfl rfl rfl rfl ⟨rfl, rfl, rfl, rfl, rfl⟩ rfl rfl rfl rfl rfl (by kernel_rfl) Try.func4 (by kernel_rfl)
    (of_decide_eq_true (by kernel_rfl)) (by unfold Func.isWrapper; rw [if_neg (of_decide_eq_false (by kernel_rfl))]; exact ⟨rfl, rfl⟩)
    (fun os started H enc _ => ends_lifted os started H enc)


end Go.Proofs.Ytepkhfebflmieaa
