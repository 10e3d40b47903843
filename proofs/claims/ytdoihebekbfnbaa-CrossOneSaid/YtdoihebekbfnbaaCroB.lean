/- For every input the law CrossOne returns true, and its arguments read as they did. No condition. -/
import Derived.Test.YtdoihebekbfnbaaCroA
import Derived.Test.YtdoihebekbfnbaaOpen
namespace Go.Proofs.Ytdoihebekbfnbaa
open Go.ChangeShapes Go.WideShapes Go.ChangeAt Go.RowKit Go.Deep

set_option maxRecDepth 100000 in
theorem one_lifted (os : Os) (started : os.Started) (H : Type) (enc : TypeId × Value → H) :
    ReturnsInHanded {} Try.checked os 6 .any (Rows.crossOneSpec.pre6 enc Try.prog Try.f6 Rows.crossOneRow.domain false) (Rows.crossOneSpec.post enc Try.prog Try.f6 Rows.crossOneRow.apart Rows.crossOneRow.fresh Rows.crossOneRow.handsOn Rows.crossOneRow.again) := by
  refine returnsInHanded_of_change (C := Try.checked) own_knob started (by kernel_rfl) Try.func6
    (ChangeSpec.witness6 (enc := enc) (C := Try.checked) false ⟨#[], #[.int .u32 0, .int .u16 0, .int .u16 0, .int .u16 0, .int .u8 0], []⟩ 8 (by kernel_rfl) (by kernel_rfl) (by kernel_rfl) (by kernel_rfl)) ?_
  intro W base args ds gs before hval0 hW _ _
  have hval : ∀ (j : Nat) t v, Try.f6.params[j]? = some t → args[j]? = some v → Value.okWide Try.prog W .any base t v := hval0
  have hW' := hW
  obtain ⟨p, q, hA0, hV, rfl, hfz, hnd⟩ := hW
  have hA : DataW.TrodAll enc Try.prog W 0 (fun _ => true) true Try.f6.params.toList args.toList ds p := hA0
  obtain ⟨rfl, rfl⟩ := trodVars_none hV
  have hlt : ∀ x ∈ p, x.block < W.heap.size := fun x hx => hW'.lt x (by simpa using hx)
  have key : Calls Try.prog 6 args W fun e W' => e = .returned (.bool true) ∧ Below W.heap.size W W' := by
    rw [Try.params6] at hA hval
    clear hA0 hval0 hW'
    obtain ⟨v0, v1, v2, v3, v4, d0, d1, d2, d3, d4, p0, p1, p2, p3, p4, rfl, rfl, h0, h1, h2, h3, h4⟩ := trodAll_five hA
    obtain ⟨z0, rfl, _, _, w0⟩ := open_int Try.underlying51 (hval 0 _ v0 rfl rfl) h0
    obtain ⟨z1, rfl, _, _, w1⟩ := open_int Try.underlying52 (hval 1 _ v1 rfl rfl) h1
    obtain ⟨z2, rfl, _, _, w2⟩ := open_int Try.underlying52 (hval 2 _ v2 rfl rfl) h2
    obtain ⟨z3, rfl, _, _, w3⟩ := open_int Try.underlying52 (hval 3 _ v3 rfl rfl) h3
    obtain ⟨z4, rfl, _, _, w4⟩ := open_int Try.underlying5 (hval 4 _ v4 rfl rfl) h4
    exact crossOne_any z0 z1 z2 z3 z4 W (u32_of w0) (u16_of w1) (u16_of w2) (u16_of w3) (u8_of w4)
  refine key.mono fun e W' ⟨he, hB⟩ => ?_
  subst he
  have hdl := trod_count hA
  obtain ⟨ds0, ds1, ds2, ds3, ds4, rfl⟩ := list5 hdl
  exact ⟨_, rfl, [ds0, ds1, ds2, ds3, ds4], [], _, [], p, [], by simpa using hW', trodAll_mk1 (shut_bool Try.underlying4 true), trodAll_below laid_out hB (by rw [Try.params6]; simp only [List.mem_cons, List.not_mem_nil, or_false, forall_eq_or_imp, forall_eq]; (repeat' apply And.intro) <;> first | kernel_rfl | exact of_decide_eq_true (by kernel_rfl)) hA hlt, rfl, hB.frame _, fun h => by cases h⟩

theorem one_holds : Rows.CrossOneSaid :=
  OpenClaim.holds_of_wide 6 Try.f6 rfl rfl rfl rfl rfl rfl rfl ⟨rfl, rfl, rfl, rfl, rfl⟩ rfl rfl rfl rfl rfl (by kernel_rfl) Try.func6 (by kernel_rfl)
    (of_decide_eq_true (by kernel_rfl)) (by unfold Func.isWrapper; rw [if_neg (of_decide_eq_false (by kernel_rfl))]; exact ⟨rfl, rfl⟩)
    (fun os started H enc _ => one_lifted os started H enc)

end Go.Proofs.Ytdoihebekbfnbaa
