/- For every input the law TextJoined returns true, and its arguments read as they did. No condition. -/
import Derived.Test.YtkdjlaejbimchaaTxtR
import Derived.Test.YtkdjlaejbimchaaTxtB
namespace Go.Proofs.Ytkdjlaejbimchaa
open Go.ChangeShapes Go.WideShapes Go.ChangeAt Go.RowKit Go.Deep

set_option maxRecDepth 100000 in
theorem joined_lifted (os : Os) (started : os.Started) (H : Type) (enc : TypeId × Value → H) :
    ReturnsInHanded {} Try.checked os 6 .any (Rows.textJoinedSpec.pre6 enc Try.prog Try.f6 Rows.textJoinedRow.domain false) (Rows.textJoinedSpec.post enc Try.prog Try.f6 Rows.textJoinedRow.apart Rows.textJoinedRow.fresh Rows.textJoinedRow.handsOn Rows.textJoinedRow.again) := by
  refine returnsInHanded_of_change (C := Try.checked) own_knob started (by kernel_rfl) Try.func6
    (ChangeSpec.witness6 (enc := enc) (C := Try.checked) false ⟨#[], #[.slice none 0 0, .slice none 0 0, .slice none 0 0], []⟩ 8 (by kernel_rfl) (by kernel_rfl) (by kernel_rfl) (by kernel_rfl)) ?_
  intro W base args ds gs before hval0 hW _ _
  have hval : ∀ (j : Nat) t v, Try.f6.params[j]? = some t → args[j]? = some v → Value.okWide Try.prog W .any base t v := hval0
  have hW' := hW
  obtain ⟨p, q, hA0, hV, rfl, hfz, hnd⟩ := hW
  have hA : DataW.TrodAll enc Try.prog W 0 (fun _ => true) true Try.f6.params.toList args.toList ds p := hA0
  obtain ⟨rfl, rfl⟩ := trodVars_none hV
  have hlt : ∀ x ∈ p, x.block < W.heap.size := fun x hx => hW'.lt x (by simpa using hx)
  have key : Calls Try.prog 6 args W fun e W' => e = .returned (.bool true) ∧ Below W.heap.size W W' := by
    rw [Try.params6] at hA hval
    clear hA0 hval0 hW'
    obtain ⟨v0, v1, v2, d0, d1, d2, p0, p1, p2, rfl, rfl, rfl, h0, h1, h2⟩ := trodAll_three hA
    obtain ⟨a0, len0, cap0, rfl⟩ := okWide_slice Try.underlying28 (hval 0 _ v0 rfl rfl)
    obtain ⟨a1, len1, cap1, rfl⟩ := okWide_slice Try.underlying28 (hval 1 _ v1 rfl rfl)
    obtain ⟨a2, len2, cap2, rfl⟩ := okWide_slice Try.underlying29 (hval 2 _ v2 rfl rfl)
    obtain ⟨fuel0, hf0⟩ := h0
    obtain ⟨fuel1, hf1⟩ := h1
    obtain ⟨fuel2, hf2⟩ := h2
    obtain ⟨A, us, cap, hcs, hnil, hlc, hcm, hR, hu⟩ := open_u16s hf0
    obtain ⟨A', vs, cap', hcs', hnil', hlc', hcm', hR', hv⟩ := open_u16s hf1
    obtain ⟨A'', av, cap'', hcs'', hnil'', hlc'', hcm'', hR'', ha⟩ := open_i64s hf2
    simp [Value.cells] at hcs hcs' hcs''
    obtain ⟨rfl, rfl, rfl⟩ := hcs
    obtain ⟨rfl, rfl, rfl⟩ := hcs'
    obtain ⟨rfl, rfl, rfl⟩ := hcs''
    exact joined_any us vs av _ _ _ _ _ _ hu hv ha hlc hlc' hnil hnil' W hR hR' hR''
  refine key.mono fun e W' ⟨he, hB⟩ => ?_
  subst he
  have hdl := trod_count hA
  obtain ⟨ds0, ds1, ds2, rfl⟩ := list3 hdl
  exact ⟨_, rfl, [ds0, ds1, ds2], [], _, [], p, [], by simpa using hW', trodAll_mk1 (shut_bool Try.underlying4 true), trodAll_below laid_out hB (by rw [Try.params6]; simp only [List.mem_cons, List.not_mem_nil, or_false, forall_eq_or_imp, forall_eq]; (repeat' apply And.intro) <;> first | kernel_rfl | exact of_decide_eq_true (by kernel_rfl)) hA hlt, rfl, hB.frame _, fun h => by cases h⟩

theorem joined_holds : Rows.TextJoinedSaid :=
  OpenClaim.holds_of_wide 6 Try.f6 rfl rfl rfl rfl rfl rfl rfl ⟨rfl, rfl, rfl, rfl, rfl⟩ rfl rfl rfl rfl rfl (by kernel_rfl) Try.func6 (by kernel_rfl)
    (of_decide_eq_true (by kernel_rfl)) (by unfold Func.isWrapper; rw [if_neg (of_decide_eq_false (by kernel_rfl))]; exact ⟨rfl, rfl⟩)
    (fun os started H enc _ => joined_lifted os started H enc)


end Go.Proofs.Ytkdjlaejbimchaa
