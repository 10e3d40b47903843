/- For every input the law CrossJustify returns true, and its arguments read as they did. No condition. -/
import Derived.Test.YtdoihebekbfnbaaCroD
import Derived.Test.YtdoihebekbfnbaaOpen
namespace Go.Proofs.Ytdoihebekbfnbaa
open Go.ChangeShapes Go.WideShapes Go.ChangeAt Go.RowKit Go.Deep

section
variable {H : Type} {enc : TypeId × Value → H} {w : World} {base fuel : Nat} {spare : Nat → Bool} {held : Bool}
theorem open_u16c {cs : List Value} {x : DataW H × List MemPlace} (h : DataW.trod enc Try.prog w base spare held fuel 26 cs = some x) :
    ∃ (A : Option Addr) (l : List Int) (cap : Nat), cs = [.slice A l.length cap] ∧ (A = none → cap = 0) ∧ l.length ≤ cap ∧ cap ≤ maxLen ∧ Rd w u16C 1 A l ∧ ∀ z ∈ l, 0 ≤ z ∧ z ≤ 65535 :=
  open_slice_rd u16C (fun z => 0 ≤ z ∧ z ≤ 65535) 1 Try.underlying26 (by kernel_rfl) (by decide) (fun vs n y hl ht => by
    obtain ⟨v, rfl⟩ := list1 hl
    obtain ⟨z, rfl, hz⟩ := cell_int Try.underlying52 ht
    exact ⟨z, u16_of hz, rfl⟩) h
end

set_option maxRecDepth 100000 in
theorem justifyLaw_lifted (os : Os) (started : os.Started) (H : Type) (enc : TypeId × Value → H) :
    ReturnsInHanded {} Try.checked os 5 .any (Rows.crossJustifySpec.pre6 enc Try.prog Try.f5 Rows.crossJustifyRow.domain false) (Rows.crossJustifySpec.post enc Try.prog Try.f5 Rows.crossJustifyRow.apart Rows.crossJustifyRow.fresh Rows.crossJustifyRow.handsOn Rows.crossJustifyRow.again) := by
  refine returnsInHanded_of_change (C := Try.checked) own_knob started (by kernel_rfl) Try.func5
    (ChangeSpec.witness6 (enc := enc) (C := Try.checked) false ⟨#[], #[.int .u32 0, .slice none 0 0], []⟩ 8 (by kernel_rfl) (by kernel_rfl) (by kernel_rfl) (by kernel_rfl)) ?_
  intro W base args ds gs before hval0 hW _ _
  have hval : ∀ (j : Nat) t v, Try.f5.params[j]? = some t → args[j]? = some v → Value.okWide Try.prog W .any base t v := hval0
  have hW' := hW
  obtain ⟨p, q, hA0, hV, rfl, hfz, hnd⟩ := hW
  have hA : DataW.TrodAll enc Try.prog W 0 (fun _ => true) true Try.f5.params.toList args.toList ds p := hA0
  obtain ⟨rfl, rfl⟩ := trodVars_none hV
  have hlt : ∀ x ∈ p, x.block < W.heap.size := fun x hx => hW'.lt x (by simpa using hx)
  have key : Calls Try.prog 5 args W fun e W' => e = .returned (.bool true) ∧ Below W.heap.size W W' := by
    rw [Try.params5] at hA hval
    clear hA0 hval0 hW'
    obtain ⟨v0, v1, d0, d1, p0, p1, rfl, rfl, rfl, h0, h1⟩ := trodAll_two hA
    obtain ⟨z0, rfl, _, _, w0⟩ := open_int Try.underlying51 (hval 0 _ v0 rfl rfl) h0
    obtain ⟨a1, len1, cap1, rfl⟩ := okWide_slice Try.underlying26 (hval 1 _ v1 rfl rfl)
    obtain ⟨fuel1, hf1⟩ := h1
    obtain ⟨A, us, cap, hcs, hnil, hlc, hcm, hR, hu⟩ := open_u16c hf1
    simp [Value.cells] at hcs
    obtain ⟨rfl, rfl, rfl⟩ := hcs
    exact justify_any z0 us _ _ W (u32_of w0) hu (by simp only [maxLen] at hcm; omega) hR
  refine key.mono fun e W' ⟨he, hB⟩ => ?_
  subst he
  have hdl := trod_count hA
  obtain ⟨ds0, ds1, rfl⟩ := list2 hdl
  exact ⟨_, rfl, [ds0, ds1], [], _, [], p, [], by simpa using hW', trodAll_mk1 (shut_bool Try.underlying4 true), trodAll_below laid_out hB (by rw [Try.params5]; simp only [List.mem_cons, List.not_mem_nil, or_false, forall_eq_or_imp, forall_eq]; (repeat' apply And.intro) <;> first | kernel_rfl | exact of_decide_eq_true (by kernel_rfl)) hA hlt, rfl, hB.frame _, fun h => by cases h⟩

theorem justifyLaw_holds : Rows.CrossJustifySaid :=
  OpenClaim.holds_of_wide 5 Try.f5 rfl rfl rfl rfl rfl rfl rfl ⟨rfl, rfl, rfl, rfl, rfl⟩ rfl rfl rfl rfl rfl (by kernel_rfl) Try.func5 (by kernel_rfl)
    (of_decide_eq_true (by kernel_rfl)) (by unfold Func.isWrapper; rw [if_neg (of_decide_eq_false (by kernel_rfl))]; exact ⟨rfl, rfl⟩)
    (fun os started H enc _ => justifyLaw_lifted os started H enc)

end Go.Proofs.Ytdoihebekbfnbaa
