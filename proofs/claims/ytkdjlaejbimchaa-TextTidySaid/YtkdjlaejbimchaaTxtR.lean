/- For every input the law TextWhole returns true, and its arguments read as they did. No condition. -/
import Derived.Test.YtkdjlaejbimchaaOpen
import Derived.Test.YtkdjlaejbimchaaTxtA
namespace Go.Proofs.Ytkdjlaejbimchaa
open Go.ChangeShapes Go.WideShapes Go.ChangeAt Go.RowKit Go.Deep

section
variable {H : Type} {enc : TypeId × Value → H} {w : World} {base : Nat} {spare : Nat → Bool} {held : Bool} {fuel : Nat}
theorem wf_u16 {n : Int} (h : (Lit.int .u16 n).wf = true) : 0 ≤ n ∧ n ≤ 65535 := by
  simp only [Lit.wf, Bool.and_eq_true, decide_eq_true_eq] at h
  obtain ⟨h1, h2⟩ := h
  have e1 : IntKind.min .u16 = 0 := by decide +kernel
  have e2 : IntKind.max .u16 = 65535 := by decide +kernel
  omega
theorem wf_i64 {n : Int} (h : (Lit.int .i64 n).wf = true) : -9223372036854775808 ≤ n ∧ n ≤ 9223372036854775807 := by
  simp only [Lit.wf, Bool.and_eq_true, decide_eq_true_eq] at h
  obtain ⟨h1, h2⟩ := h
  have e1 : IntKind.min .i64 = -9223372036854775808 := by decide +kernel
  have e2 : IntKind.max .i64 = 9223372036854775807 := by decide +kernel
  omega
theorem open_u16s {cs : List Value} {x : DataW H × List MemPlace} (h : DataW.trod enc Try.prog w base spare held fuel 28 cs = some x) :
    ∃ (A : Option Addr) (l : List Int) (cap : Nat), cs = [.slice A l.length cap] ∧ (A = none → cap = 0) ∧ l.length ≤ cap ∧ cap ≤ maxLen ∧ Rd w uV 1 A l ∧ UB l :=
  open_slice_rd uV (fun z => 0 ≤ z ∧ z ≤ 65535) 1 Try.underlying28 (by kernel_rfl) (by decide) (fun vs n y hl ht => by
    obtain ⟨v, rfl⟩ := list1 hl
    obtain ⟨z, rfl, hz⟩ := cell_int Try.underlying36 ht
    exact ⟨z, wf_u16 hz, rfl⟩) h
theorem open_i64s {cs : List Value} {x : DataW H × List MemPlace} (h : DataW.trod enc Try.prog w base spare held fuel 29 cs = some x) :
    ∃ (A : Option Addr) (l : List Int) (cap : Nat), cs = [.slice A l.length cap] ∧ (A = none → cap = 0) ∧ l.length ≤ cap ∧ cap ≤ maxLen ∧ Rd w aV 1 A l ∧ AB l :=
  open_slice_rd aV (fun z => I64 z) 1 Try.underlying29 (by kernel_rfl) (by decide) (fun vs n y hl ht => by
    obtain ⟨v, rfl⟩ := list1 hl
    obtain ⟨z, rfl, hz⟩ := cell_int Try.underlying2 ht
    exact ⟨z, wf_i64 hz, rfl⟩) h
end

set_option maxRecDepth 100000 in
theorem whole_lifted (os : Os) (started : os.Started) (H : Type) (enc : TypeId × Value → H) :
    ReturnsInHanded {} Try.checked os 4 .any (Rows.textWholeSpec.pre6 enc Try.prog Try.f4 Rows.textWholeRow.domain false) (Rows.textWholeSpec.post enc Try.prog Try.f4 Rows.textWholeRow.apart Rows.textWholeRow.fresh Rows.textWholeRow.handsOn Rows.textWholeRow.again) := by
  refine returnsInHanded_of_change (C := Try.checked) own_knob started (by kernel_rfl) Try.func4
    (ChangeSpec.witness6 (enc := enc) (C := Try.checked) false ⟨#[], #[.slice none 0 0, .slice none 0 0], []⟩ 8 (by kernel_rfl) (by kernel_rfl) (by kernel_rfl) (by kernel_rfl)) ?_
  intro W base args ds gs before hval0 hW _ _
  have hval : ∀ (j : Nat) t v, Try.f4.params[j]? = some t → args[j]? = some v → Value.okWide Try.prog W .any base t v := hval0
  have hW' := hW
  obtain ⟨p, q, hA0, hV, rfl, hfz, hnd⟩ := hW
  have hA : DataW.TrodAll enc Try.prog W 0 (fun _ => true) true Try.f4.params.toList args.toList ds p := hA0
  obtain ⟨rfl, rfl⟩ := trodVars_none hV
  have hlt : ∀ x ∈ p, x.block < W.heap.size := fun x hx => hW'.lt x (by simpa using hx)
  have key : Calls Try.prog 4 args W fun e W' => e = .returned (.bool true) ∧ Below W.heap.size W W' := by
    rw [Try.params4] at hA hval
    clear hA0 hval0 hW'
    obtain ⟨v0, v1, d0, d1, p0, p1, rfl, rfl, rfl, h0, h1⟩ := trodAll_two hA
    obtain ⟨a0, len0, cap0, rfl⟩ := okWide_slice Try.underlying28 (hval 0 _ v0 rfl rfl)
    obtain ⟨a1, len1, cap1, rfl⟩ := okWide_slice Try.underlying29 (hval 1 _ v1 rfl rfl)
    obtain ⟨fuel0, hf0⟩ := h0
    obtain ⟨fuel1, hf1⟩ := h1
    obtain ⟨A, us, cap, hcs, hnil, hlc, hcm, hR, hu⟩ := open_u16s hf0
    obtain ⟨A', av, cap', hcs', hnil', hlc', hcm', hR', ha⟩ := open_i64s hf1
    simp [Value.cells] at hcs hcs'
    obtain ⟨rfl, rfl, rfl⟩ := hcs
    obtain ⟨rfl, rfl, rfl⟩ := hcs'
    exact whole_any us av _ _ _ _ hu ha hlc W hR hR'
  refine key.mono fun e W' ⟨he, hB⟩ => ?_
  subst he
  have hdl := trod_count hA
  obtain ⟨ds0, ds1, rfl⟩ := list2 hdl
  exact ⟨_, rfl, [ds0, ds1], [], _, [], p, [], by simpa using hW', trodAll_mk1 (shut_bool Try.underlying4 true), trodAll_below laid_out hB (by rw [Try.params4]; simp only [List.mem_cons, List.not_mem_nil, or_false, forall_eq_or_imp, forall_eq]; (repeat' apply And.intro) <;> first | kernel_rfl | exact of_decide_eq_true (by kernel_rfl)) hA hlt, rfl, hB.frame _, fun h => by cases h⟩

theorem whole_holds : Rows.TextWholeSaid :=
  OpenClaim.holds_of_wide 4 Try.f4 rfl rfl rfl rfl rfl rfl rfl ⟨rfl, rfl, rfl, rfl, rfl⟩ rfl rfl rfl rfl rfl (by kernel_rfl) Try.func4 (by kernel_rfl)
    (of_decide_eq_true (by kernel_rfl)) (by unfold Func.isWrapper; rw [if_neg (of_decide_eq_false (by kernel_rfl))]; exact ⟨rfl, rfl⟩)
    (fun os started H enc _ => whole_lifted os started H enc)


end Go.Proofs.Ytkdjlaejbimchaa
