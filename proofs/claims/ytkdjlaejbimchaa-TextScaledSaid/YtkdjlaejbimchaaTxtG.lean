/- For every input the law TextScaled returns true, and its arguments read as they did. No condition. -/
import Derived.Test.YtkdjlaejbimchaaTxtR
import Derived.Test.YtkdjlaejbimchaaTxtF
namespace Go.Proofs.Ytkdjlaejbimchaa
open Go.ChangeShapes Go.WideShapes Go.ChangeAt Go.RowKit Go.Deep

theorem open_i32s {H : Type} {enc : TypeId × Value → H} {w : World} {base : Nat} {spare : Nat → Bool} {held : Bool} {fuel : Nat} {cs : List Value} {x : DataW H × List MemPlace} (h : DataW.trod enc Try.prog w base spare held fuel 41 cs = some x) :
    ∃ (A : Option Addr) (l : List Int) (cap : Nat), cs = [.slice A l.length cap] ∧ (A = none → cap = 0) ∧ l.length ≤ cap ∧ cap ≤ maxLen ∧ Rd w iV 1 A l ∧ ∀ z ∈ l, -2147483648 ≤ z ∧ z ≤ 2147483647 :=
  open_slice_rd iV (fun z => -2147483648 ≤ z ∧ z ≤ 2147483647) 1 Try.underlying41 (by kernel_rfl) (by decide) (fun vs n y hl ht => by
    obtain ⟨v, rfl⟩ := list1 hl
    obtain ⟨z, rfl, hz⟩ := cell_int Try.underlying21 ht
    exact ⟨z, i32_of hz, rfl⟩) h
theorem wf_u8 {n : Int} (h : (Lit.int .u8 n).wf = true) : 0 ≤ n ∧ n ≤ 255 := by
  simp only [Lit.wf, Bool.and_eq_true, decide_eq_true_eq] at h
  obtain ⟨h1, h2⟩ := h
  have e1 : IntKind.min .u8 = 0 := by decide +kernel
  have e2 : IntKind.max .u8 = 255 := by decide +kernel
  omega

set_option maxRecDepth 100000 in
theorem scaled_lifted (os : Os) (started : os.Started) (H : Type) (enc : TypeId × Value → H) :
    ReturnsInHanded {} Try.checked os 7 .any (Rows.textScaledSpec.pre6 enc Try.prog Try.f7 Rows.textScaledRow.domain false) (Rows.textScaledSpec.post enc Try.prog Try.f7 Rows.textScaledRow.apart Rows.textScaledRow.fresh Rows.textScaledRow.handsOn Rows.textScaledRow.again) := by
  refine returnsInHanded_of_change (C := Try.checked) own_knob started (by kernel_rfl) Try.func7
    (ChangeSpec.witness6 (enc := enc) (C := Try.checked) false ⟨#[], #[.slice none 0 0, .slice none 0 0, .int .u8 0], []⟩ 8 (by kernel_rfl) (by kernel_rfl) (by kernel_rfl) (by kernel_rfl)) ?_
  intro W base args ds gs before hval0 hW _ _
  have hval : ∀ (j : Nat) t v, Try.f7.params[j]? = some t → args[j]? = some v → Value.okWide Try.prog W .any base t v := hval0
  have hW' := hW
  obtain ⟨p, q, hA0, hV, rfl, hfz, hnd⟩ := hW
  have hA : DataW.TrodAll enc Try.prog W 0 (fun _ => true) true Try.f7.params.toList args.toList ds p := hA0
  obtain ⟨rfl, rfl⟩ := trodVars_none hV
  have hlt : ∀ x ∈ p, x.block < W.heap.size := fun x hx => hW'.lt x (by simpa using hx)
  have key : Calls Try.prog 7 args W fun e W' => e = .returned (.bool true) ∧ Below W.heap.size W W' := by
    rw [Try.params7] at hA hval
    clear hA0 hval0 hW'
    obtain ⟨v0, v1, v2, d0, d1, d2, p0, p1, p2, rfl, rfl, rfl, h0, h1, h2⟩ := trodAll_three hA
    obtain ⟨a0, len0, cap0, rfl⟩ := okWide_slice Try.underlying28 (hval 0 _ v0 rfl rfl)
    obtain ⟨a1, len1, cap1, rfl⟩ := okWide_slice Try.underlying41 (hval 1 _ v1 rfl rfl)
    obtain ⟨bz, rfl, _, _, hbz⟩ := open_int Try.underlying5 (hval 2 _ v2 rfl rfl) h2
    obtain ⟨fuel0, hf0⟩ := h0
    obtain ⟨fuel1, hf1⟩ := h1
    obtain ⟨A, us, cap, hcs, hnil, hlc, hcm, hR, hu⟩ := open_u16s hf0
    obtain ⟨A', ads, cap', hcs', hnil', hlc', hcm', hR', ha⟩ := open_i32s hf1
    simp [Value.cells] at hcs hcs'
    obtain ⟨rfl, rfl, rfl⟩ := hcs
    obtain ⟨rfl, rfl, rfl⟩ := hcs'
    exact scaled_any us ads bz _ _ _ _ hu ha (wf_u8 hbz) hlc W hR hR'
  refine key.mono fun e W' ⟨he, hB⟩ => ?_
  subst he
  have hdl := trod_count hA
  obtain ⟨ds0, ds1, ds2, rfl⟩ := list3 hdl
  exact ⟨_, rfl, [ds0, ds1, ds2], [], _, [], p, [], by simpa using hW', trodAll_mk1 (shut_bool Try.underlying4 true), trodAll_below laid_out hB (by rw [Try.params7]; simp only [List.mem_cons, List.not_mem_nil, or_false, forall_eq_or_imp, forall_eq]; (repeat' apply And.intro) <;> first | kernel_rfl | exact of_decide_eq_true (by kernel_rfl)) hA hlt, rfl, hB.frame _, fun h => by cases h⟩

theorem scaled_holds : Rows.TextScaledSaid :=
  OpenClaim.holds_of_wide 7 Try.f7 rfl rfl rfl rfl rfl rfl rfl ⟨rfl, rfl, rfl, rfl, rfl⟩ rfl rfl rfl rfl rfl (by kernel_rfl) Try.func7 (by kernel_rfl)
    (of_decide_eq_true (by kernel_rfl)) (by unfold Func.isWrapper; rw [if_neg (of_decide_eq_false (by kernel_rfl))]; exact ⟨rfl, rfl⟩)
    (fun os started H enc _ => scaled_lifted os started H enc)


end Go.Proofs.Ytkdjlaejbimchaa
