/- For every input the law FloatsHigh returns true, and its arguments read as they did. No condition. -/
import Derived.Test.YtmldhbnkndhijaaFloH
import Derived.Test.YtmldhbnkndhijaaFloR
import Derived.Lib.SmallJoins
namespace Go.Proofs.Ytmldhbnkndhijaa
open Go.Joins Go.ChangeShapes Go.WideShapes Go.ChangeAt Go.RowKit Go.Deep

set_option maxRecDepth 100000 in
theorem high_lifted (os : Os) (started : os.Started) (H : Type) (enc : TypeId × Value → H) :
    ReturnsInHanded {} Try.checked os 4 .any (Rows.floatsHighSpec.pre6 enc Try.prog Try.f4 Rows.floatsHighRow.domain false) (Rows.floatsHighSpec.post enc Try.prog Try.f4 Rows.floatsHighRow.apart Rows.floatsHighRow.fresh Rows.floatsHighRow.handsOn Rows.floatsHighRow.again) := by
  refine returnsInHanded_of_change (C := Try.checked) own_knob started (by kernel_rfl) Try.func4
    (ChangeSpec.witness6 (enc := enc) (C := Try.checked) false ⟨#[], #[.slice none 0 0, .int .u16 0, .agg #[.bool false, .int .u16 0, .int .u16 0, .int .u16 0]], []⟩ 8 (by kernel_rfl) (by kernel_rfl) (by kernel_rfl) (by kernel_rfl)) ?_
  intro W base args ds gs before hval0 hW _ _
  have hval : ∀ (j : Nat) t v, Try.f4.params[j]? = some t → args[j]? = some v → Value.okWide Try.prog W .any base t v := hval0
  have hW' := hW
  obtain ⟨p, q, hA0, hV, rfl, hfz, hnd⟩ := hW
  have hA : DataW.TrodAll enc Try.prog W 0 (fun _ => true) true Try.f4.params.toList args.toList ds p := hA0
  rw [Try.params4] at hA hval
  obtain ⟨v0, v1, v2, d0, d1, d2, p0, p1, p2, rfl, rfl, rfl, h0, h1, h2⟩ := trodAll_three hA
  obtain ⟨rfl, rfl⟩ := trodVars_none hV
  obtain ⟨a0, len0, cap0, rfl⟩ := okWide_slice Try.underlying22 (hval 0 22 v0 rfl rfl)
  obtain ⟨z, rfl, rfl, rfl, wz⟩ := open_int Try.underlying23 (hval 1 23 v1 rfl rfl) h1
  have hlt0 : ∀ x ∈ p0, x.block < W.heap.size := fun x hx => hW'.lt x (by simp [hx])
  have hlt2 : ∀ x ∈ p2, x.block < W.heap.size := fun x hx => hW'.lt x (by simp [hx])
  have h0k := h0
  have h2k := h2
  obtain ⟨fuel0, hf⟩ := h0
  obtain ⟨A, l, cap, hcs, hlen, hl, hsl⟩ := open_sizes hlt0 hf
  simp [Value.cells] at hcs
  obtain ⟨rfl, rfl, rfl⟩ := hcs
  obtain ⟨c0, c1, c2, c3, y0, y1, y2, y3, n, rfl, rfl, rfl, t0, t1, t2, t3⟩ := open_agg4 Try.underlying27 (by kernel_rfl) (by kernel_rfl) (hval 2 27 v2 rfl rfl) h2
  obtain ⟨b0, e0, _⟩ := DataW.trod_bool Try.underlying4 t0
  obtain ⟨z1, e1, _, g1⟩ := DataW.trod_int Try.underlying23 t1
  obtain ⟨z2, e2, _, g2⟩ := DataW.trod_int Try.underlying23 t2
  obtain ⟨z3, e3, _, g3⟩ := DataW.trod_int Try.underlying23 t3
  simp only [List.cons.injEq, and_true] at e0 e1 e2 e3
  subst e0 e1 e2 e3
  clear hA0 hval0
  refine (high_any _ l _ z ⟨b0, z1, z2, z3⟩ W hlen hl (u16_of wz) ⟨u16_of g1, u16_of g2, u16_of g3⟩ hsl).mono fun e W' ⟨he, hB⟩ => ?_
  subst he
  exact ⟨_, rfl, [d0, _, _], [], _, [], _, [], hW', trodAll_mk1 (shut_bool Try.underlying4 true), trodAll_mk3 (Below.trod laid_out (by kernel_rfl) (of_decide_eq_true (by kernel_rfl)) h0k hB hlt0) (shut_int Try.underlying23 wz) (Below.trod laid_out (by kernel_rfl) (of_decide_eq_true (by kernel_rfl)) h2k hB hlt2), rfl, hB.frame _, fun h => by cases h⟩

theorem high_holds : Rows.FloatsHighSaid :=
  OpenClaim.holds_of_wide 4 Try.f4 rfl rfl rfl rfl rfl rfl rfl ⟨rfl, rfl, rfl, rfl, rfl⟩ rfl rfl rfl rfl rfl (by kernel_rfl) Try.func4 (by kernel_rfl)
    (of_decide_eq_true (by kernel_rfl)) (by unfold Func.isWrapper; rw [if_neg (of_decide_eq_false (by kernel_rfl))]; exact ⟨rfl, rfl⟩)
    (fun os started H enc _ => high_lifted os started H enc)

end Go.Proofs.Ytmldhbnkndhijaa
