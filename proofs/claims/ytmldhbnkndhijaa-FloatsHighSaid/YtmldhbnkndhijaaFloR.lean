/- For every input the law FloatsApart returns true, and its arguments read as they did. No condition. -/
import Derived.Test.YtmldhbnkndhijaaRows
import Derived.Test.YtmldhbnkndhijaaFloB
import Derived.Test.YtmldhbnkndhijaaRow
namespace Go.Proofs.Ytmldhbnkndhijaa
open Go.ChangeShapes Go.WideShapes Go.ChangeAt Go.RowKit Go.Deep

theorem own_knob : ownKnob Try.prog.godebug = none := by kernel_rfl
theorem laid_out : laidOutB Try.prog = true := by kernel_rfl

theorem open_sizes {H : Type} {enc : TypeId × Value → H} {w : World} {base : Nat} {spare : Nat → Bool} {held : Bool} {fuel : Nat} {cs : List Value} {x : DataW H × List MemPlace} (hB : ∀ q ∈ x.2, q.block < w.heap.size)
    (h : DataW.trod enc Try.prog w base spare held fuel 22 cs = some x) : ∃ (A : Option Addr) (l : List Sz) (cap : Nat), cs = [.slice A l.length cap] ∧ l.length ≤ maxLen ∧ (∀ s ∈ l, SzB s) ∧ SzSl w w.heap.size A l := by
  rcases row_fields Try.underlying22 Try.underlying27 (by kernel_rfl) (by kernel_rfl) h with rfl | ⟨a, len, cap, rfl, hl, hm, hi⟩
  · exact ⟨none, [], 0, rfl, Nat.zero_le _, by simp, SlAt.nil⟩
  · have each : ∀ i, i < len → ∃ s : Sz, a.spot = none ∧ a.block < w.heap.size ∧ SzIn w a.block (a.off + i * 4) s ∧ SzB s := by
      intro i hil
      have hi' := hi i hil
      obtain ⟨v0, y0, n0, c0, t0⟩ := hi' 0 _ rfl
      obtain ⟨v1, y1, n1, c1, t1⟩ := hi' 1 _ rfl
      obtain ⟨v2, y2, n2, c2, t2⟩ := hi' 2 _ rfl
      obtain ⟨v3, y3, n3, c3, t3⟩ := hi' 3 _ rfl
      obtain ⟨b0, e0, _⟩ := DataW.trod_bool Try.underlying4 t0
      obtain ⟨z1, e1, _, g1⟩ := DataW.trod_int Try.underlying23 t1
      obtain ⟨z2, e2, _, g2⟩ := DataW.trod_int Try.underlying23 t2
      obtain ⟨z3, e3, _, g3⟩ := DataW.trod_int Try.underlying23 t3
      simp only [List.cons.injEq, and_true] at e0 e1 e2 e3
      subst e0 e1 e2 e3
      obtain ⟨v9, y9, n9, d0, _⟩ := hi 0 (by omega) 0 _ rfl
      have hp := plain_of d0 (by simp)
      obtain ⟨b, off, spot⟩ := a
      simp at hp; subst hp
      have hbl : b < w.heap.size := by
        have hh := d0
        unfold World.cell? Addr.add at hh
        simp at hh
        rcases Nat.lt_or_ge b w.heap.size with h' | h'
        · exact h'
        · rw [Array.getElem?_eq_none h'] at hh; simp at hh
      have hz : (#[(⟨"Right", 4, 0, false, "", "", 0⟩ : Field), ⟨"W", 23, 1, false, "", "", 2⟩, ⟨"H", 23, 2, false, "", "", 4⟩, ⟨"Y", 23, 3, false, "", "", 6⟩] : Array Field).size = 4 := rfl
      rw [hz] at c0 c1 c2 c3
      rw [add_place] at c0 c1 c2 c3
      exact ⟨⟨b0, z1, z2, z3⟩, rfl, hbl, ⟨c0, c1, c2, c3⟩, ⟨u16_of g1, u16_of g2, u16_of g3⟩⟩
    obtain ⟨l, hll, hr⟩ := list_of len each
    refine ⟨some a, l, cap, by rw [hll], by omega, fun s hs => ?_, fun k hk => ?_⟩
    · obtain ⟨i, hi, rfl⟩ := List.mem_iff_getElem.1 hs
      exact (hr i hi).2.2.2
    · obtain ⟨h1, h2, h3, _⟩ := hr k hk
      obtain ⟨b, off, spot⟩ := a
      dsimp only at h1 h2 h3; subst h1
      exact ⟨b, off, rfl, h2, h3⟩

set_option maxRecDepth 100000 in
theorem apart_lifted (os : Os) (started : os.Started) (H : Type) (enc : TypeId × Value → H) :
    ReturnsInHanded {} Try.checked os 3 .any (Rows.floatsApartSpec.pre6 enc Try.prog Try.f3 Rows.floatsApartRow.domain false) (Rows.floatsApartSpec.post enc Try.prog Try.f3 Rows.floatsApartRow.apart Rows.floatsApartRow.fresh Rows.floatsApartRow.handsOn Rows.floatsApartRow.again) := by
  refine returnsInHanded_of_change (C := Try.checked) own_knob started (by kernel_rfl) Try.func3
    (ChangeSpec.witness6 (enc := enc) (C := Try.checked) false ⟨#[], #[.slice none 0 0, .int .u16 0], []⟩ 8 (by kernel_rfl) (by kernel_rfl) (by kernel_rfl) (by kernel_rfl)) ?_
  intro W base args ds gs before hval0 hW _ _
  have hval : ∀ (j : Nat) t v, Try.f3.params[j]? = some t → args[j]? = some v → Value.okWide Try.prog W .any base t v := hval0
  have hW' := hW
  obtain ⟨p, q, hA0, hV, rfl, hfz, hnd⟩ := hW
  have hA : DataW.TrodAll enc Try.prog W 0 (fun _ => true) true Try.f3.params.toList args.toList ds p := hA0
  rw [Try.params3] at hA hval
  obtain ⟨v0, v1, d0, d1, p0, p1, rfl, rfl, rfl, h0, h1⟩ := trodAll_two hA
  obtain ⟨rfl, rfl⟩ := trodVars_none hV
  obtain ⟨a0, len0, cap0, rfl⟩ := okWide_slice Try.underlying22 (hval 0 22 v0 rfl rfl)
  obtain ⟨z, rfl, rfl, rfl, wz⟩ := open_int Try.underlying23 (hval 1 23 v1 rfl rfl) h1
  clear hA0 hval0
  have hlt : ∀ x ∈ p0, x.block < W.heap.size := fun x hx => hW'.lt x (by simp [hx])
  have h0k := h0
  obtain ⟨fuel0, hf⟩ := h0
  obtain ⟨A, l, cap, hcs, hlen, hl, hsl⟩ := open_sizes hlt hf
  simp [Value.cells] at hcs
  obtain ⟨rfl, rfl, rfl⟩ := hcs
  simp only [List.append_nil] at hW'
  refine (apart_any _ l _ z W hlen hl (u16_of wz) hsl).mono fun e W' ⟨he, hB⟩ => ?_
  subst he
  exact ⟨_, rfl, [d0, .lit (.int .u16 z)], [], _, [], p0 ++ [], [], hW', trodAll_mk1 (shut_bool Try.underlying4 true), trodAll_mk2 (Below.trod laid_out (by kernel_rfl) (of_decide_eq_true (by kernel_rfl)) h0k hB hlt) (shut_int Try.underlying23 wz), rfl, hB.frame _, fun h => by cases h⟩

theorem apart_holds : Rows.FloatsApartSaid :=
  OpenClaim.holds_of_wide 3 Try.f3 rfl rfl rfl rfl rfl rfl rfl ⟨rfl, rfl, rfl, rfl, rfl⟩ rfl rfl rfl rfl rfl (by kernel_rfl) Try.func3 (by kernel_rfl)
    (of_decide_eq_true (by kernel_rfl)) (by unfold Func.isWrapper; rw [if_neg (of_decide_eq_false (by kernel_rfl))]; exact ⟨rfl, rfl⟩)
    (fun os started H enc _ => apart_lifted os started H enc)

end Go.Proofs.Ytmldhbnkndhijaa
