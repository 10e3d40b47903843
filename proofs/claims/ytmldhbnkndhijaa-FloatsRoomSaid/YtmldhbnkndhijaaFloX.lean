/- The law FloatsRoom, walked; its row. For every input it returns true, and its arguments read as they did. No condition. -/
import Derived.Test.YtmldhbnkndhijaaFloZ
import Derived.Test.YtmldhbnkndhijaaFloG
namespace Go.Proofs.Ytmldhbnkndhijaa
open Go.RowKit

set_option maxRecDepth 100000 in
set_option maxHeartbeats 2000000 in
theorem room_any (A : Option Addr) (l : List Fl) (cap : Nat) (x : Ask) (k : Int) (w : World) (hlc : l.length ≤ cap) (hlen : l.length ≤ maxLen) (hk : 0 ≤ k ∧ k ≤ 255) (hA : Rd w Fl.cells 5 A l) :
    Calls Try.prog 6 #[.slice A l.length cap, .agg x.cells.toArray, .int .u8 k] w fun e w' => e = .returned (.bool true) ∧ Below w.heap.size w w' := by
  refine s_quiet [(0, .slice A l.length cap), (1, .agg x.cells.toArray), (2, .int .u8 k)] Try.func6 rfl Try.ntmps6 rfl (by simp) ?_
  have HA : ∀ H, RdH w.heap.size w H Fl.cells 5 A l := fun _ => hA.base rfl
  obtain ⟨side, y, xw, xh, xa, xb⟩ := x
  unfold Ask.cells
  dsimp only
  refine go_ _ ?_
  (first | ((with_reducible apply so_new); rfl; (first | (with_reducible rfl) | assumption | exact decide_eq_true (by omega) | (simp only [Bool.not_eq_true', Bool.not_eq_false', decide_eq_false_iff_not, decide_eq_true_eq] <;> first | assumption | omega)); exact tZ rfl; decide; (intro; rfl); (first | (with_reducible rfl) | assumption | exact decide_eq_true (by omega) | (simp only [Bool.not_eq_true', Bool.not_eq_false', decide_eq_false_iff_not, decide_eq_true_eq] <;> first | assumption | omega)); (intro; rfl); rfl; exact tS rfl; rfl; rfl) | ((with_reducible apply so_alloc); rfl; (first | (with_reducible rfl) | assumption | exact decide_eq_true (by omega) | (simp only [Bool.not_eq_true', Bool.not_eq_false', decide_eq_false_iff_not, decide_eq_true_eq] <;> first | assumption | omega)); exact tZ rfl; (focus ((repeat (first | exact CopyL.nil | (apply CopyL.consI; rfl) | (apply CopyL.consB; rfl) | (apply CopyL.consS; rfl) | (apply CopyL.consP; rfl) | apply CopyL.cons)); done)); decide) | ((with_reducible apply so_box); rfl; (first | (with_reducible rfl) | assumption | exact decide_eq_true (by omega) | (simp only [Bool.not_eq_true', Bool.not_eq_false', decide_eq_false_iff_not, decide_eq_true_eq] <;> first | assumption | omega)); rfl; (focus ((repeat (first | exact CopyL.nil | (apply CopyL.consI; rfl) | (apply CopyL.consB; rfl) | (apply CopyL.consS; rfl) | (apply CopyL.consP; rfl) | apply CopyL.cons)); done)); decide))
  intro q
  refine go_ _ ?_
  refine so_callQ (fun w1 h1 => may_any A l cap w1 hlen (HA _ w1 h1)) rfl rfl rfl (tF rfl) (by decide) ?_
  cases hmay : mayM l
  · skip
    refine go_ _ ?_
    refine so_callQ (fun w1 _ => works_any w1) rfl rfl rfl (tF rfl) (by decide) ?_
    refine go_ _ ?_
    exact sret1 rfl rfl rfl
  have hl : l.length ≤ 200 := by
    unfold mayM at hmay
    simp only [Bool.and_eq_true, decide_eq_true_eq] at hmay
    exact hmay.1
  have hfb := may_fbs hmay
  refine go_ _ ?_
  refine so_lit (vs := [.int .i64 y, .int .i64 xa, .int .i64 xb]) (sz := 1) (e := 2) rfl (by (first | (with_reducible rfl) | assumption | exact decide_eq_true (by omega) | (simp only [Bool.not_eq_true', Bool.not_eq_false', decide_eq_false_iff_not, decide_eq_true_eq] <;> first | assumption | omega))) (by repeat (first | exact Parts.nil | ((with_reducible apply Parts.cons); rfl))) (by rfl) (by rfl) (by kernel_rfl) (by simp [Value.cells]) (xs := [.int .i64 y, .int .i64 xa, .int .i64 xb]) (by repeat (first | exact CopyL.nil | apply CopyL.cons)) (by simp) (by simp) (by decide) fun q2 => ?_
  refine go_ _ ?_
  refine so_callQ (fun w1 h1 => in_any (some ⟨q2, 0, none⟩) [y, xa, xb] 3 w1 (by simp) (own_rd (c := int64c) (l := [y, xa, xb]) (by decide) (fun _ => rfl) w1 h1)) rfl rfl rfl (tF rfl) (by decide) ?_
  cases hin : [y, xa, xb].all inF
  · skip
    refine go_ _ ?_
    refine so_callQ (fun w1 _ => works_any w1) rfl rfl rfl (tF rfl) (by decide) ?_
    refine go_ _ ?_
    exact sret1 rfl rfl rfl
  simp only [inF, List.all_cons, List.all_nil, Bool.and_eq_true, decide_eq_true_eq, Bool.and_true] at hin
  obtain ⟨⟨y2, y1⟩, ⟨a2, a1⟩, b2, b1⟩ := hin
  have q0 : IntKind.i64.wrap k = k := IntWalk.i64_in _ (by omega)
  have hlk : (0 : Int) ≤ (l.length : Int) * k ∧ (l.length : Int) * k ≤ 51000 := by
    refine ⟨Int.mul_nonneg (by omega) hk.1, ?_⟩
    have : (l.length : Int) * k ≤ 200 * 255 := Int.mul_le_mul (by omega) (by omega) (by omega) (by omega)
    omega
  have q1 : wrap64 ((l.length : Int) * k) = (l.length : Int) * k := wrap64_within _ (by omega)
  have hm : (l.length : Int) * k / 256 ≤ (l.length : Int) := by
    have : (l.length : Int) * k ≤ (l.length : Int) * 256 := Int.mul_le_mul_of_nonneg_left (by omega) (by omega)
    have := Int.ediv_le_ediv (show (0 : Int) < 256 by omega) this
    rwa [Int.mul_ediv_cancel _ (by omega)] at this
  obtain ⟨m, hmm⟩ : ∃ m : Nat, (l.length : Int) * k / 256 = (m : Int) := ⟨((l.length : Int) * k / 256).toNat, by omega⟩
  have hml : m ≤ l.length := by omega
  obtain ⟨h, hh⟩ : ∃ h : Nat, k % 30 + 1 = (h : Int) := ⟨(k % 30 + 1).toNat, by omega⟩
  have hh1 : 1 ≤ h ∧ h ≤ 30 := by omega
  refine go_ _ ?_
  rw [hh, q1]
  refine go_ _ ?_
  rw [hmm]
  refine so_pure rfl rfl rfl (by decide) (ps_slice (lo := 0) (hi := m) (sz := 5) rfl rfl ⟨_, _, rfl, rfl⟩ (Nat.zero_le _) (by omega) (tU rfl) (tS rfl)) ?_
  have HP : ∀ H, RdH w.heap.size w H Fl.cells 5 (subA A 0 5 cap) (l.take m) := fun H w1 h1 => by
    have := (HA H w1 h1).part 0 m cap hlc
    simpa using this
  have hpl : (l.take m).length = m := by simp; omega
  rw [Nat.sub_zero, Nat.sub_zero, ← hpl]
  refine go_ _ ?_
  refine so_callQ (fun w1 h1 => tall_any A l cap xa xb y h w1 w1.heap.size (Nat.le_refl _) hlen (flSl_rd (HA _ w1 h1))) rfl rfl rfl (tF rfl) (by decide) ?_
  refine go_ _ ?_
  refine so_callQ (fun w1 h1 => tall_any (subA A 0 5 cap) (l.take m) cap xa xb y h w1 w1.heap.size (Nat.le_refl _) (by omega) (flSl_rd (HP _ w1 h1))) rfl rfl rfl (tF rfl) (by decide) ?_
  have hmax : max (h : Int) 1 = (h : Int) := by omega
  rw [hmax]
  obtain ⟨r1, r2⟩ := room_part hfb (left := xa) (right := xb) (y := y) (h := (h : Int)) (by unfold In53; omega) (by unfold In53; omega) m
  obtain ⟨e1, e2⟩ := stripe_eq hfb (left := xa) (right := xb) (y := y) ⟨y1, y2⟩ h hh1.2 hh1.1
  obtain ⟨f1, f2, f3⟩ := clear_free hfb (left := xa) (right := xb) (y := y) (h := (h : Int)) ⟨y1, y2⟩ (by unfold In53; omega)
  obtain ⟨g1, _, _⟩ := clear_all hfb y
  generalize atM (l.take m) xa xb y (h : Int) = part at r1 r2
  obtain ⟨pa, pb, pc⟩ := part
  obtain ⟨ta, tb, hta⟩ : ∃ ta tb, (atM l xa xb y (h : Int)).1 = ta ∧ (atM l xa xb y (h : Int)).2.1 = tb := ⟨_, _, rfl, rfl⟩
  rw [hta.1] at r1 e1 ⊢; rw [hta.2] at r2 e2 ⊢
  dsimp only at r1 r2 ⊢
  refine go_ _ ?_
  refine s_loop (ι := Nat) (fun i => [(15, .int .i64 (i : Nat)), (13, .int .i64 (stripeM l xa xb y i).1), (14, .int .i64 (stripeM l xa xb y i).2), (0, .slice A l.length cap), (4, .pointer (some ⟨q, 0, none⟩)), (7, .int .i64 (h : Nat)), (9, .int .i64 ta), (10, .int .i64 tb)])
    (fun _ => [row q 37 [.int .u8 side, .int .i64 y, .int .i64 xw, .int .i64 xh, .int .i64 xa, .int .i64 xb]]) (fun i => i ≤ h) (fun i => h - i) 0 (by repeat (first | exact Sub.nil | refine Sub.cons rfl ?_ | (refine Sub.consB rfl (by (first | rfl | exact decide_eq_decide.2 (by omega) | exact (decide_eq_true (by omega)).symm | exact (decide_eq_false (by omega)).symm | exact decide_eq_true (by omega) | exact decide_eq_false (by omega))) ?_))) (by repeat (first | exact SubH.refl | exact SubH.nil | ((with_reducible apply SubH.cons); (focus ((repeat (first | (with_reducible exact Pick.here) | (with_reducible apply Pick.there))); done))) | ((with_reducible apply SubH.consR); (focus ((repeat (first | (with_reducible exact Pick.here) | (with_reducible apply Pick.there))); done)); (first | rfl | simp; done)) | ((with_reducible apply SubH.consO); (focus ((repeat (first | (with_reducible exact Pick.here) | (with_reducible apply Pick.there))); done)); (first | rfl | simp; done); (first | rfl | simp; done)) | exact SubH.drop SubH.refl | apply SubH.drop)) (Nat.zero_le _) ?_
  intro i hi
  by_cases hih : i < h
  · have hii : (i : Int) < (h : Int) := by omega
    refine go_ _ ?_
    refine so_callQ (fun w1 h1 => band_any A l cap xa xb (y + i) w1 w1.heap.size (Nat.le_refl _) hlen (flSl_rd (HA _ w1 h1))) rfl rfl rfl (tF rfl) (by decide) ?_
    refine go_ _ ?_
    exact ⟨i + 1, by omega, (by repeat (first | exact Sub.nil | refine Sub.cons rfl ?_ | (refine Sub.consB rfl (by (first | rfl | exact decide_eq_decide.2 (by omega) | exact (decide_eq_true (by omega)).symm | exact (decide_eq_false (by omega)).symm | exact decide_eq_true (by omega) | exact decide_eq_false (by omega))) ?_))), (by repeat (first | exact SubH.refl | exact SubH.nil | ((with_reducible apply SubH.cons); (focus ((repeat (first | (with_reducible exact Pick.here) | (with_reducible apply Pick.there))); done))) | ((with_reducible apply SubH.consR); (focus ((repeat (first | (with_reducible exact Pick.here) | (with_reducible apply Pick.there))); done)); (first | rfl | simp; done)) | ((with_reducible apply SubH.consO); (focus ((repeat (first | (with_reducible exact Pick.here) | (with_reducible apply Pick.there))); done)); (first | rfl | simp; done); (first | rfl | simp; done)) | exact SubH.drop SubH.refl | apply SubH.drop)), by omega⟩
  have hii : ¬ (i : Int) < (h : Int) := by omega
  have : i = h := by omega
  subst this
  rw [e1, e2]
  refine go_ _ ?_
  refine so_callQ (fun w1 h1 => clear_any A l cap 3 y w1 w1.heap.size (Nat.le_refl _) hlen (flSl_rd (HA _ w1 h1))) rfl rfl rfl (tF rfl) (by decide) ?_
  generalize clearM l 3 y = below at f1 f2 f3 g1
  refine go_ _ ?_
  refine so_callQ (fun w1 h1 => tall_any A l cap xa xb below i w1 w1.heap.size (Nat.le_refl _) hlen (flSl_rd (HA _ w1 h1))) rfl rfl rfl (tF rfl) (by decide) ?_
  rw [hmax, f1, f2]
  refine go_ _ ?_
  refine s_loop (ι := Nat) (fun i => [(21, .int .i64 (i : Nat)), (18, .int .i64 below), (19, .int .i64 xa), (20, .int .i64 xb), (0, .slice A l.length cap), (4, .pointer (some ⟨q, 0, none⟩))])
    (fun _ => [row q 37 [.int .u8 side, .int .i64 y, .int .i64 xw, .int .i64 xh, .int .i64 xa, .int .i64 xb]]) (fun i => i ≤ l.length) (fun i => l.length - i) 0 (by repeat (first | exact Sub.nil | refine Sub.cons rfl ?_ | (refine Sub.consB rfl (by (first | rfl | exact decide_eq_decide.2 (by omega) | exact (decide_eq_true (by omega)).symm | exact (decide_eq_false (by omega)).symm | exact decide_eq_true (by omega) | exact decide_eq_false (by omega))) ?_))) (by repeat (first | exact SubH.refl | exact SubH.nil | ((with_reducible apply SubH.cons); (focus ((repeat (first | (with_reducible exact Pick.here) | (with_reducible apply Pick.there))); done))) | ((with_reducible apply SubH.consR); (focus ((repeat (first | (with_reducible exact Pick.here) | (with_reducible apply Pick.there))); done)); (first | rfl | simp; done)) | ((with_reducible apply SubH.consO); (focus ((repeat (first | (with_reducible exact Pick.here) | (with_reducible apply Pick.there))); done)); (first | rfl | simp; done); (first | rfl | simp; done)) | exact SubH.drop SubH.refl | apply SubH.drop)) (Nat.zero_le _) ?_
  intro j hj
  by_cases hjl : j < l.length
  · have hji : (j : Int) < (l.length : Int) := by omega
    obtain ⟨b3, o3, rfl, hr⟩ := hA.at j hjl
    by_cases hge : below ≤ l[j].y
    · skip
      refine go_ _ ?_
      refine so_callQ (fun w1 _ => works_any w1) rfl rfl rfl (tF rfl) (by decide) ?_
      refine go_ _ ?_
      exact sret1 rfl rfl rfl
    · skip
      refine go_ _ ?_
      exact ⟨j + 1, by omega, (by repeat (first | exact Sub.nil | refine Sub.cons rfl ?_ | (refine Sub.consB rfl (by (first | rfl | exact decide_eq_decide.2 (by omega) | exact (decide_eq_true (by omega)).symm | exact (decide_eq_false (by omega)).symm | exact decide_eq_true (by omega) | exact decide_eq_false (by omega))) ?_))), (by repeat (first | exact SubH.refl | exact SubH.nil | ((with_reducible apply SubH.cons); (focus ((repeat (first | (with_reducible exact Pick.here) | (with_reducible apply Pick.there))); done))) | ((with_reducible apply SubH.consR); (focus ((repeat (first | (with_reducible exact Pick.here) | (with_reducible apply Pick.there))); done)); (first | rfl | simp; done)) | ((with_reducible apply SubH.consO); (focus ((repeat (first | (with_reducible exact Pick.here) | (with_reducible apply Pick.there))); done)); (first | rfl | simp; done); (first | rfl | simp; done)) | exact SubH.drop SubH.refl | apply SubH.drop)), by omega⟩
  have hji : ¬ (j : Int) < (l.length : Int) := by omega
  refine go_ _ ?_
  refine so_callQ (fun w1 h1 => next_any A l cap below w1 w1.heap.size (Nat.le_refl _) hlen (flSl_rd (HA _ w1 h1))) rfl rfl rfl (tF rfl) (by decide) ?_
  rw [f3]
  refine go_ _ ?_
  refine so_callQ (fun w1 _ => works_any w1) rfl (by (first | (with_reducible rfl) | assumption | exact decide_eq_true (by omega) | (simp only [Bool.not_eq_true', Bool.not_eq_false', decide_eq_false_iff_not, decide_eq_true_eq] <;> first | assumption | omega))) rfl (tF rfl) (by decide) ?_
  refine go_ _ ?_
  exact sret1 rfl rfl rfl

open Go.ChangeShapes Go.WideShapes Go.ChangeAt Go.Deep

set_option maxRecDepth 100000 in
theorem room_lifted (os : Os) (started : os.Started) (H : Type) (enc : TypeId × Value → H) :
    ReturnsInHanded {} Try.checked os 6 .any (Rows.floatsRoomSpec.pre6 enc Try.prog Try.f6 Rows.floatsRoomRow.domain false) (Rows.floatsRoomSpec.post enc Try.prog Try.f6 Rows.floatsRoomRow.apart Rows.floatsRoomRow.fresh Rows.floatsRoomRow.handsOn Rows.floatsRoomRow.again) := by
  refine returnsInHanded_of_change (C := Try.checked) own_knob started (by kernel_rfl) Try.func6
    (ChangeSpec.witness6 (enc := enc) (C := Try.checked) false ⟨#[], #[.slice none 0 0, .agg #[.int .u8 0, .int .i64 0, .int .i64 0, .int .i64 0, .int .i64 0, .int .i64 0], .int .u8 0], []⟩ 8 (by kernel_rfl) (by kernel_rfl) (by kernel_rfl) (by kernel_rfl)) ?_
  intro W base args ds gs before hval0 hW _ _
  have hval : ∀ (j : Nat) t v, Try.f6.params[j]? = some t → args[j]? = some v → Value.okWide Try.prog W .any base t v := hval0
  have hW' := hW
  obtain ⟨p, q, hA0, hV, rfl, hfz, hnd⟩ := hW
  have hA : DataW.TrodAll enc Try.prog W 0 (fun _ => true) true Try.f6.params.toList args.toList ds p := hA0
  obtain ⟨rfl, rfl⟩ := trodVars_none hV
  have hlt : ∀ x ∈ p, x.block < W.heap.size := fun x hx => hW'.lt x (by simpa using hx)
  have key : Calls Try.prog 6 args W fun e W' => e = .returned (.bool true) ∧ Below W.heap.size W W' := by
    rw [Try.params6] at hA hval
    clear hA0 hval0 hW'
    obtain ⟨v0, v1, v2, d0, d1, d2, p0, p1, p2, rfl, rfl, rfl, h0, h1, h2⟩ := trodAll_three hA
    obtain ⟨a0, len0, cap0, rfl⟩ := okWide_slice Try.underlying25 (hval 0 _ v0 rfl rfl)
    obtain ⟨x, rfl⟩ := open_ask (hval 1 _ v1 rfl rfl) h1
    obtain ⟨z, rfl, _, _, wz⟩ := open_int Try.underlying5 (hval 2 _ v2 rfl rfl) h2
    obtain ⟨fuel0, hf⟩ := h0
    obtain ⟨A, l, cap, hcs, hnil, hlc, hcm, hR⟩ := open_floats hf
    simp [Value.cells] at hcs
    obtain ⟨rfl, rfl, rfl⟩ := hcs
    exact room_any _ l _ x z W hlc (Nat.le_trans hlc hcm) (u8_of wz) hR
  refine key.mono fun e W' ⟨he, hB⟩ => ?_
  subst he
  have hdl := trod_count hA
  obtain ⟨ds0, ds1, ds2, rfl⟩ := list3 hdl
  exact ⟨_, rfl, [ds0, ds1, ds2], [], _, [], p, [], by simpa using hW', trodAll_mk1 (shut_bool Try.underlying4 true), trodAll_below laid_out hB (by rw [Try.params6]; simp only [List.mem_cons, List.not_mem_nil, or_false, forall_eq_or_imp, forall_eq]; (repeat' apply And.intro) <;> first | kernel_rfl | exact of_decide_eq_true (by kernel_rfl)) hA hlt, rfl, hB.frame _, fun h => by cases h⟩

theorem room_holds : Rows.FloatsRoomSaid :=
  OpenClaim.holds_of_wide 6 Try.f6 rfl rfl rfl rfl rfl rfl rfl ⟨rfl, rfl, rfl, rfl, rfl⟩ rfl rfl rfl rfl rfl (by kernel_rfl) Try.func6 (by kernel_rfl)
    (of_decide_eq_true (by kernel_rfl)) (by unfold Func.isWrapper; rw [if_neg (of_decide_eq_false (by kernel_rfl))]; exact ⟨rfl, rfl⟩)
    (fun os started H enc _ => room_lifted os started H enc)


end Go.Proofs.Ytmldhbnkndhijaa
