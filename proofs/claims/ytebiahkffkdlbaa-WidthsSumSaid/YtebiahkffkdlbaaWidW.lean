/- The walks of package widths. -/
import Derived.Test.YtebiahkffkdlbaaWidM
namespace Go.Proofs.Ytebiahkffkdlbaa
open Go.RowKit

set_option maxRecDepth 100000 in
set_option maxHeartbeats 1000000 in
theorem resolve_any (l : Ln) (c : Int) (w : World) (hl : LnB l c) :
    Calls Try.prog 10 #[.agg l.cells.toArray, .int .i64 c] w fun e w' => e = .returned (.tuple #[.int .i64 (resM l c).1, .bool (resM l c).2]) ∧ Below w.heap.size w w' := by
  refine s_quiet [(0, .agg l.cells.toArray), (1, .int .i64 c)] Try.func10 rfl Try.ntmps10 rfl (by simp) ?_
  obtain ⟨k, n⟩ := l
  unfold Ln.cells
  dsimp only
  refine go_ _ ?_
  (first | ((with_reducible apply so_new); rfl; (first | (with_reducible rfl) | assumption | exact decide_eq_true (by omega) | (simp only [Bool.not_eq_true', Bool.not_eq_false', decide_eq_false_iff_not, decide_eq_true_eq] <;> first | assumption | omega) | decide); exact tZ rfl; decide; (intro; rfl); (first | (with_reducible rfl) | assumption | exact decide_eq_true (by omega) | (simp only [Bool.not_eq_true', Bool.not_eq_false', decide_eq_false_iff_not, decide_eq_true_eq] <;> first | assumption | omega) | decide); (intro; rfl); rfl; exact tS rfl; rfl; rfl) | ((with_reducible apply so_alloc); rfl; (first | (with_reducible rfl) | assumption | exact decide_eq_true (by omega) | (simp only [Bool.not_eq_true', Bool.not_eq_false', decide_eq_false_iff_not, decide_eq_true_eq] <;> first | assumption | omega) | decide); exact tZ rfl; (focus ((repeat (first | (with_reducible exact CopyL.agg) | exact CopyL.nil | (apply CopyL.consI; rfl) | (apply CopyL.consB; rfl) | (apply CopyL.consS; rfl) | (apply CopyL.consP; rfl) | apply CopyL.cons)); done)); decide) | ((with_reducible apply so_box); rfl; (first | (with_reducible rfl) | assumption | exact decide_eq_true (by omega) | (simp only [Bool.not_eq_true', Bool.not_eq_false', decide_eq_false_iff_not, decide_eq_true_eq] <;> first | assumption | omega) | decide); rfl; (focus ((repeat (first | (with_reducible exact CopyL.agg) | exact CopyL.nil | (apply CopyL.consI; rfl) | (apply CopyL.consB; rfl) | (apply CopyL.consS; rfl) | (apply CopyL.consP; rfl) | apply CopyL.cons)); done)); decide))
  intro q
  refine go_ _ ?_
  by_cases h2 : k = 2
  · have hp := hl.part h2
    dsimp only at hp
    have er : resM ⟨k, n⟩ c = (n * max c 0 / 10000, true) := by unfold resM; rw [if_pos h2]
    rw [er]
    have em : wrap64 (n * max c 0) = n * max c 0 := wrap64_within _ (by omega)
    obtain ⟨f1, f2⟩ := part_floor (n * max c 0) hp
    refine go_ _ ?_
    rw [em]
    generalize n * max c 0 = m at *
    have hd : -110000000000000000 ≤ m / 10000 ∧ m / 10000 ≤ 110000000000000000 := by omega
    have ew : wrap64 (m / 10000) = m / 10000 := wrap64_within _ (by omega)
    by_cases hn : m.tmod 10000 < 0
    · have := f1 hn
      refine go_ _ ?_
      exact sret2 rfl rfl rfl (by rw [this, ew])
    · have := f2 hn
      refine go_ _ ?_
      exact sret2 rfl rfl rfl (by rw [this, ew])
  · by_cases h1 : k = 1
    · have er : resM ⟨k, n⟩ c = (n, true) := by unfold resM; rw [if_neg h2, if_pos h1]
      rw [er]
      refine go_ _ ?_
      exact sret2 rfl rfl rfl rfl
    · have er : resM ⟨k, n⟩ c = (0, false) := by unfold resM; rw [if_neg h2, if_neg h1]
      rw [er]
      refine go_ _ ?_
      exact sret2 rfl rfl rfl rfl

set_option maxRecDepth 100000 in
set_option maxHeartbeats 1000000 in
theorem side_any (s : Sty) (k : Nat) (hk : k < 4) (b : Nat) (w : World) (hb : b < w.heap.size) (hr : Row w b 0 s.cells) (x y : Int) (hx : [s.b0, s.b1, s.b2, s.b3][k]? = some x) (hy : [s.p0, s.p1, s.p2, s.p3][k]? = some y) (hxb : InB x) (hyb : InB y) :
    Calls Try.prog 22 #[.int .i64 (k : Nat), .pointer (some ⟨b, 0, none⟩)] w fun e w' => e = .returned (.int .i64 (x + y)) ∧ Below w.heap.size w w' := by
  refine s_quiet [(0, .int .i64 (k : Nat)), (1, .pointer (some ⟨b, 0, none⟩))] Try.func22 rfl Try.ntmps22 rfl (by simp) ?_
  have h1 : Cl w.heap.size w [] b (0 + 24 + k * 1) (.int .i64 x) := fun w1 h1 => by
    have := (hr.below h1.below hb) (24 + k) (.int .i64 x) (by
      have : (s.cells.drop 24)[k]? = ([s.b0, s.b1, s.b2, s.b3].map (Value.int .i64))[k]? := by
        match k, hk with
        | 0, _ => rfl
        | 1, _ => rfl
        | 2, _ => rfl
        | 3, _ => rfl
      rw [List.getElem?_drop, List.getElem?_map, hx] at this; exact this)
    rw [← this]; congr 2; omega
  have h2 : Cl w.heap.size w [] b (0 + 28 + k * 1) (.int .i64 y) := fun w1 h1 => by
    have := (hr.below h1.below hb) (28 + k) (.int .i64 y) (by
      have : (s.cells.drop 28)[k]? = ([s.p0, s.p1, s.p2, s.p3].map (Value.int .i64))[k]? := by
        match k, hk with
        | 0, _ => rfl
        | 1, _ => rfl
        | 2, _ => rfl
        | 3, _ => rfl
      rw [List.getElem?_drop, List.getElem?_map, hy] at this; exact this)
    rw [← this]; congr 2; omega
  unfold InB at hxb hyb
  refine go_ _ ?_
  refine s_parts (by kernel_rfl) ?_
  refine sg_free 10 (by kernel_rfl) (go_ _ ?_)
  exact sret1 rfl rfl rfl

set_option maxRecDepth 100000 in
set_option maxHeartbeats 1000000 in
theorem frame_any (s : Sty) (c : Int) (w : World) (hs : StB s c) :
    Calls Try.prog 20 #[.agg s.cells.toArray] w fun e w' => e = .returned (.tuple #[.int .i64 s.frame, .int .i64 (s.b0 + s.p0 + (s.b2 + s.p2))]) ∧ Below w.heap.size w w' := by
  refine s_quiet [(0, .agg s.cells.toArray)] Try.func20 rfl Try.ntmps20 rfl (by simp) ?_
  have row_ : ∀ q T w1, Mem w.heap.size w (row q 28 s.cells :: T) w1 → q < w1.heap.size ∧ Row w1 q 0 s.cells := fun q T w1 h1 => ⟨(row q _ _).lt rfl (h1.ok _ (List.mem_cons_self ..)).1, rw_here w1 h1⟩
  have b0 := hs.b0; have b1 := hs.b1; have b2 := hs.b2; have b3 := hs.b3; have p0 := hs.p0; have p1 := hs.p1; have p2 := hs.p2; have p3 := hs.p3
  unfold Sty.frame
  refine go_ _ ?_
  (first | ((with_reducible apply so_new); rfl; (first | (with_reducible rfl) | assumption | exact decide_eq_true (by omega) | (simp only [Bool.not_eq_true', Bool.not_eq_false', decide_eq_false_iff_not, decide_eq_true_eq] <;> first | assumption | omega) | decide); exact tZ rfl; decide; (intro; rfl); (first | (with_reducible rfl) | assumption | exact decide_eq_true (by omega) | (simp only [Bool.not_eq_true', Bool.not_eq_false', decide_eq_false_iff_not, decide_eq_true_eq] <;> first | assumption | omega) | decide); (intro; rfl); rfl; exact tS rfl; rfl; rfl) | ((with_reducible apply so_alloc); rfl; (first | (with_reducible rfl) | assumption | exact decide_eq_true (by omega) | (simp only [Bool.not_eq_true', Bool.not_eq_false', decide_eq_false_iff_not, decide_eq_true_eq] <;> first | assumption | omega) | decide); exact tZ rfl; (focus ((repeat (first | (with_reducible exact CopyL.agg) | exact CopyL.nil | (apply CopyL.consI; rfl) | (apply CopyL.consB; rfl) | (apply CopyL.consS; rfl) | (apply CopyL.consP; rfl) | apply CopyL.cons)); done)); decide) | ((with_reducible apply so_box); rfl; (first | (with_reducible rfl) | assumption | exact decide_eq_true (by omega) | (simp only [Bool.not_eq_true', Bool.not_eq_false', decide_eq_false_iff_not, decide_eq_true_eq] <;> first | assumption | omega) | decide); rfl; (focus ((repeat (first | (with_reducible exact CopyL.agg) | exact CopyL.nil | (apply CopyL.consI; rfl) | (apply CopyL.consB; rfl) | (apply CopyL.consS; rfl) | (apply CopyL.consP; rfl) | apply CopyL.cons)); done)); decide))
  intro q
  refine go_ _ ?_
  refine so_callF (vs := [.int .i64 3]) (us := [.pointer (some ⟨q, 0, none⟩)]) rfl (fun w1 h1 => side_any s 3 (by decide) q w1 (row_ q _ w1 h1).1 (row_ q _ w1 h1).2 s.b3 s.p3 rfl rfl b3 p3) rfl rfl rfl (tF rfl) (by decide) ?_
  refine go_ _ ?_
  refine so_callF (vs := [.int .i64 1]) (us := [.pointer (some ⟨q, 0, none⟩)]) rfl (fun w1 h1 => side_any s 1 (by decide) q w1 (row_ q _ w1 h1).1 (row_ q _ w1 h1).2 s.b1 s.p1 rfl rfl b1 p1) rfl rfl rfl (tF rfl) (by decide) ?_
  unfold InB at *
  refine go_ _ ?_
  refine so_callF (vs := [.int .i64 0]) (us := [.pointer (some ⟨q, 0, none⟩)]) rfl (fun w1 h1 => side_any s 0 (by decide) q w1 (row_ q _ w1 h1).1 (row_ q _ w1 h1).2 s.b0 s.p0 rfl rfl b0 p0) rfl rfl rfl (tF rfl) (by decide) ?_
  refine go_ _ ?_
  refine so_callF (vs := [.int .i64 2]) (us := [.pointer (some ⟨q, 0, none⟩)]) rfl (fun w1 h1 => side_any s 2 (by decide) q w1 (row_ q _ w1 h1).1 (row_ q _ w1 h1).2 s.b2 s.p2 rfl rfl b2 p2) rfl rfl rfl (tF rfl) (by decide) ?_
  refine go_ _ ?_
  exact sret2 rfl rfl rfl rfl

set_option maxRecDepth 100000 in
set_option maxHeartbeats 1000000 in
theorem clamp_any (s : Sty) (c x : Int) (w : World) (h1 : LnB s.maxw c) (h2 : LnB s.minw c) :
    Calls Try.prog 13 #[.agg s.cells.toArray, .int .i64 c, .int .i64 x] w fun e w' => e = .returned (.int .i64 (clampM s c x)) ∧ Below w.heap.size w w' := by
  refine s_quiet [(0, .agg s.cells.toArray), (1, .int .i64 c), (2, .int .i64 x)] Try.func13 rfl Try.ntmps13 rfl (by simp) ?_
  unfold clampM
  refine go_ _ ?_
  (first | ((with_reducible apply so_new); rfl; (first | (with_reducible rfl) | assumption | exact decide_eq_true (by omega) | (simp only [Bool.not_eq_true', Bool.not_eq_false', decide_eq_false_iff_not, decide_eq_true_eq] <;> first | assumption | omega) | decide); exact tZ rfl; decide; (intro; rfl); (first | (with_reducible rfl) | assumption | exact decide_eq_true (by omega) | (simp only [Bool.not_eq_true', Bool.not_eq_false', decide_eq_false_iff_not, decide_eq_true_eq] <;> first | assumption | omega) | decide); (intro; rfl); rfl; exact tS rfl; rfl; rfl) | ((with_reducible apply so_alloc); rfl; (first | (with_reducible rfl) | assumption | exact decide_eq_true (by omega) | (simp only [Bool.not_eq_true', Bool.not_eq_false', decide_eq_false_iff_not, decide_eq_true_eq] <;> first | assumption | omega) | decide); exact tZ rfl; (focus ((repeat (first | (with_reducible exact CopyL.agg) | exact CopyL.nil | (apply CopyL.consI; rfl) | (apply CopyL.consB; rfl) | (apply CopyL.consS; rfl) | (apply CopyL.consP; rfl) | apply CopyL.cons)); done)); decide) | ((with_reducible apply so_box); rfl; (first | (with_reducible rfl) | assumption | exact decide_eq_true (by omega) | (simp only [Bool.not_eq_true', Bool.not_eq_false', decide_eq_false_iff_not, decide_eq_true_eq] <;> first | assumption | omega) | decide); rfl; (focus ((repeat (first | (with_reducible exact CopyL.agg) | exact CopyL.nil | (apply CopyL.consI; rfl) | (apply CopyL.consB; rfl) | (apply CopyL.consS; rfl) | (apply CopyL.consP; rfl) | apply CopyL.cons)); done)); decide))
  intro q
  refine go_ _ ?_
  refine so_callQ (fun w1 _ => resolve_any s.maxw c w1 h1) rfl rfl rfl (tF rfl) (by decide) ?_
  generalize resM s.maxw c = most
  obtain ⟨most, is⟩ := most
  refine go_ _ ?_
  dsimp only
  cases is
  all_goals
    refine go_ _ ?_
    refine so_callQ (fun w1 _ => resolve_any s.minw c w1 h2) rfl rfl rfl (tF rfl) (by decide) ?_
    generalize resM s.minw c = least
    obtain ⟨least, is⟩ := least
    cases is
    all_goals
      refine go_ _ ?_
      exact sret1 rfl rfl rfl

set_option maxRecDepth 100000 in
theorem half_any (x : Int) (w : World) : Calls Try.prog 18 #[.int .i64 x] w fun e w' => e = .returned (.int .i64 (x / 2)) ∧ Below w.heap.size w w' := by
  refine s_quiet [(0, .int .i64 x)] Try.func18 rfl Try.ntmps18 rfl (by simp) ?_
  refine go_ _ ?_
  exact sret1 rfl rfl rfl

set_option maxRecDepth 100000 in
theorem aucut_any (x : Int) (w : World) : Calls Try.prog 21 #[.int .i64 x] w fun e w' => e = .returned (.tuple #[.int .i64 (cutM x), .bool (!decide (x = cutM x))]) ∧ Below w.heap.size w w' := by
  refine s_quiet [(0, .int .i64 x)] Try.func21 rfl Try.ntmps21 rfl (by simp) ?_
  refine go_ _ ?_
  exact sret2 rfl rfl rfl rfl

set_option maxRecDepth 100000 in
theorem px_any (n : Int) (w : World) : Calls Try.prog 11 #[.int .i64 n] w fun e w' => e = .returned (.agg (Ln.cells ⟨1, n⟩).toArray) ∧ Below w.heap.size w w' := by
  refine s_quiet [(0, .int .i64 n)] Try.func11 rfl Try.ntmps11 rfl (by simp) ?_
  refine go_ _ ?_
  (first | ((with_reducible apply so_new); rfl; (first | (with_reducible rfl) | assumption | exact decide_eq_true (by omega) | (simp only [Bool.not_eq_true', Bool.not_eq_false', decide_eq_false_iff_not, decide_eq_true_eq] <;> first | assumption | omega) | decide); exact tZ rfl; decide; (intro; rfl); (first | (with_reducible rfl) | assumption | exact decide_eq_true (by omega) | (simp only [Bool.not_eq_true', Bool.not_eq_false', decide_eq_false_iff_not, decide_eq_true_eq] <;> first | assumption | omega) | decide); (intro; rfl); rfl; exact tS rfl; rfl; rfl) | ((with_reducible apply so_alloc); rfl; (first | (with_reducible rfl) | assumption | exact decide_eq_true (by omega) | (simp only [Bool.not_eq_true', Bool.not_eq_false', decide_eq_false_iff_not, decide_eq_true_eq] <;> first | assumption | omega) | decide); exact tZ rfl; (focus ((repeat (first | (with_reducible exact CopyL.agg) | exact CopyL.nil | (apply CopyL.consI; rfl) | (apply CopyL.consB; rfl) | (apply CopyL.consS; rfl) | (apply CopyL.consP; rfl) | apply CopyL.cons)); done)); decide) | ((with_reducible apply so_box); rfl; (first | (with_reducible rfl) | assumption | exact decide_eq_true (by omega) | (simp only [Bool.not_eq_true', Bool.not_eq_false', decide_eq_false_iff_not, decide_eq_true_eq] <;> first | assumption | omega) | decide); rfl; (focus ((repeat (first | (with_reducible exact CopyL.agg) | exact CopyL.nil | (apply CopyL.consI; rfl) | (apply CopyL.consB; rfl) | (apply CopyL.consS; rfl) | (apply CopyL.consP; rfl) | apply CopyL.cons)); done)); decide))
  intro q
  refine go_ _ ?_
  refine so_storeB rfl rfl rfl rfl (tS rfl) rfl rfl (by (focus ((repeat (first | (with_reducible exact Upd.here) | (with_reducible apply Upd.there))); done))) (by rfl) ?_
  refine go_ _ ?_
  exact sretCell rfl rfl (tA rfl) (tS rfl) rw_here rfl
set_option maxRecDepth 100000 in
theorem part_any (n : Int) (w : World) : Calls Try.prog 14 #[.int .i64 n] w fun e w' => e = .returned (.agg (Ln.cells ⟨2, n⟩).toArray) ∧ Below w.heap.size w w' := by
  refine s_quiet [(0, .int .i64 n)] Try.func14 rfl Try.ntmps14 rfl (by simp) ?_
  refine go_ _ ?_
  (first | ((with_reducible apply so_new); rfl; (first | (with_reducible rfl) | assumption | exact decide_eq_true (by omega) | (simp only [Bool.not_eq_true', Bool.not_eq_false', decide_eq_false_iff_not, decide_eq_true_eq] <;> first | assumption | omega) | decide); exact tZ rfl; decide; (intro; rfl); (first | (with_reducible rfl) | assumption | exact decide_eq_true (by omega) | (simp only [Bool.not_eq_true', Bool.not_eq_false', decide_eq_false_iff_not, decide_eq_true_eq] <;> first | assumption | omega) | decide); (intro; rfl); rfl; exact tS rfl; rfl; rfl) | ((with_reducible apply so_alloc); rfl; (first | (with_reducible rfl) | assumption | exact decide_eq_true (by omega) | (simp only [Bool.not_eq_true', Bool.not_eq_false', decide_eq_false_iff_not, decide_eq_true_eq] <;> first | assumption | omega) | decide); exact tZ rfl; (focus ((repeat (first | (with_reducible exact CopyL.agg) | exact CopyL.nil | (apply CopyL.consI; rfl) | (apply CopyL.consB; rfl) | (apply CopyL.consS; rfl) | (apply CopyL.consP; rfl) | apply CopyL.cons)); done)); decide) | ((with_reducible apply so_box); rfl; (first | (with_reducible rfl) | assumption | exact decide_eq_true (by omega) | (simp only [Bool.not_eq_true', Bool.not_eq_false', decide_eq_false_iff_not, decide_eq_true_eq] <;> first | assumption | omega) | decide); rfl; (focus ((repeat (first | (with_reducible exact CopyL.agg) | exact CopyL.nil | (apply CopyL.consI; rfl) | (apply CopyL.consB; rfl) | (apply CopyL.consS; rfl) | (apply CopyL.consP; rfl) | apply CopyL.cons)); done)); decide))
  intro q
  refine go_ _ ?_
  refine so_storeB rfl rfl rfl rfl (tS rfl) rfl rfl (by (focus ((repeat (first | (with_reducible exact Upd.here) | (with_reducible apply Upd.there))); done))) (by rfl) ?_
  refine go_ _ ?_
  exact sretCell rfl rfl (tA rfl) (tS rfl) rw_here rfl

set_option maxRecDepth 100000 in
set_option maxHeartbeats 2000000 in
theorem cut_any (a b c : Int) (w : World) : Calls Try.prog 19 #[.int .i64 a, .int .i64 b, .int .i64 c] w fun e w' => e = .returned (.tuple #[usedV (a, b, c), .bool (beyondM (a, b, c))]) ∧ Below w.heap.size w w' := by
  refine s_quiet [(0, .int .i64 a), (1, .int .i64 b), (2, .int .i64 c)] Try.func19 rfl Try.ntmps19 rfl (by simp) ?_
  refine go_ _ ?_
  (first | ((with_reducible apply so_new); rfl; (first | (with_reducible rfl) | assumption | exact decide_eq_true (by omega) | (simp only [Bool.not_eq_true', Bool.not_eq_false', decide_eq_false_iff_not, decide_eq_true_eq] <;> first | assumption | omega) | decide); exact tZ rfl; decide; (intro; rfl); (first | (with_reducible rfl) | assumption | exact decide_eq_true (by omega) | (simp only [Bool.not_eq_true', Bool.not_eq_false', decide_eq_false_iff_not, decide_eq_true_eq] <;> first | assumption | omega) | decide); (intro; rfl); rfl; exact tS rfl; rfl; rfl) | ((with_reducible apply so_alloc); rfl; (first | (with_reducible rfl) | assumption | exact decide_eq_true (by omega) | (simp only [Bool.not_eq_true', Bool.not_eq_false', decide_eq_false_iff_not, decide_eq_true_eq] <;> first | assumption | omega) | decide); exact tZ rfl; (focus ((repeat (first | (with_reducible exact CopyL.agg) | exact CopyL.nil | (apply CopyL.consI; rfl) | (apply CopyL.consB; rfl) | (apply CopyL.consS; rfl) | (apply CopyL.consP; rfl) | apply CopyL.cons)); done)); decide) | ((with_reducible apply so_box); rfl; (first | (with_reducible rfl) | assumption | exact decide_eq_true (by omega) | (simp only [Bool.not_eq_true', Bool.not_eq_false', decide_eq_false_iff_not, decide_eq_true_eq] <;> first | assumption | omega) | decide); rfl; (focus ((repeat (first | (with_reducible exact CopyL.agg) | exact CopyL.nil | (apply CopyL.consI; rfl) | (apply CopyL.consB; rfl) | (apply CopyL.consS; rfl) | (apply CopyL.consP; rfl) | apply CopyL.cons)); done)); decide))
  intro u
  refine go_ _ ?_
  refine so_lit (vs := [.agg [.pointer (some ⟨u, 0 + 0, none⟩), .int .i64 a].toArray, .agg [.pointer (some ⟨u, 0 + 1, none⟩), .int .i64 b].toArray, .agg [.pointer (some ⟨u, 0 + 2, none⟩), .int .i64 c].toArray]) (sz := 2) (e := 56) rfl rfl (by repeat (first | exact Parts.nil | ((with_reducible apply Parts.cons); rfl))) (by rfl) (by rfl) (by kernel_rfl) (by simp [Value.cells]) (xs := [.pointer (some ⟨u, 0 + 0, none⟩), .int .i64 a, .pointer (some ⟨u, 0 + 1, none⟩), .int .i64 b, .pointer (some ⟨u, 0 + 2, none⟩), .int .i64 c]) (CopyL.refl _) (by simp) (by simp) (by decide) fun q => ?_
  refine go_ _ ?_
  obtain ⟨pa, hpa⟩ : ∃ p, p = !decide (a = cutM a) := ⟨_, rfl⟩
  obtain ⟨pb, hpb⟩ : ∃ p, p = !decide (b = cutM b) := ⟨_, rfl⟩
  obtain ⟨pc, hpc⟩ : ∃ p, p = !decide (c = cutM c) := ⟨_, rfl⟩
  have fin : beyondM (a, b, c) = ((pa || pb) || pc) := by rw [hpa, hpb, hpc]; rfl
  rw [fin]
  refine s_rounds 4 (sl_round ?_)
  refine go_ _ ?_
  (first | ((with_reducible apply so_new); rfl; (first | (with_reducible rfl) | assumption | exact decide_eq_true (by omega) | (simp only [Bool.not_eq_true', Bool.not_eq_false', decide_eq_false_iff_not, decide_eq_true_eq] <;> first | assumption | omega) | decide); exact tZ rfl; decide; (intro; rfl); (first | (with_reducible rfl) | assumption | exact decide_eq_true (by omega) | (simp only [Bool.not_eq_true', Bool.not_eq_false', decide_eq_false_iff_not, decide_eq_true_eq] <;> first | assumption | omega) | decide); (intro; rfl); rfl; exact tS rfl; rfl; rfl) | ((with_reducible apply so_alloc); rfl; (first | (with_reducible rfl) | assumption | exact decide_eq_true (by omega) | (simp only [Bool.not_eq_true', Bool.not_eq_false', decide_eq_false_iff_not, decide_eq_true_eq] <;> first | assumption | omega) | decide); exact tZ rfl; (focus ((repeat (first | (with_reducible exact CopyL.agg) | exact CopyL.nil | (apply CopyL.consI; rfl) | (apply CopyL.consB; rfl) | (apply CopyL.consS; rfl) | (apply CopyL.consP; rfl) | apply CopyL.cons)); done)); decide) | ((with_reducible apply so_box); rfl; (first | (with_reducible rfl) | assumption | exact decide_eq_true (by omega) | (simp only [Bool.not_eq_true', Bool.not_eq_false', decide_eq_false_iff_not, decide_eq_true_eq] <;> first | assumption | omega) | decide); rfl; (focus ((repeat (first | (with_reducible exact CopyL.agg) | exact CopyL.nil | (apply CopyL.consI; rfl) | (apply CopyL.consB; rfl) | (apply CopyL.consS; rfl) | (apply CopyL.consP; rfl) | apply CopyL.cons)); done)); decide))
  intro x1
  refine go_ _ ?_
  refine so_callQ (fun w1 _ => hpa ▸ aucut_any a w1) rfl rfl rfl (tF rfl) (by decide) ?_
  clear hpa fin
  refine go_ _ ?_
  refine sl_round ?_
  refine go_ _ ?_
  (first | ((with_reducible apply so_new); rfl; (first | (with_reducible rfl) | assumption | exact decide_eq_true (by omega) | (simp only [Bool.not_eq_true', Bool.not_eq_false', decide_eq_false_iff_not, decide_eq_true_eq] <;> first | assumption | omega) | decide); exact tZ rfl; decide; (intro; rfl); (first | (with_reducible rfl) | assumption | exact decide_eq_true (by omega) | (simp only [Bool.not_eq_true', Bool.not_eq_false', decide_eq_false_iff_not, decide_eq_true_eq] <;> first | assumption | omega) | decide); (intro; rfl); rfl; exact tS rfl; rfl; rfl) | ((with_reducible apply so_alloc); rfl; (first | (with_reducible rfl) | assumption | exact decide_eq_true (by omega) | (simp only [Bool.not_eq_true', Bool.not_eq_false', decide_eq_false_iff_not, decide_eq_true_eq] <;> first | assumption | omega) | decide); exact tZ rfl; (focus ((repeat (first | (with_reducible exact CopyL.agg) | exact CopyL.nil | (apply CopyL.consI; rfl) | (apply CopyL.consB; rfl) | (apply CopyL.consS; rfl) | (apply CopyL.consP; rfl) | apply CopyL.cons)); done)); decide) | ((with_reducible apply so_box); rfl; (first | (with_reducible rfl) | assumption | exact decide_eq_true (by omega) | (simp only [Bool.not_eq_true', Bool.not_eq_false', decide_eq_false_iff_not, decide_eq_true_eq] <;> first | assumption | omega) | decide); rfl; (focus ((repeat (first | (with_reducible exact CopyL.agg) | exact CopyL.nil | (apply CopyL.consI; rfl) | (apply CopyL.consB; rfl) | (apply CopyL.consS; rfl) | (apply CopyL.consP; rfl) | apply CopyL.cons)); done)); decide))
  intro x2
  refine go_ _ ?_
  refine so_callQ (fun w1 _ => hpb ▸ aucut_any b w1) rfl rfl rfl (tF rfl) (by decide) ?_
  clear hpb
  cases pa
  all_goals
    refine go_ _ ?_
    refine sl_round ?_
    refine go_ _ ?_
    (first | ((with_reducible apply so_new); rfl; (first | (with_reducible rfl) | assumption | exact decide_eq_true (by omega) | (simp only [Bool.not_eq_true', Bool.not_eq_false', decide_eq_false_iff_not, decide_eq_true_eq] <;> first | assumption | omega) | decide); exact tZ rfl; decide; (intro; rfl); (first | (with_reducible rfl) | assumption | exact decide_eq_true (by omega) | (simp only [Bool.not_eq_true', Bool.not_eq_false', decide_eq_false_iff_not, decide_eq_true_eq] <;> first | assumption | omega) | decide); (intro; rfl); rfl; exact tS rfl; rfl; rfl) | ((with_reducible apply so_alloc); rfl; (first | (with_reducible rfl) | assumption | exact decide_eq_true (by omega) | (simp only [Bool.not_eq_true', Bool.not_eq_false', decide_eq_false_iff_not, decide_eq_true_eq] <;> first | assumption | omega) | decide); exact tZ rfl; (focus ((repeat (first | (with_reducible exact CopyL.agg) | exact CopyL.nil | (apply CopyL.consI; rfl) | (apply CopyL.consB; rfl) | (apply CopyL.consS; rfl) | (apply CopyL.consP; rfl) | apply CopyL.cons)); done)); decide) | ((with_reducible apply so_box); rfl; (first | (with_reducible rfl) | assumption | exact decide_eq_true (by omega) | (simp only [Bool.not_eq_true', Bool.not_eq_false', decide_eq_false_iff_not, decide_eq_true_eq] <;> first | assumption | omega) | decide); rfl; (focus ((repeat (first | (with_reducible exact CopyL.agg) | exact CopyL.nil | (apply CopyL.consI; rfl) | (apply CopyL.consB; rfl) | (apply CopyL.consS; rfl) | (apply CopyL.consP; rfl) | apply CopyL.cons)); done)); decide))
    intro x3
    refine go_ _ ?_
    refine so_callQ (fun w1 _ => hpc ▸ aucut_any c w1) rfl rfl rfl (tF rfl) (by decide) ?_
    cases pb
    all_goals
      refine go_ _ ?_
      refine sl_round ?_
      refine go_ _ ?_
      refine so_storeB rfl rfl rfl rfl (tS rfl) rfl rfl (by (focus ((repeat (first | (with_reducible exact Upd.here) | (with_reducible apply Upd.there))); done))) (by rfl) ?_
      refine go_ _ ?_
      exact sretCell2 rfl rfl rfl (tA rfl) (tS rfl) (rw_there (rw_there (rw_there (rw_there rw_here)))) rfl

def sidesV (s : Sty) (c : Int) : List Value := [.int .i64 s.frame, .int .i64 (resM s.m3 c).1, .int .i64 (resM s.m1 c).1, .bool (!(resM s.m3 c).2), .bool (!(resM s.m1 c).2)]

set_option maxRecDepth 100000 in
set_option maxHeartbeats 2000000 in
theorem of_any (s : Sty) (c : Int) (w : World) (hs : StB s c) :
    Calls Try.prog 17 #[.agg s.cells.toArray, .int .i64 c] w fun e w' => e = .returned (.agg (sidesV s c).toArray) ∧ Below w.heap.size w w' := by
  refine s_quiet [(0, .agg s.cells.toArray), (1, .int .i64 c)] Try.func17 rfl Try.ntmps17 rfl (by simp) ?_
  unfold sidesV
  refine go_ _ ?_
  (first | ((with_reducible apply so_new); rfl; (first | (with_reducible rfl) | assumption | exact decide_eq_true (by omega) | (simp only [Bool.not_eq_true', Bool.not_eq_false', decide_eq_false_iff_not, decide_eq_true_eq] <;> first | assumption | omega) | decide); exact tZ rfl; decide; (intro; rfl); (first | (with_reducible rfl) | assumption | exact decide_eq_true (by omega) | (simp only [Bool.not_eq_true', Bool.not_eq_false', decide_eq_false_iff_not, decide_eq_true_eq] <;> first | assumption | omega) | decide); (intro; rfl); rfl; exact tS rfl; rfl; rfl) | ((with_reducible apply so_alloc); rfl; (first | (with_reducible rfl) | assumption | exact decide_eq_true (by omega) | (simp only [Bool.not_eq_true', Bool.not_eq_false', decide_eq_false_iff_not, decide_eq_true_eq] <;> first | assumption | omega) | decide); exact tZ rfl; (focus ((repeat (first | (with_reducible exact CopyL.agg) | exact CopyL.nil | (apply CopyL.consI; rfl) | (apply CopyL.consB; rfl) | (apply CopyL.consS; rfl) | (apply CopyL.consP; rfl) | apply CopyL.cons)); done)); decide) | ((with_reducible apply so_box); rfl; (first | (with_reducible rfl) | assumption | exact decide_eq_true (by omega) | (simp only [Bool.not_eq_true', Bool.not_eq_false', decide_eq_false_iff_not, decide_eq_true_eq] <;> first | assumption | omega) | decide); rfl; (focus ((repeat (first | (with_reducible exact CopyL.agg) | exact CopyL.nil | (apply CopyL.consI; rfl) | (apply CopyL.consB; rfl) | (apply CopyL.consS; rfl) | (apply CopyL.consP; rfl) | apply CopyL.cons)); done)); decide))
  intro q
  refine go_ _ ?_
  (first | ((with_reducible apply so_new); rfl; (first | (with_reducible rfl) | assumption | exact decide_eq_true (by omega) | (simp only [Bool.not_eq_true', Bool.not_eq_false', decide_eq_false_iff_not, decide_eq_true_eq] <;> first | assumption | omega) | decide); exact tZ rfl; decide; (intro; rfl); (first | (with_reducible rfl) | assumption | exact decide_eq_true (by omega) | (simp only [Bool.not_eq_true', Bool.not_eq_false', decide_eq_false_iff_not, decide_eq_true_eq] <;> first | assumption | omega) | decide); (intro; rfl); rfl; exact tS rfl; rfl; rfl) | ((with_reducible apply so_alloc); rfl; (first | (with_reducible rfl) | assumption | exact decide_eq_true (by omega) | (simp only [Bool.not_eq_true', Bool.not_eq_false', decide_eq_false_iff_not, decide_eq_true_eq] <;> first | assumption | omega) | decide); exact tZ rfl; (focus ((repeat (first | (with_reducible exact CopyL.agg) | exact CopyL.nil | (apply CopyL.consI; rfl) | (apply CopyL.consB; rfl) | (apply CopyL.consS; rfl) | (apply CopyL.consP; rfl) | apply CopyL.cons)); done)); decide) | ((with_reducible apply so_box); rfl; (first | (with_reducible rfl) | assumption | exact decide_eq_true (by omega) | (simp only [Bool.not_eq_true', Bool.not_eq_false', decide_eq_false_iff_not, decide_eq_true_eq] <;> first | assumption | omega) | decide); rfl; (focus ((repeat (first | (with_reducible exact CopyL.agg) | exact CopyL.nil | (apply CopyL.consI; rfl) | (apply CopyL.consB; rfl) | (apply CopyL.consS; rfl) | (apply CopyL.consP; rfl) | apply CopyL.cons)); done)); decide))
  intro u
  refine go_ _ ?_
  refine so_callQ (fun w1 _ => frame_any s c w1 hs) rfl rfl rfl (tF rfl) (by decide) ?_
  refine go_ _ ?_
  refine so_callQ (fun w1 _ => resolve_any s.m3 c w1 hs.m3) rfl rfl rfl (tF rfl) (by decide) ?_
  refine go_ _ ?_
  refine so_callQ (fun w1 _ => resolve_any s.m1 c w1 hs.m1) rfl rfl rfl (tF rfl) (by decide) ?_
  refine go_ _ ?_
  refine so_storeB rfl rfl rfl rfl (tS rfl) rfl rfl (by (focus ((repeat (first | (with_reducible exact Upd.here) | (with_reducible apply Upd.there))); done))) (by rfl) ?_
  refine go_ _ ?_
  exact sretCell rfl rfl (tA rfl) (tS rfl) rw_here rfl

theorem StB.frame_in {s : Sty} {c : Int} (h : StB s c) : -44000000000000 ≤ s.frame ∧ s.frame ≤ 44000000000000 := by
  have b1 := h.b1; have b3 := h.b3; have p1 := h.p1; have p3 := h.p3
  unfold InB at *; unfold Sty.frame; omega
theorem clamp_in {s : Sty} {c x : Int} (h : StB s c) (hx : x ≤ 90000000000000) : 0 ≤ clampM s c x ∧ clampM s c x ≤ 90000000000000 := by
  have := h.minw.res; have := h.maxw.res
  unfold clampM
  dsimp only
  split <;> split <;> omega

set_option maxRecDepth 100000 in
set_option maxHeartbeats 4000000 in
theorem flowing_any (s : Sty) (c : Int) (w : World) (hs : StB s (max c 0)) (hc : c ≤ 11000000000000) :
    Calls Try.prog 9 #[.agg s.cells.toArray, .int .i64 c] w fun e w' => e = .returned (.tuple #[usedV (flowM s c), .bool (beyondM (flowM s c))]) ∧ Below w.heap.size w w' := by
  refine s_quiet [(0, .agg s.cells.toArray), (1, .int .i64 c)] Try.func9 rfl Try.ntmps9 rfl (by simp) ?_
  refine go_ _ ?_
  (first | ((with_reducible apply so_new); rfl; (first | (with_reducible rfl) | assumption | exact decide_eq_true (by omega) | (simp only [Bool.not_eq_true', Bool.not_eq_false', decide_eq_false_iff_not, decide_eq_true_eq] <;> first | assumption | omega) | decide); exact tZ rfl; decide; (intro; rfl); (first | (with_reducible rfl) | assumption | exact decide_eq_true (by omega) | (simp only [Bool.not_eq_true', Bool.not_eq_false', decide_eq_false_iff_not, decide_eq_true_eq] <;> first | assumption | omega) | decide); (intro; rfl); rfl; exact tS rfl; rfl; rfl) | ((with_reducible apply so_alloc); rfl; (first | (with_reducible rfl) | assumption | exact decide_eq_true (by omega) | (simp only [Bool.not_eq_true', Bool.not_eq_false', decide_eq_false_iff_not, decide_eq_true_eq] <;> first | assumption | omega) | decide); exact tZ rfl; (focus ((repeat (first | (with_reducible exact CopyL.agg) | exact CopyL.nil | (apply CopyL.consI; rfl) | (apply CopyL.consB; rfl) | (apply CopyL.consS; rfl) | (apply CopyL.consP; rfl) | apply CopyL.cons)); done)); decide) | ((with_reducible apply so_box); rfl; (first | (with_reducible rfl) | assumption | exact decide_eq_true (by omega) | (simp only [Bool.not_eq_true', Bool.not_eq_false', decide_eq_false_iff_not, decide_eq_true_eq] <;> first | assumption | omega) | decide); rfl; (focus ((repeat (first | (with_reducible exact CopyL.agg) | exact CopyL.nil | (apply CopyL.consI; rfl) | (apply CopyL.consB; rfl) | (apply CopyL.consS; rfl) | (apply CopyL.consP; rfl) | apply CopyL.cons)); done)); decide))
  intro q
  refine go_ _ ?_
  (first | ((with_reducible apply so_new); rfl; (first | (with_reducible rfl) | assumption | exact decide_eq_true (by omega) | (simp only [Bool.not_eq_true', Bool.not_eq_false', decide_eq_false_iff_not, decide_eq_true_eq] <;> first | assumption | omega) | decide); exact tZ rfl; decide; (intro; rfl); (first | (with_reducible rfl) | assumption | exact decide_eq_true (by omega) | (simp only [Bool.not_eq_true', Bool.not_eq_false', decide_eq_false_iff_not, decide_eq_true_eq] <;> first | assumption | omega) | decide); (intro; rfl); rfl; exact tS rfl; rfl; rfl) | ((with_reducible apply so_alloc); rfl; (first | (with_reducible rfl) | assumption | exact decide_eq_true (by omega) | (simp only [Bool.not_eq_true', Bool.not_eq_false', decide_eq_false_iff_not, decide_eq_true_eq] <;> first | assumption | omega) | decide); exact tZ rfl; (focus ((repeat (first | (with_reducible exact CopyL.agg) | exact CopyL.nil | (apply CopyL.consI; rfl) | (apply CopyL.consB; rfl) | (apply CopyL.consS; rfl) | (apply CopyL.consP; rfl) | apply CopyL.cons)); done)); decide) | ((with_reducible apply so_box); rfl; (first | (with_reducible rfl) | assumption | exact decide_eq_true (by omega) | (simp only [Bool.not_eq_true', Bool.not_eq_false', decide_eq_false_iff_not, decide_eq_true_eq] <;> first | assumption | omega) | decide); rfl; (focus ((repeat (first | (with_reducible exact CopyL.agg) | exact CopyL.nil | (apply CopyL.consI; rfl) | (apply CopyL.consB; rfl) | (apply CopyL.consS; rfl) | (apply CopyL.consP; rfl) | apply CopyL.cons)); done)); decide))
  intro u
  refine go_ _ ?_
  obtain ⟨c', hc'⟩ : ∃ c', c' = max c 0 := ⟨_, rfl⟩
  have hm : flowM s c = flowM s c' := by unfold flowM; rw [hc', show max (max c 0) 0 = max c 0 by omega]
  rw [hm]
  rw [← hc'] at hs ⊢
  have hc0 : 0 ≤ c' ∧ c' ≤ 11000000000000 := by omega
  clear hm hc'
  refine so_callQ (fun w1 _ => of_any s c' w1 hs) rfl rfl rfl (tF rfl) (by decide) ?_
  have f0 := hs.frame_in
  have rm3 := hs.m3.res; have rm1 := hs.m1.res; have rw_ := hs.w.res
  unfold sidesV
  refine go_ _ ?_
  refine so_new rfl rfl (tZ rfl) (by decide) (fun _ => rfl) rfl (fun _ => rfl) rfl (tS rfl) rfl rfl fun x => go_ _ ?_
  refine so_callQ (fun w1 _ => resolve_any s.w c' w1 hs.w) rfl rfl rfl (tF rfl) (by decide) ?_
  unfold flowM
  rw [show max c' 0 = c' by omega]
  generalize s.frame = f at f0 ⊢
  generalize resM s.w c' = rv at rw_ ⊢
  generalize resM s.m3 c' = rm at rm3 ⊢
  generalize resM s.m1 c' = rn at rm1 ⊢
  obtain ⟨wv, wis⟩ := rv
  obtain ⟨m, one⟩ := rm
  obtain ⟨n, two⟩ := rn
  dsimp only at rm3 rm1 rw_ ⊢
  have hW : widthM wis wv c' f m n ≤ 90000000000000 ∧ -90000000000000 ≤ widthM wis wv c' f m n := by unfold widthM; split <;> omega
  have hCl := clamp_in hs hW.1
  generalize hcl : clampM s c' (widthM wis wv c' f m n) = cl at hCl
  generalize hw : widthM wis wv c' f m n = wd at hW hcl ⊢
  cases wis
  · have hmax : max (c' - f - m - n) 0 = wd := hw
    refine go_ _ ?_
    rw [hmax]
    refine so_callQ (fun w1 _ => hcl ▸ clamp_any s c' wd w1 hs.maxw hs.minw) rfl rfl rfl (tF rfl) (by decide) ?_
    clear hcl hmax hw
    by_cases e : cl = wd
    · have hT : flowT false one two c' f m n wd cl = (cl, m, c' - f - cl - m) := by simp [flowT, leftM, e]
      rw [hT]
      refine go_ _ ?_
      refine so_callQ (fun w1 _ => cut_any cl m (c' - f - cl - m) w1) rfl rfl rfl (tF rfl) (by decide) ?_
      refine go_ _ ?_
      refine so_storeB rfl rfl rfl rfl (tS rfl) rfl rfl (by (focus ((repeat (first | (with_reducible exact Upd.here) | (with_reducible apply Upd.there))); done))) (by rfl) ?_
      refine go_ _ ?_
      exact sretCell2 rfl rfl rfl (tA rfl) (tS rfl) (by repeat (first | exact rw_here | refine rw_there ?_)) rfl
    · cases one
      · cases two
        · have hT : flowT false false false c' f m n wd cl = (cl, max ((c' - f - cl) / 2) 0, c' - f - cl - max ((c' - f - cl) / 2) 0) := by simp [flowT, leftM, e]
          rw [hT]
          refine go_ _ ?_
          refine so_callQ (fun w1 _ => half_any (c' - f - cl) w1) rfl rfl rfl (tF rfl) (by decide) ?_
          refine go_ _ ?_
          refine so_callQ (fun w1 _ => cut_any cl (max ((c' - f - cl) / 2) 0) (c' - f - cl - max ((c' - f - cl) / 2) 0) w1) rfl rfl rfl (tF rfl) (by decide) ?_
          refine go_ _ ?_
          refine so_storeB rfl rfl rfl rfl (tS rfl) rfl rfl (by (focus ((repeat (first | (with_reducible exact Upd.here) | (with_reducible apply Upd.there))); done))) (by rfl) ?_
          refine go_ _ ?_
          exact sretCell2 rfl rfl rfl (tA rfl) (tS rfl) (by repeat (first | exact rw_here | refine rw_there ?_)) rfl
        · have hT : flowT false false true c' f m n wd cl = (cl, max (c' - f - cl - n) 0, c' - f - cl - max (c' - f - cl - n) 0) := by simp [flowT, leftM, e]
          rw [hT]
          refine go_ _ ?_
          refine so_callQ (fun w1 _ => cut_any cl (max (c' - f - cl - n) 0) (c' - f - cl - max (c' - f - cl - n) 0) w1) rfl rfl rfl (tF rfl) (by decide) ?_
          refine go_ _ ?_
          refine so_storeB rfl rfl rfl rfl (tS rfl) rfl rfl (by (focus ((repeat (first | (with_reducible exact Upd.here) | (with_reducible apply Upd.there))); done))) (by rfl) ?_
          refine go_ _ ?_
          exact sretCell2 rfl rfl rfl (tA rfl) (tS rfl) (by repeat (first | exact rw_here | refine rw_there ?_)) rfl
      · have hT : flowT false true two c' f m n wd cl = (cl, m, c' - f - cl - m) := by simp [flowT, leftM]
        rw [hT]
        refine go_ _ ?_
        refine so_callQ (fun w1 _ => cut_any cl m (c' - f - cl - m) w1) rfl rfl rfl (tF rfl) (by decide) ?_
        refine go_ _ ?_
        refine so_storeB rfl rfl rfl rfl (tS rfl) rfl rfl (by (focus ((repeat (first | (with_reducible exact Upd.here) | (with_reducible apply Upd.there))); done))) (by rfl) ?_
        refine go_ _ ?_
        exact sretCell2 rfl rfl rfl (tA rfl) (tS rfl) (by repeat (first | exact rw_here | refine rw_there ?_)) rfl
  · have hwd : wv = wd := hw
    subst hwd
    refine go_ _ ?_
    refine so_callQ (fun w1 _ => hcl ▸ clamp_any s c' wv w1 hs.maxw hs.minw) rfl rfl rfl (tF rfl) (by decide) ?_
    clear hcl hw
    cases one
    · cases two
      · have hT : flowT true false false c' f m n wv cl = (cl, max ((c' - f - cl) / 2) 0, c' - f - cl - max ((c' - f - cl) / 2) 0) := by simp [flowT, leftM]
        rw [hT]
        refine go_ _ ?_
        refine so_callQ (fun w1 _ => half_any (c' - f - cl) w1) rfl rfl rfl (tF rfl) (by decide) ?_
        refine go_ _ ?_
        refine so_callQ (fun w1 _ => cut_any cl (max ((c' - f - cl) / 2) 0) (c' - f - cl - max ((c' - f - cl) / 2) 0) w1) rfl rfl rfl (tF rfl) (by decide) ?_
        refine go_ _ ?_
        refine so_storeB rfl rfl rfl rfl (tS rfl) rfl rfl (by (focus ((repeat (first | (with_reducible exact Upd.here) | (with_reducible apply Upd.there))); done))) (by rfl) ?_
        refine go_ _ ?_
        exact sretCell2 rfl rfl rfl (tA rfl) (tS rfl) (by repeat (first | exact rw_here | refine rw_there ?_)) rfl
      · have hT : flowT true false true c' f m n wv cl = (cl, max (c' - f - cl - n) 0, c' - f - cl - max (c' - f - cl - n) 0) := by simp [flowT, leftM]
        rw [hT]
        refine go_ _ ?_
        refine so_callQ (fun w1 _ => cut_any cl (max (c' - f - cl - n) 0) (c' - f - cl - max (c' - f - cl - n) 0) w1) rfl rfl rfl (tF rfl) (by decide) ?_
        refine go_ _ ?_
        refine so_storeB rfl rfl rfl rfl (tS rfl) rfl rfl (by (focus ((repeat (first | (with_reducible exact Upd.here) | (with_reducible apply Upd.there))); done))) (by rfl) ?_
        refine go_ _ ?_
        exact sretCell2 rfl rfl rfl (tA rfl) (tS rfl) (by repeat (first | exact rw_here | refine rw_there ?_)) rfl
    · have hT : flowT true true two c' f m n wv cl = (cl, m, c' - f - cl - m) := by simp [flowT, leftM]
      rw [hT]
      refine go_ _ ?_
      refine so_callQ (fun w1 _ => cut_any cl m (c' - f - cl - m) w1) rfl rfl rfl (tF rfl) (by decide) ?_
      refine go_ _ ?_
      refine so_storeB rfl rfl rfl rfl (tS rfl) rfl rfl (by (focus ((repeat (first | (with_reducible exact Upd.here) | (with_reducible apply Upd.there))); done))) (by rfl) ?_
      refine go_ _ ?_
      exact sretCell2 rfl rfl rfl (tA rfl) (tS rfl) (by repeat (first | exact rw_here | refine rw_there ?_)) rfl

set_option maxRecDepth 100000 in
set_option maxHeartbeats 4000000 in
theorem shrunk_any (s : Sty) (c least greatest : Int) (w : World) (hs : StB s (max c 0)) (hc : c ≤ 11000000000000) (hl : InB least) (hg : InB greatest) :
    Calls Try.prog 15 #[.agg s.cells.toArray, .int .i64 c, .int .i64 least, .int .i64 greatest] w fun e w' => e = .returned (.tuple #[usedV (shrunkM s c least greatest), .bool (beyondM (shrunkM s c least greatest))]) ∧ Below w.heap.size w w' := by
  refine s_quiet [(0, .agg s.cells.toArray), (1, .int .i64 c), (2, .int .i64 least), (3, .int .i64 greatest)] Try.func15 rfl Try.ntmps15 rfl (by simp) ?_
  refine go_ _ ?_
  (first | ((with_reducible apply so_new); rfl; (first | (with_reducible rfl) | assumption | exact decide_eq_true (by omega) | (simp only [Bool.not_eq_true', Bool.not_eq_false', decide_eq_false_iff_not, decide_eq_true_eq] <;> first | assumption | omega) | decide); exact tZ rfl; decide; (intro; rfl); (first | (with_reducible rfl) | assumption | exact decide_eq_true (by omega) | (simp only [Bool.not_eq_true', Bool.not_eq_false', decide_eq_false_iff_not, decide_eq_true_eq] <;> first | assumption | omega) | decide); (intro; rfl); rfl; exact tS rfl; rfl; rfl) | ((with_reducible apply so_alloc); rfl; (first | (with_reducible rfl) | assumption | exact decide_eq_true (by omega) | (simp only [Bool.not_eq_true', Bool.not_eq_false', decide_eq_false_iff_not, decide_eq_true_eq] <;> first | assumption | omega) | decide); exact tZ rfl; (focus ((repeat (first | (with_reducible exact CopyL.agg) | exact CopyL.nil | (apply CopyL.consI; rfl) | (apply CopyL.consB; rfl) | (apply CopyL.consS; rfl) | (apply CopyL.consP; rfl) | apply CopyL.cons)); done)); decide) | ((with_reducible apply so_box); rfl; (first | (with_reducible rfl) | assumption | exact decide_eq_true (by omega) | (simp only [Bool.not_eq_true', Bool.not_eq_false', decide_eq_false_iff_not, decide_eq_true_eq] <;> first | assumption | omega) | decide); rfl; (focus ((repeat (first | (with_reducible exact CopyL.agg) | exact CopyL.nil | (apply CopyL.consI; rfl) | (apply CopyL.consB; rfl) | (apply CopyL.consS; rfl) | (apply CopyL.consP; rfl) | apply CopyL.cons)); done)); decide))
  intro q
  refine go_ _ ?_
  (first | ((with_reducible apply so_new); rfl; (first | (with_reducible rfl) | assumption | exact decide_eq_true (by omega) | (simp only [Bool.not_eq_true', Bool.not_eq_false', decide_eq_false_iff_not, decide_eq_true_eq] <;> first | assumption | omega) | decide); exact tZ rfl; decide; (intro; rfl); (first | (with_reducible rfl) | assumption | exact decide_eq_true (by omega) | (simp only [Bool.not_eq_true', Bool.not_eq_false', decide_eq_false_iff_not, decide_eq_true_eq] <;> first | assumption | omega) | decide); (intro; rfl); rfl; exact tS rfl; rfl; rfl) | ((with_reducible apply so_alloc); rfl; (first | (with_reducible rfl) | assumption | exact decide_eq_true (by omega) | (simp only [Bool.not_eq_true', Bool.not_eq_false', decide_eq_false_iff_not, decide_eq_true_eq] <;> first | assumption | omega) | decide); exact tZ rfl; (focus ((repeat (first | (with_reducible exact CopyL.agg) | exact CopyL.nil | (apply CopyL.consI; rfl) | (apply CopyL.consB; rfl) | (apply CopyL.consS; rfl) | (apply CopyL.consP; rfl) | apply CopyL.cons)); done)); decide) | ((with_reducible apply so_box); rfl; (first | (with_reducible rfl) | assumption | exact decide_eq_true (by omega) | (simp only [Bool.not_eq_true', Bool.not_eq_false', decide_eq_false_iff_not, decide_eq_true_eq] <;> first | assumption | omega) | decide); rfl; (focus ((repeat (first | (with_reducible exact CopyL.agg) | exact CopyL.nil | (apply CopyL.consI; rfl) | (apply CopyL.consB; rfl) | (apply CopyL.consS; rfl) | (apply CopyL.consP; rfl) | apply CopyL.cons)); done)); decide))
  intro u
  refine go_ _ ?_
  obtain ⟨c', hc'⟩ : ∃ c', c' = max c 0 := ⟨_, rfl⟩
  unfold shrunkM
  dsimp only
  rw [← hc'] at hs ⊢
  have hc0 : 0 ≤ c' ∧ c' ≤ 11000000000000 := by omega
  clear hc'
  refine so_callQ (fun w1 _ => of_any s c' w1 hs) rfl rfl rfl (tF rfl) (by decide) ?_
  have f0 := hs.frame_in
  have rm3 := hs.m3.res; have rm1 := hs.m1.res; have rw_ := hs.w.res
  unfold InB at hl hg
  unfold sidesV
  refine go_ _ ?_
  refine so_new rfl rfl (tZ rfl) (by decide) (fun _ => rfl) rfl (fun _ => rfl) rfl (tS rfl) rfl rfl fun x => go_ _ ?_
  refine so_callQ (fun w1 _ => resolve_any s.w c' w1 hs.w) rfl rfl rfl (tF rfl) (by decide) ?_
  generalize s.frame = f at f0 ⊢
  generalize resM s.w c' = rv at rw_ ⊢
  generalize resM s.m3 c' = rm at rm3 ⊢
  generalize resM s.m1 c' = rn at rm1 ⊢
  obtain ⟨wv, wis⟩ := rv
  obtain ⟨m, one⟩ := rm
  obtain ⟨n, two⟩ := rn
  dsimp only at rm3 rm1 rw_ ⊢
  cases wis
  all_goals
    simp only [Bool.false_eq_true, if_false, if_true]
    refine go_ _ ?_
    refine s_parts (by kernel_rfl) ?_
    refine sg_free 8 (by kernel_rfl) (go_ _ ?_)
    refine sd_callQ (fun w1 _ => clamp_any s c' _ w1 hs.maxw hs.minw) rfl rfl rfl (tF rfl) (by decide) ?_
    refine go_ _ ?_
    refine sg_one (by kernel_rfl) ?_
    refine so_callQ (fun w1 _ => cut_any _ m n w1) rfl rfl rfl (tF rfl) (by decide) ?_
    refine go_ _ ?_
    refine sg_free 2 (by kernel_rfl) (go_ _ ?_)
    refine sg_one (by kernel_rfl) ?_
    refine so_storeB rfl rfl rfl rfl (tS rfl) rfl rfl (by (focus ((repeat (first | (with_reducible exact Upd.here) | (with_reducible apply Upd.there))); done))) (by rfl) ?_
    refine go_ _ ?_
    refine sg_free 1 (by kernel_rfl) (go_ _ ?_)
    exact sretCell2 rfl rfl rfl (tA rfl) (tS rfl) (by repeat (first | exact rw_here | refine rw_there ?_)) rfl
end Go.Proofs.Ytebiahkffkdlbaa
