/- The walks of package cross: a row's height, a row. -/
import Derived.Test.YtdoihebekbfnbaaCroW
import Derived.Test.YtdoihebekbfnbaaRws
namespace Go.Proofs.Ytdoihebekbfnbaa
open Go.RowKit

theorem tall_step (l : List It) (r : List Nat) (i : Nat) (h : i < r.length) (hk : r[i] < l.length) : tallM l (r.take (i + 1)) = max (tallM l (r.take i)) (l[r[i]].high + l[r[i]].above + l[r[i]].below) := by
  unfold tallM
  rw [List.take_add_one, List.getElem?_eq_getElem h, List.foldl_append]
  simp [List.getElem?_eq_getElem hk]

set_option maxRecDepth 100000 in
set_option maxHeartbeats 4000000 in
theorem tall_any (s : Sty) (c : Int) (l : List It) (r : List Nat) (only : Bool) (qp : Nat) (Al Ar : Option Addr) (cl cr : Nat) (Ov : Value) (w : World) (hb : qp < w.heap.size) (hr : Row w qp 0 (s.cells ++ [.int .i64 c, .slice Al l.length cl, Ov]))
    (hl : Rd w It.cells 50 Al l) (hrow : Rd w kC 1 Ar r) (hrl : r.length ≤ 1000) (hk : ∀ k ∈ r, k < l.length) (hB : ∀ x ∈ l, ItB x) :
    Calls Try.prog 21 #[.pointer (some ⟨qp, 0, none⟩), .slice Ar r.length cr, .bool only] w fun e w' => e = .returned (.int .i64 (rowTallM s l r only)) ∧ Below w.heap.size w w' := by
  refine s_quiet [(0, .pointer (some ⟨qp, 0, none⟩)), (1, .slice Ar r.length cr), (2, .bool only)] Try.func21 rfl Try.ntmps21 rfl (by simp) ?_
  have hp := Rw.base hb hr
  by_cases hx : only = true ∧ s.h.k = 1
  · obtain ⟨rfl, h1⟩ := hx
    rw [rowTallM, if_pos ⟨rfl, h1⟩]
    refine go_ _ ?_
    refine so_callQ (fun w1 _ => high_any s 0 w1) rfl rfl rfl (tF rfl) (Nat.le_of_ble_eq_true rfl) ?_
    refine go_ _ ?_
    exact sret1 rfl rfl rfl
  rw [rowTallM, if_neg hx]
  have h1 : only = true → ¬ s.h.k = 1 := fun h e => hx ⟨h, e⟩
  cases only
  all_goals try replace h1 := h1 rfl
  all_goals
    refine go_ _ ?_
    refine s_loop (ι := Nat × Int) (fun i => [(0, .pointer (some ⟨qp, 0, none⟩)), (7, .int .i64 i.2), (26, .slice Ar r.length cr), (27, .int .i64 (r.length : Nat)), (28, .int .i64 (i.1 : Nat))]) (fun _ => [])
      (fun i => i.1 ≤ r.length ∧ i.2 = tallM l (r.take i.1) ∧ 0 ≤ i.2 ∧ i.2 ≤ 300000000000000) (fun i => r.length - i.1) (0, 0) (by repeat (first | exact Sub.nil | refine Sub.cons rfl ?_ | (refine Sub.consB rfl (by (first | rfl | exact decide_eq_decide.2 (by omega) | exact (decide_eq_true (by omega)).symm | exact (decide_eq_false (by omega)).symm | exact decide_eq_true (by omega) | exact decide_eq_false (by omega))) ?_))) .refl ⟨Nat.zero_le _, rfl, by omega, by omega⟩ ?_
    rintro ⟨i, acc⟩ ⟨hi, hacc, hb0⟩
    dsimp only at hi hacc hb0 ⊢
    by_cases hlt : i < r.length
    · obtain ⟨b1, o1, rfl, hr1⟩ := RdH.at (hrow.base (H := []) rfl) (Mem.start w) i hlt
      have hk1 := hk _ (List.getElem_mem hlt)
      obtain ⟨b2, o2, rfl, hr2⟩ := RdH.at (hl.base (H := []) rfl) (Mem.start w) r[i] hk1
      have hst := tall_step l r i hlt hk1
      have hB1 := hB _ (List.getElem_mem hk1)
      rw [← hacc] at hst
      unfold kC at hr1
      generalize l[r[i]] = x at *
      generalize r[i] = k at *
      have hx1 := hB1.high; have hx2 := hB1.above; have hx3 := hB1.below
      unfold In1 at hx1 hx2 hx3
      clear hB1 hB hacc hl hrow hr
      refine go_ _ ?_
      (first | ((with_reducible apply so_new); rfl; (first | (with_reducible rfl) | assumption | exact decide_eq_true (by omega) | (simp only [Bool.not_eq_true', Bool.not_eq_false', decide_eq_false_iff_not, decide_eq_true_eq] <;> first | assumption | omega) | decide); exact tZ rfl; (first | exact Nat.le_of_ble_eq_true rfl | decide); (intro; rfl); (first | (with_reducible rfl) | assumption | exact decide_eq_true (by omega) | (simp only [Bool.not_eq_true', Bool.not_eq_false', decide_eq_false_iff_not, decide_eq_true_eq] <;> first | assumption | omega) | decide); (intro; rfl); rfl; exact tS rfl; rfl; rfl) | ((with_reducible apply so_alloc); rfl; (first | (with_reducible rfl) | assumption | exact decide_eq_true (by omega) | (simp only [Bool.not_eq_true', Bool.not_eq_false', decide_eq_false_iff_not, decide_eq_true_eq] <;> first | assumption | omega) | decide); exact tZ rfl; (focus ((repeat (first | (with_reducible exact CopyL.agg) | exact CopyL.nil | (apply CopyL.consI; rfl) | (apply CopyL.consB; rfl) | (apply CopyL.consS; rfl) | (apply CopyL.consP; rfl) | (apply CopyL.consF; rfl) | apply CopyL.cons)); done)); (first | exact Nat.le_of_ble_eq_true rfl | decide)) | ((with_reducible apply so_box); rfl; (first | (with_reducible rfl) | assumption | exact decide_eq_true (by omega) | (simp only [Bool.not_eq_true', Bool.not_eq_false', decide_eq_false_iff_not, decide_eq_true_eq] <;> first | assumption | omega) | decide); rfl; (focus ((repeat (first | (with_reducible exact CopyL.agg) | exact CopyL.nil | (apply CopyL.consI; rfl) | (apply CopyL.consB; rfl) | (apply CopyL.consS; rfl) | (apply CopyL.consP; rfl) | (apply CopyL.consF; rfl) | apply CopyL.cons)); done)); (first | exact Nat.le_of_ble_eq_true rfl | decide)))
      intro q1
      refine go_ _ ?_
      exact ⟨(i + 1, max acc (x.high + x.above + x.below)), by omega, (by repeat (first | exact Sub.nil | refine Sub.cons rfl ?_ | (refine Sub.consB rfl (by (first | rfl | exact decide_eq_decide.2 (by omega) | exact (decide_eq_true (by omega)).symm | exact (decide_eq_false (by omega)).symm | exact decide_eq_true (by omega) | exact decide_eq_false (by omega))) ?_))), .nil, by dsimp only; omega, hst.symm, by dsimp only; omega, by dsimp only; omega⟩
    · obtain rfl : i = r.length := by omega
      rw [List.take_length] at hacc
      subst hacc
      refine go_ _ ?_
      exact sret1 rfl rfl rfl

theorem It.len (x : It) : x.cells.length = 50 := rfl
theorem Fg.len (x : Fg) : x.cells.length = 5 := rfl
theorem left_step (c : Int) (l : List It) (r : List Nat) (i : Nat) (h : i < r.length) (hk : r[i] < l.length) : leftM' c l (r.take (i + 1)) = leftM' c l (r.take i) - (l[r[i]].left + l[r[i]].wide + l[r[i]].right) := by
  unfold leftM'
  rw [List.take_add_one, List.getElem?_eq_getElem h, List.foldl_append]
  simp [List.getElem?_eq_getElem hk, It.all]

set_option maxRecDepth 100000 in
set_option maxHeartbeats 8000000 in
theorem row_any (s : Sty) (c : Int) (l : List It) (out : List Fg) (r : List Nat) (top tall : Int) (qp n : Nat) (Al Ao Ar : Option Addr) (cl co cr B : Nat) (w0 w : World) (T : Hp)
    (hw : Mem B w0 (row qp 66 (s.cells ++ [.int .i64 c, .slice Al l.length cl, .slice Ao n co]) :: own Al l.length cl 95 50 (l.flatMap It.cells) :: own Ao n co 46 5 (out.flatMap Fg.cells) :: T) w)
    (hrow : RdH B w0 [] kC 1 Ar r) (hrl : r.length ≤ 64) (hk : ∀ k ∈ r, k < l.length) (hol : out.length = n) (hnl : n = l.length) (hB : ∀ x ∈ l, ItB x) (hc : In1 c) (ht : -100000000000000000 ≤ top ∧ top ≤ 100000000000000000) (htl : 0 ≤ tall ∧ tall ≤ 300000000000000) :
    Calls Try.prog 22 #[.pointer (some ⟨qp, 0, none⟩), .slice Ar r.length cr, .int .i64 top, .int .i64 tall] w fun e w' => ∃ _ : Unit, True ∧ e = .returned (.tuple #[]) ∧
      Mem B w0 (row qp 66 (s.cells ++ [.int .i64 c, .slice Al l.length cl, .slice Ao n co]) :: own Al l.length cl 95 50 (l.flatMap It.cells) :: own Ao n co 46 5 ((rowM s c l r top tall out).flatMap Fg.cells) :: T) w' := by
  refine (s_calls [(0, .pointer (some ⟨qp, 0, none⟩)), (1, .slice Ar r.length cr), (2, .int .i64 top), (3, .int .i64 tall)] (Q := fun v H' => v = .tuple #[] ∧ SubH H' (row qp 66 (s.cells ++ [.int .i64 c, .slice Al l.length cl, .slice Ao n co]) :: own Al l.length cl 95 50 (l.flatMap It.cells) :: own Ao n co 46 5 ((rowM s c l r top tall out).flatMap Fg.cells) :: T))
    Try.func22 rfl Try.ntmps22 rfl (by simp) hw ?_).mono fun e w' ⟨v, H', h1, h2, h3, h4⟩ => ⟨(), trivial, h3 ▸ h1, h2.sub h4⟩
  have hnil : Mem B w0 [] w := hw.sub .nil
  have hAl : 0 < l.length → ∃ q, Al = some ⟨q, 0, none⟩ := fun h => hw.ownSome (.there .here) h
  have hAo : 0 < l.length → ∃ q, Ao = some ⟨q, 0, none⟩ := fun h => hw.ownSome (.there (.there .here)) (by omega)
  unfold In1 at hc
  clear hw
  refine go_ _ ?_
  refine s_loop (ι := Nat × Int) (fun i => [(0, .pointer (some ⟨qp, 0, none⟩)), (1, .slice Ar r.length cr), (2, .int .i64 top), (3, .int .i64 tall), (8, .int .i64 i.2), (23, .slice Ar r.length cr), (24, .int .i64 (r.length : Nat)), (25, .int .i64 (i.1 : Nat))])
    (fun _ => row qp 66 (s.cells ++ [.int .i64 c, .slice Al l.length cl, .slice Ao n co]) :: own Al l.length cl 95 50 (l.flatMap It.cells) :: own Ao n co 46 5 (out.flatMap Fg.cells) :: T)
    (fun i => i.1 ≤ r.length ∧ i.2 = leftM' c l (r.take i.1) ∧ -100000000000000 - 300000000000000 * (i.1 : Int) ≤ i.2 ∧ i.2 ≤ 100000000000000 + 300000000000000 * (i.1 : Int)) (fun i => r.length - i.1) (0, c) (by repeat (first | exact Sub.nil | refine Sub.cons rfl ?_ | (refine Sub.consB rfl (by (first | rfl | exact decide_eq_decide.2 (by omega) | exact (decide_eq_true (by omega)).symm | exact (decide_eq_false (by omega)).symm | exact decide_eq_true (by omega) | exact decide_eq_false (by omega))) ?_))) (by repeat (first | exact SubH.refl | exact SubH.nil | ((with_reducible apply SubH.cons); (focus ((repeat (first | (with_reducible exact Pick.here) | (with_reducible apply Pick.there))); done))) | ((with_reducible apply SubH.consR); (focus ((repeat (first | (with_reducible exact Pick.here) | (with_reducible apply Pick.there))); done)); (first | rfl | simp; done)) | ((with_reducible apply SubH.consO); (focus ((repeat (first | (with_reducible exact Pick.here) | (with_reducible apply Pick.there))); done)); (first | rfl | simp; done); (first | rfl | simp; done)) | exact SubH.drop SubH.refl | apply SubH.drop)) ⟨Nat.zero_le _, rfl, by dsimp only; omega, by dsimp only; omega⟩ ?_
  rintro ⟨i, acc⟩ ⟨hi, hacc, hb0⟩
  dsimp only at hi hacc hb0 ⊢
  by_cases hlt : i < r.length
  · obtain ⟨b1, o1, rfl, hr0⟩ := RdH.at hrow hnil i hlt
    have hk1 := hk _ (List.getElem_mem hlt)
    obtain ⟨ga, rfl⟩ := hAl (by omega)
    have hr1 : Rw B w0 (row qp 66 (s.cells ++ [.int .i64 c, .slice (some ⟨ga, 0, none⟩) l.length cl, .slice Ao n co]) :: own (some ⟨ga, 0, none⟩) l.length cl 95 50 (l.flatMap It.cells) :: own Ao n co 46 5 (out.flatMap Fg.cells) :: T) b1 (o1 + i * 1) (kC r[i]) := Rw.sub hr0 .nil
    have hr2 : Rw B w0 (own (some ⟨ga, 0, none⟩) l.length cl 95 50 (l.flatMap It.cells) :: own Ao n co 46 5 (out.flatMap Fg.cells) :: T) ga (0 + r[i] * 50) l[r[i]].cells := own_at (by decide) It.len r[i] hk1
    have hst := left_step c l r i hlt hk1
    have hB1 := hB _ (List.getElem_mem hk1)
    rw [← hacc] at hst
    unfold kC at hr1
    generalize l[r[i]] = x at *
    generalize r[i] = k at *
    have hx1 := hB1.left; have hx2 := hB1.wide; have hx3 := hB1.right
    unfold In1 at hx1 hx2 hx3
    clear hB1 hB hacc hrow hr0
    refine go_ _ ?_
    (first | ((with_reducible apply so_new); rfl; (first | (with_reducible rfl) | assumption | exact decide_eq_true (by omega) | (simp only [Bool.not_eq_true', Bool.not_eq_false', decide_eq_false_iff_not, decide_eq_true_eq] <;> first | assumption | omega) | decide); exact tZ rfl; (first | exact Nat.le_of_ble_eq_true rfl | decide); (intro; rfl); (first | (with_reducible rfl) | assumption | exact decide_eq_true (by omega) | (simp only [Bool.not_eq_true', Bool.not_eq_false', decide_eq_false_iff_not, decide_eq_true_eq] <;> first | assumption | omega) | decide); (intro; rfl); rfl; exact tS rfl; rfl; rfl) | ((with_reducible apply so_alloc); rfl; (first | (with_reducible rfl) | assumption | exact decide_eq_true (by omega) | (simp only [Bool.not_eq_true', Bool.not_eq_false', decide_eq_false_iff_not, decide_eq_true_eq] <;> first | assumption | omega) | decide); exact tZ rfl; (focus ((repeat (first | (with_reducible exact CopyL.agg) | exact CopyL.nil | (apply CopyL.consI; rfl) | (apply CopyL.consB; rfl) | (apply CopyL.consS; rfl) | (apply CopyL.consP; rfl) | (apply CopyL.consF; rfl) | apply CopyL.cons)); done)); (first | exact Nat.le_of_ble_eq_true rfl | decide)) | ((with_reducible apply so_box); rfl; (first | (with_reducible rfl) | assumption | exact decide_eq_true (by omega) | (simp only [Bool.not_eq_true', Bool.not_eq_false', decide_eq_false_iff_not, decide_eq_true_eq] <;> first | assumption | omega) | decide); rfl; (focus ((repeat (first | (with_reducible exact CopyL.agg) | exact CopyL.nil | (apply CopyL.consI; rfl) | (apply CopyL.consB; rfl) | (apply CopyL.consS; rfl) | (apply CopyL.consP; rfl) | (apply CopyL.consF; rfl) | apply CopyL.cons)); done)); (first | exact Nat.le_of_ble_eq_true rfl | decide)))
    intro q1
    refine go_ _ ?_
    exact ⟨(i + 1, acc - (x.left + x.wide + x.right)), by omega, (by repeat (first | exact Sub.nil | refine Sub.cons rfl ?_ | (refine Sub.consB rfl (by (first | rfl | exact decide_eq_decide.2 (by omega) | exact (decide_eq_true (by omega)).symm | exact (decide_eq_false (by omega)).symm | exact decide_eq_true (by omega) | exact decide_eq_false (by omega))) ?_))), (by repeat (first | exact SubH.refl | exact SubH.nil | ((with_reducible apply SubH.cons); (focus ((repeat (first | (with_reducible exact Pick.here) | (with_reducible apply Pick.there))); done))) | ((with_reducible apply SubH.consR); (focus ((repeat (first | (with_reducible exact Pick.here) | (with_reducible apply Pick.there))); done)); (first | rfl | simp; done)) | ((with_reducible apply SubH.consO); (focus ((repeat (first | (with_reducible exact Pick.here) | (with_reducible apply Pick.there))); done)); (first | rfl | simp; done); (first | rfl | simp; done)) | exact SubH.drop SubH.refl | apply SubH.drop)), by dsimp only; omega, hst.symm, by dsimp only; omega, by dsimp only; omega⟩
  obtain rfl : i = r.length := by omega
  rw [List.take_length] at hacc
  unfold rowM
  rw [← hacc]
  clear hacc
  have hst0 : ∀ (i : Nat) (at_ : Int) (o : List Fg) (hlt : i < r.length) (hk1 : r[i] < l.length), rowGo s l top tall acc r.length (r.drop i) i at_ o = rowGo s l top tall acc r.length (r.drop (i + 1)) (i + 1) (at_ + (l[r[i]].left + l[r[i]].wide + l[r[i]].right)) (o.set r[i] (fragM s l[r[i]] top tall at_ (movM s acc i r.length))) := by
    intro i at_ o hlt hk1
    rw [List.drop_eq_getElem_cons hlt, rowGo, List.getElem?_eq_getElem hk1]; rfl
  refine go_ _ ?_
  refine so_callN (fun w1 h1 => ways_any s acc qp _ w1 ((row qp _ _).lt rfl (h1.ok _ (List.mem_cons_self ..)).1) (rw_here w1 h1)) rfl rfl rfl (tF rfl) (Nat.le_of_ble_eq_true rfl) ?_
  intro q _
  obtain ⟨f, us, hv, hfc, hcall⟩ := mv_call s acc q r.length B w0 (by omega) (by omega)
  rw [hv]
  clear hv
  have hbg : -20000000000000000 ≤ begM s acc ∧ begM s acc ≤ 20000000000000000 := by unfold begM; (repeat' split) <;> omega
  have hmi := mov_in s acc
  generalize begM s acc = bg at *
  refine go_ _ ?_
  refine s_loop (ι := Nat × Int × List Fg) (fun i => [(0, .pointer (some ⟨qp, 0, none⟩)), (1, .slice Ar r.length cr), (2, .int .i64 top), (3, .int .i64 tall), (12, .int .i64 i.2.1), (13, .func (.func f) #[] us.toArray), (53, .slice Ar r.length cr), (54, .int .i64 (r.length : Nat)), (55, .int .i64 (i.1 : Nat))])
    (fun i => row qp 66 (s.cells ++ [.int .i64 c, .slice Al l.length cl, .slice Ao n co]) :: own Al l.length cl 95 50 (l.flatMap It.cells) :: own Ao n co 46 5 (i.2.2.flatMap Fg.cells) :: row q 2 [.int .i64 acc] :: T)
    (fun i => i.1 ≤ r.length ∧ i.2.2.length = n ∧ rowGo s l top tall acc r.length (r.drop i.1) i.1 i.2.1 i.2.2 = rowGo s l top tall acc r.length r 0 bg out ∧ -20000000000000000 - 300000000000000 * (i.1 : Int) ≤ i.2.1 ∧ i.2.1 ≤ 20000000000000000 + 300000000000000 * (i.1 : Int)) (fun i => r.length - i.1) (0, bg, out) (by repeat (first | exact Sub.nil | refine Sub.cons rfl ?_ | (refine Sub.consB rfl (by (first | rfl | exact decide_eq_decide.2 (by omega) | exact (decide_eq_true (by omega)).symm | exact (decide_eq_false (by omega)).symm | exact decide_eq_true (by omega) | exact decide_eq_false (by omega))) ?_))) (by repeat (first | exact SubH.refl | exact SubH.nil | ((with_reducible apply SubH.cons); (focus ((repeat (first | (with_reducible exact Pick.here) | (with_reducible apply Pick.there))); done))) | ((with_reducible apply SubH.consR); (focus ((repeat (first | (with_reducible exact Pick.here) | (with_reducible apply Pick.there))); done)); (first | rfl | simp; done)) | ((with_reducible apply SubH.consO); (focus ((repeat (first | (with_reducible exact Pick.here) | (with_reducible apply Pick.there))); done)); (first | rfl | simp; done); (first | rfl | simp; done)) | exact SubH.drop SubH.refl | apply SubH.drop)) ⟨Nat.zero_le _, hol, rfl, by dsimp only; omega, by dsimp only; omega⟩ ?_
  rintro ⟨i, at_, o⟩ ⟨hi, hlo, hgo, hb1⟩
  dsimp only at hi hlo hgo hb1 ⊢
  by_cases hlt : i < r.length
  · obtain ⟨b1, o1, rfl, hr0⟩ := RdH.at hrow hnil i hlt
    have hk1 := hk _ (List.getElem_mem hlt)
    obtain ⟨ga, rfl⟩ := hAl (by omega)
    obtain ⟨go, rfl⟩ := hAo (by omega)
    have hr1 : Rw B w0 (row qp 66 (s.cells ++ [.int .i64 c, .slice (some ⟨ga, 0, none⟩) l.length cl, .slice (some ⟨go, 0, none⟩) n co]) :: own (some ⟨ga, 0, none⟩) l.length cl 95 50 (l.flatMap It.cells) :: own (some ⟨go, 0, none⟩) n co 46 5 (o.flatMap Fg.cells) :: row q 2 [.int .i64 acc] :: T) b1 (o1 + i * 1) (kC r[i]) := Rw.sub hr0 .nil
    have hr2 : Rw B w0 (own (some ⟨ga, 0, none⟩) l.length cl 95 50 (l.flatMap It.cells) :: own (some ⟨go, 0, none⟩) n co 46 5 (o.flatMap Fg.cells) :: row q 2 [.int .i64 acc] :: T) ga (0 + r[i] * 50) l[r[i]].cells := own_at (by decide) It.len r[i] hk1
    have hst := hst0 i at_ o hlt hk1
    have hB1 := hB _ (List.getElem_mem hk1)
    rw [hgo] at hst
    unfold kC at hr1
    generalize l[r[i]] = x at *
    generalize r[i] = k at *
    have hx1 := hB1.left; have hx2 := hB1.wide; have hx3 := hB1.right; have hx4 := hB1.above; have hx5 := hB1.below
    have hhi := hgt_in (s := s) hB1 (tall := tall) (by omega)
    have hmi1 := hmi i r.length (by omega) (by omega) (by omega)
    unfold In1 at hx1 hx2 hx3 hx4 hx5
    have hcal : ∀ w1, Mem B w0 _ w1 → _ := fun w1 h1 => hcall i (by omega) [] w1 h1
    have hhc : ∀ w1, Mem B w0 [row qp 66 (s.cells ++ [.int .i64 c, .slice (some ⟨ga, 0, none⟩) l.length cl, .slice (some ⟨go, 0, none⟩) n co])] w1 → _ := fun w1 h1 => height_any s x tall qp _ w1 hB1 (by omega) ((row qp _ _).lt rfl (h1.ok _ (List.mem_cons_self ..)).1) (rw_here w1 h1)
    clear hB1 hB hgo hrow hr0 hst0 hmi hcall
    generalize hmv : movM s acc i r.length = mv at *
    generalize hhg : hgtM s x tall = hg at *
    refine go_ _ ?_
    (first | ((with_reducible apply so_new); rfl; (first | (with_reducible rfl) | assumption | exact decide_eq_true (by omega) | (simp only [Bool.not_eq_true', Bool.not_eq_false', decide_eq_false_iff_not, decide_eq_true_eq] <;> first | assumption | omega) | decide); exact tZ rfl; (first | exact Nat.le_of_ble_eq_true rfl | decide); (intro; rfl); (first | (with_reducible rfl) | assumption | exact decide_eq_true (by omega) | (simp only [Bool.not_eq_true', Bool.not_eq_false', decide_eq_false_iff_not, decide_eq_true_eq] <;> first | assumption | omega) | decide); (intro; rfl); rfl; exact tS rfl; rfl; rfl) | ((with_reducible apply so_alloc); rfl; (first | (with_reducible rfl) | assumption | exact decide_eq_true (by omega) | (simp only [Bool.not_eq_true', Bool.not_eq_false', decide_eq_false_iff_not, decide_eq_true_eq] <;> first | assumption | omega) | decide); exact tZ rfl; (focus ((repeat (first | (with_reducible exact CopyL.agg) | exact CopyL.nil | (apply CopyL.consI; rfl) | (apply CopyL.consB; rfl) | (apply CopyL.consS; rfl) | (apply CopyL.consP; rfl) | (apply CopyL.consF; rfl) | apply CopyL.cons)); done)); (first | exact Nat.le_of_ble_eq_true rfl | decide)) | ((with_reducible apply so_box); rfl; (first | (with_reducible rfl) | assumption | exact decide_eq_true (by omega) | (simp only [Bool.not_eq_true', Bool.not_eq_false', decide_eq_false_iff_not, decide_eq_true_eq] <;> first | assumption | omega) | decide); rfl; (focus ((repeat (first | (with_reducible exact CopyL.agg) | exact CopyL.nil | (apply CopyL.consI; rfl) | (apply CopyL.consB; rfl) | (apply CopyL.consS; rfl) | (apply CopyL.consP; rfl) | (apply CopyL.consF; rfl) | apply CopyL.cons)); done)); (first | exact Nat.le_of_ble_eq_true rfl | decide)))
    intro q1
    refine go_ _ ?_
    refine s_parts (by kernel_rfl) ?_
    refine sg_free 22 (by kernel_rfl) (go_ _ ?_)
    refine sd_callF rfl (fun w1 h1 => hcal w1 (h1.sub (by repeat (first | exact SubH.refl | exact SubH.nil | ((with_reducible apply SubH.cons); (focus ((repeat (first | (with_reducible exact Pick.here) | (with_reducible apply Pick.there))); done))) | ((with_reducible apply SubH.consR); (focus ((repeat (first | (with_reducible exact Pick.here) | (with_reducible apply Pick.there))); done)); (first | rfl | simp; done)) | ((with_reducible apply SubH.consO); (focus ((repeat (first | (with_reducible exact Pick.here) | (with_reducible apply Pick.there))); done)); (first | rfl | simp; done); (first | rfl | simp; done)) | exact SubH.drop SubH.refl | apply SubH.drop)))) rfl rfl rfl hfc (Nat.le_of_ble_eq_true rfl) ?_
    refine go_ _ ?_
    refine sd_callQ (fun w1 h1 => hhc w1 (h1.sub (by repeat (first | exact SubH.refl | exact SubH.nil | ((with_reducible apply SubH.cons); (focus ((repeat (first | (with_reducible exact Pick.here) | (with_reducible apply Pick.there))); done))) | ((with_reducible apply SubH.consR); (focus ((repeat (first | (with_reducible exact Pick.here) | (with_reducible apply Pick.there))); done)); (first | rfl | simp; done)) | ((with_reducible apply SubH.consO); (focus ((repeat (first | (with_reducible exact Pick.here) | (with_reducible apply Pick.there))); done)); (first | rfl | simp; done); (first | rfl | simp; done)) | exact SubH.drop SubH.refl | apply SubH.drop)))) rfl rfl rfl (tF rfl) (Nat.le_of_ble_eq_true rfl) ?_
    refine go_ _ ?_
    refine sd_allocL (cs := [.int .i64 0, .int .i64 0, .int .i64 0, .int .i64 0, .slice none 0 0]) rfl rfl (by (first | (with_reducible rfl) | assumption | exact decide_eq_true (by omega) | (simp only [Bool.not_eq_true', Bool.not_eq_false', decide_eq_false_iff_not, decide_eq_true_eq] <;> first | assumption | omega) | decide)) rfl (tZ rfl) (Nat.le_of_ble_eq_true rfl) ?_
    refine go_ _ ?_
    intro q2
    refine sg_one (by kernel_rfl) ?_
    refine so_storeB rfl rfl rfl rfl (tS rfl) rfl rfl (by (focus ((repeat (first | (with_reducible exact Upd.here) | (with_reducible apply Upd.there))); done))) (by rfl) ?_
    by_cases h1 : s.items = 1
    · have hfr : fragM s x top tall at_ mv = ⟨at_ + x.left + mv, top + x.above + (tall - hg - x.above - x.below), x.wide, hg⟩ := by simp [fragM, overM, hhg, h1]
      refine go_ _ ?_
      refine s_parts (by kernel_rfl) ?_
      refine sg_free 7 (by kernel_rfl) (go_ _ ?_)
      refine sg_one (by kernel_rfl) ?_
      refine so_storeN rfl (by (first | (with_reducible rfl) | assumption | exact decide_eq_true (by omega) | (simp only [Bool.not_eq_true', Bool.not_eq_false', decide_eq_false_iff_not, decide_eq_true_eq] <;> first | assumption | omega) | decide)) rfl rfl rfl (tS rfl) (xs' := (o.set k (fragM s x top tall at_ mv)).flatMap Fg.cells) (by rw [hfr, Nat.zero_add]; exact flat_set (c := Fg.cells) Fg.len o k (by omega) ⟨_, _, _, _⟩) (by (focus ((repeat (first | (with_reducible exact Upd.here) | (with_reducible apply Upd.there))); done))) (by rw [flat_len Fg.len]; show 0 + k * 5 + 5 ≤ o.length * 5; omega) ?_
      refine go_ _ ?_
      exact ⟨(i + 1, at_ + (x.left + x.wide + x.right), o.set k (fragM s x top tall at_ mv)), by omega, (by repeat (first | exact Sub.nil | refine Sub.cons rfl ?_ | (refine Sub.consB rfl (by (first | rfl | exact decide_eq_decide.2 (by omega) | exact (decide_eq_true (by omega)).symm | exact (decide_eq_false (by omega)).symm | exact decide_eq_true (by omega) | exact decide_eq_false (by omega))) ?_))), (by repeat (first | exact SubH.refl | exact SubH.nil | ((with_reducible apply SubH.cons); (focus ((repeat (first | (with_reducible exact Pick.here) | (with_reducible apply Pick.there))); done))) | ((with_reducible apply SubH.consR); (focus ((repeat (first | (with_reducible exact Pick.here) | (with_reducible apply Pick.there))); done)); (first | rfl | simp; done)) | ((with_reducible apply SubH.consO); (focus ((repeat (first | (with_reducible exact Pick.here) | (with_reducible apply Pick.there))); done)); (first | rfl | simp; done); (first | rfl | simp; done)) | exact SubH.drop SubH.refl | apply SubH.drop)), by dsimp only; omega, by dsimp only; rw [List.length_set]; exact hlo, hst.symm, by dsimp only; omega, by dsimp only; omega⟩
    by_cases h2 : s.items = 2
    · have hfr : fragM s x top tall at_ mv = ⟨at_ + x.left + mv, top + x.above + (tall - hg - x.above - x.below) / 2, x.wide, hg⟩ := by simp [fragM, overM, hhg, h2]
      refine go_ _ ?_
      refine s_parts (by kernel_rfl) ?_
      refine sg_free 6 (by kernel_rfl) (go_ _ ?_)
      refine sd_callQ (fun w1 _ => crhalf_any (tall - hg - x.above - x.below) w1) rfl rfl rfl (tF rfl) (Nat.le_of_ble_eq_true rfl) ?_
      refine go_ _ ?_
      refine sg_one (by kernel_rfl) ?_
      refine go_ _ ?_
      refine s_parts (by kernel_rfl) ?_
      refine sg_free 7 (by kernel_rfl) (go_ _ ?_)
      refine sg_one (by kernel_rfl) ?_
      refine so_storeN rfl (by (first | (with_reducible rfl) | assumption | exact decide_eq_true (by omega) | (simp only [Bool.not_eq_true', Bool.not_eq_false', decide_eq_false_iff_not, decide_eq_true_eq] <;> first | assumption | omega) | decide)) rfl rfl rfl (tS rfl) (xs' := (o.set k (fragM s x top tall at_ mv)).flatMap Fg.cells) (by rw [hfr, Nat.zero_add]; exact flat_set (c := Fg.cells) Fg.len o k (by omega) ⟨_, _, _, _⟩) (by (focus ((repeat (first | (with_reducible exact Upd.here) | (with_reducible apply Upd.there))); done))) (by rw [flat_len Fg.len]; show 0 + k * 5 + 5 ≤ o.length * 5; omega) ?_
      refine go_ _ ?_
      exact ⟨(i + 1, at_ + (x.left + x.wide + x.right), o.set k (fragM s x top tall at_ mv)), by omega, (by repeat (first | exact Sub.nil | refine Sub.cons rfl ?_ | (refine Sub.consB rfl (by (first | rfl | exact decide_eq_decide.2 (by omega) | exact (decide_eq_true (by omega)).symm | exact (decide_eq_false (by omega)).symm | exact decide_eq_true (by omega) | exact decide_eq_false (by omega))) ?_))), (by repeat (first | exact SubH.refl | exact SubH.nil | ((with_reducible apply SubH.cons); (focus ((repeat (first | (with_reducible exact Pick.here) | (with_reducible apply Pick.there))); done))) | ((with_reducible apply SubH.consR); (focus ((repeat (first | (with_reducible exact Pick.here) | (with_reducible apply Pick.there))); done)); (first | rfl | simp; done)) | ((with_reducible apply SubH.consO); (focus ((repeat (first | (with_reducible exact Pick.here) | (with_reducible apply Pick.there))); done)); (first | rfl | simp; done); (first | rfl | simp; done)) | exact SubH.drop SubH.refl | apply SubH.drop)), by dsimp only; omega, by dsimp only; rw [List.length_set]; exact hlo, hst.symm, by dsimp only; omega, by dsimp only; omega⟩
    · have hfr : fragM s x top tall at_ mv = ⟨at_ + x.left + mv, top + x.above, x.wide, hg⟩ := by simp [fragM, overM, hhg, h1, h2]
      refine go_ _ ?_
      refine s_parts (by kernel_rfl) ?_
      refine sg_free 7 (by kernel_rfl) (go_ _ ?_)
      refine sg_one (by kernel_rfl) ?_
      refine so_storeN rfl (by (first | (with_reducible rfl) | assumption | exact decide_eq_true (by omega) | (simp only [Bool.not_eq_true', Bool.not_eq_false', decide_eq_false_iff_not, decide_eq_true_eq] <;> first | assumption | omega) | decide)) rfl rfl rfl (tS rfl) (xs' := (o.set k (fragM s x top tall at_ mv)).flatMap Fg.cells) (by rw [hfr, Nat.zero_add]; exact flat_set (c := Fg.cells) Fg.len o k (by omega) ⟨_, _, _, _⟩) (by (focus ((repeat (first | (with_reducible exact Upd.here) | (with_reducible apply Upd.there))); done))) (by rw [flat_len Fg.len]; show 0 + k * 5 + 5 ≤ o.length * 5; omega) ?_
      refine go_ _ ?_
      exact ⟨(i + 1, at_ + (x.left + x.wide + x.right), o.set k (fragM s x top tall at_ mv)), by omega, (by repeat (first | exact Sub.nil | refine Sub.cons rfl ?_ | (refine Sub.consB rfl (by (first | rfl | exact decide_eq_decide.2 (by omega) | exact (decide_eq_true (by omega)).symm | exact (decide_eq_false (by omega)).symm | exact decide_eq_true (by omega) | exact decide_eq_false (by omega))) ?_))), (by repeat (first | exact SubH.refl | exact SubH.nil | ((with_reducible apply SubH.cons); (focus ((repeat (first | (with_reducible exact Pick.here) | (with_reducible apply Pick.there))); done))) | ((with_reducible apply SubH.consR); (focus ((repeat (first | (with_reducible exact Pick.here) | (with_reducible apply Pick.there))); done)); (first | rfl | simp; done)) | ((with_reducible apply SubH.consO); (focus ((repeat (first | (with_reducible exact Pick.here) | (with_reducible apply Pick.there))); done)); (first | rfl | simp; done); (first | rfl | simp; done)) | exact SubH.drop SubH.refl | apply SubH.drop)), by dsimp only; omega, by dsimp only; rw [List.length_set]; exact hlo, hst.symm, by dsimp only; omega, by dsimp only; omega⟩
  · obtain rfl : i = r.length := by omega
    rw [List.drop_length, rowGo] at hgo
    subst hgo
    refine go_ _ ?_
    exact sret0n rfl ⟨rfl, (by repeat (first | exact SubH.refl | exact SubH.nil | ((with_reducible apply SubH.cons); (focus ((repeat (first | (with_reducible exact Pick.here) | (with_reducible apply Pick.there))); done))) | ((with_reducible apply SubH.consR); (focus ((repeat (first | (with_reducible exact Pick.here) | (with_reducible apply Pick.there))); done)); (first | rfl | simp; done)) | ((with_reducible apply SubH.consO); (focus ((repeat (first | (with_reducible exact Pick.here) | (with_reducible apply Pick.there))); done)); (first | rfl | simp; done); (first | rfl | simp; done)) | exact SubH.drop SubH.refl | apply SubH.drop))⟩
end Go.Proofs.Ytdoihebekbfnbaa
