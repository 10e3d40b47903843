/- The walks of package cross: the items. -/
import Derived.Test.YtdoihebekbfnbaaCroX
namespace Go.Proofs.Ytdoihebekbfnbaa
open Go.RowKit

def itC (s : Sty) (a b c d e f g : Int) : List Value := s.cells ++ [.int .i64 a, .int .i64 b, .int .i64 c, .int .i64 d, .int .i64 e, .int .i64 f, .int .i64 g]
@[simp] theorem itC_len (s : Sty) (a b c d e f g : Int) : (itC s a b c d e f g).length = 50 := rfl
def hC (n : Int) : List Value := [.int .i64 n]
theorem items_take (c : Int) (kids : List Sty) (us : List Us) (hs : List Int) (i : Nat) (h : i < kids.length) : (itemsM c kids us hs).take (i + 1) = (itemsM c kids us hs).take i ++ [itM c kids[i] (us[i]?.getD ⟨0, 0, 0⟩) (hs[i]?.getD 0)] := by
  have hl : i < (itemsM c kids us hs).length := by unfold itemsM; simpa using h
  rw [List.take_add_one, List.getElem?_eq_getElem hl]
  simp [itemsM]

set_option maxRecDepth 100000 in
set_option maxHeartbeats 8000000 in
theorem items_any (s : Sty) (c : Int) (kids : List Sty) (us : List Us) (hs : List Int) (qp : Nat) (Ov : Value) (Ak Au Ah : Option Addr) (ck cu ch B : Nat) (w0 w : World) (T : Hp)
    (hw : Mem B w0 (row qp 66 (s.cells ++ [.int .i64 c, .slice none 0 0, Ov]) :: T) w)
    (hk : RdH B w0 [] Sty.cells 43 Ak kids) (hu : RdH B w0 [] Us.cells 3 Au us) (hh : RdH B w0 [] hC 1 Ah hs) (hlk : kids.length ≤ 1000) (hB : ∀ k ∈ kids, KidB k c) (hU : ∀ u ∈ us, InB u.w) :
    Calls Try.prog 20 #[.pointer (some ⟨qp, 0, none⟩), .slice Ak kids.length ck, .slice Au us.length cu, .slice Ah hs.length ch] w fun e w' => ∃ i : Option Addr × Nat, True ∧ e = .returned (.tuple #[]) ∧
      Mem B w0 (row qp 66 (s.cells ++ [.int .i64 c, .slice i.1 (itemsM c kids us hs).length i.2, Ov]) :: own i.1 (itemsM c kids us hs).length i.2 95 50 ((itemsM c kids us hs).flatMap It.cells) :: T) w' := by
  refine (s_calls [(0, .pointer (some ⟨qp, 0, none⟩)), (1, .slice Ak kids.length ck), (2, .slice Au us.length cu), (3, .slice Ah hs.length ch)] (Q := fun v H' => ∃ i : Option Addr × Nat, v = .tuple #[] ∧ SubH H' (row qp 66 (s.cells ++ [.int .i64 c, .slice i.1 (itemsM c kids us hs).length i.2, Ov]) :: own i.1 (itemsM c kids us hs).length i.2 95 50 ((itemsM c kids us hs).flatMap It.cells) :: T))
    Try.func20 rfl Try.ntmps20 rfl (by simp) hw ?_).mono fun e w' ⟨v, H', h1, h2, i, h3, h4⟩ => ⟨i, trivial, h3 ▸ h1, h2.sub h4⟩
  have hnil : Mem B w0 [] w := hw.sub .nil
  clear hw
  refine s_ownNil 95 50 ?_
  have hlen : (itemsM c kids us hs).length = kids.length := by unfold itemsM; simp
  refine go_ _ ?_
  refine s_loop (ι := Nat × Option Addr × Nat) (fun i => [(0, .pointer (some ⟨qp, 0, none⟩)), (2, .slice Au us.length cu), (3, .slice Ah hs.length ch), (13, .slice Ak kids.length ck), (14, .int .i64 (kids.length : Nat)), (15, .int .i64 (i.1 : Nat))])
    (fun i => row qp 66 (s.cells ++ [.int .i64 c, .slice i.2.1 ((itemsM c kids us hs).take i.1).length i.2.2, Ov]) :: own i.2.1 ((itemsM c kids us hs).take i.1).length i.2.2 95 50 (((itemsM c kids us hs).take i.1).flatMap It.cells) :: T)
    (fun i => i.1 ≤ kids.length) (fun i => kids.length - i.1) (0, none, 0) (by repeat (first | exact Sub.nil | refine Sub.cons rfl ?_ | (refine Sub.consB rfl (by (first | rfl | exact decide_eq_decide.2 (by omega) | exact (decide_eq_true (by omega)).symm | exact (decide_eq_false (by omega)).symm | exact decide_eq_true (by omega) | exact decide_eq_false (by omega))) ?_))) (by repeat (first | exact SubH.refl | exact SubH.nil | ((with_reducible apply SubH.cons); (focus ((repeat (first | (with_reducible exact Pick.here) | (with_reducible apply Pick.there))); done))) | ((with_reducible apply SubH.consR); (focus ((repeat (first | (with_reducible exact Pick.here) | (with_reducible apply Pick.there))); done)); (first | rfl | simp; done)) | ((with_reducible apply SubH.consO); (focus ((repeat (first | (with_reducible exact Pick.here) | (with_reducible apply Pick.there))); done)); (first | rfl | simp; done); (first | rfl | simp; done)) | exact SubH.drop SubH.refl | apply SubH.drop)) (Nat.zero_le _) ?_
  rintro ⟨i, A, cap⟩ hi
  dsimp only at hi ⊢
  by_cases hlt : i < kids.length
  · have hT := items_take c kids us hs i hlt
    have hml : ((itemsM c kids us hs).take i).length = i := by simp; omega
    obtain ⟨b1, o1, rfl, hr0⟩ := RdH.at hk hnil i hlt
    have hK := hB _ (List.getElem_mem hlt)
    generalize kids[i] = kx at *
    generalize (itemsM c kids us hs).take i = done at *
    have hr1 : Rw B w0 (row qp 66 (s.cells ++ [.int .i64 c, .slice A done.length cap, Ov]) :: own A done.length cap 95 50 (done.flatMap It.cells) :: T) b1 (o1 + i * 43) kx.cells := Rw.sub hr0 .nil
    refine go_ _ ?_
    (first | ((with_reducible apply so_new); rfl; (first | (with_reducible rfl) | assumption | exact decide_eq_true (by omega) | (simp only [Bool.not_eq_true', Bool.not_eq_false', decide_eq_false_iff_not, decide_eq_true_eq] <;> first | assumption | omega) | decide); exact tZ rfl; (first | exact Nat.le_of_ble_eq_true rfl | decide); (intro; rfl); (first | (with_reducible rfl) | assumption | exact decide_eq_true (by omega) | (simp only [Bool.not_eq_true', Bool.not_eq_false', decide_eq_false_iff_not, decide_eq_true_eq] <;> first | assumption | omega) | decide); (intro; rfl); rfl; exact tS rfl; rfl; rfl) | ((with_reducible apply so_alloc); rfl; (first | (with_reducible rfl) | assumption | exact decide_eq_true (by omega) | (simp only [Bool.not_eq_true', Bool.not_eq_false', decide_eq_false_iff_not, decide_eq_true_eq] <;> first | assumption | omega) | decide); exact tZ rfl; (focus ((repeat (first | (with_reducible exact CopyL.agg) | exact CopyL.nil | (apply CopyL.consI; rfl) | (apply CopyL.consB; rfl) | (apply CopyL.consS; rfl) | (apply CopyL.consP; rfl) | (apply CopyL.consF; rfl) | apply CopyL.cons)); done)); (first | exact Nat.le_of_ble_eq_true rfl | decide)) | ((with_reducible apply so_box); rfl; (first | (with_reducible rfl) | assumption | exact decide_eq_true (by omega) | (simp only [Bool.not_eq_true', Bool.not_eq_false', decide_eq_false_iff_not, decide_eq_true_eq] <;> first | assumption | omega) | decide); rfl; (focus ((repeat (first | (with_reducible exact CopyL.agg) | exact CopyL.nil | (apply CopyL.consI; rfl) | (apply CopyL.consB; rfl) | (apply CopyL.consS; rfl) | (apply CopyL.consP; rfl) | (apply CopyL.consF; rfl) | apply CopyL.cons)); done)); (first | exact Nat.le_of_ble_eq_true rfl | decide)))
    intro q1
    refine go_ _ ?_
    refine so_storeB rfl rfl rfl rfl (tS rfl) rfl rfl (by (focus ((repeat (first | (with_reducible exact Upd.here) | (with_reducible apply Upd.there))); done))) (by rfl) ?_
    have hbuilt : (Try.prog.built 95 [(0, .agg kx.cells.toArray)]).map Array.toList = some (itC kx 0 0 0 0 0 0 0) := by kernel_rfl
    refine go_ _ ?_
    (first | ((with_reducible apply so_new); rfl; (first | (with_reducible rfl) | assumption | exact decide_eq_true (by omega) | (simp only [Bool.not_eq_true', Bool.not_eq_false', decide_eq_false_iff_not, decide_eq_true_eq] <;> first | assumption | omega) | decide); exact tZ rfl; (first | exact Nat.le_of_ble_eq_true rfl | decide); (intro; rfl); (first | (with_reducible rfl) | assumption | exact decide_eq_true (by omega) | (simp only [Bool.not_eq_true', Bool.not_eq_false', decide_eq_false_iff_not, decide_eq_true_eq] <;> first | assumption | omega) | decide); (intro; rfl); rfl; exact tS rfl; rfl; rfl) | ((with_reducible apply so_alloc); rfl; (first | (with_reducible rfl) | assumption | exact decide_eq_true (by omega) | (simp only [Bool.not_eq_true', Bool.not_eq_false', decide_eq_false_iff_not, decide_eq_true_eq] <;> first | assumption | omega) | decide); exact tZ rfl; (focus ((repeat (first | (with_reducible exact CopyL.agg) | exact CopyL.nil | (apply CopyL.consI; rfl) | (apply CopyL.consB; rfl) | (apply CopyL.consS; rfl) | (apply CopyL.consP; rfl) | (apply CopyL.consF; rfl) | apply CopyL.cons)); done)); (first | exact Nat.le_of_ble_eq_true rfl | decide)) | ((with_reducible apply so_box); rfl; (first | (with_reducible rfl) | assumption | exact decide_eq_true (by omega) | (simp only [Bool.not_eq_true', Bool.not_eq_false', decide_eq_false_iff_not, decide_eq_true_eq] <;> first | assumption | omega) | decide); rfl; (focus ((repeat (first | (with_reducible exact CopyL.agg) | exact CopyL.nil | (apply CopyL.consI; rfl) | (apply CopyL.consB; rfl) | (apply CopyL.consS; rfl) | (apply CopyL.consP; rfl) | (apply CopyL.consF; rfl) | apply CopyL.cons)); done)); (first | exact Nat.le_of_ble_eq_true rfl | decide)))
    intro q2
    refine so_sub (G := [(0, .pointer (some ⟨qp, 0, none⟩)), (2, .slice Au us.length cu), (3, .slice Ah hs.length ch), (8, .int .i64 (i : Nat)), (9, .pointer (some ⟨q1, 0, none⟩)), (10, .pointer (some ⟨q2, 0, none⟩)), (13, .slice (some ⟨b1, o1, none⟩) kids.length ck), (14, .int .i64 (kids.length : Nat)), (15, .int .i64 (i : Nat))]) (L := row q2 95 (itC kx 0 0 0 0 0 0 0) :: row q1 28 kx.cells :: row qp 66 (s.cells ++ [.int .i64 c, .slice A done.length cap, Ov]) :: own A done.length cap 95 50 (done.flatMap It.cells) :: T) (by repeat (first | exact Sub.nil | refine Sub.cons rfl ?_ | (refine Sub.consB rfl (by (first | rfl | exact decide_eq_decide.2 (by omega) | exact (decide_eq_true (by omega)).symm | exact (decide_eq_false (by omega)).symm | exact decide_eq_true (by omega) | exact decide_eq_false (by omega))) ?_))) .refl ?_
    clear hbuilt
    refine go_ _ ?_
    refine so_callQ (fun w1 _ => frame_any kx c w1 hK.st) rfl rfl rfl (tF rfl) (Nat.le_of_ble_eq_true rfl) ?_
    refine go_ _ ?_
    have hfi := hK.st.frame_in
    have hm0 := hK.m0.res; have hm2 := hK.m2.res
    have hdw : kx.b0 + kx.p0 + (kx.b2 + kx.p2) = kx.down := rfl
    rw [hdw]
    refine s_meet (ι := Unit) (fun _ => [(0, .pointer (some ⟨qp, 0, none⟩)), (2, .slice Au us.length cu), (3, .slice Ah hs.length ch), (8, .int .i64 (i : Nat)), (9, .pointer (some ⟨q1, 0, none⟩)), (10, .pointer (some ⟨q2, 0, none⟩)), (13, .slice (some ⟨b1, o1, none⟩) kids.length ck), (14, .int .i64 (kids.length : Nat)), (15, .int .i64 (i : Nat))]) (fun _ => row q2 95 (itC kx (kx.frame + (us[i]?.getD ⟨0, 0, 0⟩).w) 0 0 0 (us[i]?.getD ⟨0, 0, 0⟩).left (us[i]?.getD ⟨0, 0, 0⟩).right kx.down) :: row q1 28 kx.cells :: row qp 66 (s.cells ++ [.int .i64 c, .slice A done.length cap, Ov]) :: own A done.length cap 95 50 (done.flatMap It.cells) :: T) (fun _ => True) ?_ ?_
    · refine s_sub (L := row q2 95 (itC kx kx.frame 0 0 0 0 0 kx.down) :: row q1 28 kx.cells :: row qp 66 (s.cells ++ [.int .i64 c, .slice A done.length cap, Ov]) :: own A done.length cap 95 50 (done.flatMap It.cells) :: T) .refl .refl ?_
      by_cases hiu : i < us.length
      · obtain ⟨b2, o2, rfl, hu0⟩ := RdH.at hu hnil i hiu
        have hui := hU _ (List.getElem_mem hiu)
        have hud : us[i]?.getD ⟨0, 0, 0⟩ = us[i] := by rw [List.getElem?_eq_getElem hiu]; rfl
        rw [hud]
        generalize us[i] = u at *
        have hu1 : Rw B w0 (row q1 28 kx.cells :: row qp 66 (s.cells ++ [.int .i64 c, .slice A done.length cap, Ov]) :: own A done.length cap 95 50 (done.flatMap It.cells) :: T) b2 (o2 + i * 3) u.cells := Rw.sub hu0 .nil
        obtain ⟨uw, ul, ur⟩ := u
        unfold Us.cells at hu1
        unfold InB at hui
        dsimp only at hu1 hui ⊢
        refine go_ _ ?_
        refine s_parts (by kernel_rfl) ?_
        refine sg_free 9 (by kernel_rfl) (go_ _ ?_)
        refine sg_one (by kernel_rfl) ?_
        refine go_ _ ?_
        refine s_sub (L := row q2 95 (itC kx (kx.frame + uw) 0 0 0 0 0 kx.down) :: row q1 28 kx.cells :: row qp 66 (s.cells ++ [.int .i64 c, .slice A done.length cap, Ov]) :: own A done.length cap 95 50 (done.flatMap It.cells) :: T) .refl .refl ?_
        refine s_parts (by kernel_rfl) ?_
        refine sg_mix 12 [11] (fun b => row q2 95 (itC kx (kx.frame + uw) 0 0 0 (bif b 11 then ul else 0) 0 kx.down) :: row q1 28 kx.cells :: row qp 66 (s.cells ++ [.int .i64 c, .slice A done.length cap, Ov]) :: own A done.length cap 95 50 (done.flatMap It.cells) :: T) (H' := row q2 95 (itC kx (kx.frame + uw) 0 0 0 ul 0 kx.down) :: row q1 28 kx.cells :: row qp 66 (s.cells ++ [.int .i64 c, .slice A done.length cap, Ov]) :: own A done.length cap 95 50 (done.flatMap It.cells) :: T) (by kernel_rfl) (by decide) rfl rfl (go_ _ ?_)
        refine sg_free 1 (by kernel_rfl) (go_ _ ?_)
        refine sg_one (by kernel_rfl) ?_
        refine go_ _ ?_
        exact ⟨(), (by repeat (first | exact Sub.nil | refine Sub.cons rfl ?_ | (refine Sub.consB rfl (by (first | rfl | exact decide_eq_decide.2 (by omega) | exact (decide_eq_true (by omega)).symm | exact (decide_eq_false (by omega)).symm | exact decide_eq_true (by omega) | exact decide_eq_false (by omega))) ?_))), .refl, trivial⟩
      · have hud : us[i]?.getD ⟨0, 0, 0⟩ = (⟨0, 0, 0⟩ : Us) := by rw [List.getElem?_eq_none (by omega)]; rfl
        rw [hud]
        refine go_ _ ?_
        exact ⟨(), (by repeat (first | exact Sub.nil | refine Sub.cons rfl ?_ | (refine Sub.consB rfl (by (first | rfl | exact decide_eq_decide.2 (by omega) | exact (decide_eq_true (by omega)).symm | exact (decide_eq_false (by omega)).symm | exact decide_eq_true (by omega) | exact decide_eq_false (by omega))) ?_))), by simp only [Int.add_zero]; exact .refl, trivial⟩
    rintro _ _
    have hN : itM c kx (us[i]?.getD ⟨0, 0, 0⟩) (hs[i]?.getD 0) = ⟨kx, kx.frame + (us[i]?.getD ⟨0, 0, 0⟩).w, hs[i]?.getD 0, (resM kx.m0 c).1, (resM kx.m2 c).1, (us[i]?.getD ⟨0, 0, 0⟩).left, (us[i]?.getD ⟨0, 0, 0⟩).right, kx.down⟩ := rfl
    rw [hN] at hT
    clear hN
    generalize kx.frame + (us[i]?.getD ⟨0, 0, 0⟩).w = wide at *
    generalize (us[i]?.getD ⟨0, 0, 0⟩).left = left at *
    generalize (us[i]?.getD ⟨0, 0, 0⟩).right = right at *
    refine go_ _ ?_
    refine s_meet (ι := Unit) (fun _ => [(0, .pointer (some ⟨qp, 0, none⟩)), (2, .slice Au us.length cu), (3, .slice Ah hs.length ch), (9, .pointer (some ⟨q1, 0, none⟩)), (10, .pointer (some ⟨q2, 0, none⟩)), (13, .slice (some ⟨b1, o1, none⟩) kids.length ck), (14, .int .i64 (kids.length : Nat)), (15, .int .i64 (i : Nat))]) (fun _ => row q2 95 (itC kx wide (hs[i]?.getD 0) 0 0 left right kx.down) :: row q1 28 kx.cells :: row qp 66 (s.cells ++ [.int .i64 c, .slice A done.length cap, Ov]) :: own A done.length cap 95 50 (done.flatMap It.cells) :: T) (fun _ => True) ?_ ?_
    · by_cases hih : i < hs.length
      · obtain ⟨b2, o2, rfl, hu0⟩ := RdH.at hh hnil i hih
        have hud : hs[i]?.getD 0 = hs[i] := by rw [List.getElem?_eq_getElem hih]; rfl
        rw [hud]
        generalize hs[i] = hx at *
        have hu1 : Rw B w0 (row q1 28 kx.cells :: row qp 66 (s.cells ++ [.int .i64 c, .slice A done.length cap, Ov]) :: own A done.length cap 95 50 (done.flatMap It.cells) :: T) b2 (o2 + i * 1) (hC hx) := Rw.sub hu0 .nil
        unfold hC at hu1
        refine go_ _ ?_
        exact ⟨(), (by repeat (first | exact Sub.nil | refine Sub.cons rfl ?_ | (refine Sub.consB rfl (by (first | rfl | exact decide_eq_decide.2 (by omega) | exact (decide_eq_true (by omega)).symm | exact (decide_eq_false (by omega)).symm | exact decide_eq_true (by omega) | exact decide_eq_false (by omega))) ?_))), .refl, trivial⟩
      · have hud : hs[i]?.getD 0 = 0 := by rw [List.getElem?_eq_none (by omega)]; rfl
        rw [hud]
        refine go_ _ ?_
        exact ⟨(), (by repeat (first | exact Sub.nil | refine Sub.cons rfl ?_ | (refine Sub.consB rfl (by (first | rfl | exact decide_eq_decide.2 (by omega) | exact (decide_eq_true (by omega)).symm | exact (decide_eq_false (by omega)).symm | exact decide_eq_true (by omega) | exact decide_eq_false (by omega))) ?_))), .refl, trivial⟩
    rintro _ _
    generalize hs[i]?.getD 0 = high at *
    have hc1 : ∀ w1, Calls Try.prog 34 #[.agg kx.m0.cells.toArray, .int .i64 c] w1 _ := fun w1 => resolve_any kx.m0 c w1 hK.m0
    have hc2 : ∀ w1, Calls Try.prog 34 #[.agg kx.m2.cells.toArray, .int .i64 c] w1 _ := fun w1 => resolve_any kx.m2 c w1 hK.m2
    generalize resM kx.m0 c = rm0 at *
    generalize resM kx.m2 c = rm2 at *
    obtain ⟨above, f0⟩ := rm0
    obtain ⟨below, f2⟩ := rm2
    dsimp only at hT hc1 hc2 hm0 hm2
    refine go_ _ ?_
    refine s_parts (by kernel_rfl) ?_
    refine sg_free 7 (by kernel_rfl) (go_ _ ?_)
    refine sg_one (by kernel_rfl) ?_
    refine so_callQ (fun w1 _ => hc1 w1) rfl rfl rfl (tF rfl) (Nat.le_of_ble_eq_true rfl) ?_
    refine go_ _ ?_
    refine sg_free 1 (by kernel_rfl) (go_ _ ?_)
    refine sg_mix 4 [3] (fun b => row q2 95 (itC kx wide high (bif b 3 then above else 0) 0 left right kx.down) :: row q1 28 kx.cells :: row qp 66 (s.cells ++ [.int .i64 c, .slice A done.length cap, Ov]) :: own A done.length cap 95 50 (done.flatMap It.cells) :: T) (H' := row q2 95 (itC kx wide high above 0 left right kx.down) :: row q1 28 kx.cells :: row qp 66 (s.cells ++ [.int .i64 c, .slice A done.length cap, Ov]) :: own A done.length cap 95 50 (done.flatMap It.cells) :: T) (by kernel_rfl) (by decide) rfl rfl (go_ _ ?_)
    refine s_parts (by kernel_rfl) ?_
    refine sg_free 7 (by kernel_rfl) (go_ _ ?_)
    refine sg_one (by kernel_rfl) ?_
    refine so_callQ (fun w1 _ => hc2 w1) rfl rfl rfl (tF rfl) (Nat.le_of_ble_eq_true rfl) ?_
    refine go_ _ ?_
    refine sg_free 1 (by kernel_rfl) (go_ _ ?_)
    refine sg_mix 4 [3] (fun b => row q2 95 (itC kx wide high above (bif b 3 then below else 0) left right kx.down) :: row q1 28 kx.cells :: row qp 66 (s.cells ++ [.int .i64 c, .slice A done.length cap, Ov]) :: own A done.length cap 95 50 (done.flatMap It.cells) :: T) (H' := row q2 95 (itC kx wide high above below left right kx.down) :: row q1 28 kx.cells :: row qp 66 (s.cells ++ [.int .i64 c, .slice A done.length cap, Ov]) :: own A done.length cap 95 50 (done.flatMap It.cells) :: T) (by kernel_rfl) (by decide) rfl rfl (go_ _ ?_)
    obtain rfl : done.length = i := hml
    refine s_parts (by kernel_rfl) ?_
    refine sg_evt 8 [7] [(6, sl1N, fun x => [row x.1 95 (itC kx wide high above below left right kx.down)]), (7, slA (done.length + 1), fun _ => [])]
      (fun α b => row q2 95 (itC kx wide high above below left right kx.down) :: row q1 28 kx.cells :: row qp 66 (s.cells ++ [.int .i64 c, .slice A done.length cap, Ov]) :: ((bif b 6 then [row (α 6).1 95 (itC kx wide high above below left right kx.down)] else []) ++ (bif b 7 then own (α 7).2.1 (done.length + 1) (α 7).2.2 95 50 (done.flatMap It.cells ++ itC kx wide high above below left right kx.down) else own A done.length cap 95 50 (done.flatMap It.cells)) :: T)) (by kernel_rfl) rfl (fun _ => rfl) fun α => go_ _ ?_
    refine se_slice1 (cs := itC kx wide high above below left right kx.down) rfl (fun _ _ => rfl) rfl rfl rfl (by kernel_rfl) rfl rfl (Nat.le_of_ble_eq_true rfl) (fun b => by cases h6 : b 6 <;> cases h7 : b 7 <;> simp [setb, h6, h7] <;> exact (by repeat (first | exact SubH.refl | exact SubH.nil | ((with_reducible apply SubH.cons); (focus ((repeat (first | (with_reducible exact Pick.here) | (with_reducible apply Pick.there))); done))) | ((with_reducible apply SubH.consR); (focus ((repeat (first | (with_reducible exact Pick.here) | (with_reducible apply Pick.there))); done)); (first | rfl | simp; done)) | ((with_reducible apply SubH.consO); (focus ((repeat (first | (with_reducible exact Pick.here) | (with_reducible apply Pick.there))); done)); (first | rfl | simp; done); (first | rfl | simp; done)) | exact SubH.drop SubH.refl | apply SubH.drop))) (go_ _ ?_)
    refine se_append1 (news := itC kx wide high above below left right kx.down) (xs := done.flatMap It.cells) [(6, 95)] rfl rfl rfl rfl rfl rfl (by kernel_rfl) (Nat.le_of_ble_eq_true rfl) (fun z hz => by rw [List.mem_singleton.1 hz]; exact ⟨by decide, of_decide_eq_true (by kernel_rfl), rfl, rfl⟩) (fun u h7 hu A' cap' => by have h6 := hu (6, 95) (by simp); simp [setb, h6, h7]; exact (by (focus ((repeat (first | (with_reducible exact Upd.here) | (with_reducible apply Upd.there))); done)))) (fun u h7 hu => by have h6 := hu (6, 95) (by simp); simp [h6, h7]; exact rw_there (rw_there (rw_there rw_here))) rfl rfl (by omega) (go_ _ ?_)
    refine SG.sub (G := [(0, .pointer (some ⟨qp, 0, none⟩)), (2, .slice Au us.length cu), (3, .slice Ah hs.length ch), (13, .slice (some ⟨b1, o1, none⟩) kids.length ck), (14, .int .i64 (kids.length : Nat)), (15, .int .i64 (done.length : Nat)), (89, .pointer (some ⟨qp, 0, none⟩)), (96, .slice (α 7).2.1 (done.length + 1) (α 7).2.2)]) (L := row q2 95 (itC kx wide high above below left right kx.down) :: row q1 28 kx.cells :: row qp 66 (s.cells ++ [.int .i64 c, .slice A done.length cap, Ov]) :: row (α 6).1 95 (itC kx wide high above below left right kx.down) :: own (α 7).2.1 (done.length + 1) (α 7).2.2 95 50 (done.flatMap It.cells ++ itC kx wide high above below left right kx.down) :: T) (by repeat (first | exact Sub.nil | refine Sub.cons rfl ?_ | (refine Sub.consB rfl (by (first | rfl | exact decide_eq_decide.2 (by omega) | exact (decide_eq_true (by omega)).symm | exact (decide_eq_false (by omega)).symm | exact decide_eq_true (by omega) | exact decide_eq_false (by omega))) ?_))) .refl ?_
    generalize (α 7).2.1 = A'
    generalize (α 7).2.2 = cap'
    generalize (α 6).1 = q6
    clear α
    refine sg_free 2 (by kernel_rfl) (go_ _ ?_)
    refine sg_one (by kernel_rfl) ?_
    refine so_storeE (cs' := s.cells ++ [.int .i64 c, .slice A' (done.length + 1) cap', Ov]) rfl rfl rfl rfl rfl (tS rfl) rfl (Nat.le_of_ble_eq_true rfl) (by (focus ((repeat (first | (with_reducible exact Upd.here) | (with_reducible apply Upd.there))); done))) ?_
    refine go_ _ ?_
    have e1 : (done.flatMap It.cells ++ itC kx wide high above below left right kx.down) = ((itemsM c kids us hs).take (done.length + 1)).flatMap It.cells := by rw [hT, List.flatMap_append]; rfl
    have e2 : ((itemsM c kids us hs).take (done.length + 1)).length = done.length + 1 := by rw [hT]; simp
    rw [e1]
    exact ⟨(done.length + 1, A', cap'), by dsimp only; omega, (by repeat (first | exact Sub.nil | refine Sub.cons rfl ?_ | (refine Sub.consB rfl (by (first | rfl | exact decide_eq_decide.2 (by omega) | exact (decide_eq_true (by omega)).symm | exact (decide_eq_false (by omega)).symm | exact decide_eq_true (by omega) | exact decide_eq_false (by omega))) ?_))), by rw [e2]; exact (by repeat (first | exact SubH.refl | exact SubH.nil | ((with_reducible apply SubH.cons); (focus ((repeat (first | (with_reducible exact Pick.here) | (with_reducible apply Pick.there))); done))) | ((with_reducible apply SubH.consR); (focus ((repeat (first | (with_reducible exact Pick.here) | (with_reducible apply Pick.there))); done)); (first | rfl | simp; done)) | ((with_reducible apply SubH.consO); (focus ((repeat (first | (with_reducible exact Pick.here) | (with_reducible apply Pick.there))); done)); (first | rfl | simp; done); (first | rfl | simp; done)) | exact SubH.drop SubH.refl | apply SubH.drop)), by dsimp only; omega⟩
  · obtain rfl : i = kids.length := by omega
    have ht : (itemsM c kids us hs).take kids.length = itemsM c kids us hs := List.take_of_length_le (by omega)
    rw [ht]
    refine go_ _ ?_
    exact sret0n rfl ⟨(A, cap), rfl, (by repeat (first | exact SubH.refl | exact SubH.nil | ((with_reducible apply SubH.cons); (focus ((repeat (first | (with_reducible exact Pick.here) | (with_reducible apply Pick.there))); done))) | ((with_reducible apply SubH.consR); (focus ((repeat (first | (with_reducible exact Pick.here) | (with_reducible apply Pick.there))); done)); (first | rfl | simp; done)) | ((with_reducible apply SubH.consO); (focus ((repeat (first | (with_reducible exact Pick.here) | (with_reducible apply Pick.there))); done)); (first | rfl | simp; done); (first | rfl | simp; done)) | exact SubH.drop SubH.refl | apply SubH.drop))⟩
end Go.Proofs.Ytdoihebekbfnbaa
