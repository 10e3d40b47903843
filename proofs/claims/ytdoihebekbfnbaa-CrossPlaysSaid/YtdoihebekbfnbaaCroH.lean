/- The walks of the document's heights and places (jambref20), the small ones. -/
import Derived.Test.YtdoihebekbfnbaaCroY
namespace Go.Proofs.Ytdoihebekbfnbaa
open Go.RowKit

set_option maxRecDepth 100000 in
theorem rhalf_any (x : Int) (hx : -1000000000000000000 ≤ x ∧ x ≤ 1000000000000000000) (w : World) : Calls Try.prog 26 #[.int .i64 x] w fun e w' => e = .returned (.int .i64 (x / 2)) ∧ Below w.heap.size w w' := by
  refine s_quiet [(0, .int .i64 x)] Try.func26 rfl Try.ntmps26 rfl (by simp) ?_
  by_cases h0 : 0 ≤ x
  · skip
    refine go_ _ ?_
    exact sret1 rfl rfl rfl
  obtain ⟨f1, f2⟩ := floor_td x 2 (by decide)
  have hr : x.tmod 2 = 0 ∨ x.tmod 2 < 0 := by
    have h1 := Int.tmod_eq_emod (a := x) (b := 2)
    rw [h1]
    split <;> omega
  have hw : wrap64 (x.tdiv 2) = x.tdiv 2 := by
    rcases hr with h | h
    · have := f2 (by omega); exact wrap64_within _ (by omega)
    · have := f1 h; exact wrap64_within _ (by omega)
  rcases hr with h | h
  · have e := f2 (by omega)
    rw [← e]
    clear f1 f2 e hx
    refine go_ _ ?_
    exact sret1 rfl rfl (by rw [hw])
  · have e := f1 h
    have hb : -9223372036854775808 ≤ wrap64 (x.tdiv 2) - 1 ∧ wrap64 (x.tdiv 2) - 1 ≤ 9223372036854775807 := by rw [hw]; omega
    rw [← e]
    clear f1 f2 e hx
    refine go_ _ ?_
    exact sret1 rfl rfl (by rw [hw])

set_option maxRecDepth 100000 in
set_option maxHeartbeats 2000000 in
theorem rhigh_any (s : Sty) (auto : Int) (w : World) : Calls Try.prog 13 #[.agg s.cells.toArray, .int .i64 auto] w fun e w' => e = .returned (.int .i64 (highM s auto)) ∧ Below w.heap.size w w' := by
  refine s_quiet [(0, .agg s.cells.toArray), (1, .int .i64 auto)] Try.func13 rfl Try.ntmps13 rfl (by simp) ?_
  by_cases h1 : s.h.k = 1 <;> by_cases h2 : s.maxh.k = 1 <;> by_cases h3 : s.minh.k = 1
  all_goals
    refine go_ _ ?_
    (first | ((with_reducible apply so_new); rfl; (first | (with_reducible rfl) | assumption | exact decide_eq_true (by omega) | (simp only [Bool.not_eq_true', Bool.not_eq_false', decide_eq_false_iff_not, decide_eq_true_eq] <;> first | assumption | omega) | decide); exact tZ rfl; (first | exact Nat.le_of_ble_eq_true rfl | decide); (intro; rfl); (first | (with_reducible rfl) | assumption | exact decide_eq_true (by omega) | (simp only [Bool.not_eq_true', Bool.not_eq_false', decide_eq_false_iff_not, decide_eq_true_eq] <;> first | assumption | omega) | decide); (intro; rfl); rfl; exact tS rfl; rfl; rfl) | ((with_reducible apply so_alloc); rfl; (first | (with_reducible rfl) | assumption | exact decide_eq_true (by omega) | (simp only [Bool.not_eq_true', Bool.not_eq_false', decide_eq_false_iff_not, decide_eq_true_eq] <;> first | assumption | omega) | decide); exact tZ rfl; (focus ((repeat (first | (with_reducible exact CopyL.agg) | exact CopyL.nil | (apply CopyL.consI; rfl) | (apply CopyL.consB; rfl) | (apply CopyL.consS; rfl) | (apply CopyL.consP; rfl) | (apply CopyL.consF; rfl) | apply CopyL.cons)); done)); (first | exact Nat.le_of_ble_eq_true rfl | decide)) | ((with_reducible apply so_box); rfl; (first | (with_reducible rfl) | assumption | exact decide_eq_true (by omega) | (simp only [Bool.not_eq_true', Bool.not_eq_false', decide_eq_false_iff_not, decide_eq_true_eq] <;> first | assumption | omega) | decide); rfl; (focus ((repeat (first | (with_reducible exact CopyL.agg) | exact CopyL.nil | (apply CopyL.consI; rfl) | (apply CopyL.consB; rfl) | (apply CopyL.consS; rfl) | (apply CopyL.consP; rfl) | (apply CopyL.consF; rfl) | apply CopyL.cons)); done)); (first | exact Nat.le_of_ble_eq_true rfl | decide)))
    intro q
    refine go_ _ ?_
    exact sret1 rfl rfl (by unfold highM pxM; simp only [h1, h2, h3, if_true, if_false]; (try (congr 1; omega)))

set_option maxRecDepth 100000 in
set_option maxHeartbeats 4000000 in
theorem rcutFrag_any (f : Fg) (w : World) : Calls Try.prog 28 #[.agg f.cells.toArray] w fun e w' => e = .returned (.tuple #[.agg (cutF f).cells.toArray, .bool (beyF f)]) ∧ Below w.heap.size w w' := by
  refine s_quiet [(0, .agg f.cells.toArray)] Try.func28 rfl Try.ntmps28 rfl (by simp) ?_
  obtain ⟨x, y, ww, hh⟩ := f
  unfold cutF beyF
  dsimp only
  refine go_ _ ?_
  (first | ((with_reducible apply so_new); rfl; (first | (with_reducible rfl) | assumption | exact decide_eq_true (by omega) | (simp only [Bool.not_eq_true', Bool.not_eq_false', decide_eq_false_iff_not, decide_eq_true_eq] <;> first | assumption | omega) | decide); exact tZ rfl; (first | exact Nat.le_of_ble_eq_true rfl | decide); (intro; rfl); (first | (with_reducible rfl) | assumption | exact decide_eq_true (by omega) | (simp only [Bool.not_eq_true', Bool.not_eq_false', decide_eq_false_iff_not, decide_eq_true_eq] <;> first | assumption | omega) | decide); (intro; rfl); rfl; exact tS rfl; rfl; rfl) | ((with_reducible apply so_alloc); rfl; (first | (with_reducible rfl) | assumption | exact decide_eq_true (by omega) | (simp only [Bool.not_eq_true', Bool.not_eq_false', decide_eq_false_iff_not, decide_eq_true_eq] <;> first | assumption | omega) | decide); exact tZ rfl; (focus ((repeat (first | (with_reducible exact CopyL.agg) | exact CopyL.nil | (apply CopyL.consI; rfl) | (apply CopyL.consB; rfl) | (apply CopyL.consS; rfl) | (apply CopyL.consP; rfl) | (apply CopyL.consF; rfl) | apply CopyL.cons)); done)); (first | exact Nat.le_of_ble_eq_true rfl | decide)) | ((with_reducible apply so_box); rfl; (first | (with_reducible rfl) | assumption | exact decide_eq_true (by omega) | (simp only [Bool.not_eq_true', Bool.not_eq_false', decide_eq_false_iff_not, decide_eq_true_eq] <;> first | assumption | omega) | decide); rfl; (focus ((repeat (first | (with_reducible exact CopyL.agg) | exact CopyL.nil | (apply CopyL.consI; rfl) | (apply CopyL.consB; rfl) | (apply CopyL.consS; rfl) | (apply CopyL.consP; rfl) | (apply CopyL.consF; rfl) | apply CopyL.cons)); done)); (first | exact Nat.le_of_ble_eq_true rfl | decide)))
  intro q1
  refine go_ _ ?_
  refine so_alloc (cs := Fg.cells ⟨0, 0, 0, 0⟩) rfl rfl (tZ rfl) (CopyL.refl _) (Nat.le_of_ble_eq_true rfl) fun q2 => go_ _ ?_
  refine so_litL (c := fun a : Addr => [.pointer (some a)]) (e := 100) (fun a : Addr => .pointer (some a)) [⟨q1, 0 + 0, none⟩, ⟨q1, 0 + 1, none⟩, ⟨q1, 0 + 2, none⟩, ⟨q1, 0 + 3, none⟩] (fun _ => rfl) (fun _ => rfl) rfl rfl (by repeat (first | exact Parts.nil | ((with_reducible apply Parts.cons); rfl))) (by rfl) rfl (by kernel_rfl) rfl rfl (Nat.le_of_ble_eq_true rfl) fun ql => go_ _ ?_
  refine s_rounds 5 ?_
  refine sl_round (go_ _ ?_)
  refine so_callQ (fun w1 _ => rcut_any x w1) rfl rfl rfl (tF rfl) (Nat.le_of_ble_eq_true rfl) (go_ _ ?_)
  refine so_storeE (t' := 46) (cs := (Fg.cells ⟨x, y, ww, hh⟩)) (cs' := (Fg.cells ⟨cutM x, y, ww, hh⟩)) rfl rfl rfl rfl rfl (tS rfl) rfl (Nat.le_of_ble_eq_true rfl) (.there (.there .here)) (go_ _ ?_)
  refine sl_round (go_ _ ?_)
  refine so_callQ (fun w1 _ => rcut_any y w1) rfl rfl rfl (tF rfl) (Nat.le_of_ble_eq_true rfl) (go_ _ ?_)
  refine so_storeE (t' := 46) (cs := (Fg.cells ⟨cutM x, y, ww, hh⟩)) (cs' := (Fg.cells ⟨cutM x, cutM y, ww, hh⟩)) rfl rfl rfl rfl rfl (tS rfl) rfl (Nat.le_of_ble_eq_true rfl) (.there (.there .here)) (go_ _ ?_)
  refine so_or rfl rfl rfl (Nat.le_of_ble_eq_true rfl) (Nat.le_of_ble_eq_true rfl) (fun _ => rfl) (go_ _ ?_)
  refine sl_round (go_ _ ?_)
  refine so_callQ (fun w1 _ => rcut_any ww w1) rfl rfl rfl (tF rfl) (Nat.le_of_ble_eq_true rfl) (go_ _ ?_)
  refine so_storeE (t' := 46) (cs := (Fg.cells ⟨cutM x, cutM y, ww, hh⟩)) (cs' := (Fg.cells ⟨cutM x, cutM y, cutM ww, hh⟩)) rfl rfl rfl rfl rfl (tS rfl) rfl (Nat.le_of_ble_eq_true rfl) (.there (.there .here)) (go_ _ ?_)
  refine so_or rfl rfl rfl (Nat.le_of_ble_eq_true rfl) (Nat.le_of_ble_eq_true rfl) (fun _ => rfl) (go_ _ ?_)
  refine sl_round (go_ _ ?_)
  refine so_callQ (fun w1 _ => rcut_any hh w1) rfl rfl rfl (tF rfl) (Nat.le_of_ble_eq_true rfl) (go_ _ ?_)
  refine so_storeE (t' := 46) (cs := (Fg.cells ⟨cutM x, cutM y, cutM ww, hh⟩)) (cs' := (Fg.cells ⟨cutM x, cutM y, cutM ww, cutM hh⟩)) rfl rfl rfl rfl rfl (tS rfl) rfl (Nat.le_of_ble_eq_true rfl) (.there (.there .here)) (go_ _ ?_)
  refine so_or rfl rfl rfl (Nat.le_of_ble_eq_true rfl) (Nat.le_of_ble_eq_true rfl) (fun _ => rfl) (go_ _ ?_)
  refine sl_round (go_ _ ?_)
  refine so_storeB (cs := Fg.cells ⟨cutM x, cutM y, cutM ww, cutM hh⟩) rfl rfl rfl rfl (tS rfl) rfl rfl (.there .here) (by rfl) ?_
  refine go_ _ ?_
  exact sretCell2 rfl rfl rfl (tA rfl) (tS rfl) (rw_there rw_here) (by rw [Bool.or_assoc, Bool.or_assoc])

/-- What is known of an item, as the document has it. -/
structure Pt where
  it : It
  uw : Int
def ptC (a b c d e f g : Int) : List Value := [.int .i64 a, .int .i64 b, .int .i64 c, .int .i64 d, .int .i64 e, .int .i64 f, .int .i64 g]
def Pt.cells (p : Pt) : List Value := ptC p.it.wide p.it.above p.it.below p.uw p.it.left p.it.right p.it.high
theorem Pt.len (p : Pt) : p.cells.length = 7 := rfl
def ptM (c : Int) (s : Sty) (u : Us) (h : Int) : Pt := ⟨itM c s u h, u.w⟩
def partsM (c : Int) (kids : List Sty) (us : List Us) (hs : List Int) : List Pt := kids.mapIdx fun i s => ptM c s (us[i]?.getD ⟨0, 0, 0⟩) (hs[i]?.getD 0)
theorem partsM_it (c : Int) (kids : List Sty) (us : List Us) (hs : List Int) : (partsM c kids us hs).map Pt.it = itemsM c kids us hs := by
  apply List.ext_getElem?
  intro i
  unfold partsM itemsM ptM
  rw [List.getElem?_map, List.getElem?_mapIdx, List.getElem?_mapIdx]
  cases kids[i]? <;> rfl
theorem partsM_len (c : Int) (kids : List Sty) (us : List Us) (hs : List Int) : (partsM c kids us hs).length = kids.length := by unfold partsM; simp
theorem partsM_take (c : Int) (kids : List Sty) (us : List Us) (hs : List Int) (i : Nat) (h : i < kids.length) : (partsM c kids us hs).take (i + 1) = (partsM c kids us hs).take i ++ [ptM c kids[i] (us[i]?.getD ⟨0, 0, 0⟩) (hs[i]?.getD 0)] := by
  have hl : i < (partsM c kids us hs).length := by rw [partsM_len]; exact h
  rw [List.take_add_one, List.getElem?_eq_getElem hl]
  simp [partsM]

set_option maxRecDepth 100000 in
set_option maxHeartbeats 8000000 in
theorem rparts_any (c : Int) (kids : List Sty) (us : List Us) (hs : List Int) (Ak Au Ah : Option Addr) (ck cu ch : Nat) (w : World) (hk : Rd w Sty.cells 43 Ak kids) (hu : Rd w Us.cells 3 Au us) (hh : Rd w hC 1 Ah hs) (hB : ∀ s ∈ kids, KidB s c) (hU : ∀ u ∈ us, InB u.w) (hlk : kids.length ≤ 100000) :
    Calls Try.prog 25 #[.int .i64 c, .slice Ak kids.length ck, .slice Au us.length cu, .slice Ah hs.length ch] w fun e w' => ∃ i : Option Addr × Nat, True ∧ e = .returned (.slice i.1 kids.length i.2) ∧ Mem w.heap.size w [own i.1 kids.length i.2 77 7 ((partsM c kids us hs).flatMap Pt.cells)] w' := by
  refine s_callsN (ι := Option Addr × Nat) [(0, .int .i64 c), (1, .slice Ak kids.length ck), (2, .slice Au us.length cu), (3, .slice Ah hs.length ch)] (fun i => .slice i.1 kids.length i.2) (fun i => [own i.1 kids.length i.2 77 7 ((partsM c kids us hs).flatMap Pt.cells)]) (fun _ => True) Try.func25 rfl Try.ntmps25 rfl (by simp) ?_
  have hk0 := hk.base (B := w.heap.size) (H := []) rfl
  have hu0 := hu.base (B := w.heap.size) (H := []) rfl
  have hh0 := hh.base (B := w.heap.size) (H := []) rfl
  have hlen := partsM_len c kids us hs
  refine go_ _ ?_
  refine s_ownNil 77 7 ?_
  refine s_loop (ι := Nat × Option Addr × Nat) (fun i => [(0, .int .i64 c), (1, .slice Ak kids.length ck), (2, .slice Au us.length cu), (3, .slice Ah hs.length ch), (9, .slice i.2.1 i.1 i.2.2), (10, .int .i64 (i.1 : Nat))])
    (fun i => [own i.2.1 i.1 i.2.2 77 7 (((partsM c kids us hs).take i.1).flatMap Pt.cells)]) (fun i => i.1 ≤ kids.length) (fun i => kids.length - i.1) (0, none, 0) (by repeat (first | exact Sub.nil | refine Sub.cons rfl ?_ | (refine Sub.consB rfl (by (first | rfl | exact decide_eq_decide.2 (by omega) | exact (decide_eq_true (by omega)).symm | exact (decide_eq_false (by omega)).symm | exact decide_eq_true (by omega) | exact decide_eq_false (by omega))) ?_))) (by repeat (first | exact SubH.refl | exact SubH.nil | ((with_reducible apply SubH.cons); (focus ((repeat (first | (with_reducible exact Pick.here) | (with_reducible apply Pick.there))); done))) | ((with_reducible apply SubH.consR); (focus ((repeat (first | (with_reducible exact Pick.here) | (with_reducible apply Pick.there))); done)); (first | rfl | simp; done)) | ((with_reducible apply SubH.consO); (focus ((repeat (first | (with_reducible exact Pick.here) | (with_reducible apply Pick.there))); done)); (first | rfl | simp; done); (first | rfl | simp; done)) | exact SubH.drop SubH.refl | apply SubH.drop)) (Nat.zero_le _) ?_
  rintro ⟨i, A, cap⟩ hi
  dsimp only at hi ⊢
  by_cases hlt : i < kids.length
  · obtain ⟨b1, o1, rfl, hr1⟩ := RdH.at hk0 (Mem.start w) i hlt
    have hK := hB _ (List.getElem_mem hlt)
    have hT : ((partsM c kids us hs).take (i + 1)).flatMap Pt.cells = ((partsM c kids us hs).take i).flatMap Pt.cells ++ (ptM c kids[i] (us[i]?.getD ⟨0, 0, 0⟩) (hs[i]?.getD 0)).cells := by
      rw [partsM_take c kids us hs i hlt, List.flatMap_append]; simp
    have hfr := hK.st.frame_in
    generalize kids[i] = s at *
    generalize ((partsM c kids us hs).take i).flatMap Pt.cells = xs at *
    have hpt : ∀ u h, (ptM c s u h).cells = ptC (s.frame + u.w) (resM s.m0 c).1 (resM s.m2 c).1 u.w u.left u.right h := fun _ _ => rfl
    rw [hpt] at hT
    have c1 := fun w1 => rframe_any s c w1 hK.st
    have c2 := fun w1 => rresolve_any s.m0 c w1 hK.m0
    have c3 := fun w1 => rresolve_any s.m2 c w1 hK.m2
    generalize resM s.m0 c = r2 at *
    generalize resM s.m2 c = r3 at *
    obtain ⟨n2, f2⟩ := r2
    obtain ⟨n3, f3⟩ := r3
    dsimp only at hT c2 c3
    have rm0 := rw_part (j := 16) (n := 2) (ds := s.m0.cells) hr1 rfl
    rw [show o1 + i * 43 + 16 = o1 + i * 43 + 16 + 0 * 2 by omega] at rm0
    have rm2 := rw_part (j := 20) (n := 2) (ds := s.m2.cells) hr1 rfl
    rw [show o1 + i * 43 + 20 = o1 + i * 43 + 16 + 2 * 2 by omega] at rm2
    clear hpt hK hB hk hk0
    refine go_ _ ?_
    refine so_alloc (cs := ptC 0 0 0 0 0 0 0) rfl rfl (tZ rfl) (CopyL.refl _) (Nat.le_of_ble_eq_true rfl) fun q => go_ _ ?_
    refine s_meet (ι := Us) (fun _ => [(0, .int .i64 c), (1, .slice (some ⟨b1, o1, none⟩) kids.length ck), (2, .slice Au us.length cu), (3, .slice Ah hs.length ch), (9, .slice A i cap), (10, .int .i64 (i : Nat)), (11, .pointer (some ⟨q, 0, none⟩))]) (fun u => [row q 77 (ptC 0 0 0 u.w u.left u.right 0), own A i cap 77 7 xs]) (fun u => u = us[i]?.getD ⟨0, 0, 0⟩) ?_ ?_
    · by_cases hiu : i < us.length
      · obtain ⟨b2, o2, rfl, hr2⟩ := RdH.at hu0 (Mem.start w) i hiu
        rw [List.getElem?_eq_getElem hiu]
        generalize us[i] = u at *
        obtain ⟨uw, ul, ur⟩ := u
        unfold Us.cells at hr2
        dsimp only at hr2
        refine go_ _ ?_
        refine so_storeR (t' := 77) (vs := [.int .i64 uw, .int .i64 ul, .int .i64 ur]) (cs' := ptC 0 0 0 uw ul ur 0) rfl rfl rfl rfl rfl (tS rfl) rfl rfl .here (go_ _ ?_)
        exact ⟨⟨uw, ul, ur⟩, (by repeat (first | exact Sub.nil | refine Sub.cons rfl ?_ | (refine Sub.consB rfl (by (first | rfl | exact decide_eq_decide.2 (by omega) | exact (decide_eq_true (by omega)).symm | exact (decide_eq_false (by omega)).symm | exact decide_eq_true (by omega) | exact decide_eq_false (by omega))) ?_))), .refl, rfl⟩
      · rw [List.getElem?_eq_none (by omega)]
        refine go_ _ ?_
        exact ⟨⟨0, 0, 0⟩, (by repeat (first | exact Sub.nil | refine Sub.cons rfl ?_ | (refine Sub.consB rfl (by (first | rfl | exact decide_eq_decide.2 (by omega) | exact (decide_eq_true (by omega)).symm | exact (decide_eq_false (by omega)).symm | exact decide_eq_true (by omega) | exact decide_eq_false (by omega))) ?_))), .refl, rfl⟩
    rintro u hu1
    have huB : InB u.w := by
      rw [hu1]
      cases e : us[i]? with
      | none => simp [InB]
      | some u => exact hU u (List.mem_of_getElem? e)
    rw [← hu1] at hT
    clear hu1
    obtain ⟨uw, ul, ur⟩ := u
    dsimp only at hT huB ⊢
    unfold InB at huB
    refine go_ _ ?_
    refine s_meet (ι := Int) (fun _ => [(0, .int .i64 c), (1, .slice (some ⟨b1, o1, none⟩) kids.length ck), (2, .slice Au us.length cu), (3, .slice Ah hs.length ch), (9, .slice A i cap), (10, .int .i64 (i : Nat)), (11, .pointer (some ⟨q, 0, none⟩))]) (fun h => [row q 77 (ptC 0 0 0 uw ul ur h), own A i cap 77 7 xs]) (fun h => h = hs[i]?.getD 0) ?_ ?_
    · by_cases hih : i < hs.length
      · obtain ⟨b2, o2, rfl, hr2⟩ := RdH.at hh0 (Mem.start w) i hih
        rw [List.getElem?_eq_getElem hih]
        generalize hs[i] = h at *
        unfold hC at hr2
        refine go_ _ ?_
        refine so_storeE (t' := 77) (cs' := ptC 0 0 0 uw ul ur h) rfl rfl rfl rfl rfl (tS rfl) rfl (Nat.le_of_ble_eq_true rfl) .here (go_ _ ?_)
        exact ⟨h, (by repeat (first | exact Sub.nil | refine Sub.cons rfl ?_ | (refine Sub.consB rfl (by (first | rfl | exact decide_eq_decide.2 (by omega) | exact (decide_eq_true (by omega)).symm | exact (decide_eq_false (by omega)).symm | exact decide_eq_true (by omega) | exact decide_eq_false (by omega))) ?_))), .refl, rfl⟩
      · rw [List.getElem?_eq_none (by omega)]
        refine go_ _ ?_
        exact ⟨0, (by repeat (first | exact Sub.nil | refine Sub.cons rfl ?_ | (refine Sub.consB rfl (by (first | rfl | exact decide_eq_decide.2 (by omega) | exact (decide_eq_true (by omega)).symm | exact (decide_eq_false (by omega)).symm | exact decide_eq_true (by omega) | exact decide_eq_false (by omega))) ?_))), .refl, rfl⟩
    rintro h hh1
    rw [← hh1] at hT
    clear hh1
    have ef : uw + s.frame = s.frame + uw := by omega
    refine go_ _ ?_
    refine so_callQ (fun w1 _ => c1 w1) rfl rfl rfl (tF rfl) (Nat.le_of_ble_eq_true rfl) (go_ _ ?_)
    rw [ef]
    refine so_storeE (t' := 77) (cs' := ptC (s.frame + uw) 0 0 uw ul ur h) rfl rfl rfl rfl rfl (tS rfl) rfl (Nat.le_of_ble_eq_true rfl) .here (go_ _ ?_)
    refine so_callQ (fun w1 _ => c2 w1) rfl rfl rfl (tF rfl) (Nat.le_of_ble_eq_true rfl) (go_ _ ?_)
    refine so_storeE (t' := 77) (cs' := ptC (s.frame + uw) n2 0 uw ul ur h) rfl rfl rfl rfl rfl (tS rfl) rfl (Nat.le_of_ble_eq_true rfl) .here (go_ _ ?_)
    refine so_callQ (fun w1 _ => c3 w1) rfl rfl rfl (tF rfl) (Nat.le_of_ble_eq_true rfl) (go_ _ ?_)
    refine so_storeE (t' := 77) (cs' := ptC (s.frame + uw) n2 n3 uw ul ur h) rfl rfl rfl rfl rfl (tS rfl) rfl (Nat.le_of_ble_eq_true rfl) .here (go_ _ ?_)
    refine so_slice1 (e := 77) (sz := 7) rfl (by (first | (with_reducible rfl) | assumption | exact decide_eq_true (by omega) | (simp only [Bool.not_eq_true', Bool.not_eq_false', decide_eq_false_iff_not, decide_eq_true_eq] <;> first | assumption | omega) | decide)) rfl (by kernel_rfl) rfl (Nat.le_of_ble_eq_true rfl) fun q1 => go_ _ ?_
    refine so_append1 (e := 77) (sz := 7) (news := ptC (s.frame + uw) n2 n3 uw ul ur h) rfl (by (first | (with_reducible rfl) | assumption | exact decide_eq_true (by omega) | (simp only [Bool.not_eq_true', Bool.not_eq_false', decide_eq_false_iff_not, decide_eq_true_eq] <;> first | assumption | omega) | decide)) rfl rfl (by kernel_rfl) (Nat.le_of_ble_eq_true rfl) (fun A'' cap'' => (by (focus ((repeat (first | (with_reducible exact Upd.here) | (with_reducible apply Upd.there))); done)))) rw_here rfl rfl (by omega) fun B5 d5 => go_ _ ?_
    exact ⟨(i + 1, B5, d5), by dsimp only; omega, (by repeat (first | exact Sub.nil | refine Sub.cons rfl ?_ | (refine Sub.consB rfl (by (first | rfl | exact decide_eq_decide.2 (by omega) | exact (decide_eq_true (by omega)).symm | exact (decide_eq_false (by omega)).symm | exact decide_eq_true (by omega) | exact decide_eq_false (by omega))) ?_))), by rw [hT]; exact (by repeat (first | exact SubH.refl | exact SubH.nil | ((with_reducible apply SubH.cons); (focus ((repeat (first | (with_reducible exact Pick.here) | (with_reducible apply Pick.there))); done))) | ((with_reducible apply SubH.consR); (focus ((repeat (first | (with_reducible exact Pick.here) | (with_reducible apply Pick.there))); done)); (first | rfl | simp; done)) | ((with_reducible apply SubH.consO); (focus ((repeat (first | (with_reducible exact Pick.here) | (with_reducible apply Pick.there))); done)); (first | rfl | simp; done); (first | rfl | simp; done)) | exact SubH.drop SubH.refl | apply SubH.drop)), by dsimp only; omega⟩
  · obtain rfl : i = kids.length := by omega
    rw [List.take_of_length_le (by omega)]
    refine go_ _ ?_
    exact sret1 rfl rfl ⟨(A, cap), trivial, rfl, (by repeat (first | exact SubH.refl | exact SubH.nil | ((with_reducible apply SubH.cons); (focus ((repeat (first | (with_reducible exact Pick.here) | (with_reducible apply Pick.there))); done))) | ((with_reducible apply SubH.consR); (focus ((repeat (first | (with_reducible exact Pick.here) | (with_reducible apply Pick.there))); done)); (first | rfl | simp; done)) | ((with_reducible apply SubH.consO); (focus ((repeat (first | (with_reducible exact Pick.here) | (with_reducible apply Pick.there))); done)); (first | rfl | simp; done); (first | rfl | simp; done)) | exact SubH.drop SubH.refl | apply SubH.drop))⟩
end Go.Proofs.Ytdoihebekbfnbaa
