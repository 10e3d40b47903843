/- CrossPlays walked. -/
import Derived.Test.YtdoihebekbfnbaaCroI
import Derived.Test.YtdoihebekbfnbaaCroU
import Derived.Test.YtdoihebekbfnbaaEvu
namespace Go.Proofs.Ytdoihebekbfnbaa
open Go.RowKit

set_option maxRecDepth 100000 in
set_option maxHeartbeats 4000000 in
theorem sameFrag_any (f : Fg) (w : World) : Calls Try.prog 14 #[.agg f.cells.toArray, .agg f.cells.toArray] w fun e w' => e = .returned (.bool true) ∧ Below w.heap.size w w' := by
  refine s_quiet [(0, .agg f.cells.toArray), (1, .agg f.cells.toArray)] Try.func14 rfl Try.ntmps14 rfl (by simp) ?_
  obtain ⟨x, y, ww, hh⟩ := f
  unfold Fg.cells
  dsimp only
  refine go_ _ ?_
  (first | ((with_reducible apply so_new); rfl; (first | (with_reducible rfl) | assumption | exact decide_eq_true (by omega) | (simp only [Bool.not_eq_true', Bool.not_eq_false', decide_eq_false_iff_not, decide_eq_true_eq] <;> first | assumption | omega) | decide); exact tZ rfl; (first | exact Nat.le_of_ble_eq_true rfl | decide); (intro; rfl); (first | (with_reducible rfl) | assumption | exact decide_eq_true (by omega) | (simp only [Bool.not_eq_true', Bool.not_eq_false', decide_eq_false_iff_not, decide_eq_true_eq] <;> first | assumption | omega) | decide); (intro; rfl); rfl; exact tS rfl; rfl; rfl) | ((with_reducible apply so_alloc); rfl; (first | (with_reducible rfl) | assumption | exact decide_eq_true (by omega) | (simp only [Bool.not_eq_true', Bool.not_eq_false', decide_eq_false_iff_not, decide_eq_true_eq] <;> first | assumption | omega) | decide); exact tZ rfl; (focus ((repeat (first | (with_reducible exact CopyL.agg) | exact CopyL.nil | (apply CopyL.consI; rfl) | (apply CopyL.consB; rfl) | (apply CopyL.consS; rfl) | (apply CopyL.consP; rfl) | (apply CopyL.consF; rfl) | apply CopyL.cons)); done)); (first | exact Nat.le_of_ble_eq_true rfl | decide)) | ((with_reducible apply so_box); rfl; (first | (with_reducible rfl) | assumption | exact decide_eq_true (by omega) | (simp only [Bool.not_eq_true', Bool.not_eq_false', decide_eq_false_iff_not, decide_eq_true_eq] <;> first | assumption | omega) | decide); rfl; (focus ((repeat (first | (with_reducible exact CopyL.agg) | exact CopyL.nil | (apply CopyL.consI; rfl) | (apply CopyL.consB; rfl) | (apply CopyL.consS; rfl) | (apply CopyL.consP; rfl) | (apply CopyL.consF; rfl) | apply CopyL.cons)); done)); (first | exact Nat.le_of_ble_eq_true rfl | decide)))
  intro q1
  refine go_ _ ?_
  (first | ((with_reducible apply so_new); rfl; (first | (with_reducible rfl) | assumption | exact decide_eq_true (by omega) | (simp only [Bool.not_eq_true', Bool.not_eq_false', decide_eq_false_iff_not, decide_eq_true_eq] <;> first | assumption | omega) | decide); exact tZ rfl; (first | exact Nat.le_of_ble_eq_true rfl | decide); (intro; rfl); (first | (with_reducible rfl) | assumption | exact decide_eq_true (by omega) | (simp only [Bool.not_eq_true', Bool.not_eq_false', decide_eq_false_iff_not, decide_eq_true_eq] <;> first | assumption | omega) | decide); (intro; rfl); rfl; exact tS rfl; rfl; rfl) | ((with_reducible apply so_alloc); rfl; (first | (with_reducible rfl) | assumption | exact decide_eq_true (by omega) | (simp only [Bool.not_eq_true', Bool.not_eq_false', decide_eq_false_iff_not, decide_eq_true_eq] <;> first | assumption | omega) | decide); exact tZ rfl; (focus ((repeat (first | (with_reducible exact CopyL.agg) | exact CopyL.nil | (apply CopyL.consI; rfl) | (apply CopyL.consB; rfl) | (apply CopyL.consS; rfl) | (apply CopyL.consP; rfl) | (apply CopyL.consF; rfl) | apply CopyL.cons)); done)); (first | exact Nat.le_of_ble_eq_true rfl | decide)) | ((with_reducible apply so_box); rfl; (first | (with_reducible rfl) | assumption | exact decide_eq_true (by omega) | (simp only [Bool.not_eq_true', Bool.not_eq_false', decide_eq_false_iff_not, decide_eq_true_eq] <;> first | assumption | omega) | decide); rfl; (focus ((repeat (first | (with_reducible exact CopyL.agg) | exact CopyL.nil | (apply CopyL.consI; rfl) | (apply CopyL.consB; rfl) | (apply CopyL.consS; rfl) | (apply CopyL.consP; rfl) | (apply CopyL.consF; rfl) | apply CopyL.cons)); done)); (first | exact Nat.le_of_ble_eq_true rfl | decide)))
  intro q2
  refine go_ _ ?_
  refine s_rounds 1 (sl_round (go_ _ ?_))
  exact sret1 rfl rfl rfl

set_option maxRecDepth 100000 in
set_option maxHeartbeats 16000000 in
theorem crossPlays_any (x : Case) (auto : Int) (w : World) (hR : x.R w) (hl : x.kids.length ≤ 9223372036854775807 ∧ x.us.length ≤ 9223372036854775807 ∧ x.hs.length ≤ 9223372036854775807) (hn : (x.Ak = none → x.ck = 0) ∧ (x.Au = none → x.cu = 0) ∧ (x.Ah = none → x.ch = 0)) :
    Calls Try.prog 3 #[.agg x.cells.toArray, .int .i64 auto] w fun e w' => e = .returned (.bool true) ∧ Below w.heap.size w w' := by
  refine s_quiet [(0, .agg x.cells.toArray), (1, .int .i64 auto)] Try.func3 rfl Try.ntmps3 rfl (by simp) ?_
  have hmay : ∀ w1, Mem w.heap.size w [] w1 → _ := fun w1 h1 => caseMay_any x w1 (hR.keep h1.below) hl
  have hk0 := hR.k.base (B := w.heap.size) (H := []) rfl
  have hu0 := hR.u.base (B := w.heap.size) (H := []) rfl
  have hh0 := hR.h.base (B := w.heap.size) (H := []) rfl
  have hCM : CaseMay x → x.kids.length ≤ 60 ∧ x.us.length ≤ 100 ∧ x.hs.length ≤ 100 ∧ (∀ s ∈ x.kids, RB x.c s) ∧ PlB x.s x.c x.kids x.us x.hs (rowsD x.s x.c x.kids []) := fun h => ⟨h.nk, h.nu, h.nh, h.rb, h.plB⟩
  have hcells : x.cells = x.s.cells ++ [.int .i64 x.c, .slice x.Ak x.kids.length x.ck, .slice x.Au x.us.length x.cu, .slice x.Ah x.hs.length x.ch] := rfl
  rw [hcells] at hmay ⊢
  clear hcells
  have hRk := hR.k; have hRu := hR.u; have hRh := hR.h
  clear hR
  generalize CaseMay x = CM at *
  obtain ⟨s, c, kids, us, hs, Ak, Au, Ah, ck, cu, ch⟩ := x
  dsimp only at *
  obtain ⟨hn1, hn2, hn3⟩ := hn
  refine go_ _ ?_
  (first | ((with_reducible apply so_new); rfl; (first | (with_reducible rfl) | assumption | exact decide_eq_true (by omega) | (simp only [Bool.not_eq_true', Bool.not_eq_false', decide_eq_false_iff_not, decide_eq_true_eq] <;> first | assumption | omega) | decide); exact tZ rfl; (first | exact Nat.le_of_ble_eq_true rfl | decide); (intro; rfl); (first | (with_reducible rfl) | assumption | exact decide_eq_true (by omega) | (simp only [Bool.not_eq_true', Bool.not_eq_false', decide_eq_false_iff_not, decide_eq_true_eq] <;> first | assumption | omega) | decide); (intro; rfl); rfl; exact tS rfl; rfl; rfl) | ((with_reducible apply so_alloc); rfl; (first | (with_reducible rfl) | assumption | exact decide_eq_true (by omega) | (simp only [Bool.not_eq_true', Bool.not_eq_false', decide_eq_false_iff_not, decide_eq_true_eq] <;> first | assumption | omega) | decide); exact tZ rfl; (focus ((repeat (first | (with_reducible exact CopyL.agg) | exact CopyL.nil | (apply CopyL.consI; rfl) | (apply CopyL.consB; rfl) | (apply CopyL.consS; rfl) | (apply CopyL.consP; rfl) | (apply CopyL.consF; rfl) | apply CopyL.cons)); done)); (first | exact Nat.le_of_ble_eq_true rfl | decide)) | ((with_reducible apply so_box); rfl; (first | (with_reducible rfl) | assumption | exact decide_eq_true (by omega) | (simp only [Bool.not_eq_true', Bool.not_eq_false', decide_eq_false_iff_not, decide_eq_true_eq] <;> first | assumption | omega) | decide); rfl; (focus ((repeat (first | (with_reducible exact CopyL.agg) | exact CopyL.nil | (apply CopyL.consI; rfl) | (apply CopyL.consB; rfl) | (apply CopyL.consS; rfl) | (apply CopyL.consP; rfl) | (apply CopyL.consF; rfl) | apply CopyL.cons)); done)); (first | exact Nat.le_of_ble_eq_true rfl | decide)))
  intro q
  refine go_ _ ?_
  refine so_callN (hc := fun w1 h1 => hmay w1 (h1.sub .nil)) rfl (by (first | (with_reducible rfl) | assumption | exact decide_eq_true (by omega) | (simp only [Bool.not_eq_true', Bool.not_eq_false', decide_eq_false_iff_not, decide_eq_true_eq] <;> first | assumption | omega) | decide)) rfl (tF rfl) (Nat.le_of_ble_eq_true rfl) ?_
  intro bm hbm
  cases bm
  · skip
    refine go_ _ ?_
    refine so_callQ (fun w1 _ => crworks_any w1) rfl (by (first | (with_reducible rfl) | assumption | exact decide_eq_true (by omega) | (simp only [Bool.not_eq_true', Bool.not_eq_false', decide_eq_false_iff_not, decide_eq_true_eq] <;> first | assumption | omega) | decide)) rfl (tF rfl) (Nat.le_of_ble_eq_true rfl) ?_
    refine go_ _ ?_
    exact sret1 rfl rfl rfl
  obtain ⟨nk, nu, nh, hrb, hplb⟩ := hCM (hbm rfl)
  by_cases a1 : auto < -1099511627776
  · skip
    refine go_ _ ?_
    refine so_callQ (fun w1 _ => crworks_any w1) rfl (by (first | (with_reducible rfl) | assumption | exact decide_eq_true (by omega) | (simp only [Bool.not_eq_true', Bool.not_eq_false', decide_eq_false_iff_not, decide_eq_true_eq] <;> first | assumption | omega) | decide)) rfl (tF rfl) (Nat.le_of_ble_eq_true rfl) ?_
    refine go_ _ ?_
    exact sret1 rfl rfl rfl
  by_cases a2 : 1099511627776 < auto
  · skip
    refine go_ _ ?_
    refine so_callQ (fun w1 _ => crworks_any w1) rfl (by (first | (with_reducible rfl) | assumption | exact decide_eq_true (by omega) | (simp only [Bool.not_eq_true', Bool.not_eq_false', decide_eq_false_iff_not, decide_eq_true_eq] <;> first | assumption | omega) | decide)) rfl (tF rfl) (Nat.le_of_ble_eq_true rfl) ?_
    refine go_ _ ?_
    exact sret1 rfl rfl rfl
  have hcR : ∀ w1, Mem w.heap.size w [] w1 → _ := fun w1 h1 => rrows_any s c kids [] Ak none ck 0 w1 (hRk.keep h1.below) Rd.nil hrb (by simp) (by omega)
  clear hmay hCM hbm
  refine go_ _ ?_
  refine so_callN (hj := fun i => catH_all _ _) (hc := fun w1 h1 => hcR w1 (h1.sub .nil)) rfl rfl rfl (tF rfl) (Nat.le_of_ble_eq_true rfl) ?_
  rintro ⟨fin, A, cap⟩ hfin
  dsimp only at hfin ⊢
  refine so_sub .refl (L := row q 33 (s.cells ++ [.int .i64 c, .slice Ak kids.length ck, .slice Au us.length cu, .slice Ah hs.length ch]) :: own A fin.length cap 50 1 (fin.reverse.flatMap RS.cells) :: fin.map RS.own) (.of_perm (by rw [List.cons_append]; exact (List.Perm.cons _ (List.perm_append_singleton _ _)).trans (List.Perm.swap _ _ _))) ?_
  clear hcR
  refine go_ _ ?_
  refine so_lit0 (e := 48) (sz := 3) rfl rfl (tU rfl) (tS rfl) (Nat.le_of_ble_eq_true rfl) fun qa => go_ _ ?_
  refine so_appendN (c := Us.cells) (l := us) (e := 48) (sz := 3) (xs := []) (n' := us.length) rfl (by (first | (with_reducible rfl) | assumption | exact decide_eq_true (by omega) | (simp only [Bool.not_eq_true', Bool.not_eq_false', decide_eq_false_iff_not, decide_eq_true_eq] <;> first | assumption | omega) | decide)) rfl rfl (Nat.zero_add _) (List.nil_append _) (by kernel_rfl) (Nat.le_of_ble_eq_true rfl) (fun A' cap' => (by (focus ((repeat (first | (with_reducible exact Upd.here) | (with_reducible apply Upd.there))); done)))) (hu0.sub .nil) hn2 Us.len (fun _ => rfl) (by omega) fun A6 c6 => go_ _ ?_
  refine so_lit0 (e := 2) (sz := 1) rfl rfl (tU rfl) (tS rfl) (Nat.le_of_ble_eq_true rfl) fun qb => go_ _ ?_
  refine so_appendN (c := hC) (l := hs) (e := 2) (sz := 1) (xs := []) (n' := hs.length) rfl (by (first | (with_reducible rfl) | assumption | exact decide_eq_true (by omega) | (simp only [Bool.not_eq_true', Bool.not_eq_false', decide_eq_false_iff_not, decide_eq_true_eq] <;> first | assumption | omega) | decide)) rfl rfl (Nat.zero_add _) (List.nil_append _) (by kernel_rfl) (Nat.le_of_ble_eq_true rfl) (fun A' cap' => (by (focus ((repeat (first | (with_reducible exact Upd.here) | (with_reducible apply Upd.there))); done)))) (hh0.sub .nil) hn3 (fun _ => rfl) (fun _ => rfl) (by omega) fun A7 c7 => go_ _ ?_
  refine s_parts (by kernel_rfl) ?_
  refine sg_evt 11 [7] [(4, slN 0, fun x => [own (some ⟨x.1, 0, none⟩) 0 0 28 43 []]), (7, slA kids.length, fun _ => [])]
    (fun α b => own A7 hs.length c7 2 1 (hs.flatMap hC) :: own A6 us.length c6 48 3 (us.flatMap Us.cells) :: row q 33 (s.cells ++ [.int .i64 c, .slice Ak kids.length ck, .slice Au us.length cu, .slice Ah hs.length ch]) :: ((bif b 7 then [own (α 7).2.1 kids.length (α 7).2.2 28 43 (kids.flatMap Sty.cells)] else bif b 4 then [own (some ⟨(α 4).1, 0, none⟩) 0 0 28 43 []] else []) ++ (own A fin.length cap 50 1 (fin.reverse.flatMap RS.cells) :: fin.map RS.own))) (by kernel_rfl) rfl (fun _ => rfl) fun α => go_ _ ?_
  refine se_lit0 (e := 28) (sz := 43) rfl (fun _ => rfl) rfl rfl (tU rfl) (tS rfl) (Nat.le_of_ble_eq_true rfl) (fun b => by cases h4 : b 4 <;> cases h7 : b 7 <;> simp [setb, h4, h7] <;> exact (by repeat (first | exact SubH.refl | exact SubH.nil | ((with_reducible apply SubH.cons); (focus ((repeat (first | (with_reducible exact Pick.here) | (with_reducible apply Pick.there))); done))) | ((with_reducible apply SubH.consR); (focus ((repeat (first | (with_reducible exact Pick.here) | (with_reducible apply Pick.there))); done)); (first | rfl | simp; done)) | ((with_reducible apply SubH.consO); (focus ((repeat (first | (with_reducible exact Pick.here) | (with_reducible apply Pick.there))); done)); (first | rfl | simp; done); (first | rfl | simp; done)) | exact SubH.drop SubH.refl | apply SubH.drop))) (go_ _ ?_)
  refine se_appendN (c := Sty.cells) (l := kids) (e := 28) (sz := 43) (xs := []) [(4, 49)] rfl rfl rfl rfl rfl rfl (Nat.zero_add _) (List.nil_append _) (by kernel_rfl) (Nat.le_of_ble_eq_true rfl) (fun z hz => by rw [List.mem_singleton.1 hz]; exact ⟨by decide, of_decide_eq_true (by kernel_rfl), rfl, rfl⟩)
    (fun u h7 hu A' cap' => by have h4 := hu (4, 49) (by simp); simp [setb, h4, h7]; exact (by (focus ((repeat (first | (with_reducible exact Upd.here) | (with_reducible apply Upd.there))); done)))) (fun u => hk0.sub .nil) hn1 Sty.len (fun _ => rfl) (by omega) (go_ _ ?_)
  refine SG.sub (G := [(1, .int .i64 auto), (2, .pointer (some ⟨q, 0, none⟩)), (5, .slice A fin.length cap), (6, .slice A6 us.length c6), (7, .slice A7 hs.length c7), (46, .agg s.cells.toArray), (48, .int .i64 c), (52, .slice (α 7).2.1 kids.length (α 7).2.2), (53, .slice A6 us.length c6), (54, .slice A7 hs.length c7), (55, .slice A fin.length cap)]) (L := own A7 hs.length c7 2 1 (hs.flatMap hC) :: own A6 us.length c6 48 3 (us.flatMap Us.cells) :: row q 33 (s.cells ++ [.int .i64 c, .slice Ak kids.length ck, .slice Au us.length cu, .slice Ah hs.length ch]) :: own (α 7).2.1 kids.length (α 7).2.2 28 43 (kids.flatMap Sty.cells) :: own A fin.length cap 50 1 (fin.reverse.flatMap RS.cells) :: fin.map RS.own) (by repeat (first | exact Sub.nil | refine Sub.cons rfl ?_ | (refine Sub.consB rfl (by (first | rfl | exact decide_eq_decide.2 (by omega) | exact (decide_eq_true (by omega)).symm | exact (decide_eq_false (by omega)).symm | exact decide_eq_true (by omega) | exact decide_eq_false (by omega))) ?_))) .refl ?_
  generalize (α 7).2.1 = KA
  generalize (α 7).2.2 = KC
  clear α
  have hcP : ∀ w1, Mem w.heap.size w (own A7 hs.length c7 2 1 (hs.flatMap hC) :: own A6 us.length c6 48 3 (us.flatMap Us.cells) :: row q 33 (s.cells ++ [.int .i64 c, .slice Ak kids.length ck, .slice Au us.length cu, .slice Ah hs.length ch]) :: own KA kids.length KC 28 43 (kids.flatMap Sty.cells) :: own A fin.length cap 50 1 (fin.reverse.flatMap RS.cells) :: fin.map RS.own) w1 → _ := fun w1 h1 => crplace_any s c kids us hs fin.reverse KA A6 A7 A KC c6 c7 cap w1 (h1.rdOwn (.there (.there (.there .here))) (by decide) Sty.len) (h1.rdOwn (.there .here) (by decide) Us.len) (h1.rdOwn .here (by decide) (fun _ => rfl)) (h1.rdOwn (.there (.there (.there (.there .here)))) (by decide) (fun _ => rfl))
    (fun r hr => RS.rd h1 (List.mem_cons_of_mem _ (List.mem_cons_of_mem _ (List.mem_cons_of_mem _ (List.mem_cons_of_mem _ (List.mem_cons_of_mem _ (List.mem_map.2 ⟨r, by simpa using hr, rfl⟩))))))) (by rw [hfin]; exact hplb)
  have hcQ : ∀ w1, Mem w.heap.size w (own A fin.length cap 50 1 (fin.reverse.flatMap RS.cells) :: fin.map RS.own) w1 → _ := fun w1 h1 => rplace_any s c kids us hs fin.reverse Ak Au Ah A ck cu ch cap w1 (hRk.keep h1.below) (hRu.keep h1.below) (hRh.keep h1.below) (h1.rdOwn .here (by decide) (fun _ => rfl))
    (fun r hr => RS.rd h1 (List.mem_cons_of_mem _ (List.mem_map.2 ⟨r, by simpa using hr, rfl⟩))) (by rw [hfin]; exact hplb)
  have hlP : (placeM s c (itemsM c kids us hs) (fin.reverse.map RS.l)).1.length = kids.length := by
    have e : (itemsM c kids us hs).length = kids.length := by unfold itemsM; simp
    have key : ∀ (rows : List (List Nat)) (st : List Fg × Int), (rowsM20 s c (itemsM c kids us hs) ((fin.reverse.map RS.l).length == 1) rows st).1.length = st.1.length := by
      intro rows
      induction rows with
      | nil => intro st; rfl
      | cons r rows ih => intro st; exact (ih _).trans (rowM_len ..)
    unfold placeM
    rw [key, List.length_replicate, e]
  rw [List.length_reverse] at hcP hcQ
  generalize placeM s c (itemsM c kids us hs) (fin.reverse.map RS.l) = P at *
  refine sg_one (by kernel_rfl) ?_
  refine so_callN (hc := fun w1 h1 => hcP w1 (h1.sub (by repeat (first | exact SubH.refl | exact SubH.nil | ((with_reducible apply SubH.cons); (focus ((repeat (first | (with_reducible exact Pick.here) | (with_reducible apply Pick.there))); done))) | ((with_reducible apply SubH.consR); (focus ((repeat (first | (with_reducible exact Pick.here) | (with_reducible apply Pick.there))); done)); (first | rfl | simp; done)) | ((with_reducible apply SubH.consO); (focus ((repeat (first | (with_reducible exact Pick.here) | (with_reducible apply Pick.there))); done)); (first | rfl | simp; done); (first | rfl | simp; done)) | exact SubH.drop SubH.refl | apply SubH.drop)))) rfl rfl rfl (tF rfl) (Nat.le_of_ble_eq_true rfl) ?_
  rintro ⟨⟨A8, c8⟩, A10, c10⟩ _
  dsimp only
  refine go_ _ ?_
  refine sg_free 7 (by kernel_rfl) (go_ _ ?_)
  refine so_callN (hc := fun w1 h1 => hcQ w1 (h1.sub (by repeat (first | exact SubH.refl | exact SubH.nil | ((with_reducible apply SubH.cons); (focus ((repeat (first | (with_reducible exact Pick.here) | (with_reducible apply Pick.there))); done))) | ((with_reducible apply SubH.consR); (focus ((repeat (first | (with_reducible exact Pick.here) | (with_reducible apply Pick.there))); done)); (first | rfl | simp; done)) | ((with_reducible apply SubH.consO); (focus ((repeat (first | (with_reducible exact Pick.here) | (with_reducible apply Pick.there))); done)); (first | rfl | simp; done); (first | rfl | simp; done)) | exact SubH.drop SubH.refl | apply SubH.drop)))) rfl rfl rfl (tF rfl) (Nat.le_of_ble_eq_true rfl) ?_
  rintro ⟨⟨A11, c11⟩, A13, c13⟩ _
  dsimp only
  refine so_sub .refl (L := own A11 kids.length c11 46 5 ((P.1.map cutF).flatMap Fg.cells) :: own A13 kids.length c13 4 1 ((P.1.map beyF).map Value.bool) :: own A8 kids.length c8 46 5 ((P.1.map cutF).flatMap Fg.cells) :: own A10 kids.length c10 4 1 ((P.1.map beyF).map Value.bool) :: own A7 hs.length c7 2 1 (hs.flatMap hC) :: own A6 us.length c6 48 3 (us.flatMap Us.cells) :: row q 33 (s.cells ++ [.int .i64 c, .slice Ak kids.length ck, .slice Au us.length cu, .slice Ah hs.length ch]) :: []) (by repeat (first | exact SubH.refl | exact SubH.nil | ((with_reducible apply SubH.cons); (focus ((repeat (first | (with_reducible exact Pick.here) | (with_reducible apply Pick.there))); done))) | ((with_reducible apply SubH.consR); (focus ((repeat (first | (with_reducible exact Pick.here) | (with_reducible apply Pick.there))); done)); (first | rfl | simp; done)) | ((with_reducible apply SubH.consO); (focus ((repeat (first | (with_reducible exact Pick.here) | (with_reducible apply Pick.there))); done)); (first | rfl | simp; done); (first | rfl | simp; done)) | exact SubH.drop SubH.refl | apply SubH.drop)) ?_
  clear hcP hcQ hplb hrb hfin
  have hc1 := fun w1 => high_any s auto w1
  have hc2 := fun w1 => rhigh_any s auto w1
  have hlF : (P.1.map cutF).length = kids.length := by simp; exact hlP
  have hlB : (P.1.map beyF).length = kids.length := by simp; exact hlP
  generalize P.1.map cutF = fs at *
  generalize P.1.map beyF = bs at *
  generalize cutM P.2 = hi_ at *
  generalize highM s auto = hg at *
  refine go_ _ ?_
  refine s_parts (by kernel_rfl) ?_
  refine sg_free 35 (by kernel_rfl) (go_ _ ?_)
  refine sd_callQ (fun w1 _ => hc1 w1) rfl (by (first | (with_reducible rfl) | assumption | exact decide_eq_true (by omega) | (simp only [Bool.not_eq_true', Bool.not_eq_false', decide_eq_false_iff_not, decide_eq_true_eq] <;> first | assumption | omega) | decide)) rfl (tF rfl) (Nat.le_of_ble_eq_true rfl) (go_ _ ?_)
  refine sd_callQ (fun w1 _ => hc2 w1) rfl (by (first | (with_reducible rfl) | assumption | exact decide_eq_true (by omega) | (simp only [Bool.not_eq_true', Bool.not_eq_false', decide_eq_false_iff_not, decide_eq_true_eq] <;> first | assumption | omega) | decide)) rfl (tF rfl) (Nat.le_of_ble_eq_true rfl) (go_ _ ?_)
  refine s_loop (ι := Nat) (fun i => [(2, .pointer (some ⟨q, 0, none⟩)), (6, .slice A6 us.length c6), (7, .slice A7 hs.length c7), (8, .slice A8 kids.length c8), (10, .slice A10 kids.length c10), (11, .slice A11 kids.length c11), (13, .slice A13 kids.length c13), (14, .int .i64 (i : Nat))]) (fun _ => own A11 kids.length c11 46 5 (fs.flatMap Fg.cells) :: own A13 kids.length c13 4 1 (bs.map Value.bool) :: own A8 kids.length c8 46 5 (fs.flatMap Fg.cells) :: own A10 kids.length c10 4 1 (bs.map Value.bool) :: own A7 hs.length c7 2 1 (hs.flatMap hC) :: own A6 us.length c6 48 3 (us.flatMap Us.cells) :: row q 33 (s.cells ++ [.int .i64 c, .slice Ak kids.length ck, .slice Au us.length cu, .slice Ah hs.length ch]) :: []) (fun i => i ≤ kids.length) (fun i => kids.length - i) 0 (by repeat (first | exact Sub.nil | refine Sub.cons rfl ?_ | (refine Sub.consB rfl (by (first | rfl | exact decide_eq_decide.2 (by omega) | exact (decide_eq_true (by omega)).symm | exact (decide_eq_false (by omega)).symm | exact decide_eq_true (by omega) | exact decide_eq_false (by omega))) ?_))) (by repeat (first | exact SubH.refl | exact SubH.nil | ((with_reducible apply SubH.cons); (focus ((repeat (first | (with_reducible exact Pick.here) | (with_reducible apply Pick.there))); done))) | ((with_reducible apply SubH.consR); (focus ((repeat (first | (with_reducible exact Pick.here) | (with_reducible apply Pick.there))); done)); (first | rfl | simp; done)) | ((with_reducible apply SubH.consO); (focus ((repeat (first | (with_reducible exact Pick.here) | (with_reducible apply Pick.there))); done)); (first | rfl | simp; done); (first | rfl | simp; done)) | exact SubH.drop SubH.refl | apply SubH.drop)) (Nat.zero_le _) ?_
  intro i hi
  by_cases hlt : i < kids.length
  · refine s_ownSome .here (by omega) fun g11 e => ?_
    subst e
    refine s_ownSome (.there .here) (by omega) fun g13 e => ?_
    subst e
    refine s_ownSome (.there (.there .here)) (by omega) fun g8 e => ?_
    subst e
    refine s_ownSome (.there (.there (.there .here))) (by omega) fun g10 e => ?_
    subst e
    have hf : i < fs.length := by omega
    have hb : i < bs.length := by omega
    have r11 : Rw w.heap.size w (own (some ⟨g11, 0, none⟩) kids.length c11 46 5 (fs.flatMap Fg.cells) :: own (some ⟨g13, 0, none⟩) kids.length c13 4 1 (bs.map Value.bool) :: own (some ⟨g8, 0, none⟩) kids.length c8 46 5 (fs.flatMap Fg.cells) :: own (some ⟨g10, 0, none⟩) kids.length c10 4 1 (bs.map Value.bool) :: own A7 hs.length c7 2 1 (hs.flatMap hC) :: own A6 us.length c6 48 3 (us.flatMap Us.cells) :: row q 33 (s.cells ++ [.int .i64 c, .slice Ak kids.length ck, .slice Au us.length cu, .slice Ah hs.length ch]) :: []) g11 (0 + i * 5) fs[i].cells := own_get (by decide) Fg.len (List.getElem?_eq_getElem hf)
    have r13 : Rw w.heap.size w (own (some ⟨g13, 0, none⟩) kids.length c13 4 1 (bs.map Value.bool) :: own (some ⟨g8, 0, none⟩) kids.length c8 46 5 (fs.flatMap Fg.cells) :: own (some ⟨g10, 0, none⟩) kids.length c10 4 1 (bs.map Value.bool) :: own A7 hs.length c7 2 1 (hs.flatMap hC) :: own A6 us.length c6 48 3 (us.flatMap Us.cells) :: row q 33 (s.cells ++ [.int .i64 c, .slice Ak kids.length ck, .slice Au us.length cu, .slice Ah hs.length ch]) :: []) g13 (0 + i * 1) [.bool bs[i]] := own_at1 (f := Value.bool) i hb
    have r8 : Rw w.heap.size w (own (some ⟨g8, 0, none⟩) kids.length c8 46 5 (fs.flatMap Fg.cells) :: own (some ⟨g10, 0, none⟩) kids.length c10 4 1 (bs.map Value.bool) :: own A7 hs.length c7 2 1 (hs.flatMap hC) :: own A6 us.length c6 48 3 (us.flatMap Us.cells) :: row q 33 (s.cells ++ [.int .i64 c, .slice Ak kids.length ck, .slice Au us.length cu, .slice Ah hs.length ch]) :: []) g8 (0 + i * 5) fs[i].cells := own_get (by decide) Fg.len (List.getElem?_eq_getElem hf)
    have r10 : Rw w.heap.size w (own (some ⟨g10, 0, none⟩) kids.length c10 4 1 (bs.map Value.bool) :: own A7 hs.length c7 2 1 (hs.flatMap hC) :: own A6 us.length c6 48 3 (us.flatMap Us.cells) :: row q 33 (s.cells ++ [.int .i64 c, .slice Ak kids.length ck, .slice Au us.length cu, .slice Ah hs.length ch]) :: []) g10 (0 + i * 1) [.bool bs[i]] := own_at1 (f := Value.bool) i hb
    have hsame := fun w1 => sameFrag_any fs[i] w1
    generalize fs[i] = f at *
    generalize bs[i] = b at *
    refine go_ _ ?_
    refine s_parts (by kernel_rfl) ?_
    refine sg_free 21 (by kernel_rfl) (go_ _ ?_)
    refine sd_callQ (fun w1 _ => hsame w1) rfl (by (first | (with_reducible rfl) | assumption | exact decide_eq_true (by omega) | (simp only [Bool.not_eq_true', Bool.not_eq_false', decide_eq_false_iff_not, decide_eq_true_eq] <;> first | assumption | omega) | decide)) rfl (tF rfl) (Nat.le_of_ble_eq_true rfl) (go_ _ ?_)
    exact ⟨i + 1, by omega, (by repeat (first | exact Sub.nil | refine Sub.cons rfl ?_ | (refine Sub.consB rfl (by (first | rfl | exact decide_eq_decide.2 (by omega) | exact (decide_eq_true (by omega)).symm | exact (decide_eq_false (by omega)).symm | exact decide_eq_true (by omega) | exact decide_eq_false (by omega))) ?_))), (by repeat (first | exact SubH.refl | exact SubH.nil | ((with_reducible apply SubH.cons); (focus ((repeat (first | (with_reducible exact Pick.here) | (with_reducible apply Pick.there))); done))) | ((with_reducible apply SubH.consR); (focus ((repeat (first | (with_reducible exact Pick.here) | (with_reducible apply Pick.there))); done)); (first | rfl | simp; done)) | ((with_reducible apply SubH.consO); (focus ((repeat (first | (with_reducible exact Pick.here) | (with_reducible apply Pick.there))); done)); (first | rfl | simp; done); (first | rfl | simp; done)) | exact SubH.drop SubH.refl | apply SubH.drop)), by omega⟩
  obtain rfl : i = kids.length := by omega
  refine go_ _ ?_
  refine s_loop (ι := Nat) (fun i => [(2, .pointer (some ⟨q, 0, none⟩)), (6, .slice A6 us.length c6), (7, .slice A7 hs.length c7), (15, .int .i64 (i : Nat))]) (fun _ => own A7 hs.length c7 2 1 (hs.flatMap hC) :: own A6 us.length c6 48 3 (us.flatMap Us.cells) :: row q 33 (s.cells ++ [.int .i64 c, .slice Ak kids.length ck, .slice Au us.length cu, .slice Ah hs.length ch]) :: []) (fun i => i ≤ hs.length) (fun i => hs.length - i) 0 (by repeat (first | exact Sub.nil | refine Sub.cons rfl ?_ | (refine Sub.consB rfl (by (first | rfl | exact decide_eq_decide.2 (by omega) | exact (decide_eq_true (by omega)).symm | exact (decide_eq_false (by omega)).symm | exact decide_eq_true (by omega) | exact decide_eq_false (by omega))) ?_))) (by repeat (first | exact SubH.refl | exact SubH.nil | ((with_reducible apply SubH.cons); (focus ((repeat (first | (with_reducible exact Pick.here) | (with_reducible apply Pick.there))); done))) | ((with_reducible apply SubH.consR); (focus ((repeat (first | (with_reducible exact Pick.here) | (with_reducible apply Pick.there))); done)); (first | rfl | simp; done)) | ((with_reducible apply SubH.consO); (focus ((repeat (first | (with_reducible exact Pick.here) | (with_reducible apply Pick.there))); done)); (first | rfl | simp; done); (first | rfl | simp; done)) | exact SubH.drop SubH.refl | apply SubH.drop)) (Nat.zero_le _) ?_
  intro i hi2
  by_cases hlt2 : i < hs.length
  · refine s_ownSome .here (by omega) fun g7 e => ?_
    subst e
    refine s_rdAt (hh0.sub .nil) (List.getElem?_eq_getElem hlt2) fun bh oh e rh => ?_
    subst e
    have r7 : Rw w.heap.size w (own (some ⟨g7, 0, none⟩) hs.length c7 2 1 (hs.flatMap hC) :: own A6 us.length c6 48 3 (us.flatMap Us.cells) :: row q 33 (s.cells ++ [.int .i64 c, .slice Ak kids.length ck, .slice Au us.length cu, .slice (some ⟨bh, oh, none⟩) hs.length ch]) :: []) g7 (0 + i * 1) (hC hs[i]) := own_get (by decide) (fun _ => rfl) (List.getElem?_eq_getElem hlt2)
    unfold hC at rh r7
    generalize hs[i] = hx at *
    refine go_ _ ?_
    refine s_parts (by kernel_rfl) ?_
    refine sg_free 10 (by kernel_rfl) (go_ _ ?_)
    exact ⟨i + 1, by omega, (by repeat (first | exact Sub.nil | refine Sub.cons rfl ?_ | (refine Sub.consB rfl (by (first | rfl | exact decide_eq_decide.2 (by omega) | exact (decide_eq_true (by omega)).symm | exact (decide_eq_false (by omega)).symm | exact decide_eq_true (by omega) | exact decide_eq_false (by omega))) ?_))), (by repeat (first | exact SubH.refl | exact SubH.nil | ((with_reducible apply SubH.cons); (focus ((repeat (first | (with_reducible exact Pick.here) | (with_reducible apply Pick.there))); done))) | ((with_reducible apply SubH.consR); (focus ((repeat (first | (with_reducible exact Pick.here) | (with_reducible apply Pick.there))); done)); (first | rfl | simp; done)) | ((with_reducible apply SubH.consO); (focus ((repeat (first | (with_reducible exact Pick.here) | (with_reducible apply Pick.there))); done)); (first | rfl | simp; done); (first | rfl | simp; done)) | exact SubH.drop SubH.refl | apply SubH.drop)), by omega⟩
  obtain rfl : i = hs.length := by omega
  refine go_ _ ?_
  refine s_loop (ι := Nat) (fun i => [(2, .pointer (some ⟨q, 0, none⟩)), (6, .slice A6 us.length c6), (16, .int .i64 (i : Nat))]) (fun _ => own A6 us.length c6 48 3 (us.flatMap Us.cells) :: row q 33 (s.cells ++ [.int .i64 c, .slice Ak kids.length ck, .slice Au us.length cu, .slice Ah hs.length ch]) :: []) (fun i => i ≤ us.length) (fun i => us.length - i) 0 (by repeat (first | exact Sub.nil | refine Sub.cons rfl ?_ | (refine Sub.consB rfl (by (first | rfl | exact decide_eq_decide.2 (by omega) | exact (decide_eq_true (by omega)).symm | exact (decide_eq_false (by omega)).symm | exact decide_eq_true (by omega) | exact decide_eq_false (by omega))) ?_))) (by repeat (first | exact SubH.refl | exact SubH.nil | ((with_reducible apply SubH.cons); (focus ((repeat (first | (with_reducible exact Pick.here) | (with_reducible apply Pick.there))); done))) | ((with_reducible apply SubH.consR); (focus ((repeat (first | (with_reducible exact Pick.here) | (with_reducible apply Pick.there))); done)); (first | rfl | simp; done)) | ((with_reducible apply SubH.consO); (focus ((repeat (first | (with_reducible exact Pick.here) | (with_reducible apply Pick.there))); done)); (first | rfl | simp; done); (first | rfl | simp; done)) | exact SubH.drop SubH.refl | apply SubH.drop)) (Nat.zero_le _) ?_
  intro i hi3
  by_cases hlt3 : i < us.length
  · refine s_ownSome .here (by omega) fun g6 e => ?_
    subst e
    refine s_rdAt (hu0.sub .nil) (List.getElem?_eq_getElem hlt3) fun bu ou e ru => ?_
    subst e
    have r6 : Rw w.heap.size w (own (some ⟨g6, 0, none⟩) us.length c6 48 3 (us.flatMap Us.cells) :: row q 33 (s.cells ++ [.int .i64 c, .slice Ak kids.length ck, .slice (some ⟨bu, ou, none⟩) us.length cu, .slice Ah hs.length ch]) :: []) g6 (0 + i * 3) us[i].cells := own_get (by decide) Us.len (List.getElem?_eq_getElem hlt3)
    generalize us[i] = u at *
    obtain ⟨uw, ul, ur⟩ := u
    unfold Us.cells at ru r6
    dsimp only at ru r6
    refine go_ _ ?_
    refine s_parts (by kernel_rfl) ?_
    refine sg_free 10 (by kernel_rfl) (go_ _ ?_)
    refine s_cond_f rfl (by simp [eqCells, eqv]) (go_ _ ?_)
    exact ⟨i + 1, by omega, (by repeat (first | exact Sub.nil | refine Sub.cons rfl ?_ | (refine Sub.consB rfl (by (first | rfl | exact decide_eq_decide.2 (by omega) | exact (decide_eq_true (by omega)).symm | exact (decide_eq_false (by omega)).symm | exact decide_eq_true (by omega) | exact decide_eq_false (by omega))) ?_))), (by repeat (first | exact SubH.refl | exact SubH.nil | ((with_reducible apply SubH.cons); (focus ((repeat (first | (with_reducible exact Pick.here) | (with_reducible apply Pick.there))); done))) | ((with_reducible apply SubH.consR); (focus ((repeat (first | (with_reducible exact Pick.here) | (with_reducible apply Pick.there))); done)); (first | rfl | simp; done)) | ((with_reducible apply SubH.consO); (focus ((repeat (first | (with_reducible exact Pick.here) | (with_reducible apply Pick.there))); done)); (first | rfl | simp; done); (first | rfl | simp; done)) | exact SubH.drop SubH.refl | apply SubH.drop)), by omega⟩
  obtain rfl : i = us.length := by omega
  refine go_ _ ?_
  refine so_callQ (fun w1 _ => crworks_any w1) rfl (by (first | (with_reducible rfl) | assumption | exact decide_eq_true (by omega) | (simp only [Bool.not_eq_true', Bool.not_eq_false', decide_eq_false_iff_not, decide_eq_true_eq] <;> first | assumption | omega) | decide)) rfl (tF rfl) (Nat.le_of_ble_eq_true rfl) ?_
  refine go_ _ ?_
  exact sret1 rfl rfl rfl
end Go.Proofs.Ytdoihebekbfnbaa
