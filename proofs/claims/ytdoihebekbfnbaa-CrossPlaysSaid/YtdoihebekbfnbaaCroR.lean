/- The walk of cross.Place. -/
import Derived.Test.YtdoihebekbfnbaaCroQ
namespace Go.Proofs.Ytdoihebekbfnbaa
open Go.RowKit

structure PlB (s : Sty) (c : Int) (kids : List Sty) (us : List Us) (hs : List Int) (rows : List (List Nat)) : Prop where
  kid : ∀ k ∈ kids, KidB k c
  kin : ∀ k ∈ kids, In1 k.h.n ∧ In1 k.minh.n ∧ In1 k.maxh.n
  us : ∀ u ∈ us, InB u.w ∧ InB u.left ∧ InB u.right
  hs : ∀ h ∈ hs, In1 h
  c : In1 c
  s : In1 s.h.n ∧ In1 s.minh.n ∧ In1 s.maxh.n
  len : rows.length ≤ 64
  row : ∀ r ∈ rows, r.length ≤ 64 ∧ ∀ k ∈ r, k < kids.length
  n : kids.length ≤ 100

theorem PlB.items {s : Sty} {c : Int} {kids : List Sty} {us : List Us} {hs : List Int} {rows : List (List Nat)} (h : PlB s c kids us hs rows) : ∀ x ∈ itemsM c kids us hs, ItB x := by
  intro x hx
  unfold itemsM at hx
  obtain ⟨i, hi, rfl⟩ := List.mem_mapIdx.1 hx
  have hk := h.kid _ (List.getElem_mem hi)
  have hk2 := h.kin _ (List.getElem_mem hi)
  have hf := hk.st.frame_in
  have h0 := hk.m0.res; have h2 := hk.m2.res
  have b0 := hk.st.b0; have p0 := hk.st.p0; have b2 := hk.st.b2; have p2 := hk.st.p2
  have hu : InB (us[i]?.getD ⟨0, 0, 0⟩).w ∧ InB (us[i]?.getD ⟨0, 0, 0⟩).left ∧ InB (us[i]?.getD ⟨0, 0, 0⟩).right := by
    cases e : us[i]? with
    | none => simp [InB]
    | some u => exact h.us u (List.mem_of_getElem? e)
  have hh : In1 (hs[i]?.getD 0) := by
    cases e : hs[i]? with
    | none => simp [In1]
    | some u => exact h.hs u (List.mem_of_getElem? e)
  unfold InB at hu b0 p0 b2 p2
  unfold itM
  refine ⟨?_, hh, ?_, ?_, ?_, ?_, ?_, hk2.1, hk2.2.1, hk2.2.2⟩ <;> unfold In1 <;> dsimp only <;> try omega
  unfold Sty.down; omega

theorem rowGo_len (s : Sty) (l : List It) (top tall left : Int) (n : Nat) : ∀ (ks : List Nat) (i : Nat) (a : Int) (out : List Fg), (rowGo s l top tall left n ks i a out).length = out.length
  | [], _, _, _ => rfl
  | k :: ks, i, a, out => by
    rw [rowGo]
    split
    · rw [rowGo_len s l top tall left n ks]; simp
    · rfl
theorem rowM_len (s : Sty) (c : Int) (l : List It) (r : List Nat) (top tall : Int) (out : List Fg) : (rowM s c l r top tall out).length = out.length := rowGo_len ..
theorem tall_in {l : List It} (h : ∀ x ∈ l, ItB x) (r : List Nat) : 0 ≤ tallM l r ∧ tallM l r ≤ 300000000000000 := by
  unfold tallM
  have key : ∀ (r : List Nat) (a : Int), 0 ≤ a ∧ a ≤ 300000000000000 → 0 ≤ r.foldl (fun a k => max a (l[k]?.elim 0 fun x => x.high + x.above + x.below)) a ∧ r.foldl (fun a k => max a (l[k]?.elim 0 fun x => x.high + x.above + x.below)) a ≤ 300000000000000 := by
    intro r
    induction r with
    | nil => intro a h; exact h
    | cons k r ih =>
      intro a ha
      rw [List.foldl_cons]
      refine ih _ ?_
      cases e : l[k]? with
      | none => simp; omega
      | some x =>
        have hx := h x (List.mem_of_getElem? e)
        have h1 := hx.high; have h2 := hx.above; have h3 := hx.below
        unfold In1 at h1 h2 h3
        simp only [Option.elim]; omega
  exact key r 0 (by omega)
theorem rowTall_in {s : Sty} {l : List It} (h : ∀ x ∈ l, ItB x) (hs : In1 s.h.n ∧ In1 s.minh.n ∧ In1 s.maxh.n) (r : List Nat) (only : Bool) : 0 ≤ rowTallM s l r only ∧ rowTallM s l r only ≤ 300000000000000 := by
  unfold rowTallM
  split
  · unfold In1 at hs; unfold highM pxM
    (repeat' split) <;> omega
  · exact tall_in h r

theorem cut_step (l : List Fg) (i : Nat) (h : i < l.length) : ((l.take i).map cutF ++ l.drop i)[i]? = some l[i] ∧ ((l.take i).map cutF ++ l.drop i).set i (cutF l[i]) = (l.take (i + 1)).map cutF ++ l.drop (i + 1) := by
  have e1 : ((l.take i).map cutF).length = i := by simp; omega
  constructor
  · rw [List.getElem?_append_right (by omega), e1, Nat.sub_self, List.getElem?_drop]; simp [h]
  · rw [List.set_append, if_neg (by omega), e1, Nat.sub_self, List.drop_eq_getElem_cons h, List.set_cons_zero, List.take_add_one, List.getElem?_eq_getElem h]
    rw [List.map_append, List.append_assoc]; rfl

theorem rows20_drop (s : Sty) (c : Int) (l : List It) (only : Bool) (rows : List (List Nat)) (i : Nat) (h : i < rows.length) (st : List Fg × Int) : rowsM20 s c l only (rows.drop i) st = rowsM20 s c l only (rows.drop (i + 1)) (rowM s c l rows[i] st.2 (rowTallM s l rows[i] only) st.1, st.2 + rowTallM s l rows[i] only) := by
  rw [List.drop_eq_getElem_cons h]; rfl

set_option maxRecDepth 100000 in
set_option maxHeartbeats 8000000 in
theorem crplace_any (s : Sty) (c : Int) (kids : List Sty) (us : List Us) (hs : List Int) (rows : List RS) (Ak Au Ah Ar : Option Addr) (ck cu ch cr : Nat) (w : World) (hk : Rd w Sty.cells 43 Ak kids) (hu : Rd w Us.cells 3 Au us) (hh : Rd w hC 1 Ah hs) (hr : Rd w RS.cells 1 Ar rows)
    (hri : ∀ r ∈ rows, Rd w kC 1 r.A r.l) (hP : PlB s c kids us hs (rows.map RS.l)) :
    Calls Try.prog 10 #[.agg s.cells.toArray, .int .i64 c, .slice Ak kids.length ck, .slice Au us.length cu, .slice Ah hs.length ch, .slice Ar rows.length cr] w fun e w' => ∃ i : (Option Addr × Nat) × Option Addr × Nat, True ∧
      e = .returned (.tuple #[.slice i.1.1 kids.length i.1.2, .int .i64 (cutM (placeM s c (itemsM c kids us hs) (rows.map RS.l)).2), .slice i.2.1 kids.length i.2.2]) ∧
      Mem w.heap.size w [own i.1.1 kids.length i.1.2 46 5 (((placeM s c (itemsM c kids us hs) (rows.map RS.l)).1.map cutF).flatMap Fg.cells), own i.2.1 kids.length i.2.2 4 1 (((placeM s c (itemsM c kids us hs) (rows.map RS.l)).1.map beyF).map Value.bool)] w' := by
  refine s_callsN (ι := (Option Addr × Nat) × Option Addr × Nat) [(0, .agg s.cells.toArray), (1, .int .i64 c), (2, .slice Ak kids.length ck), (3, .slice Au us.length cu), (4, .slice Ah hs.length ch), (5, .slice Ar rows.length cr)] _ _ (fun _ => True) Try.func10 rfl Try.ntmps10 rfl (by simp) ?_
  have hil : (itemsM c kids us hs).length = kids.length := by unfold itemsM; simp
  have hB := hP.items
  have hT := rowTall_in hB hP.s
  have hpl : placeM s c (itemsM c kids us hs) (rows.map RS.l) = rowsM20 s c (itemsM c kids us hs) (rows.length == 1) (rows.map RS.l) (List.replicate kids.length Fg.zero, 0) := by unfold placeM; rw [List.length_map, hil]
  rw [hpl]
  have hrl := hP.len
  have hn := hP.n
  rw [List.length_map] at hrl
  refine go_ _ ?_
  (first | ((with_reducible apply so_new); rfl; (first | (with_reducible rfl) | assumption | exact decide_eq_true (by omega) | (simp only [Bool.not_eq_true', Bool.not_eq_false', decide_eq_false_iff_not, decide_eq_true_eq] <;> first | assumption | omega) | decide); exact tZ rfl; (first | exact Nat.le_of_ble_eq_true rfl | decide); (intro; rfl); (first | (with_reducible rfl) | assumption | exact decide_eq_true (by omega) | (simp only [Bool.not_eq_true', Bool.not_eq_false', decide_eq_false_iff_not, decide_eq_true_eq] <;> first | assumption | omega) | decide); (intro; rfl); rfl; exact tS rfl; rfl; rfl) | ((with_reducible apply so_alloc); rfl; (first | (with_reducible rfl) | assumption | exact decide_eq_true (by omega) | (simp only [Bool.not_eq_true', Bool.not_eq_false', decide_eq_false_iff_not, decide_eq_true_eq] <;> first | assumption | omega) | decide); exact tZ rfl; (focus ((repeat (first | (with_reducible exact CopyL.agg) | exact CopyL.nil | (apply CopyL.consI; rfl) | (apply CopyL.consB; rfl) | (apply CopyL.consS; rfl) | (apply CopyL.consP; rfl) | (apply CopyL.consF; rfl) | apply CopyL.cons)); done)); (first | exact Nat.le_of_ble_eq_true rfl | decide)) | ((with_reducible apply so_box); rfl; (first | (with_reducible rfl) | assumption | exact decide_eq_true (by omega) | (simp only [Bool.not_eq_true', Bool.not_eq_false', decide_eq_false_iff_not, decide_eq_true_eq] <;> first | assumption | omega) | decide); rfl; (focus ((repeat (first | (with_reducible exact CopyL.agg) | exact CopyL.nil | (apply CopyL.consI; rfl) | (apply CopyL.consB; rfl) | (apply CopyL.consS; rfl) | (apply CopyL.consP; rfl) | (apply CopyL.consF; rfl) | apply CopyL.cons)); done)); (first | exact Nat.le_of_ble_eq_true rfl | decide)))
  intro q0
  refine go_ _ ?_
  refine s_parts (by kernel_rfl) ?_
  refine sg_evt 5 [] [(4, slN kids.length, fun x => [own (some ⟨x.1, 0, none⟩) kids.length kids.length 46 5 ((List.replicate kids.length Fg.zero).flatMap Fg.cells)])]
    (fun α b => row q0 28 s.cells :: (bif b 4 then [own (some ⟨(α 4).1, 0, none⟩) kids.length kids.length 46 5 ((List.replicate kids.length Fg.zero).flatMap Fg.cells)] else [])) (by kernel_rfl) rfl (fun _ => rfl) fun α => go_ _ ?_
  refine se_makeL (a := Fg.zero) rfl (fun _ => rfl) Fg.len (by decide) rfl rfl rfl rfl rfl (by kernel_rfl) (tZ rfl) (by omega) (Nat.le_of_ble_eq_true rfl) (fun b => by cases h4 : b 4 <;> simp [setb, h4] <;> exact (by repeat (first | exact SubH.refl | exact SubH.nil | ((with_reducible apply SubH.cons); (focus ((repeat (first | (with_reducible exact Pick.here) | (with_reducible apply Pick.there))); done))) | ((with_reducible apply SubH.consR); (focus ((repeat (first | (with_reducible exact Pick.here) | (with_reducible apply Pick.there))); done)); (first | rfl | simp; done)) | ((with_reducible apply SubH.consO); (focus ((repeat (first | (with_reducible exact Pick.here) | (with_reducible apply Pick.there))); done)); (first | rfl | simp; done); (first | rfl | simp; done)) | exact SubH.drop SubH.refl | apply SubH.drop))) (go_ _ ?_)
  refine SG.sub (G := [(24, .slice (some ⟨(α 4).1, 0, none⟩) kids.length kids.length), (21, .int .i64 c), (20, .agg s.cells.toArray), (14, .slice none 0 0), (13, .int .i64 0), (2, .slice Ak kids.length ck), (3, .slice Au us.length cu), (4, .slice Ah hs.length ch), (5, .slice Ar rows.length cr)]) (L := [own (some ⟨(α 4).1, 0, none⟩) kids.length kids.length 46 5 ((List.replicate kids.length Fg.zero).flatMap Fg.cells)]) (by repeat (first | exact Sub.nil | refine Sub.cons rfl ?_ | (refine Sub.consB rfl (by (first | rfl | exact decide_eq_decide.2 (by omega) | exact (decide_eq_true (by omega)).symm | exact (decide_eq_false (by omega)).symm | exact decide_eq_true (by omega) | exact decide_eq_false (by omega))) ?_))) (.drop .refl) ?_
  generalize (α 4).1 = qo
  clear α
  have hbuilt : (Try.prog.built 66 [(0, .agg s.cells.toArray), (1, .int .i64 c), (3, .slice (some ⟨qo, 0, none⟩) kids.length kids.length)]).map Array.toList = some (s.cells ++ [.int .i64 c, .slice none 0 0, .slice (some ⟨qo, 0, none⟩) kids.length kids.length]) := by kernel_rfl
  refine sg_free 1 (by kernel_rfl) (go_ _ ?_)
  refine sg_one (by kernel_rfl) ?_
  (first | ((with_reducible apply so_new); rfl; (first | (with_reducible rfl) | assumption | exact decide_eq_true (by omega) | (simp only [Bool.not_eq_true', Bool.not_eq_false', decide_eq_false_iff_not, decide_eq_true_eq] <;> first | assumption | omega) | decide); exact tZ rfl; (first | exact Nat.le_of_ble_eq_true rfl | decide); (intro; rfl); (first | (with_reducible rfl) | assumption | exact decide_eq_true (by omega) | (simp only [Bool.not_eq_true', Bool.not_eq_false', decide_eq_false_iff_not, decide_eq_true_eq] <;> first | assumption | omega) | decide); (intro; rfl); rfl; exact tS rfl; rfl; rfl) | ((with_reducible apply so_alloc); rfl; (first | (with_reducible rfl) | assumption | exact decide_eq_true (by omega) | (simp only [Bool.not_eq_true', Bool.not_eq_false', decide_eq_false_iff_not, decide_eq_true_eq] <;> first | assumption | omega) | decide); exact tZ rfl; (focus ((repeat (first | (with_reducible exact CopyL.agg) | exact CopyL.nil | (apply CopyL.consI; rfl) | (apply CopyL.consB; rfl) | (apply CopyL.consS; rfl) | (apply CopyL.consP; rfl) | (apply CopyL.consF; rfl) | apply CopyL.cons)); done)); (first | exact Nat.le_of_ble_eq_true rfl | decide)) | ((with_reducible apply so_box); rfl; (first | (with_reducible rfl) | assumption | exact decide_eq_true (by omega) | (simp only [Bool.not_eq_true', Bool.not_eq_false', decide_eq_false_iff_not, decide_eq_true_eq] <;> first | assumption | omega) | decide); rfl; (focus ((repeat (first | (with_reducible exact CopyL.agg) | exact CopyL.nil | (apply CopyL.consI; rfl) | (apply CopyL.consB; rfl) | (apply CopyL.consS; rfl) | (apply CopyL.consP; rfl) | (apply CopyL.consF; rfl) | apply CopyL.cons)); done)); (first | exact Nat.le_of_ble_eq_true rfl | decide)))
  intro qp
  refine so_sub (G := [(26, .pointer (some ⟨qp, 0, none⟩)), (14, .slice none 0 0), (13, .int .i64 0), (2, .slice Ak kids.length ck), (3, .slice Au us.length cu), (4, .slice Ah hs.length ch), (5, .slice Ar rows.length cr)]) (L := [row qp 66 (s.cells ++ [.int .i64 c, .slice none 0 0, .slice (some ⟨qo, 0, none⟩) kids.length kids.length]), own (some ⟨qo, 0, none⟩) kids.length kids.length 46 5 ((List.replicate kids.length Fg.zero).flatMap Fg.cells)]) (by repeat (first | exact Sub.nil | refine Sub.cons rfl ?_ | (refine Sub.consB rfl (by (first | rfl | exact decide_eq_decide.2 (by omega) | exact (decide_eq_true (by omega)).symm | exact (decide_eq_false (by omega)).symm | exact decide_eq_true (by omega) | exact decide_eq_false (by omega))) ?_))) .refl ?_
  clear hbuilt
  refine go_ _ ?_
  refine sg_free 1 (by kernel_rfl) (go_ _ ?_)
  have hk' : RdH w.heap.size w [] Sty.cells 43 Ak kids := hk.base rfl
  have hu' : RdH w.heap.size w [] Us.cells 3 Au us := hu.base rfl
  have hh' : RdH w.heap.size w [] hC 1 Ah hs := hh.base rfl
  refine so_callM (ι := Option Addr × Nat) (vs := [.pointer (some ⟨qp, 0, none⟩), .slice Ak kids.length ck, .slice Au us.length cu, .slice Ah hs.length ch]) (I := fun _ => True) .refl (fun w1 h1 => items_any s c kids us hs qp _ Ak Au Ah ck cu ch _ _ w1 _ h1 hk' hu' hh' (by omega) hP.kid (fun u hu => (hP.us u hu).1)) rfl rfl rfl (tF rfl) (Nat.le_of_ble_eq_true rfl) ?_
  rintro ⟨Al, cl⟩ _
  dsimp only
  have hin : ∀ (r : List Nat), r ∈ rows.map RS.l → r.length ≤ 64 ∧ ∀ k ∈ r, k < (itemsM c kids us hs).length := fun r h => by rw [hil]; exact hP.row r h
  have honly : (rows.length == 1) = decide ((rows.length : Int) = 1) := by
    rw [Bool.eq_iff_iff, beq_iff_eq, decide_eq_true_iff]; omega
  rw [honly]
  have hc := hP.c
  clear hpl hk hu hh hk' hu' hh' hP honly
  generalize hod : decide ((rows.length : Int) = 1) = only at *
  generalize itemsM c kids us hs = l at *
  have hn' : l.length ≤ 100 := by omega
  rw [← hil]
  generalize kids.length = n0 at *
  generalize hinit : List.replicate l.length Fg.zero = init
  have hinl : init.length = l.length := by rw [← hinit]; simp
  refine go_ _ ?_
  refine s_ownNil 4 1 ?_
  refine s_loop (ι := Nat × List Fg × Int) (fun i => [(5, .slice Ar rows.length cr), (13, .int .i64 i.2.2), (14, .slice none 0 0), (15, .pointer (some ⟨qp, 0, none⟩)), (32, .slice Ar rows.length cr), (33, .int .i64 (rows.length : Nat)), (34, .int .i64 (i.1 : Nat))])
    (fun i => [row qp 66 (s.cells ++ [.int .i64 c, .slice Al l.length cl, .slice (some ⟨qo, 0, none⟩) l.length l.length]), own Al l.length cl 95 50 (l.flatMap It.cells), own (some ⟨qo, 0, none⟩) l.length l.length 46 5 (i.2.1.flatMap Fg.cells), own none 0 0 4 1 []])
    (fun i => i.1 ≤ rows.length ∧ i.2.1.length = l.length ∧ rowsM20 s c l only ((rows.map RS.l).drop i.1) i.2 = rowsM20 s c l only (rows.map RS.l) (init, 0) ∧ 0 ≤ i.2.2 ∧ i.2.2 ≤ 300000000000000 * (i.1 : Int)) (fun i => rows.length - i.1) (0, init, 0) (by repeat (first | exact Sub.nil | refine Sub.cons rfl ?_ | (refine Sub.consB rfl (by (first | rfl | exact decide_eq_decide.2 (by omega) | exact (decide_eq_true (by omega)).symm | exact (decide_eq_false (by omega)).symm | exact decide_eq_true (by omega) | exact decide_eq_false (by omega))) ?_))) (by repeat (first | exact SubH.refl | exact SubH.nil | ((with_reducible apply SubH.cons); (focus ((repeat (first | (with_reducible exact Pick.here) | (with_reducible apply Pick.there))); done))) | ((with_reducible apply SubH.consR); (focus ((repeat (first | (with_reducible exact Pick.here) | (with_reducible apply Pick.there))); done)); (first | rfl | simp; done)) | ((with_reducible apply SubH.consO); (focus ((repeat (first | (with_reducible exact Pick.here) | (with_reducible apply Pick.there))); done)); (first | rfl | simp; done); (first | rfl | simp; done)) | exact SubH.drop SubH.refl | apply SubH.drop)) ⟨Nat.zero_le _, hinl, rfl, by dsimp only; omega, by dsimp only; omega⟩ ?_
  rintro ⟨i, o, top⟩ ⟨hi, hlo, hgo, hb0⟩
  dsimp only at hi hlo hgo hb0 ⊢
  by_cases hlt : i < rows.length
  · obtain ⟨b1, o1, rfl, hr0⟩ := RdH.at (hr.base (H := []) rfl) (Mem.start w) i hlt
    have hri1 := hri _ (List.getElem_mem hlt)
    have hin1 := hin rows[i].l (List.mem_map.2 ⟨_, List.getElem_mem hlt, rfl⟩)
    have hst := rows20_drop s c l only (rows.map RS.l) i (by simpa using hlt) (o, top)
    rw [hgo] at hst
    rw [List.getElem_map] at hst
    generalize rows[i] = r at *
    obtain ⟨rA, rl, rc⟩ := r
    unfold RS.cells at hr0
    dsimp only at hst hri1 hin1 hr0
    have hT1 := hT rl only
    have hcT : ∀ w1, Mem w.heap.size w [row qp 66 (s.cells ++ [.int .i64 c, .slice Al l.length cl, .slice (some ⟨qo, 0, none⟩) l.length l.length]), own Al l.length cl 95 50 (l.flatMap It.cells)] w1 → _ := fun w1 h1 =>
      tall_any s c l rl only qp Al rA cl rc _ w1 ((row qp _ _).lt rfl (h1.ok _ (List.mem_cons_self ..)).1) (rw_here w1 h1) (own_rd (by decide) It.len w1 h1.tail) (hri1.keep h1.below) (by omega) hin1.2 hB
    have hcR : ∀ w1, Mem w.heap.size w _ w1 → _ := fun w1 h1 => row_any s c l o rl top (rowTallM s l rl only) qp l.length Al (some ⟨qo, 0, none⟩) rA cl l.length rc w.heap.size w w1 [own none 0 0 4 1 []] h1 (hri1.base rfl) hin1.1 hin1.2 hlo rfl hB hc (by omega) hT1
    have hlen2 := rowM_len s c l rl top (rowTallM s l rl only) o
    clear hgo hr hri hin hT hB hc hri1
    generalize rowTallM s l rl only = tall at *
    refine go_ _ ?_
    refine so_callQ (vs := [.pointer (some ⟨qp, 0, none⟩), .slice rA rl.length rc, .bool (decide ((rows.length : Int) = 1))]) (fun w1 h1 => by rw [hod]; exact hcT w1 (h1.sub (by repeat (first | exact SubH.refl | exact SubH.nil | ((with_reducible apply SubH.cons); (focus ((repeat (first | (with_reducible exact Pick.here) | (with_reducible apply Pick.there))); done))) | ((with_reducible apply SubH.consR); (focus ((repeat (first | (with_reducible exact Pick.here) | (with_reducible apply Pick.there))); done)); (first | rfl | simp; done)) | ((with_reducible apply SubH.consO); (focus ((repeat (first | (with_reducible exact Pick.here) | (with_reducible apply Pick.there))); done)); (first | rfl | simp; done); (first | rfl | simp; done)) | exact SubH.drop SubH.refl | apply SubH.drop)))) rfl rfl rfl (tF rfl) (Nat.le_of_ble_eq_true rfl) (go_ _ ?_)
    refine so_callM (ι := Unit) (vs := [.pointer (some ⟨qp, 0, none⟩), .slice rA rl.length rc, .int .i64 top, .int .i64 tall]) (I := fun _ => True) .refl (fun w1 h1 => hcR w1 h1) rfl rfl rfl (tF rfl) (Nat.le_of_ble_eq_true rfl) ?_
    rintro _ _
    refine go_ _ ?_
    exact ⟨(i + 1, rowM s c l rl top tall o, top + tall), by dsimp only; omega, (by repeat (first | exact Sub.nil | refine Sub.cons rfl ?_ | (refine Sub.consB rfl (by (first | rfl | exact decide_eq_decide.2 (by omega) | exact (decide_eq_true (by omega)).symm | exact (decide_eq_false (by omega)).symm | exact decide_eq_true (by omega) | exact decide_eq_false (by omega))) ?_))), (by repeat (first | exact SubH.refl | exact SubH.nil | ((with_reducible apply SubH.cons); (focus ((repeat (first | (with_reducible exact Pick.here) | (with_reducible apply Pick.there))); done))) | ((with_reducible apply SubH.consR); (focus ((repeat (first | (with_reducible exact Pick.here) | (with_reducible apply Pick.there))); done)); (first | rfl | simp; done)) | ((with_reducible apply SubH.consO); (focus ((repeat (first | (with_reducible exact Pick.here) | (with_reducible apply Pick.there))); done)); (first | rfl | simp; done); (first | rfl | simp; done)) | exact SubH.drop SubH.refl | apply SubH.drop)), by dsimp only; omega, by dsimp only; omega, hst.symm, by dsimp only; omega, by dsimp only; omega⟩
  obtain rfl : i = rows.length := by omega
  rw [List.drop_of_length_le (by simp)] at hgo
  have hgo : (o, top) = rowsM20 s c l only (rows.map RS.l) (init, 0) := hgo
  rw [← hgo]
  clear hgo hr hri hin hT hB hc
  dsimp only
  refine go_ _ ?_
  refine s_loop (ι := Nat × Option Addr × Nat) (fun i => [(13, .int .i64 top), (14, .slice i.2.1 i.1 i.2.2), (15, .pointer (some ⟨qp, 0, none⟩)), (57, .int .i64 (l.length : Nat)), (58, .int .i64 (i.1 : Nat))])
    (fun i => [own (some ⟨qo, 0, none⟩) l.length l.length 46 5 (((o.take i.1).map cutF ++ o.drop i.1).flatMap Fg.cells), row qp 66 (s.cells ++ [.int .i64 c, .slice Al l.length cl, .slice (some ⟨qo, 0, none⟩) l.length l.length]), own i.2.1 i.1 i.2.2 4 1 (((o.take i.1).map beyF).map Value.bool)])
    (fun i => i.1 ≤ l.length) (fun i => l.length - i.1) (0, none, 0) (by repeat (first | exact Sub.nil | refine Sub.cons rfl ?_ | (refine Sub.consB rfl (by (first | rfl | exact decide_eq_decide.2 (by omega) | exact (decide_eq_true (by omega)).symm | exact (decide_eq_false (by omega)).symm | exact decide_eq_true (by omega) | exact decide_eq_false (by omega))) ?_))) (by repeat (first | exact SubH.refl | exact SubH.nil | ((with_reducible apply SubH.cons); (focus ((repeat (first | (with_reducible exact Pick.here) | (with_reducible apply Pick.there))); done))) | ((with_reducible apply SubH.consR); (focus ((repeat (first | (with_reducible exact Pick.here) | (with_reducible apply Pick.there))); done)); (first | rfl | simp; done)) | ((with_reducible apply SubH.consO); (focus ((repeat (first | (with_reducible exact Pick.here) | (with_reducible apply Pick.there))); done)); (first | rfl | simp; done); (first | rfl | simp; done)) | exact SubH.drop SubH.refl | apply SubH.drop)) (Nat.zero_le _) ?_
  rintro ⟨i, A3, c3⟩ hi3
  dsimp only at hi3 ⊢
  by_cases hlt : i < l.length
  · have hcs := cut_step o i (by omega)
    have hbs : ((o.take (i + 1)).map beyF).map Value.bool = ((o.take i).map beyF).map Value.bool ++ [.bool (beyF (o[i]'(by omega)))] := by
      rw [List.take_add_one, List.getElem?_eq_getElem (by omega), Option.toList_some, List.map_append, List.map_append]; rfl
    generalize (o[i]'(by omega)) = f at *
    generalize ((o.take i).map beyF).map Value.bool = bs at *
    have hc3 : ∀ w1, Mem w.heap.size w _ w1 → _ := fun w1 h1 => crcut_any ((o.take i).map cutF ++ o.drop i) i qo l.length l.length f w.heap.size w w1 [row qp 66 (s.cells ++ [.int .i64 c, .slice Al l.length cl, .slice (some ⟨qo, 0, none⟩) l.length l.length]), own A3 i c3 4 1 bs] h1 hcs.1
    rw [hcs.2] at hc3
    generalize (o.take i).map cutF ++ o.drop i = o1 at *
    refine go_ _ ?_
    refine so_callM (ι := Unit) (vs := [.pointer (some ⟨qo, 0 + i * 5, none⟩)]) (I := fun _ => True) .refl (fun w1 h1 => hc3 w1 h1) rfl rfl rfl (tF rfl) (Nat.le_of_ble_eq_true rfl) ?_
    rintro _ _
    refine go_ _ ?_
    refine so_slice1 (e := 4) (sz := 1) rfl (by (first | (with_reducible rfl) | assumption | exact decide_eq_true (by omega) | (simp only [Bool.not_eq_true', Bool.not_eq_false', decide_eq_false_iff_not, decide_eq_true_eq] <;> first | assumption | omega) | decide)) rfl (by kernel_rfl) rfl (Nat.le_of_ble_eq_true rfl) fun q5 => go_ _ ?_
    refine so_append1 (e := 4) (sz := 1) rfl (by (first | (with_reducible rfl) | assumption | exact decide_eq_true (by omega) | (simp only [Bool.not_eq_true', Bool.not_eq_false', decide_eq_false_iff_not, decide_eq_true_eq] <;> first | assumption | omega) | decide)) rfl rfl (by kernel_rfl) (Nat.le_of_ble_eq_true rfl) (fun A'' cap'' => (by (focus ((repeat (first | (with_reducible exact Upd.here) | (with_reducible apply Upd.there))); done)))) rw_here rfl rfl (by omega) fun A4 c4 => ?_
    refine go_ _ ?_
    exact ⟨(i + 1, A4, c4), by dsimp only; omega, (by repeat (first | exact Sub.nil | refine Sub.cons rfl ?_ | (refine Sub.consB rfl (by (first | rfl | exact decide_eq_decide.2 (by omega) | exact (decide_eq_true (by omega)).symm | exact (decide_eq_false (by omega)).symm | exact decide_eq_true (by omega) | exact decide_eq_false (by omega))) ?_))), by rw [hbs]; exact (by repeat (first | exact SubH.refl | exact SubH.nil | ((with_reducible apply SubH.cons); (focus ((repeat (first | (with_reducible exact Pick.here) | (with_reducible apply Pick.there))); done))) | ((with_reducible apply SubH.consR); (focus ((repeat (first | (with_reducible exact Pick.here) | (with_reducible apply Pick.there))); done)); (first | rfl | simp; done)) | ((with_reducible apply SubH.consO); (focus ((repeat (first | (with_reducible exact Pick.here) | (with_reducible apply Pick.there))); done)); (first | rfl | simp; done); (first | rfl | simp; done)) | exact SubH.drop SubH.refl | apply SubH.drop)), by dsimp only; omega⟩
  obtain rfl : i = l.length := by omega
  have e1 : o.take l.length = o := List.take_of_length_le (by omega)
  have e2 : o.drop l.length = [] := List.drop_of_length_le (by omega)
  rw [e1, e2, List.append_nil]
  refine go_ _ ?_
  refine so_callQ (fun w1 _ => aucut_any top w1) rfl rfl rfl (tF rfl) (Nat.le_of_ble_eq_true rfl) (go_ _ ?_)
  exact sret3 rfl rfl rfl rfl ⟨((some ⟨qo, 0, none⟩, l.length), A3, c3), trivial, rfl, (by repeat (first | exact SubH.refl | exact SubH.nil | ((with_reducible apply SubH.cons); (focus ((repeat (first | (with_reducible exact Pick.here) | (with_reducible apply Pick.there))); done))) | ((with_reducible apply SubH.consR); (focus ((repeat (first | (with_reducible exact Pick.here) | (with_reducible apply Pick.there))); done)); (first | rfl | simp; done)) | ((with_reducible apply SubH.consO); (focus ((repeat (first | (with_reducible exact Pick.here) | (with_reducible apply Pick.there))); done)); (first | rfl | simp; done); (first | rfl | simp; done)) | exact SubH.drop SubH.refl | apply SubH.drop))⟩
end Go.Proofs.Ytdoihebekbfnbaa
