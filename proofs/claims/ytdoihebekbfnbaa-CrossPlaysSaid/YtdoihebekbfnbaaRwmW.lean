/- The walks of the document's items of a Flex, their order, their rows (jambref19). -/
import Derived.Test.YtdoihebekbfnbaaRwmM
import Derived.Test.YtdoihebekbfnbaaRws
import Derived.Test.YtdoihebekbfnbaaWinL
namespace Go.Proofs.Ytdoihebekbfnbaa
open Go.RowKit

structure RB (c : Int) (s : Sty) : Prop where
  st : StB s c
  basis : LnB s.basis c

theorem Sty.len' (s : Sty) : s.cells.length = 43 := rfl
theorem clamp_in {s : Sty} {c : Int} (h : StB s c) {x : Int} (hx : x ≤ 11000000000000) : 0 ≤ clampM s c x ∧ clampM s c x ≤ 11000000000000 := by
  have h1 := h.maxw.res; have h2 := h.minw.res
  unfold clampM
  dsimp only
  (repeat' split) <;> omega
theorem base_in {s : Sty} {c : Int} (h : RB c s) {g : Int} (hg : -11000000000000 ≤ g ∧ g ≤ 11000000000000) : -11000000000000 ≤ baseM c s g ∧ baseM c s g ≤ 11000000000000 := by
  have h1 := h.basis.res; have h2 := h.st.w.res
  unfold baseM
  (repeat' split) <;> omega

set_option maxRecDepth 100000 in
set_option maxHeartbeats 8000000 in
theorem ritems_any (c : Int) (kids : List Sty) (got : List Ct) (Ak Ag : Option Addr) (ck cg : Nat) (w : World) (hk : Rd w Sty.cells 43 Ak kids) (hg : Rd w Ct.cells 4 Ag got) (hB : ∀ s ∈ kids, RB c s) (hG : ∀ x ∈ got, InB x.greatest) (hlk : kids.length ≤ 100000) :
    Calls Try.prog 18 #[.int .i64 c, .slice Ak kids.length ck, .slice Ag got.length cg] w fun e w' => ∃ i : Option Addr × Nat, True ∧ e = .returned (.slice i.1 kids.length i.2) ∧ Mem w.heap.size w [own i.1 kids.length i.2 62 51 ((risM c kids got).flatMap RI.cells)] w' := by
  refine s_callsN (ι := Option Addr × Nat) [(0, .int .i64 c), (1, .slice Ak kids.length ck), (2, .slice Ag got.length cg)] (fun i => .slice i.1 kids.length i.2) (fun i => [own i.1 kids.length i.2 62 51 ((risM c kids got).flatMap RI.cells)]) (fun _ => True) Try.func18 rfl Try.ntmps18 rfl (by simp) ?_
  have hk0 := hk.base (B := w.heap.size) (H := []) rfl
  have hg0 := hg.base (B := w.heap.size) (H := []) rfl
  have hlen := risM_len c kids got
  refine go_ _ ?_
  refine s_ownNil 62 51 ?_
  refine s_loop (ι := Nat × Option Addr × Nat) (fun i => [(0, .int .i64 c), (1, .slice Ak kids.length ck), (2, .slice Ag got.length cg), (7, .slice i.2.1 i.1 i.2.2), (8, .int .i64 (i.1 : Nat))])
    (fun i => [own i.2.1 i.1 i.2.2 62 51 (((risM c kids got).take i.1).flatMap RI.cells)]) (fun i => i.1 ≤ kids.length) (fun i => kids.length - i.1) (0, none, 0) (by repeat (first | exact Sub.nil | refine Sub.cons rfl ?_ | (refine Sub.consB rfl (by (first | rfl | exact decide_eq_decide.2 (by omega) | exact (decide_eq_true (by omega)).symm | exact (decide_eq_false (by omega)).symm | exact decide_eq_true (by omega) | exact decide_eq_false (by omega))) ?_))) (by repeat (first | exact SubH.refl | exact SubH.nil | ((with_reducible apply SubH.cons); (focus ((repeat (first | (with_reducible exact Pick.here) | (with_reducible apply Pick.there))); done))) | ((with_reducible apply SubH.consR); (focus ((repeat (first | (with_reducible exact Pick.here) | (with_reducible apply Pick.there))); done)); (first | rfl | simp; done)) | ((with_reducible apply SubH.consO); (focus ((repeat (first | (with_reducible exact Pick.here) | (with_reducible apply Pick.there))); done)); (first | rfl | simp; done); (first | rfl | simp; done)) | exact SubH.drop SubH.refl | apply SubH.drop)) (Nat.zero_le _) ?_
  rintro ⟨i, A, cap⟩ hi
  dsimp only at hi ⊢
  by_cases hlt : i < kids.length
  · obtain ⟨b1, o1, rfl, hr0⟩ := RdH.at hk0 (Mem.start w) i hlt
    have hK := hB _ (List.getElem_mem hlt)
    have hT : ((risM c kids got).take (i + 1)).flatMap RI.cells = ((risM c kids got).take i).flatMap RI.cells ++ (riM c kids[i] (got[i]?.elim 0 Ct.greatest)).cells := by
      rw [risM_take c kids got i hlt, List.flatMap_append]; simp
    have hm3 := hK.st.m3.res; have hm1 := hK.st.m1.res; have hfr := hK.st.frame_in
    have hgi : InB (got[i]?.elim 0 Ct.greatest) := by
      cases e : got[i]? with
      | none => unfold InB; decide
      | some u => exact hG u (List.mem_of_getElem? e)
    have hbi := base_in hK hgi
    have hw0 := hK.st.w.res
    generalize kids[i] = s at *
    generalize ((risM c kids got).take i).flatMap RI.cells = xs at *
    have hriM : riM c s (got[i]?.elim 0 Ct.greatest) = ⟨s, (resM s.m3 c).1, (resM s.m1 c).1, sidesM c s, baseM c s (got[i]?.elim 0 Ct.greatest), clampM s c (baseM c s (got[i]?.elim 0 Ct.greatest)), 0, false, 0⟩ := rfl
    have c1 := fun w1 => rresolve_any s.m3 c w1 hK.st.m3
    have c2 := fun w1 => rresolve_any s.m1 c w1 hK.st.m1
    have c3 := fun w1 => rframe_any s c w1 hK.st
    have c4 := fun w1 => rresolve_any s.basis c w1 hK.basis
    have c5 := fun w1 => rresolve_any s.w c w1 hK.st.w
    have c6 := fun x w1 => rclamp_any s c x w1 hK.st
    have hbd : ∀ g, baseM c s g = if (resM s.basis c).2 = true then (resM s.basis c).1 else if (resM s.w c).2 = true then (resM s.w c).1 else g := fun _ => rfl
    have hsd : sidesM c s = (resM s.m3 c).1 + (resM s.m1 c).1 + s.frame := rfl
    have hw00 : (resM s.w c).2 = false → (resM s.w c).1 = 0 := fun h => by
      unfold resM at h ⊢
      split at h
      · cases h
      · split at h
        · cases h
        · rw [if_neg (by assumption), if_neg (by assumption)]
    rw [hriM] at hT
    clear hriM hK hB hk hk0
    generalize resM s.m3 c = r1 at *
    generalize resM s.m1 c = r2 at *
    generalize resM s.basis c = r4 at *
    generalize resM s.w c = r5 at *
    obtain ⟨n1, f1⟩ := r1
    obtain ⟨n2, f2⟩ := r2
    obtain ⟨n4, f4⟩ := r4
    obtain ⟨n5, f5⟩ := r5
    dsimp only at *
    generalize sidesM c s = sd at *
    refine go_ _ ?_
    refine so_alloc (cs := riC ⟨0, false, 0, 0, ⟨0, 0⟩, ⟨0, 0⟩, ⟨0, 0⟩, ⟨0, 0⟩, ⟨0, 0⟩, ⟨0, 0⟩, ⟨0, 0⟩, ⟨0, 0⟩, ⟨0, 0⟩, ⟨0, 0⟩, 0, 0, 0, 0, 0, 0, 0, 0, 0, 0, false, 0, 0, 0, 0, 0, ⟨0, 0⟩, none, 0, 0⟩ 0 0 0 0 0 0 false 0) rfl rfl (tZ rfl) (CopyL.refl _) (Nat.le_of_ble_eq_true rfl) fun q => go_ _ ?_
    refine so_storeR (t' := 62) (vs := s.cells) (cs' := riC s 0 0 0 0 0 0 false 0) rfl rfl rfl rfl rfl (tS rfl) rfl rfl .here (go_ _ ?_)
    refine so_callQ (fun w1 _ => c1 w1) rfl rfl rfl (tF rfl) (Nat.le_of_ble_eq_true rfl) (go_ _ ?_)
    refine so_storeE (t' := 62) (cs' := riC s n1 0 0 0 0 0 false 0) rfl rfl rfl rfl rfl (tS rfl) rfl (Nat.le_of_ble_eq_true rfl) .here (go_ _ ?_)
    refine so_callQ (fun w1 _ => c2 w1) rfl rfl rfl (tF rfl) (Nat.le_of_ble_eq_true rfl) (go_ _ ?_)
    refine so_storeE (t' := 62) (cs' := riC s n1 n2 0 0 0 0 false 0) rfl rfl rfl rfl rfl (tS rfl) rfl (Nat.le_of_ble_eq_true rfl) .here (go_ _ ?_)
    refine so_callQ (fun w1 _ => c3 w1) rfl rfl rfl (tF rfl) (Nat.le_of_ble_eq_true rfl) (go_ _ ?_)
    refine so_storeE (t' := 62) (cs' := riC s n1 n2 (n1 + n2 + s.frame) 0 0 0 false 0) rfl rfl rfl rfl rfl (tS rfl) rfl (Nat.le_of_ble_eq_true rfl) .here (go_ _ ?_)
    refine so_callQ (fun w1 _ => c4 w1) rfl rfl rfl (tF rfl) (Nat.le_of_ble_eq_true rfl) (go_ _ ?_)
    rw [← hsd]
    clear c1 c2 c3 c4
    refine s_meet (ι := Int × Bool) (fun x => [(0, .int .i64 c), (1, .slice (some ⟨b1, o1, none⟩) kids.length ck), (2, .slice Ag got.length cg), (7, .slice A i cap), (8, .int .i64 (i : Nat)), (9, .pointer (some ⟨q, 0, none⟩)), (12, .int .i64 x.1), (13, .bool x.2)]) (fun _ => [row q 62 (riC s n1 n2 sd 0 0 0 false 0), own A i cap 62 51 xs]) (fun x => (x.2 = false → x.1 = 0 ∧ ∀ g, baseM c s g = g) ∧ (x.2 = true → ∀ g, baseM c s g = x.1)) ?_ ?_
    · cases f4
      · skip
        refine go_ _ ?_
        refine so_callQ (fun w1 _ => c5 w1) rfl rfl rfl (tF rfl) (Nat.le_of_ble_eq_true rfl) (go_ _ ?_)
        exact ⟨(n5, f5), (by repeat (first | exact Sub.nil | refine Sub.cons rfl ?_ | (refine Sub.consB rfl (by (first | rfl | exact decide_eq_decide.2 (by omega) | exact (decide_eq_true (by omega)).symm | exact (decide_eq_false (by omega)).symm | exact decide_eq_true (by omega) | exact decide_eq_false (by omega))) ?_))), .refl, fun h => ⟨hw00 h, fun g => by rw [hbd, if_neg (by decide), if_neg (by dsimp only at h; rw [h]; decide)]⟩, fun h g => by rw [hbd, if_neg (by decide), if_pos h]⟩
      · skip
        refine go_ _ ?_
        exact ⟨(n4, true), (by repeat (first | exact Sub.nil | refine Sub.cons rfl ?_ | (refine Sub.consB rfl (by (first | rfl | exact decide_eq_decide.2 (by omega) | exact (decide_eq_true (by omega)).symm | exact (decide_eq_false (by omega)).symm | exact decide_eq_true (by omega) | exact decide_eq_false (by omega))) ?_))), .refl, fun h => absurd h (by simp), fun h g => by rw [hbd, if_pos rfl]⟩
    clear c5 hbd hw00 hw0
    rintro ⟨nx, fx⟩ ⟨hb1, hb2⟩
    dsimp only at hb1 hb2 ⊢
    cases fx
    · obtain ⟨rfl, hb⟩ := hb1 rfl
      rw [hb] at hT
      by_cases hig : i < got.length
      · obtain ⟨b2, o2, rfl, hr2⟩ := RdH.at hg0 (Mem.start w) i hig
        rw [List.getElem?_eq_getElem hig] at hT
        simp only [Option.elim_some] at hT
        generalize got[i] = gx at *
        obtain ⟨ga, gy, gz, gw⟩ := gx
        unfold Ct.cells at hr2
        dsimp only at hT hr2
        refine go_ _ ?_
        refine so_storeE (t' := 62) (cs' := riC s n1 n2 sd gy 0 0 false 0) rfl rfl rfl rfl rfl (tS rfl) rfl (Nat.le_of_ble_eq_true rfl) .here (go_ _ ?_)
        refine so_callQ (fun w1 _ => c6 gy w1) rfl rfl rfl (tF rfl) (Nat.le_of_ble_eq_true rfl) (go_ _ ?_)
        refine so_storeE (t' := 62) (cs' := riC s n1 n2 sd gy (clampM s c gy) 0 false 0) rfl rfl rfl rfl rfl (tS rfl) rfl (Nat.le_of_ble_eq_true rfl) .here (go_ _ ?_)
        refine so_slice1 (e := 62) (sz := 51) rfl (by (first | (with_reducible rfl) | assumption | exact decide_eq_true (by omega) | (simp only [Bool.not_eq_true', Bool.not_eq_false', decide_eq_false_iff_not, decide_eq_true_eq] <;> first | assumption | omega) | decide)) rfl (by kernel_rfl) rfl (Nat.le_of_ble_eq_true rfl) fun q1 => go_ _ ?_
        refine so_append1 (e := 62) (sz := 51) (news := riC s n1 n2 sd gy (clampM s c gy) 0 false 0) rfl (by (first | (with_reducible rfl) | assumption | exact decide_eq_true (by omega) | (simp only [Bool.not_eq_true', Bool.not_eq_false', decide_eq_false_iff_not, decide_eq_true_eq] <;> first | assumption | omega) | decide)) rfl rfl (by kernel_rfl) (Nat.le_of_ble_eq_true rfl) (fun A'' cap'' => (by (focus ((repeat (first | (with_reducible exact Upd.here) | (with_reducible apply Upd.there))); done)))) rw_here rfl rfl (by omega) fun B5 d5 => go_ _ ?_
        exact ⟨(i + 1, B5, d5), by dsimp only; omega, (by repeat (first | exact Sub.nil | refine Sub.cons rfl ?_ | (refine Sub.consB rfl (by (first | rfl | exact decide_eq_decide.2 (by omega) | exact (decide_eq_true (by omega)).symm | exact (decide_eq_false (by omega)).symm | exact decide_eq_true (by omega) | exact decide_eq_false (by omega))) ?_))), by rw [hT]; exact (by repeat (first | exact SubH.refl | exact SubH.nil | ((with_reducible apply SubH.cons); (focus ((repeat (first | (with_reducible exact Pick.here) | (with_reducible apply Pick.there))); done))) | ((with_reducible apply SubH.consR); (focus ((repeat (first | (with_reducible exact Pick.here) | (with_reducible apply Pick.there))); done)); (first | rfl | simp; done)) | ((with_reducible apply SubH.consO); (focus ((repeat (first | (with_reducible exact Pick.here) | (with_reducible apply Pick.there))); done)); (first | rfl | simp; done); (first | rfl | simp; done)) | exact SubH.drop SubH.refl | apply SubH.drop)), by dsimp only; omega⟩
      · rw [List.getElem?_eq_none (by omega)] at hT
        simp only [Option.elim_none] at hT
        refine go_ _ ?_
        refine so_storeE (t' := 62) (cs' := riC s n1 n2 sd 0 0 0 false 0) rfl rfl rfl rfl rfl (tS rfl) rfl (Nat.le_of_ble_eq_true rfl) .here (go_ _ ?_)
        refine so_callQ (fun w1 _ => c6 0 w1) rfl rfl rfl (tF rfl) (Nat.le_of_ble_eq_true rfl) (go_ _ ?_)
        refine so_storeE (t' := 62) (cs' := riC s n1 n2 sd 0 (clampM s c 0) 0 false 0) rfl rfl rfl rfl rfl (tS rfl) rfl (Nat.le_of_ble_eq_true rfl) .here (go_ _ ?_)
        refine so_slice1 (e := 62) (sz := 51) rfl (by (first | (with_reducible rfl) | assumption | exact decide_eq_true (by omega) | (simp only [Bool.not_eq_true', Bool.not_eq_false', decide_eq_false_iff_not, decide_eq_true_eq] <;> first | assumption | omega) | decide)) rfl (by kernel_rfl) rfl (Nat.le_of_ble_eq_true rfl) fun q1 => go_ _ ?_
        refine so_append1 (e := 62) (sz := 51) (news := riC s n1 n2 sd 0 (clampM s c 0) 0 false 0) rfl (by (first | (with_reducible rfl) | assumption | exact decide_eq_true (by omega) | (simp only [Bool.not_eq_true', Bool.not_eq_false', decide_eq_false_iff_not, decide_eq_true_eq] <;> first | assumption | omega) | decide)) rfl rfl (by kernel_rfl) (Nat.le_of_ble_eq_true rfl) (fun A'' cap'' => (by (focus ((repeat (first | (with_reducible exact Upd.here) | (with_reducible apply Upd.there))); done)))) rw_here rfl rfl (by omega) fun B5 d5 => go_ _ ?_
        exact ⟨(i + 1, B5, d5), by dsimp only; omega, (by repeat (first | exact Sub.nil | refine Sub.cons rfl ?_ | (refine Sub.consB rfl (by (first | rfl | exact decide_eq_decide.2 (by omega) | exact (decide_eq_true (by omega)).symm | exact (decide_eq_false (by omega)).symm | exact decide_eq_true (by omega) | exact decide_eq_false (by omega))) ?_))), by rw [hT]; exact (by repeat (first | exact SubH.refl | exact SubH.nil | ((with_reducible apply SubH.cons); (focus ((repeat (first | (with_reducible exact Pick.here) | (with_reducible apply Pick.there))); done))) | ((with_reducible apply SubH.consR); (focus ((repeat (first | (with_reducible exact Pick.here) | (with_reducible apply Pick.there))); done)); (first | rfl | simp; done)) | ((with_reducible apply SubH.consO); (focus ((repeat (first | (with_reducible exact Pick.here) | (with_reducible apply Pick.there))); done)); (first | rfl | simp; done); (first | rfl | simp; done)) | exact SubH.drop SubH.refl | apply SubH.drop)), by dsimp only; omega⟩
    · rw [hb2 rfl] at hT
      refine go_ _ ?_
      refine so_storeE (t' := 62) (cs' := riC s n1 n2 sd nx 0 0 false 0) rfl rfl rfl rfl rfl (tS rfl) rfl (Nat.le_of_ble_eq_true rfl) .here (go_ _ ?_)
      refine so_callQ (fun w1 _ => c6 nx w1) rfl rfl rfl (tF rfl) (Nat.le_of_ble_eq_true rfl) (go_ _ ?_)
      refine so_storeE (t' := 62) (cs' := riC s n1 n2 sd nx (clampM s c nx) 0 false 0) rfl rfl rfl rfl rfl (tS rfl) rfl (Nat.le_of_ble_eq_true rfl) .here (go_ _ ?_)
      refine so_slice1 (e := 62) (sz := 51) rfl (by (first | (with_reducible rfl) | assumption | exact decide_eq_true (by omega) | (simp only [Bool.not_eq_true', Bool.not_eq_false', decide_eq_false_iff_not, decide_eq_true_eq] <;> first | assumption | omega) | decide)) rfl (by kernel_rfl) rfl (Nat.le_of_ble_eq_true rfl) fun q1 => go_ _ ?_
      refine so_append1 (e := 62) (sz := 51) (news := riC s n1 n2 sd nx (clampM s c nx) 0 false 0) rfl (by (first | (with_reducible rfl) | assumption | exact decide_eq_true (by omega) | (simp only [Bool.not_eq_true', Bool.not_eq_false', decide_eq_false_iff_not, decide_eq_true_eq] <;> first | assumption | omega) | decide)) rfl rfl (by kernel_rfl) (Nat.le_of_ble_eq_true rfl) (fun A'' cap'' => (by (focus ((repeat (first | (with_reducible exact Upd.here) | (with_reducible apply Upd.there))); done)))) rw_here rfl rfl (by omega) fun B5 d5 => go_ _ ?_
      exact ⟨(i + 1, B5, d5), by dsimp only; omega, (by repeat (first | exact Sub.nil | refine Sub.cons rfl ?_ | (refine Sub.consB rfl (by (first | rfl | exact decide_eq_decide.2 (by omega) | exact (decide_eq_true (by omega)).symm | exact (decide_eq_false (by omega)).symm | exact decide_eq_true (by omega) | exact decide_eq_false (by omega))) ?_))), by rw [hT]; exact (by repeat (first | exact SubH.refl | exact SubH.nil | ((with_reducible apply SubH.cons); (focus ((repeat (first | (with_reducible exact Pick.here) | (with_reducible apply Pick.there))); done))) | ((with_reducible apply SubH.consR); (focus ((repeat (first | (with_reducible exact Pick.here) | (with_reducible apply Pick.there))); done)); (first | rfl | simp; done)) | ((with_reducible apply SubH.consO); (focus ((repeat (first | (with_reducible exact Pick.here) | (with_reducible apply Pick.there))); done)); (first | rfl | simp; done); (first | rfl | simp; done)) | exact SubH.drop SubH.refl | apply SubH.drop)), by dsimp only; omega⟩
  · obtain rfl : i = kids.length := by omega
    rw [List.take_of_length_le (by omega)]
    refine go_ _ ?_
    exact sret1 rfl rfl ⟨(A, cap), trivial, rfl, (by repeat (first | exact SubH.refl | exact SubH.nil | ((with_reducible apply SubH.cons); (focus ((repeat (first | (with_reducible exact Pick.here) | (with_reducible apply Pick.there))); done))) | ((with_reducible apply SubH.consR); (focus ((repeat (first | (with_reducible exact Pick.here) | (with_reducible apply Pick.there))); done)); (first | rfl | simp; done)) | ((with_reducible apply SubH.consO); (focus ((repeat (first | (with_reducible exact Pick.here) | (with_reducible apply Pick.there))); done)); (first | rfl | simp; done); (first | rfl | simp; done)) | exact SubH.drop SubH.refl | apply SubH.drop))⟩

/-! The order. -/
def gapL (out : List Nat) (k x : Nat) : List Nat := out.take k ++ x :: out.drop k
theorem gapL_len (out : List Nat) (k x : Nat) : (gapL out k x).length = out.length + 1 := by unfold gapL; simp; omega
theorem gapL_set (out : List Nat) (k x y : Nat) (h : k ≤ out.length) : (gapL out k x).set k y = gapL out k y := by
  unfold gapL
  rw [List.set_append, if_neg (by simp; omega), List.length_take, Nat.min_eq_left h, Nat.sub_self, List.set_cons_zero]
theorem gapL_get (out : List Nat) (k x : Nat) (h : k < out.length) : (gapL out (k + 1) x)[k]? = some out[k] := by
  unfold gapL
  rw [List.getElem?_append_left (by simp; omega), List.getElem?_take, if_pos (by omega), List.getElem?_eq_getElem h]
theorem gapL_move (out : List Nat) (k : Nat) (h : k < out.length) : gapL out (k + 1) out[k] = gapL out k out[k] := by
  unfold gapL
  rw [List.take_add_one, List.getElem?_eq_getElem h, Option.toList_some, List.append_assoc]
  conv => rhs; rw [List.drop_eq_getElem_cons h]
  rfl
theorem gapL_end (out : List Nat) (x : Nat) : gapL out out.length x = out ++ [x] := by unfold gapL; simp

set_option maxRecDepth 100000 in
set_option maxHeartbeats 8000000 in
theorem rorder_any (kids : List Sty) (Ak : Option Addr) (ck : Nat) (w : World) (hk : Rd w Sty.cells 43 Ak kids) (hlk : kids.length ≤ 100000) :
    Calls Try.prog 19 #[.slice Ak kids.length ck] w fun e w' => ∃ i : Option Addr × Nat, True ∧ e = .returned (.slice i.1 kids.length i.2) ∧ Mem w.heap.size w [own i.1 kids.length i.2 3 1 ((orderM (keyM kids) kids.length).flatMap kC)] w' := by
  refine s_callsN (ι := Option Addr × Nat) [(0, .slice Ak kids.length ck)] (fun i => .slice i.1 kids.length i.2) (fun i => [own i.1 kids.length i.2 3 1 ((orderM (keyM kids) kids.length).flatMap kC)]) (fun _ => True) Try.func19 rfl Try.ntmps19 rfl (by simp) ?_
  have hk0 := hk.base (B := w.heap.size) (H := []) rfl
  refine go_ _ ?_
  refine s_ownNil 3 1 ?_
  refine s_loop (ι := Nat × Option Addr × Nat) (fun i => [(0, .slice Ak kids.length ck), (3, .slice i.2.1 i.1 i.2.2), (4, .int .i64 (i.1 : Nat))])
    (fun i => [own i.2.1 i.1 i.2.2 3 1 ((orderM (keyM kids) i.1).flatMap kC)]) (fun i => i.1 ≤ kids.length) (fun i => kids.length - i.1) (0, none, 0) (by repeat (first | exact Sub.nil | refine Sub.cons rfl ?_ | (refine Sub.consB rfl (by (first | rfl | exact decide_eq_decide.2 (by omega) | exact (decide_eq_true (by omega)).symm | exact (decide_eq_false (by omega)).symm | exact decide_eq_true (by omega) | exact decide_eq_false (by omega))) ?_))) (by repeat (first | exact SubH.refl | exact SubH.nil | ((with_reducible apply SubH.cons); (focus ((repeat (first | (with_reducible exact Pick.here) | (with_reducible apply Pick.there))); done))) | ((with_reducible apply SubH.consR); (focus ((repeat (first | (with_reducible exact Pick.here) | (with_reducible apply Pick.there))); done)); (first | rfl | simp; done)) | ((with_reducible apply SubH.consO); (focus ((repeat (first | (with_reducible exact Pick.here) | (with_reducible apply Pick.there))); done)); (first | rfl | simp; done); (first | rfl | simp; done)) | exact SubH.drop SubH.refl | apply SubH.drop)) (Nat.zero_le _) ?_
  rintro ⟨i, A, cap⟩ hi
  dsimp only at hi ⊢
  by_cases hlt : i < kids.length
  · obtain ⟨b1, o1, rfl, hri⟩ := RdH.at hk0 (Mem.start w) i hlt
    have hkey : ∀ (j : Nat) (hj : j < kids.length), kids[j].order = keyM kids j := fun j hj => by unfold keyM; rw [List.getElem?_eq_getElem hj]; rfl
    have hki := hkey i hlt
    have hmem : ∀ k (h : k < (orderM (keyM kids) i).length), (orderM (keyM kids) i)[k] < kids.length := fun k h => Nat.lt_trans (orderM_mem (keyM kids) i (List.getElem_mem h)) hlt
    have hol := orderM_len (keyM kids) i
    have hsucc := orderM_succ (keyM kids) i
    unfold insM at hsucc
    rw [hol] at hsucc
    generalize orderM (keyM kids) i = out at *
    generalize kids[i] = si at *
    refine go_ _ ?_
    refine so_slice1 (e := 3) (sz := 1) rfl (by (first | (with_reducible rfl) | assumption | exact decide_eq_true (by omega) | (simp only [Bool.not_eq_true', Bool.not_eq_false', decide_eq_false_iff_not, decide_eq_true_eq] <;> first | assumption | omega) | decide)) rfl (by kernel_rfl) rfl (Nat.le_of_ble_eq_true rfl) fun q1 => go_ _ ?_
    refine so_append1 (e := 3) (sz := 1) (news := [.int .i64 (i : Nat)]) rfl (by (first | (with_reducible rfl) | assumption | exact decide_eq_true (by omega) | (simp only [Bool.not_eq_true', Bool.not_eq_false', decide_eq_false_iff_not, decide_eq_true_eq] <;> first | assumption | omega) | decide)) rfl rfl (by kernel_rfl) (Nat.le_of_ble_eq_true rfl) (fun A'' cap'' => (by (focus ((repeat (first | (with_reducible exact Upd.here) | (with_reducible apply Upd.there))); done)))) rw_here rfl rfl (by omega) fun B5 d5 => go_ _ ?_
    have e0 : out.flatMap kC ++ [.int .i64 (i : Nat)] = (gapL out i i).flatMap kC := by rw [← hol, gapL_end, List.flatMap_append]; simp [kC]
    rw [e0]
    clear e0
    refine s_ownSome (.there .here) (by omega) fun g hg => ?_
    subst hg
    refine s_loop (ι := Nat × Nat) (fun s => [(0, .slice (some ⟨b1, o1, none⟩) kids.length ck), (3, .slice (some ⟨g, 0, none⟩) (i + 1) d5), (4, .int .i64 (i : Nat)), (5, .int .i64 (s.1 : Nat))])
      (fun s => [own (some ⟨g, 0, none⟩) (i + 1) d5 3 1 ((gapL out s.1 s.2).flatMap kC)]) (fun s => s.1 ≤ i ∧ posM (keyM kids) (keyM kids i) out s.1 = posM (keyM kids) (keyM kids i) out i) (fun s => s.1) (i, i) (by repeat (first | exact Sub.nil | refine Sub.cons rfl ?_ | (refine Sub.consB rfl (by (first | rfl | exact decide_eq_decide.2 (by omega) | exact (decide_eq_true (by omega)).symm | exact (decide_eq_false (by omega)).symm | exact decide_eq_true (by omega) | exact decide_eq_false (by omega))) ?_))) (by repeat (first | exact SubH.refl | exact SubH.nil | ((with_reducible apply SubH.cons); (focus ((repeat (first | (with_reducible exact Pick.here) | (with_reducible apply Pick.there))); done))) | ((with_reducible apply SubH.consR); (focus ((repeat (first | (with_reducible exact Pick.here) | (with_reducible apply Pick.there))); done)); (first | rfl | simp; done)) | ((with_reducible apply SubH.consO); (focus ((repeat (first | (with_reducible exact Pick.here) | (with_reducible apply Pick.there))); done)); (first | rfl | simp; done); (first | rfl | simp; done)) | exact SubH.drop SubH.refl | apply SubH.drop)) ⟨Nat.le_refl _, rfl⟩ ?_
    rintro ⟨k, x⟩ ⟨hki2, hpos⟩
    dsimp only at hki2 hpos ⊢
    have hset : ∀ y, ((gapL out k x).flatMap kC).set (0 + k * 1) (.int .i64 (y : Nat)) = (gapL out k y).flatMap kC := fun y => by rw [flat_set0 (c := kC) (fun _ => rfl) (y := y) (by rw [gapL_len]; omega) rfl, gapL_set out k x y (by omega)]
    have hlen : 0 + k * 1 < ((gapL out k x).flatMap kC).length := by rw [flat_len (c := kC) (sz := 1) (fun _ => rfl), gapL_len]; omega
    rcases Nat.eq_zero_or_pos k with hk0' | hk0'
    · subst hk0'
      refine go_ _ ?_
      refine s_parts (by kernel_rfl) ?_
      refine sg_free 19 (by kernel_rfl) (go_ _ ?_)
      refine so_storeOE (xs' := (gapL out 0 i).flatMap kC) rfl rfl rfl rfl rfl (tS rfl) (hset i) hlen (by (focus ((repeat (first | (with_reducible exact Upd.here) | (with_reducible apply Upd.there))); done))) (go_ _ ?_)
      exact ⟨(i + 1, some ⟨g, 0, none⟩, d5), by dsimp only; omega, (by repeat (first | exact Sub.nil | refine Sub.cons rfl ?_ | (refine Sub.consB rfl (by (first | rfl | exact decide_eq_decide.2 (by omega) | exact (decide_eq_true (by omega)).symm | exact (decide_eq_false (by omega)).symm | exact decide_eq_true (by omega) | exact decide_eq_false (by omega))) ?_))), by rw [hsucc, ← hpos]; exact (by repeat (first | exact SubH.refl | exact SubH.nil | ((with_reducible apply SubH.cons); (focus ((repeat (first | (with_reducible exact Pick.here) | (with_reducible apply Pick.there))); done))) | ((with_reducible apply SubH.consR); (focus ((repeat (first | (with_reducible exact Pick.here) | (with_reducible apply Pick.there))); done)); (first | rfl | simp; done)) | ((with_reducible apply SubH.consO); (focus ((repeat (first | (with_reducible exact Pick.here) | (with_reducible apply Pick.there))); done)); (first | rfl | simp; done); (first | rfl | simp; done)) | exact SubH.drop SubH.refl | apply SubH.drop)), by dsimp only; omega⟩
    obtain ⟨k', rfl⟩ : ∃ k', k = k' + 1 := ⟨k - 1, by omega⟩
    have hm := hmem k' (by omega)
    have hr2 : Rw w.heap.size w [own (some ⟨g, 0, none⟩) (i + 1) d5 3 1 ((gapL out (k' + 1) x).flatMap kC)] g (0 + k' * 1) [.int .i64 (out[k'] : Nat)] := own_get (c := kC) (by decide) (fun _ => rfl) (gapL_get out k' x (by omega))
    obtain ⟨b2, o2, e2, hr3⟩ := RdH.at hk0 (Mem.start w) out[k'] hm
    cases e2
    have hko := hkey _ hm
    have hmv := gapL_move out k' (by omega)
    rw [posM, List.getElem?_eq_getElem (show k' < out.length by omega), Option.getD_some] at hpos
    generalize kids[out[k']] = so at *
    obtain ⟨ok, hok⟩ : ∃ ok, out[k'] = ok := ⟨_, rfl⟩
    rw [hok] at hm hr2 hr3 hko hmv hpos
    clear hok
    by_cases hc : keyM kids i < keyM kids ok
    · rw [if_pos hc] at hpos
      have hcc : so.order > si.order := by omega
      clear hkey hmem hk hk0
      refine go_ _ ?_
      refine s_parts (by kernel_rfl) ?_
      refine sg_free 19 (by kernel_rfl) (go_ _ ?_)
      refine sd_pure rfl (by (first | (with_reducible rfl) | assumption | exact decide_eq_true (by omega) | (simp only [Bool.not_eq_true', Bool.not_eq_false', decide_eq_false_iff_not, decide_eq_true_eq] <;> first | assumption | omega) | decide)) rfl (Nat.le_of_ble_eq_true rfl) (ps_indexAddrL (j := k') rfl rfl (tU rfl) (tS rfl) (toJ (by omega)) (by omega)) (go_ _ ?_)
      refine so_pure rfl (by (first | (with_reducible rfl) | assumption | exact decide_eq_true (by omega) | (simp only [Bool.not_eq_true', Bool.not_eq_false', decide_eq_false_iff_not, decide_eq_true_eq] <;> first | assumption | omega) | decide)) rfl (Nat.le_of_ble_eq_true rfl) (ps_indexAddrL (j := k') rfl rfl (tU rfl) (tS rfl) (toJ (by omega)) (by omega)) (go_ _ ?_)
      refine so_storeOE (xs' := (gapL out (k' + 1) ok).flatMap kC) rfl rfl rfl rfl rfl (tS rfl) (hset ok) hlen (by (focus ((repeat (first | (with_reducible exact Upd.here) | (with_reducible apply Upd.there))); done))) (go_ _ ?_)
      rw [hmv]
      exact ⟨(k', ok), by dsimp only; omega, (by repeat (first | exact Sub.nil | refine Sub.cons rfl ?_ | (refine Sub.consE rfl (by congr 1; omega) ?_))), (by repeat (first | exact SubH.refl | exact SubH.nil | ((with_reducible apply SubH.cons); (focus ((repeat (first | (with_reducible exact Pick.here) | (with_reducible apply Pick.there))); done))) | ((with_reducible apply SubH.consR); (focus ((repeat (first | (with_reducible exact Pick.here) | (with_reducible apply Pick.there))); done)); (first | rfl | simp; done)) | ((with_reducible apply SubH.consO); (focus ((repeat (first | (with_reducible exact Pick.here) | (with_reducible apply Pick.there))); done)); (first | rfl | simp; done); (first | rfl | simp; done)) | exact SubH.drop SubH.refl | apply SubH.drop)), by dsimp only; omega, hpos⟩
    · rw [if_neg hc] at hpos
      have hcc : ¬ so.order > si.order := by omega
      clear hkey hmem hk hk0
      refine go_ _ ?_
      refine s_parts (by kernel_rfl) ?_
      refine sg_free 19 (by kernel_rfl) (go_ _ ?_)
      refine sd_pure rfl (by (first | (with_reducible rfl) | assumption | exact decide_eq_true (by omega) | (simp only [Bool.not_eq_true', Bool.not_eq_false', decide_eq_false_iff_not, decide_eq_true_eq] <;> first | assumption | omega) | decide)) rfl (Nat.le_of_ble_eq_true rfl) (ps_indexAddrL (j := k') rfl rfl (tU rfl) (tS rfl) (toJ (by omega)) (by omega)) (go_ _ ?_)
      refine so_storeOE (xs' := (gapL out (k' + 1) i).flatMap kC) rfl rfl rfl rfl rfl (tS rfl) (hset i) hlen (by (focus ((repeat (first | (with_reducible exact Upd.here) | (with_reducible apply Upd.there))); done))) (go_ _ ?_)
      exact ⟨(i + 1, some ⟨g, 0, none⟩, d5), by dsimp only; omega, (by repeat (first | exact Sub.nil | refine Sub.cons rfl ?_ | (refine Sub.consB rfl (by (first | rfl | exact decide_eq_decide.2 (by omega) | exact (decide_eq_true (by omega)).symm | exact (decide_eq_false (by omega)).symm | exact decide_eq_true (by omega) | exact decide_eq_false (by omega))) ?_))), by rw [hsucc, ← hpos]; exact (by repeat (first | exact SubH.refl | exact SubH.nil | ((with_reducible apply SubH.cons); (focus ((repeat (first | (with_reducible exact Pick.here) | (with_reducible apply Pick.there))); done))) | ((with_reducible apply SubH.consR); (focus ((repeat (first | (with_reducible exact Pick.here) | (with_reducible apply Pick.there))); done)); (first | rfl | simp; done)) | ((with_reducible apply SubH.consO); (focus ((repeat (first | (with_reducible exact Pick.here) | (with_reducible apply Pick.there))); done)); (first | rfl | simp; done); (first | rfl | simp; done)) | exact SubH.drop SubH.refl | apply SubH.drop)), by dsimp only; omega⟩
  · obtain rfl : i = kids.length := by omega
    refine go_ _ ?_
    exact sret1 rfl rfl ⟨(A, cap), trivial, rfl, (by repeat (first | exact SubH.refl | exact SubH.nil | ((with_reducible apply SubH.cons); (focus ((repeat (first | (with_reducible exact Pick.here) | (with_reducible apply Pick.there))); done))) | ((with_reducible apply SubH.consR); (focus ((repeat (first | (with_reducible exact Pick.here) | (with_reducible apply Pick.there))); done)); (first | rfl | simp; done)) | ((with_reducible apply SubH.consO); (focus ((repeat (first | (with_reducible exact Pick.here) | (with_reducible apply Pick.there))); done)); (first | rfl | simp; done); (first | rfl | simp; done)) | exact SubH.drop SubH.refl | apply SubH.drop))⟩

/-! The rows. -/
theorem rstep_none (wrap : Bool) (c : Int) (f : Nat → Int) : ∀ (order : List Nat) (st : List (List Nat) × Int), (order.foldl (rstep wrap c f) st).1 = [] → order = []
  | [], _, _ => rfl
  | k :: ks, st, h => by
    exfalso
    rw [List.foldl_cons] at h
    have : ∀ (ks : List Nat) (st : List (List Nat) × Int), st.1 ≠ [] → (ks.foldl (rstep wrap c f) st).1 ≠ [] := by
      intro ks
      induction ks with
      | nil => intro st h; exact h
      | cons k ks ih =>
        intro st h
        rw [List.foldl_cons]
        refine ih _ ?_
        unfold rstep
        split
        · simp
        · split <;> simp
    refine this ks _ ?_ h
    unfold rstep
    split
    · simp
    · split <;> simp
theorem rstep_lens (wrap : Bool) (c : Int) (f : Nat → Int) (order : List Nat) : (order.foldl (rstep wrap c f) ([], 0)).1.length ≤ order.length ∧ ∀ r ∈ (order.foldl (rstep wrap c f) ([], 0)).1, r.length ≤ order.length := by
  have h := len_flat _ (rowsR_full wrap c f order)
  rw [rowsR_flat] at h
  unfold rowsR at h
  rw [List.length_reverse] at h
  exact ⟨h.1, fun r hr => h.2 r (by simpa using hr)⟩
theorem ri_in {c : Int} {kids : List Sty} {got : List Ct} (hB : ∀ s ∈ kids, RB c s) (hG : ∀ x ∈ got, InB x.greatest) : ∀ x ∈ risM c kids got, (0 ≤ x.guess ∧ x.guess ≤ 11000000000000) ∧ -66000000000000 ≤ x.sides ∧ x.sides ≤ 66000000000000 := by
  intro x hx
  unfold risM at hx
  obtain ⟨i, hi, rfl⟩ := List.mem_mapIdx.1 hx
  have hK := hB _ (List.getElem_mem hi)
  have hgi : InB (got[i]?.elim 0 Ct.greatest) := by
    cases e : got[i]? with
    | none => unfold InB; decide
    | some u => exact hG u (List.mem_of_getElem? e)
  have hbi := base_in hK hgi
  have hm3 := hK.st.m3.res; have hm1 := hK.st.m1.res; have hfr := hK.st.frame_in
  refine ⟨clamp_in hK.st hbi.2, ?_⟩
  show -66000000000000 ≤ sidesM c kids[i] ∧ sidesM c kids[i] ≤ 66000000000000
  unfold sidesM; omega

set_option maxRecDepth 100000 in
set_option maxHeartbeats 16000000 in
theorem rrows_any (s : Sty) (c : Int) (kids : List Sty) (got : List Ct) (Ak Ag : Option Addr) (ck cg : Nat) (w : World) (hk : Rd w Sty.cells 43 Ak kids) (hg : Rd w Ct.cells 4 Ag got) (hB : ∀ s ∈ kids, RB c s) (hG : ∀ x ∈ got, InB x.greatest) (hlk : kids.length ≤ 1000) :
    Calls Try.prog 9 #[.agg s.cells.toArray, .int .i64 c, .slice Ak kids.length ck, .slice Ag got.length cg] w fun e w' => ∃ i : List RS × Option Addr × Nat, i.1.reverse.map RS.l = rowsD s c kids got ∧ e = .returned (.slice i.2.1 i.1.length i.2.2) ∧ Mem w.heap.size w (own i.2.1 i.1.length i.2.2 50 1 (i.1.reverse.flatMap RS.cells) :: i.1.map RS.own) w' := by
  refine s_callsN (ι := List RS × Option Addr × Nat) [(0, .agg s.cells.toArray), (1, .int .i64 c), (2, .slice Ak kids.length ck), (3, .slice Ag got.length cg)] (fun i => .slice i.2.1 i.1.length i.2.2) (fun i => own i.2.1 i.1.length i.2.2 50 1 (i.1.reverse.flatMap RS.cells) :: i.1.map RS.own) _ Try.func9 rfl Try.ntmps9 rfl (by simp) ?_
  have hci : ∀ w1, Mem w.heap.size w [] w1 → _ := fun w1 h1 => ritems_any c kids got Ak Ag ck cg w1 (hk.keep h1.below) (hg.keep h1.below) hB hG (by omega)
  have hco : ∀ w1, Mem w.heap.size w [] w1 → _ := fun w1 h1 => rorder_any kids Ak ck w1 (hk.keep h1.below) (by omega)
  have hin := ri_in hB hG
  have hD : rowsD s c kids got = ((orderM (keyM kids) kids.length).foldl (rstep s.wrap c (fM (risM c kids got))) ([], 0)).1.reverse := rfl
  rw [hD]
  have hol := orderM_len (keyM kids) kids.length
  have hom : ∀ k ∈ orderM (keyM kids) kids.length, k < (risM c kids got).length := fun k hk => by rw [risM_len]; exact orderM_mem _ _ hk
  have hil := risM_len c kids got
  have hlens := fun n => rstep_lens s.wrap c (fM (risM c kids got)) ((orderM (keyM kids) kids.length).take n)
  have hnone := fun n => rstep_none s.wrap c (fM (risM c kids got)) ((orderM (keyM kids) kids.length).take n) ([], 0)
  clear hD hk hg hB hG
  refine go_ _ ?_
  (first | ((with_reducible apply so_new); rfl; (first | (with_reducible rfl) | assumption | exact decide_eq_true (by omega) | (simp only [Bool.not_eq_true', Bool.not_eq_false', decide_eq_false_iff_not, decide_eq_true_eq] <;> first | assumption | omega) | decide); exact tZ rfl; (first | exact Nat.le_of_ble_eq_true rfl | decide); (intro; rfl); (first | (with_reducible rfl) | assumption | exact decide_eq_true (by omega) | (simp only [Bool.not_eq_true', Bool.not_eq_false', decide_eq_false_iff_not, decide_eq_true_eq] <;> first | assumption | omega) | decide); (intro; rfl); rfl; exact tS rfl; rfl; rfl) | ((with_reducible apply so_alloc); rfl; (first | (with_reducible rfl) | assumption | exact decide_eq_true (by omega) | (simp only [Bool.not_eq_true', Bool.not_eq_false', decide_eq_false_iff_not, decide_eq_true_eq] <;> first | assumption | omega) | decide); exact tZ rfl; (focus ((repeat (first | (with_reducible exact CopyL.agg) | exact CopyL.nil | (apply CopyL.consI; rfl) | (apply CopyL.consB; rfl) | (apply CopyL.consS; rfl) | (apply CopyL.consP; rfl) | (apply CopyL.consF; rfl) | apply CopyL.cons)); done)); (first | exact Nat.le_of_ble_eq_true rfl | decide)) | ((with_reducible apply so_box); rfl; (first | (with_reducible rfl) | assumption | exact decide_eq_true (by omega) | (simp only [Bool.not_eq_true', Bool.not_eq_false', decide_eq_false_iff_not, decide_eq_true_eq] <;> first | assumption | omega) | decide); rfl; (focus ((repeat (first | (with_reducible exact CopyL.agg) | exact CopyL.nil | (apply CopyL.consI; rfl) | (apply CopyL.consB; rfl) | (apply CopyL.consS; rfl) | (apply CopyL.consP; rfl) | (apply CopyL.consF; rfl) | apply CopyL.cons)); done)); (first | exact Nat.le_of_ble_eq_true rfl | decide)))
  intro q4
  refine go_ _ ?_
  refine so_callN (hc := fun w1 h1 => hci w1 (h1.sub .nil)) rfl rfl rfl (tF rfl) (Nat.le_of_ble_eq_true rfl) ?_
  rintro ⟨Al, cl⟩ _
  refine go_ _ ?_
  refine so_callN (hc := fun w1 h1 => hco w1 (h1.sub .nil)) rfl rfl rfl (tF rfl) (Nat.le_of_ble_eq_true rfl) ?_
  rintro ⟨Ao, co⟩ _
  clear hci hco
  dsimp only
  generalize orderM (keyM kids) kids.length = order at *
  generalize risM c kids got = l at *
  rw [← hil] at hol hlk
  rw [← hil]
  refine go_ _ ?_
  refine s_ownNil 50 1 ?_
  refine s_loop (ι := Nat × List RS × (Option Addr × Nat) × Int) (fun i => [(1, .int .i64 c), (4, .pointer (some ⟨q4, 0, none⟩)), (9, .slice Al l.length cl), (10, .slice Ao l.length co), (11, .slice i.2.2.1.1 i.2.1.length i.2.2.1.2), (12, .int .i64 i.2.2.2), (13, .int .i64 (i.1 : Nat))])
    (fun i => own Ao l.length co 3 1 (order.flatMap kC) :: own Al l.length cl 62 51 (l.flatMap RI.cells) :: row q4 28 s.cells :: own i.2.2.1.1 i.2.1.length i.2.2.1.2 50 1 (i.2.1.reverse.flatMap RS.cells) :: i.2.1.map RS.own)
    (fun i => i.1 ≤ l.length ∧ (i.2.1.map RS.l, i.2.2.2) = (order.take i.1).foldl (rstep s.wrap c (fM l)) ([], 0) ∧ -100000000000000 * (i.1 : Int) ≤ i.2.2.2 ∧ i.2.2.2 ≤ 100000000000000 * (i.1 : Int)) (fun i => l.length - i.1) (0, [], (none, 0), 0) (by repeat (first | exact Sub.nil | refine Sub.cons rfl ?_ | (refine Sub.consB rfl (by (first | rfl | exact decide_eq_decide.2 (by omega) | exact (decide_eq_true (by omega)).symm | exact (decide_eq_false (by omega)).symm | exact decide_eq_true (by omega) | exact decide_eq_false (by omega))) ?_))) (by repeat (first | exact SubH.refl | exact SubH.nil | ((with_reducible apply SubH.cons); (focus ((repeat (first | (with_reducible exact Pick.here) | (with_reducible apply Pick.there))); done))) | ((with_reducible apply SubH.consR); (focus ((repeat (first | (with_reducible exact Pick.here) | (with_reducible apply Pick.there))); done)); (first | rfl | simp; done)) | ((with_reducible apply SubH.consO); (focus ((repeat (first | (with_reducible exact Pick.here) | (with_reducible apply Pick.there))); done)); (first | rfl | simp; done); (first | rfl | simp; done)) | exact SubH.drop SubH.refl | apply SubH.drop)) ⟨Nat.zero_le _, rfl, by dsimp only; omega, by dsimp only; omega⟩ ?_
  rintro ⟨i, fin, ⟨A, cap⟩, su⟩ ⟨hi, hst, hb0⟩
  dsimp only at hi hst hb0 ⊢
  by_cases hlt : i < l.length
  · have hst1 : order.take (i + 1) = order.take i ++ [order[i]] := by rw [List.take_add_one, List.getElem?_eq_getElem (by omega)]; rfl
    have hst2 : (order.take (i + 1)).foldl (rstep s.wrap c (fM l)) ([], 0) = rstep s.wrap c (fM l) (fin.map RS.l, su) order[i] := by rw [hst1, List.foldl_append, ← hst]; rfl
    have hkk := hom _ (List.getElem_mem (show i < order.length by omega))
    have hlens1 := hlens i
    have hnone1 := hnone i
    rw [← hst] at hlens1 hnone1
    rw [List.length_map, List.length_take] at hlens1
    have hfin : fin.length ≤ i := by have := hlens1.1; omega
    have hrl : ∀ r ∈ fin, r.l.length ≤ i := fun r hr => by have := hlens1.2 _ (List.mem_map.2 ⟨r, hr, rfl⟩); omega
    have hfe : fin = [] → i = 0 := fun h => by
      have := hnone1 (by rw [h]; rfl)
      have : (order.take i).length = 0 := by rw [this]; rfl
      rw [List.length_take] at this; omega
    have hie : i = 0 → fin = [] := fun h => List.eq_nil_of_length_eq_zero (by omega)
    have ro : Rw w.heap.size w (own Ao l.length co 3 1 (order.flatMap kC) :: own Al l.length cl 62 51 (l.flatMap RI.cells) :: row q4 28 s.cells :: own A fin.length cap 50 1 (fin.reverse.flatMap RS.cells) :: fin.map RS.own) (0) (0) [] := fun _ _ _ _ h => by simp at h
    refine s_ownSome .here (by omega) fun go hgo => ?_
    subst hgo
    refine s_ownSome (.there .here) (by omega) fun gl hgl => ?_
    subst hgl
    clear ro
    have r1 : Rw w.heap.size w (own (some ⟨go, 0, none⟩) l.length co 3 1 (order.flatMap kC) :: own (some ⟨gl, 0, none⟩) l.length cl 62 51 (l.flatMap RI.cells) :: row q4 28 s.cells :: own A fin.length cap 50 1 (fin.reverse.flatMap RS.cells) :: fin.map RS.own) go (0 + i * 1) [.int .i64 (order[i] : Nat)] := own_get (c := kC) (by decide) (fun _ => rfl) (List.getElem?_eq_getElem (by omega))
    have hr2 : ∀ T, Rw w.heap.size w (own (some ⟨gl, 0, none⟩) l.length cl 62 51 (l.flatMap RI.cells) :: T) gl (0 + order[i] * 51) l[order[i]].cells := fun T => own_get (c := RI.cells) (by decide) RI.len (List.getElem?_eq_getElem hkk)
    have hf : fM l order[i] = l[order[i]].guess + l[order[i]].sides := by unfold fM; rw [List.getElem?_eq_getElem hkk]; rfl
    have hx := hin _ (List.getElem_mem hkk)
    generalize l[order[i]] = x at *
    obtain ⟨k, hk⟩ : ∃ k, order[i] = k := ⟨_, rfl⟩
    rw [hk] at hst2 r1 hr2 hf hkk
    have r2 := hr2 (row q4 28 s.cells :: own A fin.length cap 50 1 (fin.reverse.flatMap RS.cells) :: fin.map RS.own)
    clear hk hst1 hlens1 hnone1 hlens hnone hom hin hst
    have enew : fin.reverse.flatMap RS.cells ++ [.slice none 0 0] = ((⟨none, [], 0⟩ : RS) :: fin).reverse.flatMap RS.cells := by rw [List.reverse_cons, List.flatMap_append]; rfl
    by_cases hi0 : i = 0
    · have hfn := hie hi0
      have hst2 : (order.take (i + 1)).foldl (rstep s.wrap c (fM l)) ([], 0) = ([k] :: fin.map RS.l, x.guess + x.sides) := by
        rw [hfn] at hst2
        rw [hfn, ← hf]; exact hst2
      clear hf hfe hie hrl
      refine go_ _ ?_
      refine s_parts (by kernel_rfl) ?_
      refine sg_free 14 (by kernel_rfl) (go_ _ ?_)
      refine so_slice1 (e := 50) (sz := 1) rfl (by (first | (with_reducible rfl) | assumption | exact decide_eq_true (by omega) | (simp only [Bool.not_eq_true', Bool.not_eq_false', decide_eq_false_iff_not, decide_eq_true_eq] <;> first | assumption | omega) | decide)) rfl (by kernel_rfl) rfl (Nat.le_of_ble_eq_true rfl) fun q1 => go_ _ ?_
      refine so_append1 (e := 50) (sz := 1) (news := [.slice none 0 0]) rfl (by (first | (with_reducible rfl) | assumption | exact decide_eq_true (by omega) | (simp only [Bool.not_eq_true', Bool.not_eq_false', decide_eq_false_iff_not, decide_eq_true_eq] <;> first | assumption | omega) | decide)) rfl rfl (by kernel_rfl) (Nat.le_of_ble_eq_true rfl) (fun A'' cap'' => (by (focus ((repeat (first | (with_reducible exact Upd.here) | (with_reducible apply Upd.there))); done)))) rw_here rfl rfl (by omega) fun A1 c1 => go_ _ ?_
      refine s_ownSome (.there (.there (.there (.there .here)))) (by omega) fun g1 hg1 => ?_
      subst hg1
      rw [enew]
      have r2b := hr2 (row q4 28 s.cells :: own (some ⟨g1, 0, none⟩) (fin.length + 1) c1 50 1 (((⟨none, [], 0⟩ : RS) :: fin).reverse.flatMap RS.cells) :: fin.map RS.own)
      refine s_ownNil 3 1 ?_
      refine s_parts (by kernel_rfl) ?_
      refine sg_free 12 (by kernel_rfl) (go_ _ ?_)
      refine so_sub (G := [(1, .int .i64 c), (4, .pointer (some ⟨q4, 0, none⟩)), (9, .slice (some ⟨gl, 0, none⟩) l.length cl), (10, .slice (some ⟨go, 0, none⟩) l.length co), (11, .slice (some ⟨g1, 0, none⟩) (fin.length + 1) c1), (12, .int .i64 (x.guess + x.sides)), (13, .int .i64 (i : Nat)), (14, .int .i64 (k : Nat)), (69, .slice (some ⟨g1, 0, none⟩) (fin.length + 1) c1), (72, .int .i64 (fin.length : Nat)), (73, .slice (some ⟨g1, 0, none⟩) (fin.length + 1) c1), (76, .int .i64 (fin.length : Nat))])
        (L := own (some ⟨go, 0, none⟩) l.length co 3 1 (order.flatMap kC) :: own (some ⟨gl, 0, none⟩) l.length cl 62 51 (l.flatMap RI.cells) :: row q4 28 s.cells :: own (some ⟨g1, 0, none⟩) (fin.length + 1) c1 50 1 (((⟨none, ([] : List Nat), 0⟩ : RS) :: fin).reverse.flatMap RS.cells) :: own none ([] : List Nat).length 0 3 1 (([] : List Nat).flatMap kC) :: fin.map RS.own) (by repeat (first | exact Sub.nil | refine Sub.cons rfl ?_ | (refine Sub.consE rfl (by congr 1; (try simp only [List.length_cons]); omega) ?_))) (by repeat (first | exact SubH.refl | exact SubH.nil | ((with_reducible apply SubH.cons); (focus ((repeat (first | (with_reducible exact Pick.here) | (with_reducible apply Pick.there))); done))) | ((with_reducible apply SubH.consR); (focus ((repeat (first | (with_reducible exact Pick.here) | (with_reducible apply Pick.there))); done)); (first | rfl | simp; done)) | ((with_reducible apply SubH.consO); (focus ((repeat (first | (with_reducible exact Pick.here) | (with_reducible apply Pick.there))); done)); (first | rfl | simp; done); (first | rfl | simp; done)) | exact SubH.drop SubH.refl | apply SubH.drop)) ?_
      have rlast : Rw w.heap.size w (own (some ⟨g1, 0, none⟩) (fin.length + 1) c1 50 1 (((⟨none, ([] : List Nat), 0⟩ : RS) :: fin).reverse.flatMap RS.cells) :: own none ([] : List Nat).length 0 3 1 (([] : List Nat).flatMap kC) :: fin.map RS.own) g1 (0 + fin.length * 1) (RS.cells ⟨none, ([] : List Nat), 0⟩) := own_get (c := RS.cells) (by decide) (fun _ => rfl) (rev_get _ _)
      have hlast : ∀ B5 d5, ((((⟨none, ([] : List Nat), 0⟩ : RS) :: fin).reverse.flatMap RS.cells).set (0 + fin.length * 1) (.slice B5 (([] : List Nat).length + 1) d5)) = ((⟨B5, ([] : List Nat) ++ [k], d5⟩ : RS) :: fin).reverse.flatMap RS.cells := fun B5 d5 => by rw [flat_set0 (c := RS.cells) (fun _ => rfl) (y := ⟨B5, ([] : List Nat) ++ [k], d5⟩) (by simp) (by simp [RS.cells]), rev_set]
      have hll : 0 + fin.length * 1 < (((⟨none, ([] : List Nat), 0⟩ : RS) :: fin).reverse.flatMap RS.cells).length := by rw [flat_len (c := RS.cells) (sz := 1) (fun _ => rfl)]; simp
      unfold RS.cells at rlast
      refine so_pure rfl (by (first | (with_reducible rfl) | assumption | exact decide_eq_true (by omega) | (simp only [Bool.not_eq_true', Bool.not_eq_false', decide_eq_false_iff_not, decide_eq_true_eq] <;> first | assumption | omega) | decide)) rfl (Nat.le_of_ble_eq_true rfl) (ps_indexAddrL (j := fin.length) rfl rfl (tU rfl) (tS rfl) rfl (by omega)) (go_ _ ?_)
      refine so_slice1 (e := 3) (sz := 1) rfl (by (first | (with_reducible rfl) | assumption | exact decide_eq_true (by omega) | (simp only [Bool.not_eq_true', Bool.not_eq_false', decide_eq_false_iff_not, decide_eq_true_eq] <;> first | assumption | omega) | decide)) rfl (by kernel_rfl) rfl (Nat.le_of_ble_eq_true rfl) fun q2 => go_ _ ?_
      refine so_append1 (e := 3) (sz := 1) (n := ([] : List Nat).length) (news := [.int .i64 (k : Nat)]) rfl (by (first | (with_reducible rfl) | assumption | exact decide_eq_true (by omega) | (simp only [Bool.not_eq_true', Bool.not_eq_false', decide_eq_false_iff_not, decide_eq_true_eq] <;> first | assumption | omega) | decide)) rfl rfl (by kernel_rfl) (Nat.le_of_ble_eq_true rfl) (fun A'' cap'' => (by (focus ((repeat (first | (with_reducible exact Upd.here) | (with_reducible apply Upd.there))); done)))) rw_here rfl rfl (by (try simp only [List.length_nil]); omega) fun B5 d5 => go_ _ ?_
      refine so_storeOE rfl rfl rfl rfl rfl (tS rfl) (hlast B5 d5) hll (by (focus ((repeat (first | (with_reducible exact Upd.here) | (with_reducible apply Upd.there))); done))) (go_ _ ?_)
      exact ⟨(i + 1, ⟨B5, ([] : List Nat) ++ [k], d5⟩ :: fin, (some ⟨g1, 0, none⟩, c1), x.guess + x.sides), by dsimp only; omega, (by repeat (first | exact Sub.nil | refine Sub.cons rfl ?_ | (refine Sub.consB rfl (by (first | rfl | exact decide_eq_decide.2 (by omega) | exact (decide_eq_true (by omega)).symm | exact (decide_eq_false (by omega)).symm | exact decide_eq_true (by omega) | exact decide_eq_false (by omega))) ?_))), by rw [List.map_cons, RS.own_more]; exact (by repeat (first | exact SubH.refl | exact SubH.nil | ((with_reducible apply SubH.cons); (focus ((repeat (first | (with_reducible exact Pick.here) | (with_reducible apply Pick.there))); done))) | ((with_reducible apply SubH.consR); (focus ((repeat (first | (with_reducible exact Pick.here) | (with_reducible apply Pick.there))); done)); (first | rfl | simp; done)) | ((with_reducible apply SubH.consO); (focus ((repeat (first | (with_reducible exact Pick.here) | (with_reducible apply Pick.there))); done)); (first | rfl | simp; done); (first | rfl | simp; done)) | exact SubH.drop SubH.refl | apply SubH.drop)), by dsimp only; omega, hst2.symm, by dsimp only; omega, by dsimp only; omega⟩
    obtain ⟨r, fs, rfl⟩ : ∃ r fs, fin = r :: fs := by
      cases fin with
      | nil => exact absurd (hfe rfl) hi0
      | cons r fs => exact ⟨r, fs, rfl⟩
    have hst2 : (order.take (i + 1)).foldl (rstep s.wrap c (fM l)) ([], 0) = (if s.wrap = true ∧ c < su + fM l k then ([k] :: r.l :: fs.map RS.l, fM l k) else ((r.l ++ [k]) :: fs.map RS.l, su + fM l k)) := hst2
    rw [hf] at hst2
    have hrl1 := hrl r (by simp)
    clear hf hfe hie hrl
    have hsum : su + x.guess + x.sides = su + (x.guess + x.sides) := by omega
    by_cases hw : s.wrap = true ∧ c < su + x.guess + x.sides
    · rw [if_pos (by rw [← hsum]; exact hw)] at hst2
      obtain ⟨hw1, hw2⟩ := hw
      clear hrl1
      have hst2 : (order.take (i + 1)).foldl (rstep s.wrap c (fM l)) ([], 0) = ([k] :: (r :: fs).map RS.l, x.guess + x.sides) := hst2
      generalize hfs : r :: fs = fin at *
      refine go_ _ ?_
      refine s_parts (by kernel_rfl) ?_
      refine sg_free 14 (by kernel_rfl) (go_ _ ?_)
      refine so_slice1 (e := 50) (sz := 1) rfl (by (first | (with_reducible rfl) | assumption | exact decide_eq_true (by omega) | (simp only [Bool.not_eq_true', Bool.not_eq_false', decide_eq_false_iff_not, decide_eq_true_eq] <;> first | assumption | omega) | decide)) rfl (by kernel_rfl) rfl (Nat.le_of_ble_eq_true rfl) fun q1 => go_ _ ?_
      refine so_append1 (e := 50) (sz := 1) (news := [.slice none 0 0]) rfl (by (first | (with_reducible rfl) | assumption | exact decide_eq_true (by omega) | (simp only [Bool.not_eq_true', Bool.not_eq_false', decide_eq_false_iff_not, decide_eq_true_eq] <;> first | assumption | omega) | decide)) rfl rfl (by kernel_rfl) (Nat.le_of_ble_eq_true rfl) (fun A'' cap'' => (by (focus ((repeat (first | (with_reducible exact Upd.here) | (with_reducible apply Upd.there))); done)))) rw_here rfl rfl (by omega) fun A1 c1 => go_ _ ?_
      refine s_ownSome (.there (.there (.there (.there .here)))) (by omega) fun g1 hg1 => ?_
      subst hg1
      rw [enew]
      have r2b := hr2 (row q4 28 s.cells :: own (some ⟨g1, 0, none⟩) (fin.length + 1) c1 50 1 (((⟨none, [], 0⟩ : RS) :: fin).reverse.flatMap RS.cells) :: fin.map RS.own)
      refine s_ownNil 3 1 ?_
      refine s_parts (by kernel_rfl) ?_
      refine sg_free 12 (by kernel_rfl) (go_ _ ?_)
      refine so_sub (G := [(1, .int .i64 c), (4, .pointer (some ⟨q4, 0, none⟩)), (9, .slice (some ⟨gl, 0, none⟩) l.length cl), (10, .slice (some ⟨go, 0, none⟩) l.length co), (11, .slice (some ⟨g1, 0, none⟩) (fin.length + 1) c1), (12, .int .i64 (x.guess + x.sides)), (13, .int .i64 (i : Nat)), (14, .int .i64 (k : Nat)), (69, .slice (some ⟨g1, 0, none⟩) (fin.length + 1) c1), (72, .int .i64 (fin.length : Nat)), (73, .slice (some ⟨g1, 0, none⟩) (fin.length + 1) c1), (76, .int .i64 (fin.length : Nat))])
        (L := own (some ⟨go, 0, none⟩) l.length co 3 1 (order.flatMap kC) :: own (some ⟨gl, 0, none⟩) l.length cl 62 51 (l.flatMap RI.cells) :: row q4 28 s.cells :: own (some ⟨g1, 0, none⟩) (fin.length + 1) c1 50 1 (((⟨none, ([] : List Nat), 0⟩ : RS) :: fin).reverse.flatMap RS.cells) :: own none ([] : List Nat).length 0 3 1 (([] : List Nat).flatMap kC) :: fin.map RS.own) (by repeat (first | exact Sub.nil | refine Sub.cons rfl ?_ | (refine Sub.consE rfl (by congr 1; (try simp only [List.length_cons]); omega) ?_))) (by repeat (first | exact SubH.refl | exact SubH.nil | ((with_reducible apply SubH.cons); (focus ((repeat (first | (with_reducible exact Pick.here) | (with_reducible apply Pick.there))); done))) | ((with_reducible apply SubH.consR); (focus ((repeat (first | (with_reducible exact Pick.here) | (with_reducible apply Pick.there))); done)); (first | rfl | simp; done)) | ((with_reducible apply SubH.consO); (focus ((repeat (first | (with_reducible exact Pick.here) | (with_reducible apply Pick.there))); done)); (first | rfl | simp; done); (first | rfl | simp; done)) | exact SubH.drop SubH.refl | apply SubH.drop)) ?_
      have rlast : Rw w.heap.size w (own (some ⟨g1, 0, none⟩) (fin.length + 1) c1 50 1 (((⟨none, ([] : List Nat), 0⟩ : RS) :: fin).reverse.flatMap RS.cells) :: own none ([] : List Nat).length 0 3 1 (([] : List Nat).flatMap kC) :: fin.map RS.own) g1 (0 + fin.length * 1) (RS.cells ⟨none, ([] : List Nat), 0⟩) := own_get (c := RS.cells) (by decide) (fun _ => rfl) (rev_get _ _)
      have hlast : ∀ B5 d5, ((((⟨none, ([] : List Nat), 0⟩ : RS) :: fin).reverse.flatMap RS.cells).set (0 + fin.length * 1) (.slice B5 (([] : List Nat).length + 1) d5)) = ((⟨B5, ([] : List Nat) ++ [k], d5⟩ : RS) :: fin).reverse.flatMap RS.cells := fun B5 d5 => by rw [flat_set0 (c := RS.cells) (fun _ => rfl) (y := ⟨B5, ([] : List Nat) ++ [k], d5⟩) (by simp) (by simp [RS.cells]), rev_set]
      have hll : 0 + fin.length * 1 < (((⟨none, ([] : List Nat), 0⟩ : RS) :: fin).reverse.flatMap RS.cells).length := by rw [flat_len (c := RS.cells) (sz := 1) (fun _ => rfl)]; simp
      unfold RS.cells at rlast
      refine so_pure rfl (by (first | (with_reducible rfl) | assumption | exact decide_eq_true (by omega) | (simp only [Bool.not_eq_true', Bool.not_eq_false', decide_eq_false_iff_not, decide_eq_true_eq] <;> first | assumption | omega) | decide)) rfl (Nat.le_of_ble_eq_true rfl) (ps_indexAddrL (j := fin.length) rfl rfl (tU rfl) (tS rfl) rfl (by omega)) (go_ _ ?_)
      refine so_slice1 (e := 3) (sz := 1) rfl (by (first | (with_reducible rfl) | assumption | exact decide_eq_true (by omega) | (simp only [Bool.not_eq_true', Bool.not_eq_false', decide_eq_false_iff_not, decide_eq_true_eq] <;> first | assumption | omega) | decide)) rfl (by kernel_rfl) rfl (Nat.le_of_ble_eq_true rfl) fun q2 => go_ _ ?_
      refine so_append1 (e := 3) (sz := 1) (n := ([] : List Nat).length) (news := [.int .i64 (k : Nat)]) rfl (by (first | (with_reducible rfl) | assumption | exact decide_eq_true (by omega) | (simp only [Bool.not_eq_true', Bool.not_eq_false', decide_eq_false_iff_not, decide_eq_true_eq] <;> first | assumption | omega) | decide)) rfl rfl (by kernel_rfl) (Nat.le_of_ble_eq_true rfl) (fun A'' cap'' => (by (focus ((repeat (first | (with_reducible exact Upd.here) | (with_reducible apply Upd.there))); done)))) rw_here rfl rfl (by (try simp only [List.length_nil]); omega) fun B5 d5 => go_ _ ?_
      refine so_storeOE rfl rfl rfl rfl rfl (tS rfl) (hlast B5 d5) hll (by (focus ((repeat (first | (with_reducible exact Upd.here) | (with_reducible apply Upd.there))); done))) (go_ _ ?_)
      exact ⟨(i + 1, ⟨B5, ([] : List Nat) ++ [k], d5⟩ :: fin, (some ⟨g1, 0, none⟩, c1), x.guess + x.sides), by dsimp only; omega, (by repeat (first | exact Sub.nil | refine Sub.cons rfl ?_ | (refine Sub.consB rfl (by (first | rfl | exact decide_eq_decide.2 (by omega) | exact (decide_eq_true (by omega)).symm | exact (decide_eq_false (by omega)).symm | exact decide_eq_true (by omega) | exact decide_eq_false (by omega))) ?_))), by rw [List.map_cons, RS.own_more]; exact (by repeat (first | exact SubH.refl | exact SubH.nil | ((with_reducible apply SubH.cons); (focus ((repeat (first | (with_reducible exact Pick.here) | (with_reducible apply Pick.there))); done))) | ((with_reducible apply SubH.consR); (focus ((repeat (first | (with_reducible exact Pick.here) | (with_reducible apply Pick.there))); done)); (first | rfl | simp; done)) | ((with_reducible apply SubH.consO); (focus ((repeat (first | (with_reducible exact Pick.here) | (with_reducible apply Pick.there))); done)); (first | rfl | simp; done); (first | rfl | simp; done)) | exact SubH.drop SubH.refl | apply SubH.drop)), by dsimp only; omega, hst2.symm, by dsimp only; omega, by dsimp only; omega⟩
    · rw [if_neg (by rw [← hsum]; exact hw), ← hsum] at hst2
      clear hsum
      rw [List.length_cons] at hfin
      have hl1 : (r :: fs).length = fs.length + 1 := rfl
      refine s_ownSome (.there (.there (.there .here))) (by simp) fun g1 hg1 => ?_
      subst hg1
      rcases (Bool.eq_false_or_eq_true s.wrap).symm with hw1 | hw1
      · skip
        refine go_ _ ?_
        refine s_parts (by kernel_rfl) ?_
        refine sg_free 14 (by kernel_rfl) (go_ _ ?_)
        refine so_sub (G := [(1, .int .i64 c), (4, .pointer (some ⟨q4, 0, none⟩)), (9, .slice (some ⟨gl, 0, none⟩) l.length cl), (10, .slice (some ⟨go, 0, none⟩) l.length co), (11, .slice (some ⟨g1, 0, none⟩) (fs.length + 1) cap), (12, .int .i64 (su + x.guess + x.sides)), (13, .int .i64 (i : Nat)), (14, .int .i64 (k : Nat)), (69, .slice (some ⟨g1, 0, none⟩) (fs.length + 1) cap), (72, .int .i64 (fs.length : Nat)), (73, .slice (some ⟨g1, 0, none⟩) (fs.length + 1) cap), (76, .int .i64 (fs.length : Nat))])
          (L := own (some ⟨go, 0, none⟩) l.length co 3 1 (order.flatMap kC) :: own (some ⟨gl, 0, none⟩) l.length cl 62 51 (l.flatMap RI.cells) :: row q4 28 s.cells :: own (some ⟨g1, 0, none⟩) (fs.length + 1) cap 50 1 (((⟨r.A, r.l, r.c⟩ : RS) :: fs).reverse.flatMap RS.cells) :: own r.A r.l.length r.c 3 1 (r.l.flatMap kC) :: fs.map RS.own) (by repeat (first | exact Sub.nil | refine Sub.cons rfl ?_ | (refine Sub.consE rfl (by congr 1; (try simp only [List.length_cons]); omega) ?_))) (by repeat (first | exact SubH.refl | exact SubH.nil | ((with_reducible apply SubH.cons); (focus ((repeat (first | (with_reducible exact Pick.here) | (with_reducible apply Pick.there))); done))) | ((with_reducible apply SubH.consR); (focus ((repeat (first | (with_reducible exact Pick.here) | (with_reducible apply Pick.there))); done)); (first | rfl | simp; done)) | ((with_reducible apply SubH.consO); (focus ((repeat (first | (with_reducible exact Pick.here) | (with_reducible apply Pick.there))); done)); (first | rfl | simp; done); (first | rfl | simp; done)) | exact SubH.drop SubH.refl | apply SubH.drop)) ?_
        have rlast : Rw w.heap.size w (own (some ⟨g1, 0, none⟩) (fs.length + 1) cap 50 1 (((⟨r.A, r.l, r.c⟩ : RS) :: fs).reverse.flatMap RS.cells) :: own r.A r.l.length r.c 3 1 (r.l.flatMap kC) :: fs.map RS.own) g1 (0 + fs.length * 1) (RS.cells ⟨r.A, r.l, r.c⟩) := own_get (c := RS.cells) (by decide) (fun _ => rfl) (rev_get _ _)
        have hlast : ∀ B5 d5, ((((⟨r.A, r.l, r.c⟩ : RS) :: fs).reverse.flatMap RS.cells).set (0 + fs.length * 1) (.slice B5 (r.l.length + 1) d5)) = ((⟨B5, r.l ++ [k], d5⟩ : RS) :: fs).reverse.flatMap RS.cells := fun B5 d5 => by rw [flat_set0 (c := RS.cells) (fun _ => rfl) (y := ⟨B5, r.l ++ [k], d5⟩) (by simp) (by simp [RS.cells]), rev_set]
        have hll : 0 + fs.length * 1 < (((⟨r.A, r.l, r.c⟩ : RS) :: fs).reverse.flatMap RS.cells).length := by rw [flat_len (c := RS.cells) (sz := 1) (fun _ => rfl)]; simp
        unfold RS.cells at rlast
        refine so_pure rfl (by (first | (with_reducible rfl) | assumption | exact decide_eq_true (by omega) | (simp only [Bool.not_eq_true', Bool.not_eq_false', decide_eq_false_iff_not, decide_eq_true_eq] <;> first | assumption | omega) | decide)) rfl (Nat.le_of_ble_eq_true rfl) (ps_indexAddrL (j := fs.length) rfl rfl (tU rfl) (tS rfl) rfl (by omega)) (go_ _ ?_)
        refine so_slice1 (e := 3) (sz := 1) rfl (by (first | (with_reducible rfl) | assumption | exact decide_eq_true (by omega) | (simp only [Bool.not_eq_true', Bool.not_eq_false', decide_eq_false_iff_not, decide_eq_true_eq] <;> first | assumption | omega) | decide)) rfl (by kernel_rfl) rfl (Nat.le_of_ble_eq_true rfl) fun q2 => go_ _ ?_
        refine so_append1 (e := 3) (sz := 1) (n := r.l.length) (news := [.int .i64 (k : Nat)]) rfl (by (first | (with_reducible rfl) | assumption | exact decide_eq_true (by omega) | (simp only [Bool.not_eq_true', Bool.not_eq_false', decide_eq_false_iff_not, decide_eq_true_eq] <;> first | assumption | omega) | decide)) rfl rfl (by kernel_rfl) (Nat.le_of_ble_eq_true rfl) (fun A'' cap'' => (by (focus ((repeat (first | (with_reducible exact Upd.here) | (with_reducible apply Upd.there))); done)))) rw_here rfl rfl (by (try simp only [List.length_nil]); omega) fun B5 d5 => go_ _ ?_
        refine so_storeOE rfl rfl rfl rfl rfl (tS rfl) (hlast B5 d5) hll (by (focus ((repeat (first | (with_reducible exact Upd.here) | (with_reducible apply Upd.there))); done))) (go_ _ ?_)
        exact ⟨(i + 1, ⟨B5, r.l ++ [k], d5⟩ :: fs, (some ⟨g1, 0, none⟩, cap), su + x.guess + x.sides), by dsimp only; omega, (by repeat (first | exact Sub.nil | refine Sub.cons rfl ?_ | (refine Sub.consB rfl (by (first | rfl | exact decide_eq_decide.2 (by omega) | exact (decide_eq_true (by omega)).symm | exact (decide_eq_false (by omega)).symm | exact decide_eq_true (by omega) | exact decide_eq_false (by omega))) ?_))), by rw [List.map_cons, RS.own_more]; exact (by repeat (first | exact SubH.refl | exact SubH.nil | ((with_reducible apply SubH.cons); (focus ((repeat (first | (with_reducible exact Pick.here) | (with_reducible apply Pick.there))); done))) | ((with_reducible apply SubH.consR); (focus ((repeat (first | (with_reducible exact Pick.here) | (with_reducible apply Pick.there))); done)); (first | rfl | simp; done)) | ((with_reducible apply SubH.consO); (focus ((repeat (first | (with_reducible exact Pick.here) | (with_reducible apply Pick.there))); done)); (first | rfl | simp; done); (first | rfl | simp; done)) | exact SubH.drop SubH.refl | apply SubH.drop)), by dsimp only; omega, hst2.symm, by dsimp only; omega, by dsimp only; omega⟩
      · have hw2 : ¬ c < su + x.guess + x.sides := fun h => hw ⟨hw1, h⟩
        refine go_ _ ?_
        refine s_parts (by kernel_rfl) ?_
        refine sg_free 14 (by kernel_rfl) (go_ _ ?_)
        refine so_sub (G := [(1, .int .i64 c), (4, .pointer (some ⟨q4, 0, none⟩)), (9, .slice (some ⟨gl, 0, none⟩) l.length cl), (10, .slice (some ⟨go, 0, none⟩) l.length co), (11, .slice (some ⟨g1, 0, none⟩) (fs.length + 1) cap), (12, .int .i64 (su + x.guess + x.sides)), (13, .int .i64 (i : Nat)), (14, .int .i64 (k : Nat)), (69, .slice (some ⟨g1, 0, none⟩) (fs.length + 1) cap), (72, .int .i64 (fs.length : Nat)), (73, .slice (some ⟨g1, 0, none⟩) (fs.length + 1) cap), (76, .int .i64 (fs.length : Nat))])
          (L := own (some ⟨go, 0, none⟩) l.length co 3 1 (order.flatMap kC) :: own (some ⟨gl, 0, none⟩) l.length cl 62 51 (l.flatMap RI.cells) :: row q4 28 s.cells :: own (some ⟨g1, 0, none⟩) (fs.length + 1) cap 50 1 (((⟨r.A, r.l, r.c⟩ : RS) :: fs).reverse.flatMap RS.cells) :: own r.A r.l.length r.c 3 1 (r.l.flatMap kC) :: fs.map RS.own) (by repeat (first | exact Sub.nil | refine Sub.cons rfl ?_ | (refine Sub.consE rfl (by congr 1; (try simp only [List.length_cons]); omega) ?_))) (by repeat (first | exact SubH.refl | exact SubH.nil | ((with_reducible apply SubH.cons); (focus ((repeat (first | (with_reducible exact Pick.here) | (with_reducible apply Pick.there))); done))) | ((with_reducible apply SubH.consR); (focus ((repeat (first | (with_reducible exact Pick.here) | (with_reducible apply Pick.there))); done)); (first | rfl | simp; done)) | ((with_reducible apply SubH.consO); (focus ((repeat (first | (with_reducible exact Pick.here) | (with_reducible apply Pick.there))); done)); (first | rfl | simp; done); (first | rfl | simp; done)) | exact SubH.drop SubH.refl | apply SubH.drop)) ?_
        have rlast : Rw w.heap.size w (own (some ⟨g1, 0, none⟩) (fs.length + 1) cap 50 1 (((⟨r.A, r.l, r.c⟩ : RS) :: fs).reverse.flatMap RS.cells) :: own r.A r.l.length r.c 3 1 (r.l.flatMap kC) :: fs.map RS.own) g1 (0 + fs.length * 1) (RS.cells ⟨r.A, r.l, r.c⟩) := own_get (c := RS.cells) (by decide) (fun _ => rfl) (rev_get _ _)
        have hlast : ∀ B5 d5, ((((⟨r.A, r.l, r.c⟩ : RS) :: fs).reverse.flatMap RS.cells).set (0 + fs.length * 1) (.slice B5 (r.l.length + 1) d5)) = ((⟨B5, r.l ++ [k], d5⟩ : RS) :: fs).reverse.flatMap RS.cells := fun B5 d5 => by rw [flat_set0 (c := RS.cells) (fun _ => rfl) (y := ⟨B5, r.l ++ [k], d5⟩) (by simp) (by simp [RS.cells]), rev_set]
        have hll : 0 + fs.length * 1 < (((⟨r.A, r.l, r.c⟩ : RS) :: fs).reverse.flatMap RS.cells).length := by rw [flat_len (c := RS.cells) (sz := 1) (fun _ => rfl)]; simp
        unfold RS.cells at rlast
        refine so_pure rfl (by (first | (with_reducible rfl) | assumption | exact decide_eq_true (by omega) | (simp only [Bool.not_eq_true', Bool.not_eq_false', decide_eq_false_iff_not, decide_eq_true_eq] <;> first | assumption | omega) | decide)) rfl (Nat.le_of_ble_eq_true rfl) (ps_indexAddrL (j := fs.length) rfl rfl (tU rfl) (tS rfl) rfl (by omega)) (go_ _ ?_)
        refine so_slice1 (e := 3) (sz := 1) rfl (by (first | (with_reducible rfl) | assumption | exact decide_eq_true (by omega) | (simp only [Bool.not_eq_true', Bool.not_eq_false', decide_eq_false_iff_not, decide_eq_true_eq] <;> first | assumption | omega) | decide)) rfl (by kernel_rfl) rfl (Nat.le_of_ble_eq_true rfl) fun q2 => go_ _ ?_
        refine so_append1 (e := 3) (sz := 1) (n := r.l.length) (news := [.int .i64 (k : Nat)]) rfl (by (first | (with_reducible rfl) | assumption | exact decide_eq_true (by omega) | (simp only [Bool.not_eq_true', Bool.not_eq_false', decide_eq_false_iff_not, decide_eq_true_eq] <;> first | assumption | omega) | decide)) rfl rfl (by kernel_rfl) (Nat.le_of_ble_eq_true rfl) (fun A'' cap'' => (by (focus ((repeat (first | (with_reducible exact Upd.here) | (with_reducible apply Upd.there))); done)))) rw_here rfl rfl (by (try simp only [List.length_nil]); omega) fun B5 d5 => go_ _ ?_
        refine so_storeOE rfl rfl rfl rfl rfl (tS rfl) (hlast B5 d5) hll (by (focus ((repeat (first | (with_reducible exact Upd.here) | (with_reducible apply Upd.there))); done))) (go_ _ ?_)
        exact ⟨(i + 1, ⟨B5, r.l ++ [k], d5⟩ :: fs, (some ⟨g1, 0, none⟩, cap), su + x.guess + x.sides), by dsimp only; omega, (by repeat (first | exact Sub.nil | refine Sub.cons rfl ?_ | (refine Sub.consB rfl (by (first | rfl | exact decide_eq_decide.2 (by omega) | exact (decide_eq_true (by omega)).symm | exact (decide_eq_false (by omega)).symm | exact decide_eq_true (by omega) | exact decide_eq_false (by omega))) ?_))), by rw [List.map_cons, RS.own_more]; exact (by repeat (first | exact SubH.refl | exact SubH.nil | ((with_reducible apply SubH.cons); (focus ((repeat (first | (with_reducible exact Pick.here) | (with_reducible apply Pick.there))); done))) | ((with_reducible apply SubH.consR); (focus ((repeat (first | (with_reducible exact Pick.here) | (with_reducible apply Pick.there))); done)); (first | rfl | simp; done)) | ((with_reducible apply SubH.consO); (focus ((repeat (first | (with_reducible exact Pick.here) | (with_reducible apply Pick.there))); done)); (first | rfl | simp; done); (first | rfl | simp; done)) | exact SubH.drop SubH.refl | apply SubH.drop)), by dsimp only; omega, hst2.symm, by dsimp only; omega, by dsimp only; omega⟩
  · obtain rfl : i = l.length := by omega
    rw [← hol, List.take_length] at hst
    refine go_ _ ?_
    exact sret1 rfl rfl ⟨(fin, A, cap), by rw [← hst]; simp, rfl, (by repeat (first | exact SubH.refl | exact SubH.nil | ((with_reducible apply SubH.cons); (focus ((repeat (first | (with_reducible exact Pick.here) | (with_reducible apply Pick.there))); done))) | ((with_reducible apply SubH.consR); (focus ((repeat (first | (with_reducible exact Pick.here) | (with_reducible apply Pick.there))); done)); (first | rfl | simp; done)) | ((with_reducible apply SubH.consO); (focus ((repeat (first | (with_reducible exact Pick.here) | (with_reducible apply Pick.there))); done)); (first | rfl | simp; done); (first | rfl | simp; done)) | exact SubH.drop SubH.refl | apply SubH.drop))⟩
end Go.Proofs.Ytdoihebekbfnbaa
