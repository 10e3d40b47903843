/- The iterator over rows. -/
import Derived.Test.YtepkhfebflmieaaLinE
namespace Go.Proofs.Ytepkhfebflmieaa
open Go.RowKit

abbrev Rz := Ro × Option Addr × Nat
def Rz.enc (z : Rz) : List Value := [.agg #[.int .i64 z.1.y, .int .i64 (z.1.a : Nat), .int .i64 (z.1.b : Nat), .slice z.2.1 z.1.xs.length z.2.2]]
def Rz.give (z : Rz) : Hp := [own z.2.1 z.1.xs.length z.2.2 2 1 (z.1.xs.map (.int .i64))]

set_option maxRecDepth 100000 in
theorem rows_any (qf : Nat) (w : World) : Calls Try.prog 11 #[.pointer (some ⟨qf, 0, none⟩)] w fun e w' => ∃ q, True ∧ e = .returned (.func (.func 15) #[] #[.pointer (some ⟨q, 0, none⟩)]) ∧ Mem w.heap.size w [row q 41 [.pointer (some ⟨qf, 0, none⟩)]] w' := by
  refine s_callsN [(0, .pointer (some ⟨qf, 0, none⟩))] (fun q => .func (.func 15) #[] #[.pointer (some ⟨q, 0, none⟩)]) (fun q => [row q 41 [.pointer (some ⟨qf, 0, none⟩)]]) (fun _ => True) Try.func11 rfl Try.ntmps11 rfl (by simp) ?_
  refine go_ _ ?_
  (first | ((with_reducible apply so_new); rfl; (first | (with_reducible rfl) | assumption | exact decide_eq_true (by omega) | (simp only [Bool.not_eq_true', Bool.not_eq_false', decide_eq_false_iff_not, decide_eq_true_eq] <;> first | assumption | omega) | decide); exact tZ rfl; (first | exact Nat.le_of_ble_eq_true rfl | decide); (intro; rfl); (first | (with_reducible rfl) | assumption | exact decide_eq_true (by omega) | (simp only [Bool.not_eq_true', Bool.not_eq_false', decide_eq_false_iff_not, decide_eq_true_eq] <;> first | assumption | omega) | decide); (intro; rfl); rfl; exact tS rfl; rfl; rfl) | ((with_reducible apply so_alloc); rfl; (first | (with_reducible rfl) | assumption | exact decide_eq_true (by omega) | (simp only [Bool.not_eq_true', Bool.not_eq_false', decide_eq_false_iff_not, decide_eq_true_eq] <;> first | assumption | omega) | decide); exact tZ rfl; (focus ((repeat (first | (with_reducible exact CopyL.agg) | exact CopyL.nil | (apply CopyL.consI; rfl) | (apply CopyL.consB; rfl) | (apply CopyL.consS; rfl) | (apply CopyL.consP; rfl) | apply CopyL.cons)); done)); (first | exact Nat.le_of_ble_eq_true rfl | decide)) | ((with_reducible apply so_box); rfl; (first | (with_reducible rfl) | assumption | exact decide_eq_true (by omega) | (simp only [Bool.not_eq_true', Bool.not_eq_false', decide_eq_false_iff_not, decide_eq_true_eq] <;> first | assumption | omega) | decide); rfl; (focus ((repeat (first | (with_reducible exact CopyL.agg) | exact CopyL.nil | (apply CopyL.consI; rfl) | (apply CopyL.consB; rfl) | (apply CopyL.consS; rfl) | (apply CopyL.consP; rfl) | apply CopyL.cons)); done)); (first | exact Nat.le_of_ble_eq_true rfl | decide)))
  intro q
  refine go_ _ ?_
  exact sret1 rfl rfl ⟨q, trivial, rfl, .refl⟩

theorem rowsF_step (e : En) (m : Nat) (y : Int) (k : Nat) (h : k < e.ws.length) : rowsF e (m + 1) y k = ((emptyL e.h k (endsOf e.ws[k] k).toNat y).1 ++ (fullM e (emptyL e.h k (endsOf e.ws[k] k).toNat y).2 k e.ws[k]).1 :: (rowsF e m (fullM e (emptyL e.h k (endsOf e.ws[k] k).toNat y).2 k e.ws[k]).2 (fullM e (emptyL e.h k (endsOf e.ws[k] k).toNat y).2 k e.ws[k]).1.b).1,
    (rowsF e m (fullM e (emptyL e.h k (endsOf e.ws[k] k).toNat y).2 k e.ws[k]).2 (fullM e (emptyL e.h k (endsOf e.ws[k] k).toNat y).2 k e.ws[k]).1.b).2) := by
  rw [rowsF, List.getElem?_eq_getElem h]
theorem rowsF_end (e : En) (m : Nat) (y : Int) (k : Nat) (h : e.ws.length ≤ k) : rowsF e m y k = ([], y) := by
  cases m with
  | zero => rfl
  | succ m => rw [rowsF, List.getElem?_eq_none h]
theorem fullM_b (e : En) (y : Int) (k : Nat) (w : Wg) (h : k < e.ws.length) : k < (fullM e y k w).1.b ∧ (fullM e y k w).1.b ≤ e.ws.length := by
  unfold fullM
  dsimp only
  have := fillL_len (downGo e.l e.h e.left e.right w.w y).2.1 (e.ws.drop (k + 1)) (wrap64 ((downGo e.l e.h e.left e.right w.w y).1 + w.w)) [(downGo e.l e.h e.left e.right w.w y).1]
  simp at this
  omega

set_option maxRecDepth 100000 in
set_option maxHeartbeats 4000000 in
theorem rows_iter (e : En) (y0 : Int) (qf q0 : Nat) (hy0 : -9223372036854775808 ≤ y0 ∧ y0 ≤ 9223372036854775807) :
    IterG Try.prog 15 [.pointer (some ⟨q0, 0, none⟩)] Rz.enc Rz.give [row q0 41 [.pointer (some ⟨qf, 0, none⟩)], row qf 43 (e.st y0 0)]
      (fun _ => [row qf 43 (e.st (rowsM e y0).2 e.ws.length)]) (fun zs => ∃ suf, (rowsM e y0).1 = zs.map (·.1) ++ suf) (fun zs => (rowsM e y0).1 = zs.map (·.1)) (EnOk e) := by
  intro B w0 he J L hY R W hJ0 hW
  refine (s_calls [(0, .func (.yield L) #[] #[]), (1, .pointer (some ⟨q0, 0, none⟩))] (Q := fun _ H' => ∃ zs R', (rowsM e y0).1 = zs.map (·.1) ∧ J zs R' ∧ SubH H' (row qf 43 (e.st (rowsM e y0).2 e.ws.length) :: R')) Try.func15 rfl Try.ntmps15 rfl (by simp) hW ?_).mono fun e w' ⟨v, H', h1, h2, zs, R', h3, h4, h5⟩ => ⟨⟨v, h1⟩, zs, R', h3, h4, h2.sub h5⟩
  have lw := he.lw
  have hbare := hW.bare
  have HW := he.words
  simp only [List.cons_append, List.nil_append]
  clear hW
  refine go_ _ ?_
  refine s_scope0 0 rfl ?_
  refine go_ _ ?_
  refine s_loop (ι := Int × Nat × List Rz × Hp) (fun i => [(0, .func (.yield L) #[] #[]), (1, .pointer (some ⟨q0, 0, none⟩))]) (fun i => row q0 41 [.pointer (some ⟨qf, 0, none⟩)] :: row qf 43 (e.st i.1 i.2.1) :: i.2.2.2)
    (fun i => i.2.1 ≤ e.ws.length ∧ (-9223372036854775808 ≤ i.1 ∧ i.1 ≤ 9223372036854775807) ∧ J i.2.2.1 i.2.2.2 ∧ ∃ m, e.ws.length - i.2.1 ≤ m ∧ rowsM e y0 = (i.2.2.1.map (·.1) ++ (rowsF e m i.1 i.2.1).1, (rowsF e m i.1 i.2.1).2)) (fun i => e.ws.length - i.2.1) (y0, 0, [], R) (by repeat (first | exact Sub.nil | refine Sub.cons rfl ?_ | (refine Sub.consB rfl (by (first | rfl | exact decide_eq_decide.2 (by omega) | exact (decide_eq_true (by omega)).symm | exact (decide_eq_false (by omega)).symm | exact decide_eq_true (by omega) | exact decide_eq_false (by omega))) ?_))) .refl ⟨Nat.zero_le _, hy0, hJ0, e.ws.length, Nat.le_refl _, rfl⟩ ?_
  rintro ⟨y, k, zs, R1⟩ ⟨hk, hyb, hJ, m, hm, hrows⟩
  dsimp only at hk hyb hJ hm hrows ⊢
  by_cases hlt : k < e.ws.length
  · obtain ⟨bw, ow, hAw, hr0⟩ := RdH.at (HW []) hbare k hlt
    have hr : ∀ H, Rw B w0 H bw (ow + k * 5) e.ws[k].cells := fun H => Rw.sub hr0 .nil
    obtain ⟨m, rfl⟩ : ∃ m', m = m' + 1 := ⟨m - 1, by omega⟩
    rw [rowsF_step e m y k hlt] at hrows
    have hemp := fun y T w1 h => empty_any e y k qf B w0 w1 T h
    have hful := fun y T w1 hh h => full_any e y k qf B w0 w1 T hlt he hh h
    have hb := fun y => fullM_b e y k e.ws[k] hlt
    have hst : ∀ y k, e.st y k = [.slice e.Aw e.ws.length e.cw, .int .i64 e.h, .int .u8 e.al, .int .i64 e.left, .int .i64 e.right, .int .i64 y, .slice e.Al e.l.length e.cl, .int .i64 (k : Nat)] := fun _ _ => rfl
    have hfo := he.fo _ (List.getElem_mem hlt)
    generalize hwk : e.ws[k] = wk at *
    obtain ⟨wa, wb, ww, wg, wf⟩ := wk
    unfold Wg.cells at hr
    dsimp only at hr hfo
    simp only [hst] at hemp hful ⊢
    rw [hAw] at hemp hful ⊢
    have hr1 := hr (row q0 41 [.pointer (some ⟨qf, 0, none⟩)] :: row qf 43 [.slice (some ⟨bw, ow, none⟩) e.ws.length e.cw, .int .i64 e.h, .int .u8 e.al, .int .i64 e.left, .int .i64 e.right, .int .i64 y, .slice e.Al e.l.length e.cl, .int .i64 (k : Nat)] :: R1)
    obtain ⟨en, hen⟩ : ∃ en, (if 0 < k then wf - 1 else wf) = en := ⟨_, rfl⟩
    have hends : endsOf ⟨wa, wb, ww, wg, wf⟩ k = max en 0 := by
      unfold endsOf; dsimp only; rw [← hen]
      split
      · rw [wrap64_within _ (by omega)]
      · rfl
    rw [hends] at hrows
    obtain ⟨n, hn⟩ : ∃ n : Nat, max en 0 = n := ⟨(max en 0).toNat, by omega⟩
    have hnb : n ≤ 65536 := by
      have : en ≤ 65536 := by rw [← hen]; split <;> omega
      omega
    rw [hn, Int.toNat_natCast] at hrows
    clear hends hr hr0
    have hr1a := congrArg Prod.fst hrows
    have hr1b := congrArg Prod.snd hrows
    dsimp only at hr1a hr1b
    generalize hY0 : (emptyL e.h k n y).2 = Y at *
    have hkc : k = 0 ∨ 0 < k := by omega
    rcases hkc with h0 | h0
    all_goals
      first | rw [if_pos h0] at hen | rw [if_neg (by omega)] at hen
      subst hen
      refine go_ _ ?_
      refine s_parts (by kernel_rfl) ?_
      refine sg_free 10 (by kernel_rfl) (go_ _ ?_)
      refine s_parts (by kernel_rfl) ?_
      refine sg_free 12 (by kernel_rfl) (go_ _ ?_)
      rw [hn]
      clear hr1
      refine s_loop (ι := Nat × Int × List Rz × Hp) (fun i => [(0, .func (.yield L) #[] #[]), (1, .pointer (some ⟨q0, 0, none⟩)), (33, .int .i64 (n : Nat)), (34, .int .i64 (i.1 : Nat))])
        (fun i => row q0 41 [.pointer (some ⟨qf, 0, none⟩)] :: row qf 43 [.slice (some ⟨bw, ow, none⟩) e.ws.length e.cw, .int .i64 e.h, .int .u8 e.al, .int .i64 e.left, .int .i64 e.right, .int .i64 i.2.1, .slice e.Al e.l.length e.cl, .int .i64 (k : Nat)] :: i.2.2.2)
        (fun i => i.1 ≤ n ∧ (-9223372036854775808 ≤ i.2.1 ∧ i.2.1 ≤ 9223372036854775807) ∧ J i.2.2.1 i.2.2.2 ∧ (emptyL e.h k (n - i.1) i.2.1).2 = Y ∧ (rowsM e y0).1 = i.2.2.1.map (·.1) ++ ((emptyL e.h k (n - i.1) i.2.1).1 ++ (fullM e Y k ⟨wa, wb, ww, wg, wf⟩).1 :: (rowsF e m (fullM e Y k ⟨wa, wb, ww, wg, wf⟩).2 (fullM e Y k ⟨wa, wb, ww, wg, wf⟩).1.b).1))
        (fun i => n - i.1) (0, y, zs, R1) (by repeat (first | exact Sub.nil | refine Sub.cons rfl ?_ | (refine Sub.consB rfl (by (first | rfl | exact decide_eq_decide.2 (by omega) | exact (decide_eq_true (by omega)).symm | exact (decide_eq_false (by omega)).symm | exact decide_eq_true (by omega) | exact decide_eq_false (by omega))) ?_))) .refl ⟨Nat.zero_le _, hyb, hJ, hY0, hr1a⟩ ?_
      rintro ⟨i, yi, zi, Ri⟩ ⟨hin, hyi, hJi, hYi, hri⟩
      dsimp only at hin hyi hJi hYi hri ⊢
      by_cases hil : i < n
      · obtain ⟨c, hc⟩ : ∃ c, n - i = c + 1 := ⟨n - i - 1, by omega⟩
        rw [hc, emptyL] at hYi hri
        dsimp only at hYi hri
        refine go_ _ ?_
        refine so_callM (ι := Unit) (vs := [.pointer (some ⟨qf, 0, none⟩)]) (I := fun _ => True)
          (L := row qf 43 [.slice (some ⟨bw, ow, none⟩) e.ws.length e.cw, .int .i64 e.h, .int .u8 e.al, .int .i64 e.left, .int .i64 e.right, .int .i64 yi, .slice e.Al e.l.length e.cl, .int .i64 (k : Nat)] :: row q0 41 [.pointer (some ⟨qf, 0, none⟩)] :: Ri) (by repeat (first | exact SubH.refl | exact SubH.nil | ((with_reducible apply SubH.cons); (focus ((repeat (first | (with_reducible exact Pick.here) | (with_reducible apply Pick.there))); done))) | ((with_reducible apply SubH.consR); (focus ((repeat (first | (with_reducible exact Pick.here) | (with_reducible apply Pick.there))); done)); (first | rfl | simp; done)) | ((with_reducible apply SubH.consO); (focus ((repeat (first | (with_reducible exact Pick.here) | (with_reducible apply Pick.there))); done)); (first | rfl | simp; done); (first | rfl | simp; done)) | exact SubH.drop SubH.refl | apply SubH.drop)) (hemp yi _) rfl rfl rfl (tF rfl) (Nat.le_of_ble_eq_true rfl) ?_
        intro _ _
        refine go_ _ ?_
        refine so_ownNil 2 1 ?_
        refine so_yieldG (vs := Rz.enc (⟨yi, k, k, []⟩, none, 0)) (G := Rz.give (⟨yi, k, k, []⟩, none, 0)) (R := Ri) (T := [row q0 41 [.pointer (some ⟨qf, 0, none⟩)], row qf 43 [.slice (some ⟨bw, ow, none⟩) e.ws.length e.cw, .int .i64 e.h, .int .u8 e.al, .int .i64 e.left, .int .i64 e.right, .int .i64 (wrap64 (yi + e.h)), .slice e.Al e.l.length e.cl, .int .i64 (k : Nat)]]) rfl (by simp only [Rz.give, List.cons_append, List.nil_append, List.map_nil, List.length_nil]; exact (by repeat (first | exact SubH.refl | exact SubH.nil | ((with_reducible apply SubH.cons); (focus ((repeat (first | (with_reducible exact Pick.here) | (with_reducible apply Pick.there))); done))) | ((with_reducible apply SubH.consR); (focus ((repeat (first | (with_reducible exact Pick.here) | (with_reducible apply Pick.there))); done)); (first | rfl | simp; done)) | ((with_reducible apply SubH.consO); (focus ((repeat (first | (with_reducible exact Pick.here) | (with_reducible apply Pick.there))); done)); (first | rfl | simp; done); (first | rfl | simp; done)) | exact SubH.drop SubH.refl | apply SubH.drop)))
          (fun T W hw => hY zi _ ⟨_, by rw [hri, List.map_append, List.append_assoc]; rfl⟩ Ri hJi T W hw) rfl (by (first | (with_reducible rfl) | assumption | exact decide_eq_true (by omega) | (simp only [Bool.not_eq_true', Bool.not_eq_false', decide_eq_false_iff_not, decide_eq_true_eq] <;> first | assumption | omega) | decide)) rfl (Nat.le_of_ble_eq_true rfl) ?_
        intro R2 hJ2
        simp only [List.cons_append, List.nil_append]
        refine go_ _ ?_
        exact ⟨(i + 1, wrap64 (yi + e.h), zi ++ [(⟨yi, k, k, []⟩, none, 0)], R2), by dsimp only; omega, (by repeat (first | exact Sub.nil | refine Sub.cons rfl ?_ | (refine Sub.consB rfl (by (first | rfl | exact decide_eq_decide.2 (by omega) | exact (decide_eq_true (by omega)).symm | exact (decide_eq_false (by omega)).symm | exact decide_eq_true (by omega) | exact decide_eq_false (by omega))) ?_))), .refl, by dsimp only; omega, by dsimp only; unfold wrap64; omega, hJ2, by dsimp only; rw [show n - (i + 1) = c by omega]; exact hYi, by dsimp only; rw [show n - (i + 1) = c by omega, hri]; simp⟩
      · obtain rfl : i = n := by omega
        rw [Nat.sub_self, emptyL] at hYi hri
        dsimp only at hYi hri
        subst hYi
        rw [List.nil_append] at hri
        have hbb := hb yi
        have hfu := fun T w1 => hful yi T w1 hyi
        have hyb2 : -9223372036854775808 ≤ (fullM e yi k ⟨wa, wb, ww, wg, wf⟩).2 ∧ (fullM e yi k ⟨wa, wb, ww, wg, wf⟩).2 ≤ 9223372036854775807 := by unfold fullM; dsimp only; unfold wrap64; omega
        have hya : (fullM e yi k ⟨wa, wb, ww, wg, wf⟩).1.a = k := rfl
        generalize fullM e yi k ⟨wa, wb, ww, wg, wf⟩ = fm at *
        obtain ⟨⟨ry, ra, rb, rx⟩, y2⟩ := fm
        dsimp only at hri hbb hfu hyb2 hya hr1b
        subst hya
        clear hful hemp hb
        refine go_ _ ?_
        refine so_callM (ι := Option Addr × Nat) (vs := [.pointer (some ⟨qf, 0, none⟩)]) (I := fun _ => True)
          (L := row qf 43 [.slice (some ⟨bw, ow, none⟩) e.ws.length e.cw, .int .i64 e.h, .int .u8 e.al, .int .i64 e.left, .int .i64 e.right, .int .i64 yi, .slice e.Al e.l.length e.cl, .int .i64 (ra : Nat)] :: row q0 41 [.pointer (some ⟨qf, 0, none⟩)] :: Ri) (by repeat (first | exact SubH.refl | exact SubH.nil | ((with_reducible apply SubH.cons); (focus ((repeat (first | (with_reducible exact Pick.here) | (with_reducible apply Pick.there))); done))) | ((with_reducible apply SubH.consR); (focus ((repeat (first | (with_reducible exact Pick.here) | (with_reducible apply Pick.there))); done)); (first | rfl | simp; done)) | ((with_reducible apply SubH.consO); (focus ((repeat (first | (with_reducible exact Pick.here) | (with_reducible apply Pick.there))); done)); (first | rfl | simp; done); (first | rfl | simp; done)) | exact SubH.drop SubH.refl | apply SubH.drop)) (hfu _) rfl rfl rfl (tF rfl) (Nat.le_of_ble_eq_true rfl) ?_
        rintro ⟨Ax, cx⟩ _
        dsimp only
        refine go_ _ ?_
        refine so_yieldG (vs := Rz.enc (⟨ry, ra, rb, rx⟩, Ax, cx)) (G := Rz.give (⟨ry, ra, rb, rx⟩, Ax, cx)) (R := Ri) (T := [row q0 41 [.pointer (some ⟨qf, 0, none⟩)], row qf 43 [.slice (some ⟨bw, ow, none⟩) e.ws.length e.cw, .int .i64 e.h, .int .u8 e.al, .int .i64 e.left, .int .i64 e.right, .int .i64 y2, .slice e.Al e.l.length e.cl, .int .i64 (rb : Nat)]]) rfl (by simp only [Rz.give, List.cons_append, List.nil_append]; exact (by repeat (first | exact SubH.refl | exact SubH.nil | ((with_reducible apply SubH.cons); (focus ((repeat (first | (with_reducible exact Pick.here) | (with_reducible apply Pick.there))); done))) | ((with_reducible apply SubH.consR); (focus ((repeat (first | (with_reducible exact Pick.here) | (with_reducible apply Pick.there))); done)); (first | rfl | simp; done)) | ((with_reducible apply SubH.consO); (focus ((repeat (first | (with_reducible exact Pick.here) | (with_reducible apply Pick.there))); done)); (first | rfl | simp; done); (first | rfl | simp; done)) | exact SubH.drop SubH.refl | apply SubH.drop)))
          (fun T W hw => hY zi _ ⟨_, by rw [hri, List.map_append, List.append_assoc]; rfl⟩ Ri hJi T W hw) rfl (by (first | (with_reducible rfl) | assumption | exact decide_eq_true (by omega) | (simp only [Bool.not_eq_true', Bool.not_eq_false', decide_eq_false_iff_not, decide_eq_true_eq] <;> first | assumption | omega) | decide)) rfl (Nat.le_of_ble_eq_true rfl) ?_
        intro R2 hJ2
        simp only [List.cons_append, List.nil_append]
        refine go_ _ ?_
        exact ⟨(y2, rb, zi ++ [(⟨ry, ra, rb, rx⟩, Ax, cx)], R2), by dsimp only; omega, (by repeat (first | exact Sub.nil | refine Sub.cons rfl ?_ | (refine Sub.consB rfl (by (first | rfl | exact decide_eq_decide.2 (by omega) | exact (decide_eq_true (by omega)).symm | exact (decide_eq_false (by omega)).symm | exact decide_eq_true (by omega) | exact decide_eq_false (by omega))) ?_))), by simp only [hst, hAw]; exact .refl, by dsimp only; omega, hyb2, hJ2, m, by dsimp only; omega, Prod.ext (by dsimp only; rw [hri]; simp) hr1b⟩
  · obtain rfl : k = e.ws.length := by omega
    rw [rowsF_end e m y _ (Nat.le_refl _)] at hrows
    rw [List.append_nil] at hrows
    have hr1a := congrArg Prod.fst hrows
    have hr1b := congrArg Prod.snd hrows
    dsimp only at hr1a hr1b
    rw [hr1b]
    unfold En.st
    refine go_ _ ?_
    refine s_parts (by kernel_rfl) ?_
    refine sg_free 10 (by kernel_rfl) (go_ _ ?_)
    exact sret0n rfl ⟨zs, R1, hr1a, hJ, .drop .refl⟩
end Go.Proofs.Ytepkhfebflmieaa
