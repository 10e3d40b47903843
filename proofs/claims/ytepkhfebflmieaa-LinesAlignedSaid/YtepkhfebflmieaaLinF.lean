/- The walk of Fill. -/
import Derived.Test.YtepkhfebflmieaaLinR
namespace Go.Proofs.Ytepkhfebflmieaa
open Go.RowKit

def Rz.row (z : Rz) : List Value := [.int .i64 z.1.y, .int .i64 (z.1.a : Nat), .int .i64 (z.1.b : Nat), .slice z.2.1 z.1.xs.length z.2.2]
theorem emptyL_len (h : Int) (k : Nat) : ∀ (n : Nat) (y : Int), (emptyL h k n y).1.length = n := by
  intro n
  induction n with
  | zero => intro y; rfl
  | succ n ih => intro y; simp [emptyL, ih]
theorem rowsF_len (e : En) (hf : ∀ x ∈ e.ws, 0 ≤ x.forced ∧ x.forced ≤ 1000) : ∀ (m : Nat) (y : Int) (k : Nat), (rowsF e m y k).1.length ≤ m * 1001 := by
  intro m
  induction m with
  | zero => intro y k; simp [rowsF]
  | succ m ih =>
    intro y k
    by_cases hk : k < e.ws.length
    · rw [rowsF_step e m y k hk]
      have h1 := hf _ (List.getElem_mem hk)
      have h2 := ih (fullM e (emptyL e.h k (endsOf e.ws[k] k).toNat y).2 k e.ws[k]).2 (fullM e (emptyL e.h k (endsOf e.ws[k] k).toNat y).2 k e.ws[k]).1.b
      have h3 : (endsOf e.ws[k] k).toNat ≤ 1000 := by
        unfold endsOf
        split
        · rw [wrap64_within _ (by omega)]; omega
        · omega
      simp only [List.length_append, List.length_cons, emptyL_len]
      omega
    · rw [rowsF_end e (m + 1) y k (by omega)]; simp
def fillJ (q14 : Nat) (zs : List Rz) (R : Hp) : Prop := ∃ A cap, R = row q14 28 [.slice A zs.length cap] :: own A zs.length cap 33 4 (zs.flatMap Rz.row) :: zs.flatMap Rz.give

theorem pick_of_mem {e : Ent} : ∀ {H : Hp}, e ∈ H → ∃ R, Pick H e R ∧ H.Perm (e :: R) := by
  intro H
  induction H with
  | nil => intro h; cases h
  | cons x H ih =>
    intro h
    rcases List.mem_cons.1 h with rfl | h
    · exact ⟨H, .here, .refl _⟩
    · obtain ⟨R, h1, h2⟩ := ih h
      exact ⟨x :: R, .there h1, (List.Perm.cons _ h2).trans (List.Perm.swap _ _ _)⟩
theorem SubH.of_perm : ∀ {L H : Hp}, H.Perm L → SubH H L := by
  intro L
  induction L with
  | nil => intro H _; exact .nil
  | cons e L ih =>
    intro H h
    obtain ⟨R, h1, h2⟩ := pick_of_mem (h.mem_iff.2 (List.mem_cons_self ..))
    exact .cons h1 (ih (List.Perm.cons_inv (h2.symm.trans h)))
theorem sretCT {P : Program} {N : Nx} {B : Nat} {w0 : World} {F : Fr} {H : Hp} {fn : Func} {Q : Value → Hp → Prop} {t u : Tmp} {ty : TypeId} {b : Nat} {x y : Value} (hr : fn.results = #[.cell t ty, .tmp u]) (hv : F.lookup t = some (.pointer (some ⟨b, 0, none⟩))) (hx : F.lookup u = some y)
    (hA : ∀ w, (isAgg ty).run P w = .ok false w) (hc : Cl B w0 H b 0 x) (h : Q (.tuple #[x, y]) H) : RetS P N B w0 fn Q .ret F H :=
  fun a w ha hw => ⟨.tuple #[x, y], by
    have c1 := hc w hw
    have e1 := ha.getD hv; have e2 := ha.getD hx; simp [Array.getD_eq_getD_getElem?] at e1 e2; simp [results, hr, e1, e2, asAddr, loadVar, hA, c1], h⟩
theorem rowsM_len (e : En) (y : Int) (hws : e.ws.length ≤ 1000) (hf : ∀ x ∈ e.ws, 0 ≤ x.forced ∧ x.forced ≤ 1000) : (rowsM e y).1.length ≤ 1001000 := by
  have := rowsF_len e hf e.ws.length y 0
  unfold rowsM
  omega

set_option maxRecDepth 100000 in
set_option maxHeartbeats 4000000 in
theorem fill_any (ws : List Wg) (l : List Fl) (h al left right y : Int) (Aw Al : Option Addr) (cw cl : Nat) (rs : List Ro) (end_ : Int) (hrs : rowsM ⟨ws, l, max h 0, al, left, right, Aw, Al, cw, cl⟩ y = (rs, end_)) (w : World) (hy : -9223372036854775808 ≤ y ∧ y ≤ 9223372036854775807) (hws : ws.length ≤ 1000) (hl : l.length ≤ 65536) (hfo : ∀ x ∈ ws, 0 ≤ x.forced ∧ x.forced ≤ 1000)
    (hA : Rd w Wg.cells 5 Aw ws) (hB : Rd w Fl.cells 5 Al l) :
    Calls Try.prog 8 #[.slice Aw ws.length cw, .int .i64 h, .int .u8 al, .int .i64 left, .int .i64 right, .int .i64 y, .slice Al l.length cl] w fun r w' => ∃ i : Option Addr × Nat × List Rz, rs = i.2.2.map (·.1) ∧
      r = .returned (.tuple #[.slice i.1 i.2.2.length i.2.1, .int .i64 end_]) ∧ Mem w.heap.size w (own i.1 i.2.2.length i.2.1 33 4 (i.2.2.flatMap Rz.row) :: i.2.2.flatMap Rz.give) w' := by
  have hlen := rowsM_len ⟨ws, l, max h 0, al, left, right, Aw, Al, cw, cl⟩ y hws hfo
  have hit := fun qf q0 => rows_iter ⟨ws, l, max h 0, al, left, right, Aw, Al, cw, cl⟩ y qf q0 hy
  rw [hrs] at hlen hit
  clear hrs
  dsimp only [En.st] at hlen hit
  refine s_callsN (ι := Option Addr × Nat × List Rz) [(0, .slice Aw ws.length cw), (1, .int .i64 h), (2, .int .u8 al), (3, .int .i64 left), (4, .int .i64 right), (5, .int .i64 y), (6, .slice Al l.length cl)] (fun i => .tuple #[.slice i.1 i.2.2.length i.2.1, .int .i64 end_])
    (fun i => own i.1 i.2.2.length i.2.1 33 4 (i.2.2.flatMap Rz.row) :: i.2.2.flatMap Rz.give) (fun i => rs = i.2.2.map (·.1)) Try.func8 rfl Try.ntmps8 rfl (by simp) ?_
  have hC : ∀ H W1, Mem w.heap.size w H W1 → EnOk ⟨ws, l, max h 0, al, left, right, Aw, Al, cw, cl⟩ w.heap.size W1 := fun H W1 h1 => ⟨fun _ => (RdH.rebase (hA.base rfl) h1 _), fun _ => (RdH.rebase (hB.base rfl) h1 _), hws, hl, hfo⟩
  clear hws hl hfo hA hB hy
  refine go_ _ ?_
  have hbuilt : (Try.prog.built 43 [(0, .slice Aw ws.length cw), (1, .int .i64 (max h 0)), (2, .int .u8 al), (3, .int .i64 left), (4, .int .i64 right), (5, .int .i64 y), (6, .slice Al l.length cl)]).map Array.toList = some [.slice Aw ws.length cw, .int .i64 (max h 0), .int .u8 al, .int .i64 left, .int .i64 right, .int .i64 y, .slice Al l.length cl, .int .i64 0] := by kernel_rfl
  (first | ((with_reducible apply so_new); rfl; (first | (with_reducible rfl) | assumption | exact decide_eq_true (by omega) | (simp only [Bool.not_eq_true', Bool.not_eq_false', decide_eq_false_iff_not, decide_eq_true_eq] <;> first | assumption | omega) | decide); exact tZ rfl; (first | exact Nat.le_of_ble_eq_true rfl | decide); (intro; rfl); (first | (with_reducible rfl) | assumption | exact decide_eq_true (by omega) | (simp only [Bool.not_eq_true', Bool.not_eq_false', decide_eq_false_iff_not, decide_eq_true_eq] <;> first | assumption | omega) | decide); (intro; rfl); rfl; exact tS rfl; rfl; rfl) | ((with_reducible apply so_alloc); rfl; (first | (with_reducible rfl) | assumption | exact decide_eq_true (by omega) | (simp only [Bool.not_eq_true', Bool.not_eq_false', decide_eq_false_iff_not, decide_eq_true_eq] <;> first | assumption | omega) | decide); exact tZ rfl; (focus ((repeat (first | (with_reducible exact CopyL.agg) | exact CopyL.nil | (apply CopyL.consI; rfl) | (apply CopyL.consB; rfl) | (apply CopyL.consS; rfl) | (apply CopyL.consP; rfl) | apply CopyL.cons)); done)); (first | exact Nat.le_of_ble_eq_true rfl | decide)) | ((with_reducible apply so_box); rfl; (first | (with_reducible rfl) | assumption | exact decide_eq_true (by omega) | (simp only [Bool.not_eq_true', Bool.not_eq_false', decide_eq_false_iff_not, decide_eq_true_eq] <;> first | assumption | omega) | decide); rfl; (focus ((repeat (first | (with_reducible exact CopyL.agg) | exact CopyL.nil | (apply CopyL.consI; rfl) | (apply CopyL.consB; rfl) | (apply CopyL.consS; rfl) | (apply CopyL.consP; rfl) | apply CopyL.cons)); done)); (first | exact Nat.le_of_ble_eq_true rfl | decide)))
  intro q14
  refine so_pure rfl rfl rfl (Nat.le_of_ble_eq_true rfl) (ps_assign rfl) ?_
  refine so_nil ?_
  refine thenH_n ?_
  refine s_seq ?_
  refine s_region ?_
  refine so_pure rfl rfl rfl (Nat.le_of_ble_eq_true rfl) (ps_move rfl) ?_
  refine so_pure rfl rfl rfl (Nat.le_of_ble_eq_true rfl) (ps_move rfl) ?_
  refine so_pure rfl rfl rfl (Nat.le_of_ble_eq_true rfl) (ps_max rfl rfl) ?_
  refine so_pure rfl rfl rfl (Nat.le_of_ble_eq_true rfl) (ps_move rfl) ?_
  refine so_pure rfl rfl rfl (Nat.le_of_ble_eq_true rfl) (ps_move rfl) ?_
  refine so_pure rfl rfl rfl (Nat.le_of_ble_eq_true rfl) (ps_move rfl) ?_
  refine so_pure rfl rfl rfl (Nat.le_of_ble_eq_true rfl) (ps_move rfl) ?_
  refine so_pure rfl rfl rfl (Nat.le_of_ble_eq_true rfl) (ps_move rfl) ?_
  refine so_pure rfl rfl rfl (Nat.le_of_ble_eq_true rfl) (ps_bld (.cons rfl (.cons rfl (.cons rfl (.cons rfl (.cons rfl (.cons rfl (.cons rfl .nil))))))) hbuilt (CopyL.refl _)) ?_
  refine so_box (cs := [.slice Aw ws.length cw, .int .i64 (max h 0), .int .u8 al, .int .i64 left, .int .i64 right, .int .i64 y, .slice Al l.length cl, .int .i64 0]) rfl rfl rfl (CopyL.refl _) (Nat.le_of_ble_eq_true rfl) fun qf => ?_
  clear hbuilt
  generalize max h 0 = hh at *
  refine so_pure rfl rfl rfl (Nat.le_of_ble_eq_true rfl) (ps_assign rfl) ?_
  refine so_nil ?_
  refine thenH_n ?_
  refine sq_start ?_
  refine sq_seq ?_
  refine go_ _ ?_
  refine so_callN (fun w1 _ => rows_any qf w1) rfl rfl rfl (tF rfl) (Nat.le_of_ble_eq_true rfl) ?_
  intro q0 _
  refine so_ownNil 33 4 ?_
  refine go_ _ ?_
  refine sq_rangeG (ps := [30]) Rz.enc Rz.give [row q0 41 [.pointer (some ⟨qf, 0, none⟩)], row qf 43 [.slice Aw ws.length cw, .int .i64 hh, .int .u8 al, .int .i64 left, .int .i64 right, .int .i64 y, .slice Al l.length cl, .int .i64 0]]
    [row q14 28 [.slice none 0 0], own none 0 0 33 4 []] _ _ _ (fillJ q14) rfl (tF rfl) rfl (fun _ => rfl) (by decide) (fun p hp => by simp at hp; subst hp; exact Nat.le_of_ble_eq_true rfl)
    (by simp only [List.cons_append, List.nil_append]; exact (by repeat (first | exact SubH.refl | exact SubH.nil | ((with_reducible apply SubH.cons); (focus ((repeat (first | (with_reducible exact Pick.here) | (with_reducible apply Pick.there))); done))) | ((with_reducible apply SubH.consR); (focus ((repeat (first | (with_reducible exact Pick.here) | (with_reducible apply Pick.there))); done)); (first | rfl | simp; done)) | ((with_reducible apply SubH.consO); (focus ((repeat (first | (with_reducible exact Pick.here) | (with_reducible apply Pick.there))); done)); (first | rfl | simp; done); (first | rfl | simp; done)) | exact SubH.drop SubH.refl | apply SubH.drop))) ⟨none, 0, rfl⟩ (hit qf q0) (fun W1 h1 => hC _ W1 h1) ?_ ?_
  · rintro L W1 pre ⟨ro, Ax, cx⟩ R T h1 ⟨suf, hpx⟩ ⟨A, cap, rfl⟩
    have hpl : pre.length < 1001000 := by
      have e : rs.length = (pre ++ [((ro, Ax, cx) : Rz)]).length + suf.length := by rw [hpx]; simp; omega
      simp at e; omega
    unfold Rz.enc Rz.give
    dsimp only
    simp only [List.zip_cons_cons, List.zip_nil_left, List.cons_append, List.nil_append]
    refine go_ _ ?_
    (first | ((with_reducible apply so_new); rfl; (first | (with_reducible rfl) | assumption | exact decide_eq_true (by omega) | (simp only [Bool.not_eq_true', Bool.not_eq_false', decide_eq_false_iff_not, decide_eq_true_eq] <;> first | assumption | omega) | decide); exact tZ rfl; (first | exact Nat.le_of_ble_eq_true rfl | decide); (intro; rfl); (first | (with_reducible rfl) | assumption | exact decide_eq_true (by omega) | (simp only [Bool.not_eq_true', Bool.not_eq_false', decide_eq_false_iff_not, decide_eq_true_eq] <;> first | assumption | omega) | decide); (intro; rfl); rfl; exact tS rfl; rfl; rfl) | ((with_reducible apply so_alloc); rfl; (first | (with_reducible rfl) | assumption | exact decide_eq_true (by omega) | (simp only [Bool.not_eq_true', Bool.not_eq_false', decide_eq_false_iff_not, decide_eq_true_eq] <;> first | assumption | omega) | decide); exact tZ rfl; (focus ((repeat (first | (with_reducible exact CopyL.agg) | exact CopyL.nil | (apply CopyL.consI; rfl) | (apply CopyL.consB; rfl) | (apply CopyL.consS; rfl) | (apply CopyL.consP; rfl) | apply CopyL.cons)); done)); (first | exact Nat.le_of_ble_eq_true rfl | decide)) | ((with_reducible apply so_box); rfl; (first | (with_reducible rfl) | assumption | exact decide_eq_true (by omega) | (simp only [Bool.not_eq_true', Bool.not_eq_false', decide_eq_false_iff_not, decide_eq_true_eq] <;> first | assumption | omega) | decide); rfl; (focus ((repeat (first | (with_reducible exact CopyL.agg) | exact CopyL.nil | (apply CopyL.consI; rfl) | (apply CopyL.consB; rfl) | (apply CopyL.consS; rfl) | (apply CopyL.consP; rfl) | apply CopyL.cons)); done)); (first | exact Nat.le_of_ble_eq_true rfl | decide)))
    intro q17
    refine go_ _ ?_
    refine ⟨rfl, row q17 33 (Rz.row (ro, Ax, cx)) :: own Ax ro.xs.length cx 2 1 (ro.xs.map (.int .i64)) :: row q14 28 [.slice A pre.length cap] :: own A pre.length cap 33 4 (pre.flatMap Rz.row) :: pre.flatMap Rz.give, .refl, fun T' => ?_⟩
    unfold Rz.row
    simp only [List.cons_append, List.nil_append]
    refine go_ _ ?_
    refine so_slice1 (e := 33) (sz := 4) rfl (by (first | (with_reducible rfl) | assumption | exact decide_eq_true (by omega) | (simp only [Bool.not_eq_true', Bool.not_eq_false', decide_eq_false_iff_not, decide_eq_true_eq] <;> first | assumption | omega) | decide)) rfl (by kernel_rfl) rfl (Nat.le_of_ble_eq_true rfl) fun q8 => ?_
    refine go_ _ ?_
    refine so_append1 (e := 33) (sz := 4) (news := Rz.row (ro, Ax, cx)) rfl (by (first | (with_reducible rfl) | assumption | exact decide_eq_true (by omega) | (simp only [Bool.not_eq_true', Bool.not_eq_false', decide_eq_false_iff_not, decide_eq_true_eq] <;> first | assumption | omega) | decide)) rfl rfl (by kernel_rfl) (Nat.le_of_ble_eq_true rfl) (fun A'' cap'' => (by (focus ((repeat (first | (with_reducible exact Upd.here) | (with_reducible apply Upd.there))); done)))) rw_here rfl rfl (by omega) fun A3 cap3 => ?_
    refine go_ _ ?_
    have e1 : (pre ++ [((ro, Ax, cx) : Rz)]).length = pre.length + 1 := by simp
    have e2 : (pre ++ [((ro, Ax, cx) : Rz)]).flatMap Rz.row = pre.flatMap Rz.row ++ Rz.row (ro, Ax, cx) := by simp
    have e3 : (pre ++ [((ro, Ax, cx) : Rz)]).flatMap Rz.give = pre.flatMap Rz.give ++ [own Ax ro.xs.length cx 2 1 (ro.xs.map (.int .i64))] := by simp [Rz.give]
    refine ⟨rfl, _, ⟨A3, cap3, rfl⟩, ?_⟩
    rw [e1, e2, e3]
    simp only [List.cons_append, List.nil_append, List.append_assoc]
    exact .drop (.drop (.of_perm ((List.Perm.swap _ _ _).trans (.cons _ ((List.Perm.swap _ _ _).trans (.cons _ List.perm_middle.symm))))))
  · rintro W1 ⟨n', at', lb'⟩ h1 hN zs R' hfin ⟨A, cap, rfl⟩
    dsimp only at hN
    subst hN
    simp only [List.cons_append, List.nil_append]
    refine go_ _ ?_
    refine s_parts (by kernel_rfl) ?_
    refine sg_mix 7 [5] (fun _ => row qf 43 [.slice Aw ws.length cw, .int .i64 hh, .int .u8 al, .int .i64 left, .int .i64 right, .int .i64 end_, .slice Al l.length cl, .int .i64 (ws.length : Nat)] :: row q14 28 [.slice A zs.length cap] :: own A zs.length cap 33 4 (zs.flatMap Rz.row) :: zs.flatMap Rz.give) (by kernel_rfl) (by decide) rfl rfl (go_ _ ?_)
    refine onlyRet_r ?_
    refine sretCT rfl rfl rfl (tA rfl) (cl_there (cl_here rfl)) ⟨(A, cap, zs), hfin, rfl, ?_⟩
    exact .drop (.drop .refl)
end Go.Proofs.Ytepkhfebflmieaa
