/- The walks of move and full. -/
import Derived.Test.YtepkhfebflmieaaLinM
namespace Go.Proofs.Ytepkhfebflmieaa
open Go.RowKit

theorem Mem.rowOwn {B q n sz : Nat} {w0 w : World} {t : TypeId} {cs : List Value} {H R : Hp} (hp : Pick H (row q t cs) R) (hl : cs.length = n * sz) (hn : n ≤ maxLen) (h : Mem B w0 H w) : Mem B w0 (own (some ⟨q, 0, none⟩) n n t sz cs :: R) w := by
  have h1 := h.pick hp
  have hk := h1.ok _ (List.mem_cons_self ..)
  refine ⟨h1.below, h1.base, fun e he => ?_, ?_, h1.others⟩
  · rcases List.mem_cons.1 he with rfl | he
    · exact ⟨⟨hl, .inr ⟨q, n, cs.toArray, rfl, Nat.zero_le _, hk.1, Nat.le_refl _, hn, by simpa using hl, by simp [← hl]⟩⟩, fun g hg => hk.2 g hg⟩
    · exact h1.ok e (List.mem_cons_of_mem _ he)
  · have h2 := List.pairwise_cons.1 h1.apart
    exact List.pairwise_cons.2 ⟨fun x hx g hg => h2.1 x hx g hg, h2.2⟩
theorem s_rowOwn {rd : Option Nat} {P : Program} {N : Nx} {B q : Nat} {w0 : World} {F : Fr} {t : TypeId} {cs : List Value} {H R : Hp} {c : Code} {K : Exit → Fr → Hp → Prop} (n sz : Nat) (hp : Pick H (row q t cs) R) (hl : cs.length = n * sz) (hn : n ≤ maxLen) (h : S rd P N B w0 c F (own (some ⟨q, 0, none⟩) n n t sz cs :: R) K) : S rd P N B w0 c F H K := fun hN w hw => h hN w (hw.rowOwn hp hl hn)
/-- What is known behind a block, whichever way it was left. -/
theorem s_meetB {rd : Option Nat} {P : Program} {N : Nx} {B : Nat} {w0 : World} {F : Fr} {H : Hp} {c c2 : Code} {K K2 : Exit → Fr → Hp → Prop} {id : Nat} {ι : Type} (G : ι → Fr) (Hg : ι → Hp) (I : ι → Prop) (h1 : S rd P N B w0 c F H (inBlkH id (thenH (fun F' H' => ∃ i, Sub F' (G i) ∧ SubH H' (Hg i) ∧ I i) K))) (h2 : ∀ i, I i → S rd P N B w0 c2 (G i) (Hg i) K2) :
    S rd P N B w0 c F H (inBlkH id (thenH (fun F' H' => S rd P N B w0 c2 F' H' K2) K)) := h1.mono fun e F' H' hk => by
  have key : (∃ i, Sub F' (G i) ∧ SubH H' (Hg i) ∧ I i) → S rd P N B w0 c2 F' H' K2 := fun ⟨i, a, b, c⟩ => s_sub a b (h2 i c)
  cases e with
  | normal => exact key hk
  | exit i =>
    simp only [inBlkH] at hk ⊢
    split
    · rename_i hi; rw [if_pos hi] at hk; exact key hk
    · rename_i hi; rw [if_neg hi] at hk; exact hk
  | _ => exact hk
theorem map_step {f : Int → Int} (xs : List Int) (i : Nat) (h : i < xs.length) : (((xs.take i).map f ++ xs.drop i).map (Value.int .i64)).set i (.int .i64 (f xs[i])) = ((xs.take (i + 1)).map f ++ xs.drop (i + 1)).map (Value.int .i64) := by
  have e1 : xs.take (i + 1) = xs.take i ++ [xs[i]] := by rw [List.take_add_one, List.getElem?_eq_getElem h]; rfl
  rw [e1, List.drop_eq_getElem_cons h]
  simp only [List.map_append, List.map_cons, List.map_nil]
  have hp : (List.map (Value.int .i64) (List.map f (xs.take i))).length = i := by simp; omega
  rw [List.set_append_right _ _ (by rw [hp]; exact Nat.le_refl _), hp, Nat.sub_self, List.set_cons_zero]
  simp

set_option maxRecDepth 100000 in
set_option maxHeartbeats 2000000 in
theorem move_any (e : En) (y left : Int) (k qf B : Nat) (w0 w : World) (T : Hp) (A : Option Addr) (cap : Nat) (xs : List Int) (hx : 0 < xs.length) (hxl : xs.length ≤ 65536) (hl : 0 ≤ left ∧ left ≤ 9223372036854775807)
    (hw : Mem B w0 (row qf 43 (e.st y k) :: own A xs.length cap 2 1 (xs.map (.int .i64)) :: T) w) :
    Calls Try.prog 19 #[.pointer (some ⟨qf, 0, none⟩), .slice A xs.length cap, .int .i64 left] w fun r w' => ∃ _ : Unit, True ∧ r = .returned (.tuple #[]) ∧
      Mem B w0 (row qf 43 (e.st y k) :: own A xs.length cap 2 1 ((xs.map fun x => wrap64 (x + alM e.al left)).map (.int .i64)) :: T) w' := by
  obtain ⟨ga, rfl⟩ := hw.ownSome (.there .here) hx
  refine (s_calls [(0, .pointer (some ⟨qf, 0, none⟩)), (1, .slice (some ⟨ga, 0, none⟩) xs.length cap), (2, .int .i64 left)] (Q := fun v H' => v = .tuple #[] ∧ SubH H' (row qf 43 (e.st y k) :: own (some ⟨ga, 0, none⟩) xs.length cap 2 1 ((xs.map fun x => wrap64 (x + alM e.al left)).map (.int .i64)) :: T)) Try.func19 rfl Try.ntmps19 rfl (by simp) hw ?_).mono fun e w' ⟨v, H', h1, h2, h3, h4⟩ => ⟨(), trivial, h3 ▸ h1, h2.sub h4⟩
  obtain ⟨ws, l, h, al, lf, right, Aw, Al, cw, cl⟩ := e
  unfold En.st at *
  dsimp only at *
  clear hw
  refine go_ _ ?_
  refine so_makeMap rfl (by (first | (with_reducible rfl) | assumption | exact decide_eq_true (by omega) | (simp only [Bool.not_eq_true', Bool.not_eq_false', decide_eq_false_iff_not, decide_eq_true_eq] <;> first | assumption | omega) | decide)) (Nat.le_of_ble_eq_true rfl) fun qm => ?_
  refine go_ _ ?_
  refine so_insert rfl (by (first | (with_reducible rfl) | assumption | exact decide_eq_true (by omega) | (simp only [Bool.not_eq_true', Bool.not_eq_false', decide_eq_false_iff_not, decide_eq_true_eq] <;> first | assumption | omega) | decide)) rfl rfl rfl (unT_spec _ _ rfl) (unT_spec _ _ rfl) rfl rfl (by (focus ((repeat (first | (with_reducible exact Upd.here) | (with_reducible apply Upd.there))); done))) ?_
  refine go_ _ ?_
  refine so_insert rfl (by (first | (with_reducible rfl) | assumption | exact decide_eq_true (by omega) | (simp only [Bool.not_eq_true', Bool.not_eq_false', decide_eq_false_iff_not, decide_eq_true_eq] <;> first | assumption | omega) | decide)) rfl rfl rfl (unT_spec _ _ rfl) (unT_spec _ _ rfl) rfl rfl (by (focus ((repeat (first | (with_reducible exact Upd.here) | (with_reducible apply Upd.there))); done))) ?_
  refine go_ _ ?_
  refine so_pure rfl (by (first | (with_reducible rfl) | assumption | exact decide_eq_true (by omega) | (simp only [Bool.not_eq_true', Bool.not_eq_false', decide_eq_false_iff_not, decide_eq_true_eq] <;> first | assumption | omega) | decide)) rfl (Nat.le_of_ble_eq_true rfl) (v := .int .i64 (alM al left)) ?_ ?_
  · by_cases h1 : al = 1
    · subst h1
      exact ps_lookup (kd := .int .u8) (i := 0) rfl rfl (unT_spec _ _ rfl) (unT_spec _ _ rfl) rfl (by simp [Instr.findNow, Instr.sameNow, alM]) .here
    · by_cases h2 : al = 2
      · subst h2
        exact ps_lookup (kd := .int .u8) (i := 1) rfl rfl (unT_spec _ _ rfl) (unT_spec _ _ rfl) rfl (by simp [Instr.findNow, Instr.sameNow, alM]) .here
      · have e : alM al left = 0 := by simp [alM, h1, h2]
        have b1 : (al == 1) = false := by simpa using h1
        have b2 : (al == 2) = false := by simpa using h2
        rw [e]
        exact ps_lookup0 (kd := .int .u8) rfl rfl (unT_spec _ _ rfl) (unT_spec _ _ rfl) rfl (by simp [Instr.findNow, Instr.sameNow, b1, b2]) (tZ rfl) .here
  generalize alM al left = by_
  refine go_ _ ?_
  refine s_loop (ι := Nat) (fun i => [(1, .slice (some ⟨ga, 0, none⟩) xs.length cap), (6, .int .i64 by_), (19, .int .i64 (xs.length : Nat)), (20, .int .i64 (i : Nat))])
    (fun i => [row qf 43 [.slice Aw ws.length cw, .int .i64 h, .int .u8 al, .int .i64 lf, .int .i64 right, .int .i64 y, .slice Al l.length cl, .int .i64 (k : Nat)], own (some ⟨ga, 0, none⟩) xs.length cap 2 1 (((xs.take i).map (fun x => wrap64 (x + by_)) ++ xs.drop i).map (.int .i64))] ++ T) (fun i => i ≤ xs.length) (fun i => xs.length - i) 0 (by repeat (first | exact Sub.nil | refine Sub.cons rfl ?_ | (refine Sub.consB rfl (by (first | rfl | exact decide_eq_decide.2 (by omega) | exact (decide_eq_true (by omega)).symm | exact (decide_eq_false (by omega)).symm | exact decide_eq_true (by omega) | exact decide_eq_false (by omega))) ?_))) ?_ (Nat.zero_le _) ?_
  · simp only [List.cons_append, List.nil_append]; exact (by repeat (first | exact SubH.refl | exact SubH.nil | ((with_reducible apply SubH.cons); (focus ((repeat (first | (with_reducible exact Pick.here) | (with_reducible apply Pick.there))); done))) | ((with_reducible apply SubH.consR); (focus ((repeat (first | (with_reducible exact Pick.here) | (with_reducible apply Pick.there))); done)); (first | rfl | simp; done)) | ((with_reducible apply SubH.consO); (focus ((repeat (first | (with_reducible exact Pick.here) | (with_reducible apply Pick.there))); done)); (first | rfl | simp; done); (first | rfl | simp; done)) | exact SubH.drop SubH.refl | apply SubH.drop))
  intro i hi
  simp only [List.cons_append, List.nil_append]
  by_cases hlt : i < xs.length
  · have hms := map_step (f := fun x => wrap64 (x + by_)) xs i hlt
    have hc : (((xs.take i).map (fun x => wrap64 (x + by_)) ++ xs.drop i).map (Value.int .i64))[i]? = some (.int .i64 xs[i]) := by
      rw [List.getElem?_map, List.getElem?_append_right (by simp; omega)]
      simp [Nat.min_eq_left hi, hlt]
    have hln : (((xs.take i).map (fun x => wrap64 (x + by_)) ++ xs.drop i).map (Value.int .i64)).length = xs.length := by simp; omega
    generalize ((xs.take i).map (fun x => wrap64 (x + by_)) ++ xs.drop i).map (Value.int .i64) = cs at *
    generalize xs[i] = x at *
    have hcl : ∀ H, Cl B w0 (own (some ⟨ga, 0, none⟩) xs.length cap 2 1 cs :: H) ga (0 + i * 1) (.int .i64 x) := fun H => by
      rw [Nat.zero_add, Nat.mul_one]; exact cl_own hc
    have hcl1 := cl_there (e := row qf 43 [.slice Aw ws.length cw, .int .i64 h, .int .u8 al, .int .i64 lf, .int .i64 right, .int .i64 y, .slice Al l.length cl, .int .i64 (k : Nat)]) (hcl T)
    refine go_ _ ?_
    refine ⟨i + 1, by omega, (by repeat (first | exact Sub.nil | refine Sub.cons rfl ?_ | (refine Sub.consB rfl (by (first | rfl | exact decide_eq_decide.2 (by omega) | exact (decide_eq_true (by omega)).symm | exact (decide_eq_false (by omega)).symm | exact decide_eq_true (by omega) | exact decide_eq_false (by omega))) ?_))), ?_, by omega⟩
    simp only [List.cons_append, List.nil_append, Nat.zero_add, Nat.mul_one]
    rw [← hms]
    exact .refl
  · obtain rfl : i = xs.length := by omega
    rw [List.take_length, List.drop_length, List.append_nil]
    refine go_ _ ?_
    exact sret0n rfl ⟨rfl, .refl⟩

set_option maxRecDepth 100000 in
set_option maxHeartbeats 4000000 in
theorem full_any (e : En) (y : Int) (k qf B : Nat) (w0 w : World) (T : Hp) (hk : k < e.ws.length) (he : EnOk e B w0) (hh : -9223372036854775808 ≤ y ∧ y ≤ 9223372036854775807)
    (hw : Mem B w0 (row qf 43 (e.st y k) :: T) w) :
    Calls Try.prog 17 #[.pointer (some ⟨qf, 0, none⟩)] w fun r w' => ∃ i : Option Addr × Nat, True ∧
      r = .returned (.agg #[.int .i64 (fullM e y k e.ws[k]).1.y, .int .i64 (k : Nat), .int .i64 ((fullM e y k e.ws[k]).1.b : Nat), .slice i.1 (fullM e y k e.ws[k]).1.xs.length i.2]) ∧
      Mem B w0 (row qf 43 (e.st (fullM e y k e.ws[k]).2 (fullM e y k e.ws[k]).1.b) :: own i.1 (fullM e y k e.ws[k]).1.xs.length i.2 2 1 ((fullM e y k e.ws[k]).1.xs.map (.int .i64)) :: T) w' := by
  refine (s_calls [(0, .pointer (some ⟨qf, 0, none⟩))] (Q := fun v H' => ∃ i : Option Addr × Nat, v = .agg #[.int .i64 (fullM e y k e.ws[k]).1.y, .int .i64 (k : Nat), .int .i64 ((fullM e y k e.ws[k]).1.b : Nat), .slice i.1 (fullM e y k e.ws[k]).1.xs.length i.2] ∧
    SubH H' (row qf 43 (e.st (fullM e y k e.ws[k]).2 (fullM e y k e.ws[k]).1.b) :: own i.1 (fullM e y k e.ws[k]).1.xs.length i.2 2 1 ((fullM e y k e.ws[k]).1.xs.map (.int .i64)) :: T)) Try.func17 rfl Try.ntmps17 rfl (by simp) hw ?_).mono fun e w' ⟨v, H', h1, h2, i, h3, h4⟩ => ⟨i, trivial, h3 ▸ h1, h2.sub h4⟩
  have hd : ∀ wd y T w1, Mem B w0 (row qf 43 (e.st y k) :: T) w1 → _ := fun wd y T w1 h => down_any e wd y k qf B w0 w1 T he h
  have hmv := fun y left k' T w1 A cap xs h1 h2 h3 h4 => move_any e y left k' qf B w0 w1 T A cap xs h1 h2 h3 h4
  have HW := he.words
  have lw := he.lw
  have hbare := hw.bare
  obtain ⟨bw, ow, hAw, hr0⟩ := RdH.at (HW []) hbare k hk
  have hr : ∀ H, Rw B w0 H bw (ow + k * 5) e.ws[k].cells := fun H => Rw.sub hr0 .nil
  clear hr0 he hw
  unfold fullM
  generalize hwk : e.ws[k] = wk at *
  obtain ⟨wa, wb, ww, wg, wf⟩ := wk
  unfold Wg.cells at hr
  dsimp only at *
  obtain ⟨ws, l, h, al, left, right, Aw, Al, cw, cl⟩ := e
  unfold En.st at *
  dsimp only at *
  replace hk : k < ws.length := hk
  subst hAw
  refine go_ _ ?_
  (first | ((with_reducible apply so_new); rfl; (first | (with_reducible rfl) | assumption | exact decide_eq_true (by omega) | (simp only [Bool.not_eq_true', Bool.not_eq_false', decide_eq_false_iff_not, decide_eq_true_eq] <;> first | assumption | omega) | decide); exact tZ rfl; (first | exact Nat.le_of_ble_eq_true rfl | decide); (intro; rfl); (first | (with_reducible rfl) | assumption | exact decide_eq_true (by omega) | (simp only [Bool.not_eq_true', Bool.not_eq_false', decide_eq_false_iff_not, decide_eq_true_eq] <;> first | assumption | omega) | decide); (intro; rfl); rfl; exact tS rfl; rfl; rfl) | ((with_reducible apply so_alloc); rfl; (first | (with_reducible rfl) | assumption | exact decide_eq_true (by omega) | (simp only [Bool.not_eq_true', Bool.not_eq_false', decide_eq_false_iff_not, decide_eq_true_eq] <;> first | assumption | omega) | decide); exact tZ rfl; (focus ((repeat (first | (with_reducible exact CopyL.agg) | exact CopyL.nil | (apply CopyL.consI; rfl) | (apply CopyL.consB; rfl) | (apply CopyL.consS; rfl) | (apply CopyL.consP; rfl) | apply CopyL.cons)); done)); (first | exact Nat.le_of_ble_eq_true rfl | decide)) | ((with_reducible apply so_box); rfl; (first | (with_reducible rfl) | assumption | exact decide_eq_true (by omega) | (simp only [Bool.not_eq_true', Bool.not_eq_false', decide_eq_false_iff_not, decide_eq_true_eq] <;> first | assumption | omega) | decide); rfl; (focus ((repeat (first | (with_reducible exact CopyL.agg) | exact CopyL.nil | (apply CopyL.consI; rfl) | (apply CopyL.consB; rfl) | (apply CopyL.consS; rfl) | (apply CopyL.consP; rfl) | apply CopyL.cons)); done)); (first | exact Nat.le_of_ble_eq_true rfl | decide)))
  intro q2
  refine so_nil ?_
  refine go_ _ ?_
  have hr1 := hr (row q2 33 [.int .i64 0, .int .i64 0, .int .i64 0, .slice none 0 0] :: row qf 43 [.slice (some ⟨bw, ow, none⟩) ws.length cw, .int .i64 h, .int .u8 al, .int .i64 left, .int .i64 right, .int .i64 y, .slice Al l.length cl, .int .i64 (k : Nat)] :: T)
  refine s_parts (by kernel_rfl) ?_
  refine sg_free 11 (by kernel_rfl) (go_ _ ?_)
  refine sd_allocL (cs := [.int .i64 0, .int .i64 0, .int .i64 0, .int .i64 0, .int .i64 0]) rfl rfl (by (first | (with_reducible rfl) | assumption | exact decide_eq_true (by omega) | (simp only [Bool.not_eq_true', Bool.not_eq_false', decide_eq_false_iff_not, decide_eq_true_eq] <;> first | assumption | omega) | decide)) rfl (tZ rfl) (Nat.le_of_ble_eq_true rfl) ?_
  refine go_ _ ?_
  intro q3
  refine sg_one (by kernel_rfl) ?_
  refine so_storeB rfl rfl rfl rfl (tS rfl) rfl rfl (by (focus ((repeat (first | (with_reducible exact Upd.here) | (with_reducible apply Upd.there))); done))) (by rfl) ?_
  refine go_ _ ?_
  refine so_callM (ι := Unit) (vs := [.pointer (some ⟨qf, 0, none⟩), .int .i64 ww]) (I := fun _ => True)
    (L := row qf 43 [.slice (some ⟨bw, ow, none⟩) ws.length cw, .int .i64 h, .int .u8 al, .int .i64 left, .int .i64 right, .int .i64 y, .slice Al l.length cl, .int .i64 (k : Nat)] :: row q3 37 [.int .i64 wa, .int .i64 wb, .int .i64 ww, .int .i64 wg, .int .i64 wf] :: row q2 33 [.int .i64 0, .int .i64 0, .int .i64 0, .slice none 0 0] :: T) (by repeat (first | exact SubH.refl | exact SubH.nil | ((with_reducible apply SubH.cons); (focus ((repeat (first | (with_reducible exact Pick.here) | (with_reducible apply Pick.there))); done))) | ((with_reducible apply SubH.consR); (focus ((repeat (first | (with_reducible exact Pick.here) | (with_reducible apply Pick.there))); done)); (first | rfl | simp; done)) | ((with_reducible apply SubH.consO); (focus ((repeat (first | (with_reducible exact Pick.here) | (with_reducible apply Pick.there))); done)); (first | rfl | simp; done); (first | rfl | simp; done)) | exact SubH.drop SubH.refl | apply SubH.drop)) (hd ww y _) rfl rfl rfl (tF rfl) (Nat.le_of_ble_eq_true rfl) ?_
  clear hd hr1
  generalize downGo l h left right ww y = d at *
  obtain ⟨fr, to_, y1⟩ := d
  dsimp only at *
  intro _ _
  refine go_ _ ?_
  refine s_parts (by kernel_rfl) ?_
  refine sg_evt 12 [] [(9, sl1N, fun x => [row x.1 2 [.int .i64 fr]]), (11, ptrN, fun x => [row x.1 33 [.int .i64 0, .int .i64 0, .int .i64 0, .slice none 0 0]])]
    (fun α b => row qf 43 [.slice (some ⟨bw, ow, none⟩) ws.length cw, .int .i64 h, .int .u8 al, .int .i64 left, .int .i64 right, .int .i64 y1, .slice Al l.length cl, .int .i64 (k : Nat)] :: row q3 37 [.int .i64 wa, .int .i64 wb, .int .i64 ww, .int .i64 wg, .int .i64 wf] :: row q2 33 [.int .i64 0, .int .i64 0, .int .i64 0, .slice none 0 0] ::
      ((bif b 9 then [row (α 9).1 2 [.int .i64 fr]] else []) ++ ((bif b 11 then [row (α 11).1 33 [.int .i64 0, .int .i64 0, .int .i64 0, .slice none 0 0]] else []) ++ T))) (by kernel_rfl) rfl (fun _ => rfl) fun α => go_ _ ?_
  refine se_slice1 (e := 2) (sz := 1) (cs := [.int .i64 fr]) rfl (fun _ _ => rfl) rfl (by (first | (with_reducible rfl) | assumption | exact decide_eq_true (by omega) | (simp only [Bool.not_eq_true', Bool.not_eq_false', decide_eq_false_iff_not, decide_eq_true_eq] <;> first | assumption | omega) | decide)) rfl (by kernel_rfl) rfl rfl (Nat.le_of_ble_eq_true rfl) (fun b => ?_) ?_
  · cases h9 : b 9 <;> cases h11 : b 11 <;> simp [setb, h9, h11] <;> exact (by repeat (first | exact SubH.refl | exact SubH.nil | ((with_reducible apply SubH.cons); (focus ((repeat (first | (with_reducible exact Pick.here) | (with_reducible apply Pick.there))); done))) | ((with_reducible apply SubH.consR); (focus ((repeat (first | (with_reducible exact Pick.here) | (with_reducible apply Pick.there))); done)); (first | rfl | simp; done)) | ((with_reducible apply SubH.consO); (focus ((repeat (first | (with_reducible exact Pick.here) | (with_reducible apply Pick.there))); done)); (first | rfl | simp; done); (first | rfl | simp; done)) | exact SubH.drop SubH.refl | apply SubH.drop))
  refine go_ _ ?_
  refine se_alloc (cs := [.int .i64 0, .int .i64 0, .int .i64 0, .slice none 0 0]) rfl (fun _ _ => rfl) rfl (by (first | (with_reducible rfl) | assumption | exact decide_eq_true (by omega) | (simp only [Bool.not_eq_true', Bool.not_eq_false', decide_eq_false_iff_not, decide_eq_true_eq] <;> first | assumption | omega) | decide)) (tZ rfl) rfl (Nat.le_of_ble_eq_true rfl) (fun b => ?_) ?_
  · cases h9 : b 9 <;> cases h11 : b 11 <;> simp [setb, h9, h11] <;> exact (by repeat (first | exact SubH.refl | exact SubH.nil | ((with_reducible apply SubH.cons); (focus ((repeat (first | (with_reducible exact Pick.here) | (with_reducible apply Pick.there))); done))) | ((with_reducible apply SubH.consR); (focus ((repeat (first | (with_reducible exact Pick.here) | (with_reducible apply Pick.there))); done)); (first | rfl | simp; done)) | ((with_reducible apply SubH.consO); (focus ((repeat (first | (with_reducible exact Pick.here) | (with_reducible apply Pick.there))); done)); (first | rfl | simp; done); (first | rfl | simp; done)) | exact SubH.drop SubH.refl | apply SubH.drop))
  refine go_ _ ?_
  generalize (α 9).1 = q4
  generalize (α 11).1 = q5
  refine SG.sub .refl (L := row qf 43 [.slice (some ⟨bw, ow, none⟩) ws.length cw, .int .i64 h, .int .u8 al, .int .i64 left, .int .i64 right, .int .i64 y1, .slice Al l.length cl, .int .i64 (k : Nat)] :: row q3 37 [.int .i64 wa, .int .i64 wb, .int .i64 ww, .int .i64 wg, .int .i64 wf] :: row q2 33 [.int .i64 0, .int .i64 0, .int .i64 0, .slice none 0 0] :: row q4 2 [.int .i64 fr] :: row q5 33 [.int .i64 0, .int .i64 0, .int .i64 0, .slice none 0 0] :: T) .refl ?_
  clear α
  refine sg_one (by kernel_rfl) ?_
  refine so_storeB rfl rfl rfl rfl (tS rfl) rfl rfl (by (focus ((repeat (first | (with_reducible exact Upd.here) | (with_reducible apply Upd.there))); done))) (by rfl) ?_
  refine go_ _ ?_
  refine s_rowOwn 1 1 (.there (.there (.there .here))) rfl (by decide) ?_
  obtain ⟨at0, hat0⟩ : ∃ a, wrap64 (fr + ww) = a := ⟨_, rfl⟩
  rw [hat0]
  refine s_meetB (ι := Int × List Int × Option Addr × Nat) (fun i => [(0, .pointer (some ⟨qf, 0, none⟩)), (2, .pointer (some ⟨q2, 0, none⟩)), (5, .int .i64 to_), (6, .pointer (some ⟨q5, 0, none⟩)), (7, .int .i64 i.1)]) (fun i => row qf 43 [.slice (some ⟨bw, ow, none⟩) ws.length cw, .int .i64 h, .int .u8 al, .int .i64 left, .int .i64 right, .int .i64 y1, .slice Al l.length cl, .int .i64 (k + i.2.1.length : Nat)] :: row q5 33 [.int .i64 y1, .int .i64 (k : Nat), .int .i64 0, .slice i.2.2.1 i.2.1.length i.2.2.2] :: own i.2.2.1 i.2.1.length i.2.2.2 2 1 (i.2.1.map (.int .i64)) :: row q2 33 [.int .i64 0, .int .i64 0, .int .i64 0, .slice none 0 0] :: T) (fun i => 0 < i.2.1.length ∧ k + i.2.1.length ≤ ws.length ∧ (i.1, i.2.1) = fillL to_ (ws.drop (k + 1)) at0 [fr]) ?_ ?_
  · refine s_loop (ι := Int × List Int × Option Addr × Nat) (fun i => [(0, .pointer (some ⟨qf, 0, none⟩)), (2, .pointer (some ⟨q2, 0, none⟩)), (5, .int .i64 to_), (6, .pointer (some ⟨q5, 0, none⟩)), (7, .int .i64 i.1)])
      (fun i => row qf 43 [.slice (some ⟨bw, ow, none⟩) ws.length cw, .int .i64 h, .int .u8 al, .int .i64 left, .int .i64 right, .int .i64 y1, .slice Al l.length cl, .int .i64 (k + i.2.1.length : Nat)] :: row q5 33 [.int .i64 y1, .int .i64 (k : Nat), .int .i64 0, .slice i.2.2.1 i.2.1.length i.2.2.2] :: own i.2.2.1 i.2.1.length i.2.2.2 2 1 (i.2.1.map (.int .i64)) :: row q2 33 [.int .i64 0, .int .i64 0, .int .i64 0, .slice none 0 0] :: T)
      (fun i => 0 < i.2.1.length ∧ k + i.2.1.length ≤ ws.length ∧ fillL to_ (ws.drop (k + i.2.1.length)) i.1 i.2.1 = fillL to_ (ws.drop (k + 1)) at0 [fr]) (fun i => ws.length - (k + i.2.1.length)) (at0, [fr], some ⟨q4, 0, none⟩, 1) (by repeat (first | exact Sub.nil | refine Sub.cons rfl ?_ | (refine Sub.consB rfl (by (first | rfl | exact decide_eq_decide.2 (by omega) | exact (decide_eq_true (by omega)).symm | exact (decide_eq_false (by omega)).symm | exact decide_eq_true (by omega) | exact decide_eq_false (by omega))) ?_))) (by simp only [List.length_singleton, List.map_cons, List.map_nil]; exact (by repeat (first | exact SubH.refl | exact SubH.nil | ((with_reducible apply SubH.cons); (focus ((repeat (first | (with_reducible exact Pick.here) | (with_reducible apply Pick.there))); done))) | ((with_reducible apply SubH.consR); (focus ((repeat (first | (with_reducible exact Pick.here) | (with_reducible apply Pick.there))); done)); (first | rfl | simp; done)) | ((with_reducible apply SubH.consO); (focus ((repeat (first | (with_reducible exact Pick.here) | (with_reducible apply Pick.there))); done)); (first | rfl | simp; done); (first | rfl | simp; done)) | exact SubH.drop SubH.refl | apply SubH.drop))) ⟨by simp, by simp; omega, rfl⟩ ?_
    rintro ⟨at_, xs, Ax, cx⟩ ⟨hx0, hkx, hfl⟩
    dsimp only at hx0 hkx hfl ⊢
    by_cases hlt : k + xs.length < ws.length
    · obtain ⟨b2, o2, e2, hr0⟩ := RdH.at (HW []) hbare (k + xs.length) hlt
      cases e2
      have hr2 : ∀ H, Rw B w0 H bw (ow + (k + xs.length) * 5) ws[k + xs.length].cells := fun H => Rw.sub hr0 .nil
      have hr3 := hr2 (row qf 43 [.slice (some ⟨bw, ow, none⟩) ws.length cw, .int .i64 h, .int .u8 al, .int .i64 left, .int .i64 right, .int .i64 y1, .slice Al l.length cl, .int .i64 (k + xs.length : Nat)] :: row q5 33 [.int .i64 y1, .int .i64 (k : Nat), .int .i64 0, .slice Ax xs.length cx] :: own Ax xs.length cx 2 1 (xs.map (.int .i64)) :: row q2 33 [.int .i64 0, .int .i64 0, .int .i64 0, .slice none 0 0] :: T)
      clear hr0 hr2
      rw [List.drop_eq_getElem_cons hlt, fillL] at hfl
      generalize ws[k + xs.length] = v at *
      obtain ⟨va, vb, vw, vg, vf⟩ := v
      unfold Wg.cells at hr3
      dsimp only at hfl hr3
      refine go_ _ ?_
      refine s_parts (by kernel_rfl) ?_
      refine sg_free 10 (by kernel_rfl) (go_ _ ?_)
      refine s_parts (by kernel_rfl) ?_
      refine sg_free 11 (by kernel_rfl) (go_ _ ?_)
      refine sd_allocL (cs := [.int .i64 0, .int .i64 0, .int .i64 0, .int .i64 0, .int .i64 0]) rfl rfl (by (first | (with_reducible rfl) | assumption | exact decide_eq_true (by omega) | (simp only [Bool.not_eq_true', Bool.not_eq_false', decide_eq_false_iff_not, decide_eq_true_eq] <;> first | assumption | omega) | decide)) rfl (tZ rfl) (Nat.le_of_ble_eq_true rfl) ?_
      refine go_ _ ?_
      intro q8
      clear hr3
      refine sg_one (by kernel_rfl) ?_
      refine so_storeB rfl rfl rfl rfl (tS rfl) rfl rfl (by (focus ((repeat (first | (with_reducible exact Upd.here) | (with_reducible apply Upd.there))); done))) (by rfl) ?_
      by_cases hf0 : vf = 0
      · by_cases hto : to_ < wrap64 (wrap64 (at_ + vg) + vw)
        · rw [if_pos (.inr hto)] at hfl
          refine go_ _ ?_
          exact ⟨(at_, xs, Ax, cx), (by repeat (first | exact Sub.nil | refine Sub.cons rfl ?_ | (refine Sub.consB rfl (by (first | rfl | exact decide_eq_decide.2 (by omega) | exact (decide_eq_true (by omega)).symm | exact (decide_eq_false (by omega)).symm | exact decide_eq_true (by omega) | exact decide_eq_false (by omega))) ?_))), (by repeat (first | exact SubH.refl | exact SubH.nil | ((with_reducible apply SubH.cons); (focus ((repeat (first | (with_reducible exact Pick.here) | (with_reducible apply Pick.there))); done))) | ((with_reducible apply SubH.consR); (focus ((repeat (first | (with_reducible exact Pick.here) | (with_reducible apply Pick.there))); done)); (first | rfl | simp; done)) | ((with_reducible apply SubH.consO); (focus ((repeat (first | (with_reducible exact Pick.here) | (with_reducible apply Pick.there))); done)); (first | rfl | simp; done); (first | rfl | simp; done)) | exact SubH.drop SubH.refl | apply SubH.drop)), hx0, hkx, hfl⟩
        · rw [if_neg (by rintro (h | h); exact h hf0; exact hto h)] at hfl
          refine go_ _ ?_
          refine so_slice1 (e := 2) (sz := 1) rfl (by (first | (with_reducible rfl) | assumption | exact decide_eq_true (by omega) | (simp only [Bool.not_eq_true', Bool.not_eq_false', decide_eq_false_iff_not, decide_eq_true_eq] <;> first | assumption | omega) | decide)) rfl (by kernel_rfl) rfl (Nat.le_of_ble_eq_true rfl) fun q9 => ?_
          refine go_ _ ?_
          refine so_append1 (e := 2) (sz := 1) rfl (by (first | (with_reducible rfl) | assumption | exact decide_eq_true (by omega) | (simp only [Bool.not_eq_true', Bool.not_eq_false', decide_eq_false_iff_not, decide_eq_true_eq] <;> first | assumption | omega) | decide)) rfl rfl (by kernel_rfl) (Nat.le_of_ble_eq_true rfl) (fun A'' cap'' => (by (focus ((repeat (first | (with_reducible exact Upd.here) | (with_reducible apply Upd.there))); done)))) rw_here rfl rfl (by omega) fun A3 c3 => ?_
          refine go_ _ ?_
          have e1 : (xs ++ [wrap64 (at_ + vg)]).length = xs.length + 1 := by simp
          have e2 : (xs ++ [wrap64 (at_ + vg)]).map (Value.int .i64) = xs.map (Value.int .i64) ++ [.int .i64 (wrap64 (at_ + vg))] := by simp
          refine ⟨(wrap64 (at_ + wrap64 (vg + vw)), xs ++ [wrap64 (at_ + vg)], A3, c3), by dsimp only; rw [e1]; omega, (by repeat (first | exact Sub.nil | refine Sub.cons rfl ?_ | (refine Sub.consB rfl (by (first | rfl | exact decide_eq_decide.2 (by omega) | exact (decide_eq_true (by omega)).symm | exact (decide_eq_false (by omega)).symm | exact decide_eq_true (by omega) | exact decide_eq_false (by omega))) ?_))), ?_, by dsimp only; omega, by dsimp only; rw [e1]; omega, ?_⟩
          · dsimp only
            rw [e1, e2]
            exact (by repeat (first | exact SubH.refl | exact SubH.nil | ((with_reducible apply SubH.cons); (focus ((repeat (first | (with_reducible exact Pick.here) | (with_reducible apply Pick.there))); done))) | ((with_reducible apply SubH.consR); (focus ((repeat (first | (with_reducible exact Pick.here) | (with_reducible apply Pick.there))); done)); (first | rfl | simp; done)) | ((with_reducible apply SubH.consO); (focus ((repeat (first | (with_reducible exact Pick.here) | (with_reducible apply Pick.there))); done)); (first | rfl | simp; done); (first | rfl | simp; done)) | exact SubH.drop SubH.refl | apply SubH.drop))
          · dsimp only
            rw [e1, ← Nat.add_assoc]
            exact hfl
      · rw [if_pos (.inl hf0)] at hfl
        refine go_ _ ?_
        exact ⟨(at_, xs, Ax, cx), (by repeat (first | exact Sub.nil | refine Sub.cons rfl ?_ | (refine Sub.consB rfl (by (first | rfl | exact decide_eq_decide.2 (by omega) | exact (decide_eq_true (by omega)).symm | exact (decide_eq_false (by omega)).symm | exact decide_eq_true (by omega) | exact decide_eq_false (by omega))) ?_))), (by repeat (first | exact SubH.refl | exact SubH.nil | ((with_reducible apply SubH.cons); (focus ((repeat (first | (with_reducible exact Pick.here) | (with_reducible apply Pick.there))); done))) | ((with_reducible apply SubH.consR); (focus ((repeat (first | (with_reducible exact Pick.here) | (with_reducible apply Pick.there))); done)); (first | rfl | simp; done)) | ((with_reducible apply SubH.consO); (focus ((repeat (first | (with_reducible exact Pick.here) | (with_reducible apply Pick.there))); done)); (first | rfl | simp; done); (first | rfl | simp; done)) | exact SubH.drop SubH.refl | apply SubH.drop)), hx0, hkx, hfl⟩
    · rw [List.drop_of_length_le (by omega), fillL] at hfl
      refine go_ _ ?_
      refine s_parts (by kernel_rfl) ?_
      refine sg_free 10 (by kernel_rfl) (go_ _ ?_)
      exact ⟨(at_, xs, Ax, cx), (by repeat (first | exact Sub.nil | refine Sub.cons rfl ?_ | (refine Sub.consB rfl (by (first | rfl | exact decide_eq_decide.2 (by omega) | exact (decide_eq_true (by omega)).symm | exact (decide_eq_false (by omega)).symm | exact decide_eq_true (by omega) | exact decide_eq_false (by omega))) ?_))), (by repeat (first | exact SubH.refl | exact SubH.nil | ((with_reducible apply SubH.cons); (focus ((repeat (first | (with_reducible exact Pick.here) | (with_reducible apply Pick.there))); done))) | ((with_reducible apply SubH.consR); (focus ((repeat (first | (with_reducible exact Pick.here) | (with_reducible apply Pick.there))); done)); (first | rfl | simp; done)) | ((with_reducible apply SubH.consO); (focus ((repeat (first | (with_reducible exact Pick.here) | (with_reducible apply Pick.there))); done)); (first | rfl | simp; done); (first | rfl | simp; done)) | exact SubH.drop SubH.refl | apply SubH.drop)), hx0, hkx, hfl⟩
  rintro ⟨at_, xs, Ax, cx⟩ ⟨hx0, hkx, hfl⟩
  dsimp only at hx0 hkx hfl ⊢
  rw [← hfl]
  dsimp only
  refine go_ _ ?_
  have hwb : 0 ≤ max (wrap64 (to_ - at_)) 0 ∧ max (wrap64 (to_ - at_)) 0 ≤ 9223372036854775807 := by unfold wrap64; omega
  generalize max (wrap64 (to_ - at_)) 0 = lf at *
  refine so_callM (ι := Unit) (vs := [.pointer (some ⟨qf, 0, none⟩), .slice Ax xs.length cx, .int .i64 lf]) (I := fun _ => True)
    (L := row qf 43 [.slice (some ⟨bw, ow, none⟩) ws.length cw, .int .i64 h, .int .u8 al, .int .i64 left, .int .i64 right, .int .i64 y1, .slice Al l.length cl, .int .i64 (k + xs.length : Nat)] :: own Ax xs.length cx 2 1 (xs.map (.int .i64)) :: row q5 33 [.int .i64 y1, .int .i64 (k : Nat), .int .i64 ((k + xs.length : Nat) : Int), .slice Ax xs.length cx] :: row q2 33 [.int .i64 0, .int .i64 0, .int .i64 0, .slice none 0 0] :: T) (by repeat (first | exact SubH.refl | exact SubH.nil | ((with_reducible apply SubH.cons); (focus ((repeat (first | (with_reducible exact Pick.here) | (with_reducible apply Pick.there))); done))) | ((with_reducible apply SubH.consR); (focus ((repeat (first | (with_reducible exact Pick.here) | (with_reducible apply Pick.there))); done)); (first | rfl | simp; done)) | ((with_reducible apply SubH.consO); (focus ((repeat (first | (with_reducible exact Pick.here) | (with_reducible apply Pick.there))); done)); (first | rfl | simp; done); (first | rfl | simp; done)) | exact SubH.drop SubH.refl | apply SubH.drop)) (fun w1 h1 => hmv y1 lf (k + xs.length) _ w1 Ax cx xs hx0 (by omega) hwb h1) rfl rfl rfl (tF rfl) (Nat.le_of_ble_eq_true rfl) ?_
  intro _ _
  clear hmv HW
  refine go_ _ ?_
  refine s_parts (by kernel_rfl) ?_
  refine sg_free 11 (by kernel_rfl) (go_ _ ?_)
  refine sg_one (by kernel_rfl) ?_
  refine go_ _ ?_
  refine so_storeB rfl rfl rfl rfl (tS rfl) rfl rfl (by (focus ((repeat (first | (with_reducible exact Upd.here) | (with_reducible apply Upd.there))); done))) (by rfl) ?_
  refine go_ _ ?_
  refine sretCell rfl rfl (tA rfl) (tS rfl) (rw_there (rw_there (rw_there rw_here))) ?_
  have el : (xs.map fun x => wrap64 (x + alM al lf)).length = xs.length := List.length_map ..
  refine ⟨(Ax, cx), ?_, ?_⟩
  · dsimp only
    rw [el]
  · dsimp only
    rw [el]
    exact (by repeat (first | exact SubH.refl | exact SubH.nil | ((with_reducible apply SubH.cons); (focus ((repeat (first | (with_reducible exact Pick.here) | (with_reducible apply Pick.there))); done))) | ((with_reducible apply SubH.consR); (focus ((repeat (first | (with_reducible exact Pick.here) | (with_reducible apply Pick.there))); done)); (first | rfl | simp; done)) | ((with_reducible apply SubH.consO); (focus ((repeat (first | (with_reducible exact Pick.here) | (with_reducible apply Pick.there))); done)); (first | rfl | simp; done); (first | rfl | simp; done)) | exact SubH.drop SubH.refl | apply SubH.drop))
end Go.Proofs.Ytepkhfebflmieaa
