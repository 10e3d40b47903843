/- The walk of TextJoined. -/
import Derived.Test.YtkdjlaejbimchaaTxtS
namespace Go.Proofs.Ytkdjlaejbimchaa
open Go.RowKit

theorem flat_uV (l : List Int) : l.flatMap uV = l.map (.int .u16) := by
  induction l with
  | nil => rfl
  | cons u l ih => rw [List.flatMap_cons, ih]; rfl
theorem toJ {i : Int} {j : Nat} (h : i = (j : Int)) : i = Int.ofNat j := h
theorem cnt_self (us : List Int) (k : Nat) : cnt ((us.take k).drop k) = 0 := by rw [List.drop_of_length_le (List.length_take_le _ _)]; rfl
theorem lastB_le (n : Nat) (ws : List Wd) (h : ∀ x ∈ ws, x.b ≤ n) : lastB ws 0 ≤ n := by
  unfold lastB
  split
  · omega
  · rename_i w hw; exact h w (List.mem_of_getLast? hw)
theorem lastB_at (ws : List Wd) (h : 0 < ws.length) : lastB ws 0 = ws[ws.length - 1].b := by
  unfold lastB
  rw [List.getLast?_eq_getElem?, List.getElem?_eq_getElem (by omega)]
theorem cnt_le (l : List Int) : cnt l ≤ l.length := List.countP_le_length
theorem cnt_step (us : List Int) (lo k : Nat) (h1 : lo ≤ k) (h : k < us.length) : cnt ((us.take (k + 1)).drop lo) = cnt ((us.take k).drop lo) + if us[k] = 10 then 1 else 0 := by
  have e : us.take (k + 1) = us.take k ++ [us[k]] := by rw [List.take_add_one, List.getElem?_eq_getElem h]; rfl
  rw [e, List.drop_append_of_le_length (by simp; omega)]
  unfold cnt
  rw [List.countP_append]
  simp [List.countP_cons]

set_option maxRecDepth 100000 in
set_option maxHeartbeats 4000000 in
theorem joined_any (us vs av : List Int) (A1 A2 A3 : Option Addr) (c1 c2 c3 : Nat) (hu : UB us) (hv : UB vs) (ha : AB av) (hc1 : us.length ≤ c1) (hc2 : vs.length ≤ c2) (hn1 : A1 = none → c1 = 0) (hn2 : A2 = none → c2 = 0)
    (w : World) (h1 : Rd w uV 1 A1 us) (h2 : Rd w uV 1 A2 vs) (h3 : Rd w aV 1 A3 av) :
    Calls Try.prog 6 #[.slice A1 us.length c1, .slice A2 vs.length c2, .slice A3 av.length c3] w fun e w' => e = .returned (.bool true) ∧ Below w.heap.size w w' := by
  refine s_quiet [(0, .slice A1 us.length c1), (1, .slice A2 vs.length c2), (2, .slice A3 av.length c3)] Try.func6 rfl Try.ntmps6 rfl (by simp) ?_
  have H1 : ∀ H, RdH w.heap.size w H uV 1 A1 us := fun _ => h1.base rfl
  have H2 : ∀ H, RdH w.heap.size w H uV 1 A2 vs := fun _ => h2.base rfl
  have H3 : ∀ H, RdH w.heap.size w H aV 1 A3 av := fun _ => h3.base rfl
  clear h1 h2 h3
  by_cases hb1 : 3000 < us.length ∨ 8192 < av.length
  · have hv : (decide (3000 < us.length) || decide (8192 < av.length)) = true := by simpa using hb1
    have hvast : ∀ w1, Calls Try.prog 12 #[.slice A1 us.length c1, .slice A3 av.length c3] w1 fun e w' => e = .returned (.bool true) ∧ Below w1.heap.size w1 w' := fun w1 => hv ▸ vast_any us.length av.length c1 c3 A1 A3 w1
    refine go_ _ ?_
    refine so_callQ (fun w1 _ => hvast w1) rfl rfl rfl (tF rfl) (Nat.le_of_ble_eq_true rfl) ?_
    refine go_ _ ?_
    refine so_callQ (fun w1 _ => works_any w1) rfl rfl rfl (tF rfl) (Nat.le_of_ble_eq_true rfl) ?_
    refine go_ _ ?_
    exact sret1 rfl rfl rfl
  have hvast : ∀ w1, Calls Try.prog 12 #[.slice A1 us.length c1, .slice A3 av.length c3] w1 fun e w' => e = .returned (.bool false) ∧ Below w1.heap.size w1 w' := fun w1 => by
    have := vast_any us.length av.length c1 c3 A1 A3 w1
    rwa [show (decide (3000 < us.length) || decide (8192 < av.length)) = false by simp; omega] at this
  by_cases hb2 : 3000 < vs.length
  · have hvast2 : ∀ w1, Calls Try.prog 12 #[.slice A2 vs.length c2, .slice A3 av.length c3] w1 fun e w' => e = .returned (.bool true) ∧ Below w1.heap.size w1 w' := fun w1 => by
      have := vast_any vs.length av.length c2 c3 A2 A3 w1
      rwa [show (decide (3000 < vs.length) || decide (8192 < av.length)) = true by simp; omega] at this
    refine go_ _ ?_
    refine so_callQ (fun w1 _ => hvast w1) rfl rfl rfl (tF rfl) (Nat.le_of_ble_eq_true rfl) ?_
    refine go_ _ ?_
    refine so_callQ (fun w1 _ => hvast2 w1) rfl (by (first | (with_reducible rfl) | assumption | exact decide_eq_true (by omega) | (simp only [Bool.not_eq_true', Bool.not_eq_false', decide_eq_false_iff_not, decide_eq_true_eq] <;> first | assumption | omega) | decide)) rfl (tF rfl) (Nat.le_of_ble_eq_true rfl) ?_
    refine go_ _ ?_
    refine so_callQ (fun w1 _ => works_any w1) rfl rfl rfl (tF rfl) (Nat.le_of_ble_eq_true rfl) ?_
    refine go_ _ ?_
    exact sret1 rfl rfl rfl
  have hvast2 : ∀ w1, Calls Try.prog 12 #[.slice A2 vs.length c2, .slice A3 av.length c3] w1 fun e w' => e = .returned (.bool false) ∧ Below w1.heap.size w1 w' := fun w1 => by
    have := vast_any vs.length av.length c2 c3 A2 A3 w1
    rwa [show (decide (3000 < vs.length) || decide (8192 < av.length)) = false by simp; omega] at this
  refine go_ _ ?_
  refine so_callQ (fun w1 _ => hvast w1) rfl rfl rfl (tF rfl) (Nat.le_of_ble_eq_true rfl) ?_
  refine go_ _ ?_
  refine so_callQ (fun w1 _ => hvast2 w1) rfl (by (first | (with_reducible rfl) | assumption | exact decide_eq_true (by omega) | (simp only [Bool.not_eq_true', Bool.not_eq_false', decide_eq_false_iff_not, decide_eq_true_eq] <;> first | assumption | omega) | decide)) rfl (tF rfl) (Nat.le_of_ble_eq_true rfl) ?_
  clear hvast hvast2
  have hub : us.length ≤ 3000 ∧ vs.length ≤ 3000 := by omega
  clear hb1 hb2
  obtain ⟨hub1, hub2⟩ := hub
  have hw1 : ∀ H w1, Mem w.heap.size w H w1 → Calls Try.prog 13 #[.slice A1 us.length c1, .slice A3 av.length c3] w1 fun e w' => ∃ i : Option Addr × Nat, True ∧ e = .returned (.tuple #[.slice i.1 (wordsS av us).ws.length i.2, .bool (wordsS av us).far]) ∧ Mem w1.heap.size w1 [own i.1 (wordsS av us).ws.length i.2 34 5 ((wordsS av us).ws.flatMap Wd.cells)] w' := fun H w1 h => words_any us av A1 A3 c1 c3 hu ha (by omega) hc1 w1 (H1 _ w1 h) (H3 _ w1 h)
  have hw2 : ∀ H w1, Mem w.heap.size w H w1 → Calls Try.prog 13 #[.slice A2 vs.length c2, .slice A3 av.length c3] w1 fun e w' => ∃ i : Option Addr × Nat, True ∧ e = .returned (.tuple #[.slice i.1 (wordsS av vs).ws.length i.2, .bool (wordsS av vs).far]) ∧ Mem w1.heap.size w1 [own i.1 (wordsS av vs).ws.length i.2 34 5 ((wordsS av vs).ws.flatMap Wd.cells)] w' := fun H w1 h => words_any vs av A2 A3 c2 c3 hv ha (by omega) hc2 w1 (H2 _ w1 h) (H3 _ w1 h)
  have hub3 : UB (us ++ 10 :: vs) := fun x hx => by
    rcases List.mem_append.1 hx with hx | hx
    · exact hu x hx
    · rcases List.mem_cons.1 hx with rfl | hx
      · omega
      · exact hv x hx
  have hw3 := fun (A : Option Addr) (c : Nat) e0 T => words_own (B := w.heap.size) (w0 := w) (us ++ 10 :: vs) av A A3 c c3 hub3 ha (by simp; omega) (H := e0 :: own A (us ++ 10 :: vs).length c 36 1 ((us ++ 10 :: vs).map (.int .u16)) :: T) (.there .here) (RdH.cons own_rd1) (H3 _)
  obtain ⟨j1, j2⟩ := words_joined av us vs
  rw [j1, j2] at hw3
  have in1 := words_in av us
  have in2 := words_in av vs
  have wl1 := words_len av us
  have wl2 := words_len av vs
  clear j1 j2 hub3
  generalize wordsS av us = s1 at *
  generalize wordsS av vs = s2 at *
  obtain ⟨l, g1, f1, e⟩ := s1
  obtain ⟨m, g2, f2, f⟩ := s2
  dsimp only at *
  have hL1 : l.length = 0 → lastB l 0 = 0 := fun h => by rw [List.eq_nil_of_length_eq_zero h]; rfl
  have hL2 := lastB_at l
  have hL3 := lastB_le us.length l (fun x hx => (in1 x hx).2.1)
  generalize lastB l 0 = L at *
  generalize hd : 1 + cnt (us.drop L) = D at *
  have hjoin := join_at (us.length + 1) (D : Nat) l m
  have hjoin0 : (l ++ shL (us.length + 1) (D : Nat) m).take l.length = l := by simp
  have hal : (l ++ shL (us.length + 1) (D : Nat) m).length = l.length + m.length := by rw [List.length_append, shL_len]
  generalize l ++ shL (us.length + 1) (D : Nat) m = all at *
  rw [hal] at hw3
  refine go_ _ ?_
  refine so_callN (hw1 _) rfl rfl rfl (tF rfl) (Nat.le_of_ble_eq_true rfl) ?_
  clear hw1
  rintro ⟨B1, d1⟩ _
  dsimp only
  refine go_ _ ?_
  refine so_callN (hw2 _) rfl rfl rfl (tF rfl) (Nat.le_of_ble_eq_true rfl) ?_
  clear hw2
  rintro ⟨B2, d2⟩ _
  dsimp only
  refine go_ _ ?_
  refine so_lit0 (e := 36) (sz := 1) rfl rfl (tU rfl) (tS rfl) (Nat.le_of_ble_eq_true rfl) fun q3 => ?_
  refine go_ _ ?_
  refine so_appendN (c := uV) (l := us) (e := 36) (sz := 1) (xs := []) (xs' := us.map (.int .u16)) rfl rfl rfl rfl (Nat.zero_add _) (by simp [flat_uV]) (by kernel_rfl) (Nat.le_of_ble_eq_true rfl) (fun A' cap' => (by (focus ((repeat (first | (with_reducible exact Upd.here) | (with_reducible apply Upd.there))); done)))) (H1 _) hn1 (fun _ => rfl) (fun _ => rfl) (by omega) fun B3 d3 => ?_
  refine so_lit (vs := [.int .u16 10]) (sz := 1) (e := 36) rfl (by (first | (with_reducible rfl) | assumption | exact decide_eq_true (by omega) | (simp only [Bool.not_eq_true', Bool.not_eq_false', decide_eq_false_iff_not, decide_eq_true_eq] <;> first | assumption | omega) | decide)) (by repeat (first | exact Parts.nil | ((with_reducible apply Parts.cons); rfl))) (by rfl) (by rfl) (by kernel_rfl) (by simp [Value.cells]) (xs := [.int .u16 10]) (by repeat (first | exact CopyL.nil | apply CopyL.cons)) (by simp) (by simp) (Nat.le_of_ble_eq_true rfl) fun q4 => ?_
  refine go_ _ ?_
  refine so_appendN (c := uV) (l := [10]) (e := 36) (sz := 1) (xs := us.map (.int .u16)) (n' := us.length + 1) (xs' := (us ++ [10]).map (.int .u16)) rfl rfl rfl rfl rfl (by simp [uV]) (by kernel_rfl) (Nat.le_of_ble_eq_true rfl) (fun A' cap' => (by (focus ((repeat (first | (with_reducible exact Upd.here) | (with_reducible apply Upd.there))); done)))) (own_rd (c := uV) (l := [10]) (by decide) (fun _ => rfl)) (by simp) (fun _ => rfl) (fun _ => rfl) (by simp; omega) fun B4 d4 => ?_
  refine go_ _ ?_
  refine so_appendN (c := uV) (l := vs) (e := 36) (sz := 1) (xs := (us ++ [10]).map (.int .u16)) (n' := (us ++ 10 :: vs).length) (xs' := (us ++ 10 :: vs).map (.int .u16)) rfl rfl rfl rfl (by simp; omega) (by simp [flat_uV]) (by kernel_rfl) (Nat.le_of_ble_eq_true rfl) (fun A' cap' => (by (focus ((repeat (first | (with_reducible exact Upd.here) | (with_reducible apply Upd.there))); done)))) (H2 _) hn2 (fun _ => rfl) (fun _ => rfl) (by omega) fun B5 d5 => ?_
  refine go_ _ ?_
  refine so_callN (hw3 _ _ _ _) rfl rfl rfl (tF rfl) (Nat.le_of_ble_eq_true rfl) ?_
  rintro ⟨B6, d6⟩ _
  dsimp only
  refine go_ _ ?_
  refine so_ownCap .here fun hcap => ?_
  have hsame : ∀ e1 e2 e3 w1, Mem w.heap.size w (own B6 (l.length + m.length) d6 34 5 (all.flatMap Wd.cells) :: e1 :: e2 :: e3 :: [own B1 l.length d1 34 5 (l.flatMap Wd.cells)]) w1 → Calls Try.prog 11 #[.slice (subA B6 0 5 d6) (l.length - 0) (d6 - 0), .slice B1 l.length d1] w1 fun e w' => e = .returned (.bool true) ∧ Below w1.heap.size w1 w' := fun e1 e2 e3 w1 h => by
    have r1 : Rd w1 Wd.cells 5 B6 all := own_rd (c := Wd.cells) (by decide) (fun _ => rfl) w1 h
    have r2 : Rd w1 Wd.cells 5 B1 l := own_rd (c := Wd.cells) (by decide) (fun _ => rfl) w1 h.tail.tail.tail.tail
    have r3 := r1.part 0 l.length d6 (by omega)
    rw [hjoin0, List.drop_zero] at r3
    have := same_any (l.map Wd.g) (subA B6 0 5 d6) B1 (d6 - 0) d1 (by simp; omega) w1 (wd_rd r3) (wd_rd r2)
    rwa [List.length_map] at this
  refine so_joinK (ι := Unit) (fun _ => [(0, .slice A1 us.length c1), (7, .slice B1 l.length d1), (9, .slice B2 m.length d2), (12, .slice B6 (l.length + m.length) d6), (77, .bool false)])
    (fun _ => [own B6 (l.length + m.length) d6 34 5 (all.flatMap Wd.cells), own B2 m.length d2 34 5 (m.flatMap Wd.cells), own B1 l.length d1 34 5 (l.flatMap Wd.cells)]) (fun _ => True) ?_ ?_
  · cases e <;> cases f
    all_goals
      refine go_ _ ?_
      refine so_pure rfl (by (first | (with_reducible rfl) | assumption | exact decide_eq_true (by omega) | (simp only [Bool.not_eq_true', Bool.not_eq_false', decide_eq_false_iff_not, decide_eq_true_eq] <;> first | assumption | omega) | decide)) rfl (Nat.le_of_ble_eq_true rfl) (ps_slice (lo := 0) (hi := l.length) rfl rfl ⟨_, _, rfl, rfl⟩ (Nat.zero_le _) (by omega) (tU rfl) (tS rfl)) ?_
      refine go_ _ ?_
      refine so_callQ (hsame _ _ _) rfl (by (first | (with_reducible rfl) | assumption | exact decide_eq_true (by omega) | (simp only [Bool.not_eq_true', Bool.not_eq_false', decide_eq_false_iff_not, decide_eq_true_eq] <;> first | assumption | omega) | decide)) rfl (tF rfl) (Nat.le_of_ble_eq_true rfl) ?_
      refine go_ _ ?_
      exact ⟨(), (by repeat (first | exact Sub.nil | refine Sub.cons rfl ?_ | (refine Sub.consB rfl (by (first | rfl | exact decide_eq_decide.2 (by omega) | exact (decide_eq_true (by omega)).symm | exact (decide_eq_false (by omega)).symm | exact decide_eq_true (by omega) | exact decide_eq_false (by omega))) ?_))), (by repeat (first | exact SubH.refl | exact SubH.nil | ((with_reducible apply SubH.cons); (focus ((repeat (first | (with_reducible exact Pick.here) | (with_reducible apply Pick.there))); done))) | ((with_reducible apply SubH.consR); (focus ((repeat (first | (with_reducible exact Pick.here) | (with_reducible apply Pick.there))); done)); (first | rfl | simp; done)) | ((with_reducible apply SubH.consO); (focus ((repeat (first | (with_reducible exact Pick.here) | (with_reducible apply Pick.there))); done)); (first | rfl | simp; done); (first | rfl | simp; done)) | exact SubH.drop SubH.refl | apply SubH.drop)), trivial⟩
  clear hsame hw3 H2 H3
  rintro _ _ F' H' hF hH
  refine go_ _ ?_
  refine s_sub hF hH ?_
  clear hF hH F' H'
  rcases Nat.eq_zero_or_pos l.length with hl0 | hl0
  · have h0 := hL1 hl0
    subst h0
    refine go_ _ ?_
    refine s_loop (ι := Nat) (fun k => [(0, .slice A1 us.length c1), (7, .slice B1 l.length d1), (9, .slice B2 m.length d2), (12, .slice B6 (l.length + m.length) d6), (14, .int .i64 ((1 + cnt ((us.take k).drop 0) : Nat) : Int)), (16, .int .i64 (k : Nat))])
      (fun _ => [own B6 (l.length + m.length) d6 34 5 (all.flatMap Wd.cells), own B2 m.length d2 34 5 (m.flatMap Wd.cells)]) (fun k => 0 ≤ k ∧ k ≤ us.length) (fun k => us.length - k) 0 (by rw [cnt_self us 0]; exact (by repeat (first | exact Sub.nil | refine Sub.cons rfl ?_ | (refine Sub.consB rfl (by (first | rfl | exact decide_eq_decide.2 (by omega) | exact (decide_eq_true (by omega)).symm | exact (decide_eq_false (by omega)).symm | exact decide_eq_true (by omega) | exact decide_eq_false (by omega))) ?_)))) (by repeat (first | exact SubH.refl | exact SubH.nil | ((with_reducible apply SubH.cons); (focus ((repeat (first | (with_reducible exact Pick.here) | (with_reducible apply Pick.there))); done))) | ((with_reducible apply SubH.consR); (focus ((repeat (first | (with_reducible exact Pick.here) | (with_reducible apply Pick.there))); done)); (first | rfl | simp; done)) | ((with_reducible apply SubH.consO); (focus ((repeat (first | (with_reducible exact Pick.here) | (with_reducible apply Pick.there))); done)); (first | rfl | simp; done); (first | rfl | simp; done)) | exact SubH.drop SubH.refl | apply SubH.drop)) ⟨Nat.le_refl _, hL3⟩ ?_
    rintro k ⟨hk1, hk2⟩
    have hcb : cnt ((us.take k).drop 0) ≤ k := by
      have := cnt_le ((us.take k).drop 0)
      simp only [List.length_drop, List.length_take] at this
      omega
    by_cases hlt : k < us.length
    · obtain ⟨b1, o1, rfl, hr0⟩ := RdH.at (H1 []) (Mem.start w) k hlt
      have hr2 : ∀ H, Rw w.heap.size w H b1 (o1 + k * 1) (uV us[k]) := fun _ => Rw.sub hr0 .nil
      unfold uV at hr2
      have hr3 := hr2 [own B6 (l.length + m.length) d6 34 5 (all.flatMap Wd.cells), own B2 m.length d2 34 5 (m.flatMap Wd.cells)]
      clear hr2 hr0
      have hct := cnt_step us 0 k hk1 hlt
      generalize hg : cnt ((us.take k).drop 0) = n at *
      by_cases h10 : us[k] = 10
      · rw [if_pos h10] at hct
        refine go_ _ ?_
        exact ⟨k + 1, by omega, by rw [hct]; exact (by repeat (first | exact Sub.nil | refine Sub.cons rfl ?_ | (refine Sub.consE rfl (by omega) ?_))), .refl, by omega, by omega⟩
      · rw [if_neg h10] at hct
        refine go_ _ ?_
        exact ⟨k + 1, by omega, by rw [hct]; exact (by repeat (first | exact Sub.nil | refine Sub.cons rfl ?_ | (refine Sub.consB rfl (by (first | rfl | exact decide_eq_decide.2 (by omega) | exact (decide_eq_true (by omega)).symm | exact (decide_eq_false (by omega)).symm | exact decide_eq_true (by omega) | exact decide_eq_false (by omega))) ?_))), .refl, by omega, by omega⟩
    · obtain rfl : k = us.length := by omega
      rw [List.take_length] at hcb ⊢
      rw [hd]
      have hDb : D ≤ us.length + 1 := by omega
      clear hcb
      refine go_ _ ?_
      refine s_loop (ι := Nat) (fun i => [(0, .slice A1 us.length c1), (7, .slice B1 l.length d1), (9, .slice B2 m.length d2), (12, .slice B6 (l.length + m.length) d6), (14, .int .i64 (D : Nat)), (17, .int .i64 (i : Nat))])
        (fun _ => [own B6 (l.length + m.length) d6 34 5 (all.flatMap Wd.cells), own B2 m.length d2 34 5 (m.flatMap Wd.cells)]) (fun i => i ≤ m.length) (fun i => m.length - i) 0 (by repeat (first | exact Sub.nil | refine Sub.cons rfl ?_ | (refine Sub.consB rfl (by (first | rfl | exact decide_eq_decide.2 (by omega) | exact (decide_eq_true (by omega)).symm | exact (decide_eq_false (by omega)).symm | exact decide_eq_true (by omega) | exact decide_eq_false (by omega))) ?_))) (by repeat (first | exact SubH.refl | exact SubH.nil | ((with_reducible apply SubH.cons); (focus ((repeat (first | (with_reducible exact Pick.here) | (with_reducible apply Pick.there))); done))) | ((with_reducible apply SubH.consR); (focus ((repeat (first | (with_reducible exact Pick.here) | (with_reducible apply Pick.there))); done)); (first | rfl | simp; done)) | ((with_reducible apply SubH.consO); (focus ((repeat (first | (with_reducible exact Pick.here) | (with_reducible apply Pick.there))); done)); (first | rfl | simp; done); (first | rfl | simp; done)) | exact SubH.drop SubH.refl | apply SubH.drop)) (Nat.zero_le _) ?_
      rintro i hi
      by_cases hlt : i < m.length
      · refine s_ownSome .here (by omega) fun g6 e6 => ?_
        subst e6
        refine s_ownSome (.there .here) (by omega) fun g2 e2 => ?_
        subst e2
        obtain ⟨hx0, hx1⟩ := hjoin i hlt
        have hr6 : Rw w.heap.size w [own (some ⟨g6, 0, none⟩) (l.length + m.length) d6 34 5 (all.flatMap Wd.cells), own (some ⟨g2, 0, none⟩) m.length d2 34 5 (m.flatMap Wd.cells)] g6 (0 + (l.length + i) * 5) all[l.length + i].cells := own_at (c := Wd.cells) (sz := 5) (by decide) (fun _ => rfl) (l.length + i) hx0
        have hr2 : Rw w.heap.size w [own (some ⟨g6, 0, none⟩) (l.length + m.length) d6 34 5 (all.flatMap Wd.cells), own (some ⟨g2, 0, none⟩) m.length d2 34 5 (m.flatMap Wd.cells)] g2 (0 + i * 5) m[i].cells := rw_there (own_at (c := Wd.cells) (sz := 5) (by decide) (fun _ => rfl) i hlt)
        rw [hx1] at hr6
        have hin := in2 m[i] (List.getElem_mem hlt)
        generalize m[i] = x at *
        obtain ⟨xa, xb, xw, xg, xf⟩ := x
        unfold Wd.sh Wd.cells at hr6
        unfold Wd.cells at hr2
        dsimp only at hr6 hr2 hin
        by_cases hi0 : i = 0
        · rw [if_pos hi0] at hr6
          refine go_ _ ?_
          (first | ((with_reducible apply so_new); rfl; (first | (with_reducible rfl) | assumption | exact decide_eq_true (by omega) | (simp only [Bool.not_eq_true', Bool.not_eq_false', decide_eq_false_iff_not, decide_eq_true_eq] <;> first | assumption | omega) | decide); exact tZ rfl; (first | exact Nat.le_of_ble_eq_true rfl | decide); (intro; rfl); (first | (with_reducible rfl) | assumption | exact decide_eq_true (by omega) | (simp only [Bool.not_eq_true', Bool.not_eq_false', decide_eq_false_iff_not, decide_eq_true_eq] <;> first | assumption | omega) | decide); (intro; rfl); rfl; exact tS rfl; rfl; rfl) | ((with_reducible apply so_alloc); rfl; (first | (with_reducible rfl) | assumption | exact decide_eq_true (by omega) | (simp only [Bool.not_eq_true', Bool.not_eq_false', decide_eq_false_iff_not, decide_eq_true_eq] <;> first | assumption | omega) | decide); exact tZ rfl; (focus ((repeat (first | (with_reducible exact CopyL.agg) | exact CopyL.nil | (apply CopyL.consI; rfl) | (apply CopyL.consB; rfl) | (apply CopyL.consS; rfl) | (apply CopyL.consP; rfl) | apply CopyL.cons)); done)); (first | exact Nat.le_of_ble_eq_true rfl | decide)) | ((with_reducible apply so_box); rfl; (first | (with_reducible rfl) | assumption | exact decide_eq_true (by omega) | (simp only [Bool.not_eq_true', Bool.not_eq_false', decide_eq_false_iff_not, decide_eq_true_eq] <;> first | assumption | omega) | decide); rfl; (focus ((repeat (first | (with_reducible exact CopyL.agg) | exact CopyL.nil | (apply CopyL.consI; rfl) | (apply CopyL.consB; rfl) | (apply CopyL.consS; rfl) | (apply CopyL.consP; rfl) | apply CopyL.cons)); done)); (first | exact Nat.le_of_ble_eq_true rfl | decide)))
          intro q7
          refine go_ _ ?_
          refine s_parts (by kernel_rfl) ?_
          refine sg_free 9 (by kernel_rfl) (go_ _ ?_)
          refine s_cond_f rfl (by simp [eqCells, eqv]; omega) ?_
          refine go_ _ ?_
          exact ⟨i + 1, by omega, (by repeat (first | exact Sub.nil | refine Sub.cons rfl ?_ | (refine Sub.consB rfl (by (first | rfl | exact decide_eq_decide.2 (by omega) | exact (decide_eq_true (by omega)).symm | exact (decide_eq_false (by omega)).symm | exact decide_eq_true (by omega) | exact decide_eq_false (by omega))) ?_))), (by repeat (first | exact SubH.refl | exact SubH.nil | ((with_reducible apply SubH.cons); (focus ((repeat (first | (with_reducible exact Pick.here) | (with_reducible apply Pick.there))); done))) | ((with_reducible apply SubH.consR); (focus ((repeat (first | (with_reducible exact Pick.here) | (with_reducible apply Pick.there))); done)); (first | rfl | simp; done)) | ((with_reducible apply SubH.consO); (focus ((repeat (first | (with_reducible exact Pick.here) | (with_reducible apply Pick.there))); done)); (first | rfl | simp; done); (first | rfl | simp; done)) | exact SubH.drop SubH.refl | apply SubH.drop)), by omega⟩
        · rw [if_neg hi0] at hr6
          refine go_ _ ?_
          (first | ((with_reducible apply so_new); rfl; (first | (with_reducible rfl) | assumption | exact decide_eq_true (by omega) | (simp only [Bool.not_eq_true', Bool.not_eq_false', decide_eq_false_iff_not, decide_eq_true_eq] <;> first | assumption | omega) | decide); exact tZ rfl; (first | exact Nat.le_of_ble_eq_true rfl | decide); (intro; rfl); (first | (with_reducible rfl) | assumption | exact decide_eq_true (by omega) | (simp only [Bool.not_eq_true', Bool.not_eq_false', decide_eq_false_iff_not, decide_eq_true_eq] <;> first | assumption | omega) | decide); (intro; rfl); rfl; exact tS rfl; rfl; rfl) | ((with_reducible apply so_alloc); rfl; (first | (with_reducible rfl) | assumption | exact decide_eq_true (by omega) | (simp only [Bool.not_eq_true', Bool.not_eq_false', decide_eq_false_iff_not, decide_eq_true_eq] <;> first | assumption | omega) | decide); exact tZ rfl; (focus ((repeat (first | (with_reducible exact CopyL.agg) | exact CopyL.nil | (apply CopyL.consI; rfl) | (apply CopyL.consB; rfl) | (apply CopyL.consS; rfl) | (apply CopyL.consP; rfl) | apply CopyL.cons)); done)); (first | exact Nat.le_of_ble_eq_true rfl | decide)) | ((with_reducible apply so_box); rfl; (first | (with_reducible rfl) | assumption | exact decide_eq_true (by omega) | (simp only [Bool.not_eq_true', Bool.not_eq_false', decide_eq_false_iff_not, decide_eq_true_eq] <;> first | assumption | omega) | decide); rfl; (focus ((repeat (first | (with_reducible exact CopyL.agg) | exact CopyL.nil | (apply CopyL.consI; rfl) | (apply CopyL.consB; rfl) | (apply CopyL.consS; rfl) | (apply CopyL.consP; rfl) | apply CopyL.cons)); done)); (first | exact Nat.le_of_ble_eq_true rfl | decide)))
          intro q7
          refine go_ _ ?_
          refine s_parts (by kernel_rfl) ?_
          refine sg_free 9 (by kernel_rfl) (go_ _ ?_)
          refine s_cond_f rfl (by simp [eqCells, eqv]; omega) ?_
          refine go_ _ ?_
          exact ⟨i + 1, by omega, (by repeat (first | exact Sub.nil | refine Sub.cons rfl ?_ | (refine Sub.consB rfl (by (first | rfl | exact decide_eq_decide.2 (by omega) | exact (decide_eq_true (by omega)).symm | exact (decide_eq_false (by omega)).symm | exact decide_eq_true (by omega) | exact decide_eq_false (by omega))) ?_))), (by repeat (first | exact SubH.refl | exact SubH.nil | ((with_reducible apply SubH.cons); (focus ((repeat (first | (with_reducible exact Pick.here) | (with_reducible apply Pick.there))); done))) | ((with_reducible apply SubH.consR); (focus ((repeat (first | (with_reducible exact Pick.here) | (with_reducible apply Pick.there))); done)); (first | rfl | simp; done)) | ((with_reducible apply SubH.consO); (focus ((repeat (first | (with_reducible exact Pick.here) | (with_reducible apply Pick.there))); done)); (first | rfl | simp; done); (first | rfl | simp; done)) | exact SubH.drop SubH.refl | apply SubH.drop)), by omega⟩
      · obtain rfl : i = m.length := by omega
        refine go_ _ ?_
        refine so_callQ (fun w1 _ => works_any w1) rfl (by (first | (with_reducible rfl) | assumption | exact decide_eq_true (by omega) | (simp only [Bool.not_eq_true', Bool.not_eq_false', decide_eq_false_iff_not, decide_eq_true_eq] <;> first | assumption | omega) | decide)) rfl (tF rfl) (Nat.le_of_ble_eq_true rfl) ?_
        refine go_ _ ?_
        exact sret1 rfl rfl rfl
  · have h0 := hL2 hl0
    refine s_ownSome (.there (.there .here)) hl0 fun g1 e1 => ?_
    subst e1
    have hr : ∀ e1 e2, Rw w.heap.size w [e1, e2, own (some ⟨g1, 0, none⟩) l.length d1 34 5 (l.flatMap Wd.cells)] g1 (0 + (l.length - 1) * 5) l[l.length - 1].cells := fun _ _ => rw_there (rw_there (own_at (c := Wd.cells) (sz := 5) (by decide) (fun _ => rfl) (l.length - 1) (by omega)))
    generalize l[l.length - 1] = x at *
    obtain ⟨xa, xb, xw, xg, xf⟩ := x
    unfold Wd.cells at hr
    dsimp only at h0 hr
    subst h0
    refine go_ _ ?_
    have hr1 := hr (own B6 (l.length + m.length) d6 34 5 (all.flatMap Wd.cells)) (own B2 m.length d2 34 5 (m.flatMap Wd.cells))
    clear hr
    refine so_pure rfl (by (first | (with_reducible rfl) | assumption | exact decide_eq_true (by omega) | (simp only [Bool.not_eq_true', Bool.not_eq_false', decide_eq_false_iff_not, decide_eq_true_eq] <;> first | assumption | omega) | decide)) rfl (Nat.le_of_ble_eq_true rfl) (ps_indexAddrL (j := l.length - 1) rfl rfl (tU rfl) (tS rfl) (toJ (by omega)) (by omega)) ?_
    refine go_ _ ?_
    refine s_loop (ι := Nat) (fun k => [(0, .slice A1 us.length c1), (7, .slice (some ⟨g1, 0, none⟩) l.length d1), (9, .slice B2 m.length d2), (12, .slice B6 (l.length + m.length) d6), (14, .int .i64 ((1 + cnt ((us.take k).drop L) : Nat) : Int)), (16, .int .i64 (k : Nat))])
      (fun _ => [own B6 (l.length + m.length) d6 34 5 (all.flatMap Wd.cells), own B2 m.length d2 34 5 (m.flatMap Wd.cells)]) (fun k => L ≤ k ∧ k ≤ us.length) (fun k => us.length - k) L (by rw [cnt_self us L]; exact (by repeat (first | exact Sub.nil | refine Sub.cons rfl ?_ | (refine Sub.consB rfl (by (first | rfl | exact decide_eq_decide.2 (by omega) | exact (decide_eq_true (by omega)).symm | exact (decide_eq_false (by omega)).symm | exact decide_eq_true (by omega) | exact decide_eq_false (by omega))) ?_)))) (by repeat (first | exact SubH.refl | exact SubH.nil | ((with_reducible apply SubH.cons); (focus ((repeat (first | (with_reducible exact Pick.here) | (with_reducible apply Pick.there))); done))) | ((with_reducible apply SubH.consR); (focus ((repeat (first | (with_reducible exact Pick.here) | (with_reducible apply Pick.there))); done)); (first | rfl | simp; done)) | ((with_reducible apply SubH.consO); (focus ((repeat (first | (with_reducible exact Pick.here) | (with_reducible apply Pick.there))); done)); (first | rfl | simp; done); (first | rfl | simp; done)) | exact SubH.drop SubH.refl | apply SubH.drop)) ⟨Nat.le_refl _, hL3⟩ ?_
    rintro k ⟨hk1, hk2⟩
    have hcb : cnt ((us.take k).drop L) ≤ k := by
      have := cnt_le ((us.take k).drop L)
      simp only [List.length_drop, List.length_take] at this
      omega
    by_cases hlt : k < us.length
    · obtain ⟨b1, o1, rfl, hr0⟩ := RdH.at (H1 []) (Mem.start w) k hlt
      have hr2 : ∀ H, Rw w.heap.size w H b1 (o1 + k * 1) (uV us[k]) := fun _ => Rw.sub hr0 .nil
      unfold uV at hr2
      have hr3 := hr2 [own B6 (l.length + m.length) d6 34 5 (all.flatMap Wd.cells), own B2 m.length d2 34 5 (m.flatMap Wd.cells)]
      clear hr2 hr0
      have hct := cnt_step us L k hk1 hlt
      generalize hg : cnt ((us.take k).drop L) = n at *
      by_cases h10 : us[k] = 10
      · rw [if_pos h10] at hct
        refine go_ _ ?_
        exact ⟨k + 1, by omega, by rw [hct]; exact (by repeat (first | exact Sub.nil | refine Sub.cons rfl ?_ | (refine Sub.consE rfl (by omega) ?_))), .refl, by omega, by omega⟩
      · rw [if_neg h10] at hct
        refine go_ _ ?_
        exact ⟨k + 1, by omega, by rw [hct]; exact (by repeat (first | exact Sub.nil | refine Sub.cons rfl ?_ | (refine Sub.consB rfl (by (first | rfl | exact decide_eq_decide.2 (by omega) | exact (decide_eq_true (by omega)).symm | exact (decide_eq_false (by omega)).symm | exact decide_eq_true (by omega) | exact decide_eq_false (by omega))) ?_))), .refl, by omega, by omega⟩
    · obtain rfl : k = us.length := by omega
      rw [List.take_length] at hcb ⊢
      rw [hd]
      have hDb : D ≤ us.length + 1 := by omega
      clear hcb
      refine go_ _ ?_
      refine s_loop (ι := Nat) (fun i => [(0, .slice A1 us.length c1), (7, .slice (some ⟨g1, 0, none⟩) l.length d1), (9, .slice B2 m.length d2), (12, .slice B6 (l.length + m.length) d6), (14, .int .i64 (D : Nat)), (17, .int .i64 (i : Nat))])
        (fun _ => [own B6 (l.length + m.length) d6 34 5 (all.flatMap Wd.cells), own B2 m.length d2 34 5 (m.flatMap Wd.cells)]) (fun i => i ≤ m.length) (fun i => m.length - i) 0 (by repeat (first | exact Sub.nil | refine Sub.cons rfl ?_ | (refine Sub.consB rfl (by (first | rfl | exact decide_eq_decide.2 (by omega) | exact (decide_eq_true (by omega)).symm | exact (decide_eq_false (by omega)).symm | exact decide_eq_true (by omega) | exact decide_eq_false (by omega))) ?_))) (by repeat (first | exact SubH.refl | exact SubH.nil | ((with_reducible apply SubH.cons); (focus ((repeat (first | (with_reducible exact Pick.here) | (with_reducible apply Pick.there))); done))) | ((with_reducible apply SubH.consR); (focus ((repeat (first | (with_reducible exact Pick.here) | (with_reducible apply Pick.there))); done)); (first | rfl | simp; done)) | ((with_reducible apply SubH.consO); (focus ((repeat (first | (with_reducible exact Pick.here) | (with_reducible apply Pick.there))); done)); (first | rfl | simp; done); (first | rfl | simp; done)) | exact SubH.drop SubH.refl | apply SubH.drop)) (Nat.zero_le _) ?_
      rintro i hi
      by_cases hlt : i < m.length
      · refine s_ownSome .here (by omega) fun g6 e6 => ?_
        subst e6
        refine s_ownSome (.there .here) (by omega) fun g2 e2 => ?_
        subst e2
        obtain ⟨hx0, hx1⟩ := hjoin i hlt
        have hr6 : Rw w.heap.size w [own (some ⟨g6, 0, none⟩) (l.length + m.length) d6 34 5 (all.flatMap Wd.cells), own (some ⟨g2, 0, none⟩) m.length d2 34 5 (m.flatMap Wd.cells)] g6 (0 + (l.length + i) * 5) all[l.length + i].cells := own_at (c := Wd.cells) (sz := 5) (by decide) (fun _ => rfl) (l.length + i) hx0
        have hr2 : Rw w.heap.size w [own (some ⟨g6, 0, none⟩) (l.length + m.length) d6 34 5 (all.flatMap Wd.cells), own (some ⟨g2, 0, none⟩) m.length d2 34 5 (m.flatMap Wd.cells)] g2 (0 + i * 5) m[i].cells := rw_there (own_at (c := Wd.cells) (sz := 5) (by decide) (fun _ => rfl) i hlt)
        rw [hx1] at hr6
        have hin := in2 m[i] (List.getElem_mem hlt)
        generalize m[i] = x at *
        obtain ⟨xa, xb, xw, xg, xf⟩ := x
        unfold Wd.sh Wd.cells at hr6
        unfold Wd.cells at hr2
        dsimp only at hr6 hr2 hin
        by_cases hi0 : i = 0
        · rw [if_pos hi0] at hr6
          refine go_ _ ?_
          (first | ((with_reducible apply so_new); rfl; (first | (with_reducible rfl) | assumption | exact decide_eq_true (by omega) | (simp only [Bool.not_eq_true', Bool.not_eq_false', decide_eq_false_iff_not, decide_eq_true_eq] <;> first | assumption | omega) | decide); exact tZ rfl; (first | exact Nat.le_of_ble_eq_true rfl | decide); (intro; rfl); (first | (with_reducible rfl) | assumption | exact decide_eq_true (by omega) | (simp only [Bool.not_eq_true', Bool.not_eq_false', decide_eq_false_iff_not, decide_eq_true_eq] <;> first | assumption | omega) | decide); (intro; rfl); rfl; exact tS rfl; rfl; rfl) | ((with_reducible apply so_alloc); rfl; (first | (with_reducible rfl) | assumption | exact decide_eq_true (by omega) | (simp only [Bool.not_eq_true', Bool.not_eq_false', decide_eq_false_iff_not, decide_eq_true_eq] <;> first | assumption | omega) | decide); exact tZ rfl; (focus ((repeat (first | (with_reducible exact CopyL.agg) | exact CopyL.nil | (apply CopyL.consI; rfl) | (apply CopyL.consB; rfl) | (apply CopyL.consS; rfl) | (apply CopyL.consP; rfl) | apply CopyL.cons)); done)); (first | exact Nat.le_of_ble_eq_true rfl | decide)) | ((with_reducible apply so_box); rfl; (first | (with_reducible rfl) | assumption | exact decide_eq_true (by omega) | (simp only [Bool.not_eq_true', Bool.not_eq_false', decide_eq_false_iff_not, decide_eq_true_eq] <;> first | assumption | omega) | decide); rfl; (focus ((repeat (first | (with_reducible exact CopyL.agg) | exact CopyL.nil | (apply CopyL.consI; rfl) | (apply CopyL.consB; rfl) | (apply CopyL.consS; rfl) | (apply CopyL.consP; rfl) | apply CopyL.cons)); done)); (first | exact Nat.le_of_ble_eq_true rfl | decide)))
          intro q7
          refine go_ _ ?_
          refine s_parts (by kernel_rfl) ?_
          refine sg_free 9 (by kernel_rfl) (go_ _ ?_)
          refine s_cond_f rfl (by simp [eqCells, eqv]; omega) ?_
          refine go_ _ ?_
          exact ⟨i + 1, by omega, (by repeat (first | exact Sub.nil | refine Sub.cons rfl ?_ | (refine Sub.consB rfl (by (first | rfl | exact decide_eq_decide.2 (by omega) | exact (decide_eq_true (by omega)).symm | exact (decide_eq_false (by omega)).symm | exact decide_eq_true (by omega) | exact decide_eq_false (by omega))) ?_))), (by repeat (first | exact SubH.refl | exact SubH.nil | ((with_reducible apply SubH.cons); (focus ((repeat (first | (with_reducible exact Pick.here) | (with_reducible apply Pick.there))); done))) | ((with_reducible apply SubH.consR); (focus ((repeat (first | (with_reducible exact Pick.here) | (with_reducible apply Pick.there))); done)); (first | rfl | simp; done)) | ((with_reducible apply SubH.consO); (focus ((repeat (first | (with_reducible exact Pick.here) | (with_reducible apply Pick.there))); done)); (first | rfl | simp; done); (first | rfl | simp; done)) | exact SubH.drop SubH.refl | apply SubH.drop)), by omega⟩
        · rw [if_neg hi0] at hr6
          refine go_ _ ?_
          (first | ((with_reducible apply so_new); rfl; (first | (with_reducible rfl) | assumption | exact decide_eq_true (by omega) | (simp only [Bool.not_eq_true', Bool.not_eq_false', decide_eq_false_iff_not, decide_eq_true_eq] <;> first | assumption | omega) | decide); exact tZ rfl; (first | exact Nat.le_of_ble_eq_true rfl | decide); (intro; rfl); (first | (with_reducible rfl) | assumption | exact decide_eq_true (by omega) | (simp only [Bool.not_eq_true', Bool.not_eq_false', decide_eq_false_iff_not, decide_eq_true_eq] <;> first | assumption | omega) | decide); (intro; rfl); rfl; exact tS rfl; rfl; rfl) | ((with_reducible apply so_alloc); rfl; (first | (with_reducible rfl) | assumption | exact decide_eq_true (by omega) | (simp only [Bool.not_eq_true', Bool.not_eq_false', decide_eq_false_iff_not, decide_eq_true_eq] <;> first | assumption | omega) | decide); exact tZ rfl; (focus ((repeat (first | (with_reducible exact CopyL.agg) | exact CopyL.nil | (apply CopyL.consI; rfl) | (apply CopyL.consB; rfl) | (apply CopyL.consS; rfl) | (apply CopyL.consP; rfl) | apply CopyL.cons)); done)); (first | exact Nat.le_of_ble_eq_true rfl | decide)) | ((with_reducible apply so_box); rfl; (first | (with_reducible rfl) | assumption | exact decide_eq_true (by omega) | (simp only [Bool.not_eq_true', Bool.not_eq_false', decide_eq_false_iff_not, decide_eq_true_eq] <;> first | assumption | omega) | decide); rfl; (focus ((repeat (first | (with_reducible exact CopyL.agg) | exact CopyL.nil | (apply CopyL.consI; rfl) | (apply CopyL.consB; rfl) | (apply CopyL.consS; rfl) | (apply CopyL.consP; rfl) | apply CopyL.cons)); done)); (first | exact Nat.le_of_ble_eq_true rfl | decide)))
          intro q7
          refine go_ _ ?_
          refine s_parts (by kernel_rfl) ?_
          refine sg_free 9 (by kernel_rfl) (go_ _ ?_)
          refine s_cond_f rfl (by simp [eqCells, eqv]; omega) ?_
          refine go_ _ ?_
          exact ⟨i + 1, by omega, (by repeat (first | exact Sub.nil | refine Sub.cons rfl ?_ | (refine Sub.consB rfl (by (first | rfl | exact decide_eq_decide.2 (by omega) | exact (decide_eq_true (by omega)).symm | exact (decide_eq_false (by omega)).symm | exact decide_eq_true (by omega) | exact decide_eq_false (by omega))) ?_))), (by repeat (first | exact SubH.refl | exact SubH.nil | ((with_reducible apply SubH.cons); (focus ((repeat (first | (with_reducible exact Pick.here) | (with_reducible apply Pick.there))); done))) | ((with_reducible apply SubH.consR); (focus ((repeat (first | (with_reducible exact Pick.here) | (with_reducible apply Pick.there))); done)); (first | rfl | simp; done)) | ((with_reducible apply SubH.consO); (focus ((repeat (first | (with_reducible exact Pick.here) | (with_reducible apply Pick.there))); done)); (first | rfl | simp; done); (first | rfl | simp; done)) | exact SubH.drop SubH.refl | apply SubH.drop)), by omega⟩
      · obtain rfl : i = m.length := by omega
        refine go_ _ ?_
        refine so_callQ (fun w1 _ => works_any w1) rfl (by (first | (with_reducible rfl) | assumption | exact decide_eq_true (by omega) | (simp only [Bool.not_eq_true', Bool.not_eq_false', decide_eq_false_iff_not, decide_eq_true_eq] <;> first | assumption | omega) | decide)) rfl (tF rfl) (Nat.le_of_ble_eq_true rfl) ?_
        refine go_ _ ?_
        exact sret1 rfl rfl rfl
end Go.Proofs.Ytkdjlaejbimchaa
