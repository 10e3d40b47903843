/- The walk of TextScaled. -/
import Derived.Test.YtkdjlaejbimchaaTxtD
namespace Go.Proofs.Ytkdjlaejbimchaa
open Go.RowKit

def iV (x : Int) : List Value := [.int .i32 x]
def oneM (ads : List Int) : List Int := ads.map fun x => x.tmod 1048576
theorem tmod_ab (x : Int) : ab (x.tmod 1048576) ≤ 1048576 := by
  have h1 := Int.tmod_lt_of_pos x (b := 1048576) (by decide)
  have h2 : -1048576 < x.tmod 1048576 := by
    rcases Int.le_total 0 x with h | h
    · have := Int.tmod_nonneg 1048576 h; omega
    · have h3 := Int.tmod_lt_of_pos (-x) (b := 1048576) (by decide)
      rw [Int.neg_tmod] at h3; omega
  unfold ab; omega
theorem take_map1 {α β : Type} (f : α → β) (l : List α) (k : Nat) (h : k < l.length) : (l.map f).take (k + 1) = (l.map f).take k ++ [f l[k]] := by
  rw [List.take_add_one, List.getElem?_eq_getElem (by simpa using h)]; simp

set_option maxRecDepth 100000 in
set_option maxHeartbeats 4000000 in
theorem scaled_any (us ads : List Int) (bz : Int) (A1 A2 : Option Addr) (c1 c2 : Nat) (hu : UB us) (hi : ∀ x ∈ ads, -2147483648 ≤ x ∧ x ≤ 2147483647) (hbz : 0 ≤ bz ∧ bz ≤ 255) (hc1 : us.length ≤ c1)
    (w : World) (h1 : Rd w uV 1 A1 us) (h2 : Rd w iV 1 A2 ads) :
    Calls Try.prog 7 #[.slice A1 us.length c1, .slice A2 ads.length c2, .int .u8 bz] w fun e w' => e = .returned (.bool true) ∧ Below w.heap.size w w' := by
  refine s_quiet [(0, .slice A1 us.length c1), (1, .slice A2 ads.length c2), (2, .int .u8 bz)] Try.func7 rfl Try.ntmps7 rfl (by simp) ?_
  have H1 : ∀ H, RdH w.heap.size w H uV 1 A1 us := fun _ => h1.base rfl
  have H2 : ∀ H, RdH w.heap.size w H iV 1 A2 ads := fun _ => h2.base rfl
  clear h1 h2
  by_cases hb1 : 3000 < us.length
  · skip
    refine go_ _ ?_
    refine so_callQ (fun w1 _ => works_any w1) rfl rfl rfl (tF rfl) (Nat.le_of_ble_eq_true rfl) ?_
    refine go_ _ ?_
    exact sret1 rfl rfl rfl
  by_cases hb2 : 8192 < ads.length
  · skip
    refine go_ _ ?_
    refine so_callQ (fun w1 _ => works_any w1) rfl rfl rfl (tF rfl) (Nat.le_of_ble_eq_true rfl) ?_
    refine go_ _ ?_
    exact sret1 rfl rfl rfl
  have hm7 : 0 ≤ bz.tmod 7 ∧ bz.tmod 7 ≤ 6 := by rw [Int.tmod_eq_emod_of_nonneg hbz.1]; omega
  refine s_ownNil 2 1 ?_
  refine s_ownNil 2 1 ?_
  refine go_ _ ?_
  refine so_pure rfl (by (first | (with_reducible rfl) | assumption | exact decide_eq_true (by omega) | (simp only [Bool.not_eq_true', Bool.not_eq_false', decide_eq_false_iff_not, decide_eq_true_eq] <;> first | assumption | omega) | decide)) rfl (Nat.le_of_ble_eq_true rfl) (ps_remK rfl rfl (by decide)) ?_
  generalize bz.tmod 7 = kz at *
  refine so_pure rfl (by (first | (with_reducible rfl) | assumption | exact decide_eq_true (by omega) | (simp only [Bool.not_eq_true', Bool.not_eq_false', decide_eq_false_iff_not, decide_eq_true_eq] <;> first | assumption | omega) | decide)) rfl (Nat.le_of_ble_eq_true rfl) (ps_convert rfl (run_conv64 (tU rfl) (tU rfl) (by omega))) ?_
  obtain ⟨k, hkz⟩ : ∃ k, 1 + kz = k := ⟨_, rfl⟩
  have hk : 1 ≤ k ∧ k ≤ 7 := by omega
  refine so_pure rfl (by (first | (with_reducible rfl) | assumption | exact decide_eq_true (by omega) | (simp only [Bool.not_eq_true', Bool.not_eq_false', decide_eq_false_iff_not, decide_eq_true_eq] <;> first | assumption | omega) | decide)) rfl (Nat.le_of_ble_eq_true rfl) (ps_add64_in rfl rfl (by omega)) ?_
  rw [hkz]
  clear hkz hm7
  have hone : ∀ x ∈ oneM ads, ab x ≤ 1048576 := fun x hx => by
    obtain ⟨y, _, rfl⟩ := List.mem_map.1 hx
    exact tmod_ab y
  have hol : (oneM ads).length = ads.length := by simp [oneM]
  have hml : ((oneM ads).map (k * ·)).length = ads.length := by simp [oneM]
  refine go_ _ ?_
  refine s_loop (ι := Nat × (Option Addr × Nat) × (Option Addr × Nat)) (fun i => [(0, .slice A1 us.length c1), (1, .slice A2 ads.length c2), (7, .int .i64 k), (8, .slice i.2.1.1 i.1 i.2.1.2), (9, .slice i.2.2.1 i.1 i.2.2.2), (10, .int .i64 (i.1 : Nat))])
    (fun i => [own i.2.1.1 i.1 i.2.1.2 2 1 (((oneM ads).take i.1).map (.int .i64)), own i.2.2.1 i.1 i.2.2.2 2 1 ((((oneM ads).map (k * ·)).take i.1).map (.int .i64))]) (fun i => i.1 ≤ ads.length) (fun i => ads.length - i.1) (0, (none, 0), (none, 0)) (by repeat (first | exact Sub.nil | refine Sub.cons rfl ?_ | (refine Sub.consB rfl (by (first | rfl | exact decide_eq_decide.2 (by omega) | exact (decide_eq_true (by omega)).symm | exact (decide_eq_false (by omega)).symm | exact decide_eq_true (by omega) | exact decide_eq_false (by omega))) ?_))) (by repeat (first | exact SubH.refl | exact SubH.nil | ((with_reducible apply SubH.cons); (focus ((repeat (first | (with_reducible exact Pick.here) | (with_reducible apply Pick.there))); done))) | ((with_reducible apply SubH.consR); (focus ((repeat (first | (with_reducible exact Pick.here) | (with_reducible apply Pick.there))); done)); (first | rfl | simp; done)) | ((with_reducible apply SubH.consO); (focus ((repeat (first | (with_reducible exact Pick.here) | (with_reducible apply Pick.there))); done)); (first | rfl | simp; done); (first | rfl | simp; done)) | exact SubH.drop SubH.refl | apply SubH.drop)) (Nat.zero_le _) ?_
  rintro ⟨i, ⟨B1, d1⟩, ⟨B2, d2⟩⟩ hil
  dsimp only at hil ⊢
  by_cases hlt : i < ads.length
  · obtain ⟨b1, o1, rfl, hr0⟩ := RdH.at (H2 []) (Mem.start w) i hlt
    have hr2 : ∀ H, Rw w.heap.size w H b1 (o1 + i * 1) (iV ads[i]) := fun _ => Rw.sub hr0 .nil
    unfold iV at hr2
    have hr3 := hr2 [own B1 i d1 2 1 (((oneM ads).take i).map (.int .i64)), own B2 i d2 2 1 ((((oneM ads).map (k * ·)).take i).map (.int .i64))]
    clear hr2 hr0
    have hx := hi _ (List.getElem_mem hlt)
    have ht := tmod_ab ads[i]
    have ht1 : (oneM ads).take (i + 1) = (oneM ads).take i ++ [ads[i].tmod 1048576] := take_map1 _ _ _ hlt
    have ht2 : ((oneM ads).map (k * ·)).take (i + 1) = ((oneM ads).map (k * ·)).take i ++ [k * ads[i].tmod 1048576] := by
      have := take_map1 (k * ·) (oneM ads) i (by omega)
      rw [this]; simp [oneM]
    have hmul := (mul_in hk (x := ads[i].tmod 1048576) (by omega)).1
    generalize ads[i] = x at *
    refine go_ _ ?_
    refine so_slice1 (e := 2) (sz := 1) rfl (by (first | (with_reducible rfl) | assumption | exact decide_eq_true (by omega) | (simp only [Bool.not_eq_true', Bool.not_eq_false', decide_eq_false_iff_not, decide_eq_true_eq] <;> first | assumption | omega) | decide)) rfl (by kernel_rfl) rfl (Nat.le_of_ble_eq_true rfl) fun q3 => ?_
    refine go_ _ ?_
    refine so_append1 (e := 2) (sz := 1) rfl (by (first | (with_reducible rfl) | assumption | exact decide_eq_true (by omega) | (simp only [Bool.not_eq_true', Bool.not_eq_false', decide_eq_false_iff_not, decide_eq_true_eq] <;> first | assumption | omega) | decide)) rfl rfl (by kernel_rfl) (Nat.le_of_ble_eq_true rfl) (fun A'' cap'' => (by (focus ((repeat (first | (with_reducible exact Upd.here) | (with_reducible apply Upd.there))); done)))) rw_here rfl rfl (by omega) fun B3 d3 => ?_
    refine go_ _ ?_
    refine so_slice1 (e := 2) (sz := 1) rfl (by (first | (with_reducible rfl) | assumption | exact decide_eq_true (by omega) | (simp only [Bool.not_eq_true', Bool.not_eq_false', decide_eq_false_iff_not, decide_eq_true_eq] <;> first | assumption | omega) | decide)) rfl (by kernel_rfl) rfl (Nat.le_of_ble_eq_true rfl) fun q4 => ?_
    refine go_ _ ?_
    refine so_append1 (e := 2) (sz := 1) rfl (by (first | (with_reducible rfl) | assumption | exact decide_eq_true (by omega) | (simp only [Bool.not_eq_true', Bool.not_eq_false', decide_eq_false_iff_not, decide_eq_true_eq] <;> first | assumption | omega) | decide)) rfl rfl (by kernel_rfl) (Nat.le_of_ble_eq_true rfl) (fun A'' cap'' => (by (focus ((repeat (first | (with_reducible exact Upd.here) | (with_reducible apply Upd.there))); done)))) rw_here rfl rfl (by omega) fun B4 d4 => ?_
    refine go_ _ ?_
    refine ⟨(i + 1, (B3, d3), (B4, d4)), by dsimp only; omega, (by repeat (first | exact Sub.nil | refine Sub.cons rfl ?_ | (refine Sub.consB rfl (by (first | rfl | exact decide_eq_decide.2 (by omega) | exact (decide_eq_true (by omega)).symm | exact (decide_eq_false (by omega)).symm | exact decide_eq_true (by omega) | exact decide_eq_false (by omega))) ?_))), ?_, by dsimp only; omega⟩
    dsimp only
    rw [ht1, ht2, List.map_append, List.map_append]
    exact (by repeat (first | exact SubH.refl | exact SubH.nil | ((with_reducible apply SubH.cons); (focus ((repeat (first | (with_reducible exact Pick.here) | (with_reducible apply Pick.there))); done))) | ((with_reducible apply SubH.consR); (focus ((repeat (first | (with_reducible exact Pick.here) | (with_reducible apply Pick.there))); done)); (first | rfl | simp; done)) | ((with_reducible apply SubH.consO); (focus ((repeat (first | (with_reducible exact Pick.here) | (with_reducible apply Pick.there))); done)); (first | rfl | simp; done); (first | rfl | simp; done)) | exact SubH.drop SubH.refl | apply SubH.drop))
  · obtain rfl : i = ads.length := by omega
    have e1 : (oneM ads).take ads.length = oneM ads := List.take_of_length_le (by omega)
    have e2 : ((oneM ads).map (k * ·)).take ads.length = (oneM ads).map (k * ·) := List.take_of_length_le (by omega)
    rw [e1, e2]
    have ha1 : AB (oneM ads) := fun x hx => by
      have := hone x hx
      unfold ab at this; unfold I64; omega
    have ha2 : AB ((oneM ads).map (k * ·)) := fun x hx => by
      obtain ⟨y, hy, rfl⟩ := List.mem_map.1 hx
      have := (mul_in hk (x := y) (by have := hone y hy; omega)).1
      unfold I64; omega
    generalize oneM ads = one at *
    have hwab := wide_ab hone us
    obtain ⟨u1, u2⟩ := cut_sc hk (x := wideM one us) (by omega)
    have hwsc := wide_sc one us k
    obtain ⟨v1, v2, v3, v4⟩ := words_sc hk hone us (by omega)
    have hwide1 : ∀ H w1, Mem w.heap.size w H w1 → Mem w.heap.size w (own B1 ads.length d1 2 1 (one.map (.int .i64)) :: H) w1 → Calls Try.prog 16 #[.slice A1 us.length c1, .slice B1 ads.length d1] w1 fun e w' => e = .returned (.tuple #[.int .i64 (wideM one us), .bool false]) ∧ Below w1.heap.size w1 w' := fun H w1 h h' => by
      have := wide_any us one A1 B1 c1 d1 (by omega) hu ha1 w1 (H1 _ w1 h) (own_rd1 w1 h')
      rwa [u2, decide_eq_true rfl, hol] at this
    have hwide2 : ∀ H w1, Mem w.heap.size w H w1 → Mem w.heap.size w (own B2 ads.length d2 2 1 ((one.map (k * ·)).map (.int .i64)) :: H) w1 → Calls Try.prog 16 #[.slice A1 us.length c1, .slice B2 ads.length d2] w1 fun e w' => e = .returned (.tuple #[.int .i64 (k * wideM one us), .bool false]) ∧ Below w1.heap.size w1 w' := fun H w1 h h' => by
      have := wide_any us (one.map (k * ·)) A1 B2 c1 d2 (by omega) hu ha2 w1 (H1 _ w1 h) (own_rd1 w1 h')
      rwa [hwsc, u1, decide_eq_true rfl, hml] at this
    have hwords1 : ∀ H w1, Mem w.heap.size w H w1 → Mem w.heap.size w (own B1 ads.length d1 2 1 (one.map (.int .i64)) :: H) w1 → Calls Try.prog 13 #[.slice A1 us.length c1, .slice B1 ads.length d1] w1 fun e w' => ∃ i : Option Addr × Nat, True ∧ e = .returned (.tuple #[.slice i.1 (wordsS one us).ws.length i.2, .bool false]) ∧ Mem w1.heap.size w1 [own i.1 (wordsS one us).ws.length i.2 34 5 ((wordsS one us).ws.flatMap Wd.cells)] w' := fun H w1 h h' => by
      have := words_any us one A1 B1 c1 d1 hu ha1 (by omega) hc1 w1 (H1 _ w1 h) (own_rd1 w1 h')
      rwa [v3, hol] at this
    have hwords2 : ∀ H w1, Mem w.heap.size w H w1 → Mem w.heap.size w (own B2 ads.length d2 2 1 ((one.map (k * ·)).map (.int .i64)) :: H) w1 → Calls Try.prog 13 #[.slice A1 us.length c1, .slice B2 ads.length d2] w1 fun e w' => ∃ i : Option Addr × Nat, True ∧ e = .returned (.tuple #[.slice i.1 (wordsS one us).ws.length i.2, .bool false]) ∧ Mem w1.heap.size w1 [own i.1 (wordsS one us).ws.length i.2 34 5 (((wordsS one us).ws.map (Wd.sc k)).flatMap Wd.cells)] w' := fun H w1 h h' => by
      have := words_any us (one.map (k * ·)) A1 B2 c1 d2 hu ha2 (by omega) hc1 w1 (H1 _ w1 h) (own_rd1 w1 h')
      rwa [v2, hml, v1, List.length_map] at this
    have hwm := (mul_in hk (x := wideM one us) (by omega)).1
    have wl := words_len one us
    clear v1 v2 v3 u1 u2 hwsc hwab hol hml e1 e2 ha1 ha2
    generalize wordsS one us = s at *
    obtain ⟨ws, gap, forced, far⟩ := s
    generalize wideM one us = W at *
    dsimp only at *
    refine go_ _ ?_
    refine so_callQ (fun w1 h => hwide1 _ w1 h.tail h) rfl rfl rfl (tF rfl) (Nat.le_of_ble_eq_true rfl) ?_
    refine go_ _ ?_
    refine so_callQ (fun w1 h => hwide2 _ w1 h.tail.tail h.tail) rfl rfl rfl (tF rfl) (Nat.le_of_ble_eq_true rfl) ?_
    refine go_ _ ?_
    refine so_callN (fun w1 h => hwords1 _ w1 h.tail h) rfl rfl rfl (tF rfl) (Nat.le_of_ble_eq_true rfl) ?_
    rintro ⟨B5, d5⟩ _
    dsimp only
    refine go_ _ ?_
    refine so_callN (fun w1 h => hwords2 _ w1 h.tail.tail.tail h.tail.tail) rfl rfl rfl (tF rfl) (Nat.le_of_ble_eq_true rfl) ?_
    rintro ⟨B6, d6⟩ _
    dsimp only
    clear hwide1 hwide2 hwords1 hwords2
    refine go_ _ ?_
    have hmc := mem_cost ws
    have hml : (ws.map (Wd.sc k)).length = ws.length := List.length_map ..
    have hmat : ∀ i (h : i < ws.length), (ws.map (Wd.sc k))[i]'(by rw [hml]; exact h) = ws[i].sc k := fun i h => List.getElem_map ..
    have hI1 : ∀ x ∈ ws.map Wd.g, I64 x.w ∧ I64 x.gap := fun x hx => by
      obtain ⟨y, hy, rfl⟩ := List.mem_map.1 hx
      have := hmc y hy
      unfold ab at this; unfold I64 Wd.g; dsimp only; omega
    have hI2 : ∀ x ∈ (ws.map (Wd.sc k)).map Wd.g, I64 x.w ∧ I64 x.gap := fun x hx => by
      obtain ⟨z, hz, rfl⟩ := List.mem_map.1 hx
      obtain ⟨y, hy, rfl⟩ := List.mem_map.1 hz
      have h0 := hmc y hy
      have h1 := (mul_in hk (x := y.w) (by unfold ab at *; omega)).1
      have h2 := (mul_in hk (x := y.gap) (by unfold ab at *; omega)).1
      unfold I64 Wd.g Wd.sc; dsimp only; omega
    obtain ⟨x1, x2, x3, x4⟩ := extM_sc hk ws (by omega)
    obtain ⟨y1, y2⟩ := extM_ab (B := 1099511627776) (Int.le_refl _) (ws.map Wd.g) (fun x hx => by
      obtain ⟨y, hy, rfl⟩ := List.mem_map.1 hx
      have := hmc y hy
      unfold ab at *; unfold Wd.g; dsimp only; omega)
    have hex1 : ∀ H w1, Mem w.heap.size w (own B5 ws.length d5 34 5 (ws.flatMap Wd.cells) :: H) w1 → Calls Try.prog 9 #[.slice B5 ws.length d5] w1 fun e w' => e = .returned (.tuple #[.int .i64 (extM (ws.map Wd.g)).least, .int .i64 (extM (ws.map Wd.g)).great, .bool false]) ∧ Below w1.heap.size w1 w' := fun H w1 h => by
      have := extent_any (ws.map Wd.g) B5 d5 (by simp; omega) hI1 w1 (wd_rd (own_rd (c := Wd.cells) (by decide) (fun _ => rfl) w1 h))
      rwa [x4, List.length_map] at this
    have hex2 : ∀ H w1, Mem w.heap.size w (own B6 ws.length d6 34 5 ((ws.map (Wd.sc k)).flatMap Wd.cells) :: H) w1 → Calls Try.prog 9 #[.slice B6 ws.length d6] w1 fun e w' => e = .returned (.tuple #[.int .i64 (k * (extM (ws.map Wd.g)).least), .int .i64 (k * (extM (ws.map Wd.g)).great), .bool false]) ∧ Below w1.heap.size w1 w' := fun H w1 h => by
      have := extent_any ((ws.map (Wd.sc k)).map Wd.g) B6 d6 (by simp; omega) hI2 w1 (wd_rd (own_rd (c := Wd.cells) (by decide) (fun _ => rfl) w1 h))
      rwa [x1, x2, x3, List.length_map, List.length_map] at this
    have z1 := (mul_in hk y1).1
    have z2 := (mul_in hk y2).1
    clear x1 x2 x3 x4 y1 y2 hI1 hI2
    generalize (extM (ws.map Wd.g)).least = least at *
    generalize (extM (ws.map Wd.g)).great = great at *
    generalize ws.map (Wd.sc k) = ms at *
    refine s_loop (ι := Nat) (fun i => [(7, .int .i64 k), (16, .slice B5 ws.length d5), (18, .slice B6 ws.length d6), (20, .int .i64 (i : Nat))])
      (fun _ => [own B6 ws.length d6 34 5 (ms.flatMap Wd.cells), own B5 ws.length d5 34 5 (ws.flatMap Wd.cells)]) (fun i => i ≤ ws.length) (fun i => ws.length - i) 0 (by repeat (first | exact Sub.nil | refine Sub.cons rfl ?_ | (refine Sub.consB rfl (by (first | rfl | exact decide_eq_decide.2 (by omega) | exact (decide_eq_true (by omega)).symm | exact (decide_eq_false (by omega)).symm | exact decide_eq_true (by omega) | exact decide_eq_false (by omega))) ?_))) (by repeat (first | exact SubH.refl | exact SubH.nil | ((with_reducible apply SubH.cons); (focus ((repeat (first | (with_reducible exact Pick.here) | (with_reducible apply Pick.there))); done))) | ((with_reducible apply SubH.consR); (focus ((repeat (first | (with_reducible exact Pick.here) | (with_reducible apply Pick.there))); done)); (first | rfl | simp; done)) | ((with_reducible apply SubH.consO); (focus ((repeat (first | (with_reducible exact Pick.here) | (with_reducible apply Pick.there))); done)); (first | rfl | simp; done); (first | rfl | simp; done)) | exact SubH.drop SubH.refl | apply SubH.drop)) (Nat.zero_le _) ?_
    rintro i hi
    by_cases hlt : i < ws.length
    · refine s_ownSome .here (by omega) fun g6 e6 => ?_
      subst e6
      refine s_ownSome (.there .here) (by omega) fun g2 e2 => ?_
      subst e2
      have hx1 := hmat i hlt
      have hr6 : Rw w.heap.size w [own (some ⟨g6, 0, none⟩) ws.length d6 34 5 (ms.flatMap Wd.cells), own (some ⟨g2, 0, none⟩) ws.length d5 34 5 (ws.flatMap Wd.cells)] g6 (0 + i * 5) (ms[i]'(by rw [hml]; exact hlt)).cells := own_at (c := Wd.cells) (sz := 5) (by decide) (fun _ => rfl) i (by omega)
      have hr2 : Rw w.heap.size w [own (some ⟨g6, 0, none⟩) ws.length d6 34 5 (ms.flatMap Wd.cells), own (some ⟨g2, 0, none⟩) ws.length d5 34 5 (ws.flatMap Wd.cells)] g2 (0 + i * 5) ws[i].cells := rw_there (own_at (c := Wd.cells) (sz := 5) (by decide) (fun _ => rfl) i hlt)
      rw [hx1] at hr6
      have hin := hmc ws[i] (List.getElem_mem hlt)
      generalize ws[i] = x at *
      obtain ⟨xa, xb, xw, xg, xf⟩ := x
      unfold Wd.sc Wd.cells at hr6
      unfold Wd.cells at hr2
      dsimp only at hr6 hr2 hin
      have hp1 := (mul_in hk (x := xw) (by unfold ab at *; omega)).2
      have hp2 := (mul_in hk (x := xg) (by unfold ab at *; omega)).2
      refine go_ _ ?_
      (first | ((with_reducible apply so_new); rfl; (first | (with_reducible rfl) | assumption | exact decide_eq_true (by omega) | (simp only [Bool.not_eq_true', Bool.not_eq_false', decide_eq_false_iff_not, decide_eq_true_eq] <;> first | assumption | omega) | decide); exact tZ rfl; (first | exact Nat.le_of_ble_eq_true rfl | decide); (intro; rfl); (first | (with_reducible rfl) | assumption | exact decide_eq_true (by omega) | (simp only [Bool.not_eq_true', Bool.not_eq_false', decide_eq_false_iff_not, decide_eq_true_eq] <;> first | assumption | omega) | decide); (intro; rfl); rfl; exact tS rfl; rfl; rfl) | ((with_reducible apply so_alloc); rfl; (first | (with_reducible rfl) | assumption | exact decide_eq_true (by omega) | (simp only [Bool.not_eq_true', Bool.not_eq_false', decide_eq_false_iff_not, decide_eq_true_eq] <;> first | assumption | omega) | decide); exact tZ rfl; (focus ((repeat (first | (with_reducible exact CopyL.agg) | exact CopyL.nil | (apply CopyL.consI; rfl) | (apply CopyL.consB; rfl) | (apply CopyL.consS; rfl) | (apply CopyL.consP; rfl) | apply CopyL.cons)); done)); (first | exact Nat.le_of_ble_eq_true rfl | decide)) | ((with_reducible apply so_box); rfl; (first | (with_reducible rfl) | assumption | exact decide_eq_true (by omega) | (simp only [Bool.not_eq_true', Bool.not_eq_false', decide_eq_false_iff_not, decide_eq_true_eq] <;> first | assumption | omega) | decide); rfl; (focus ((repeat (first | (with_reducible exact CopyL.agg) | exact CopyL.nil | (apply CopyL.consI; rfl) | (apply CopyL.consB; rfl) | (apply CopyL.consS; rfl) | (apply CopyL.consP; rfl) | apply CopyL.cons)); done)); (first | exact Nat.le_of_ble_eq_true rfl | decide)))
      intro q7
      refine go_ _ ?_
      refine s_parts (by kernel_rfl) ?_
      refine sg_free 6 (by kernel_rfl) (go_ _ ?_)
      refine s_cond_f rfl (by simp [eqCells, eqv, Int.mul_comm]) ?_
      refine go_ _ ?_
      exact ⟨i + 1, by omega, (by repeat (first | exact Sub.nil | refine Sub.cons rfl ?_ | (refine Sub.consB rfl (by (first | rfl | exact decide_eq_decide.2 (by omega) | exact (decide_eq_true (by omega)).symm | exact (decide_eq_false (by omega)).symm | exact decide_eq_true (by omega) | exact decide_eq_false (by omega))) ?_))), (by repeat (first | exact SubH.refl | exact SubH.nil | ((with_reducible apply SubH.cons); (focus ((repeat (first | (with_reducible exact Pick.here) | (with_reducible apply Pick.there))); done))) | ((with_reducible apply SubH.consR); (focus ((repeat (first | (with_reducible exact Pick.here) | (with_reducible apply Pick.there))); done)); (first | rfl | simp; done)) | ((with_reducible apply SubH.consO); (focus ((repeat (first | (with_reducible exact Pick.here) | (with_reducible apply Pick.there))); done)); (first | rfl | simp; done); (first | rfl | simp; done)) | exact SubH.drop SubH.refl | apply SubH.drop)), by omega⟩
    · obtain rfl : i = ws.length := by omega
      refine go_ _ ?_
      refine so_callQ (fun w1 h => hex1 _ w1 h.tail) rfl (by (first | (with_reducible rfl) | assumption | exact decide_eq_true (by omega) | (simp only [Bool.not_eq_true', Bool.not_eq_false', decide_eq_false_iff_not, decide_eq_true_eq] <;> first | assumption | omega) | decide)) rfl (tF rfl) (Nat.le_of_ble_eq_true rfl) ?_
      refine go_ _ ?_
      refine so_callQ (fun w1 h => hex2 _ w1 h) rfl (by (first | (with_reducible rfl) | assumption | exact decide_eq_true (by omega) | (simp only [Bool.not_eq_true', Bool.not_eq_false', decide_eq_false_iff_not, decide_eq_true_eq] <;> first | assumption | omega) | decide)) rfl (tF rfl) (Nat.le_of_ble_eq_true rfl) ?_
      refine go_ _ ?_
      refine so_callQ (fun w1 _ => works_any w1) rfl (by (first | (with_reducible rfl) | assumption | exact decide_eq_true (by omega) | (simp only [Bool.not_eq_true', Bool.not_eq_false', decide_eq_false_iff_not, decide_eq_true_eq] <;> first | assumption | omega) | decide)) rfl (tF rfl) (Nat.le_of_ble_eq_true rfl) ?_
      refine go_ _ ?_
      exact sret1 rfl rfl rfl
end Go.Proofs.Ytkdjlaejbimchaa
