/- CrossOne walked. -/
import Derived.Test.YtdoihebekbfnbaaCroK
namespace Go.Proofs.Ytdoihebekbfnbaa
open Go.RowKit

def oneS (room im : Int) : Sty := { flexS 0 im with h := ⟨1, room⟩ }
def oneK (ab be : Int) : Sty := { blockS with m0 := ⟨1, ab⟩, m2 := ⟨1, be⟩ }
def oneH (room im it ab be : Int) : Int := if im = 3 then room - ab - be else it
theorem one_place {room im it ab be : Int} (h0 : 0 ≤ it) (ha : 0 ≤ ab) (hb : 0 ≤ be) (hr : it + ab + be ≤ room) :
    placeM (oneS room im) 100 (itemsM 100 [oneK ab be] [⟨10, 0, 0⟩] [it]) [[0]] = ([⟨0, ab + overM (oneS room im) (room - oneH room im it ab be - ab - be), 10, oneH room im it ab be⟩], room) := by
  have e0 : itemsM 100 [oneK ab be] [⟨10, 0, 0⟩] [it] = [⟨oneK ab be, 10, it, ab, be, 0, 0, 0⟩] := rfl
  rw [e0]
  have e1 : highM (oneS room im) 0 = room := by
    show max (max (min room room) (min room room)) 0 = room
    omega
  have e2 : rowTallM (oneS room im) [⟨oneK ab be, 10, it, ab, be, 0, 0, 0⟩] [0] true = room := by unfold rowTallM; rw [if_pos ⟨rfl, rfl⟩, e1]
  have e3 : hgtM (oneS room im) ⟨oneK ab be, 10, it, ab, be, 0, 0, 0⟩ room = oneH room im it ab be := by
    unfold hgtM oneH
    by_cases h3 : im = 3
    · rw [if_pos ⟨h3, rfl⟩, if_pos h3]
      show highM (oneK ab be) (max (room - ab - be - 0) 0) + 0 = _
      have : ∀ a, highM (oneK ab be) a = max a 0 := fun a => by
        show max (max (min a a) (min a a)) 0 = max a 0
        omega
      rw [this]; omega
    · rw [if_neg (fun h => h3 h.1), if_neg h3]
  unfold placeM rowsM20
  simp only [List.length_cons, List.length_nil, List.foldl_cons, List.foldl_nil]
  show (rowM (oneS room im) 100 _ [0] 0 (rowTallM (oneS room im) _ [0] true) _, 0 + rowTallM (oneS room im) _ [0] true) = _
  rw [e2]
  unfold rowM
  have e4 : begM (oneS room im) (leftM' 100 [⟨oneK ab be, 10, it, ab, be, 0, 0, 0⟩] [0]) = 0 := rfl
  rw [e4]
  unfold rowGo
  simp only [List.getElem?_cons_zero]
  have e5 : movM (oneS room im) (leftM' 100 [⟨oneK ab be, 10, it, ab, be, 0, 0, 0⟩] [0]) 0 [0].length = 0 := by unfold movM; rw [if_neg]; intro h; have h1 : (0 : Int) = 3 := h.1; omega
  rw [e5]
  unfold rowGo fragM
  rw [e3]
  simp only [Int.add_zero, Int.zero_add]
  rfl

theorem inB_0 : InB 0 := by decide
theorem oneB {room im it ab be : Int} (h0 : 0 ≤ it ∧ it ≤ 65535) (ha : 0 ≤ ab ∧ ab ≤ 65535) (hb : 0 ≤ be ∧ be ≤ 65535) (hr : 0 ≤ room ∧ room ≤ 2000000) : PlB (oneS room im) 100 [oneK ab be] [⟨10, 0, 0⟩] [it] [[0]] := by
  refine ⟨?_, ?_, ?_, ?_, by decide, ⟨?_, in1_0, in1_0⟩, by decide, ?_, by simp⟩
  · intro k hk; rw [List.mem_singleton.1 hk]
    exact ⟨⟨lnB_zero 100, lnB_zero 100, lnB_zero 100, lnB_zero 100, lnB_zero 100, inB_0, inB_0, inB_0, inB_0, inB_0, inB_0, inB_0, inB_0⟩, ⟨fun h => by have h1 : (1 : Int) = 2 := h; omega, fun _ => by show -11000000000000 ≤ ab ∧ ab ≤ 11000000000000; omega⟩, ⟨fun h => by have h1 : (1 : Int) = 2 := h; omega, fun _ => by show -11000000000000 ≤ be ∧ be ≤ 11000000000000; omega⟩⟩
  · intro k hk; rw [List.mem_singleton.1 hk]; exact ⟨in1_0, in1_0, in1_0⟩
  · intro u hu; rw [List.mem_singleton.1 hu]; decide
  · intro h hh; rw [List.mem_singleton.1 hh]; unfold In1; omega
  · unfold In1; show -100000000000000 ≤ room ∧ room ≤ 100000000000000; omega
  · intro r hr; rw [List.mem_singleton.1 hr]; simp
theorem cutM_in {n : Int} (h : -1099511627776 ≤ n ∧ n ≤ 1099511627776) : cutM n = n := by unfold cutM; omega

set_option maxRecDepth 100000 in
set_option maxHeartbeats 8000000 in
theorem crossOne_any (hi it ab be im : Int) (w : World) (hhi : 0 ≤ hi ∧ hi ≤ 4294967295) (hit : 0 ≤ it ∧ it ≤ 65535) (hab : 0 ≤ ab ∧ ab ≤ 65535) (hbe : 0 ≤ be ∧ be ≤ 65535) (him : 0 ≤ im ∧ im ≤ 255) :
    Calls Try.prog 6 #[.int .u32 hi, .int .u16 it, .int .u16 ab, .int .u16 be, .int .u8 im] w fun e w' => e = .returned (.bool true) ∧ Below w.heap.size w w' := by
  refine s_quiet [(0, .int .u32 hi), (1, .int .u16 it), (2, .int .u16 ab), (3, .int .u16 be), (4, .int .u8 im)] Try.func6 rfl Try.ntmps6 rfl (by simp) ?_
  refine go_ _ ?_
  refine so_pure rfl (by (first | (with_reducible rfl) | assumption | exact decide_eq_true (by omega) | (simp only [Bool.not_eq_true', Bool.not_eq_false', decide_eq_false_iff_not, decide_eq_true_eq] <;> first | assumption | omega) | decide)) rfl (Nat.le_of_ble_eq_true rfl) (ps_remK rfl rfl (by decide)) ?_
  have hm : 0 ≤ im.tmod 4 ∧ im.tmod 4 ≤ 3 := by rw [Int.tmod_eq_emod_of_nonneg (by omega)]; omega
  generalize hme : im.tmod 4 = m at *
  have hroom : it + ab + be ≤ hi % 1048576 + it + ab + be ∧ hi % 1048576 + it + ab + be ≤ 2000000 := by omega
  generalize hi % 1048576 + it + ab + be = room at *
  have b1 : (Try.prog.built 28 [(0, .int .u8 2), (5, .agg #[.int .u8 1, .int .i64 room]), (17, .int .u8 m)]).map Array.toList = some (oneS room m).cells := by kernel_rfl
  have b2 : (Try.prog.built 28 [(0, .int .u8 1)]).map Array.toList = some blockS.cells := by kernel_rfl
  refine go_ _ ?_
  (first | ((with_reducible apply so_new); rfl; (first | (with_reducible rfl) | assumption | exact decide_eq_true (by omega) | (simp only [Bool.not_eq_true', Bool.not_eq_false', decide_eq_false_iff_not, decide_eq_true_eq] <;> first | assumption | omega) | decide); exact tZ rfl; (first | exact Nat.le_of_ble_eq_true rfl | decide); (intro; rfl); (first | (with_reducible rfl) | assumption | exact decide_eq_true (by omega) | (simp only [Bool.not_eq_true', Bool.not_eq_false', decide_eq_false_iff_not, decide_eq_true_eq] <;> first | assumption | omega) | decide); (intro; rfl); rfl; exact tS rfl; rfl; rfl) | ((with_reducible apply so_alloc); rfl; (first | (with_reducible rfl) | assumption | exact decide_eq_true (by omega) | (simp only [Bool.not_eq_true', Bool.not_eq_false', decide_eq_false_iff_not, decide_eq_true_eq] <;> first | assumption | omega) | decide); exact tZ rfl; (focus ((repeat (first | (with_reducible exact CopyL.agg) | exact CopyL.nil | (apply CopyL.consI; rfl) | (apply CopyL.consB; rfl) | (apply CopyL.consS; rfl) | (apply CopyL.consP; rfl) | (apply CopyL.consF; rfl) | apply CopyL.cons)); done)); (first | exact Nat.le_of_ble_eq_true rfl | decide)) | ((with_reducible apply so_box); rfl; (first | (with_reducible rfl) | assumption | exact decide_eq_true (by omega) | (simp only [Bool.not_eq_true', Bool.not_eq_false', decide_eq_false_iff_not, decide_eq_true_eq] <;> first | assumption | omega) | decide); rfl; (focus ((repeat (first | (with_reducible exact CopyL.agg) | exact CopyL.nil | (apply CopyL.consI; rfl) | (apply CopyL.consB; rfl) | (apply CopyL.consS; rfl) | (apply CopyL.consP; rfl) | (apply CopyL.consF; rfl) | apply CopyL.cons)); done)); (first | exact Nat.le_of_ble_eq_true rfl | decide)))
  intro q1
  refine go_ _ ?_
  (first | ((with_reducible apply so_new); rfl; (first | (with_reducible rfl) | assumption | exact decide_eq_true (by omega) | (simp only [Bool.not_eq_true', Bool.not_eq_false', decide_eq_false_iff_not, decide_eq_true_eq] <;> first | assumption | omega) | decide); exact tZ rfl; (first | exact Nat.le_of_ble_eq_true rfl | decide); (intro; rfl); (first | (with_reducible rfl) | assumption | exact decide_eq_true (by omega) | (simp only [Bool.not_eq_true', Bool.not_eq_false', decide_eq_false_iff_not, decide_eq_true_eq] <;> first | assumption | omega) | decide); (intro; rfl); rfl; exact tS rfl; rfl; rfl) | ((with_reducible apply so_alloc); rfl; (first | (with_reducible rfl) | assumption | exact decide_eq_true (by omega) | (simp only [Bool.not_eq_true', Bool.not_eq_false', decide_eq_false_iff_not, decide_eq_true_eq] <;> first | assumption | omega) | decide); exact tZ rfl; (focus ((repeat (first | (with_reducible exact CopyL.agg) | exact CopyL.nil | (apply CopyL.consI; rfl) | (apply CopyL.consB; rfl) | (apply CopyL.consS; rfl) | (apply CopyL.consP; rfl) | (apply CopyL.consF; rfl) | apply CopyL.cons)); done)); (first | exact Nat.le_of_ble_eq_true rfl | decide)) | ((with_reducible apply so_box); rfl; (first | (with_reducible rfl) | assumption | exact decide_eq_true (by omega) | (simp only [Bool.not_eq_true', Bool.not_eq_false', decide_eq_false_iff_not, decide_eq_true_eq] <;> first | assumption | omega) | decide); rfl; (focus ((repeat (first | (with_reducible exact CopyL.agg) | exact CopyL.nil | (apply CopyL.consI; rfl) | (apply CopyL.consB; rfl) | (apply CopyL.consS; rfl) | (apply CopyL.consP; rfl) | (apply CopyL.consF; rfl) | apply CopyL.cons)); done)); (first | exact Nat.le_of_ble_eq_true rfl | decide)))
  intro q2
  refine go_ _ ?_
  refine so_storeR (t' := 28) (cs := blockS.cells) (cs' := ({ blockS with m0 := ⟨1, ab⟩ } : Sty).cells) (vs := [.int .u8 1, .int .i64 ab]) rfl rfl rfl rfl rfl (tS rfl) rfl rfl .here (go_ _ ?_)
  refine so_storeR (t' := 28) (cs := ({ blockS with m0 := ⟨1, ab⟩ } : Sty).cells) (cs' := (oneK ab be).cells) (vs := [.int .u8 1, .int .i64 be]) rfl rfl rfl rfl rfl (tS rfl) rfl rfl .here (go_ _ ?_)
  have b3 : (Try.prog.built 48 [(0, .int .i64 10)]).map Array.toList = some (⟨10, 0, 0⟩ : Us).cells := by kernel_rfl
  refine so_litL (c := Sty.cells) (e := 28) (fun s : Sty => .agg s.cells.toArray) [oneK ab be] (fun _ => rfl) Sty.len rfl rfl (by repeat (first | exact Parts.nil | ((with_reducible apply Parts.cons); rfl))) (by rfl) rfl (by kernel_rfl) rfl rfl (Nat.le_of_ble_eq_true rfl) fun qk => go_ _ ?_
  refine so_litL (c := Us.cells) (e := 48) (fun s : Us => .agg s.cells.toArray) [⟨10, 0, 0⟩] (fun _ => rfl) Us.len rfl rfl (by repeat (first | exact Parts.nil | ((with_reducible apply Parts.cons); rfl))) (by rfl) rfl (by kernel_rfl) rfl rfl (Nat.le_of_ble_eq_true rfl) fun qu => go_ _ ?_
  refine so_litL (c := hC) (e := 2) (fun n : Int => .int .i64 n) [it] (fun _ => rfl) (fun _ => rfl) rfl rfl (by repeat (first | exact Parts.nil | ((with_reducible apply Parts.cons); rfl))) (by rfl) rfl (by kernel_rfl) rfl rfl (Nat.le_of_ble_eq_true rfl) fun qh => go_ _ ?_
  refine so_litL (c := kC) (e := 3) (fun n : Nat => .int .i64 (n : Nat)) [0] (fun _ => rfl) (fun _ => rfl) rfl rfl (by repeat (first | exact Parts.nil | ((with_reducible apply Parts.cons); rfl))) (by rfl) rfl (by kernel_rfl) rfl rfl (Nat.le_of_ble_eq_true rfl) fun qi => go_ _ ?_
  refine so_litL (c := RS.cells) (e := 50) (fun r : RS => .slice r.A r.l.length r.c) [⟨some ⟨qi, 0, none⟩, [0], 1⟩] (fun _ => rfl) (fun _ => rfl) rfl rfl (by repeat (first | exact Parts.nil | ((with_reducible apply Parts.cons); rfl))) (by rfl) rfl (by kernel_rfl) rfl rfl (Nat.le_of_ble_eq_true rfl) fun qr => go_ _ ?_
  have hcall : ∀ w1, Mem w.heap.size w [own (some ⟨qr, 0, none⟩) 1 1 50 1 ([⟨some ⟨qi, 0, none⟩, [0], 1⟩].flatMap RS.cells), own (some ⟨qi, 0, none⟩) 1 1 3 1 ([0].flatMap kC), own (some ⟨qh, 0, none⟩) 1 1 2 1 ([it].flatMap hC), own (some ⟨qu, 0, none⟩) 1 1 48 3 ([⟨10, 0, 0⟩].flatMap Us.cells), own (some ⟨qk, 0, none⟩) 1 1 28 43 ([oneK ab be].flatMap Sty.cells)] w1 → _ :=
    fun w1 h1 => crplace_any (oneS room m) 100 [oneK ab be] [⟨10, 0, 0⟩] [it] [⟨some ⟨qi, 0, none⟩, [0], 1⟩] (some ⟨qk, 0, none⟩) (some ⟨qu, 0, none⟩) (some ⟨qh, 0, none⟩) (some ⟨qr, 0, none⟩) 1 1 1 1 w1 (h1.rdOwn (.there (.there (.there (.there .here)))) (by decide) Sty.len) (h1.rdOwn (.there (.there (.there .here))) (by decide) Us.len) (h1.rdOwn (.there (.there .here)) (by decide) (fun _ => rfl)) (h1.rdOwn .here (by decide) (fun _ => rfl))
      (fun r hr => by rw [List.mem_singleton.1 hr]; exact h1.rdOwn (.there .here) (by decide) (fun _ => rfl)) (oneB hit hab hbe (by omega))
  simp only [List.map_singleton, one_place hit.1 hab.1 hbe.1 hroom.1, List.length_singleton] at hcall
  have hH : 0 ≤ oneH room m it ab be ∧ oneH room m it ab be ≤ room - ab - be ∧ (m ≠ 3 → oneH room m it ab be = it) ∧ (m = 3 → oneH room m it ab be = room - ab - be) := by unfold oneH; split <;> omega
  have hO : overM (oneS room m) (room - oneH room m it ab be - ab - be) = if m = 1 then room - oneH room m it ab be - ab - be else if m = 2 then (room - oneH room m it ab be - ab - be) / 2 else 0 := rfl
  generalize oneH room m it ab be = H at *
  generalize overM (oneS room m) (room - H - ab - be) = ov at *
  have hO2 : 0 ≤ ov ∧ ov ≤ room - H - ab - be := by rw [hO]; (repeat' split) <;> omega
  have ec : cutF ⟨0, ab + ov, 10, H⟩ = ⟨0, ab + ov, 10, H⟩ := by unfold cutF; dsimp only; rw [cutM_in (by omega), cutM_in (n := ab + ov) (by omega), cutM_in (n := 10) (by omega), cutM_in (n := H) (by omega)]
  have eb : beyF ⟨0, ab + ov, 10, H⟩ = false := by unfold beyF; dsimp only; rw [cutM_in (by omega), cutM_in (n := ab + ov) (by omega), cutM_in (n := 10) (by omega), cutM_in (n := H) (by omega)]; simp
  rw [ec, eb, cutM_in (n := room) (by omega)] at hcall
  refine so_callN (hc := fun w1 h1 => hcall w1 (h1.sub (by repeat (first | exact SubH.refl | exact SubH.nil | ((with_reducible apply SubH.cons); (focus ((repeat (first | (with_reducible exact Pick.here) | (with_reducible apply Pick.there))); done))) | ((with_reducible apply SubH.consR); (focus ((repeat (first | (with_reducible exact Pick.here) | (with_reducible apply Pick.there))); done)); (first | rfl | simp; done)) | ((with_reducible apply SubH.consO); (focus ((repeat (first | (with_reducible exact Pick.here) | (with_reducible apply Pick.there))); done)); (first | rfl | simp; done); (first | rfl | simp; done)) | exact SubH.drop SubH.refl | apply SubH.drop)))) rfl rfl rfl (tF rfl) (Nat.le_of_ble_eq_true rfl) ?_
  rintro ⟨⟨A1, c1⟩, B1, d1⟩ _
  dsimp only
  refine so_ownSome .here (by decide) fun g1 e1 => ?_
  subst e1
  refine so_ownSome (.there .here) (by decide) fun g2 e2 => ?_
  subst e2
  clear hcall b1 b2 b3
  rw [show ([⟨0, ab + ov, 10, H⟩] : List Fg).flatMap Fg.cells = [.int .i64 0, .int .i64 (ab + ov), .int .i64 10, .int .i64 H, .slice none 0 0] from rfl]
  refine go_ _ ?_
  refine s_parts (by kernel_rfl) ?_
  refine sg_free 15 (by kernel_rfl) (go_ _ ?_)
  refine so_pure rfl (by (first | (with_reducible rfl) | assumption | exact decide_eq_true (by omega) | (simp only [Bool.not_eq_true', Bool.not_eq_false', decide_eq_false_iff_not, decide_eq_true_eq] <;> first | assumption | omega) | decide)) rfl (Nat.le_of_ble_eq_true rfl) (ps_remK rfl rfl (by decide)) ?_
  rw [hme]
  by_cases h3 : m = 3
  · have e1 := hH.2.2.2 h3
    have e2 : ov = 0 := by omega
    subst e2
    refine go_ _ ?_
    refine so_callQ (fun w1 _ => crworks_any w1) rfl (by (first | (with_reducible rfl) | assumption | exact decide_eq_true (by omega) | (simp only [Bool.not_eq_true', Bool.not_eq_false', decide_eq_false_iff_not, decide_eq_true_eq] <;> first | assumption | omega) | decide)) rfl (tF rfl) (Nat.le_of_ble_eq_true rfl) ?_
    refine go_ _ ?_
    exact sret1 rfl rfl rfl
  have e1 := hH.2.2.1 h3
  refine go_ _ ?_
  refine so_pure rfl (by (first | (with_reducible rfl) | assumption | exact decide_eq_true (by omega) | (simp only [Bool.not_eq_true', Bool.not_eq_false', decide_eq_false_iff_not, decide_eq_true_eq] <;> first | assumption | omega) | decide)) rfl (Nat.le_of_ble_eq_true rfl) (ps_remK rfl rfl (by decide)) ?_
  rw [hme]
  by_cases h0 : m = 0
  · have e2 : ov = 0 := by rw [hO, if_neg (by omega), if_neg (by omega)]
    subst e2
    refine go_ _ ?_
    refine so_callQ (fun w1 _ => crworks_any w1) rfl (by (first | (with_reducible rfl) | assumption | exact decide_eq_true (by omega) | (simp only [Bool.not_eq_true', Bool.not_eq_false', decide_eq_false_iff_not, decide_eq_true_eq] <;> first | assumption | omega) | decide)) rfl (tF rfl) (Nat.le_of_ble_eq_true rfl) ?_
    refine go_ _ ?_
    exact sret1 rfl rfl rfl
  by_cases h1 : m = 1
  · rw [if_pos h1] at hO
    refine go_ _ ?_
    refine so_callQ (fun w1 _ => crworks_any w1) rfl (by (first | (with_reducible rfl) | assumption | exact decide_eq_true (by omega) | (simp only [Bool.not_eq_true', Bool.not_eq_false', decide_eq_false_iff_not, decide_eq_true_eq] <;> first | assumption | omega) | decide)) rfl (tF rfl) (Nat.le_of_ble_eq_true rfl) ?_
    refine go_ _ ?_
    exact sret1 rfl rfl rfl
  rw [if_neg h1, if_pos (by omega)] at hO
  by_cases h2 : ov = room - be - (ab + ov) - H
  · skip
    refine go_ _ ?_
    refine so_callQ (fun w1 _ => crworks_any w1) rfl (by (first | (with_reducible rfl) | assumption | exact decide_eq_true (by omega) | (simp only [Bool.not_eq_true', Bool.not_eq_false', decide_eq_false_iff_not, decide_eq_true_eq] <;> first | assumption | omega) | decide)) rfl (tF rfl) (Nat.le_of_ble_eq_true rfl) ?_
    refine go_ _ ?_
    exact sret1 rfl rfl rfl
  · skip
    refine go_ _ ?_
    refine so_callQ (fun w1 _ => crworks_any w1) rfl (by (first | (with_reducible rfl) | assumption | exact decide_eq_true (by omega) | (simp only [Bool.not_eq_true', Bool.not_eq_false', decide_eq_false_iff_not, decide_eq_true_eq] <;> first | assumption | omega) | decide)) rfl (tF rfl) (Nat.le_of_ble_eq_true rfl) ?_
    refine go_ _ ?_
    exact sret1 rfl rfl rfl
end Go.Proofs.Ytdoihebekbfnbaa
