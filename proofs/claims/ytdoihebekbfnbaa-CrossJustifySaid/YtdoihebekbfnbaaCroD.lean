/- CrossJustify walked. -/
import Derived.Test.YtdoihebekbfnbaaCroJ
namespace Go.Proofs.Ytdoihebekbfnbaa
open Go.RowKit

def u16C (n : Int) : List Value := [.int .u16 n]
theorem j_B (c j : Int) (ws : List Int) (hc : 0 ≤ c ∧ c ≤ 4294967295) (hws : ∀ w ∈ ws, 0 ≤ w ∧ w ≤ 65535) (hl : ws.length ≤ 60) : PlB (flexS j 0) c (List.replicate ws.length blockS) (ws.map fun w => ⟨w, 0, 0⟩) [] [List.range ws.length] := by
  refine ⟨?_, ?_, ?_, by simp, by unfold In1; omega, ⟨in1_0, in1_0, in1_0⟩, by simp, ?_, by simp; omega⟩
  · intro k hk; rw [(List.mem_replicate.1 hk).2]; exact blockB c
  · intro k hk; rw [(List.mem_replicate.1 hk).2]; exact ⟨in1_0, in1_0, in1_0⟩
  · intro u hu
    obtain ⟨w, hw, rfl⟩ := List.mem_map.1 hu
    have := hws w hw
    exact ⟨by unfold InB; dsimp only; omega, inB_0, inB_0⟩
  · intro r hr; rw [List.mem_singleton.1 hr]; simp; omega

set_option maxRecDepth 100000 in
set_option maxHeartbeats 8000000 in
theorem justify_any (c : Int) (ws : List Int) (A : Option Addr) (cap : Nat) (w : World) (hc : 0 ≤ c ∧ c ≤ 4294967295) (hws : ∀ w ∈ ws, 0 ≤ w ∧ w ≤ 65535) (hlen : ws.length ≤ 9223372036854775807) (hR : Rd w u16C 1 A ws) :
    Calls Try.prog 5 #[.int .u32 c, .slice A ws.length cap] w fun e w' => e = .returned (.bool true) ∧ Below w.heap.size w w' := by
  refine s_quiet [(0, .int .u32 c), (1, .slice A ws.length cap)] Try.func5 rfl Try.ntmps5 rfl (by simp) ?_
  by_cases h60 : 60 < ws.length
  · skip
    refine go_ _ ?_
    refine so_callQ (fun w1 _ => crworks_any w1) rfl (by (first | (with_reducible rfl) | assumption | exact decide_eq_true (by omega) | (simp only [Bool.not_eq_true', Bool.not_eq_false', decide_eq_false_iff_not, decide_eq_true_eq] <;> first | assumption | omega) | decide)) rfl (tF rfl) (Nat.le_of_ble_eq_true rfl) ?_
    refine go_ _ ?_
    exact sret1 rfl rfl rfl
  by_cases h0 : ws.length = 0
  · skip
    refine go_ _ ?_
    refine so_callQ (fun w1 _ => crworks_any w1) rfl (by (first | (with_reducible rfl) | assumption | exact decide_eq_true (by omega) | (simp only [Bool.not_eq_true', Bool.not_eq_false', decide_eq_false_iff_not, decide_eq_true_eq] <;> first | assumption | omega) | decide)) rfl (tF rfl) (Nat.le_of_ble_eq_true rfl) ?_
    refine go_ _ ?_
    exact sret1 rfl rfl rfl
  have hR0 := hR.base (B := w.heap.size) (H := []) rfl
  refine go_ _ ?_
  refine so_lit0 (e := 3) (sz := 1) rfl rfl (tU rfl) (tS rfl) (Nat.le_of_ble_eq_true rfl) fun q7 => go_ _ ?_
  refine s_ownNil 28 43 (s_ownNil 48 3 ?_)
  refine s_loop (ι := Nat × (Option Addr × Nat) × (Option Addr × Nat) × Option Addr × Nat) (fun i => [(0, .int .u32 c), (1, .slice A ws.length cap), (5, .slice i.2.1.1 i.1 i.2.1.2), (6, .slice i.2.2.1.1 i.1 i.2.2.1.2), (7, .slice i.2.2.2.1 i.1 i.2.2.2.2), (8, .int .i64 (psum ws i.1)), (9, .int .i64 (i.1 : Nat))])
    (fun i => [own i.2.1.1 i.1 i.2.1.2 28 43 ((List.replicate i.1 blockS).flatMap Sty.cells), own i.2.2.1.1 i.1 i.2.2.1.2 48 3 (((ws.take i.1).map fun w => (⟨w, 0, 0⟩ : Us)).flatMap Us.cells), own i.2.2.2.1 i.1 i.2.2.2.2 3 1 ((List.range i.1).flatMap kC)])
    (fun i => i.1 ≤ ws.length) (fun i => ws.length - i.1) (0, (none, 0), (none, 0), some ⟨q7, 0, none⟩, 0) (by repeat (first | exact Sub.nil | refine Sub.cons rfl ?_ | (refine Sub.consB rfl (by (first | rfl | exact decide_eq_decide.2 (by omega) | exact (decide_eq_true (by omega)).symm | exact (decide_eq_false (by omega)).symm | exact decide_eq_true (by omega) | exact decide_eq_false (by omega))) ?_))) (by repeat (first | exact SubH.refl | exact SubH.nil | ((with_reducible apply SubH.cons); (focus ((repeat (first | (with_reducible exact Pick.here) | (with_reducible apply Pick.there))); done))) | ((with_reducible apply SubH.consR); (focus ((repeat (first | (with_reducible exact Pick.here) | (with_reducible apply Pick.there))); done)); (first | rfl | simp; done)) | ((with_reducible apply SubH.consO); (focus ((repeat (first | (with_reducible exact Pick.here) | (with_reducible apply Pick.there))); done)); (first | rfl | simp; done); (first | rfl | simp; done)) | exact SubH.drop SubH.refl | apply SubH.drop)) (Nat.zero_le _) ?_
  rintro ⟨i, ⟨A5, c5⟩, ⟨A6, c6⟩, A7, c7⟩ hi
  dsimp only at hi ⊢
  have b1 : (Try.prog.built 28 [(0, .int .u8 1)]).map Array.toList = some blockS.cells := by kernel_rfl
  by_cases hlt : i < ws.length
  · obtain ⟨ba, o1, rfl, hr1⟩ := RdH.at hR0 (Mem.start w) i hlt
    have hwi := hws _ (List.getElem_mem hlt)
    have hp := psum_in ws hws i hi
    have hps := psum_succ ws i hlt
    have e1 : ((List.replicate (i + 1) blockS).flatMap Sty.cells) = (List.replicate i blockS).flatMap Sty.cells ++ blockS.cells := by rw [List.replicate_succ', List.flatMap_append]; simp
    have e2 : (((ws.take (i + 1)).map fun w => (⟨w, 0, 0⟩ : Us)).flatMap Us.cells) = (((ws.take i).map fun w => (⟨w, 0, 0⟩ : Us)).flatMap Us.cells) ++ (⟨ws[i], 0, 0⟩ : Us).cells := by
      rw [List.take_add_one, List.getElem?_eq_getElem hlt, Option.toList_some, List.map_append, List.flatMap_append]; rfl
    have e3 : ((List.range (i + 1)).flatMap kC) = ((List.range i).flatMap kC) ++ [.int .i64 (i : Nat)] := by rw [List.range_succ, List.flatMap_append]; rfl
    generalize ws[i] = wi at *
    generalize (List.replicate i blockS).flatMap Sty.cells = x5 at *
    generalize ((ws.take i).map fun w => (⟨w, 0, 0⟩ : Us)).flatMap Us.cells = x6 at *
    generalize (List.range i).flatMap kC = x7 at *
    generalize psum ws i = su at *
    unfold u16C at hr1
    clear hR hR0
    refine go_ _ ?_
    refine so_slice1 (e := 28) (sz := 43) rfl (by (first | (with_reducible rfl) | assumption | exact decide_eq_true (by omega) | (simp only [Bool.not_eq_true', Bool.not_eq_false', decide_eq_false_iff_not, decide_eq_true_eq] <;> first | assumption | omega) | decide)) rfl (by kernel_rfl) rfl (Nat.le_of_ble_eq_true rfl) fun q1 => go_ _ ?_
    refine so_append1 (e := 28) (sz := 43) (news := blockS.cells) rfl (by (first | (with_reducible rfl) | assumption | exact decide_eq_true (by omega) | (simp only [Bool.not_eq_true', Bool.not_eq_false', decide_eq_false_iff_not, decide_eq_true_eq] <;> first | assumption | omega) | decide)) rfl rfl (by kernel_rfl) (Nat.le_of_ble_eq_true rfl) (fun A'' cap'' => (by (focus ((repeat (first | (with_reducible exact Upd.here) | (with_reducible apply Upd.there))); done)))) rw_here rfl rfl (by omega) fun B5 d5 => go_ _ ?_
    refine so_slice1 (e := 48) (sz := 3) rfl (by (first | (with_reducible rfl) | assumption | exact decide_eq_true (by omega) | (simp only [Bool.not_eq_true', Bool.not_eq_false', decide_eq_false_iff_not, decide_eq_true_eq] <;> first | assumption | omega) | decide)) rfl (by kernel_rfl) rfl (Nat.le_of_ble_eq_true rfl) fun q2 => go_ _ ?_
    refine so_append1 (e := 48) (sz := 3) (news := (⟨wi, 0, 0⟩ : Us).cells) rfl (by (first | (with_reducible rfl) | assumption | exact decide_eq_true (by omega) | (simp only [Bool.not_eq_true', Bool.not_eq_false', decide_eq_false_iff_not, decide_eq_true_eq] <;> first | assumption | omega) | decide)) rfl rfl (by kernel_rfl) (Nat.le_of_ble_eq_true rfl) (fun A'' cap'' => (by (focus ((repeat (first | (with_reducible exact Upd.here) | (with_reducible apply Upd.there))); done)))) rw_here rfl rfl (by omega) fun B6 d6 => go_ _ ?_
    refine so_slice1 (e := 3) (sz := 1) rfl (by (first | (with_reducible rfl) | assumption | exact decide_eq_true (by omega) | (simp only [Bool.not_eq_true', Bool.not_eq_false', decide_eq_false_iff_not, decide_eq_true_eq] <;> first | assumption | omega) | decide)) rfl (by kernel_rfl) rfl (Nat.le_of_ble_eq_true rfl) fun q3 => go_ _ ?_
    refine so_append1 (e := 3) (sz := 1) (news := [.int .i64 (i : Nat)]) rfl (by (first | (with_reducible rfl) | assumption | exact decide_eq_true (by omega) | (simp only [Bool.not_eq_true', Bool.not_eq_false', decide_eq_false_iff_not, decide_eq_true_eq] <;> first | assumption | omega) | decide)) rfl rfl (by kernel_rfl) (Nat.le_of_ble_eq_true rfl) (fun A'' cap'' => (by (focus ((repeat (first | (with_reducible exact Upd.here) | (with_reducible apply Upd.there))); done)))) rw_here rfl rfl (by omega) fun B7 d7 => go_ _ ?_
    exact ⟨(i + 1, (B5, d5), (B6, d6), B7, d7), by dsimp only; omega, by rw [hps]; exact (by repeat (first | exact Sub.nil | refine Sub.cons rfl ?_ | (refine Sub.consB rfl (by (first | rfl | exact decide_eq_decide.2 (by omega) | exact (decide_eq_true (by omega)).symm | exact (decide_eq_false (by omega)).symm | exact decide_eq_true (by omega) | exact decide_eq_false (by omega))) ?_))), by rw [e1, e2, e3]; exact (by repeat (first | exact SubH.refl | exact SubH.nil | ((with_reducible apply SubH.cons); (focus ((repeat (first | (with_reducible exact Pick.here) | (with_reducible apply Pick.there))); done))) | ((with_reducible apply SubH.consR); (focus ((repeat (first | (with_reducible exact Pick.here) | (with_reducible apply Pick.there))); done)); (first | rfl | simp; done)) | ((with_reducible apply SubH.consO); (focus ((repeat (first | (with_reducible exact Pick.here) | (with_reducible apply Pick.there))); done)); (first | rfl | simp; done); (first | rfl | simp; done)) | exact SubH.drop SubH.refl | apply SubH.drop)), by dsimp only; omega⟩
  obtain rfl : i = ws.length := by omega
  rw [List.take_length]
  obtain ⟨m, hm⟩ : ∃ m, ws.length = m + 1 := ⟨ws.length - 1, by omega⟩
  have hsum := psum_in ws hws ws.length (Nat.le_refl _)
  clear hR hR0 b1 hlt hi
  refine go_ _ ?_
  refine s_loop (ι := Nat) (fun j => [(0, .int .u32 c), (5, .slice A5 ws.length c5), (6, .slice A6 ws.length c6), (7, .slice A7 ws.length c7), (10, .int .i64 (c - psum ws ws.length)), (11, .int .i64 (m : Nat)), (12, .int .u8 (j : Nat))])
    (fun _ => [own A5 ws.length c5 28 43 ((List.replicate ws.length blockS).flatMap Sty.cells), own A6 ws.length c6 48 3 ((ws.map fun w => (⟨w, 0, 0⟩ : Us)).flatMap Us.cells), own A7 ws.length c7 3 1 ((List.range ws.length).flatMap kC)])
    (fun j => j ≤ 4) (fun j => 4 - j) 0 (by repeat (first | exact Sub.nil | refine Sub.cons rfl ?_ | (refine Sub.consE rfl (by congr 1; omega) ?_))) (by repeat (first | exact SubH.refl | exact SubH.nil | ((with_reducible apply SubH.cons); (focus ((repeat (first | (with_reducible exact Pick.here) | (with_reducible apply Pick.there))); done))) | ((with_reducible apply SubH.consR); (focus ((repeat (first | (with_reducible exact Pick.here) | (with_reducible apply Pick.there))); done)); (first | rfl | simp; done)) | ((with_reducible apply SubH.consO); (focus ((repeat (first | (with_reducible exact Pick.here) | (with_reducible apply Pick.there))); done)); (first | rfl | simp; done); (first | rfl | simp; done)) | exact SubH.drop SubH.refl | apply SubH.drop)) (by omega) ?_
  intro j hj
  by_cases hj4 : j < 4
  · have b2 : (Try.prog.built 28 [(0, .int .u8 2), (16, .int .u8 (j : Nat))]).map Array.toList = some (flexS (j : Nat) 0).cells := by kernel_rfl
    have hcall : ∀ q w1, Mem w.heap.size w [row q 50 [.slice A7 ws.length c7], own A5 ws.length c5 28 43 ((List.replicate ws.length blockS).flatMap Sty.cells), own A6 ws.length c6 48 3 ((ws.map fun w => (⟨w, 0, 0⟩ : Us)).flatMap Us.cells), own A7 ws.length c7 3 1 ((List.range ws.length).flatMap kC)] w1 → _ :=
      fun q w1 h1 => crplace_any (flexS (j : Nat) 0) c (List.replicate ws.length blockS) (ws.map fun w => ⟨w, 0, 0⟩) [] [⟨A7, List.range ws.length, c7⟩] A5 A6 none (some ⟨q, 0, none⟩) c5 c6 0 1 w1 (h1.rdOwn (.there .here) (by decide) Sty.len) (h1.rdOwn (.there (.there .here)) (by decide) Us.len) Rd.nil
        (Rd.of_row (h1.rowAt .here).1 (fun _ => rfl) (by have := (h1.rowAt .here).2; simp only [List.flatMap_cons, List.flatMap_nil, RS.cells, List.length_range, List.append_nil]; exact this)) (fun r hr => by rw [List.mem_singleton.1 hr]; exact h1.rdOwn (.there (.there (.there .here))) (by decide) (fun _ => rfl)) (j_B c (j : Nat) ws hc hws (by omega))
    simp only [List.map_cons, List.map_nil, j_place, List.length_replicate, List.length_map] at hcall
    obtain ⟨X, W, hfr, JF⟩ := j_facts c (j : Nat) ws m hm hc hws (by omega) (by omega)
    generalize hsu : psum ws ws.length = su at *
    have ecut : (List.range ws.length).map (fun k => cutF (jFr (flexS (j : Nat) 0) ws (c - su) k)) = (List.range ws.length).map fun k => ⟨X k, 0, W k, 0⟩ := by
      apply List.map_congr_left
      intro k hk
      have hk := List.mem_range.1 hk
      have h1 := JF.xb k (by omega); have h2 := JF.wb k
      rw [hfr]; unfold cutF; dsimp only; rw [cutM_in (by omega), cutM_in (n := 0) (by omega), cutM_in (n := W k) (by omega)]
    simp only [List.map_map] at hcall
    rw [show (cutF ∘ jFr (flexS (j : Nat) 0) ws (c - su)) = fun k => cutF (jFr (flexS (j : Nat) 0) ws (c - su) k) from rfl, ecut] at hcall
    clear ecut hfr
    generalize (List.replicate ws.length blockS).flatMap Sty.cells = x5 at *
    generalize (ws.map fun w => (⟨w, 0, 0⟩ : Us)).flatMap Us.cells = x6 at *
    generalize (List.range ws.length).flatMap kC = x7 at *
    refine go_ _ ?_
    refine so_slice1 (e := 50) (sz := 1) rfl (by (first | (with_reducible rfl) | assumption | exact decide_eq_true (by omega) | (simp only [Bool.not_eq_true', Bool.not_eq_false', decide_eq_false_iff_not, decide_eq_true_eq] <;> first | assumption | omega) | decide)) rfl (by kernel_rfl) rfl (Nat.le_of_ble_eq_true rfl) fun q1 => go_ _ ?_
    refine so_callN (hc := fun w1 h1 => hcall q1 w1 (h1.sub (by repeat (first | exact SubH.refl | exact SubH.nil | ((with_reducible apply SubH.cons); (focus ((repeat (first | (with_reducible exact Pick.here) | (with_reducible apply Pick.there))); done))) | ((with_reducible apply SubH.consR); (focus ((repeat (first | (with_reducible exact Pick.here) | (with_reducible apply Pick.there))); done)); (first | rfl | simp; done)) | ((with_reducible apply SubH.consO); (focus ((repeat (first | (with_reducible exact Pick.here) | (with_reducible apply Pick.there))); done)); (first | rfl | simp; done); (first | rfl | simp; done)) | exact SubH.drop SubH.refl | apply SubH.drop)))) rfl rfl rfl (tF rfl) (Nat.le_of_ble_eq_true rfl) ?_
    rintro ⟨⟨A1, c1⟩, B1, d1⟩ _
    dsimp only
    refine so_ownSome .here (by omega) fun g1 e1 => ?_
    subst e1
    have hget : ∀ (k : Nat) T, k ≤ m → Rw w.heap.size w (own (some ⟨g1, 0, none⟩) ws.length c1 46 5 (((List.range ws.length).map fun k => (⟨X k, 0, W k, 0⟩ : Fg)).flatMap Fg.cells) :: T) g1 (0 + k * 5) [.int .i64 (X k), .int .i64 0, .int .i64 (W k), .int .i64 0, .slice none 0 0] := fun k T hk => own_get (c := Fg.cells) (x := ⟨X k, 0, W k, 0⟩) (by decide) Fg.len (by rw [List.getElem?_map, List.getElem?_range (by omega)]; rfl)
    clear hcall b2
    generalize ((List.range ws.length).map fun k => (⟨X k, 0, W k, 0⟩ : Fg)).flatMap Fg.cells = y1 at *
    refine so_sub (L := [own (some ⟨g1, 0, none⟩) ws.length c1 46 5 y1, own A5 ws.length c5 28 43 x5, own A6 ws.length c6 48 3 x6, own A7 ws.length c7 3 1 x7]) .refl (by repeat (first | exact SubH.refl | exact SubH.nil | ((with_reducible apply SubH.cons); (focus ((repeat (first | (with_reducible exact Pick.here) | (with_reducible apply Pick.there))); done))) | ((with_reducible apply SubH.consR); (focus ((repeat (first | (with_reducible exact Pick.here) | (with_reducible apply Pick.there))); done)); (first | rfl | simp; done)) | ((with_reducible apply SubH.consO); (focus ((repeat (first | (with_reducible exact Pick.here) | (with_reducible apply Pick.there))); done)); (first | rfl | simp; done); (first | rfl | simp; done)) | exact SubH.drop SubH.refl | apply SubH.drop)) ?_
    have hget := fun k h => hget k [own A5 ws.length c5 28 43 x5, own A6 ws.length c6 48 3 x6, own A7 ws.length c7 3 1 x7] h
    have r0 := hget 0 (Nat.zero_le _)
    have rm := hget m (Nat.le_refl _)
    refine go_ _ ?_
    have xb0 := JF.xb 0 (by omega); have xbm := JF.xb m (by omega); have wbm := JF.wb m
    refine s_parts (by kernel_rfl) ?_
    refine sg_free 12 (by kernel_rfl) (go_ _ ?_)
    have hjj : j = 0 ∨ j = 1 ∨ j = 2 ∨ j = 3 := by omega
    have f0 := JF.f0; have f1 := JF.f1; have f2 := JF.f2; have f3 := JF.f3; have f4 := JF.f4
    rcases hjj with rfl | rfl | rfl | rfl
    · have f0 := f0 rfl
      have GG := JF.g1 (by omega)
      refine go_ _ ?_
      refine s_loop (ι := Nat) (fun k => [(0, .int .u32 c), (5, .slice A5 ws.length c5), (6, .slice A6 ws.length c6), (7, .slice A7 ws.length c7), (10, .int .i64 (c - su)), (11, .int .i64 (m : Nat)), (12, .int .u8 (0 : Nat)), (13, .slice (some ⟨g1, 0, none⟩) ws.length c1), (18, .int .i64 ((k + 1 : Nat) : Int))])
        (fun _ => [own (some ⟨g1, 0, none⟩) ws.length c1 46 5 y1, own A5 ws.length c5 28 43 x5, own A6 ws.length c6 48 3 x6, own A7 ws.length c7 3 1 x7]) (fun k => k + 1 ≤ ws.length) (fun k => ws.length - k) 0 (by repeat (first | exact Sub.nil | refine Sub.cons rfl ?_ | (refine Sub.consB rfl (by (first | rfl | exact decide_eq_decide.2 (by omega) | exact (decide_eq_true (by omega)).symm | exact (decide_eq_false (by omega)).symm | exact decide_eq_true (by omega) | exact decide_eq_false (by omega))) ?_))) (by repeat (first | exact SubH.refl | exact SubH.nil | ((with_reducible apply SubH.cons); (focus ((repeat (first | (with_reducible exact Pick.here) | (with_reducible apply Pick.there))); done))) | ((with_reducible apply SubH.consR); (focus ((repeat (first | (with_reducible exact Pick.here) | (with_reducible apply Pick.there))); done)); (first | rfl | simp; done)) | ((with_reducible apply SubH.consO); (focus ((repeat (first | (with_reducible exact Pick.here) | (with_reducible apply Pick.there))); done)); (first | rfl | simp; done); (first | rfl | simp; done)) | exact SubH.drop SubH.refl | apply SubH.drop)) (by omega) ?_
      intro k hk
      by_cases hlk : k + 1 < ws.length
      · have ra := hget (k + 1) (by omega)
        have rb := hget k (by omega)
        have xa := JF.xb (k + 1) (by omega); have xb := JF.xb k (by omega); have wb := JF.wb k
        have gg := GG k (by omega)
        have g0 := JF.g0 k (by omega)
        clear GG JF f0 f1 f2 f3 f4 r0 rm hget
        refine go_ _ ?_
        refine s_parts (by kernel_rfl) ?_
        refine sg_free 20 (by kernel_rfl) (go_ _ ?_)
        refine sd_pure rfl (by (first | (with_reducible rfl) | assumption | exact decide_eq_true (by omega) | (simp only [Bool.not_eq_true', Bool.not_eq_false', decide_eq_false_iff_not, decide_eq_true_eq] <;> first | assumption | omega) | decide)) rfl (Nat.le_of_ble_eq_true rfl) (ps_indexAddrL (j := k) rfl rfl (tU rfl) (tS rfl) (toJ (by omega)) (by omega)) (go_ _ ?_)
        refine sd_pure rfl (by (first | (with_reducible rfl) | assumption | exact decide_eq_true (by omega) | (simp only [Bool.not_eq_true', Bool.not_eq_false', decide_eq_false_iff_not, decide_eq_true_eq] <;> first | assumption | omega) | decide)) rfl (Nat.le_of_ble_eq_true rfl) (ps_indexAddrL (j := k) rfl rfl (tU rfl) (tS rfl) (toJ (by omega)) (by omega)) (go_ _ ?_)
        exact ⟨k + 1, by omega, (by repeat (first | exact Sub.nil | refine Sub.cons rfl ?_ | (refine Sub.consB rfl (by (first | rfl | exact decide_eq_decide.2 (by omega) | exact (decide_eq_true (by omega)).symm | exact (decide_eq_false (by omega)).symm | exact decide_eq_true (by omega) | exact decide_eq_false (by omega))) ?_))), (by repeat (first | exact SubH.refl | exact SubH.nil | ((with_reducible apply SubH.cons); (focus ((repeat (first | (with_reducible exact Pick.here) | (with_reducible apply Pick.there))); done))) | ((with_reducible apply SubH.consR); (focus ((repeat (first | (with_reducible exact Pick.here) | (with_reducible apply Pick.there))); done)); (first | rfl | simp; done)) | ((with_reducible apply SubH.consO); (focus ((repeat (first | (with_reducible exact Pick.here) | (with_reducible apply Pick.there))); done)); (first | rfl | simp; done); (first | rfl | simp; done)) | exact SubH.drop SubH.refl | apply SubH.drop)), by omega⟩
      · skip
        refine go_ _ ?_
        refine so_pure rfl (by (first | (with_reducible rfl) | assumption | exact decide_eq_true (by omega) | (simp only [Bool.not_eq_true', Bool.not_eq_false', decide_eq_false_iff_not, decide_eq_true_eq] <;> first | assumption | omega) | decide)) rfl (Nat.le_of_ble_eq_true rfl) (ps_addK (r := 1) rfl rfl (by decide +kernel)) ?_
        refine go_ _ ?_
        exact ⟨0 + 1, by omega, (by repeat (first | exact Sub.nil | refine Sub.cons rfl ?_ | (refine Sub.consB rfl (by (first | rfl | exact decide_eq_decide.2 (by omega) | exact (decide_eq_true (by omega)).symm | exact (decide_eq_false (by omega)).symm | exact decide_eq_true (by omega) | exact decide_eq_false (by omega))) ?_))), (by repeat (first | exact SubH.refl | exact SubH.nil | ((with_reducible apply SubH.cons); (focus ((repeat (first | (with_reducible exact Pick.here) | (with_reducible apply Pick.there))); done))) | ((with_reducible apply SubH.consR); (focus ((repeat (first | (with_reducible exact Pick.here) | (with_reducible apply Pick.there))); done)); (first | rfl | simp; done)) | ((with_reducible apply SubH.consO); (focus ((repeat (first | (with_reducible exact Pick.here) | (with_reducible apply Pick.there))); done)); (first | rfl | simp; done); (first | rfl | simp; done)) | exact SubH.drop SubH.refl | apply SubH.drop)), by omega⟩
    · have f1 := f1 rfl
      have GG := JF.g1 (by omega)
      refine go_ _ ?_
      refine s_loop (ι := Nat) (fun k => [(0, .int .u32 c), (5, .slice A5 ws.length c5), (6, .slice A6 ws.length c6), (7, .slice A7 ws.length c7), (10, .int .i64 (c - su)), (11, .int .i64 (m : Nat)), (12, .int .u8 (1 : Nat)), (13, .slice (some ⟨g1, 0, none⟩) ws.length c1), (18, .int .i64 ((k + 1 : Nat) : Int))])
        (fun _ => [own (some ⟨g1, 0, none⟩) ws.length c1 46 5 y1, own A5 ws.length c5 28 43 x5, own A6 ws.length c6 48 3 x6, own A7 ws.length c7 3 1 x7]) (fun k => k + 1 ≤ ws.length) (fun k => ws.length - k) 0 (by repeat (first | exact Sub.nil | refine Sub.cons rfl ?_ | (refine Sub.consB rfl (by (first | rfl | exact decide_eq_decide.2 (by omega) | exact (decide_eq_true (by omega)).symm | exact (decide_eq_false (by omega)).symm | exact decide_eq_true (by omega) | exact decide_eq_false (by omega))) ?_))) (by repeat (first | exact SubH.refl | exact SubH.nil | ((with_reducible apply SubH.cons); (focus ((repeat (first | (with_reducible exact Pick.here) | (with_reducible apply Pick.there))); done))) | ((with_reducible apply SubH.consR); (focus ((repeat (first | (with_reducible exact Pick.here) | (with_reducible apply Pick.there))); done)); (first | rfl | simp; done)) | ((with_reducible apply SubH.consO); (focus ((repeat (first | (with_reducible exact Pick.here) | (with_reducible apply Pick.there))); done)); (first | rfl | simp; done); (first | rfl | simp; done)) | exact SubH.drop SubH.refl | apply SubH.drop)) (by omega) ?_
      intro k hk
      by_cases hlk : k + 1 < ws.length
      · have ra := hget (k + 1) (by omega)
        have rb := hget k (by omega)
        have xa := JF.xb (k + 1) (by omega); have xb := JF.xb k (by omega); have wb := JF.wb k
        have gg := GG k (by omega)
        have g0 := JF.g0 k (by omega)
        clear GG JF f0 f1 f2 f3 f4 r0 rm hget
        refine go_ _ ?_
        refine s_parts (by kernel_rfl) ?_
        refine sg_free 20 (by kernel_rfl) (go_ _ ?_)
        refine sd_pure rfl (by (first | (with_reducible rfl) | assumption | exact decide_eq_true (by omega) | (simp only [Bool.not_eq_true', Bool.not_eq_false', decide_eq_false_iff_not, decide_eq_true_eq] <;> first | assumption | omega) | decide)) rfl (Nat.le_of_ble_eq_true rfl) (ps_indexAddrL (j := k) rfl rfl (tU rfl) (tS rfl) (toJ (by omega)) (by omega)) (go_ _ ?_)
        refine sd_pure rfl (by (first | (with_reducible rfl) | assumption | exact decide_eq_true (by omega) | (simp only [Bool.not_eq_true', Bool.not_eq_false', decide_eq_false_iff_not, decide_eq_true_eq] <;> first | assumption | omega) | decide)) rfl (Nat.le_of_ble_eq_true rfl) (ps_indexAddrL (j := k) rfl rfl (tU rfl) (tS rfl) (toJ (by omega)) (by omega)) (go_ _ ?_)
        exact ⟨k + 1, by omega, (by repeat (first | exact Sub.nil | refine Sub.cons rfl ?_ | (refine Sub.consB rfl (by (first | rfl | exact decide_eq_decide.2 (by omega) | exact (decide_eq_true (by omega)).symm | exact (decide_eq_false (by omega)).symm | exact decide_eq_true (by omega) | exact decide_eq_false (by omega))) ?_))), (by repeat (first | exact SubH.refl | exact SubH.nil | ((with_reducible apply SubH.cons); (focus ((repeat (first | (with_reducible exact Pick.here) | (with_reducible apply Pick.there))); done))) | ((with_reducible apply SubH.consR); (focus ((repeat (first | (with_reducible exact Pick.here) | (with_reducible apply Pick.there))); done)); (first | rfl | simp; done)) | ((with_reducible apply SubH.consO); (focus ((repeat (first | (with_reducible exact Pick.here) | (with_reducible apply Pick.there))); done)); (first | rfl | simp; done); (first | rfl | simp; done)) | exact SubH.drop SubH.refl | apply SubH.drop)), by omega⟩
      · skip
        refine go_ _ ?_
        refine so_pure rfl (by (first | (with_reducible rfl) | assumption | exact decide_eq_true (by omega) | (simp only [Bool.not_eq_true', Bool.not_eq_false', decide_eq_false_iff_not, decide_eq_true_eq] <;> first | assumption | omega) | decide)) rfl (Nat.le_of_ble_eq_true rfl) (ps_addK (r := 2) rfl rfl (by decide +kernel)) ?_
        refine go_ _ ?_
        exact ⟨1 + 1, by omega, (by repeat (first | exact Sub.nil | refine Sub.cons rfl ?_ | (refine Sub.consB rfl (by (first | rfl | exact decide_eq_decide.2 (by omega) | exact (decide_eq_true (by omega)).symm | exact (decide_eq_false (by omega)).symm | exact decide_eq_true (by omega) | exact decide_eq_false (by omega))) ?_))), (by repeat (first | exact SubH.refl | exact SubH.nil | ((with_reducible apply SubH.cons); (focus ((repeat (first | (with_reducible exact Pick.here) | (with_reducible apply Pick.there))); done))) | ((with_reducible apply SubH.consR); (focus ((repeat (first | (with_reducible exact Pick.here) | (with_reducible apply Pick.there))); done)); (first | rfl | simp; done)) | ((with_reducible apply SubH.consO); (focus ((repeat (first | (with_reducible exact Pick.here) | (with_reducible apply Pick.there))); done)); (first | rfl | simp; done); (first | rfl | simp; done)) | exact SubH.drop SubH.refl | apply SubH.drop)), by omega⟩
    · have f2 := f2 rfl
      have GG := JF.g1 (by omega)
      refine go_ _ ?_
      refine s_loop (ι := Nat) (fun k => [(0, .int .u32 c), (5, .slice A5 ws.length c5), (6, .slice A6 ws.length c6), (7, .slice A7 ws.length c7), (10, .int .i64 (c - su)), (11, .int .i64 (m : Nat)), (12, .int .u8 (2 : Nat)), (13, .slice (some ⟨g1, 0, none⟩) ws.length c1), (18, .int .i64 ((k + 1 : Nat) : Int))])
        (fun _ => [own (some ⟨g1, 0, none⟩) ws.length c1 46 5 y1, own A5 ws.length c5 28 43 x5, own A6 ws.length c6 48 3 x6, own A7 ws.length c7 3 1 x7]) (fun k => k + 1 ≤ ws.length) (fun k => ws.length - k) 0 (by repeat (first | exact Sub.nil | refine Sub.cons rfl ?_ | (refine Sub.consB rfl (by (first | rfl | exact decide_eq_decide.2 (by omega) | exact (decide_eq_true (by omega)).symm | exact (decide_eq_false (by omega)).symm | exact decide_eq_true (by omega) | exact decide_eq_false (by omega))) ?_))) (by repeat (first | exact SubH.refl | exact SubH.nil | ((with_reducible apply SubH.cons); (focus ((repeat (first | (with_reducible exact Pick.here) | (with_reducible apply Pick.there))); done))) | ((with_reducible apply SubH.consR); (focus ((repeat (first | (with_reducible exact Pick.here) | (with_reducible apply Pick.there))); done)); (first | rfl | simp; done)) | ((with_reducible apply SubH.consO); (focus ((repeat (first | (with_reducible exact Pick.here) | (with_reducible apply Pick.there))); done)); (first | rfl | simp; done); (first | rfl | simp; done)) | exact SubH.drop SubH.refl | apply SubH.drop)) (by omega) ?_
      intro k hk
      by_cases hlk : k + 1 < ws.length
      · have ra := hget (k + 1) (by omega)
        have rb := hget k (by omega)
        have xa := JF.xb (k + 1) (by omega); have xb := JF.xb k (by omega); have wb := JF.wb k
        have gg := GG k (by omega)
        have g0 := JF.g0 k (by omega)
        clear GG JF f0 f1 f2 f3 f4 r0 rm hget
        refine go_ _ ?_
        refine s_parts (by kernel_rfl) ?_
        refine sg_free 20 (by kernel_rfl) (go_ _ ?_)
        refine sd_pure rfl (by (first | (with_reducible rfl) | assumption | exact decide_eq_true (by omega) | (simp only [Bool.not_eq_true', Bool.not_eq_false', decide_eq_false_iff_not, decide_eq_true_eq] <;> first | assumption | omega) | decide)) rfl (Nat.le_of_ble_eq_true rfl) (ps_indexAddrL (j := k) rfl rfl (tU rfl) (tS rfl) (toJ (by omega)) (by omega)) (go_ _ ?_)
        refine sd_pure rfl (by (first | (with_reducible rfl) | assumption | exact decide_eq_true (by omega) | (simp only [Bool.not_eq_true', Bool.not_eq_false', decide_eq_false_iff_not, decide_eq_true_eq] <;> first | assumption | omega) | decide)) rfl (Nat.le_of_ble_eq_true rfl) (ps_indexAddrL (j := k) rfl rfl (tU rfl) (tS rfl) (toJ (by omega)) (by omega)) (go_ _ ?_)
        exact ⟨k + 1, by omega, (by repeat (first | exact Sub.nil | refine Sub.cons rfl ?_ | (refine Sub.consB rfl (by (first | rfl | exact decide_eq_decide.2 (by omega) | exact (decide_eq_true (by omega)).symm | exact (decide_eq_false (by omega)).symm | exact decide_eq_true (by omega) | exact decide_eq_false (by omega))) ?_))), (by repeat (first | exact SubH.refl | exact SubH.nil | ((with_reducible apply SubH.cons); (focus ((repeat (first | (with_reducible exact Pick.here) | (with_reducible apply Pick.there))); done))) | ((with_reducible apply SubH.consR); (focus ((repeat (first | (with_reducible exact Pick.here) | (with_reducible apply Pick.there))); done)); (first | rfl | simp; done)) | ((with_reducible apply SubH.consO); (focus ((repeat (first | (with_reducible exact Pick.here) | (with_reducible apply Pick.there))); done)); (first | rfl | simp; done); (first | rfl | simp; done)) | exact SubH.drop SubH.refl | apply SubH.drop)), by omega⟩
      · skip
        refine go_ _ ?_
        refine so_pure rfl (by (first | (with_reducible rfl) | assumption | exact decide_eq_true (by omega) | (simp only [Bool.not_eq_true', Bool.not_eq_false', decide_eq_false_iff_not, decide_eq_true_eq] <;> first | assumption | omega) | decide)) rfl (Nat.le_of_ble_eq_true rfl) (ps_addK (r := 3) rfl rfl (by decide +kernel)) ?_
        refine go_ _ ?_
        exact ⟨2 + 1, by omega, (by repeat (first | exact Sub.nil | refine Sub.cons rfl ?_ | (refine Sub.consB rfl (by (first | rfl | exact decide_eq_decide.2 (by omega) | exact (decide_eq_true (by omega)).symm | exact (decide_eq_false (by omega)).symm | exact decide_eq_true (by omega) | exact decide_eq_false (by omega))) ?_))), (by repeat (first | exact SubH.refl | exact SubH.nil | ((with_reducible apply SubH.cons); (focus ((repeat (first | (with_reducible exact Pick.here) | (with_reducible apply Pick.there))); done))) | ((with_reducible apply SubH.consR); (focus ((repeat (first | (with_reducible exact Pick.here) | (with_reducible apply Pick.there))); done)); (first | rfl | simp; done)) | ((with_reducible apply SubH.consO); (focus ((repeat (first | (with_reducible exact Pick.here) | (with_reducible apply Pick.there))); done)); (first | rfl | simp; done); (first | rfl | simp; done)) | exact SubH.drop SubH.refl | apply SubH.drop)), by omega⟩
    · have f3 := f3 rfl
      have f4 := f4 rfl
      by_cases hfr : 0 < c - su
      rotate_left
      have GG := JF.g2 rfl (by omega)
      refine go_ _ ?_
      refine s_loop (ι := Nat) (fun k => [(0, .int .u32 c), (5, .slice A5 ws.length c5), (6, .slice A6 ws.length c6), (7, .slice A7 ws.length c7), (10, .int .i64 (c - su)), (11, .int .i64 (m : Nat)), (12, .int .u8 (3 : Nat)), (13, .slice (some ⟨g1, 0, none⟩) ws.length c1), (18, .int .i64 ((k + 1 : Nat) : Int))])
        (fun _ => [own (some ⟨g1, 0, none⟩) ws.length c1 46 5 y1, own A5 ws.length c5 28 43 x5, own A6 ws.length c6 48 3 x6, own A7 ws.length c7 3 1 x7]) (fun k => k + 1 ≤ ws.length) (fun k => ws.length - k) 0 (by repeat (first | exact Sub.nil | refine Sub.cons rfl ?_ | (refine Sub.consB rfl (by (first | rfl | exact decide_eq_decide.2 (by omega) | exact (decide_eq_true (by omega)).symm | exact (decide_eq_false (by omega)).symm | exact decide_eq_true (by omega) | exact decide_eq_false (by omega))) ?_))) (by repeat (first | exact SubH.refl | exact SubH.nil | ((with_reducible apply SubH.cons); (focus ((repeat (first | (with_reducible exact Pick.here) | (with_reducible apply Pick.there))); done))) | ((with_reducible apply SubH.consR); (focus ((repeat (first | (with_reducible exact Pick.here) | (with_reducible apply Pick.there))); done)); (first | rfl | simp; done)) | ((with_reducible apply SubH.consO); (focus ((repeat (first | (with_reducible exact Pick.here) | (with_reducible apply Pick.there))); done)); (first | rfl | simp; done); (first | rfl | simp; done)) | exact SubH.drop SubH.refl | apply SubH.drop)) (by omega) ?_
      intro k hk
      by_cases hlk : k + 1 < ws.length
      · have ra := hget (k + 1) (by omega)
        have rb := hget k (by omega)
        have xa := JF.xb (k + 1) (by omega); have xb := JF.xb k (by omega); have wb := JF.wb k
        have gg := GG k (by omega)
        have g0 := JF.g0 k (by omega)
        clear GG JF f0 f1 f2 f3 f4 r0 rm hget
        refine go_ _ ?_
        refine s_parts (by kernel_rfl) ?_
        refine sg_free 20 (by kernel_rfl) (go_ _ ?_)
        refine sd_pure rfl (by (first | (with_reducible rfl) | assumption | exact decide_eq_true (by omega) | (simp only [Bool.not_eq_true', Bool.not_eq_false', decide_eq_false_iff_not, decide_eq_true_eq] <;> first | assumption | omega) | decide)) rfl (Nat.le_of_ble_eq_true rfl) (ps_indexAddrL (j := k) rfl rfl (tU rfl) (tS rfl) (toJ (by omega)) (by omega)) (go_ _ ?_)
        refine sd_pure rfl (by (first | (with_reducible rfl) | assumption | exact decide_eq_true (by omega) | (simp only [Bool.not_eq_true', Bool.not_eq_false', decide_eq_false_iff_not, decide_eq_true_eq] <;> first | assumption | omega) | decide)) rfl (Nat.le_of_ble_eq_true rfl) (ps_indexAddrL (j := k) rfl rfl (tU rfl) (tS rfl) (toJ (by omega)) (by omega)) (go_ _ ?_)
        exact ⟨k + 1, by omega, (by repeat (first | exact Sub.nil | refine Sub.cons rfl ?_ | (refine Sub.consB rfl (by (first | rfl | exact decide_eq_decide.2 (by omega) | exact (decide_eq_true (by omega)).symm | exact (decide_eq_false (by omega)).symm | exact decide_eq_true (by omega) | exact decide_eq_false (by omega))) ?_))), (by repeat (first | exact SubH.refl | exact SubH.nil | ((with_reducible apply SubH.cons); (focus ((repeat (first | (with_reducible exact Pick.here) | (with_reducible apply Pick.there))); done))) | ((with_reducible apply SubH.consR); (focus ((repeat (first | (with_reducible exact Pick.here) | (with_reducible apply Pick.there))); done)); (first | rfl | simp; done)) | ((with_reducible apply SubH.consO); (focus ((repeat (first | (with_reducible exact Pick.here) | (with_reducible apply Pick.there))); done)); (first | rfl | simp; done); (first | rfl | simp; done)) | exact SubH.drop SubH.refl | apply SubH.drop)), by omega⟩
      · skip
        refine go_ _ ?_
        refine so_pure rfl (by (first | (with_reducible rfl) | assumption | exact decide_eq_true (by omega) | (simp only [Bool.not_eq_true', Bool.not_eq_false', decide_eq_false_iff_not, decide_eq_true_eq] <;> first | assumption | omega) | decide)) rfl (Nat.le_of_ble_eq_true rfl) (ps_addK (r := 4) rfl rfl (by decide +kernel)) ?_
        refine go_ _ ?_
        exact ⟨3 + 1, by omega, (by repeat (first | exact Sub.nil | refine Sub.cons rfl ?_ | (refine Sub.consB rfl (by (first | rfl | exact decide_eq_decide.2 (by omega) | exact (decide_eq_true (by omega)).symm | exact (decide_eq_false (by omega)).symm | exact decide_eq_true (by omega) | exact decide_eq_false (by omega))) ?_))), (by repeat (first | exact SubH.refl | exact SubH.nil | ((with_reducible apply SubH.cons); (focus ((repeat (first | (with_reducible exact Pick.here) | (with_reducible apply Pick.there))); done))) | ((with_reducible apply SubH.consR); (focus ((repeat (first | (with_reducible exact Pick.here) | (with_reducible apply Pick.there))); done)); (first | rfl | simp; done)) | ((with_reducible apply SubH.consO); (focus ((repeat (first | (with_reducible exact Pick.here) | (with_reducible apply Pick.there))); done)); (first | rfl | simp; done); (first | rfl | simp; done)) | exact SubH.drop SubH.refl | apply SubH.drop)), by omega⟩
      by_cases hm0 : 0 < m
      rotate_left
      have GG := JF.g3 rfl hfr
      refine go_ _ ?_
      refine s_loop (ι := Nat) (fun k => [(0, .int .u32 c), (5, .slice A5 ws.length c5), (6, .slice A6 ws.length c6), (7, .slice A7 ws.length c7), (10, .int .i64 (c - su)), (11, .int .i64 (m : Nat)), (12, .int .u8 (3 : Nat)), (13, .slice (some ⟨g1, 0, none⟩) ws.length c1), (18, .int .i64 ((k + 1 : Nat) : Int))])
        (fun _ => [own (some ⟨g1, 0, none⟩) ws.length c1 46 5 y1, own A5 ws.length c5 28 43 x5, own A6 ws.length c6 48 3 x6, own A7 ws.length c7 3 1 x7]) (fun k => k + 1 ≤ ws.length) (fun k => ws.length - k) 0 (by repeat (first | exact Sub.nil | refine Sub.cons rfl ?_ | (refine Sub.consB rfl (by (first | rfl | exact decide_eq_decide.2 (by omega) | exact (decide_eq_true (by omega)).symm | exact (decide_eq_false (by omega)).symm | exact decide_eq_true (by omega) | exact decide_eq_false (by omega))) ?_))) (by repeat (first | exact SubH.refl | exact SubH.nil | ((with_reducible apply SubH.cons); (focus ((repeat (first | (with_reducible exact Pick.here) | (with_reducible apply Pick.there))); done))) | ((with_reducible apply SubH.consR); (focus ((repeat (first | (with_reducible exact Pick.here) | (with_reducible apply Pick.there))); done)); (first | rfl | simp; done)) | ((with_reducible apply SubH.consO); (focus ((repeat (first | (with_reducible exact Pick.here) | (with_reducible apply Pick.there))); done)); (first | rfl | simp; done); (first | rfl | simp; done)) | exact SubH.drop SubH.refl | apply SubH.drop)) (by omega) ?_
      intro k hk
      by_cases hlk : k + 1 < ws.length
      · exact absurd hlk (by omega)
      · skip
        refine go_ _ ?_
        refine so_pure rfl (by (first | (with_reducible rfl) | assumption | exact decide_eq_true (by omega) | (simp only [Bool.not_eq_true', Bool.not_eq_false', decide_eq_false_iff_not, decide_eq_true_eq] <;> first | assumption | omega) | decide)) rfl (Nat.le_of_ble_eq_true rfl) (ps_addK (r := 4) rfl rfl (by decide +kernel)) ?_
        refine go_ _ ?_
        exact ⟨3 + 1, by omega, (by repeat (first | exact Sub.nil | refine Sub.cons rfl ?_ | (refine Sub.consB rfl (by (first | rfl | exact decide_eq_decide.2 (by omega) | exact (decide_eq_true (by omega)).symm | exact (decide_eq_false (by omega)).symm | exact decide_eq_true (by omega) | exact decide_eq_false (by omega))) ?_))), (by repeat (first | exact SubH.refl | exact SubH.nil | ((with_reducible apply SubH.cons); (focus ((repeat (first | (with_reducible exact Pick.here) | (with_reducible apply Pick.there))); done))) | ((with_reducible apply SubH.consR); (focus ((repeat (first | (with_reducible exact Pick.here) | (with_reducible apply Pick.there))); done)); (first | rfl | simp; done)) | ((with_reducible apply SubH.consO); (focus ((repeat (first | (with_reducible exact Pick.here) | (with_reducible apply Pick.there))); done)); (first | rfl | simp; done); (first | rfl | simp; done)) | exact SubH.drop SubH.refl | apply SubH.drop)), by omega⟩
      have f4 := f4 hfr hm0
      have GG := JF.g3 rfl hfr
      refine go_ _ ?_
      refine s_loop (ι := Nat) (fun k => [(0, .int .u32 c), (5, .slice A5 ws.length c5), (6, .slice A6 ws.length c6), (7, .slice A7 ws.length c7), (10, .int .i64 (c - su)), (11, .int .i64 (m : Nat)), (12, .int .u8 (3 : Nat)), (13, .slice (some ⟨g1, 0, none⟩) ws.length c1), (18, .int .i64 ((k + 1 : Nat) : Int))])
        (fun _ => [own (some ⟨g1, 0, none⟩) ws.length c1 46 5 y1, own A5 ws.length c5 28 43 x5, own A6 ws.length c6 48 3 x6, own A7 ws.length c7 3 1 x7]) (fun k => k + 1 ≤ ws.length) (fun k => ws.length - k) 0 (by repeat (first | exact Sub.nil | refine Sub.cons rfl ?_ | (refine Sub.consB rfl (by (first | rfl | exact decide_eq_decide.2 (by omega) | exact (decide_eq_true (by omega)).symm | exact (decide_eq_false (by omega)).symm | exact decide_eq_true (by omega) | exact decide_eq_false (by omega))) ?_))) (by repeat (first | exact SubH.refl | exact SubH.nil | ((with_reducible apply SubH.cons); (focus ((repeat (first | (with_reducible exact Pick.here) | (with_reducible apply Pick.there))); done))) | ((with_reducible apply SubH.consR); (focus ((repeat (first | (with_reducible exact Pick.here) | (with_reducible apply Pick.there))); done)); (first | rfl | simp; done)) | ((with_reducible apply SubH.consO); (focus ((repeat (first | (with_reducible exact Pick.here) | (with_reducible apply Pick.there))); done)); (first | rfl | simp; done); (first | rfl | simp; done)) | exact SubH.drop SubH.refl | apply SubH.drop)) (by omega) ?_
      intro k hk
      by_cases hlk : k + 1 < ws.length
      · have ra := hget (k + 1) (by omega)
        have rb := hget k (by omega)
        have xa := JF.xb (k + 1) (by omega); have xb := JF.xb k (by omega); have wb := JF.wb k
        have gg := GG k (by omega)
        have g0 := JF.g0 k (by omega)
        clear GG JF f0 f1 f2 f3 f4 r0 rm hget
        refine go_ _ ?_
        refine s_parts (by kernel_rfl) ?_
        refine sg_free 20 (by kernel_rfl) (go_ _ ?_)
        refine sd_pure rfl (by (first | (with_reducible rfl) | assumption | exact decide_eq_true (by omega) | (simp only [Bool.not_eq_true', Bool.not_eq_false', decide_eq_false_iff_not, decide_eq_true_eq] <;> first | assumption | omega) | decide)) rfl (Nat.le_of_ble_eq_true rfl) (ps_indexAddrL (j := k) rfl rfl (tU rfl) (tS rfl) (toJ (by omega)) (by omega)) (go_ _ ?_)
        refine sd_pure rfl (by (first | (with_reducible rfl) | assumption | exact decide_eq_true (by omega) | (simp only [Bool.not_eq_true', Bool.not_eq_false', decide_eq_false_iff_not, decide_eq_true_eq] <;> first | assumption | omega) | decide)) rfl (Nat.le_of_ble_eq_true rfl) (ps_indexAddrL (j := k) rfl rfl (tU rfl) (tS rfl) (toJ (by omega)) (by omega)) (go_ _ ?_)
        exact ⟨k + 1, by omega, (by repeat (first | exact Sub.nil | refine Sub.cons rfl ?_ | (refine Sub.consB rfl (by (first | rfl | exact decide_eq_decide.2 (by omega) | exact (decide_eq_true (by omega)).symm | exact (decide_eq_false (by omega)).symm | exact decide_eq_true (by omega) | exact decide_eq_false (by omega))) ?_))), (by repeat (first | exact SubH.refl | exact SubH.nil | ((with_reducible apply SubH.cons); (focus ((repeat (first | (with_reducible exact Pick.here) | (with_reducible apply Pick.there))); done))) | ((with_reducible apply SubH.consR); (focus ((repeat (first | (with_reducible exact Pick.here) | (with_reducible apply Pick.there))); done)); (first | rfl | simp; done)) | ((with_reducible apply SubH.consO); (focus ((repeat (first | (with_reducible exact Pick.here) | (with_reducible apply Pick.there))); done)); (first | rfl | simp; done); (first | rfl | simp; done)) | exact SubH.drop SubH.refl | apply SubH.drop)), by omega⟩
      · skip
        refine go_ _ ?_
        refine so_pure rfl (by (first | (with_reducible rfl) | assumption | exact decide_eq_true (by omega) | (simp only [Bool.not_eq_true', Bool.not_eq_false', decide_eq_false_iff_not, decide_eq_true_eq] <;> first | assumption | omega) | decide)) rfl (Nat.le_of_ble_eq_true rfl) (ps_addK (r := 4) rfl rfl (by decide +kernel)) ?_
        refine go_ _ ?_
        exact ⟨3 + 1, by omega, (by repeat (first | exact Sub.nil | refine Sub.cons rfl ?_ | (refine Sub.consB rfl (by (first | rfl | exact decide_eq_decide.2 (by omega) | exact (decide_eq_true (by omega)).symm | exact (decide_eq_false (by omega)).symm | exact decide_eq_true (by omega) | exact decide_eq_false (by omega))) ?_))), (by repeat (first | exact SubH.refl | exact SubH.nil | ((with_reducible apply SubH.cons); (focus ((repeat (first | (with_reducible exact Pick.here) | (with_reducible apply Pick.there))); done))) | ((with_reducible apply SubH.consR); (focus ((repeat (first | (with_reducible exact Pick.here) | (with_reducible apply Pick.there))); done)); (first | rfl | simp; done)) | ((with_reducible apply SubH.consO); (focus ((repeat (first | (with_reducible exact Pick.here) | (with_reducible apply Pick.there))); done)); (first | rfl | simp; done); (first | rfl | simp; done)) | exact SubH.drop SubH.refl | apply SubH.drop)), by omega⟩
  · obtain rfl : j = 4 := by omega
    refine go_ _ ?_
    refine so_callQ (fun w1 _ => crworks_any w1) rfl (by (first | (with_reducible rfl) | assumption | exact decide_eq_true (by omega) | (simp only [Bool.not_eq_true', Bool.not_eq_false', decide_eq_false_iff_not, decide_eq_true_eq] <;> first | assumption | omega) | decide)) rfl (tF rfl) (Nat.le_of_ble_eq_true rfl) ?_
    refine go_ _ ?_
    exact sret1 rfl rfl rfl
end Go.Proofs.Ytdoihebekbfnbaa
