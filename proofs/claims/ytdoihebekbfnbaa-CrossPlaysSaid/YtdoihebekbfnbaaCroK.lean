/- The anchor of chapter 20. -/
import Derived.Test.YtdoihebekbfnbaaCroR
namespace Go.Proofs.Ytdoihebekbfnbaa
open Go.RowKit

def Ln.zero : Ln := ⟨0, 0⟩
def Sty.zero : Sty := ⟨0, false, 0, 0, Ln.zero, Ln.zero, Ln.zero, Ln.zero, Ln.zero, Ln.zero, Ln.zero, Ln.zero, Ln.zero, Ln.zero, 0, 0, 0, 0, 0, 0, 0, 0, 0, 0, false, 0, 0, 0, 0, 0, Ln.zero, none, 0, 0⟩
def blockS : Sty := { Sty.zero with kind := 1 }
def flexS (j i : Int) : Sty := { Sty.zero with kind := 2, justify := j, items := i }
theorem Sty.len (s : Sty) : s.cells.length = 43 := rfl
theorem Us.len (s : Us) : s.cells.length = 3 := rfl

instance (n : Int) : Decidable (InB n) := inferInstanceAs (Decidable (_ ∧ _))
instance (n : Int) : Decidable (In1 n) := inferInstanceAs (Decidable (_ ∧ _))
theorem in1_0 : In1 0 := by decide
def usW : List Us := [⟨20, 0, 0⟩, ⟨30, 0, 0⟩]
theorem crwa : (placeM (flexS 1 0) 100 (itemsM 100 [blockS, blockS] usW [10, 40]) [[0, 1]]) = ([⟨50, 0, 20, 10⟩, ⟨70, 0, 30, 40⟩], 40) := by kernel_rfl
theorem crwb : (placeM (flexS 3 3) 100 (itemsM 100 [blockS, blockS] usW [10, 40]) [[0, 1]]) = ([⟨0, 0, 20, 40⟩, ⟨70, 0, 30, 40⟩], 40) := by kernel_rfl
theorem crwc : (placeM (flexS 0 2) 100 (itemsM 100 [blockS, blockS] usW [10, 40]) [[0, 1]]) = ([⟨0, 15, 20, 10⟩, ⟨20, 0, 30, 40⟩], 40) := by kernel_rfl

theorem lnB_zero (c : Int) : LnB Ln.zero c := ⟨fun h => absurd h (by decide), fun h => absurd h (by decide)⟩
theorem blockB (c : Int) : KidB blockS c := ⟨⟨lnB_zero c, lnB_zero c, lnB_zero c, lnB_zero c, lnB_zero c, by decide, by decide, by decide, by decide, by decide, by decide, by decide, by decide⟩, lnB_zero c, lnB_zero c⟩
theorem worksP (j i : Int) : PlB (flexS j i) 100 [blockS, blockS] usW [10, 40] [[0, 1]] := by
  refine ⟨?_, ?_, ?_, ?_, by decide, ⟨in1_0, in1_0, in1_0⟩, by decide, ?_, by decide⟩
  · intro k hk; simp at hk; rw [hk]; exact blockB _
  · intro k hk; simp at hk; rw [hk]; decide
  · intro u hu; simp [usW] at hu; rcases hu with rfl | rfl <;> decide
  · intro h hh; simp at hh; rcases hh with rfl | rfl <;> decide
  · intro r hr; simp at hr; subst hr; decide

set_option maxRecDepth 100000 in
set_option maxHeartbeats 8000000 in
theorem crworks_any (w : World) : Calls Try.prog 8 #[] w fun e w' => e = .returned (.bool true) ∧ Below w.heap.size w w' := by
  refine s_quiet [] Try.func8 rfl Try.ntmps8 rfl (by simp) ?_
  have b1 : (Try.prog.built 28 [(0, .int .u8 1)]).map Array.toList = some blockS.cells := by kernel_rfl
  have b2 : (Try.prog.built 28 [(0, .int .u8 2), (16, .int .u8 1)]).map Array.toList = some (flexS 1 0).cells := by kernel_rfl
  have b3 : (Try.prog.built 28 [(0, .int .u8 2), (16, .int .u8 3), (17, .int .u8 3)]).map Array.toList = some (flexS 3 3).cells := by kernel_rfl
  have b4 : (Try.prog.built 28 [(0, .int .u8 2), (17, .int .u8 2)]).map Array.toList = some (flexS 0 2).cells := by kernel_rfl
  refine go_ _ ?_
  refine so_litL (c := Sty.cells) (e := 28) (fun s : Sty => .agg s.cells.toArray) [blockS, blockS] (fun _ => rfl) Sty.len rfl rfl (by repeat (first | exact Parts.nil | ((with_reducible apply Parts.cons); rfl))) (by rfl) rfl (by kernel_rfl) rfl rfl (Nat.le_of_ble_eq_true rfl) fun qk => go_ _ ?_
  refine so_litL (c := Us.cells) (e := 48) (fun s : Us => .agg s.cells.toArray) usW (fun _ => rfl) Us.len rfl rfl (by repeat (first | exact Parts.nil | ((with_reducible apply Parts.cons); rfl))) (by rfl) rfl (by kernel_rfl) rfl rfl (Nat.le_of_ble_eq_true rfl) fun qu => go_ _ ?_
  refine so_litL (c := hC) (e := 2) (fun n : Int => .int .i64 n) [10, 40] (fun _ => rfl) (fun _ => rfl) rfl rfl (by repeat (first | exact Parts.nil | ((with_reducible apply Parts.cons); rfl))) (by rfl) rfl (by kernel_rfl) rfl rfl (Nat.le_of_ble_eq_true rfl) fun qh => go_ _ ?_
  refine so_litL (c := kC) (e := 3) (fun n : Nat => .int .i64 (n : Nat)) [0, 1] (fun _ => rfl) (fun _ => rfl) rfl rfl (by repeat (first | exact Parts.nil | ((with_reducible apply Parts.cons); rfl))) (by rfl) rfl (by kernel_rfl) rfl rfl (Nat.le_of_ble_eq_true rfl) fun qi => go_ _ ?_
  refine so_litL (c := RS.cells) (e := 50) (fun r : RS => .slice r.A r.l.length r.c) [⟨some ⟨qi, 0, none⟩, [0, 1], 2⟩] (fun _ => rfl) (fun _ => rfl) rfl rfl (by repeat (first | exact Parts.nil | ((with_reducible apply Parts.cons); rfl))) (by rfl) rfl (by kernel_rfl) rfl rfl (Nat.le_of_ble_eq_true rfl) fun qr => go_ _ ?_
  have hcall : ∀ (j i : Int) w1, Mem w.heap.size w [own (some ⟨qr, 0, none⟩) 1 1 50 1 ([⟨some ⟨qi, 0, none⟩, [0, 1], 2⟩].flatMap RS.cells), own (some ⟨qi, 0, none⟩) 2 2 3 1 ([0, 1].flatMap kC), own (some ⟨qh, 0, none⟩) 2 2 2 1 ([10, 40].flatMap hC), own (some ⟨qu, 0, none⟩) 2 2 48 3 (usW.flatMap Us.cells), own (some ⟨qk, 0, none⟩) 2 2 28 43 ([blockS, blockS].flatMap Sty.cells)] w1 → _ :=
    fun j i w1 h1 => crplace_any (flexS j i) 100 [blockS, blockS] usW [10, 40] [⟨some ⟨qi, 0, none⟩, [0, 1], 2⟩] (some ⟨qk, 0, none⟩) (some ⟨qu, 0, none⟩) (some ⟨qh, 0, none⟩) (some ⟨qr, 0, none⟩) 2 2 2 1 w1 (h1.rdOwn (.there (.there (.there (.there .here)))) (by decide) Sty.len) (h1.rdOwn (.there (.there (.there .here))) (by decide) Us.len) (h1.rdOwn (.there (.there .here)) (by decide) (fun _ => rfl)) (h1.rdOwn .here (by decide) (fun _ => rfl))
      (fun r hr => by rw [List.mem_singleton.1 hr]; exact h1.rdOwn (.there .here) (by decide) (fun _ => rfl)) (worksP j i)
  refine so_callN (v := _) (hc := fun w1 h1 => hcall 1 0 w1 (h1.sub (by repeat (first | exact SubH.refl | exact SubH.nil | ((with_reducible apply SubH.cons); (focus ((repeat (first | (with_reducible exact Pick.here) | (with_reducible apply Pick.there))); done))) | ((with_reducible apply SubH.consR); (focus ((repeat (first | (with_reducible exact Pick.here) | (with_reducible apply Pick.there))); done)); (first | rfl | simp; done)) | ((with_reducible apply SubH.consO); (focus ((repeat (first | (with_reducible exact Pick.here) | (with_reducible apply Pick.there))); done)); (first | rfl | simp; done); (first | rfl | simp; done)) | exact SubH.drop SubH.refl | apply SubH.drop)))) rfl rfl rfl (tF rfl) (Nat.le_of_ble_eq_true rfl) ?_
  rintro ⟨⟨A1, c1⟩, B1, d1⟩ _
  refine go_ _ ?_
  refine so_callN (hc := fun w1 h1 => hcall 3 3 w1 (h1.sub (by repeat (first | exact SubH.refl | exact SubH.nil | ((with_reducible apply SubH.cons); (focus ((repeat (first | (with_reducible exact Pick.here) | (with_reducible apply Pick.there))); done))) | ((with_reducible apply SubH.consR); (focus ((repeat (first | (with_reducible exact Pick.here) | (with_reducible apply Pick.there))); done)); (first | rfl | simp; done)) | ((with_reducible apply SubH.consO); (focus ((repeat (first | (with_reducible exact Pick.here) | (with_reducible apply Pick.there))); done)); (first | rfl | simp; done); (first | rfl | simp; done)) | exact SubH.drop SubH.refl | apply SubH.drop)))) rfl rfl rfl (tF rfl) (Nat.le_of_ble_eq_true rfl) ?_
  rintro ⟨⟨A2, c2⟩, B2, d2⟩ _
  refine go_ _ ?_
  refine so_callN (hc := fun w1 h1 => hcall 0 2 w1 (h1.sub (by repeat (first | exact SubH.refl | exact SubH.nil | ((with_reducible apply SubH.cons); (focus ((repeat (first | (with_reducible exact Pick.here) | (with_reducible apply Pick.there))); done))) | ((with_reducible apply SubH.consR); (focus ((repeat (first | (with_reducible exact Pick.here) | (with_reducible apply Pick.there))); done)); (first | rfl | simp; done)) | ((with_reducible apply SubH.consO); (focus ((repeat (first | (with_reducible exact Pick.here) | (with_reducible apply Pick.there))); done)); (first | rfl | simp; done); (first | rfl | simp; done)) | exact SubH.drop SubH.refl | apply SubH.drop)))) rfl rfl rfl (tF rfl) (Nat.le_of_ble_eq_true rfl) ?_
  rintro ⟨⟨A3, c3⟩, B3, d3⟩ _
  have e1 : ((placeM (flexS 1 0) 100 (itemsM 100 [blockS, blockS] usW [10, 40]) ([⟨some ⟨qi, 0, none⟩, [0, 1], 2⟩].map RS.l)).1.map cutF).flatMap Fg.cells = [⟨50, 0, 20, 10⟩, ⟨70, 0, 30, 40⟩].flatMap Fg.cells := by rw [List.map_singleton, crwa]; kernel_rfl
  have e2 : ((placeM (flexS 3 3) 100 (itemsM 100 [blockS, blockS] usW [10, 40]) ([⟨some ⟨qi, 0, none⟩, [0, 1], 2⟩].map RS.l)).1.map cutF).flatMap Fg.cells = [⟨0, 0, 20, 40⟩, ⟨70, 0, 30, 40⟩].flatMap Fg.cells := by rw [List.map_singleton, crwb]; kernel_rfl
  have e3 : ((placeM (flexS 0 2) 100 (itemsM 100 [blockS, blockS] usW [10, 40]) ([⟨some ⟨qi, 0, none⟩, [0, 1], 2⟩].map RS.l)).1.map cutF).flatMap Fg.cells = [⟨0, 15, 20, 10⟩, ⟨20, 0, 30, 40⟩].flatMap Fg.cells := by rw [List.map_singleton, crwc]; kernel_rfl
  have h1 : cutM (placeM (flexS 1 0) 100 (itemsM 100 [blockS, blockS] usW [10, 40]) ([⟨some ⟨qi, 0, none⟩, [0, 1], 2⟩].map RS.l)).2 = 40 := by rw [List.map_singleton, crwa]; kernel_rfl
  rw [e1, e2, e3, h1]
  dsimp only
  refine so_ownSome .here (by decide) fun g3 e3 => ?_
  subst e3
  refine so_ownSome (.there (.there .here)) (by decide) fun g2 e2 => ?_
  subst e2
  refine so_ownSome (.there (.there (.there (.there .here)))) (by decide) fun g1 e1 => ?_
  subst e1
  clear hcall
  refine go_ _ ?_
  simp only [List.append_eq, List.cons_append, List.nil_append, List.length_cons, List.length_nil, Nat.zero_add, Nat.reduceAdd]
  refine go_ _ ?_
  exact sret1 rfl rfl rfl
end Go.Proofs.Ytdoihebekbfnbaa
