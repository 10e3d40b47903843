/- The walks of package cross: cut, Place. -/
import Derived.Test.YtdoihebekbfnbaaCroP
import Derived.Test.YtdoihebekbfnbaaMor
namespace Go.Proofs.Ytdoihebekbfnbaa
open Go.RowKit

set_option maxRecDepth 100000 in
set_option maxHeartbeats 4000000 in
theorem crcut_any (l : List Fg) (k g n co : Nat) (f : Fg) (B : Nat) (w0 w : World) (T : Hp) (hw : Mem B w0 (own (some ⟨g, 0, none⟩) n co 46 5 (l.flatMap Fg.cells) :: T) w) (hk : l[k]? = some f) :
    Calls Try.prog 23 #[.pointer (some ⟨g, 0 + k * 5, none⟩)] w fun e w' => ∃ _ : Unit, True ∧ e = .returned (.bool (beyF f)) ∧ Mem B w0 (own (some ⟨g, 0, none⟩) n co 46 5 ((l.set k (cutF f)).flatMap Fg.cells) :: T) w' := by
  refine (s_calls [(0, .pointer (some ⟨g, 0 + k * 5, none⟩))] (Q := fun v H' => v = .bool (beyF f) ∧ SubH H' (own (some ⟨g, 0, none⟩) n co 46 5 ((l.set k (cutF f)).flatMap Fg.cells) :: T))
    Try.func23 rfl Try.ntmps23 rfl (by simp) hw ?_).mono fun e w' ⟨v, H', h1, h2, h3, h4⟩ => ⟨(), trivial, h3 ▸ h1, h2.sub h4⟩
  clear hw
  have hkl := (List.getElem?_eq_some_iff.1 hk).1
  have hin : ∀ (f' : Fg), (l.set k f')[k]? = some f' := fun f' => by rw [List.getElem?_set_self hkl]
  have hll : ∀ (f' : Fg) (j : Nat), j < 5 → 0 + k * 5 + j < ((l.set k f').flatMap Fg.cells).length := fun f' j hj => by rw [flat_len Fg.len, List.length_set]; omega
  have hss : ∀ (a b : Fg), (l.set k a).set k b = l.set k b := fun a b => by rw [List.set_set]
  have h0 : l.set k f = l := by obtain ⟨_, rfl⟩ := List.getElem?_eq_some_iff.1 hk; exact List.set_getElem_self _
  rw [← h0]
  rw [hss]
  have hrw : ∀ f' : Fg, Rw B w0 (own (some ⟨g, 0, none⟩) n co 46 5 ((l.set k f').flatMap Fg.cells) :: T) g (0 + k * 5) f'.cells := fun f' => own_get (by decide) Fg.len (hin f')
  have hsv : ∀ (j : Nat) (a b : Fg) (v : Value), j < 5 → a.cells.set j v = b.cells → ((l.set k a).flatMap Fg.cells).set (0 + k * 5 + j) v = (l.set k b).flatMap Fg.cells := fun j a b v hj h => by rw [flat_set1 Fg.len (hin a) hj h, hss]
  clear hk hin hss h0
  obtain ⟨x, y, ww, hh⟩ := f
  unfold cutF beyF
  dsimp only
  refine go_ _ ?_
  refine s_parts (by kernel_rfl) ?_
  refine sg_free 14 (by kernel_rfl) (go_ _ ?_)
  have r0 := hrw ⟨x, y, ww, hh⟩
  refine s_rounds 5 ?_
  refine sl_round (go_ _ ?_)
  refine so_pure rfl (by (first | (with_reducible rfl) | assumption | exact decide_eq_true (by omega) | (simp only [Bool.not_eq_true', Bool.not_eq_false', decide_eq_false_iff_not, decide_eq_true_eq] <;> first | assumption | omega) | decide)) rfl (Nat.le_of_ble_eq_true rfl) (ps_indexA rfl rfl (tU rfl) (tS rfl) (tA rfl) rfl (by decide) rfl) (go_ _ ?_)
  refine so_callQ (fun w1 _ => aucut_any x w1) rfl rfl rfl (tF rfl) (Nat.le_of_ble_eq_true rfl) (go_ _ ?_)
  refine so_storeOE (xs' := (l.set k ⟨cutM x, y, ww, hh⟩).flatMap Fg.cells) rfl rfl rfl rfl rfl (tS rfl) (hsv 0 ⟨x, y, ww, hh⟩ ⟨cutM x, y, ww, hh⟩ _ (by decide) rfl) (hll _ 0 (by decide)) (by (focus ((repeat (first | (with_reducible exact Upd.here) | (with_reducible apply Upd.there))); done))) ?_
  have r1 := hrw ⟨cutM x, y, ww, hh⟩
  clear r0
  refine go_ _ ?_
  refine sl_round (go_ _ ?_)
  refine so_pure rfl (by (first | (with_reducible rfl) | assumption | exact decide_eq_true (by omega) | (simp only [Bool.not_eq_true', Bool.not_eq_false', decide_eq_false_iff_not, decide_eq_true_eq] <;> first | assumption | omega) | decide)) rfl (Nat.le_of_ble_eq_true rfl) (ps_indexA rfl rfl (tU rfl) (tS rfl) (tA rfl) rfl (by decide) rfl) (go_ _ ?_)
  refine so_callQ (fun w1 _ => aucut_any y w1) rfl rfl rfl (tF rfl) (Nat.le_of_ble_eq_true rfl) (go_ _ ?_)
  refine so_or rfl rfl rfl (Nat.le_of_ble_eq_true rfl) (Nat.le_of_ble_eq_true rfl) (fun _ => rfl) (go_ _ ?_)
  refine so_storeOE (xs' := (l.set k ⟨cutM x, cutM y, ww, hh⟩).flatMap Fg.cells) rfl rfl rfl rfl rfl (tS rfl) (hsv 1 ⟨cutM x, y, ww, hh⟩ ⟨cutM x, cutM y, ww, hh⟩ _ (by decide) rfl) (hll _ 1 (by decide)) (by (focus ((repeat (first | (with_reducible exact Upd.here) | (with_reducible apply Upd.there))); done))) ?_
  have r2 := hrw ⟨cutM x, cutM y, ww, hh⟩
  clear r1
  refine go_ _ ?_
  refine sl_round (go_ _ ?_)
  refine so_pure rfl (by (first | (with_reducible rfl) | assumption | exact decide_eq_true (by omega) | (simp only [Bool.not_eq_true', Bool.not_eq_false', decide_eq_false_iff_not, decide_eq_true_eq] <;> first | assumption | omega) | decide)) rfl (Nat.le_of_ble_eq_true rfl) (ps_indexA rfl rfl (tU rfl) (tS rfl) (tA rfl) rfl (by decide) rfl) (go_ _ ?_)
  refine so_callQ (fun w1 _ => aucut_any ww w1) rfl rfl rfl (tF rfl) (Nat.le_of_ble_eq_true rfl) (go_ _ ?_)
  refine so_or rfl rfl rfl (Nat.le_of_ble_eq_true rfl) (Nat.le_of_ble_eq_true rfl) (fun _ => rfl) (go_ _ ?_)
  refine so_storeOE (xs' := (l.set k ⟨cutM x, cutM y, cutM ww, hh⟩).flatMap Fg.cells) rfl rfl rfl rfl rfl (tS rfl) (hsv 2 ⟨cutM x, cutM y, ww, hh⟩ ⟨cutM x, cutM y, cutM ww, hh⟩ _ (by decide) rfl) (hll _ 2 (by decide)) (by (focus ((repeat (first | (with_reducible exact Upd.here) | (with_reducible apply Upd.there))); done))) ?_
  have r3 := hrw ⟨cutM x, cutM y, cutM ww, hh⟩
  clear r2
  refine go_ _ ?_
  refine sl_round (go_ _ ?_)
  refine so_pure rfl (by (first | (with_reducible rfl) | assumption | exact decide_eq_true (by omega) | (simp only [Bool.not_eq_true', Bool.not_eq_false', decide_eq_false_iff_not, decide_eq_true_eq] <;> first | assumption | omega) | decide)) rfl (Nat.le_of_ble_eq_true rfl) (ps_indexA rfl rfl (tU rfl) (tS rfl) (tA rfl) rfl (by decide) rfl) (go_ _ ?_)
  refine so_callQ (fun w1 _ => aucut_any hh w1) rfl rfl rfl (tF rfl) (Nat.le_of_ble_eq_true rfl) (go_ _ ?_)
  refine so_or rfl rfl rfl (Nat.le_of_ble_eq_true rfl) (Nat.le_of_ble_eq_true rfl) (fun _ => rfl) (go_ _ ?_)
  refine so_storeOE (xs' := (l.set k ⟨cutM x, cutM y, cutM ww, cutM hh⟩).flatMap Fg.cells) rfl rfl rfl rfl rfl (tS rfl) (hsv 3 ⟨cutM x, cutM y, cutM ww, hh⟩ ⟨cutM x, cutM y, cutM ww, cutM hh⟩ _ (by decide) rfl) (hll _ 3 (by decide)) (by (focus ((repeat (first | (with_reducible exact Upd.here) | (with_reducible apply Upd.there))); done))) ?_
  have r4 := hrw ⟨cutM x, cutM y, cutM ww, cutM hh⟩
  clear r3
  refine go_ _ ?_
  refine sl_round (go_ _ ?_)
  exact sret1 rfl rfl ⟨by simp [Bool.or_assoc], (by repeat (first | exact SubH.refl | exact SubH.nil | ((with_reducible apply SubH.cons); (focus ((repeat (first | (with_reducible exact Pick.here) | (with_reducible apply Pick.there))); done))) | ((with_reducible apply SubH.consR); (focus ((repeat (first | (with_reducible exact Pick.here) | (with_reducible apply Pick.there))); done)); (first | rfl | simp; done)) | ((with_reducible apply SubH.consO); (focus ((repeat (first | (with_reducible exact Pick.here) | (with_reducible apply Pick.there))); done)); (first | rfl | simp; done); (first | rfl | simp; done)) | exact SubH.drop SubH.refl | apply SubH.drop))⟩
end Go.Proofs.Ytdoihebekbfnbaa
