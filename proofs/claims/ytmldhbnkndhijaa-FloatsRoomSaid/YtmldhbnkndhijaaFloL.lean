/- The laws' own small functions: works, meet. -/
import Derived.Test.YtmldhbnkndhijaaFloP
namespace Go.Proofs.Ytmldhbnkndhijaa
open Go.RowKit

theorem flSl_blk {W : World} {g : Nat} {t : TypeId} {l : List Fl} {cs : Array Value} (h : Blk W g t cs) (hcs : cs = (l.flatMap Fl.cells).toArray) : FlSl W (g + 1) (some ⟨g, 0, none⟩) l := by
  intro k hk
  refine ⟨g, 0, rfl, by omega, ?_⟩
  have hj : ∀ j, j < 5 → W.cell? ⟨g, 0 + k * 5 + j, none⟩ = (l[k].cells)[j]? := fun j hj => by
    rw [h.cell, hcs, List.getElem?_toArray, Nat.zero_add, flatMap_at Fl.cells 5 (fun _ => rfl) l k j hk hj]
  exact ⟨hj 0 (by omega), hj 1 (by omega), hj 2 (by omega), hj 3 (by omega), hj 4 (by omega)⟩

theorem flSl_new (w : World) (t : TypeId) (l : List Fl) (cs : Array Value) (g : Nat) (hg : g = w.heap.size) (hcs : cs = (l.flatMap Fl.cells).toArray) : FlSl (w.alloc (.cells cs t)) (g + 1) (some ⟨g, 0, none⟩) l := by
  subst hg; exact flSl_blk (Blk.new w t cs) hcs

theorem place_w1 : placeM [] 1 40 30 0 100 0 = ⟨1, 0, 0, 40, 30⟩ := by
  unfold placeM; rw [placeGo, if_neg (by decide +kernel)]; decide +kernel
theorem place_w2 : placeM [⟨1, 0, 0, 40, 30⟩] 2 50 10 0 100 0 = ⟨2, 50, 0, 50, 10⟩ := by
  unfold placeM; rw [placeGo, if_neg (by decide +kernel)]; decide +kernel
theorem place_w3 : placeM [⟨1, 0, 0, 40, 30⟩, ⟨2, 50, 0, 50, 10⟩] 1 20 5 0 100 0 = ⟨1, 40, 10, 20, 5⟩ := by
  unfold placeM; rw [placeGo, if_pos (by decide +kernel), dif_pos (by decide +kernel), placeGo, if_neg (by decide +kernel)]; decide +kernel
theorem clear_w : clearM [⟨1, 0, 0, 40, 30⟩, ⟨2, 50, 0, 50, 10⟩, ⟨1, 40, 10, 20, 5⟩] 2 3 = 10 := by decide +kernel

set_option maxHeartbeats 1000000 in
theorem works_any (w : World) :
    Calls Try.prog 7 #[] w fun e w' => e = .returned (.bool true) ∧ Below w.heap.size w w' := by
  go_enter Try.func7, Try.ntmps7
  go_wp2_with fail
  refine (place_any none [] 0 1 40 30 0 100 0 _ _ (Nat.le_refl _) (by simp) SlAt.nil).mono ?_
  rw [place_w1]; unfold Fl.val; dsimp only
  rintro e w1 ⟨rfl, hb1⟩
  go_wp2_with fail
  refine (place_any (some ⟨w1.heap.size + 1, 0, none⟩) [⟨1, 0, 0, 40, 30⟩] 1 2 50 10 0 100 0 _ (w1.heap.size + 1 + 1) (by simp) (by decide) (flSl_new _ _ _ _ _ (by simp) rfl)).mono ?_
  rw [place_w2]; unfold Fl.val; dsimp only
  rintro e w2 ⟨rfl, hb2⟩
  have kA := ((Blk.new w1 29 _).alloc _).below hb2 (by simp; omega)
  have hz2 : w1.heap.size < w2.heap.size := by have := hb2.size; simp at this; omega
  have a0 := kA.cell 0; have a1 := kA.cell 1; have a2 := kA.cell 2; have a3 := kA.cell 3; have a4 := kA.cell 4
  simp only [List.getElem?_toArray, List.getElem?_cons_zero, List.getElem?_cons_succ] at a0 a1 a2 a3 a4
  have HA := Lib.hid kA; have Hb2 := Lib.hid hb2; clear kA hb2
  go_wp2_with fail
  refine (place_any (some ⟨w2.heap.size + 1, 0, none⟩) [⟨1, 0, 0, 40, 30⟩, ⟨2, 50, 0, 50, 10⟩] 2 1 20 5 0 100 0 _ (w2.heap.size + 1 + 1) (by simp) (by decide) (flSl_new _ _ _ _ _ (by simp) rfl)).mono ?_
  rw [place_w3]; unfold Fl.val; dsimp only
  rintro e w3 ⟨rfl, hb3⟩
  have kA := ((HA.out.alloc _).alloc _).below hb3 (by simp; omega)
  have kB := ((Blk.new w2 29 _).alloc _).below hb3 (by simp; omega)
  have hz3 : w2.heap.size < w3.heap.size := by have := hb3.size; simp at this; omega
  have hz13 : w1.heap.size < w3.heap.size := by omega
  have a0 := kA.cell 0; have a1 := kA.cell 1; have a2 := kA.cell 2; have a3 := kA.cell 3; have a4 := kA.cell 4
  simp only [List.getElem?_toArray, List.getElem?_cons_zero, List.getElem?_cons_succ] at a0 a1 a2 a3 a4
  have b0 := kB.cell 0; have b1 := kB.cell 1; have b2 := kB.cell 2; have b3 := kB.cell 3; have b4 := kB.cell 4
  simp only [List.getElem?_toArray, List.getElem?_cons_zero, List.getElem?_cons_succ] at b0 b1 b2 b3 b4
  have HA := Lib.hid kA; have HB := Lib.hid kB; have Hb3 := Lib.hid hb3; clear kA kB hb3
  go_wp2_with fail
  refine (clear_any (some ⟨w3.heap.size + 1, 0, none⟩) [⟨1, 0, 0, 40, 30⟩, ⟨2, 50, 0, 50, 10⟩, ⟨1, 40, 10, 20, 5⟩] 3 2 3 _ (w3.heap.size + 1 + 1) (by simp) (by decide) (flSl_new _ _ _ _ _ (by simp) rfl)).mono ?_
  rw [clear_w]
  rintro e w4 ⟨rfl, hb4⟩
  go_wp2_with fail
  go_ret
  refine ⟨rfl, ?_⟩
  have b2 := Hb2.out; have b3 := Hb3.out
  have h1 := hb1.size
  refine (((hb1.alloc hb1.size _).alloc (by simp; omega) _).trans (b2.mono (by simp; omega))).trans ?_
  refine ((((Below.refl w2.heap.size w2).alloc (Nat.le_refl _) _).alloc (by simp) _).mono (by omega)).trans ((b3.mono (by simp; omega)).trans ?_)
  exact ((((Below.refl w3.heap.size w3).alloc (Nat.le_refl _) _).alloc (by simp) _).mono (by omega)).trans (hb4.mono (by simp; omega))

def meetM (a b : Fl) : Bool := decide (a.x < wrap64 (b.x + b.w)) && decide (b.x < wrap64 (a.x + a.w)) && decide (a.y < wrap64 (b.y + b.h)) && decide (b.y < wrap64 (a.y + a.h))

set_option maxHeartbeats 1000000 in
theorem meet_any (a b : Fl) (w : World) :
    Calls Try.prog 9 #[a.val, b.val] w fun e w' => e = .returned (.bool (meetM a b)) ∧ Below w.heap.size w w' := by
  unfold Fl.val
  go_enter Try.func9, Try.ntmps9
  go_wp2_with fail
  all_goals
    go_ret
    refine ⟨?_, (Below.refl _ _).alloc (Nat.le_refl _) _ |>.alloc (by simp) _⟩
    simp [meetM, *] <;> omega

end Go.Proofs.Ytmldhbnkndhijaa
