/- The law FloatsPlays, walked. -/
import Derived.Test.YtmldhbnkndhijaaFloQ
import Derived.Test.YtmldhbnkndhijaaFloL
namespace Go.Proofs.Ytmldhbnkndhijaa
open Go.RowKit

theorem flSl_rd {w : World} {A : Option Addr} {l : List Fl} (h : Rd w Fl.cells 5 A l) : FlSl w w.heap.size A l := fun k hk => by
  obtain ⟨b, o, hA, hlt, hr⟩ := h k hk
  exact ⟨b, o, hA, hlt, ⟨hr 0 _ rfl, hr 1 _ rfl, hr 2 _ rfl, hr 3 _ rfl, hr 4 _ rfl⟩⟩

structure Ask where
  side : Int
  y : Int
  w : Int
  h : Int
  a : Int
  b : Int
def Ask.cells (x : Ask) : List Value := [.int .u8 x.side, .int .i64 x.y, .int .i64 x.w, .int .i64 x.h, .int .i64 x.a, .int .i64 x.b]

theorem flEq (f : Fl) : eqCells f.cells f.cells = true := by simp [eqCells, eqv, Fl.cells]

set_option maxRecDepth 100000 in
set_option maxHeartbeats 2000000 in
theorem plays_any (A : Option Addr) (l : List Fl) (cap : Nat) (x : Ask) (w : World) (hlen : l.length ≤ maxLen) (hnil : A = none → cap = 0) (hA : Rd w Fl.cells 5 A l) :
    Calls Try.prog 5 #[.slice A l.length cap, .agg x.cells.toArray] w fun e w' => e = .returned (.bool true) ∧ Below w.heap.size w w' := by
  refine s_quiet [(0, .slice A l.length cap), (1, .agg x.cells.toArray)] Try.func5 rfl Try.ntmps5 rfl (by simp) ?_
  have HA : ∀ H, RdH w.heap.size w H Fl.cells 5 A l := fun _ => hA.base rfl
  obtain ⟨side, y, xw, xh, xa, xb⟩ := x
  unfold Ask.cells
  dsimp only
  refine go_ _ ?_
  (first | ((with_reducible apply so_new); rfl; (first | (with_reducible rfl) | assumption | exact decide_eq_true (by omega) | (simp only [Bool.not_eq_true', Bool.not_eq_false', decide_eq_false_iff_not, decide_eq_true_eq] <;> first | assumption | omega)); exact tZ rfl; decide; (intro; rfl); (first | (with_reducible rfl) | assumption | exact decide_eq_true (by omega) | (simp only [Bool.not_eq_true', Bool.not_eq_false', decide_eq_false_iff_not, decide_eq_true_eq] <;> first | assumption | omega)); (intro; rfl); rfl; exact tS rfl; rfl; rfl) | ((with_reducible apply so_alloc); rfl; (first | (with_reducible rfl) | assumption | exact decide_eq_true (by omega) | (simp only [Bool.not_eq_true', Bool.not_eq_false', decide_eq_false_iff_not, decide_eq_true_eq] <;> first | assumption | omega)); exact tZ rfl; (focus ((repeat (first | exact CopyL.nil | (apply CopyL.consI; rfl) | (apply CopyL.consB; rfl) | (apply CopyL.consS; rfl) | (apply CopyL.consP; rfl) | apply CopyL.cons)); done)); decide) | ((with_reducible apply so_box); rfl; (first | (with_reducible rfl) | assumption | exact decide_eq_true (by omega) | (simp only [Bool.not_eq_true', Bool.not_eq_false', decide_eq_false_iff_not, decide_eq_true_eq] <;> first | assumption | omega)); rfl; (focus ((repeat (first | exact CopyL.nil | (apply CopyL.consI; rfl) | (apply CopyL.consB; rfl) | (apply CopyL.consS; rfl) | (apply CopyL.consP; rfl) | apply CopyL.cons)); done)); decide))
  intro q
  refine go_ _ ?_
  refine so_callQ (fun w1 h1 => may_any A l cap w1 hlen (HA _ w1 h1)) rfl rfl rfl (tF rfl) (by decide) ?_
  cases hmay : mayM l
  · skip
    refine go_ _ ?_
    refine so_callQ (fun w1 _ => works_any w1) rfl rfl rfl (tF rfl) (by decide) ?_
    refine go_ _ ?_
    exact sret1 rfl rfl rfl
  have hl : l.length ≤ 200 := by
    unfold mayM at hmay
    simp only [Bool.and_eq_true, decide_eq_true_eq] at hmay
    exact hmay.1
  have hl2 : l.length ≤ 65536 := by omega
  refine go_ _ ?_
  refine so_lit (vs := [.int .i64 y, .int .i64 xw, .int .i64 xh, .int .i64 xa, .int .i64 xb]) (sz := 1) (e := 2) rfl (by (first | (with_reducible rfl) | assumption | exact decide_eq_true (by omega) | (simp only [Bool.not_eq_true', Bool.not_eq_false', decide_eq_false_iff_not, decide_eq_true_eq] <;> first | assumption | omega))) (by repeat (first | exact Parts.nil | ((with_reducible apply Parts.cons); rfl))) (by rfl) (by rfl) (by kernel_rfl) (by simp [Value.cells]) (xs := [.int .i64 y, .int .i64 xw, .int .i64 xh, .int .i64 xa, .int .i64 xb]) (by repeat (first | exact CopyL.nil | apply CopyL.cons)) (by simp) (by simp) (by decide) fun q2 => ?_
  refine go_ _ ?_
  refine so_callQ (fun w1 h1 => in_any (some ⟨q2, 0, none⟩) [y, xw, xh, xa, xb] 5 w1 (by simp) (own_rd (c := int64c) (l := [y, xw, xh, xa, xb]) (by decide) (fun _ => rfl) w1 h1)) rfl rfl rfl (tF rfl) (by decide) ?_
  generalize [y, xw, xh, xa, xb].all inF = bin
  cases bin
  · skip
    refine go_ _ ?_
    refine so_callQ (fun w1 _ => works_any w1) rfl rfl rfl (tF rfl) (by decide) ?_
    refine go_ _ ?_
    exact sret1 rfl rfl rfl
  refine go_ _ ?_
  refine so_lit0 (e := 29) (sz := 5) rfl rfl (tU rfl) (tS rfl) (by decide) fun q3 => ?_
  refine go_ _ ?_
  refine so_appendN (c := Fl.cells) (l := l) (e := 29) (sz := 5) (xs := []) rfl rfl rfl rfl (Nat.zero_add _) (by rfl) (by kernel_rfl) (by decide) (fun A' cap' => (by (focus ((repeat (first | (with_reducible exact Upd.here) | (with_reducible apply Upd.there))); done)))) (HA _) hnil (fun _ => rfl) (fun _ => rfl) (by omega) ?_
  intro A' cap'
  have HB : ∀ T w1, Mem w.heap.size w (own A' l.length cap' 29 5 (l.flatMap Fl.cells) :: T) w1 → Rd w1 Fl.cells 5 A' l := fun T w1 h1 => own_rd (c := Fl.cells) (by decide) (fun _ => rfl) w1 h1
  refine go_ _ ?_
  refine so_callQ (fun w1 h1 => band_any A' l cap' xa xb y w1 w1.heap.size (Nat.le_refl _) (by unfold maxLen; omega) (flSl_rd (HB _ w1 h1))) rfl rfl rfl (tF rfl) (by decide) ?_
  refine go_ _ ?_
  refine so_callQ (fun w1 h1 => rband_any A l cap y xa xb w1 hl2 (HA _ w1 h1)) rfl rfl rfl (tF rfl) (by decide) ?_
  refine go_ _ ?_
  refine so_callQ (fun w1 h1 => tall_any A' l cap' xa xb y xh w1 w1.heap.size (Nat.le_refl _) (by unfold maxLen; omega) (flSl_rd (HB _ w1 h1))) rfl rfl rfl (tF rfl) (by decide) ?_
  refine go_ _ ?_
  refine so_callQ (fun w1 h1 => rtall_any A l cap y xh xa xb w1 hl2 (HA _ w1 h1)) rfl rfl rfl (tF rfl) (by decide) ?_
  refine go_ _ ?_
  refine so_callQ (fun w1 h1 => next_any A' l cap' y w1 w1.heap.size (Nat.le_refl _) (by unfold maxLen; omega) (flSl_rd (HB _ w1 h1))) rfl rfl rfl (tF rfl) (by decide) ?_
  refine go_ _ ?_
  refine so_callQ (fun w1 h1 => rnext_any A l cap y w1 hl2 (HA _ w1 h1)) rfl rfl rfl (tF rfl) (by decide) ?_
  refine go_ _ ?_
  refine s_parts (by kernel_rfl) ?_
  refine sg_free 44 (by kernel_rfl) (go_ _ ?_)
  refine sd_callQ (fun w1 h1 => place_any A' l cap' side xw xh xa xb y w1 w1.heap.size (Nat.le_refl _) (by unfold maxLen; omega) (flSl_rd (HB _ w1 h1))) rfl rfl rfl (tF rfl) (by decide) ?_
  refine go_ _ ?_
  refine sd_callQ (fun w1 h1 => rplace_any A l cap side xw xh xa xb y w1 hl2 (HA _ w1 h1)) rfl rfl rfl (tF rfl) (by decide) ?_
  have he := flEq (placeM l side xw xh xa xb y)
  unfold Fl.cells at he
  refine go_ _ ?_
  refine sd_callQ (fun w1 h1 => clear_any A' l cap' side y w1 w1.heap.size (Nat.le_refl _) (by unfold maxLen; omega) (flSl_rd (HB _ w1 h1))) rfl (by (first | (with_reducible rfl) | assumption | exact decide_eq_true (by omega) | (simp only [Bool.not_eq_true', Bool.not_eq_false', decide_eq_false_iff_not, decide_eq_true_eq] <;> first | assumption | omega))) rfl (tF rfl) (by decide) ?_
  refine go_ _ ?_
  refine sd_callQ (fun w1 h1 => rclear_any A l cap side y w1 hl2 (HA _ w1 h1)) rfl (by (first | (with_reducible rfl) | assumption | exact decide_eq_true (by omega) | (simp only [Bool.not_eq_true', Bool.not_eq_false', decide_eq_false_iff_not, decide_eq_true_eq] <;> first | assumption | omega))) rfl (tF rfl) (by decide) ?_
  refine go_ _ ?_
  refine s_loop (ι := Nat) (fun k => [(18, .int .i64 (k : Nat)), (0, .slice A l.length cap), (5, .slice A' l.length cap')]) (fun _ => [own A' l.length cap' 29 5 (l.flatMap Fl.cells)]) (fun k => k ≤ l.length) (fun k => l.length - k) 0 (by repeat (first | exact Sub.nil | refine Sub.cons rfl ?_ | (refine Sub.consB rfl (by (first | rfl | exact decide_eq_decide.2 (by omega) | exact (decide_eq_true (by omega)).symm | exact (decide_eq_false (by omega)).symm | exact decide_eq_true (by omega) | exact decide_eq_false (by omega))) ?_))) (by repeat (first | exact SubH.refl | exact SubH.nil | ((with_reducible apply SubH.cons); (focus ((repeat (first | (with_reducible exact Pick.here) | (with_reducible apply Pick.there))); done))) | ((with_reducible apply SubH.consR); (focus ((repeat (first | (with_reducible exact Pick.here) | (with_reducible apply Pick.there))); done)); (first | rfl | simp; done)) | ((with_reducible apply SubH.consO); (focus ((repeat (first | (with_reducible exact Pick.here) | (with_reducible apply Pick.there))); done)); (first | rfl | simp; done); (first | rfl | simp; done)) | exact SubH.drop SubH.refl | apply SubH.drop)) (Nat.zero_le _) ?_
  intro k hk
  by_cases hlt : k < l.length
  · have hi : (k : Int) < (l.length : Int) := by omega
    refine s_ownSome .here (by omega) ?_
    rintro q4 rfl
    obtain ⟨b1, o1, rfl, hr⟩ := hA.at k hlt
    have hr2 := own_at (B := w.heap.size) (w0 := w) (H := []) (g := q4) (n := l.length) (cap := cap') (t := 29) (c := Fl.cells) (sz := 5) (by decide) (fun _ => rfl) k hlt
    have he := flEq l[k]
    refine go_ _ ?_
    refine s_parts (by kernel_rfl) ?_
    refine sg_free 9 (by kernel_rfl) (go_ _ ?_)
    exact ⟨k + 1, by omega, (by repeat (first | exact Sub.nil | refine Sub.cons rfl ?_ | (refine Sub.consB rfl (by (first | rfl | exact decide_eq_decide.2 (by omega) | exact (decide_eq_true (by omega)).symm | exact (decide_eq_false (by omega)).symm | exact decide_eq_true (by omega) | exact decide_eq_false (by omega))) ?_))), (by repeat (first | exact SubH.refl | exact SubH.nil | ((with_reducible apply SubH.cons); (focus ((repeat (first | (with_reducible exact Pick.here) | (with_reducible apply Pick.there))); done))) | ((with_reducible apply SubH.consR); (focus ((repeat (first | (with_reducible exact Pick.here) | (with_reducible apply Pick.there))); done)); (first | rfl | simp; done)) | ((with_reducible apply SubH.consO); (focus ((repeat (first | (with_reducible exact Pick.here) | (with_reducible apply Pick.there))); done)); (first | rfl | simp; done); (first | rfl | simp; done)) | exact SubH.drop SubH.refl | apply SubH.drop)), by omega⟩
  · have hi : ¬ (k : Int) < (l.length : Int) := by omega
    refine go_ _ ?_
    refine so_callQ (fun w1 _ => works_any w1) rfl rfl rfl (tF rfl) (by decide) ?_
    refine go_ _ ?_
    exact sret1 rfl rfl rfl
end Go.Proofs.Ytmldhbnkndhijaa
