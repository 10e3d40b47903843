/- What the laws of floats look at first: in, May. -/
import Derived.Test.YtepkhfebflmieaaRefN
namespace Go.Proofs.Ytepkhfebflmieaa
open Go.RowKit

def inF (n : Int) : Bool := decide (n ≤ 1125899906842624) && decide (-1125899906842624 ≤ n)
def int64c (n : Int) : List Value := [.int .i64 n]

set_option maxRecDepth 100000 in
set_option maxHeartbeats 1000000 in
theorem in_any (A : Option Addr) (l : List Int) (cap : Nat) (w : World) (hlen : l.length ≤ 65536) (hA : Rd w int64c 1 A l) :
    Calls Try.prog 14 #[.slice A l.length cap] w fun e w' => e = .returned (.bool (l.all inF)) ∧ Below w.heap.size w w' := by
  refine s_quiet [(0, .slice A l.length cap)] Try.func14 rfl Try.ntmps14 rfl (by simp) ?_
  refine go_ _ ?_
  refine s_loop (ι := Nat) (fun k => [(3, .int .i64 (k : Nat)), (0, .slice A l.length cap)]) (fun _ => []) (fun k => k ≤ l.length ∧ (l.drop k).all inF = l.all inF) (fun k => l.length - k) 0 (by repeat (first | exact Sub.nil | refine Sub.cons rfl ?_ | (refine Sub.consB rfl (by (first | rfl | exact decide_eq_decide.2 (by omega) | exact (decide_eq_true (by omega)).symm | exact (decide_eq_false (by omega)).symm | exact decide_eq_true (by omega) | exact decide_eq_false (by omega))) ?_))) (by repeat (first | exact SubH.refl | exact SubH.nil | ((with_reducible apply SubH.cons); (focus ((repeat (first | (with_reducible exact Pick.here) | (with_reducible apply Pick.there))); done))) | ((with_reducible apply SubH.consR); (focus ((repeat (first | (with_reducible exact Pick.here) | (with_reducible apply Pick.there))); done)); (first | rfl | simp; done)) | ((with_reducible apply SubH.consO); (focus ((repeat (first | (with_reducible exact Pick.here) | (with_reducible apply Pick.there))); done)); (first | rfl | simp; done); (first | rfl | simp; done)) | exact SubH.drop SubH.refl | apply SubH.drop)) ⟨Nat.zero_le _, rfl⟩ ?_
  rintro k ⟨hk, ha⟩
  by_cases hlt : k < l.length
  · have hi : (k : Int) < (l.length : Int) := by omega
    obtain ⟨b1, o1, rfl, hr⟩ := hA.at k hlt
    rw [drop_at l k hlt, List.all_cons] at ha
    have hdef : inF l[k] = (decide (l[k] ≤ 1125899906842624) && decide (-1125899906842624 ≤ l[k])) := rfl
    by_cases h1 : 1125899906842624 < l[k]
    · have h1' : ¬ l[k] ≤ 1125899906842624 := by omega
      refine go_ _ ?_
      refine sret1 rfl rfl ?_
      rw [← ha, hdef]; simp [h1']
    · by_cases h2 : l[k] < -1125899906842624
      · have h2' : ¬ -1125899906842624 ≤ l[k] := by omega
        refine go_ _ ?_
        refine sret1 rfl rfl ?_
        rw [← ha, hdef]; simp [h2']
      · have h1' : l[k] ≤ 1125899906842624 := by omega
        have h2' : -1125899906842624 ≤ l[k] := by omega
        rw [hdef, decide_eq_true h1', decide_eq_true h2', Bool.and_true, Bool.true_and] at ha
        refine go_ _ ?_
        exact ⟨k + 1, by omega, (by repeat (first | exact Sub.nil | refine Sub.cons rfl ?_ | (refine Sub.consB rfl (by (first | rfl | exact decide_eq_decide.2 (by omega) | exact (decide_eq_true (by omega)).symm | exact (decide_eq_false (by omega)).symm | exact decide_eq_true (by omega) | exact decide_eq_false (by omega))) ?_))), (by repeat (first | exact SubH.refl | exact SubH.nil | ((with_reducible apply SubH.cons); (focus ((repeat (first | (with_reducible exact Pick.here) | (with_reducible apply Pick.there))); done))) | ((with_reducible apply SubH.consR); (focus ((repeat (first | (with_reducible exact Pick.here) | (with_reducible apply Pick.there))); done)); (first | rfl | simp; done)) | ((with_reducible apply SubH.consO); (focus ((repeat (first | (with_reducible exact Pick.here) | (with_reducible apply Pick.there))); done)); (first | rfl | simp; done); (first | rfl | simp; done)) | exact SubH.drop SubH.refl | apply SubH.drop)), by omega, ha⟩
  · have hi : ¬ (k : Int) < (l.length : Int) := by omega
    refine go_ _ ?_
    refine sret1 rfl rfl ?_
    rw [← ha, List.drop_of_length_le (by omega)]; rfl

def mayF (f : Fl) : Bool := (f.side == 1 || f.side == 2) && [f.x, f.y, f.w, f.h].all inF && decide (0 ≤ f.w) && decide (0 ≤ f.h)
def mayM (l : List Fl) : Bool := decide (l.length ≤ 200) && l.all mayF

set_option maxRecDepth 100000 in
set_option maxHeartbeats 2000000 in
theorem may_any (A : Option Addr) (l : List Fl) (cap : Nat) (w : World) (hlen : l.length ≤ maxLen) (hA : Rd w Fl.cells 5 A l) :
    Calls Try.prog 10 #[.slice A l.length cap] w fun e w' => e = .returned (.bool (mayM l)) ∧ Below w.heap.size w w' := by
  refine s_quiet [(0, .slice A l.length cap)] Try.func10 rfl Try.ntmps10 rfl (by simp) ?_
  unfold mayM
  by_cases hbig : (200 : Int) < (l.length : Int)
  · have hb' : ¬ l.length ≤ 200 := by omega
    refine go_ _ ?_
    exact sret1 rfl rfl (by simp [hb'])
  have hb' : l.length ≤ 200 := by omega
  rw [decide_eq_true hb', Bool.true_and]
  refine go_ _ ?_
  refine s_loop (ι := Nat) (fun k => [(3, .int .i64 (k : Nat)), (0, .slice A l.length cap)]) (fun _ => []) (fun k => k ≤ l.length ∧ (l.drop k).all mayF = l.all mayF) (fun k => l.length - k) 0 (by repeat (first | exact Sub.nil | refine Sub.cons rfl ?_ | (refine Sub.consB rfl (by (first | rfl | exact decide_eq_decide.2 (by omega) | exact (decide_eq_true (by omega)).symm | exact (decide_eq_false (by omega)).symm | exact decide_eq_true (by omega) | exact decide_eq_false (by omega))) ?_))) (by repeat (first | exact SubH.refl | exact SubH.nil | ((with_reducible apply SubH.cons); (focus ((repeat (first | (with_reducible exact Pick.here) | (with_reducible apply Pick.there))); done))) | ((with_reducible apply SubH.consR); (focus ((repeat (first | (with_reducible exact Pick.here) | (with_reducible apply Pick.there))); done)); (first | rfl | simp; done)) | ((with_reducible apply SubH.consO); (focus ((repeat (first | (with_reducible exact Pick.here) | (with_reducible apply Pick.there))); done)); (first | rfl | simp; done); (first | rfl | simp; done)) | exact SubH.drop SubH.refl | apply SubH.drop)) ⟨Nat.zero_le _, rfl⟩ ?_
  rintro k ⟨hk, ha⟩
  by_cases hlt : k < l.length
  · have hi : (k : Int) < (l.length : Int) := by omega
    obtain ⟨b1, o1, rfl, hr⟩ := hA.at k hlt
    rw [drop_at l k hlt, List.all_cons] at ha
    generalize hf : l[k] = f at ha hr
    have hdef : mayF f = ((f.side == 1 || f.side == 2) && [f.x, f.y, f.w, f.h].all inF && decide (0 ≤ f.w) && decide (0 ≤ f.h)) := rfl
    refine go_ _ ?_
    refine s_parts (by kernel_rfl) ?_
    by_cases hside : f.side = 1 ∨ f.side = 2
    · have hg : (f.side == 1 || f.side == 2) = true := by rcases hside with h | h <;> simp [h]
      rw [hg, Bool.true_and] at hdef
      refine sg_free 35 (by kernel_rfl) ?_
      rcases hside with hs | hs
      all_goals
        have hs' : ¬ f.side = 3 - f.side := by omega
        refine go_ _ ?_
        refine sg_one (by kernel_rfl) ?_
        refine so_lit (vs := [.int .i64 f.x, .int .i64 f.y, .int .i64 f.w, .int .i64 f.h]) (sz := 1) (e := 2) rfl (by (first | (with_reducible rfl) | assumption | exact decide_eq_true (by omega) | (simp only [Bool.not_eq_true', Bool.not_eq_false', decide_eq_false_iff_not, decide_eq_true_eq] <;> first | assumption | omega) | decide)) (by repeat (first | exact Parts.nil | ((with_reducible apply Parts.cons); rfl))) (by rfl) (by rfl) (by kernel_rfl) (by simp [Value.cells]) (xs := [.int .i64 f.x, .int .i64 f.y, .int .i64 f.w, .int .i64 f.h]) (by repeat (first | exact CopyL.nil | apply CopyL.cons)) (by simp) (by simp) (Nat.le_of_ble_eq_true rfl) fun q => ?_
        refine go_ _ ?_
        refine sg_one (by kernel_rfl) ?_
        refine so_callQ (fun w1 h1 => in_any (some ⟨q, 0, none⟩) [f.x, f.y, f.w, f.h] 4 w1 (by simp) (own_rd (c := int64c) (l := [f.x, f.y, f.w, f.h]) (by decide) (fun _ => rfl) w1 h1)) rfl (by (first | (with_reducible rfl) | assumption | exact decide_eq_true (by omega) | (simp only [Bool.not_eq_true', Bool.not_eq_false', decide_eq_false_iff_not, decide_eq_true_eq] <;> first | assumption | omega) | decide)) rfl (tF rfl) (Nat.le_of_ble_eq_true rfl) ?_
        generalize [f.x, f.y, f.w, f.h].all inF = b at hdef
        cases b
        · skip
          refine go_ _ ?_
          refine sg_free 18 (by kernel_rfl) (go_ _ ?_)
          refine sret1 rfl rfl ?_
          rw [← ha, hdef]; rfl
        · rw [Bool.true_and] at hdef
          by_cases hw0 : f.w < 0
          · have hw0' : ¬ 0 ≤ f.w := by omega
            refine go_ _ ?_
            refine sg_free 18 (by kernel_rfl) (go_ _ ?_)
            refine sret1 rfl rfl ?_
            rw [← ha, hdef]; simp [hw0']
          · have hw0' : 0 ≤ f.w := by omega
            by_cases hh0 : f.h < 0
            · have hh0' : ¬ 0 ≤ f.h := by omega
              refine go_ _ ?_
              refine sg_free 18 (by kernel_rfl) (go_ _ ?_)
              refine sret1 rfl rfl ?_
              rw [← ha, hdef]; simp [hh0']
            · have hh0' : 0 ≤ f.h := by omega
              rw [hdef, decide_eq_true hw0', decide_eq_true hh0', Bool.and_self, Bool.true_and] at ha
              refine go_ _ ?_
              refine sg_free 18 (by kernel_rfl) (go_ _ ?_)
              exact ⟨k + 1, by omega, (by repeat (first | exact Sub.nil | refine Sub.cons rfl ?_ | (refine Sub.consB rfl (by (first | rfl | exact decide_eq_decide.2 (by omega) | exact (decide_eq_true (by omega)).symm | exact (decide_eq_false (by omega)).symm | exact decide_eq_true (by omega) | exact decide_eq_false (by omega))) ?_))), (by repeat (first | exact SubH.refl | exact SubH.nil | ((with_reducible apply SubH.cons); (focus ((repeat (first | (with_reducible exact Pick.here) | (with_reducible apply Pick.there))); done))) | ((with_reducible apply SubH.consR); (focus ((repeat (first | (with_reducible exact Pick.here) | (with_reducible apply Pick.there))); done)); (first | rfl | simp; done)) | ((with_reducible apply SubH.consO); (focus ((repeat (first | (with_reducible exact Pick.here) | (with_reducible apply Pick.there))); done)); (first | rfl | simp; done); (first | rfl | simp; done)) | exact SubH.drop SubH.refl | apply SubH.drop)), by omega, ha⟩
    · have h1 : ¬ f.side = 1 := fun h => hside (.inl h)
      have h2 : ¬ f.side = 2 := fun h => hside (.inr h)
      refine sg_free 35 (by kernel_rfl) (go_ _ ?_)
      refine sg_one (by kernel_rfl) ?_
      refine go_ _ ?_
      refine sg_one (by kernel_rfl) ?_
      refine go_ _ ?_
      refine sg_free 18 (by kernel_rfl) (go_ _ ?_)
      refine sret1 rfl rfl ?_
      rw [← ha, hdef]; simp [h1, h2]
  · have hi : ¬ (k : Int) < (l.length : Int) := by omega
    refine go_ _ ?_
    refine sret1 rfl rfl ?_
    rw [← ha, List.drop_of_length_le (by omega)]; rfl

end Go.Proofs.Ytepkhfebflmieaa
