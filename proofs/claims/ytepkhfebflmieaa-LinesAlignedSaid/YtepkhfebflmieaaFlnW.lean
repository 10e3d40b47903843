/- The walks of floats.Next and floats.Tall. -/
import Derived.Test.YtepkhfebflmieaaRows
import Derived.Test.YtepkhfebflmieaaFloM
namespace Go.Proofs.Ytepkhfebflmieaa
open Go.RowKit

set_option maxHeartbeats 400000 in
theorem next_any (A : Option Addr) (l : List Fl) (cap : Nat) (y : Int) (w : World) (B : Nat) (hBw : B ≤ w.heap.size) (hlen : l.length ≤ maxLen) (hc : FlSl w B A l) :
    Calls Try.prog 21 #[.slice A l.length cap, .int .i64 y] w fun e w' => e = .returned (.tuple #[.int .i64 (nextM l y).1, .bool (nextM l y).2]) ∧ Below w.heap.size w w' := by
  unfold maxLen at hlen
  have Hc := Lib.hid hc; clear hc
  go_enter Try.func21, Try.ntmps21
  go_wp2
  go_loopw [4, 5, 11] (fun u4 u5 u11 wr => ∃ (k : Nat) (q : Int) (is : Bool), k ≤ l.length ∧ u11 = .int .i64 k ∧ u4 = .int .i64 q ∧ u5 = .bool is ∧ Below w.heap.size w wr ∧ (l.drop k).foldl (nextS y) (q, is) = nextM l y) (fun _ _ u11 _ => l.length - (intOf u11).toNat)
  case atStart => exact ⟨0, _, _, Nat.zero_le _, rfl, rfl, rfl, Below.refl _ _, rfl⟩
  case round =>
    obtain ⟨k, q, is, hk, rfl, rfl, rfl, hb, hr⟩ := hrel
    by_cases hlt : k < l.length
    · obtain ⟨b, o, rfl, hB, h0, h1, h2, h3, h4⟩ := (Hc.out.below flKeeps hb hBw) k hlt
      have Hr := Lib.hid (fold_at hlt hr); clear hr
      cases is
      all_goals
        go_wp2
        all_goals
          go_roundw
          case rel => exact ⟨k + 1, _, _, by omega, by go_num, rfl, rfl, hb.alloc hb.size _, fold_step Hr.out (by simp only [nextS]; (repeat' split) <;> first | rfl | (exfalso; first | omega | (simp_all; done) | (simp_all; omega)))⟩
          case measure => simp [intOf]; omega
    · have Hr := Lib.hid (fold_end hlt hr); clear hr
      go_wp2
      go_ret2
      exact ⟨by rw [← Hr.out]; rfl, hb⟩


set_option maxHeartbeats 1000000 in
theorem at_any (A : Option Addr) (l : List Fl) (cap : Nat) (left right y h : Int) (w : World) (B : Nat) (hBw : B ≤ w.heap.size) (hlen : l.length ≤ maxLen) (hc : FlSl w B A l) :
    Calls Try.prog 22 #[.agg #[.slice A l.length cap, .int .i64 left, .int .i64 right], .int .i64 y, .int .i64 h] w fun e w' =>
      e = .returned (.tuple #[.int .i64 (atM l left right y h).1, .int .i64 (atM l left right y h).2.1, .bool (atM l left right y h).2.2]) ∧ Below w.heap.size w w' := by
  unfold maxLen at hlen
  have Hc := Lib.hid hc; clear hc
  go_enter Try.func22, Try.ntmps22
  go_wp2
  go_quiet (fail)
  go_wp2
  go_loopw [6, 7, 8, 18] (fun u6 u7 u8 u18 wr => ∃ (k : Nat) (p q : Int) (is : Bool), k ≤ l.length ∧ u18 = .int .i64 k ∧ u6 = .int .i64 p ∧ u7 = .int .i64 q ∧ u8 = .bool is ∧ Below w.heap.size w wr ∧ (l.drop k).foldl (atS y h) (p, q, is) = atM l left right y h) (fun _ _ _ u18 _ => l.length - (intOf u18).toNat)
  case atStart => exact ⟨0, _, _, _, Nat.zero_le _, rfl, rfl, rfl, rfl, (((Below.refl _ _).alloc (Nat.le_refl _) _).drewN' _), rfl⟩
  case round =>
    obtain ⟨k, p, q, is, hk, rfl, rfl, rfl, rfl, hb, hr⟩ := hrel
    by_cases hlt : k < l.length
    · obtain ⟨b, o, rfl, hB, h0, h1, h2, h3, h4⟩ := (Hc.out.below flKeeps hb hBw) k hlt
      have Hr := Lib.hid (fold_at hlt hr); clear hr
      go_wp2
      all_goals
        go_roundw
        case rel => exact ⟨k + 1, _, _, _, by omega, by go_num, rfl, rfl, rfl, hb.alloc hb.size _, fold_step Hr.out (by simp only [atS, stands]; (repeat' split) <;> first | rfl | (exfalso; first | omega | (simp_all; done) | (simp_all; omega)))⟩
        case measure => simp [intOf]; omega
    · have Hr := Lib.hid (fold_end hlt hr); clear hr
      go_wp2
      go_ret3
      exact ⟨by rw [← Hr.out]; rfl, hb⟩


set_option maxHeartbeats 400000 in
theorem tall_any (A : Option Addr) (l : List Fl) (cap : Nat) (left right y h : Int) (w : World) (B : Nat) (hBw : B ≤ w.heap.size) (hlen : l.length ≤ maxLen) (hc : FlSl w B A l) :
    Calls Try.prog 20 #[.slice A l.length cap, .int .i64 y, .int .i64 h, .int .i64 left, .int .i64 right] w fun e w' =>
      e = .returned (.tuple #[.int .i64 (atM l left right y (max h 1)).1, .int .i64 (atM l left right y (max h 1)).2.1]) ∧ Below w.heap.size w w' := by
  have Hc := Lib.hid hc; clear hc
  go_enter Try.func20, Try.ntmps20
  go_wp2_with fail
  refine (at_any A l cap left right y _ w B hBw hlen Hc.out).mono ?_
  rintro e w' ⟨rfl, hb⟩
  go_wp2_with fail
  go_ret2
  exact ⟨rfl, hb⟩


end Go.Proofs.Ytepkhfebflmieaa
