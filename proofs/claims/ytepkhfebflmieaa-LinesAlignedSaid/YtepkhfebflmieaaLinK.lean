/- The anchor of chapter 16. -/
import Derived.Test.YtepkhfebflmieaaLinY
namespace Go.Proofs.Ytepkhfebflmieaa
open Go.RowKit

def wsW : List Wg := [⟨0, 0, 30, 0, 0⟩, ⟨0, 0, 40, 5, 0⟩, ⟨0, 0, 50, 5, 0⟩]
theorem fa (Aw Al : Option Addr) (cw cl : Nat) : rowsM ⟨wsW, [], max 10 0, 0, 0, 80, Aw, Al, cw, cl⟩ 0 = ([⟨0, 0, 2, [0, 35]⟩, ⟨10, 2, 3, [0]⟩], 20) := by kernel_rfl
theorem fb (Aw Al : Option Addr) (cw cl : Nat) : rowsM ⟨wsW, [], max 10 0, 1, 0, 80, Aw, Al, cw, cl⟩ 0 = ([⟨0, 0, 2, [5, 40]⟩, ⟨10, 2, 3, [30]⟩], 20) := by kernel_rfl
theorem fc (Aw Al : Option Addr) (cw cl : Nat) : rowsM ⟨wsW, [⟨1, 0, 0, 60, 10⟩], max 10 0, 0, 0, 80, Aw, Al, cw, cl⟩ 0 = ([⟨10, 0, 2, [0, 35]⟩, ⟨20, 2, 3, [0]⟩], 30) := by kernel_rfl
theorem two_rz {a b : Ro} {zs : List Rz} (h : [a, b] = zs.map (·.1)) : ∃ (A : Option Addr) (c : Nat) (A' : Option Addr) (c' : Nat), zs = [(a, A, c), (b, A', c')] := by
  match zs, h with
  | [(x, A, c), (y, A', c')], h =>
    simp at h
    obtain ⟨rfl, rfl⟩ := h
    exact ⟨A, c, A', c', rfl⟩

set_option maxRecDepth 100000 in
set_option maxHeartbeats 4000000 in
theorem works_any (w : World) : Calls Try.prog 7 #[] w fun e w' => e = .returned (.bool true) ∧ Below w.heap.size w w' := by
  refine s_quiet [] Try.func7 rfl Try.ntmps7 rfl (by simp) ?_
  have hfo : ∀ x ∈ wsW, 0 ≤ x.forced ∧ x.forced ≤ 1000 := by intro x hx; simp [wsW] at hx; rcases hx with rfl | rfl | rfl <;> simp
  refine go_ _ ?_
  refine so_lit (vs := [.agg [.int .i64 0, .int .i64 0, .int .i64 30, .int .i64 0, .int .i64 0].toArray, .agg [.int .i64 0, .int .i64 0, .int .i64 40, .int .i64 5, .int .i64 0].toArray, .agg [.int .i64 0, .int .i64 0, .int .i64 50, .int .i64 5, .int .i64 0].toArray]) (sz := 5) (e := 37) rfl rfl (by repeat (first | exact Parts.nil | ((with_reducible apply Parts.cons); rfl))) (by rfl) (by rfl) (by kernel_rfl) (by simp [Value.cells]) (xs := [.int .i64 0, .int .i64 0, .int .i64 30, .int .i64 0, .int .i64 0, .int .i64 0, .int .i64 0, .int .i64 40, .int .i64 5, .int .i64 0, .int .i64 0, .int .i64 0, .int .i64 50, .int .i64 5, .int .i64 0]) (CopyL.refl _) (by simp) (by simp) (Nat.le_of_ble_eq_true rfl) fun q => ?_
  have hrd : ∀ H w1, Mem w.heap.size w (own (some ⟨q, 0, none⟩) 3 3 37 5 [.int .i64 0, .int .i64 0, .int .i64 30, .int .i64 0, .int .i64 0, .int .i64 0, .int .i64 0, .int .i64 40, .int .i64 5, .int .i64 0, .int .i64 0, .int .i64 0, .int .i64 50, .int .i64 5, .int .i64 0] :: H) w1 → Rd w1 Wg.cells 5 (some ⟨q, 0, none⟩) wsW := fun H w1 h => own_rd (c := Wg.cells) (l := wsW) (by decide) (fun _ => rfl) w1 h
  refine go_ _ ?_
  refine so_callN (hj := fun i => so_yield.catH_of _ _) (fun w1 h => fill_any wsW [] 10 0 0 80 0 (some ⟨q, 0, none⟩) none 3 0 _ _ (fa _ _ _ _) w1 (by decide) (by decide) (by decide) hfo (hrd _ w1 h) Rd.nil) rfl rfl rfl (tF rfl) (Nat.le_of_ble_eq_true rfl) ?_
  rintro ⟨A1, c1, zs1⟩ hz
  obtain ⟨X1, x1, Y1, y1, rfl⟩ := two_rz hz
  clear hz
  simp only [List.flatMap_cons, List.flatMap_nil, Rz.row, Rz.give, List.length_cons, List.length_nil, List.cons_append, List.nil_append, List.map_cons, List.map_nil, List.append_nil, Nat.zero_add, Nat.reduceAdd]
  refine go_ _ ?_
  refine so_callN (hj := fun i => so_yield.catH_of _ _) (fun w1 h => fill_any wsW [] 10 1 0 80 0 (some ⟨q, 0, none⟩) none 3 0 _ _ (fb _ _ _ _) w1 (by decide) (by decide) (by decide) hfo (hrd _ w1 h.tail.tail.tail) Rd.nil) rfl rfl rfl (tF rfl) (Nat.le_of_ble_eq_true rfl) ?_
  rintro ⟨A2, c2, zs2⟩ hz
  obtain ⟨X2, x2, Y2, y2, rfl⟩ := two_rz hz
  clear hz
  simp only [List.flatMap_cons, List.flatMap_nil, Rz.row, Rz.give, List.length_cons, List.length_nil, List.cons_append, List.nil_append, List.map_cons, List.map_nil, List.append_nil, Nat.zero_add, Nat.reduceAdd]
  refine go_ _ ?_
  refine so_lit (vs := [.agg [.int .u8 1, .int .i64 0, .int .i64 0, .int .i64 60, .int .i64 10].toArray]) (sz := 5) (e := 40) rfl rfl (by repeat (first | exact Parts.nil | ((with_reducible apply Parts.cons); rfl))) (by rfl) (by rfl) (by kernel_rfl) (by simp [Value.cells]) (xs := [.int .u8 1, .int .i64 0, .int .i64 0, .int .i64 60, .int .i64 10]) (CopyL.refl _) (by simp) (by simp) (Nat.le_of_ble_eq_true rfl) fun qe => ?_
  have hre : ∀ H w1, Mem w.heap.size w (own (some ⟨qe, 0, none⟩) 1 1 40 5 [.int .u8 1, .int .i64 0, .int .i64 0, .int .i64 60, .int .i64 10] :: H) w1 → Rd w1 Fl.cells 5 (some ⟨qe, 0, none⟩) [⟨1, 0, 0, 60, 10⟩] := fun H w1 h => own_rd (c := Fl.cells) (l := [⟨1, 0, 0, 60, 10⟩]) (by decide) (fun _ => rfl) w1 h
  refine go_ _ ?_
  refine so_callN (hj := fun i => so_yield.catH_of _ _) (fun w1 h => fill_any wsW [⟨1, 0, 0, 60, 10⟩] 10 0 0 80 0 (some ⟨q, 0, none⟩) (some ⟨qe, 0, none⟩) 3 1 _ _ (fc _ _ _ _) w1 (by decide) (by decide) (by decide) hfo (hrd _ w1 h.tail.tail.tail.tail.tail.tail.tail) (hre _ w1 h)) rfl rfl rfl (tF rfl) (Nat.le_of_ble_eq_true rfl) ?_
  rintro ⟨A3, c3, zs3⟩ hz
  obtain ⟨X3, x3, Y3, y3, rfl⟩ := two_rz hz
  clear hz
  simp only [List.flatMap_cons, List.flatMap_nil, Rz.row, Rz.give, List.length_cons, List.length_nil, List.cons_append, List.nil_append, List.map_cons, List.map_nil, List.append_nil, Nat.zero_add, Nat.reduceAdd]
  clear hrd hre
  refine so_ownSome .here (by decide) fun g3 e3 => ?_
  subst e3
  refine so_ownSome (.there (.there (.there (.there .here)))) (by decide) fun g2 e2 => ?_
  subst e2
  refine so_ownSome (.there (.there (.there (.there (.there .here))))) (by decide) fun gx2 e2 => ?_
  subst e2
  refine so_ownSome (.there (.there (.there (.there (.there (.there (.there .here))))))) (by decide) fun g1 e1 => ?_
  subst e1
  refine so_ownSome (.there (.there (.there (.there (.there (.there (.there (.there .here)))))))) (by decide) fun gx1 e1 => ?_
  subst e1
  refine go_ _ ?_
  simp only [List.append_eq, List.cons_append, List.nil_append]
  refine go_ _ ?_
  exact sret1 rfl rfl rfl
end Go.Proofs.Ytepkhfebflmieaa
