/- The anchor of chapter 6. -/
import Derived.Test.YtkdjlaejbimchaaTxtE
namespace Go.Proofs.Ytkdjlaejbimchaa
open Go.RowKit

def Wd.g (x : Wd) : Wg := ⟨x.a, x.b, x.w, x.gap, x.forced⟩
theorem wd_rd {w : World} {A : Option Addr} {ws : List Wd} (h : Rd w Wd.cells 5 A ws) : Rd w Wg.cells 5 A (ws.map Wd.g) := fun k hk => by
  have hk' : k < ws.length := by simpa using hk
  obtain ⟨b, o, h1, h2, h3⟩ := h k hk'
  exact ⟨b, o, h1, h2, by rw [List.getElem_map]; exact h3⟩
def sA : ByteArray := ⟨#[97, 98, 32, 32, 97]⟩
def sB : ByteArray := ⟨#[32, 97, 32, 10, 32, 98, 10]⟩
def sC : ByteArray := ⟨#[97, 98, 32, 97]⟩
theorem wA : wordsS tableM (unitsM sA) = ⟨[⟨0, 2, 30, 0, 0⟩, ⟨4, 5, 10, 5, 0⟩], 0, 0, false⟩ := by kernel_rfl
theorem wB : wordsS tableM (unitsM sB) = ⟨[⟨1, 2, 10, 0, 0⟩, ⟨5, 6, 20, 0, 1⟩], 0, 1, false⟩ := by kernel_rfl
theorem eA : extM ([⟨0, 2, 30, 0, 0⟩, ⟨4, 5, 10, 5, 0⟩].map Wd.g) = ⟨false, 30, 45, false, [30, 5, 10]⟩ := by kernel_rfl
theorem wC : wideM tableM (unitsM sC) = 45 := by kernel_rfl
theorem Mem.ownCap {B : Nat} {w0 w : World} {H R : Hp} {A : Option Addr} {n cap sz : Nat} {t : TypeId} {cs : List Value} (h : Mem B w0 H w) (hp : Pick H (own A n cap t sz cs) R) : n ≤ cap := by
  have hk : w.ownsRow 0 t sz (.slice A n cap) n cs := (h.ok _ ((hp.mem _).2 (.inl rfl))).1
  rcases hk.2 with ⟨h0, hn⟩ | ⟨g, cap', cur, hv, hb, hcell, hn, hr⟩
  · omega
  · injection hv with _ _ hc; subst hc; exact hn
theorem ub_units (s : ByteArray) : UB (unitsM s) := fun x hx => by
  obtain ⟨b, _, rfl⟩ := List.mem_map.1 hx
  have := b.toNat_lt
  omega
theorem ab_table : AB tableM := by
  intro x hx
  unfold I64
  have : ∀ x ∈ tableM, x = 0 ∨ x = 10 ∨ x = 20 ∨ x = 5 := by decide +kernel
  rcases this x hx with rfl | rfl | rfl | rfl <;> decide

/-- Words of memory of the call's own. -/
theorem words_own {B : Nat} {w0 : World} (us av : List Int) (A A' : Option Addr) (c c' : Nat) (hu : UB us) (ha : AB av) (hlen : us.length ≤ 4294967295) {H R : Hp} (hp : Pick H (own A us.length c 36 1 (us.map (.int .u16))) R) (hr : RdH B w0 H uV 1 A us) (hr' : RdH B w0 H aV 1 A' av) :
    ∀ w, Mem B w0 H w → Calls Try.prog 13 #[.slice A us.length c, .slice A' av.length c'] w fun e w' => ∃ i : Option Addr × Nat, True ∧ e = .returned (.tuple #[.slice i.1 (wordsS av us).ws.length i.2, .bool (wordsS av us).far]) ∧ Mem w.heap.size w [own i.1 (wordsS av us).ws.length i.2 34 5 ((wordsS av us).ws.flatMap Wd.cells)] w' := fun w hw =>
  words_any us av A A' c c' hu ha hlen (hw.ownCap hp) w (hr w hw) (hr' w hw)

set_option maxRecDepth 100000 in
set_option maxHeartbeats 2000000 in
theorem works_any (w : World) : Calls Try.prog 8 #[] w fun e w' => e = .returned (.bool true) ∧ Below w.heap.size w w' := by
  refine s_quiet [] Try.func8 rfl Try.ntmps8 rfl (by simp) ?_
  refine go_ _ ?_
  refine so_callN (fun w1 _ => units_any sA (by decide) w1) rfl rfl rfl (tF rfl) (Nat.le_of_ble_eq_true rfl) ?_
  rintro ⟨A1, c1⟩ _
  refine go_ _ ?_
  refine so_callN (fun w1 _ => table_any w1) rfl rfl rfl (tF rfl) (Nat.le_of_ble_eq_true rfl) ?_
  intro q1 _
  refine go_ _ ?_
  have h1 := fun T => words_own (B := w.heap.size) (w0 := w) (unitsM sA) tableM A1 (some ⟨q1, 0, none⟩) c1 99 (ub_units _) ab_table (by decide) (H := own (some ⟨q1, 0, none⟩) 99 99 2 1 (tableM.map (.int .i64)) :: own A1 (unitsM sA).length c1 36 1 ((unitsM sA).map (.int .u16)) :: T) (.there .here) (RdH.cons own_rd1) own_rd1
  rw [wA] at h1
  refine so_callN (h1 _) rfl rfl rfl (tF rfl) (Nat.le_of_ble_eq_true rfl) ?_
  clear h1
  rintro ⟨A2, c2⟩ _
  dsimp only
  refine go_ _ ?_
  refine so_callN (fun w1 _ => units_any sB (by decide) w1) rfl rfl rfl (tF rfl) (Nat.le_of_ble_eq_true rfl) ?_
  rintro ⟨A3, c3⟩ _
  refine go_ _ ?_
  refine so_callN (fun w1 _ => table_any w1) rfl rfl rfl (tF rfl) (Nat.le_of_ble_eq_true rfl) ?_
  intro q3 _
  refine go_ _ ?_
  have h1 := fun T => words_own (B := w.heap.size) (w0 := w) (unitsM sB) tableM A3 (some ⟨q3, 0, none⟩) c3 99 (ub_units _) ab_table (by decide) (H := own (some ⟨q3, 0, none⟩) 99 99 2 1 (tableM.map (.int .i64)) :: own A3 (unitsM sB).length c3 36 1 ((unitsM sB).map (.int .u16)) :: T) (.there .here) (RdH.cons own_rd1) own_rd1
  rw [wB] at h1
  refine so_callN (h1 _) rfl rfl rfl (tF rfl) (Nat.le_of_ble_eq_true rfl) ?_
  clear h1
  rintro ⟨A4, c4⟩ _
  dsimp only
  refine so_ownSome .here (by decide) fun g4 e4 => ?_
  subst e4
  refine so_ownSome (.there (.there (.there .here))) (by decide) fun g2 e2 => ?_
  subst e2
  refine go_ _ ?_
  have h5 : ∀ e1 e2 e3 T w1, Mem w.heap.size w (e1 :: e2 :: e3 :: own (some ⟨g2, 0, none⟩) [(⟨0, 2, 30, 0, 0⟩ : Wd), ⟨4, 5, 10, 5, 0⟩].length c2 34 5 ([(⟨0, 2, 30, 0, 0⟩ : Wd), ⟨4, 5, 10, 5, 0⟩].flatMap Wd.cells) :: T) w1 → Calls Try.prog 9 #[.slice (some ⟨g2, 0, none⟩) [(⟨0, 2, 30, 0, 0⟩ : Wd), ⟨4, 5, 10, 5, 0⟩].length c2] w1 fun e w' => e = .returned (.tuple #[.int .i64 30, .int .i64 45, .bool false]) ∧ Below w1.heap.size w1 w' := fun e1 e2 e3 T w1 hm => by
    have := extent_any ([(⟨0, 2, 30, 0, 0⟩ : Wd), ⟨4, 5, 10, 5, 0⟩].map Wd.g) (some ⟨g2, 0, none⟩) c2 (by decide) (fun x hx => by
      simp [Wd.g] at hx; rcases hx with rfl | rfl <;> (unfold I64; decide)) w1 (wd_rd (own_rd (c := Wd.cells) (by decide) (fun _ => rfl) w1 hm.tail.tail.tail))
    rw [eA] at this
    exact this
  refine so_callQ (h5 _ _ _ _) rfl rfl rfl (tF rfl) (Nat.le_of_ble_eq_true rfl) ?_
  clear h5
  refine go_ _ ?_
  refine so_callN (fun w1 _ => units_any sC (by decide) w1) rfl rfl rfl (tF rfl) (Nat.le_of_ble_eq_true rfl) ?_
  rintro ⟨A5, c5⟩ _
  refine go_ _ ?_
  refine so_callN (fun w1 _ => table_any w1) rfl rfl rfl (tF rfl) (Nat.le_of_ble_eq_true rfl) ?_
  intro q5 _
  refine go_ _ ?_
  have h6 : ∀ T w1, Mem w.heap.size w (own (some ⟨q5, 0, none⟩) 99 99 2 1 (tableM.map (.int .i64)) :: own A5 (unitsM sC).length c5 36 1 ((unitsM sC).map (.int .u16)) :: T) w1 → Calls Try.prog 16 #[.slice A5 (unitsM sC).length c5, .slice (some ⟨q5, 0, none⟩) 99 99] w1 fun e w' => e = .returned (.tuple #[.int .i64 45, .bool false]) ∧ Below w1.heap.size w1 w' := fun T w1 hm => by
    have := wide_any (unitsM sC) tableM A5 (some ⟨q5, 0, none⟩) c5 99 (by decide) (ub_units _) ab_table w1 (own_rd1 w1 hm.tail) (own_rd1 w1 hm)
    rw [wC] at this
    exact this
  refine so_callQ (h6 _) rfl rfl rfl (tF rfl) (Nat.le_of_ble_eq_true rfl) ?_
  clear h6
  refine go_ _ ?_
  exact sret1 rfl rfl rfl
end Go.Proofs.Ytkdjlaejbimchaa
