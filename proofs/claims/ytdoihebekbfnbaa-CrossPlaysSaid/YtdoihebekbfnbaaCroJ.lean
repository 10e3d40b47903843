/- What CrossJustify asks, in plain Lean. -/
import Derived.Test.YtdoihebekbfnbaaCroA
namespace Go.Proofs.Ytdoihebekbfnbaa
open Go.RowKit

def jIt (w : Int) : It := ⟨blockS, w, 0, 0, 0, 0, 0, 0⟩
theorem j_items (c : Int) (ws : List Int) : itemsM c (List.replicate ws.length blockS) (ws.map fun w => ⟨w, 0, 0⟩) [] = ws.map jIt := by
  apply List.ext_getElem?
  intro i
  unfold itemsM
  rw [List.getElem?_mapIdx, List.getElem?_map, List.getElem?_replicate, List.getElem?_map]
  by_cases h : i < ws.length
  · rw [if_pos h, List.getElem?_eq_getElem h]
    simp only [Option.map_some, Option.getD_some, List.getElem?_nil, Option.getD_none]
    show some (⟨blockS, 0 + ws[i], 0, 0, 0, 0, 0, 0⟩ : It) = _
    rw [Int.zero_add]; rfl
  · rw [if_neg h, List.getElem?_eq_none (by omega)]; rfl
def psum (ws : List Int) : Nat → Int
  | 0 => 0
  | k + 1 => psum ws k + ws[k]?.getD 0
theorem psum_succ (ws : List Int) (k : Nat) (h : k < ws.length) : psum ws (k + 1) = psum ws k + ws[k] := by
  rw [psum, List.getElem?_eq_getElem h]; rfl
theorem psum_in (ws : List Int) (h : ∀ w ∈ ws, 0 ≤ w ∧ w ≤ 65535) : ∀ k, k ≤ ws.length → 0 ≤ psum ws k ∧ psum ws k ≤ 65535 * k := by
  intro k
  induction k with
  | zero => intro _; simp [psum]
  | succ k ih =>
    intro hk
    have := ih (by omega)
    rw [psum_succ ws k (by omega)]
    have := h _ (List.getElem_mem (show k < ws.length by omega))
    omega
def jFr (s : Sty) (ws : List Int) (left : Int) (k : Nat) : Fg := ⟨begM s left + psum ws k + movM s left k ws.length, 0, ws[k]?.getD 0, 0⟩
theorem j_tall (ws : List Int) : ∀ (r : List Nat), tallM (ws.map jIt) r = 0 := by
  have key : ∀ (r : List Nat), r.foldl (fun a k => max a ((ws.map jIt)[k]?.elim 0 fun x => x.high + x.above + x.below)) (0 : Int) = 0 := by
    intro r
    induction r with
    | nil => rfl
    | cons k r ih =>
      rw [List.foldl_cons]
      have : max (0 : Int) ((ws.map jIt)[k]?.elim 0 fun x => x.high + x.above + x.below) = 0 := by
        rw [List.getElem?_map]
        cases ws[k]? with
        | none => rfl
        | some w => rfl
      rw [this, ih]
  exact key
theorem j_left (c : Int) (ws : List Int) : leftM' c (ws.map jIt) (List.range ws.length) = c - psum ws ws.length := by
  have key : ∀ n, n ≤ ws.length → leftM' c (ws.map jIt) (List.range n) = c - psum ws n := by
    intro n
    induction n with
    | zero => intro _; show c = c - 0; omega
    | succ n ih =>
      intro h
      unfold leftM' at ih ⊢
      rw [List.range_succ, List.foldl_append, ih (by omega), psum_succ ws n (by omega), List.foldl_cons, List.foldl_nil, List.getElem?_map, List.getElem?_eq_getElem (show n < ws.length by omega)]
      show c - psum ws n - (0 + ws[n] + 0) = _
      omega
  exact key _ (Nat.le_refl _)
theorem j_frag (s : Sty) (hi : s.items = 0) (ws : List Int) (left : Int) (k : Nat) (h : k < ws.length) : fragM s (jIt ws[k]) 0 0 (begM s left + psum ws k) (movM s left k ws.length) = jFr s ws left k := by
  unfold fragM jFr
  have hh : hgtM s (jIt ws[k]) 0 = 0 := by unfold hgtM; rw [if_neg (by rw [hi]; omega)]; rfl
  have ho : ∀ x, overM s x = 0 := fun x => by unfold overM; rw [hi]; rfl
  rw [hh, ho, List.getElem?_eq_getElem h]
  simp only [Option.getD_some]
  show (⟨begM s left + psum ws k + 0 + movM s left k ws.length, 0 + 0 + 0, ws[k], 0⟩ : Fg) = _
  rw [Int.add_zero]; rfl
theorem j_go (s : Sty) (hi : s.items = 0) (ws : List Int) (left : Int) : ∀ (m i : Nat), i + m = ws.length → rowGo s (ws.map jIt) 0 0 left ws.length (List.range' i m) i (begM s left + psum ws i) ((List.range i).map (jFr s ws left) ++ List.replicate m Fg.zero) = (List.range ws.length).map (jFr s ws left) := by
  intro m
  induction m with
  | zero => intro i h; rw [List.range'_zero, rowGo]; simp; rw [← h]; rfl
  | succ m ih =>
    intro i h
    rw [List.range'_succ, rowGo, List.getElem?_map, List.getElem?_eq_getElem (show i < ws.length by omega)]
    simp only [Option.map_some]
    rw [j_frag s hi ws left i (by omega)]
    have e1 : begM s left + psum ws i + (jIt ws[i]).all = begM s left + psum ws (i + 1) := by
      rw [psum_succ ws i (by omega)]
      show begM s left + psum ws i + (0 + ws[i] + 0) = _
      omega
    have e2 : ((List.range i).map (jFr s ws left) ++ List.replicate (m + 1) Fg.zero).set i (jFr s ws left i) = (List.range (i + 1)).map (jFr s ws left) ++ List.replicate m Fg.zero := by
      rw [List.set_append, if_neg (by simp), List.replicate_succ, List.length_map, List.length_range, Nat.sub_self, List.set_cons_zero, List.range_succ, List.map_append, List.append_assoc]; rfl
    rw [e1, e2, ih (i + 1) (by omega)]
theorem j_place (c j : Int) (ws : List Int) : placeM (flexS j 0) c (itemsM c (List.replicate ws.length blockS) (ws.map fun w => ⟨w, 0, 0⟩) []) [List.range ws.length] = ((List.range ws.length).map (jFr (flexS j 0) ws (c - psum ws ws.length)), 0) := by
  rw [j_items]
  unfold placeM rowsM20
  simp only [List.foldl_cons, List.foldl_nil, List.length_map]
  have e2 : rowTallM (flexS j 0) (ws.map jIt) (List.range ws.length) ([List.range ws.length].length == 1) = 0 := by
    unfold rowTallM; rw [if_neg (fun h => by have h1 : (0 : Int) = 1 := h.2; omega), j_tall]
  rw [e2]
  unfold rowM
  rw [j_left, List.length_range]
  have := j_go (flexS j 0) rfl ws (c - psum ws ws.length) ws.length 0 (Nat.zero_add _)
  rw [← List.range_eq_range'] at this
  have e3 : psum ws 0 = 0 := rfl
  rw [e3, Int.add_zero] at this
  rw [← this]; rfl

theorem mov_zero (s : Sty) (left : Int) (n : Nat) : movM s left 0 n = 0 := by
  unfold movM; split
  · show left / ((n : Int) - 1) * 0 + left % ((n : Int) - 1) * 0 / ((n : Int) - 1) = 0
    rw [Int.mul_zero, Int.mul_zero, Int.zero_ediv]; rfl
  · rfl
theorem mov_last (s : Sty) (hj : s.justify = 3) {left : Int} (hl : 0 < left) {n : Nat} (hn : 1 ≤ n) : movM s left n (n + 1) = left := by
  unfold movM
  rw [if_pos ⟨hj, hl, by omega⟩]
  have e : ((n + 1 : Nat) : Int) - 1 = n := by omega
  rw [e, Int.mul_ediv_cancel _ (by omega)]
  rw [Int.emod_def, Int.mul_comm]
  omega
theorem mov_none (s : Sty) (hj : s.justify ≠ 3) (left : Int) (k n : Nat) : movM s left k n = 0 := by unfold movM; rw [if_neg (fun h => hj h.1)]
theorem mov_neg (s : Sty) {left : Int} (hl : left ≤ 0) (k n : Nat) : movM s left k n = 0 := by unfold movM; rw [if_neg (fun h => by omega)]
theorem mov_step (s : Sty) (hj : s.justify = 3) {left : Int} (hl : 0 < left) {n k : Nat} (hn : 1 ≤ n) : left / n ≤ movM s left (k + 1) (n + 1) - movM s left k (n + 1) ∧ movM s left (k + 1) (n + 1) - movM s left k (n + 1) ≤ left / n + 1 := by
  unfold movM
  rw [if_pos ⟨hj, hl, by omega⟩, if_pos ⟨hj, hl, by omega⟩]
  have e : ((n + 1 : Nat) : Int) - 1 = n := by omega
  rw [e]
  have hn0 : 0 < (n : Int) := by omega
  have hr0 := Int.emod_nonneg left (show (n : Int) ≠ 0 by omega)
  have hr1 := Int.emod_lt_of_pos left hn0
  generalize left % n = r at *
  generalize left / n = q at *
  have e1 : q * ((k + 1 : Nat) : Int) = q * k + q := by rw [show ((k + 1 : Nat) : Int) = k + 1 by omega, Int.mul_add, Int.mul_one]
  have e2 : r * ((k + 1 : Nat) : Int) = r * k + r := by rw [show ((k + 1 : Nat) : Int) = k + 1 by omega, Int.mul_add, Int.mul_one]
  rw [e1, e2]
  generalize r * (k : Int) = x at *
  have a1 : x / n ≤ (x + r) / n := Int.ediv_le_ediv hn0 (by omega)
  have a2 : (x + r) / n ≤ x / n + 1 := by
    have : (x + r) / n ≤ (x + n * 1) / n := Int.ediv_le_ediv hn0 (by omega)
    rw [Int.add_mul_ediv_left _ _ (by omega)] at this; exact this
  omega
theorem mov_le (s : Sty) {left : Int} {k n : Nat} (hk : k < n) : 0 ≤ movM s left k n ∧ movM s left k n ≤ max left 0 := by
  have key : ∀ k, k < n → 0 ≤ movM s left k n ∧ (movM s left k n = 0 ∨ s.justify = 3 ∧ 0 < left ∧ 2 ≤ n) := by
    intro k hk
    by_cases h : s.justify = 3 ∧ 0 < left ∧ 2 ≤ n
    · refine ⟨?_, .inr h⟩
      obtain ⟨m, rfl⟩ : ∃ m, n = m + 1 := ⟨n - 1, by omega⟩
      clear hk
      induction k with
      | zero => rw [mov_zero]; omega
      | succ k ih =>
        have := mov_step s h.1 h.2.1 (n := m) (k := k) (by omega)
        have : 0 ≤ left / m := Int.ediv_nonneg (by omega) (by omega)
        omega
    · have : movM s left k n = 0 := by unfold movM; rw [if_neg h]
      exact ⟨by omega, .inl this⟩
  refine ⟨(key k hk).1, ?_⟩
  rcases (key k hk).2 with h | h
  · omega
  · obtain ⟨m, rfl⟩ : ∃ m, n = m + 1 := ⟨n - 1, by omega⟩
    have hl := mov_last s h.1 h.2.1 (n := m) (by omega)
    have mono : ∀ d, k + d ≤ m → movM s left k (m + 1) ≤ movM s left (k + d) (m + 1) := by
      intro d
      induction d with
      | zero => intro _; exact Int.le_refl _
      | succ d ih =>
        intro hd
        have := ih (by omega)
        have := mov_step s h.1 h.2.1 (n := m) (k := k + d) (by omega)
        have : 0 ≤ left / m := Int.ediv_nonneg (by omega) (by omega)
        rw [← Nat.add_assoc]
        omega
    have := mono (m - k) (by omega)
    rw [show k + (m - k) = m by omega, hl] at this
    omega
/-- What the law asks of the items' places. -/
structure JF (c su : Int) (m : Nat) (j : Int) (X W : Nat → Int) : Prop where
  xb : ∀ k, k ≤ m → -10000000000 ≤ X k ∧ X k ≤ 10000000000
  wb : ∀ k, 0 ≤ W k ∧ W k ≤ 65535
  f0 : j = 0 → X 0 = 0
  f1 : j = 1 → X m + W m = c
  f2 : j = 2 → X 0 + (c - (X m + W m)) = c - su ∧ X 0 ≤ c - (X m + W m) ∧ c - (X m + W m) ≤ X 0 + 1
  f3 : j = 3 → X 0 = 0
  f4 : j = 3 → 0 < c - su → 0 < m → X m + W m = c
  g0 : ∀ k, k < m → 0 ≤ X (k + 1) - X k - W k
  g1 : j ≠ 3 → ∀ k, k < m → X (k + 1) - X k - W k = 0
  g2 : j = 3 → c - su ≤ 0 → ∀ k, k < m → X (k + 1) - X k - W k = 0
  g3 : j = 3 → 0 < c - su → ∀ k, k < m → (c - su) / m ≤ X (k + 1) - X k - W k ∧ X (k + 1) - X k - W k ≤ (c - su) / m + 1
theorem j_facts (c j : Int) (ws : List Int) (m : Nat) (hm : ws.length = m + 1) (hc : 0 ≤ c ∧ c ≤ 4294967295) (hws : ∀ w ∈ ws, 0 ≤ w ∧ w ≤ 65535) (hl : ws.length ≤ 60) (hj : 0 ≤ j ∧ j ≤ 3) :
    ∃ X W : Nat → Int, (∀ k, jFr (flexS j 0) ws (c - psum ws ws.length) k = ⟨X k, 0, W k, 0⟩) ∧ JF c (psum ws ws.length) m j X W := by
  refine ⟨fun k => begM (flexS j 0) (c - psum ws ws.length) + psum ws k + movM (flexS j 0) (c - psum ws ws.length) k ws.length, fun k => ws[k]?.getD 0, fun k => rfl, ?_⟩
  have hS := psum_in ws hws ws.length (Nat.le_refl _)
  have hW : ∀ k : Nat, 0 ≤ ws[k]?.getD 0 ∧ ws[k]?.getD 0 ≤ 65535 := fun k => by
    cases e : ws[k]? with
    | none => simp
    | some w => exact hws w (List.mem_of_getElem? e)
  have hstep : ∀ k : Nat, psum ws (k + 1) = psum ws k + ws[k]?.getD 0 := fun k => rfl
  have hlast := hstep m
  rw [← hm] at hlast
  have hbeg : begM (flexS j 0) (c - psum ws ws.length) = if j = 1 then c - psum ws ws.length else if j = 2 then (c - psum ws ws.length) / 2 else 0 := rfl
  have hm0 := mov_zero (flexS j 0) (c - psum ws ws.length) ws.length
  have hp0 : psum ws 0 = 0 := rfl
  have hju : (flexS j 0).justify = j := rfl
  have hmj := fun k => mov_none (flexS j 0) (left := c - psum ws ws.length) (k := k) (n := ws.length)
  have hmn := fun k h => mov_neg (flexS j 0) (left := c - psum ws ws.length) h k ws.length
  have hml := fun k h => mov_le (flexS j 0) (left := c - psum ws ws.length) (k := k) (n := ws.length) h
  have hml2 := fun h h' h2 => mov_last (flexS j 0) h (left := c - psum ws ws.length) h' (n := m) h2
  have hms := fun h h' k h2 => mov_step (flexS j 0) h (left := c - psum ws ws.length) h' (n := m) (k := k) h2
  rw [← hm] at hml2 hms
  rw [hju] at hmj hml2 hms
  have hpk : ∀ k, k ≤ m → 0 ≤ psum ws k ∧ psum ws k ≤ 65535 * 60 := fun k hk => by have := psum_in ws hws k (by omega); omega
  have htd : 0 < c - psum ws ws.length → (c - psum ws ws.length).tdiv m = (c - psum ws ws.length) / m := fun h => Int.tdiv_eq_ediv_of_nonneg (by omega)
  rw [hbeg]
  clear hbeg hju
  have hm00 : movM (flexS j 0) (c - psum ws ws.length) m ws.length = 0 ∨ 0 < m := by
    rcases Nat.eq_zero_or_pos m with h | h
    · subst h; exact .inl hm0
    · exact .inr h
  generalize movM (flexS j 0) (c - psum ws ws.length) = mv at *
  rw [show psum ws ws.length = psum ws ws.length from rfl] at *
  generalize hsu : psum ws ws.length = su at *
  constructor
  · intro k hk
    have := hml k (by omega); have := hpk k hk
    (repeat' split) <;> omega
  · exact hW
  · intro h; rw [if_neg (by omega), if_neg (by omega), hp0, hm0]; rfl
  · intro h; rw [if_pos h]; have := hmj m (by omega); omega
  · intro h; rw [if_neg (by omega), if_pos h]; have := hmj m (by omega); have := hmj 0 (by omega); omega
  · intro h; rw [if_neg (by omega), if_neg (by omega), hp0, hm0]; rfl
  · intro h h' h0; rw [if_neg (by omega), if_neg (by omega)]
    have := hml2 h h' h0; omega
  · intro k hk; rw [hstep k]
    by_cases h : j = 3
    · by_cases h' : 0 < c - su
      · have := hms h h' k (by omega)
        have : 0 ≤ (c - su) / m := Int.ediv_nonneg (by omega) (by omega)
        omega
      · rw [hmn _ (by omega), hmn _ (by omega)]; omega
    · rw [hmj _ h, hmj _ h]; omega
  · intro h k hk; rw [hstep k, hmj _ h, hmj _ h]; omega
  · intro h h' k hk; rw [hstep k, hmn _ h', hmn _ h']; omega
  · intro h h' k hk; rw [hstep k]
    have := hms h h' k (by omega); omega
end Go.Proofs.Ytdoihebekbfnbaa
