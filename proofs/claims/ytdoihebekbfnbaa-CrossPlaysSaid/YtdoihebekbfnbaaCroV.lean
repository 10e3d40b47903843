/- Where items stand, in plain Lean: each in its row. -/
import Derived.Test.YtdoihebekbfnbaaCroY
import Derived.Test.YtdoihebekbfnbaaCroJ
namespace Go.Proofs.Ytdoihebekbfnbaa
open Go.RowKit

def allK (l : List It) (k : Nat) : Int := l[k]?.elim 0 It.all
def preM (l : List It) : List Nat → Nat → Int
  | k :: ks, j + 1 => allK l k + preM l ks j
  | _, _ => 0
section
variable (s : Sty) (l : List It) (top tall left : Int) (n : Nat)
theorem rowGo_off : ∀ (ks : List Nat) (i : Nat) (a : Int) (out : List Fg) (k : Nat), k ∉ ks → (rowGo s l top tall left n ks i a out)[k]? = out[k]?
  | [], _, _, _, _, _ => rfl
  | q :: ks, i, a, out, k, h => by
    rw [rowGo]
    split
    · rw [rowGo_off ks _ _ _ k (fun h' => h (List.mem_cons_of_mem _ h')), List.getElem?_set_ne (fun e => h (by rw [e]; exact List.mem_cons_self ..))]
    · rfl
theorem rowGo_at : ∀ (ks : List Nat) (i : Nat) (a : Int) (out : List Fg), ks.Nodup → (∀ k ∈ ks, k < l.length ∧ k < out.length) → ∀ (j k : Nat), ks[j]? = some k → ∃ x, l[k]? = some x ∧ (rowGo s l top tall left n ks i a out)[k]? = some (fragM s x top tall (a + preM l ks j) (movM s left (i + j) n))
  | [], _, _, _, _, _, _, _, h => by simp at h
  | q :: ks, i, a, out, hnd, hb, j, k, h => by
    have hq := hb q (by simp)
    rw [rowGo, List.getElem?_eq_getElem hq.1]
    simp only
    have hnd' := (List.nodup_cons.1 hnd)
    cases j with
    | zero =>
      simp at h; subst h
      refine ⟨l[q], List.getElem?_eq_getElem hq.1, ?_⟩
      rw [rowGo_off s l top tall left n ks _ _ _ q hnd'.1, List.getElem?_set_self hq.2]
      simp [preM]
    | succ j =>
      simp at h
      obtain ⟨x, h1, h2⟩ := rowGo_at ks (i + 1) (a + l[q].all) (out.set q (fragM s l[q] top tall a (movM s left i n))) hnd'.2 (fun k hk => by have := hb k (List.mem_cons_of_mem _ hk); simpa using this) j k h
      refine ⟨x, h1, ?_⟩
      rw [h2]
      have e : a + l[q].all + preM l ks j = a + preM l (q :: ks) (j + 1) := by
        rw [preM, allK, List.getElem?_eq_getElem hq.1]; simp only [Option.elim]; omega
      rw [e, show i + 1 + j = i + (j + 1) by omega]
end

def topM (s : Sty) (l : List It) (only : Bool) : List (List Nat) → Nat → Int
  | r :: rs, i + 1 => rowTallM s l r only + topM s l only rs i
  | _, _ => 0
theorem rows20_off (s : Sty) (c : Int) (l : List It) (only : Bool) (k : Nat) : ∀ (rows : List (List Nat)) (st : List Fg × Int), (∀ r ∈ rows, k ∉ r) → (rowsM20 s c l only rows st).1[k]? = st.1[k]?
  | [], _, _ => rfl
  | r :: rs, st, h => by
    show (rowsM20 s c l only rs _).1[k]? = _
    rw [rows20_off s c l only k rs _ (fun x hx => h x (List.mem_cons_of_mem _ hx))]
    exact rowGo_off s l _ _ _ _ r _ _ _ k (h r (by simp))
theorem rows20_top (s : Sty) (c : Int) (l : List It) (only : Bool) : ∀ (rows : List (List Nat)) (st : List Fg × Int), (rowsM20 s c l only rows st).2 = st.2 + topM s l only rows rows.length
  | [], st => by show st.2 = _; simp [topM]
  | r :: rs, st => by
    show (rowsM20 s c l only rs _).2 = _
    rw [rows20_top s c l only rs _, List.length_cons, topM]; dsimp only; omega
theorem rows20_at (s : Sty) (c : Int) (l : List It) (only : Bool) : ∀ (rows : List (List Nat)) (st : List Fg × Int), rows.flatten.Nodup → (∀ r ∈ rows, ∀ k ∈ r, k < l.length ∧ k < st.1.length) → ∀ (q : Nat) (r : List Nat), rows[q]? = some r → ∀ (j k : Nat), r[j]? = some k →
    ∃ x, l[k]? = some x ∧ (rowsM20 s c l only rows st).1[k]? = some (fragM s x (st.2 + topM s l only rows q) (rowTallM s l r only) (begM s (leftM' c l r) + preM l r j) (movM s (leftM' c l r) j r.length))
  | [], _, _, _, _, _, h, _, _, _ => by simp at h
  | r0 :: rs, st, hnd, hb, q, r, hr, j, k, hk => by
    show ∃ x, l[k]? = some x ∧ (rowsM20 s c l only rs _).1[k]? = _
    rw [List.flatten_cons, List.nodup_append] at hnd
    obtain ⟨hn1, hn2, hn3⟩ := hnd
    cases q with
    | zero =>
      simp at hr; subst hr
      have hkr : k ∈ r0 := List.mem_of_getElem? hk
      rw [rows20_off s c l only k rs _ (fun x hx hkx => hn3 k hkr k (List.mem_flatten.2 ⟨x, hx, hkx⟩) rfl)]
      obtain ⟨x, h1, h2⟩ := rowGo_at s l st.2 (rowTallM s l r0 only) (leftM' c l r0) r0.length r0 0 (begM s (leftM' c l r0)) st.1 hn1 (hb r0 (by simp)) j k hk
      refine ⟨x, h1, ?_⟩
      unfold rowM
      rw [h2, Nat.zero_add]; simp [topM]
    | succ q =>
      simp at hr
      obtain ⟨x, h1, h2⟩ := rows20_at s c l only rs (rowM s c l r0 st.2 (rowTallM s l r0 only) st.1, st.2 + rowTallM s l r0 only) hn2 (fun x hx y hy => by have := hb x (List.mem_cons_of_mem _ hx) y hy; rw [rowM_len]; exact this) q r hr j k hk
      refine ⟨x, h1, ?_⟩
      rw [h2]
      dsimp only
      rw [topM, Int.add_assoc]

/-- What is asked of an item. -/
structure IB (x : It) : Prop where
  wide : 0 ≤ x.wide ∧ x.wide ≤ 5368709120
  high : 0 ≤ x.high ∧ x.high ≤ 1073741824
  above : 0 ≤ x.above ∧ x.above ≤ 1073741824
  below : 0 ≤ x.below ∧ x.below ≤ 1073741824
  left : 0 ≤ x.left ∧ x.left ≤ 1073741824
  right : 0 ≤ x.right ∧ x.right ≤ 1073741824
  down : 0 ≤ x.down ∧ x.down ≤ x.high
  h : x.s.h.k = 0
  minh : x.s.minh.k = 0
  maxh : x.s.maxh.k = 0
theorem IB.all {x : It} (h : IB x) : 0 ≤ x.all ∧ x.all ≤ 7516192768 := by
  have h1 := h.wide; have h2 := h.left; have h3 := h.right
  unfold It.all; omega

section
variable {l : List It} (hl : ∀ x ∈ l, IB x)
include hl
theorem allK_in (k : Nat) : 0 ≤ allK l k ∧ allK l k ≤ 7516192768 := by
  unfold allK
  cases e : l[k]? with
  | none => simp
  | some x => exact (hl x (List.mem_of_getElem? e)).all
theorem preM_in : ∀ (r : List Nat) (j : Nat), 0 ≤ preM l r j ∧ preM l r j ≤ 7516192768 * r.length
  | [], j => by cases j <;> simp [preM]
  | k :: r, 0 => by simp only [preM, List.length_cons]; omega
  | k :: r, j + 1 => by
    have h1 := allK_in hl k; have h2 := preM_in r j
    simp only [preM, List.length_cons]; omega
theorem preM_len : ∀ (r : List Nat) (j k : Nat), r[j]? = some k → preM l r j + allK l k ≤ preM l r r.length
  | [], _, _, h => by simp at h
  | q :: r, 0, k, h => by
    simp at h; subst h
    have := preM_in hl r r.length
    simp only [preM, List.length_cons]; omega
  | q :: r, j + 1, k, h => by
    simp at h
    have := preM_len r j k h
    simp only [preM, List.length_cons]; omega
omit hl in
theorem leftM_pre (c : Int) : ∀ (r : List Nat), leftM' c l r = c - preM l r r.length := by
  intro r
  have key : ∀ (r : List Nat) (c : Int), r.foldl (fun a k => a - (l[k]?.elim 0 It.all)) c = c - preM l r r.length := by
    intro r
    induction r with
    | nil => intro c; simp [preM]
    | cons k r ih =>
      intro c
      rw [List.foldl_cons, ih, List.length_cons, preM]; unfold allK; omega
  exact key r c
omit hl in
theorem preM_succ : ∀ (r : List Nat) (j k : Nat), r[j]? = some k → preM l r (j + 1) = preM l r j + allK l k
  | [], _, _, h => by simp at h
  | q :: r, 0, k, h => by simp at h; subst h; simp only [preM]; cases r <;> simp [preM]
  | q :: r, j + 1, k, h => by
    simp at h
    have := preM_succ r j k h
    rw [preM, this, preM]; omega
/-- An item's place across. -/
theorem x_in {s : Sty} {c : Int} (hc : 0 ≤ c ∧ c ≤ 1099511627776) (r : List Nat) (hr : r.length ≤ 60) (j k : Nat) (h : r[j]? = some k) {x : It} (hx : l[k]? = some x) :
    -1099511627776 ≤ begM s (leftM' c l r) + preM l r j + x.left + movM s (leftM' c l r) j r.length ∧ begM s (leftM' c l r) + preM l r j + x.left + movM s (leftM' c l r) j r.length ≤ 1099511627776 := by
  have h1 := preM_in hl r r.length; have h2 := preM_in hl r j; have h3 := preM_len hl r j k h
  have hB := hl x (List.mem_of_getElem? hx)
  have hw := hB.wide; have hrr := hB.right; have hll := hB.left
  have ha : allK l k = x.left + x.wide + x.right := by unfold allK; rw [hx]; rfl
  have hj : j < r.length := (List.getElem?_eq_some_iff.1 h).1
  have hm := mov_le s (left := leftM' c l r) hj
  have hmz := mov_none s (left := leftM' c l r) (k := j) (n := r.length)
  rw [leftM_pre] at hm hmz ⊢
  rw [ha] at h3
  unfold begM
  by_cases e1 : s.justify = 1
  · rw [if_pos e1]; have := hmz (by omega); omega
  · by_cases e2 : s.justify = 2
    · rw [if_neg e1, if_pos e2]; have := hmz (by omega); omega
    · rw [if_neg e1, if_neg e2]; omega
omit hl in
/-- Each item begins behind the one ahead. -/
theorem x_next {s : Sty} {c : Int} (r : List Nat) (j k k' : Nat) (h : r[j]? = some k) (h' : r[j + 1]? = some k') {x : It} (hx : l[k]? = some x) :
    begM s (leftM' c l r) + preM l r j + x.left + movM s (leftM' c l r) j r.length + x.wide + x.right ≤ begM s (leftM' c l r) + preM l r (j + 1) + movM s (leftM' c l r) (j + 1) r.length := by
  have ha : allK l k = x.left + x.wide + x.right := by unfold allK; rw [hx]; rfl
  rw [preM_succ r j k h, ha]
  have hj : j + 1 < r.length := (List.getElem?_eq_some_iff.1 h').1
  have : movM s (leftM' c l r) j r.length ≤ movM s (leftM' c l r) (j + 1) r.length := by
    obtain ⟨m, hm⟩ : ∃ m, r.length = m + 1 := ⟨r.length - 1, by omega⟩
    by_cases hq : s.justify = 3
    · by_cases hp : 0 < leftM' c l r
      · have := mov_step s hq hp (n := m) (k := j) (by omega)
        have h0 : 0 ≤ leftM' c l r / m := Int.ediv_nonneg (by omega) (by omega)
        rw [hm]; omega
      · rw [mov_neg s (by omega), mov_neg s (by omega)]; exact Int.le_refl _
    · rw [mov_none s hq, mov_none s hq]; exact Int.le_refl _
  omega
omit hl in
theorem tall_ge : ∀ (r : List Nat) (a : Int), a ≤ r.foldl (fun a k => max a (l[k]?.elim 0 fun x => x.high + x.above + x.below)) a ∧ ∀ k ∈ r, (l[k]?.elim 0 fun x => x.high + x.above + x.below) ≤ r.foldl (fun a k => max a (l[k]?.elim 0 fun x => x.high + x.above + x.below)) a
  | [], a => ⟨Int.le_refl _, fun _ h => by simp at h⟩
  | q :: r, a => by
    rw [List.foldl_cons]
    obtain ⟨h1, h2⟩ := tall_ge r (max a (l[q]?.elim 0 fun x => x.high + x.above + x.below))
    refine ⟨by omega, fun k hk => ?_⟩
    rcases List.mem_cons.1 hk with rfl | hk
    · omega
    · exact h2 k hk
theorem tall_le : ∀ (r : List Nat) (a : Int), 0 ≤ a ∧ a ≤ 3221225472 → 0 ≤ r.foldl (fun a k => max a (l[k]?.elim 0 fun x => x.high + x.above + x.below)) a ∧ r.foldl (fun a k => max a (l[k]?.elim 0 fun x => x.high + x.above + x.below)) a ≤ 3221225472
  | [], _, h => h
  | q :: r, a, h => by
    rw [List.foldl_cons]
    refine tall_le r _ ?_
    cases e : l[q]? with
    | none => simp; omega
    | some x =>
      have hB := hl x (List.mem_of_getElem? e)
      have h1 := hB.high; have h2 := hB.above; have h3 := hB.below
      simp only [Option.elim]; omega
/-- An item's place down, and its height. -/
theorem y_in {s : Sty} {k : Nat} {x : It} (hx : l[k]? = some x) (r : List Nat) (hk : k ∈ r) (top : Int) :
    let tall := tallM l r
    let h := hgtM s x tall
    let y := top + x.above + overM s (tall - h - x.above - x.below)
    top + x.above ≤ y ∧ y + h + x.below ≤ top + tall ∧ (s.items ≠ 3 → h = x.high) ∧ (s.items = 3 → h = tall - x.above - x.below) ∧ 0 ≤ h ∧ 0 ≤ tall ∧ tall ≤ 3221225472 := by
  have hB := hl x (List.mem_of_getElem? hx)
  have h1 := hB.high; have h2 := hB.above; have h3 := hB.below; have h4 := hB.down
  have ht := (tall_ge (l := l) r 0).2 k hk
  rw [hx] at ht
  simp only [Option.elim] at ht
  have ht2 := tall_le hl r 0 (by omega)
  have ht : x.high + x.above + x.below ≤ tallM l r := ht
  have ht2 : 0 ≤ tallM l r ∧ tallM l r ≤ 3221225472 := ht2
  dsimp only
  have hh : hgtM s x (tallM l r) = if s.items = 3 then tallM l r - x.above - x.below else x.high := by
    unfold hgtM
    by_cases e : s.items = 3
    · rw [if_pos ⟨e, hB.h⟩, if_pos e]
      have : ∀ a, highM x.s a = max a 0 := fun a => by
        unfold highM pxM
        rw [if_neg (by rw [hB.h]; omega), if_neg (by rw [hB.maxh]; omega), if_neg (by rw [hB.minh]; omega)]; omega
      rw [this]; omega
    · rw [if_neg (fun h => e h.1), if_neg e]
  rw [hh]
  unfold overM
  by_cases e3 : s.items = 3
  · rw [if_pos e3, if_neg (by omega), if_neg (by omega)]
    refine ⟨by omega, by omega, fun h => absurd e3 h, fun _ => rfl, by omega, ht2.1, ht2.2⟩
  · rw [if_neg e3]
    refine ⟨?_, ?_, fun _ => rfl, fun h => absurd h e3, by omega, ht2.1, ht2.2⟩ <;> (repeat' split) <;> omega
theorem topM_in {s : Sty} {only : Bool} (hs : s.h.k = 0) : ∀ (rows : List (List Nat)) (q : Nat), 0 ≤ topM s l only rows q ∧ topM s l only rows q ≤ 3221225472 * rows.length
  | [], q => by cases q <;> simp [topM]
  | r :: rs, 0 => by simp only [topM, List.length_cons]; omega
  | r :: rs, q + 1 => by
    have h1 := topM_in (only := only) hs rs q
    have h2 := tall_le hl r 0 (by omega)
    have h2 : 0 ≤ tallM l r ∧ tallM l r ≤ 3221225472 := h2
    have e : rowTallM s l r only = tallM l r := by unfold rowTallM; rw [if_neg (fun h => by omega)]
    simp only [topM, List.length_cons, e]; omega
end
theorem topM_succ (s : Sty) (l : List It) (only : Bool) : ∀ (rows : List (List Nat)) (q : Nat) (r : List Nat), rows[q]? = some r → topM s l only rows (q + 1) = topM s l only rows q + rowTallM s l r only
  | [], _, _, h => by simp at h
  | r0 :: rs, 0, r, h => by simp at h; subst h; simp only [topM]; cases rs <;> simp [topM]
  | r0 :: rs, q + 1, r, h => by
    simp at h
    have := topM_succ s l only rs q r h
    rw [topM, this, topM]; omega
end Go.Proofs.Ytdoihebekbfnbaa
