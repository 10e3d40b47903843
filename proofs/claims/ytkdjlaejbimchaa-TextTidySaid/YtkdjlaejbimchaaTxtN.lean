/- Words, unit by unit. -/
import Derived.Test.YtkdjlaejbimchaaTxtP
namespace Go.Proofs.Ytkdjlaejbimchaa
open Go.RowKit

structure Cu where
  a : Nat
  sum : Int
  gap : Int
  forced : Int
def gapM (av : List Int) (f : Bool) (n : Int) (sp : Bool) : Int := if n = 0 ∧ sp = true ∧ f = false then cutM (advM av 32) else 0
def gapF (av : List Int) (f : Bool) (n : Int) (sp : Bool) : Bool := if n = 0 ∧ sp = true ∧ f = false then !decide (advM av 32 = cutM (advM av 32)) else false
def Cu.wd (c : Cu) (k : Nat) : Wd := ⟨c.a, k, cutM c.sum, c.gap, c.forced⟩
def Cu.far (c : Cu) : Bool := !decide (c.sum = cutM c.sum)
/-- Words of units, from a place on: was there a word; ends and spaces behind it; the word under way. -/
def mW (av : List Int) : List Int → Nat → Bool → Int → Bool → Option Cu → List Wd × Bool
  | [], _, _, _, _, none => ([], false)
  | [], k, _, _, _, some c => ([c.wd k], c.far)
  | u :: us, k, f, n, sp, none => if btw u then mW av us (k + 1) f (endsS (n, sp) u).1 (endsS (n, sp) u).2 none
      else ((mW av us (k + 1) f 0 false (some ⟨k, advM av u, gapM av f n sp, n⟩)).1, gapF av f n sp || (mW av us (k + 1) f 0 false (some ⟨k, advM av u, gapM av f n sp, n⟩)).2)
  | u :: us, k, f, n, sp, some c => if btw u then (c.wd k :: (mW av us (k + 1) false (endsS (0, false) u).1 (endsS (0, false) u).2 none).1, c.far || (mW av us (k + 1) false (endsS (0, false) u).1 (endsS (0, false) u).2 none).2)
      else mW av us (k + 1) f n sp (some ⟨c.a, c.sum + advM av u, c.gap, c.forced⟩)

theorem mW_gap (av rest : List Int) (f : Bool) : ∀ (l : List Int) (k : Nat) (s : Int × Bool), l.all btw = true → mW av (l ++ rest) k f s.1 s.2 none = mW av rest (k + l.length) f (l.foldl endsS s).1 (l.foldl endsS s).2 none := by
  intro l
  induction l with
  | nil => intro k s _; rfl
  | cons u l ih =>
    intro k s h
    simp only [List.all_cons, Bool.and_eq_true] at h
    rw [List.cons_append, mW, if_pos h.1]
    rw [ih (k + 1) (endsS (s.1, s.2) u) h.2, List.foldl_cons, List.length_cons, show k + 1 + l.length = k + (l.length + 1) by omega]
theorem wide_cons (av : List Int) (u : Int) (l : List Int) : wideM av (u :: l) = advM av u + wideM av l := by simp [wideM]
theorem mW_word (av rest : List Int) (f : Bool) (n : Int) (sp : Bool) : ∀ (l : List Int) (k : Nat) (c : Cu), (∀ x ∈ l, btw x = false) → mW av (l ++ rest) k f n sp (some c) = mW av rest (k + l.length) f n sp (some ⟨c.a, c.sum + wideM av l, c.gap, c.forced⟩) := by
  intro l
  induction l with
  | nil => intro k c _; simp [wideM]
  | cons u l ih =>
    intro k c h
    rw [List.cons_append, mW, if_neg (by rw [h u (by simp)]; simp), ih (k + 1) _ (fun x hx => h x (by simp [hx])), wide_cons, List.length_cons, show k + 1 + l.length = k + (l.length + 1) by omega]
    dsimp only
    rw [Int.add_assoc]
theorem mW_close (av rest : List Int) (k : Nat) (f : Bool) (n : Int) (sp : Bool) (c : Cu) (h : ∀ x, rest.head? = some x → btw x = true) : mW av rest k f n sp (some c) = (c.wd k :: (mW av rest k false 0 false none).1, c.far || (mW av rest k false 0 false none).2) := by
  cases rest with
  | nil => simp [mW]
  | cons u us =>
    have hu := h u rfl
    rw [mW, if_pos hu, mW, if_pos hu]
/-- A word at first. -/
theorem mW_first (av rest : List Int) (k : Nat) (f : Bool) (n : Int) (sp : Bool) (l : List Int) (hl : l ≠ []) (hw : ∀ x ∈ l, btw x = false) (h : ∀ x, rest.head? = some x → btw x = true) :
    mW av (l ++ rest) k f n sp none = (⟨k, k + l.length, cutM (wideM av l), gapM av f n sp, n⟩ :: (mW av rest (k + l.length) false 0 false none).1, gapF av f n sp || (!decide (wideM av l = cutM (wideM av l)) || (mW av rest (k + l.length) false 0 false none).2)) := by
  cases l with
  | nil => exact absurd rfl hl
  | cons u l =>
    rw [List.cons_append, mW, if_neg (by rw [hw u (by simp)]; simp), mW_word av rest f 0 false l (k + 1) _ (fun x hx => hw x (by simp [hx])), mW_close _ _ _ _ _ _ _ h]
    simp only [Cu.wd, Cu.far, wide_cons, List.length_cons, show k + 1 + l.length = k + (l.length + 1) by omega]

theorem seg_split (us : List Int) {k E : Nat} (h : k ≤ E) (hE : E ≤ us.length) (b : Bool) : us.drop k = segM us ⟨k, E, b⟩ ++ us.drop E ∧ (segM us ⟨k, E, b⟩).length = E - k := by
  refine ⟨?_, by unfold segM; simp only [List.length_drop, List.length_take]; omega⟩
  have e : us.drop k = (us.take E ++ us.drop E).drop k := by rw [List.take_append_drop]
  rw [e, List.drop_append_of_le_length (by simp; omega)]
  rfl
theorem seg_all (us : List Int) {k E : Nat} (hE : E ≤ us.length) (b : Bool) (p : Int → Prop) (h : ∀ j, k ≤ j → j < E → ∀ h : j < us.length, p us[j]) : ∀ x ∈ segM us ⟨k, E, b⟩, p x := fun x hx => by
  obtain ⟨j, hj, rfl⟩ := List.mem_iff_getElem.1 hx
  unfold segM at hj ⊢
  simp only [List.length_drop, List.length_take] at hj
  rw [List.getElem_drop, List.getElem_take]
  exact h (k + j) (by omega) (by omega) _

theorem wordsS_word (av us : List Int) (k : Nat) (hl : k < us.length) (hb : btw us[k] = false) (s : WS) (f : Bool) (n : Int) (sp : Bool) (hg : s.gap = gapM av f n sp) (hf : s.forced = n)
    (ih : ∀ E, k < E → E ≤ us.length → ∀ s : WS, s.gap = 0 → s.forced = 0 → s.ws.length ≠ 0 → (∀ h : E < us.length, btw us[E] = true) → ((strM E (us.drop E)).foldl (wordS av us) s).ws = s.ws ++ (mW av (us.drop E) E false 0 false none).1 ∧ ((strM E (us.drop E)).foldl (wordS av us) s).far = (s.far || (mW av (us.drop E) E false 0 false none).2)) :
    ((strM k (us.drop k)).foldl (wordS av us) s).ws = s.ws ++ (mW av (us.drop k) k f n sp none).1 ∧ (gapF av f n sp || ((strM k (us.drop k)).foldl (wordS av us) s).far) = (s.far || (mW av (us.drop k) k f n sp none).2) := by
  have h1 := strM_step us k hl
  have hE := runLen_bound us k false (by omega)
  have hp := runLen_at us k false hl
  rw [hb] at h1
  rw [if_pos hb] at hp
  have hseg : ∀ j, k ≤ j → j < k + runLen false (us.drop k) → ∃ h : j < us.length, btw us[j] = false := fun j a b => run_seg a b
  have hstop : ∀ h : k + runLen false (us.drop k) < us.length, btw us[k + runLen false (us.drop k)] = true := fun h => by
    have := run_stop h
    cases hx : btw us[k + runLen false (us.drop k)] with
    | true => rfl
    | false => exact absurd hx this
  have hkE : k < k + runLen false (us.drop k) := by omega
  clear hp
  generalize k + runLen false (us.drop k) = E at *
  rw [h1, List.foldl_cons]
  have hw1 : wordS av us s ⟨k, E, !false⟩ = ⟨s.ws ++ [⟨k, E, cutM (wideM av (segM us ⟨k, E, !false⟩)), s.gap, s.forced⟩], 0, 0, s.far || !decide (wideM av (segM us ⟨k, E, !false⟩) = cutM (wideM av (segM us ⟨k, E, !false⟩)))⟩ := by unfold wordS; simp
  rw [hw1]
  obtain ⟨i1, i2⟩ := ih E hkE hE ⟨s.ws ++ [⟨k, E, cutM (wideM av (segM us ⟨k, E, !false⟩)), s.gap, s.forced⟩], 0, 0, s.far || !decide (wideM av (segM us ⟨k, E, !false⟩) = cutM (wideM av (segM us ⟨k, E, !false⟩)))⟩ rfl rfl (by simp) hstop
  obtain ⟨e1, e2⟩ := seg_split us (Nat.le_of_lt hkE) hE (!false)
  have hm := mW_first av (us.drop E) k f n sp (segM us ⟨k, E, !false⟩) (by intro h; rw [h] at e2; simp at e2; omega) (seg_all us hE _ _ fun j a b h => (hseg j a b).2) (fun x hx => by
    rw [List.head?_drop] at hx
    obtain ⟨h, rfl⟩ := List.getElem?_eq_some_iff.1 hx
    exact hstop h)
  rw [e2, show k + (E - k) = E by omega, ← e1] at hm
  rw [hm, i1, i2, hg, hf]
  refine ⟨by simp, ?_⟩
  dsimp only
  cases s.far <;> cases gapF av f n sp <;> simp

theorem wordsS_go (av us : List Int) : ∀ n k, us.length - k = n → k ≤ us.length → ∀ s : WS, s.gap = 0 → s.forced = 0 → (s.ws.length = 0 ∨ ∀ h : k < us.length, btw us[k] = true) →
    ((strM k (us.drop k)).foldl (wordS av us) s).ws = s.ws ++ (mW av (us.drop k) k (decide (s.ws.length = 0)) 0 false none).1 ∧ ((strM k (us.drop k)).foldl (wordS av us) s).far = (s.far || (mW av (us.drop k) k (decide (s.ws.length = 0)) 0 false none).2) := by
  intro n
  induction n using Nat.strongRecOn with
  | ind n ih =>
    intro k hn hk s hg hf hs
    have ih' : ∀ j, k ≤ j → j < us.length → ∀ E, j < E → E ≤ us.length → ∀ s : WS, s.gap = 0 → s.forced = 0 → s.ws.length ≠ 0 → (∀ h : E < us.length, btw us[E] = true) → ((strM E (us.drop E)).foldl (wordS av us) s).ws = s.ws ++ (mW av (us.drop E) E false 0 false none).1 ∧ ((strM E (us.drop E)).foldl (wordS av us) s).far = (s.far || (mW av (us.drop E) E false 0 false none).2) := fun j hj hjl E h1 h2 s1 h3 h4 h5 h6 => by
      have := ih (us.length - E) (by omega) E rfl h2 s1 h3 h4 (.inr h6)
      rwa [decide_eq_false h5] at this
    by_cases hl : k < us.length
    · cases hb : btw us[k] with
      | false =>
        have h0 : s.ws.length = 0 := hs.resolve_right (fun h => by rw [h hl] at hb; cases hb)
        have := wordsS_word av us k hl hb s true 0 false (by rw [hg]; simp [gapM]) hf (ih' k (Nat.le_refl _) hl)
        rw [decide_eq_true h0]
        simpa [gapF] using this
      | true =>
        have h1 := strM_step us k hl
        have hE := runLen_bound us k true hk
        have hp := runLen_at us k true hl
        rw [hb] at h1
        rw [if_pos hb] at hp
        have hseg : ∀ j, k ≤ j → j < k + runLen true (us.drop k) → ∃ h : j < us.length, btw us[j] = true := fun j a b => run_seg a b
        have hstop : ∀ h : k + runLen true (us.drop k) < us.length, btw us[k + runLen true (us.drop k)] = false := fun h => by
          have := run_stop h
          cases hx : btw us[k + runLen true (us.drop k)] with
          | false => rfl
          | true => exact absurd hx this
        have hkE : k < k + runLen true (us.drop k) := by omega
        clear hp
        generalize k + runLen true (us.drop k) = E at *
        rw [h1, List.foldl_cons]
        obtain ⟨e1, e2⟩ := seg_split us (Nat.le_of_lt hkE) hE (!true)
        have hall : (segM us ⟨k, E, !true⟩).all btw = true := List.all_eq_true.2 (seg_all us hE _ _ fun j a b h => (hseg j a b).2)
        have hm := mW_gap av (us.drop E) (decide (s.ws.length = 0)) (segM us ⟨k, E, !true⟩) k (0, false) hall
        rw [e2, show k + (E - k) = E by omega, ← e1] at hm
        rw [show (segM us ⟨k, E, !true⟩).foldl endsS (0, false) = endsM (segM us ⟨k, E, !true⟩) from rfl] at hm
        generalize hen : endsM (segM us ⟨k, E, !true⟩) = en at *
        obtain ⟨n1, sp1⟩ := en
        dsimp only at hm
        have hw1 : wordS av us s ⟨k, E, !true⟩ = ⟨s.ws, gapM av (decide (s.ws.length = 0)) n1 sp1, n1, s.far || (gapF av (decide (s.ws.length = 0)) n1 sp1 && decide (E < us.length))⟩ := by
          unfold wordS gapM gapF
          rw [if_neg (by simp), hen]
          dsimp only
          by_cases hc : n1 = 0 ∧ sp1 = true ∧ 0 < s.ws.length
          · have : n1 = 0 ∧ sp1 = true ∧ decide (s.ws.length = 0) = false := ⟨hc.1, hc.2.1, decide_eq_false (by omega)⟩
            rw [if_pos hc, if_pos this, if_pos this]
          · have : ¬ (n1 = 0 ∧ sp1 = true ∧ decide (s.ws.length = 0) = false) := fun h => hc ⟨h.1, h.2.1, by have := of_decide_eq_false h.2.2; omega⟩
            rw [if_neg hc, if_neg this, if_neg this, hg]
            simp
        rw [hw1, hm]
        by_cases hl2 : E < us.length
        · have := wordsS_word av us E hl2 (hstop hl2) ⟨s.ws, gapM av (decide (s.ws.length = 0)) n1 sp1, n1, s.far || (gapF av (decide (s.ws.length = 0)) n1 sp1 && decide (E < us.length))⟩ (decide (s.ws.length = 0)) n1 sp1 rfl rfl (ih' E (by omega) hl2)
          obtain ⟨i1, i2⟩ := this
          refine ⟨i1, ?_⟩
          have key : gapF av (decide (s.ws.length = 0)) n1 sp1 = true → (mW av (us.drop E) E (decide (s.ws.length = 0)) n1 sp1 none).2 = true := fun hx => by
            rw [List.drop_eq_getElem_cons hl2, mW, if_neg (by rw [hstop hl2]; simp), hx]; rfl
          have key2 : ∀ (l : List Str) (s : WS), s.far = true → (l.foldl (wordS av us) s).far = true := by
            intro l
            induction l with
            | nil => intro s h; exact h
            | cons x l ih =>
              intro s h
              rw [List.foldl_cons]
              refine ih _ ?_
              unfold wordS
              split
              · simp [h]
              · split <;> simp [h]
          rw [decide_eq_true hl2, Bool.and_true] at i2 ⊢
          cases hx : gapF av (decide (s.ws.length = 0)) n1 sp1 with
          | false => rw [hx] at i2; simpa using i2
          | true =>
            rw [key hx, Bool.or_true]
            exact key2 _ _ (by simp)
        · obtain rfl : E = us.length := by omega
          rw [List.drop_length]
          simp [strM, mW]
    · rw [List.drop_of_length_le (by omega)]
      simp [strM, mW]
theorem wordsS_mW (av us : List Int) : (wordsS av us).ws = (mW av us 0 true 0 false none).1 ∧ (wordsS av us).far = (mW av us 0 true 0 false none).2 := by
  have := wordsS_go av us _ 0 rfl (Nat.zero_le _) ⟨[], 0, 0, false⟩ rfl rfl (.inl rfl)
  simpa [wordsS] using this
end Go.Proofs.Ytkdjlaejbimchaa
