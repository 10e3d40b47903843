/- What words are, in plain Lean. -/
import Derived.Test.YtkdjlaejbimchaaTxtK
namespace Go.Proofs.Ytkdjlaejbimchaa
open Go.RowKit

theorem run_in (b : Bool) : ∀ (us : List Int) (j : Nat) (hj : j < runLen b us), ∃ h : j < us.length, btw us[j] = b := by
  intro us
  induction us with
  | nil => intro j hj; simp [runLen] at hj
  | cons u us ih =>
    intro j hj
    unfold runLen at hj
    split at hj
    · rename_i hb
      cases j with
      | zero => exact ⟨by simp, hb⟩
      | succ j => obtain ⟨h, e⟩ := ih j (by omega); exact ⟨by simp; exact h, e⟩
    · omega
theorem run_end (b : Bool) : ∀ (us : List Int) (h : runLen b us < us.length), btw us[runLen b us] ≠ b := by
  intro us
  induction us with
  | nil => intro h; simp at h
  | cons u us ih =>
    intro h
    by_cases hb : btw u = b
    · have e : runLen b (u :: us) = runLen b us + 1 := by simp [runLen, hb]
      have h' : runLen b us < us.length := by rw [e] at h; simpa using h
      have := ih h'
      simpa [e] using this
    · have e : runLen b (u :: us) = 0 := by simp [runLen, hb]
      simpa [e] using hb

/-- Words behind a place, of which so many stand ahead. -/
def Wh (us : List Int) : Nat → Nat → List Wd → Prop
  | at_, _, [] => (us.drop at_).all btw = true
  | at_, i, w :: ws => at_ ≤ w.a ∧ (0 < i → at_ < w.a) ∧ w.a < w.b ∧ w.b ≤ us.length ∧ endsL ((us.take w.a).drop at_) = w.forced ∧ (∀ j (h : j < us.length), w.a ≤ j → j < w.b → btw us[j] = false) ∧ Wh us w.b (i + 1) ws

theorem run_seg {us : List Int} {k : Nat} {b : Bool} {j : Nat} (h1 : k ≤ j) (h2 : j < k + runLen b (us.drop k)) : ∃ h : j < us.length, btw us[j] = b := by
  obtain ⟨h, e⟩ := run_in b (us.drop k) (j - k) (by omega)
  rw [List.length_drop] at h
  refine ⟨by omega, ?_⟩
  rw [List.getElem_drop] at e
  simpa [show k + (j - k) = j by omega] using e
theorem run_stop {us : List Int} {k : Nat} {b : Bool} (h : k + runLen b (us.drop k) < us.length) : btw us[k + runLen b (us.drop k)] ≠ b := by
  have := run_end b (us.drop k) (by rw [List.length_drop]; omega)
  rwa [List.getElem_drop] at this

theorem gap_ends (l : List Int) (h : l.all btw = true) : (endsM l).1 = endsL l := by
  unfold endsL
  rw [if_pos h]
  have key : ∀ (l : List Int) (s : Int × Bool), (l.foldl endsS s).1 = s.1 + (l.countP (· == 10) : Nat) := by
    intro l
    induction l with
    | nil => intro s; simp
    | cons u l ih =>
      intro s
      rw [List.foldl_cons, ih, List.countP_cons]
      unfold endsS
      by_cases hu : u = 10
      · subst hu; simp; omega
      · simp [hu]
  have := key l (0, false)
  simpa [endsM] using this

theorem word_at (av us : List Int) (k : Nat) (hl : k < us.length) (hb : btw us[k] = false) (s : WS) (hs : (us.take k).drop k = [] → True)
    (ih : ∀ (s : WS), s.forced = 0 → (s.ws.length = 0 ∨ ∀ h : k + runLen false (us.drop k) < us.length, btw us[k + runLen false (us.drop k)] = true) → ∃ rest, ((strM (k + runLen false (us.drop k)) (us.drop (k + runLen false (us.drop k)))).foldl (wordS av us) s).ws = s.ws ++ rest ∧ Wh us (k + runLen false (us.drop k)) s.ws.length rest) :
    ∃ w rest, ((strM k (us.drop k)).foldl (wordS av us) s).ws = s.ws ++ w :: rest ∧ w.a = k ∧ k < w.b ∧ w.b ≤ us.length ∧ w.forced = s.forced ∧ (∀ j (h : j < us.length), k ≤ j → j < w.b → btw us[j] = false) ∧ Wh us w.b (s.ws.length + 1) rest := by
  have h1 := strM_step us k hl
  have hE := runLen_bound us k false (by omega)
  have hp := runLen_at us k false hl
  rw [hb] at h1
  rw [if_pos hb] at hp
  rw [h1, List.foldl_cons]
  obtain ⟨rest, e, hw⟩ := ih (wordS av us s ⟨k, k + runLen false (us.drop k), !false⟩) (by unfold wordS; simp) (.inr fun h => by
    have := run_stop h
    cases hx : btw us[k + runLen false (us.drop k)] with
    | true => rfl
    | false => exact absurd hx this)
  have hww : (wordS av us s ⟨k, k + runLen false (us.drop k), !false⟩).ws = s.ws ++ [⟨k, k + runLen false (us.drop k), cutM (wideM av (segM us ⟨k, k + runLen false (us.drop k), !false⟩)), s.gap, s.forced⟩] := by unfold wordS; simp
  rw [hww] at e hw
  refine ⟨_, rest, by rw [e, List.append_assoc]; rfl, rfl, by dsimp only; omega, hE, rfl, fun j h h2 h3 => (run_seg h2 h3).2, by simpa using hw⟩

theorem words_wh (av us : List Int) : ∀ n k, us.length - k = n → k ≤ us.length → ∀ s : WS, s.forced = 0 → (s.ws.length = 0 ∨ ∀ h : k < us.length, btw us[k] = true) →
    ∃ rest, ((strM k (us.drop k)).foldl (wordS av us) s).ws = s.ws ++ rest ∧ Wh us k s.ws.length rest := by
  intro n
  induction n using Nat.strongRecOn with
  | ind n ih =>
    intro k hn hk s hf hs
    by_cases hl : k < us.length
    · cases hb : btw us[k] with
      | false =>
        have h0 : s.ws.length = 0 := hs.resolve_right (fun h => by rw [h hl] at hb; cases hb)
        have hp := runLen_at us k false hl
        rw [if_pos hb] at hp
        obtain ⟨w, rest, e, ha, hb1, hb2, hfo, hj, hw⟩ := word_at av us k hl hb s (fun _ => trivial) (fun s1 h1 h2 => ih _ (by omega) _ rfl (runLen_bound us k false hk) s1 h1 h2)
        refine ⟨w :: rest, e, ?_⟩
        unfold Wh
        refine ⟨by omega, by omega, by omega, hb2, ?_, fun j h h2 h3 => hj j h (by omega) h3, hw⟩
        rw [ha, List.drop_of_length_le (by simp; omega), hfo, hf]; rfl
      | true =>
        have h1 := strM_step us k hl
        have hE := runLen_bound us k true hk
        have hp := runLen_at us k true hl
        rw [hb] at h1
        rw [if_pos hb] at hp
        have hseg : ∀ j, k ≤ j → j < k + runLen true (us.drop k) → ∃ h : j < us.length, btw us[j] = true := fun j a b => run_seg a b
        have hstop : ∀ h : k + runLen true (us.drop k) < us.length, btw us[k + runLen true (us.drop k)] = false := fun h => by
          have := run_stop h
          cases hx : btw us[k + runLen true (us.drop k)] with
          | false => rfl
          | true => exact absurd hx this
        have hkE : k < k + runLen true (us.drop k) := by omega
        clear hp
        generalize k + runLen true (us.drop k) = E at *
        rw [h1, List.foldl_cons]
        have hall : ((us.take E).drop k).all btw = true := List.all_eq_true.2 fun x hx => by
          obtain ⟨j, hj, rfl⟩ := List.mem_iff_getElem.1 hx
          simp only [List.length_drop, List.length_take] at hj
          obtain ⟨_, e⟩ := hseg (k + j) (by omega) (by omega)
          rw [List.getElem_drop, List.getElem_take]
          exact e
        have hw1 : (wordS av us s ⟨k, E, !true⟩).ws = s.ws := by unfold wordS; rw [if_neg (by simp)]; split <;> rfl
        have hf1 : (wordS av us s ⟨k, E, !true⟩).forced = endsL ((us.take E).drop k) := by
          rw [← gap_ends _ hall]; unfold wordS; rw [if_neg (by simp)]; split <;> rfl
        by_cases hl2 : E < us.length
        · have hp2 := runLen_at us E false hl2
          rw [if_pos (hstop hl2)] at hp2
          obtain ⟨w, rest, e, ha, hb1, hb2, hfo, hj, hw⟩ := word_at av us E hl2 (hstop hl2) (wordS av us s ⟨k, E, !true⟩) (fun _ => trivial) (fun s1 h1 h2 => ih _ (by omega) _ rfl (runLen_bound us E false hE) s1 h1 h2)
          rw [hw1] at e hw
          refine ⟨w :: rest, e, ?_⟩
          unfold Wh
          exact ⟨by omega, by omega, by omega, hb2, by rw [ha, hfo, hf1], fun j h h2 h3 => hj j h (by omega) h3, hw⟩
        · obtain rfl : E = us.length := by omega
          refine ⟨[], by rw [List.drop_length, strM, List.foldl_nil, hw1, List.append_nil], ?_⟩
          unfold Wh
          rw [List.take_length] at hall
          exact hall
    · rw [List.drop_of_length_le (by omega)]
      refine ⟨[], by simp [strM], ?_⟩
      unfold Wh
      rw [List.drop_of_length_le (by omega)]; rfl
theorem words_whole (av us : List Int) : Wh us 0 0 (wordsS av us).ws := by
  obtain ⟨rest, e, h⟩ := words_wh av us _ 0 rfl (Nat.zero_le _) ⟨[], 0, 0, false⟩ rfl (.inl rfl)
  rw [List.drop_zero] at e
  unfold wordsS
  rw [e]
  exact h
end Go.Proofs.Ytkdjlaejbimchaa
