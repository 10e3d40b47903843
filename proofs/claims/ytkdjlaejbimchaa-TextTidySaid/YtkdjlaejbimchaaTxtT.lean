/- Spaces that say nothing, in plain Lean; least, greatest, all. -/
import Derived.Test.YtkdjlaejbimchaaTxtS
namespace Go.Proofs.Ytkdjlaejbimchaa
open Go.RowKit

def nextW (us : List Int) : Bool := match us with
  | [] => false
  | u :: us => if u = 32 then nextW us else decide (u ≠ 10)
def tidyR : Bool → List Int → List Int
  | _, [] => []
  | b, u :: us => if u = 32 then (if b = true ∧ nextW us = true then 32 :: tidyR false us else tidyR b us) else u :: tidyR (!btw u) us
def strip (w : Wd) : Nat × Int × Int × Int := (w.b - w.a, w.w, w.gap, w.forced)
def ER (r : List Wd × Bool) : List (Nat × Int × Int × Int) × Bool := (r.1.map strip, r.2)

theorem gap_same {av : List Int} {f : Bool} {n : Int} {sp sp' : Bool} (h : n = 0 → f = false → sp = true ∧ sp' = true) : gapM av f n sp = gapM av f n sp' ∧ gapF av f n sp = gapF av f n sp' := by
  unfold gapM gapF
  by_cases hn : n = 0
  · cases f with
    | true => simp
    | false => obtain ⟨rfl, rfl⟩ := h hn rfl; exact ⟨rfl, rfl⟩
  · simp [hn]

theorem tidy_go (av : List Int) : ∀ us : List Int,
    (∀ (k k' : Nat) (f f' : Bool) (n n' : Int) (sp sp' : Bool) (c c' : Cu), c.sum = c'.sum → c.gap = c'.gap → c.forced = c'.forced → c.a ≤ k → c'.a ≤ k' → k - c.a = k' - c'.a → ER (mW av us k f n sp (some c)) = ER (mW av (tidyR true us) k' f' n' sp' (some c'))) ∧
    (∀ (k k' : Nat) (f : Bool) (n : Int) (sp sp' : Bool), 0 ≤ n → (n = 0 → f = false → sp = true ∧ sp' = true) → ER (mW av us k f n sp none) = ER (mW av (tidyR false us) k' f n sp' none)) ∧
    (∀ (k k' : Nat) (f' : Bool) (n' : Int) (sp' : Bool) (c' : Cu), nextW us = false → ∃ r, mW av (tidyR true us) k' f' n' sp' (some c') = (c'.wd k' :: r.1, c'.far || r.2) ∧ ER (mW av us k false 0 true none) = ER r) := by
  intro us
  induction us with
  | nil =>
    refine ⟨?_, ?_, ?_⟩
    · intro k k' f f' n n' sp sp' c c' h1 h2 h3 h4 h5 h6
      simp [tidyR, mW, ER, strip, Cu.wd, Cu.far, h1, h2, h3, h6]
    · intros; simp [tidyR, mW]
    · intro k k' f' n' sp' c' _
      exact ⟨([], false), by simp [tidyR, mW], by simp [mW]⟩
  | cons u us ih =>
    obtain ⟨iA, iB, iC⟩ := ih
    by_cases h32 : u = 32
    · subst h32
      have hb : btw 32 = true := by decide
      have he : ∀ n sp, endsS (n, sp) 32 = (n, true) := fun n sp => by unfold endsS; simp
      refine ⟨?_, ?_, ?_⟩
      · intro k k' f f' n n' sp sp' c c' h1 h2 h3 h4 h5 h6
        have hs : strip (c.wd k) = strip (c'.wd k') := by simp [strip, Cu.wd, h1, h2, h3, h6]
        have hf : c.far = c'.far := by simp [Cu.far, h1]
        rw [tidyR, if_pos rfl]
        by_cases hn : nextW us = true
        · rw [if_pos ⟨rfl, hn⟩, mW, if_pos hb, mW, if_pos hb, he]
          have := iB (k + 1) (k' + 1) false 0 true true (Int.le_refl _) (fun _ _ => ⟨rfl, rfl⟩)
          simp only [ER, Prod.mk.injEq] at this ⊢
          simp [hs, hf, this.1, this.2]
        · rw [if_neg (fun h => hn h.2), mW, if_pos hb, he]
          obtain ⟨r, e1, e2⟩ := iC (k + 1) k' f' n' sp' c' (by simpa using hn)
          rw [e1]
          simp only [ER, Prod.mk.injEq] at e2 ⊢
          simp [hs, hf, e2.1, e2.2]
      · intro k k' f n sp sp' hn hp
        rw [tidyR, if_pos rfl, if_neg (by simp), mW, if_pos hb, he]
        exact iB (k + 1) k' f n true sp' hn (fun h1 h2 => ⟨rfl, (hp h1 h2).2⟩)
      · intro k k' f' n' sp' c' hn
        have hn' : nextW us = false := by simpa [nextW] using hn
        rw [tidyR, if_pos rfl, if_neg (by simp [hn']), mW, if_pos hb, he]
        exact iC (k + 1) k' f' n' sp' c' hn'
    · by_cases h10 : u = 10
      · subst h10
        have hb : btw 10 = true := by decide
        have he : ∀ n sp, endsS (n, sp) 10 = (n + 1, sp) := fun n sp => by unfold endsS; simp
        refine ⟨?_, ?_, ?_⟩
        · intro k k' f f' n n' sp sp' c c' h1 h2 h3 h4 h5 h6
          have hs : strip (c.wd k) = strip (c'.wd k') := by simp [strip, Cu.wd, h1, h2, h3, h6]
          have hf : c.far = c'.far := by simp [Cu.far, h1]
          rw [tidyR, if_neg h32, mW, if_pos hb, mW, if_pos hb, he, hb]
          have := iB (k + 1) (k' + 1) false 1 false false (by omega) (fun h => by omega)
          simp only [ER, Prod.mk.injEq, Int.zero_add, Bool.not_true] at this ⊢
          simp [hs, hf, this.1, this.2]
        · intro k k' f n sp sp' hn hp
          rw [tidyR, if_neg h32, mW, if_pos hb, mW, if_pos hb, he, he, hb]
          exact iB (k + 1) (k' + 1) f (n + 1) sp sp' (by omega) (fun h => by omega)
        · intro k k' f' n' sp' c' hn
          rw [tidyR, if_neg h32, mW, if_pos hb, mW, if_pos hb, he, he, hb]
          exact ⟨_, rfl, iB (k + 1) (k' + 1) false (0 + 1) true false (by omega) (fun h => by omega)⟩
      · have hb : btw u = false := by unfold btw; simp [h32, h10]
        have hbn : ¬ btw u = true := by rw [hb]; simp
        refine ⟨?_, ?_, ?_⟩
        · intro k k' f f' n n' sp sp' c c' h1 h2 h3 h4 h5 h6
          rw [tidyR, if_neg h32, mW, if_neg hbn, mW, if_neg hbn, hb]
          exact iA (k + 1) (k' + 1) f f' n n' sp sp' _ _ (by dsimp only; rw [h1]) h2 h3 (by dsimp only; omega) (by dsimp only; omega) (by dsimp only; omega)
        · intro k k' f n sp sp' hn hp
          obtain ⟨g1, g2⟩ := gap_same (av := av) hp
          rw [tidyR, if_neg h32, mW, if_neg hbn, mW, if_neg hbn, hb, g1, g2]
          have := iA (k + 1) (k' + 1) f f 0 0 false false ⟨k, advM av u, gapM av f n sp', n⟩ ⟨k', advM av u, gapM av f n sp', n⟩ rfl rfl rfl (by dsimp only; omega) (by dsimp only; omega) (by dsimp only; omega)
          simp only [ER, Prod.mk.injEq, Bool.not_false] at this ⊢
          exact ⟨this.1, by rw [this.2]⟩
        · intro k k' f' n' sp' c' hn
          simp [nextW, h32, h10] at hn
theorem words_tidy (av us : List Int) : (wordsS av us).ws.map strip = (wordsS av (tidyR false us)).ws.map strip ∧ (wordsS av us).far = (wordsS av (tidyR false us)).far := by
  obtain ⟨a1, a2⟩ := wordsS_mW av us
  obtain ⟨b1, b2⟩ := wordsS_mW av (tidyR false us)
  have := (tidy_go av us).2.1 0 0 true 0 false false (Int.le_refl _) (fun _ h => by cases h)
  simp only [ER, Prod.mk.injEq] at this
  rw [a1, a2, b1, b2]
  exact this
theorem tidy_len : ∀ (us : List Int) (b : Bool), (tidyR b us).length ≤ us.length := by
  intro us
  induction us with
  | nil => intro b; simp [tidyR]
  | cons u us ih =>
    intro b
    rw [tidyR]
    split
    · split
      · have := ih false; simp only [List.length_cons]; omega
      · have := ih b; simp only [List.length_cons]; omega
    · have := ih (!btw u); simp only [List.length_cons]; omega
theorem tidy_ub : ∀ (us : List Int) (b : Bool), UB us → UB (tidyR b us) := by
  intro us
  induction us with
  | nil => intro b _ x hx; simp [tidyR] at hx
  | cons u us ih =>
    intro b hu x hx
    have h1 : UB us := fun y hy => hu y (by simp [hy])
    rw [tidyR] at hx
    split at hx
    · split at hx
      · rcases List.mem_cons.1 hx with rfl | hx
        · omega
        · exact ih _ h1 x hx
      · exact ih _ h1 x hx
    · rcases List.mem_cons.1 hx with rfl | hx
      · exact hu _ (by simp)
      · exact ih _ h1 x hx

/-! Least, greatest, all. -/
def tot (ws : List Wd) : Int := (ws.map fun w => w.w + w.gap).sum
theorem tot_cons (w : Wd) (ws : List Wd) : tot (w :: ws) = w.w + w.gap + tot ws := by simp [tot]
theorem adv_pos {av : List Int} (h : ∀ x ∈ av, 0 ≤ x) (u : Int) : 0 ≤ advM av u := by
  unfold advM
  by_cases hu : u.toNat < av.length
  · rw [List.getD_eq_getElem?_getD, List.getElem?_eq_getElem hu]; exact h _ (List.getElem_mem hu)
  · rw [List.getD_eq_getElem?_getD, List.getElem?_eq_none (by omega)]; simp
def WPos (w : Wd) : Prop := 0 ≤ w.w ∧ w.w ≤ 1099511627776 ∧ 0 ≤ w.gap
theorem mW_tot {av : List Int} (hav : ∀ x ∈ av, 0 ≤ x) : ∀ (us : List Int) (k : Nat) (f : Bool) (n : Int) (sp : Bool),
    ((∀ w ∈ (mW av us k f n sp none).1, WPos w) ∧ tot (mW av us k f n sp none).1 ≤ wideM av us + if sp then advM av 32 else 0) ∧
    (∀ c : Cu, 0 ≤ c.sum → 0 ≤ c.gap → (∀ w ∈ (mW av us k f n sp (some c)).1, WPos w) ∧ tot (mW av us k f n sp (some c)).1 ≤ wideM av us + c.sum + c.gap) := by
  have h32 := adv_pos hav 32
  have hW : ∀ (c : Cu) (k : Nat), 0 ≤ c.sum → 0 ≤ c.gap → WPos (c.wd k) ∧ (c.wd k).w + (c.wd k).gap ≤ c.sum + c.gap := fun c k h1 h2 => by
    unfold WPos Cu.wd cutM; dsimp only; omega
  intro us
  induction us with
  | nil =>
    intro k f n sp
    refine ⟨⟨by simp [mW], by simp [mW, tot, wideM]; split <;> omega⟩, fun c h1 h2 => ?_⟩
    obtain ⟨w1, w2⟩ := hW c k h1 h2
    refine ⟨by simpa [mW] using w1, ?_⟩
    simp only [mW, tot_cons]
    simp [tot, wideM]
    exact w2
  | cons u us ih =>
    intro k f n sp
    have hu := adv_pos hav u
    rw [wide_cons]
    refine ⟨?_, fun c h1 h2 => ?_⟩
    · rw [mW]
      by_cases hb : btw u = true
      · rw [if_pos hb]
        obtain ⟨⟨i1, i2⟩, _⟩ := ih (k + 1) f (endsS (n, sp) u).1 (endsS (n, sp) u).2
        refine ⟨i1, ?_⟩
        by_cases h10 : u = 10
        · have : (endsS (n, sp) u).2 = sp := by unfold endsS; rw [if_pos h10]
          rw [this] at i2; rw [this]; omega
        · replace hb : u = 32 := by
            unfold btw at hb; simp [h10] at hb; exact hb
          have : (endsS (n, sp) u).2 = true := by unfold endsS; rw [if_neg h10]
          rw [this] at i2; rw [this]
          subst hb
          rw [if_pos rfl] at i2
          split <;> omega
      · rw [if_neg hb]
        have hg : 0 ≤ gapM av f n sp ∧ gapM av f n sp ≤ if sp then advM av 32 else 0 := by
          unfold gapM
          by_cases hc : n = 0 ∧ sp = true ∧ f = false
          · rw [if_pos hc, if_pos hc.2.1]; unfold cutM; omega
          · rw [if_neg hc]; split <;> omega
        obtain ⟨_, i2⟩ := ih (k + 1) f 0 false
        obtain ⟨j1, j2⟩ := i2 ⟨k, advM av u, gapM av f n sp, n⟩ hu hg.1
        refine ⟨j1, ?_⟩
        dsimp only at j2 ⊢
        omega
    · obtain ⟨w1, w2⟩ := hW c k h1 h2
      rw [mW]
      by_cases hb : btw u = true
      · rw [if_pos hb]
        obtain ⟨⟨i1, i2⟩, _⟩ := ih (k + 1) false (endsS (0, false) u).1 (endsS (0, false) u).2
        refine ⟨fun w hw => ?_, ?_⟩
        · rcases List.mem_cons.1 hw with rfl | hw
          · exact w1
          · exact i1 w hw
        · rw [tot_cons]
          by_cases h10 : u = 10
          · have : (endsS (0, false) u).2 = false := by unfold endsS; rw [if_pos h10]
            rw [this] at i2 ⊢
            simp only [Bool.false_eq_true, if_false] at i2
            omega
          · replace hb : u = 32 := by
              unfold btw at hb; simp [h10] at hb; exact hb
            have : (endsS (0, false) u).2 = true := by unfold endsS; rw [if_neg h10]
            rw [this] at i2 ⊢
            subst hb
            rw [if_pos rfl] at i2
            omega
      · rw [if_neg hb]
        obtain ⟨_, i2⟩ := ih (k + 1) f n sp
        obtain ⟨j1, j2⟩ := i2 ⟨c.a, c.sum + advM av u, c.gap, c.forced⟩ (by dsimp only; omega) h2
        refine ⟨j1, ?_⟩
        dsimp only at j2 ⊢
        omega
theorem tot_pos (ws : List Wd) (h : ∀ w ∈ ws, WPos w) : 0 ≤ tot ws := by
  induction ws with
  | nil => simp [tot]
  | cons w ws ih =>
    rw [tot_cons]
    have h1 := h w (by simp)
    have h2 := ih (fun x hx => h x (by simp [hx]))
    unfold WPos at h1
    omega
theorem ext_le : ∀ (ws : List Wd) (s : ES), (∀ w ∈ ws, WPos w) → 0 ≤ s.row.sum → s.least ≤ max s.great (cutM s.row.sum) →
    (closeM ((ws.map Wd.g).foldl extS s)).least ≤ (closeM ((ws.map Wd.g).foldl extS s)).great ∧ (closeM ((ws.map Wd.g).foldl extS s)).great ≤ max s.great (cutM (s.row.sum + tot ws)) := by
  intro ws
  induction ws with
  | nil =>
    intro s _ h1 h2
    simp only [List.map_nil, List.foldl_nil, closeM, tot, List.sum_nil, Int.add_zero]
    exact ⟨h2, Int.le_refl _⟩
  | cons w ws ih =>
    intro s hw h1 h2
    have hp := hw w (by simp)
    have hws : ∀ x ∈ ws, WPos x := fun x hx => hw x (by simp [hx])
    have ht := tot_pos ws hws
    rw [List.map_cons, List.foldl_cons, tot_cons]
    unfold WPos at hp
    have hr1 : (extS s w.g).row.sum = (if s.first = false ∧ w.forced ≤ 0 then s.row.sum + w.gap + w.w else w.w) := by
      unfold extS
      by_cases hc : s.first = false ∧ w.forced ≤ 0
      · rw [if_pos (show s.first = false ∧ w.g.forced ≤ 0 from hc), if_pos hc]; simp [Wd.g]; omega
      · rw [if_neg (show ¬ (s.first = false ∧ w.g.forced ≤ 0) from hc), if_neg hc]; simp [Wd.g]
    have hg1 : (extS s w.g).great = (if s.first = false ∧ w.forced ≤ 0 then s.great else max s.great (cutM s.row.sum)) := by
      unfold extS
      by_cases hc : s.first = false ∧ w.forced ≤ 0
      · rw [if_pos (show s.first = false ∧ w.g.forced ≤ 0 from hc), if_pos hc]
      · rw [if_neg (show ¬ (s.first = false ∧ w.g.forced ≤ 0) from hc), if_neg hc]; simp [closeM]
    have hl1 : (extS s w.g).least ≤ max s.least w.w := by
      unfold extS
      by_cases hc : s.first = false ∧ w.g.forced ≤ 0
      · rw [if_pos hc]
        show (if s.least < w.w then w.w else s.least) ≤ _
        by_cases hq : s.least < w.w
        · rw [if_pos hq]; omega
        · rw [if_neg hq]; omega
      · rw [if_neg hc]
        show (if s.first = true ∨ s.least < w.w then w.w else s.least) ≤ _
        by_cases hq : s.first = true ∨ s.least < w.w
        · rw [if_pos hq]; omega
        · rw [if_neg hq]; omega
    by_cases hc : s.first = false ∧ w.forced ≤ 0
    · rw [if_pos hc] at hr1 hg1
      obtain ⟨i1, i2⟩ := ih (extS s w.g) hws (by omega) (by rw [hr1, hg1]; unfold cutM at *; omega)
      refine ⟨i1, ?_⟩
      rw [hr1, hg1] at i2
      unfold cutM at *; omega
    · rw [if_neg hc] at hr1 hg1
      obtain ⟨i1, i2⟩ := ih (extS s w.g) hws (by omega) (by rw [hr1, hg1]; unfold cutM at *; omega)
      refine ⟨i1, ?_⟩
      rw [hr1, hg1] at i2
      unfold cutM at *; omega
theorem words_le {av us : List Int} (hav : ∀ x ∈ av, 0 ≤ x) : (extM ((wordsS av us).ws.map Wd.g)).least ≤ (extM ((wordsS av us).ws.map Wd.g)).great ∧ (extM ((wordsS av us).ws.map Wd.g)).great ≤ cutM (wideM av us) := by
  obtain ⟨a1, a2⟩ := wordsS_mW av us
  obtain ⟨⟨m1, m2⟩, _⟩ := mW_tot hav us 0 true 0 false
  rw [← a1] at m1 m2
  obtain ⟨e1, e2⟩ := ext_le (wordsS av us).ws ⟨true, 0, 0, false, []⟩ m1 (by simp) (by simp; omega)
  have := tot_pos _ m1
  refine ⟨e1, Int.le_trans e2 ?_⟩
  simp at m2
  simp
  unfold cutM
  omega
theorem mW_i64 (av : List Int) : ∀ (us : List Int) (k : Nat) (f : Bool) (n : Int) (sp : Bool) (cur : Option Cu), (∀ c, cur = some c → I64 c.gap) → ∀ w ∈ (mW av us k f n sp cur).1, I64 w.w ∧ I64 w.gap := by
  have hW : ∀ (c : Cu) (k : Nat), I64 c.gap → I64 (c.wd k).w ∧ I64 (c.wd k).gap := fun c k h => ⟨by unfold Cu.wd I64 cutM; dsimp only; omega, h⟩
  intro us
  induction us with
  | nil =>
    intro k f n sp cur h w hw
    cases cur with
    | none => simp [mW] at hw
    | some c => simp [mW] at hw; subst hw; exact hW c k (h c rfl)
  | cons u us ih =>
    intro k f n sp cur h w hw
    cases cur with
    | none =>
      rw [mW] at hw
      split at hw
      · exact ih _ _ _ _ _ (fun c hc => by cases hc) w hw
      · refine ih _ _ _ _ _ (fun c hc => ?_) w hw
        cases hc
        unfold gapM I64 cutM; dsimp only; split <;> omega
    | some c =>
      rw [mW] at hw
      split at hw
      · rcases List.mem_cons.1 hw with rfl | hw
        · exact hW c k (h c rfl)
        · exact ih _ _ _ _ _ (fun c hc => by cases hc) w hw
      · exact ih _ _ _ _ _ (fun c' hc => by cases hc; exact h c rfl) w hw
theorem words_i64 (av us : List Int) : ∀ x ∈ (wordsS av us).ws.map Wd.g, I64 x.w ∧ I64 x.gap := fun x hx => by
  obtain ⟨y, hy, rfl⟩ := List.mem_map.1 hx
  rw [(wordsS_mW av us).1] at hy
  exact mW_i64 av us 0 true 0 false none (fun c hc => by cases hc) y hy
end Go.Proofs.Ytkdjlaejbimchaa
