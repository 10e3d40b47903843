/- Two texts with an end between them, in plain Lean. -/
import Derived.Test.YtkdjlaejbimchaaTxtN
namespace Go.Proofs.Ytkdjlaejbimchaa
open Go.RowKit

def Wd.sh (s : Nat) (d : Int) (w : Wd) : Wd := ⟨w.a + s, w.b + s, w.w, w.gap, w.forced + d⟩
def shL (s : Nat) (d : Int) : List Wd → List Wd
  | [] => []
  | w :: ws => w.sh s d :: ws.map (Wd.sh s 0)
def endN : List Int → Int → Bool → Int
  | [], n, c => if c then 0 else n
  | u :: us, n, c => if btw u then endN us ((if c then 0 else n) + if u = 10 then 1 else 0) false else endN us 0 true

theorem mW_some (av : List Int) : ∀ (us : List Int) (k : Nat) (f f' : Bool) (n n' : Int) (sp sp' : Bool) (c : Cu), mW av us k f n sp (some c) = mW av us k f' n' sp' (some c) := by
  intro us
  induction us with
  | nil => intros; rfl
  | cons u us ih =>
    intro k f f' n n' sp sp' c
    rw [mW, mW]
    split
    · rfl
    · exact ih _ _ _ _ _ _ _ _
theorem endsS1 (n : Int) (sp : Bool) (u : Int) : (endsS (n, sp) u).1 = n + if u = 10 then 1 else 0 := by unfold endsS; split <;> simp
theorem mW_shift (av : List Int) (s : Nat) : ∀ (us : List Int) (k : Nat) (f : Bool) (n : Int) (sp : Bool) (cur : Option Cu),
    mW av us (k + s) f n sp (cur.map fun c => ⟨c.a + s, c.sum, c.gap, c.forced⟩) = ((mW av us k f n sp cur).1.map (Wd.sh s 0), (mW av us k f n sp cur).2) := by
  intro us
  induction us with
  | nil => intro k f n sp cur; cases cur <;> simp [mW, Cu.wd, Cu.far, Wd.sh]
  | cons u us ih =>
    intro k f n sp cur
    cases cur with
    | none =>
      rw [Option.map_none, mW, mW]
      split
      · have := ih (k + 1) f (endsS (n, sp) u).1 (endsS (n, sp) u).2 none
        rw [show k + s + 1 = k + 1 + s by omega]; exact this
      · have := ih (k + 1) f 0 false (some ⟨k, advM av u, gapM av f n sp, n⟩)
        rw [show k + s + 1 = k + 1 + s by omega]
        rw [Option.map_some] at this
        rw [this]
    | some c =>
      rw [Option.map_some, mW, mW]
      split
      · have := ih (k + 1) false (endsS (0, false) u).1 (endsS (0, false) u).2 none
        rw [show k + s + 1 = k + 1 + s by omega]
        rw [Option.map_none] at this
        rw [this]
        simp [Cu.wd, Cu.far, Wd.sh]
      · have := ih (k + 1) f n sp (some ⟨c.a, c.sum + advM av u, c.gap, c.forced⟩)
        rw [show k + s + 1 = k + 1 + s by omega]
        exact this
/-- A word is under way: its own forced ends say nothing of others. -/
theorem mW_forced (av : List Int) (d : Int) : ∀ (us : List Int) (k : Nat) (f : Bool) (n : Int) (sp : Bool) (c : Cu),
    mW av us k f n sp (some ⟨c.a, c.sum, c.gap, c.forced + d⟩) = (shL 0 d (mW av us k f n sp (some c)).1, (mW av us k f n sp (some c)).2) := by
  have h0 : ∀ ws : List Wd, ws.map (Wd.sh 0 0) = ws := fun ws => by
    have : (Wd.sh 0 0) = id := by funext w; simp [Wd.sh]
    rw [this, List.map_id]
  intro us
  induction us with
  | nil => intro k f n sp c; simp [mW, Cu.wd, Cu.far, Wd.sh, shL]
  | cons u us ih =>
    intro k f n sp c
    rw [mW, mW]
    split
    · simp [shL, Cu.wd, Cu.far, Wd.sh, h0]
    · exact ih (k + 1) f n sp ⟨c.a, c.sum + advM av u, c.gap, c.forced⟩
theorem shL_shL (s : Nat) (d : Int) (ws : List Wd) : (shL 0 d ws).map (Wd.sh s 0) = shL s d ws := by
  cases ws with
  | nil => rfl
  | cons w ws => simp [shL, Wd.sh, Function.comp_def]
theorem mW_behind (av : List Int) (s : Nat) (d : Int) (hd : 0 < d) : ∀ (us : List Int) (k : Nat) (f : Bool) (n : Int) (sp sp' : Bool), 0 ≤ n →
    mW av us (k + s) f (n + d) sp none = (shL s d (mW av us k true n sp' none).1, (mW av us k true n sp' none).2) := by
  intro us
  induction us with
  | nil => intros; rfl
  | cons u us ih =>
    intro k f n sp sp' hn
    rw [mW, mW]
    split
    · have := ih (k + 1) f (endsS (n, sp') u).1 (endsS (n + d, sp) u).2 (endsS (n, sp') u).2 (by rw [endsS1]; split <;> omega)
      rw [show k + s + 1 = k + 1 + s by omega, ← this]
      congr 1
      rw [endsS1, endsS1]
      omega
    · have e1 : gapM av f (n + d) sp = 0 := by unfold gapM; rw [if_neg (by omega)]
      have e2 : gapF av f (n + d) sp = false := by unfold gapF; rw [if_neg (by omega)]
      have e3 : gapM av true n sp' = 0 := by unfold gapM; rw [if_neg (by simp)]
      have e4 : gapF av true n sp' = false := by unfold gapF; rw [if_neg (by simp)]
      rw [e1, e2, e3, e4]
      have h1 := mW_shift av s us (k + 1) f 0 false (some ⟨k, advM av u, 0, n + d⟩)
      rw [Option.map_some, show k + 1 + s = k + s + 1 by omega] at h1
      dsimp only at h1
      rw [h1]
      have h2 := mW_forced av d us (k + 1) f 0 false ⟨k, advM av u, 0, n⟩
      dsimp only at h2
      rw [h2, mW_some av us (k + 1) f true 0 0 false false]
      dsimp only
      rw [shL_shL]
theorem mW_join (av v : List Int) : ∀ (us : List Int) (k : Nat) (f : Bool) (n : Int) (sp : Bool) (cur : Option Cu), 0 ≤ n →
    mW av (us ++ 10 :: v) k f n sp cur = ((mW av us k f n sp cur).1 ++ shL (k + us.length + 1) (endN us n cur.isSome + 1) (mW av v 0 true 0 false none).1, (mW av us k f n sp cur).2 || (mW av v 0 true 0 false none).2) := by
  intro us
  induction us with
  | nil =>
    intro k f n sp cur hn
    have h10 : btw 10 = true := by decide
    cases cur with
    | none =>
      have := mW_behind av (k + 1) (n + 1) (by omega) v 0 f 0 (endsS (n, sp) 10).2 false (Int.le_refl _)
      conv => lhs; rw [List.nil_append, mW, if_pos h10, endsS1, if_pos rfl]
      simp only [Nat.zero_add, Int.zero_add] at this
      rw [this]
      simp [mW, endN]
    | some c =>
      have := mW_behind av (k + 1) 1 (by omega) v 0 false 0 (endsS (0, false) 10).2 false (Int.le_refl _)
      conv => lhs; rw [List.nil_append, mW, if_pos h10, endsS1, if_pos rfl]
      simp only [Nat.zero_add, Int.zero_add] at this
      rw [Int.zero_add, this]
      simp [mW, endN]
  | cons u us ih =>
    intro k f n sp cur hn
    rw [List.cons_append]
    cases cur with
    | none =>
      rw [mW, mW, endN]
      split
      · rw [ih _ _ _ _ _ (by rw [endsS1]; split <;> omega), endsS1]
        simp only [Option.isSome_none, Bool.false_eq_true, if_false, List.length_cons]
        rw [show k + 1 + us.length + 1 = k + (us.length + 1) + 1 by omega]
      · rw [ih _ _ _ _ _ (by omega)]
        simp only [Option.isSome_some, List.length_cons]
        rw [show k + 1 + us.length + 1 = k + (us.length + 1) + 1 by omega]
        simp [Bool.or_assoc]
    | some c =>
      rw [mW, mW, endN]
      split
      · rw [ih _ _ _ _ _ (by rw [endsS1]; split <;> omega), endsS1]
        simp only [Option.isSome_none, Option.isSome_some, if_true, List.length_cons]
        rw [show k + 1 + us.length + 1 = k + (us.length + 1) + 1 by omega]
        simp [Bool.or_assoc]
      · rw [ih _ _ _ _ _ hn]
        simp only [Option.isSome_some, List.length_cons]
        rw [show k + 1 + us.length + 1 = k + (us.length + 1) + 1 by omega]
        cases us with
        | nil => simp [endN]
        | cons u' us' => simp [endN]
/-- Ends behind the last word. -/
def lastB (ws : List Wd) (d : Nat) : Nat := match ws.getLast? with
  | none => d
  | some w => w.b
theorem cnt_cons (u : Int) (us : List Int) : (cnt (u :: us) : Int) = (if u = 10 then 1 else 0) + cnt us := by
  unfold cnt; rw [List.countP_cons]; split <;> simp_all <;> omega
theorem lastB_cons (w : Wd) (ws : List Wd) (d : Nat) : lastB (w :: ws) d = lastB ws w.b := by
  unfold lastB
  cases ws with
  | nil => simp
  | cons w' ws => rw [List.getLast?_cons_cons]; cases h : (w' :: ws).getLast? with
    | none => simp at h
    | some x => rfl
theorem endN_eq (av : List Int) : ∀ (us : List Int) (k : Nat) (f : Bool) (n : Int) (sp : Bool) (cur : Option Cu),
    (cur = none → (mW av us k f n sp cur).1 = [] → endN us n false = n + cnt us) ∧ ((mW av us k f n sp cur).1 ≠ [] → k ≤ lastB (mW av us k f n sp cur).1 0 ∧ endN us n cur.isSome = cnt (us.drop (lastB (mW av us k f n sp cur).1 0 - k))) ∧ (cur.isSome = true → (mW av us k f n sp cur).1 ≠ []) := by
  intro us
  induction us with
  | nil =>
    intro k f n sp cur
    cases cur with
    | none => simp [mW, endN, cnt]
    | some c => simp [mW, endN, cnt, lastB, Cu.wd]
  | cons u us ih =>
    intro k f n sp cur
    have hd : ∀ L, k + 1 ≤ L → (u :: us).drop (L - k) = us.drop (L - (k + 1)) := fun L hL => by
      rw [show L - k = (L - (k + 1)) + 1 by omega, List.drop_succ_cons]
    cases cur with
    | none =>
      rw [mW]
      by_cases hb : btw u = true
      · rw [if_pos hb]
        obtain ⟨i1, i2, i3⟩ := ih (k + 1) f (endsS (n, sp) u).1 (endsS (n, sp) u).2 none
        refine ⟨fun _ h => ?_, fun h => ?_, fun h => by simp at h⟩
        · rw [endN, if_pos hb, cnt_cons]
          have := i1 rfl h
          rw [endsS1] at this
          simp only [Bool.false_eq_true, if_false]
          rw [this]; omega
        · obtain ⟨j1, j2⟩ := i2 h
          refine ⟨by omega, ?_⟩
          rw [endN, if_pos hb, hd _ j1, ← j2, endsS1]
          simp
      · rw [if_neg hb]
        obtain ⟨i1, i2, i3⟩ := ih (k + 1) f 0 false (some ⟨k, advM av u, gapM av f n sp, n⟩)
        have h := i3 rfl
        obtain ⟨j1, j2⟩ := i2 h
        refine ⟨fun _ h' => absurd h' h, fun _ => ⟨by dsimp only; omega, ?_⟩, fun h => by simp at h⟩
        dsimp only
        rw [endN, if_neg hb, hd _ j1, ← j2]; rfl
    | some c =>
      rw [mW]
      by_cases hb : btw u = true
      · rw [if_pos hb]
        obtain ⟨i1, i2, i3⟩ := ih (k + 1) false (endsS (0, false) u).1 (endsS (0, false) u).2 none
        refine ⟨fun h => by simp at h, fun _ => ?_, fun _ => by simp⟩
        dsimp only
        rw [lastB_cons, endN, if_pos hb]
        simp only [Option.isSome_some, if_true]
        by_cases hw : (mW av us (k + 1) false (endsS (0, false) u).1 (endsS (0, false) u).2 none).1 = []
        · have := i1 rfl hw
          rw [endsS1] at this
          rw [hw]
          simp only [lastB, List.getLast?_nil, Cu.wd]
          refine ⟨Nat.le_refl _, ?_⟩
          rw [Nat.sub_self, List.drop_zero, cnt_cons, this]; omega
        · obtain ⟨j1, j2⟩ := i2 hw
          have e : ∀ d, lastB (mW av us (k + 1) false (endsS (0, false) u).1 (endsS (0, false) u).2 none).1 d = lastB (mW av us (k + 1) false (endsS (0, false) u).1 (endsS (0, false) u).2 none).1 0 := fun d => by
            unfold lastB
            cases h : (mW av us (k + 1) false (endsS (0, false) u).1 (endsS (0, false) u).2 none).1.getLast? with
            | none => rw [List.getLast?_eq_none_iff] at h; exact absurd h hw
            | some x => rfl
          rw [e]
          refine ⟨by omega, ?_⟩
          rw [hd _ j1, ← j2, endsS1]; rfl
      · rw [if_neg hb]
        obtain ⟨i1, i2, i3⟩ := ih (k + 1) f n sp (some ⟨c.a, c.sum + advM av u, c.gap, c.forced⟩)
        have h := i3 rfl
        obtain ⟨j1, j2⟩ := i2 h
        refine ⟨fun h' => by simp at h', fun _ => ⟨by omega, ?_⟩, fun _ => h⟩
        rw [endN, if_neg hb, hd _ j1, ← j2]
        cases us with
        | nil => simp [endN]
        | cons u' us' => simp [endN]

/-- The words of two texts with an end between them. -/
theorem words_joined (av us v : List Int) : (wordsS av (us ++ 10 :: v)).ws = (wordsS av us).ws ++ shL (us.length + 1) ((1 : Nat) + cnt (us.drop (lastB (wordsS av us).ws 0)) : Nat) (wordsS av v).ws ∧ (wordsS av (us ++ 10 :: v)).far = ((wordsS av us).far || (wordsS av v).far) := by
  obtain ⟨a1, a2⟩ := wordsS_mW av (us ++ 10 :: v)
  obtain ⟨b1, b2⟩ := wordsS_mW av us
  obtain ⟨c1, c2⟩ := wordsS_mW av v
  have h := mW_join av v us 0 true 0 false none (Int.le_refl _)
  obtain ⟨e1, e2, _⟩ := endN_eq av us 0 true 0 false none
  rw [a1, a2, b1, b2, c1, c2, h]
  refine ⟨?_, rfl⟩
  dsimp only
  rw [Nat.zero_add]
  congr 2
  rw [Option.isSome_none]
  by_cases hw : (mW av us 0 true 0 false none).1 = []
  · rw [e1 rfl hw, hw]
    simp only [lastB, List.getLast?_nil, List.drop_zero]
    omega
  · obtain ⟨_, j2⟩ := e2 hw
    rw [Option.isSome_none] at j2
    rw [j2, Nat.sub_zero]
    omega
end Go.Proofs.Ytkdjlaejbimchaa
