/- Advances so many times as great, in plain Lean; what words are at most. -/
import Derived.Test.YtkdjlaejbimchaaTxtS
namespace Go.Proofs.Ytkdjlaejbimchaa
open Go.RowKit

def ab (x : Int) : Int := max x (-x)
def Wd.sc (k : Int) (w : Wd) : Wd := ⟨w.a, w.b, k * w.w, k * w.gap, w.forced⟩
def cost (ws : List Wd) : Int := (ws.map fun w => ab w.w + ab w.gap).sum
theorem cost_cons (w : Wd) (ws : List Wd) : cost (w :: ws) = ab w.w + ab w.gap + cost ws := by simp [cost]
theorem cost_nonneg (ws : List Wd) : 0 ≤ cost ws := by
  induction ws with
  | nil => simp [cost]
  | cons w ws ih => rw [cost_cons]; unfold ab; omega
theorem k_cases {k : Int} (h : 1 ≤ k ∧ k ≤ 7) : k = 1 ∨ k = 2 ∨ k = 3 ∨ k = 4 ∨ k = 5 ∨ k = 6 ∨ k = 7 := by omega
theorem cut_sc {k x : Int} (hk : 1 ≤ k ∧ k ≤ 7) (h : ab x ≤ 150000000000) : cutM (k * x) = k * x ∧ cutM x = x := by
  unfold ab at h; unfold cutM
  rcases k_cases hk with rfl | rfl | rfl | rfl | rfl | rfl | rfl <;> omega
theorem lt_sc {k x y : Int} (hk : 1 ≤ k ∧ k ≤ 7) : k * x < k * y ↔ x < y := by
  rcases k_cases hk with rfl | rfl | rfl | rfl | rfl | rfl | rfl <;> omega
theorem max_sc {k x y : Int} (hk : 1 ≤ k ∧ k ≤ 7) : max (k * x) (k * y) = k * max x y := by
  rcases k_cases hk with rfl | rfl | rfl | rfl | rfl | rfl | rfl <;> omega
theorem adv_sc (av : List Int) (k u : Int) : advM (av.map (k * ·)) u = k * advM av u := by
  unfold advM
  rw [List.getD_eq_getElem?_getD, List.getD_eq_getElem?_getD, List.getElem?_map]
  cases av[u.toNat]? <;> simp
theorem adv_ab {av : List Int} {M : Int} (hM : 0 ≤ M) (h : ∀ x ∈ av, ab x ≤ M) (u : Int) : ab (advM av u) ≤ M := by
  unfold advM
  by_cases hu : u.toNat < av.length
  · rw [List.getD_eq_getElem?_getD, List.getElem?_eq_getElem hu]; exact h _ (List.getElem_mem hu)
  · rw [List.getD_eq_getElem?_getD, List.getElem?_eq_none (by omega)]; unfold ab; simp; omega
theorem wide_sc (av us : List Int) (k : Int) : wideM (av.map (k * ·)) us = k * wideM av us := by
  induction us with
  | nil => simp [wideM]
  | cons u us ih => rw [wide_cons, wide_cons, ih, adv_sc, Int.mul_add]
theorem wide_ab {av : List Int} (h : ∀ x ∈ av, ab x ≤ 1048576) (us : List Int) : ab (wideM av us) ≤ 1048576 * us.length := by
  induction us with
  | nil => simp [wideM, ab]
  | cons u us ih =>
    have := adv_ab (by omega) h u
    rw [wide_cons, List.length_cons]
    unfold ab at *
    omega
def Cu.sc (k : Int) (c : Cu) : Cu := ⟨c.a, k * c.sum, k * c.gap, c.forced⟩
def curC (cur : Option Cu) : Int := match cur with
  | none => 0
  | some c => ab c.sum + ab c.gap
theorem ab_cut (x : Int) : ab (cutM x) ≤ ab x := by unfold ab cutM; omega

theorem mW_sc {av : List Int} {k : Int} (hk : 1 ≤ k ∧ k ≤ 7) (hav : ∀ x ∈ av, ab x ≤ 1048576) : ∀ (us : List Int) (p : Nat) (f : Bool) (n : Int) (sp : Bool) (cur : Option Cu), curC cur + 2097152 * us.length ≤ 150000000000 →
    mW (av.map (k * ·)) us p f n sp (cur.map (Cu.sc k)) = ((mW av us p f n sp cur).1.map (Wd.sc k), false) ∧ (mW av us p f n sp cur).2 = false ∧ cost (mW av us p f n sp cur).1 ≤ curC cur + 2097152 * us.length := by
  intro us
  induction us with
  | nil =>
    intro p f n sp cur h
    cases cur with
    | none => simp [mW, cost, curC]
    | some c =>
      simp only [curC, List.length_nil] at h
      have ha : ab c.sum ≤ 150000000000 := by have : 0 ≤ ab c.gap := by unfold ab; omega
                                              omega
      obtain ⟨c1, c2⟩ := cut_sc hk ha
      simp [mW, Cu.wd, Cu.far, Cu.sc, Wd.sc, c1, c2, cost, curC]
  | cons u us ih =>
    intro p f n sp cur h
    have hau := adv_ab (by omega) hav u
    have ha32 := adv_ab (by omega) hav 32
    rw [List.length_cons] at h ⊢
    cases cur with
    | none =>
      simp only [curC] at h
      rw [Option.map_none, mW, mW]
      split
      · obtain ⟨i1, i2, i3⟩ := ih (p + 1) f (endsS (n, sp) u).1 (endsS (n, sp) u).2 none (by simp only [curC]; omega)
        rw [Option.map_none] at i1
        refine ⟨i1, i2, ?_⟩
        simp only [curC] at i3 ⊢
        omega
      · have hg : ab (gapM av f n sp) ≤ 1048576 := by
          unfold gapM; split
          · have := ab_cut (advM av 32); omega
          · unfold ab; omega
        obtain ⟨g1, g2⟩ := cut_sc hk (x := advM av 32) (by omega)
        have e1 : gapM (av.map (k * ·)) f n sp = k * gapM av f n sp := by
          unfold gapM; rw [adv_sc, g1, g2]; split <;> simp
        have e2 : gapF (av.map (k * ·)) f n sp = false := by
          unfold gapF; rw [adv_sc, g1]; split <;> simp
        have e3 : gapF av f n sp = false := by
          unfold gapF; rw [g2]; split <;> simp
        obtain ⟨i1, i2, i3⟩ := ih (p + 1) f 0 false (some ⟨p, advM av u, gapM av f n sp, n⟩) (by simp only [curC]; omega)
        rw [Option.map_some] at i1
        simp only [Cu.sc] at i1
        rw [e1, e2, e3, adv_sc, i1]
        refine ⟨by simp, by simpa using i2, ?_⟩
        simp only [curC] at i3 ⊢
        omega
    | some c =>
      simp only [curC] at h
      rw [Option.map_some, mW, mW]
      split
      · have ha : ab c.sum ≤ 150000000000 := by have : 0 ≤ ab c.gap := by unfold ab; omega
                                                omega
        obtain ⟨c1, c2⟩ := cut_sc hk ha
        obtain ⟨i1, i2, i3⟩ := ih (p + 1) false (endsS (0, false) u).1 (endsS (0, false) u).2 none (by simp only [curC]; unfold ab at h; omega)
        rw [Option.map_none] at i1
        rw [i1, i2]
        refine ⟨by simp [Cu.wd, Cu.sc, Wd.sc, Cu.far, c1, c2], by simp [Cu.far, c2], ?_⟩
        rw [cost_cons]
        simp only [curC, Cu.wd] at i3 ⊢
        rw [c2]
        omega
      · have e : ab (c.sum + advM av u) ≤ ab c.sum + 1048576 := by unfold ab at *; omega
        obtain ⟨i1, i2, i3⟩ := ih (p + 1) f n sp (some ⟨c.a, c.sum + advM av u, c.gap, c.forced⟩) (by simp only [curC]; omega)
        rw [Option.map_some] at i1
        simp only [Cu.sc] at i1 ⊢
        rw [adv_sc, ← Int.mul_add, i1]
        refine ⟨rfl, i2, ?_⟩
        simp only [curC] at i3 ⊢
        omega
theorem words_sc {av : List Int} {k : Int} (hk : 1 ≤ k ∧ k ≤ 7) (hav : ∀ x ∈ av, ab x ≤ 1048576) (us : List Int) (hl : us.length ≤ 3000) :
    (wordsS (av.map (k * ·)) us).ws = (wordsS av us).ws.map (Wd.sc k) ∧ (wordsS (av.map (k * ·)) us).far = false ∧ (wordsS av us).far = false ∧ cost (wordsS av us).ws ≤ 6291456000 := by
  obtain ⟨a1, a2⟩ := wordsS_mW (av.map (k * ·)) us
  obtain ⟨b1, b2⟩ := wordsS_mW av us
  obtain ⟨i1, i2, i3⟩ := mW_sc hk hav us 0 true 0 false none (by simp only [curC]; omega)
  rw [Option.map_none] at i1
  rw [a1, a2, b1, b2, i1]
  refine ⟨rfl, rfl, i2, ?_⟩
  simp only [curC] at i3
  omega

/-! How wide words are. -/
def Wg.ab (x : Wg) : Int := Proofs.Ytkdjlaejbimchaa.ab x.w + Proofs.Ytkdjlaejbimchaa.ab x.gap
def ES.sc (k : Int) (s : ES) : ES := ⟨s.first, k * s.least, k * s.great, s.far, s.row.map (k * ·)⟩
theorem sum_sc (k : Int) (l : List Int) : (l.map (k * ·)).sum = k * l.sum := by
  induction l with
  | nil => simp
  | cons x l ih => simp [ih, Int.mul_add]
theorem close_sc {k : Int} (hk : 1 ≤ k ∧ k ≤ 7) (s : ES) (hs : ab s.row.sum ≤ 150000000000) (hf : s.far = false) : closeM (s.sc k) = (closeM s).sc k ∧ (closeM s).far = false := by
  obtain ⟨c1, c2⟩ := cut_sc hk hs
  unfold closeM ES.sc
  simp only [sum_sc, c1, c2, hf, max_sc hk]
  simp
theorem ext_sc {k : Int} (hk : 1 ≤ k ∧ k ≤ 7) : ∀ (ws : List Wd) (s : ES), s.far = false → ab s.row.sum + cost ws ≤ 150000000000 →
    closeM (((ws.map (Wd.sc k)).map Wd.g).foldl extS (s.sc k)) = (closeM ((ws.map Wd.g).foldl extS s)).sc k ∧ (closeM ((ws.map Wd.g).foldl extS s)).far = false := by
  intro ws
  induction ws with
  | nil =>
    intro s hf hs
    simp only [List.map_nil, List.foldl_nil]
    exact close_sc hk s (by simp [cost] at hs; exact hs) hf
  | cons w ws ih =>
    intro s hf hs
    rw [cost_cons] at hs
    have hc := cost_nonneg ws
    have hw : 0 ≤ ab w.w ∧ 0 ≤ ab w.gap := by unfold ab; omega
    simp only [List.map_cons, List.foldl_cons]
    obtain ⟨h1, h2⟩ := close_sc hk s (by omega) hf
    have e : extS (s.sc k) (w.sc k).g = (extS s w.g).sc k ∧ (extS s w.g).far = false ∧ ab (extS s w.g).row.sum + cost ws ≤ 150000000000 := by
      unfold extS
      by_cases hc : s.first = false ∧ w.g.forced ≤ 0
      · rw [if_pos hc, if_pos (show (s.sc k).first = false ∧ (w.sc k).g.forced ≤ 0 from hc)]
        refine ⟨?_, hf, ?_⟩
        · have : (s.sc k).least < (w.sc k).g.w ↔ s.least < w.g.w := lt_sc hk
          simp only [this, ES.sc, Wd.g, Wd.sc]
          have t : k * s.least < k * w.w ↔ s.least < w.w := lt_sc hk
          congr 1
          · by_cases h : s.least < w.w <;> simp [t, h]
          · simp
        · simp only [Wd.g, List.sum_append, List.sum_cons, List.sum_nil]
          unfold ab at *
          omega
      · rw [if_neg hc, if_neg (show ¬ ((s.sc k).first = false ∧ (w.sc k).g.forced ≤ 0) from hc), h1]
        refine ⟨?_, h2, ?_⟩
        · have : (s.sc k).least < (w.sc k).g.w ↔ s.least < w.g.w := lt_sc hk
          have h3 : (s.sc k).first = s.first := rfl
          simp only [this, h3, ES.sc, Wd.g, Wd.sc]
          have t : k * s.least < k * w.w ↔ s.least < w.w := lt_sc hk
          congr 1
          by_cases h : s.least < w.w <;> by_cases hfs : s.first = true <;> simp [t, h, hfs]
        · simp only [Wd.g, List.sum_cons, List.sum_nil]
          unfold ab at *
          omega
    rw [e.1]
    exact ih _ e.2.1 e.2.2
theorem extM_sc {k : Int} (hk : 1 ≤ k ∧ k ≤ 7) (ws : List Wd) (h : cost ws ≤ 150000000000) : (extM ((ws.map (Wd.sc k)).map Wd.g)).least = k * (extM (ws.map Wd.g)).least ∧ (extM ((ws.map (Wd.sc k)).map Wd.g)).great = k * (extM (ws.map Wd.g)).great ∧ (extM ((ws.map (Wd.sc k)).map Wd.g)).far = false ∧ (extM (ws.map Wd.g)).far = false := by
  obtain ⟨h1, h2⟩ := ext_sc hk ws ⟨true, 0, 0, false, []⟩ rfl (by simp [ab]; exact h)
  have e : ES.sc k ⟨true, 0, 0, false, []⟩ = ⟨true, 0, 0, false, []⟩ := by simp [ES.sc]
  rw [e] at h1
  unfold extM
  rw [h1]
  exact ⟨rfl, rfl, h2, h2⟩
theorem mem_cost : ∀ (ws : List Wd), ∀ x ∈ ws, ab x.w + ab x.gap ≤ cost ws := by
  intro ws
  induction ws with
  | nil => intro x hx; cases hx
  | cons w ws ih =>
    intro x hx
    rw [cost_cons]
    have := cost_nonneg ws
    rcases List.mem_cons.1 hx with rfl | hx
    · omega
    · have := ih x hx
      have : 0 ≤ ab w.w ∧ 0 ≤ ab w.gap := by unfold ab; omega
      omega
theorem ext_ab {B : Int} (hB : 1099511627776 ≤ B) : ∀ (ws : List Wg) (s : ES), (∀ x ∈ ws, ab x.w ≤ B) → ab s.least ≤ B → ab s.great ≤ B → ab (closeM (ws.foldl extS s)).least ≤ B ∧ ab (closeM (ws.foldl extS s)).great ≤ B := by
  have hc : ∀ s : ES, ab s.great ≤ B → ab (closeM s).great ≤ B := fun s h => by
    have : ab (cutM s.row.sum) ≤ 1099511627776 := by unfold ab cutM; omega
    simp only [closeM]
    unfold ab at *
    omega
  intro ws
  induction ws with
  | nil => intro s _ h1 h2; exact ⟨h1, hc s h2⟩
  | cons w ws ih =>
    intro s hw h1 h2
    have h3 := hw w (by simp)
    rw [List.foldl_cons]
    refine ih _ (fun x hx => hw x (by simp [hx])) ?_ ?_
    · unfold extS
      split
      · dsimp only; split <;> assumption
      · dsimp only; split <;> assumption
    · unfold extS
      split
      · exact h2
      · exact hc s h2
theorem extM_ab {B : Int} (hB : 1099511627776 ≤ B) (ws : List Wg) (h : ∀ x ∈ ws, ab x.w ≤ B) : ab (extM ws).least ≤ B ∧ ab (extM ws).great ≤ B := ext_ab hB ws _ h (by simp [ab]; omega) (by simp [ab]; omega)
theorem mul_in {k x : Int} (hk : 1 ≤ k ∧ k ≤ 7) (h : ab x ≤ 1099511627776) : (-7696581394432 ≤ k * x ∧ k * x ≤ 7696581394432) ∧ -7696581394432 ≤ x * k ∧ x * k ≤ 7696581394432 := by
  unfold ab at h
  rcases k_cases hk with rfl | rfl | rfl | rfl | rfl | rfl | rfl <;> omega
end Go.Proofs.Ytkdjlaejbimchaa
