/- What rows hold, in plain Lean. -/
import Derived.Test.YtepkhfebflmieaaLinP
namespace Go.Proofs.Ytepkhfebflmieaa
open Go.RowKit

/-- Words that follow in a row. -/
inductive Chain (to_ : Int) : Int → List Wg → List Int → Int → Prop
  | nil {a : Int} : Chain to_ a [] [] a
  | cons {a b : Int} {w : Wg} {p : List Wg} {ys : List Int} : w.forced = 0 → wrap64 (wrap64 (a + w.gap) + w.w) ≤ to_ → Chain to_ (wrap64 (wrap64 (a + w.gap) + w.w)) p ys b → Chain to_ a (w :: p) (wrap64 (a + w.gap) :: ys) b
theorem wrap_assoc (a b c : Int) : wrap64 (a + wrap64 (b + c)) = wrap64 (wrap64 (a + b) + c) := by unfold wrap64; omega

theorem fillL_chain (to_ : Int) : ∀ (ws : List Wg) (at_ : Int) (xs : List Int), ∃ p s ys b, ws = p ++ s ∧ fillL to_ ws at_ xs = (b, xs ++ ys) ∧ Chain to_ at_ p ys b ∧ ys.length = p.length ∧ ∀ w, s.head? = some w → w.forced ≠ 0 ∨ to_ < wrap64 (wrap64 (b + w.gap) + w.w) := by
  intro ws
  induction ws with
  | nil => intro at_ xs; exact ⟨[], [], [], at_, rfl, by simp [fillL], .nil, rfl, by simp⟩
  | cons w ws ih =>
    intro at_ xs
    rw [fillL]
    by_cases hc : w.forced ≠ 0 ∨ to_ < wrap64 (wrap64 (at_ + w.gap) + w.w)
    · rw [if_pos hc]
      exact ⟨[], w :: ws, [], at_, rfl, by simp, .nil, rfl, fun v hv => by simp at hv; subst hv; exact hc⟩
    · rw [if_neg hc]
      obtain ⟨p, s, ys, b, h1, h2, h3, h4, h5⟩ := ih (wrap64 (at_ + wrap64 (w.gap + w.w))) (xs ++ [wrap64 (at_ + w.gap)])
      rw [wrap_assoc] at h2 h3
      have hf : w.forced = 0 := by
        rcases Decidable.em (w.forced = 0) with h | h
        · exact h
        · exact absurd (.inl h) hc
      refine ⟨w :: p, s, wrap64 (at_ + w.gap) :: ys, b, by rw [h1]; rfl, ?_, .cons hf (by rcases Int.lt_or_le to_ (wrap64 (wrap64 (at_ + w.gap) + w.w)) with h | h; exact absurd (.inr h) hc; exact h) h3, by simp [h4], h5⟩
      rw [wrap_assoc, h2]; simp
theorem chain_R {to_ : Int} : ∀ {a : Int} {p : List Wg} {ys : List Int} {b : Int}, Chain to_ a p ys b → ∀ y ∈ ys, R64 y := by
  intro a p ys b h
  induction h with
  | nil => intro y hy; cases hy
  | cons _ _ _ ih =>
    intro y hy
    rcases List.mem_cons.1 hy with rfl | hy
    · exact wrap_R _
    · exact ih y hy
theorem chain_at {to_ : Int} : ∀ {a : Int} {p : List Wg} {ys : List Int} {b : Int}, Chain to_ a p ys b → ∀ (x0 : Int) (w0 : Wg), a = wrap64 (x0 + w0.w) →
    (∀ i (h : i < p.length) (h' : i < ys.length), p[i].forced = 0 ∧ ys[i] = wrap64 (wrap64 ((x0 :: ys)[i]'(by simp; omega) + ((w0 :: p)[i]'(by simp; omega)).w) + p[i].gap) ∧ wrap64 (ys[i] + p[i].w) ≤ to_) ∧
    b = wrap64 ((x0 :: ys).getLast (by simp) + ((w0 :: p).getLast (by simp)).w) := by
  intro a p ys b h
  induction h with
  | nil => intro x0 w0 ha; exact ⟨fun i h => by simp at h, by simpa using ha⟩
  | @cons a b w p ys h1 h2 h3 ih =>
    intro x0 w0 ha
    obtain ⟨i1, i2⟩ := ih (wrap64 (a + w.gap)) w rfl
    refine ⟨fun i hi hi' => ?_, ?_⟩
    · cases i with
      | zero => exact ⟨h1, by simp [ha], h2⟩
      | succ i =>
        have := i1 i (by simpa using hi) (by simpa using hi')
        simpa using this
    · rw [List.getLast_cons (a := x0) (by simp), List.getLast_cons (a := w0) (by simp)]
      exact i2

theorem atM_R (l : List Fl) (left right y h : Int) (h1 : R64 left) : R64 (atM l left right y h).1 := by
  have key : ∀ (l : List Fl) (s : Int × Int × Bool), R64 s.1 → R64 (l.foldl (atS y h) s).1 := by
    intro l
    induction l with
    | nil => intro s a; exact a
    | cons f l ih =>
      intro s a
      rw [List.foldl_cons]
      have hw := wrap_R (f.x + f.w)
      refine ih _ ?_
      unfold atS; split
      · split
        · exact a
        · unfold R64 at *; dsimp only; omega
      · exact a
  exact key l _ h1
theorem down_spec (l : List Fl) (h left right w : Int) : ∀ (n : Nat) (y : Int), bots l y = n → ∃ y', downGo l h left right w y = ((tallM l left right y' h).1, (tallM l left right y' h).2, y') ∧ y ≤ y' ∧ (y' = y ∨ ∃ f ∈ l, y' = wrap64 (f.y + f.h)) := by
  intro n
  induction n using Nat.strongRecOn with
  | ind n ih =>
    intro y hn
    rw [downGo]
    split
    · rename_i hc
      obtain ⟨f, hf, e1, e2⟩ := next_mem hc.1
      obtain ⟨y', h1, h2, h3⟩ := ih _ (hn ▸ bots_lt hc.1) _ rfl
      refine ⟨y', h1, by omega, .inr ?_⟩
      rcases h3 with h3 | h3
      · exact ⟨f, hf, by rw [h3, e1]⟩
      · exact h3
    · exact ⟨y, rfl, Int.le_refl _, .inl rfl⟩

structure RowOk (e : En) (r : Ro) : Prop where
  x0 : ∀ h : 0 < r.xs.length, r.xs[0] = (tallM e.l e.left e.right r.y e.h).1
  xj : ∀ j (hj : j < r.xs.length), 0 < j → ∃ (ha : r.a + j < e.ws.length) (hb : r.a + j - 1 < e.ws.length) (hc : j - 1 < r.xs.length), e.ws[r.a + j].forced = 0 ∧ r.xs[j] = wrap64 (wrap64 (r.xs[j - 1] + e.ws[r.a + j - 1].w) + e.ws[r.a + j].gap) ∧ wrap64 (r.xs[j] + e.ws[r.a + j].w) ≤ (tallM e.l e.left e.right r.y e.h).2
  last : ∀ (h : 0 < r.xs.length) (hb : r.b < e.ws.length), ∃ (hc : r.b - 1 < e.ws.length) (hd : r.xs.length - 1 < r.xs.length), e.ws[r.b].forced = 0 → (tallM e.l e.left e.right r.y e.h).2 < wrap64 (wrap64 (wrap64 (r.xs[r.xs.length - 1] + e.ws[r.b - 1].w) + e.ws[r.b].gap) + e.ws[r.b].w)
def HoldR (e : En) : Nat → Int → List Ro → Int → Prop
  | k, y, [], end_ => k = e.ws.length ∧ end_ = y
  | k, y, r :: rs, end_ => r.a = k ∧ k ≤ r.b ∧ r.b ≤ e.ws.length ∧ r.xs.length = r.b - k ∧ y ≤ r.y ∧ R64 (r.y + e.h) ∧ RowOk e r ∧ HoldR e r.b (r.y + e.h) rs end_

/-- A row of words. -/
theorem full_ok (e : En) (y : Int) (k : Nat) (hk : k < e.ws.length) (hal : e.al = 0) (hleft : R64 e.left) : ∃ y', (fullM e y k e.ws[k]).1.y = y' ∧ (fullM e y k e.ws[k]).1.a = k ∧ k < (fullM e y k e.ws[k]).1.b ∧ (fullM e y k e.ws[k]).1.b ≤ e.ws.length ∧ (fullM e y k e.ws[k]).1.xs.length = (fullM e y k e.ws[k]).1.b - k ∧
    (fullM e y k e.ws[k]).2 = wrap64 (y' + e.h) ∧ y ≤ y' ∧ (y' = y ∨ ∃ f ∈ e.l, y' = wrap64 (f.y + f.h)) ∧ RowOk e (fullM e y k e.ws[k]).1 := by
  obtain ⟨y', d1, d2, d3⟩ := down_spec e.l e.h e.left e.right e.ws[k].w _ y rfl
  obtain ⟨p, s, ys, b, c1, c2, c3, c4, c5⟩ := fillL_chain (tallM e.l e.left e.right y' e.h).2 (e.ws.drop (k + 1)) (wrap64 ((tallM e.l e.left e.right y' e.h).1 + e.ws[k].w)) [(tallM e.l e.left e.right y' e.h).1]
  have hfr : R64 (tallM e.l e.left e.right y' e.h).1 := atM_R _ _ _ _ _ hleft
  obtain ⟨a1, a2⟩ := chain_at c3 (tallM e.l e.left e.right y' e.h).1 e.ws[k] rfl
  have hR := chain_R c3
  have hxs : (fullM e y k e.ws[k]).1.xs = (tallM e.l e.left e.right y' e.h).1 :: ys := by
    unfold fullM
    rw [d1]
    dsimp only
    rw [c2]
    dsimp only
    have ha0 : ∀ z, alM e.al z = 0 := fun z => by rw [hal]; rfl
    simp only [ha0, Int.add_zero]
    rw [List.singleton_append]
    have : ∀ zs : List Int, (∀ z ∈ zs, R64 z) → zs.map (fun x => wrap64 x) = zs := by
      intro zs
      induction zs with
      | nil => intro _; rfl
      | cons z zs ih => intro hz; rw [List.map_cons, wrap64_within _ (hz z (by simp)), ih (fun v hv => hz v (by simp [hv]))]
    exact this _ (fun z hz => by
      rcases List.mem_cons.1 hz with rfl | hz
      · exact hfr
      · exact hR z hz)
  have hb : (fullM e y k e.ws[k]).1.b = k + 1 + ys.length := by
    unfold fullM
    rw [d1]
    dsimp only
    rw [c2]
    simp; omega
  have hy' : (fullM e y k e.ws[k]).1.y = y' := by unfold fullM; rw [d1]
  have ha' : (fullM e y k e.ws[k]).1.a = k := rfl
  have h2 : (fullM e y k e.ws[k]).2 = wrap64 (y' + e.h) := by unfold fullM; rw [d1]
  have hpl : p.length ≤ e.ws.length - (k + 1) := by
    have := congrArg List.length c1
    simp at this; omega
  have hat : ∀ i (h : i < p.length), ∃ h' : k + 1 + i < e.ws.length, e.ws[k + 1 + i] = p[i] := fun i h => by
    refine ⟨by omega, ?_⟩
    have e1 : (e.ws.drop (k + 1))[i]'(by simp; omega) = p[i] := by simp only [c1]; rw [List.getElem_append_left h]
    rw [List.getElem_drop] at e1
    exact e1
  have hat0 : ∀ i (h : i < (e.ws[k] :: p).length), ∃ h' : k + i < e.ws.length, e.ws[k + i] = (e.ws[k] :: p)[i] := fun i h => by
    cases i with
    | zero => exact ⟨hk, rfl⟩
    | succ i =>
      obtain ⟨h', e1⟩ := hat i (by simpa using h)
      refine ⟨by omega, ?_⟩
      simp only [List.getElem_cons_succ]
      rw [← e1]; congr 1; omega
  refine ⟨y', hy', ha', by omega, by omega, by rw [hxs, hb]; simp; omega, h2, d2, d3, ?_⟩
  generalize fullM e y k e.ws[k] = fm at *
  obtain ⟨⟨ry, ra, rb, rx⟩, y2⟩ := fm
  dsimp only at hxs hb hy' ha' h2
  subst hy' ha' hb hxs
  refine ⟨fun h => rfl, fun j hj hj0 => ?_, fun h hb => ?_⟩
  · dsimp only at hj ⊢
    simp only [List.length_cons] at hj
    obtain ⟨i, rfl⟩ : ∃ i, j = i + 1 := ⟨j - 1, by omega⟩
    obtain ⟨b1, b2, b3⟩ := a1 i (by omega) (by omega)
    obtain ⟨w1, w2⟩ := hat i (by omega)
    obtain ⟨w3, w4⟩ := hat0 i (by simp; omega)
    refine ⟨by omega, by omega, by simp; omega, ?_, ?_, ?_⟩
    · have : e.ws[ra + (i + 1)]'(by omega) = p[i]'(by omega) := by rw [← w2]; congr 1; omega
      rw [this]; exact b1
    · have t1 : e.ws[ra + (i + 1)]'(by omega) = p[i]'(by omega) := by rw [← w2]; congr 1; omega
      have t2 : e.ws[ra + (i + 1) - 1]'(by omega) = (e.ws[ra] :: p)[i]'(by simp; omega) := by rw [← w4]; congr 1
      rw [t1, t2]
      simpa using b2
    · have t1 : e.ws[ra + (i + 1)]'(by omega) = p[i]'(by omega) := by rw [← w2]; congr 1; omega
      rw [t1]
      simpa using b3
  · dsimp only at hb ⊢
    refine ⟨by omega, by simp, fun hf0 => ?_⟩
    have hs : s.head? = some e.ws[ra + 1 + ys.length] := by
      have e1 : (e.ws.drop (ra + 1)).drop p.length = s := by rw [c1]; simp
      rw [← e1, List.drop_drop, List.head?_drop, ← c4]
      exact List.getElem?_eq_getElem hb
    have h5 := c5 _ hs
    rcases h5 with h5 | h5
    · exact absurd hf0 h5
    · rw [a2] at h5
      have g1 : ((tallM e.l e.left e.right ry e.h).1 :: ys).getLast (by simp) = ((tallM e.l e.left e.right ry e.h).1 :: ys)[((tallM e.l e.left e.right ry e.h).1 :: ys).length - 1]'(by simp) := List.getLast_eq_getElem _
      have g2 : (e.ws[ra] :: p).getLast (by simp) = e.ws[ra + 1 + ys.length - 1]'(by omega) := by
        rw [List.getLast_eq_getElem]
        obtain ⟨w3, w4⟩ := hat0 p.length (by simp)
        simp only [List.length_cons, Nat.add_sub_cancel]
        rw [← w4]; congr 1; omega
      rw [g1, g2] at h5
      exact h5
theorem hold_empty (e : En) (k : Nat) (hk : k ≤ e.ws.length) (hh : 0 ≤ e.h ∧ e.h ≤ 1125899906842624) (rest : List Ro) (end_ : Int) : ∀ (n : Nat) (y : Int), -1125899906842624 ≤ y → y + n * 1125899906842624 ≤ 9000000000000000000 → (∀ Y, y ≤ Y → Y ≤ y + n * 1125899906842624 → (emptyL e.h k n y).2 = Y → HoldR e k Y rest end_) → HoldR e k y ((emptyL e.h k n y).1 ++ rest) end_ := by
  intro n
  induction n with
  | zero => intro y _ _ h; exact h y (Int.le_refl _) (by simp) rfl
  | succ n ih =>
    intro y h1 h2 h
    rw [Int.natCast_succ, Int.add_mul, Int.one_mul] at h2 h
    have hw : wrap64 (y + e.h) = y + e.h := wrap64_within _ (by omega)
    rw [emptyL, hw] at h ⊢
    rw [List.cons_append, HoldR]
    refine ⟨rfl, Nat.le_refl _, hk, by simp, Int.le_refl _, by dsimp only; unfold R64; omega, ⟨fun h => by simp at h, fun j hj => by simp at hj, fun h => by simp at h⟩, ?_⟩
    exact ih (y + e.h) (by omega) (by omega) (fun Y g1 g2 g3 => h Y (by omega) (by omega) g3)
theorem rows_hold (e : En) (hal : e.al = 0) (hleft : R64 e.left) (hh : 0 ≤ e.h ∧ e.h ≤ 1125899906842624) (hf : ∀ x ∈ e.ws, 0 ≤ x.forced ∧ x.forced ≤ 20) (hl : ∀ f ∈ e.l, wrap64 (f.y + f.h) ≤ 2251799813685248) :
    ∀ (m k : Nat) (y : Int), k ≤ e.ws.length → e.ws.length - k ≤ m → m ≤ 200 → -1125899906842624 ≤ y → y + m * 23643898043695104 ≤ 9000000000000000000 → HoldR e k y (rowsF e m y k).1 (rowsF e m y k).2 := by
  intro m
  induction m with
  | zero =>
    intro k y hk hm _ _ _
    have : k = e.ws.length := by omega
    subst this
    exact ⟨rfl, rfl⟩
  | succ m ih =>
    intro k y hk hm hm2 hy1 hy2
    rw [Int.natCast_succ, Int.add_mul, Int.one_mul] at hy2
    by_cases hlt : k < e.ws.length
    · rw [rowsF_step e m y k hlt]
      have hw := hf _ (List.getElem_mem hlt)
      have hen : (endsOf e.ws[k] k).toNat ≤ 20 := by
        unfold endsOf
        split
        · rw [wrap64_within _ (by omega)]; omega
        · omega
      dsimp only
      refine hold_empty e k hk hh _ _ _ y hy1 (by omega) (fun Y g1 g2 g3 => ?_)
      rw [g3]
      obtain ⟨y', f1, f2, f3, f4, f5, f6, f7, f8, f9⟩ := full_ok e Y k hlt hal hleft
      have hy' : y' ≤ 9000000000000000000 - m * 23643898043695104 - 1125899906842624 := by
        rcases f8 with f8 | ⟨f, hf1, f8⟩
        · omega
        · have := hl f hf1; omega
      have hw2 : wrap64 (y' + e.h) = y' + e.h := wrap64_within _ (by omega)
      rw [HoldR]
      refine ⟨f2, by omega, f4, f5, by omega, by rw [f1]; unfold R64; omega, f9, ?_⟩
      rw [f6, f1, hw2]
      exact ih _ (y' + e.h) f4 (by omega) (by omega) (by omega) (by omega)
    · have : k = e.ws.length := by omega
      subst this
      rw [rowsF_end e _ y _ (Nat.le_refl _)]
      exact ⟨rfl, rfl⟩
end Go.Proofs.Ytepkhfebflmieaa
