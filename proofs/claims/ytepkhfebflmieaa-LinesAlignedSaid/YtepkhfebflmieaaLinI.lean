/- Alignment, in plain Lean. -/
import Derived.Test.YtepkhfebflmieaaLinH
namespace Go.Proofs.Ytepkhfebflmieaa
open Go.RowKit

def En.to (e : En) (a : Int) : En := { e with al := a }
/-- Rows of three alignments. -/
structure RowAl (e : En) (r0 r1 r2 : Ro) : Prop where
  y1 : r1.y = r0.y
  y2 : r2.y = r0.y
  a1 : r1.a = r0.a
  a2 : r2.a = r0.a
  b1 : r1.b = r0.b
  b2 : r2.b = r0.b
  l1 : r1.xs.length = r0.xs.length
  l2 : r2.xs.length = r0.xs.length
  ab : r0.a ≤ r0.b
  bn : r0.b ≤ e.ws.length
  len : r0.xs.length = r0.b - r0.a
  move : ∀ (h : 0 < r0.xs.length), ∃ (hc : r0.b - 1 < e.ws.length) (hd : r0.xs.length - 1 < r0.xs.length) (free : Int), free = max (wrap64 (wrap64 ((tallM e.l e.left e.right r0.y e.h).2 - r0.xs[r0.xs.length - 1]) - e.ws[r0.b - 1].w)) 0 ∧
    ∀ k (h0 : k < r0.xs.length) (h1 : k < r1.xs.length) (h2 : k < r2.xs.length), r1.xs[k] = wrap64 (r0.xs[k] + free) ∧ r2.xs[k] = wrap64 (r0.xs[k] + free / 2)
inductive AlL (e : En) : List Ro → List Ro → List Ro → Prop
  | nil : AlL e [] [] []
  | cons {a b c : Ro} {us vs ts : List Ro} : RowAl e a b c → AlL e us vs ts → AlL e (a :: us) (b :: vs) (c :: ts)
theorem AlL.len {e : En} : ∀ {us vs ts : List Ro}, AlL e us vs ts → vs.length = us.length ∧ ts.length = us.length := by
  intro us vs ts h
  induction h with
  | nil => exact ⟨rfl, rfl⟩
  | cons _ _ ih => simp [ih.1, ih.2]
theorem AlL.app {e : En} {us vs ts us' vs' ts' : List Ro} (h : AlL e us vs ts) (h' : AlL e us' vs' ts') : AlL e (us ++ us') (vs ++ vs') (ts ++ ts') := by
  induction h with
  | nil => exact h'
  | cons h1 _ ih => exact .cons h1 ih
theorem AlL.at {e : En} : ∀ {us vs ts : List Ro}, AlL e us vs ts → ∀ i (h0 : i < us.length) (h1 : i < vs.length) (h2 : i < ts.length), RowAl e us[i] vs[i] ts[i] := by
  intro us vs ts h
  induction h with
  | nil => intro i h0; simp at h0
  | cons h _ ih =>
    intro i h0 h1 h2
    cases i with
    | zero => exact h
    | succ i => simpa using ih i (by simpa using h0) (by simpa using h1) (by simpa using h2)

theorem at_drop {ws p s : List Wg} {k : Nat} (hk : k < ws.length) (c1 : ws.drop (k + 1) = p ++ s) : ∀ i (h : i < (ws[k] :: p).length), ∃ h' : k + i < ws.length, ws[k + i] = (ws[k] :: p)[i] := fun i h => by
  have hpl : p.length ≤ ws.length - (k + 1) := by
    have := congrArg List.length c1
    simp at this; omega
  cases i with
  | zero => exact ⟨hk, rfl⟩
  | succ i =>
    simp only [List.length_cons] at h
    have e1 : (ws.drop (k + 1))[i]'(by simp; omega) = p[i]'(by omega) := by simp only [c1]; rw [List.getElem_append_left (by omega)]
    rw [List.getElem_drop] at e1
    refine ⟨by omega, ?_⟩
    simp only [List.getElem_cons_succ]
    rw [← e1]; congr 1; omega
theorem full_form (e : En) (y : Int) (k : Nat) (hk : k < e.ws.length) (hleft : R64 e.left) : ∃ (y' : Int) (ys : List Int) (bb : Int), (∀ x ∈ (tallM e.l e.left e.right y' e.h).1 :: ys, R64 x) ∧ k + 1 + ys.length ≤ e.ws.length ∧
    (∃ h : k + ys.length < e.ws.length, bb = wrap64 (((tallM e.l e.left e.right y' e.h).1 :: ys)[ys.length]'(by simp) + e.ws[k + ys.length].w)) ∧
    ∀ a, fullM (e.to a) y k e.ws[k] = (⟨y', k, k + 1 + ys.length, ((tallM e.l e.left e.right y' e.h).1 :: ys).map fun x => wrap64 (x + alM a (max (wrap64 ((tallM e.l e.left e.right y' e.h).2 - bb)) 0))⟩, wrap64 (y' + e.h)) := by
  obtain ⟨y', d1, d2, d3⟩ := down_spec e.l e.h e.left e.right e.ws[k].w _ y rfl
  obtain ⟨p, s, ys, b, c1, c2, c3, c4, c5⟩ := fillL_chain (tallM e.l e.left e.right y' e.h).2 (e.ws.drop (k + 1)) (wrap64 ((tallM e.l e.left e.right y' e.h).1 + e.ws[k].w)) [(tallM e.l e.left e.right y' e.h).1]
  have hfr : R64 (tallM e.l e.left e.right y' e.h).1 := atM_R _ _ _ _ _ hleft
  obtain ⟨a1, a2⟩ := chain_at c3 (tallM e.l e.left e.right y' e.h).1 e.ws[k] rfl
  have hR := chain_R c3
  have hpl : p.length ≤ e.ws.length - (k + 1) := by
    have := congrArg List.length c1
    simp at this; omega
  refine ⟨y', ys, b, fun x hx => ?_, by omega, ⟨by omega, ?_⟩, fun a => ?_⟩
  · rcases List.mem_cons.1 hx with rfl | hx
    · exact hfr
    · exact hR x hx
  · rw [a2]
    have g1 : ((tallM e.l e.left e.right y' e.h).1 :: ys).getLast (by simp) = ((tallM e.l e.left e.right y' e.h).1 :: ys)[ys.length]'(by simp) := by rw [List.getLast_eq_getElem]; simp
    have g2 : (e.ws[k] :: p).getLast (by simp) = e.ws[k + ys.length]'(by omega) := by
      rw [List.getLast_eq_getElem]
      simp only [List.length_cons, Nat.add_sub_cancel]
      obtain ⟨w3, w4⟩ := at_drop hk c1 p.length (by simp)
      rw [← w4]; congr 1; omega
    rw [g1, g2]
  · unfold fullM En.to
    dsimp only
    rw [d1]
    dsimp only
    rw [c2]
    dsimp only
    rw [List.singleton_append]
    simp only [List.length_cons]
    congr 2
    omega
theorem full_al (e : En) (y : Int) (k : Nat) (hk : k < e.ws.length) (hleft : R64 e.left) : RowAl e (fullM (e.to 0) y k e.ws[k]).1 (fullM (e.to 1) y k e.ws[k]).1 (fullM (e.to 2) y k e.ws[k]).1 ∧ (fullM (e.to 1) y k e.ws[k]).2 = (fullM (e.to 0) y k e.ws[k]).2 ∧ (fullM (e.to 2) y k e.ws[k]).2 = (fullM (e.to 0) y k e.ws[k]).2 := by
  obtain ⟨y', ys, bb, h1, h2, ⟨h3, h4⟩, h5⟩ := full_form e y k hk hleft
  rw [h5, h5, h5]
  refine ⟨⟨rfl, rfl, rfl, rfl, rfl, rfl, by simp, by simp, by dsimp only; omega, by dsimp only; omega, by simp; omega, fun h => ?_⟩, rfl, rfl⟩
  dsimp only at h ⊢
  have hx0 : (((tallM e.l e.left e.right y' e.h).1 :: ys).map fun x => wrap64 (x + alM 0 (max (wrap64 ((tallM e.l e.left e.right y' e.h).2 - bb)) 0))) = (tallM e.l e.left e.right y' e.h).1 :: ys := by
    have : ∀ zs : List Int, (∀ z ∈ zs, R64 z) → zs.map (fun x => wrap64 (x + alM 0 (max (wrap64 ((tallM e.l e.left e.right y' e.h).2 - bb)) 0))) = zs := by
      intro zs
      induction zs with
      | nil => intro _; rfl
      | cons z zs ih =>
        intro hz
        rw [List.map_cons, ih (fun v hv => hz v (by simp [hv]))]
        congr 1
        have : alM 0 (max (wrap64 ((tallM e.l e.left e.right y' e.h).2 - bb)) 0) = 0 := rfl
        rw [this, Int.add_zero]
        exact wrap64_within _ (hz z (by simp))
    exact this _ h1
  simp only [hx0]
  refine ⟨by omega, by simp, max (wrap64 ((tallM e.l e.left e.right y' e.h).2 - bb)) 0, ?_, fun j h0 h1 h2 => ?_⟩
  · have t1 : ((tallM e.l e.left e.right y' e.h).1 :: ys)[((tallM e.l e.left e.right y' e.h).1 :: ys).length - 1]'(by simp) = ((tallM e.l e.left e.right y' e.h).1 :: ys)[ys.length]'(by simp) := by simp
    have t2 : e.ws[k + 1 + ys.length - 1]'(by omega) = e.ws[k + ys.length] := by congr 1; omega
    rw [t1, t2, h4]
    congr 1
    unfold wrap64
    omega
  · refine ⟨?_, ?_⟩
    · rw [List.getElem_map]; rfl
    · rw [List.getElem_map]; rfl
theorem emptyL_al (e : En) (k : Nat) (hk : k ≤ e.ws.length) (h : Int) : ∀ (n : Nat) (y : Int), AlL e (emptyL h k n y).1 (emptyL h k n y).1 (emptyL h k n y).1 := by
  intro n
  induction n with
  | zero => intro y; exact .nil
  | succ n ih =>
    intro y
    rw [emptyL]
    exact .cons ⟨rfl, rfl, rfl, rfl, rfl, rfl, rfl, rfl, Nat.le_refl _, hk, by simp, fun h => by simp at h⟩ (ih _)
theorem rows_al (e : En) (hleft : R64 e.left) : ∀ (m k : Nat) (y : Int), k ≤ e.ws.length → AlL e (rowsF (e.to 0) m y k).1 (rowsF (e.to 1) m y k).1 (rowsF (e.to 2) m y k).1 ∧ (rowsF (e.to 1) m y k).2 = (rowsF (e.to 0) m y k).2 ∧ (rowsF (e.to 2) m y k).2 = (rowsF (e.to 0) m y k).2 := by
  intro m
  induction m with
  | zero => intro k y _; exact ⟨.nil, rfl, rfl⟩
  | succ m ih =>
    intro k y hk
    by_cases hlt : k < e.ws.length
    · have s0 := rowsF_step (e.to 0) m y k hlt
      have s1 := rowsF_step (e.to 1) m y k hlt
      have s2 := rowsF_step (e.to 2) m y k hlt
      have hh : ∀ a, (e.to a).h = e.h := fun _ => rfl
      have hw : ∀ a, (e.to a).ws = e.ws := fun _ => rfl
      simp only [hh, hw] at s0 s1 s2
      rw [s0, s1, s2]
      obtain ⟨f1, f2, f3⟩ := full_al e (emptyL e.h k (endsOf e.ws[k] k).toNat y).2 k hlt hleft
      have f4 := fullM_b (e.to 0) (emptyL e.h k (endsOf e.ws[k] k).toNat y).2 k e.ws[k] hlt
      have b1 := f1.b1
      have b2 := f1.b2
      rw [f2, f3, b1, b2]
      obtain ⟨i1, i2, i3⟩ := ih (fullM (e.to 0) (emptyL e.h k (endsOf e.ws[k] k).toNat y).2 k e.ws[k]).1.b (fullM (e.to 0) (emptyL e.h k (endsOf e.ws[k] k).toNat y).2 k e.ws[k]).2 f4.2
      exact ⟨(emptyL_al e k hk e.h _ y).app (.cons f1 i1), i2, i3⟩
    · have hk2 : e.ws.length ≤ k := by omega
      rw [rowsF_end (e.to 0) _ y k hk2, rowsF_end (e.to 1) _ y k hk2, rowsF_end (e.to 2) _ y k hk2]
      exact ⟨.nil, rfl, rfl⟩
end Go.Proofs.Ytepkhfebflmieaa
