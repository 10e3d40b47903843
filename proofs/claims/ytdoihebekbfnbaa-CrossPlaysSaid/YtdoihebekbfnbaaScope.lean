/- Scopes: labels and jumps back to them. -/
import Derived.Test.YtdoihebekbfnbaaEvt
import Derived.ScopeJumps
import Derived.AtR
namespace Go.Proofs.Ytdoihebekbfnbaa
open Go.RowKit

section
variable {P : Program} {b : Frame} {a : Act} {k : List Item} {cs : List Frame} {w : World} {F0 : Fence} {n : Nat}
theorem stepR_scope {c : Code} : step P (lone (b.atR a (.code (.scope c) :: k)) cs w) = .next (lone (b.atR a (.code c :: .inScope c :: k)) cs w) :=
  step_lone_go (by simp [stepG, stepG.exec, Frame.atR])
theorem stepR_inScope {c : Code} : step P (lone (b.atR a (.inScope c :: k)) cs w) = .next (lone (b.atR a k) cs w) :=
  step_lone_go (by simp [stepG, stepG.exec, Frame.atR])

theorem wpIn_scope_jumps {c rest : Code} {Q : Exit → Act → World → Prop} (l : Nat) (J : Act → World → Prop) (μ : Act → World → Nat → Prop) (hf : findLabel c l = some rest)
    (first : c.wpIn F0 n P (Exit.jump l (fun a w => J a w ∧ ∃ m, μ a w m) Q) a w)
    (pass : ∀ a w m, J a w → μ a w m → rest.wpIn F0 n P (Exit.jump l (fun a' w' => J a' w' ∧ ∃ m', μ a' w' m' ∧ m' < m) Q) a w) : (Code.scope c).wpIn F0 n P Q a w := by
  intro b k cs hro hb hr
  have hg : gotoIn l (.inScope c :: k) = some (.code rest :: .inScope c :: k) := by simp [gotoIn, hf]
  have hx : ∀ id, exitTo id (.inScope c :: k) = exitTo id k := fun id => by simp [exitTo]
  have out : ∀ {a w e a₁ w₁} {m : Machine}, m = lone (b.atR a (.code rest :: .inScope c :: k)) cs w ∨ m = lone (b.atR a (.code c :: .inScope c :: k)) cs w → (∀ l', e ≠ .goto l') → ArrivesIn (Machine.fenced P F0) P m b (.inScope c :: k) cs e a₁ w₁ → ArrivesIn (Machine.fenced P F0) P m b k cs e a₁ w₁ := by
    intro a w e a₁ w₁ m _ hne harr
    cases e with
    | normal => exact StepsIn.trans harr (.one (fenced_calm hb hr rfl) stepR_inScope)
    | exit id => exact ⟨fun k' hk => harr.1 k' (by rw [hx]; exact hk), fun hr' hk => harr.2 hr' (by rw [hx]; exact hk)⟩
    | goto l' => exact absurd rfl (hne l')
    | ret => exact harr
    | panic ch => exact harr
    | outgrown => exact harr
  have key : ∀ n a w, J a w → μ a w n → ∃ e a' w', Q e a' w' ∧ ArrivesIn (Machine.fenced P F0) P (lone (b.atR a (.code rest :: .inScope c :: k)) cs w) b k cs e a' w' := by
    intro n
    induction n using Nat.strongRecOn with
    | _ n ih =>
      intro a w hJ hn
      obtain ⟨e, a₁, w₁, hq, harr⟩ := pass a w n hJ hn b (.inScope c :: k) cs hro hb hr
      cases e with
      | goto l' =>
        obtain ⟨rfl, hJ', m', hm', hlt⟩ := hq
        obtain ⟨e₂, a₂, w₂, hq₂, harr₂⟩ := ih _ hlt a₁ w₁ hJ' hm'
        exact ⟨e₂, a₂, w₂, hq₂, .of_steps (harr.1 _ hg) harr₂⟩
      | normal => exact ⟨_, a₁, w₁, hq, out (.inl rfl) (by simp) harr⟩
      | exit id => exact ⟨_, a₁, w₁, hq, out (.inl rfl) (by simp) harr⟩
      | ret => exact ⟨_, a₁, w₁, hq, out (.inl rfl) (by simp) harr⟩
      | panic ch => exact ⟨_, a₁, w₁, hq, out (.inl rfl) (by simp) harr⟩
      | outgrown => exact ⟨_, a₁, w₁, hq, out (.inl rfl) (by simp) harr⟩
  have h0 : (lone (b.atR a (.code (.scope c) :: k)) cs w).fenced P F0 := fenced_calm hb hr rfl
  obtain ⟨e, a₁, w₁, hq, harr⟩ := first b (.inScope c :: k) cs hro hb hr
  cases e with
  | goto l' =>
    obtain ⟨rfl, hJ', m', hm'⟩ := hq
    obtain ⟨e₂, a₂, w₂, hq₂, harr₂⟩ := key _ a₁ w₁ hJ' hm'
    exact ⟨e₂, a₂, w₂, hq₂, .of_steps (.one h0 stepR_scope) (.of_steps (harr.1 _ hg) harr₂)⟩
  | normal => exact ⟨_, a₁, w₁, hq, .of_steps (.one h0 stepR_scope) (out (.inr rfl) (by simp) harr)⟩
  | exit id => exact ⟨_, a₁, w₁, hq, .of_steps (.one h0 stepR_scope) (out (.inr rfl) (by simp) harr)⟩
  | ret => exact ⟨_, a₁, w₁, hq, .of_steps (.one h0 stepR_scope) (out (.inr rfl) (by simp) harr)⟩
  | panic ch => exact ⟨_, a₁, w₁, hq, .of_steps (.one h0 stepR_scope) (out (.inr rfl) (by simp) harr)⟩
  | outgrown => exact ⟨_, a₁, w₁, hq, .of_steps (.one h0 stepR_scope) (out (.inr rfl) (by simp) harr)⟩
end

section
variable {rd : Option Nat} {P : Program} {N : Nx} {B : Nat} {w0 : World} {F : Fr} {H : Hp} {c rest : Code} {K : Exit → Fr → Hp → Prop}
/-- By a jump to this label: J; by another: no way out. -/
def jumpH (l : Nat) (J : Fr → Hp → Prop) (K : Exit → Fr → Hp → Prop) : Exit → Fr → Hp → Prop
  | .goto l', F, H => l' = l ∧ J F H
  | e, F, H => K e F H
theorem jumpH_n {l : Nat} {J : Fr → Hp → Prop} (h : K .normal F H) : jumpH l J K .normal F H := h
theorem jumpH_r {l : Nat} {J : Fr → Hp → Prop} (h : K .ret F H) : jumpH l J K .ret F H := h
theorem jumpH_e {l i : Nat} {J : Fr → Hp → Prop} (h : K (.exit i) F H) : jumpH l J K (.exit i) F H := h
theorem jumpH_g {l : Nat} {J : Fr → Hp → Prop} (h : J F H) : jumpH l J K (.goto l) F H := ⟨rfl, h⟩
theorem thenH_g {k : Fr → Hp → Prop} {l : Nat} (h : K (.goto l) F H) : thenH k K (.goto l) F H := h
theorem inBlkH_g {id l : Nat} (h : K (.goto l) F H) : inBlkH id K (.goto l) F H := h
theorem s_label {l : Nat} (h : K .normal F H) : S rd P N B w0 (.label l) F H K := fun _ _ hw a ha => wpIn_label ⟨F, ha, H, hw, h⟩
theorem s_goto {l : Nat} (h : K (.goto l) F H) : S rd P N B w0 (.goto l) F H K := fun _ _ hw a ha => wpIn_goto ⟨F, ha, H, hw, h⟩
theorem s_scope {ι : Type} (l : Nat) (G : ι → Fr) (Hg : ι → Hp) (I : ι → Prop) (μ : ι → Nat) (hf : findLabel c l = some rest)
    (first : S rd P N B w0 c F H (jumpH l (fun F' H' => ∃ i, Sub F' (G i) ∧ SubH H' (Hg i) ∧ I i) K))
    (pass : ∀ i, I i → S rd P N B w0 rest (G i) (Hg i) (jumpH l (fun F' H' => ∃ j, μ j < μ i ∧ Sub F' (G j) ∧ SubH H' (Hg j) ∧ I j) K)) : S rd P N B w0 (.scope c) F H K := fun hn w hw a ha => by
  refine wpIn_scope_jumps l (fun _ _ => True) (fun a w m => ∃ i, μ i = m ∧ Has N (G i) a ∧ Mem B w0 (Hg i) w ∧ I i) hf (wpIn_mono (first hn w hw a ha) ?_) ?_
  · rintro e a' w' ⟨F', h1, H', h2, h3⟩
    cases e with
    | goto l' =>
      obtain ⟨rfl, i, h4, h5, h6⟩ := h3
      exact ⟨rfl, trivial, _, i, rfl, Has.sub h1 h4, h2.sub h5, h6⟩
    | _ => exact ⟨F', h1, H', h2, h3⟩
  · rintro a w m - ⟨i, rfl, h1, h2, h3⟩
    refine wpIn_mono (pass i h3 hn w h2 a h1) ?_
    rintro e a' w' ⟨F', h1, H', h2, h3⟩
    cases e with
    | goto l' =>
      obtain ⟨rfl, j, h7, h4, h5, h6⟩ := h3
      exact ⟨rfl, trivial, _, ⟨j, rfl, Has.sub h1 h4, h2.sub h5, h6⟩, h7⟩
    | _ => exact ⟨F', h1, H', h2, h3⟩
/-- A scope that begins with its label. -/
theorem s_scopeL {ι : Type} {body : Code} (l : Nat) (G : ι → Fr) (Hg : ι → Hp) (I : ι → Prop) (μ : ι → Nat) (i0 : ι) (hs : Sub F (G i0)) (hh : SubH H (Hg i0)) (h0 : I i0)
    (pass : ∀ i, I i → S rd P N B w0 body (G i) (Hg i) (jumpH l (fun F' H' => ∃ j, μ j < μ i ∧ Sub F' (G j) ∧ SubH H' (Hg j) ∧ I j) K)) : S rd P N B w0 (.scope (.seq (.label l) body)) F H K :=
  s_scope (rest := .seq .skip body) l G Hg I μ (by simp [findLabel]) (s_seq (s_label (thenH_n (s_sub hs hh (S.mono (pass i0 h0) fun e F' H' hk => by
    cases e with
    | goto l' => obtain ⟨h1, j, _, h⟩ := hk; exact ⟨h1, j, h⟩
    | _ => exact hk))))) (fun i hi => s_seq (s_skip (thenH_n (pass i hi))))
/-- A scope whose label is never jumped to. -/
theorem s_scope0 (l : Nat) (hf : findLabel c l = some rest) (h : S rd P N B w0 c F H (jumpH l (fun _ _ => False) K)) : S rd P N B w0 (.scope c) F H K :=
  s_scope (ι := Empty) l (fun i => nomatch i) (fun i => nomatch i) (fun i => nomatch i) (fun i => nomatch i) hf (S.mono h fun e F' H' hk => by
    cases e with
    | goto l' => exact hk.2.elim
    | _ => exact hk) (fun i => nomatch i)
end
end Go.Proofs.Ytdoihebekbfnbaa
