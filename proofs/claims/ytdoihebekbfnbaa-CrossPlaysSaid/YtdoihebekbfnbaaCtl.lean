/- The code around operations, over what is known of the frame. -/
import Derived.Test.YtdoihebekbfnbaaOps
namespace Go.Proofs.Ytdoihebekbfnbaa
open Go.RowKit

/-- Marks that may still be taken. -/
def MkOk (lb : Nat) (mk : Option Nat) (w : World) : Prop := ∀ D, mk = some D → w.heap[D]? = some (.deferred (some [])) ∧ lb ≤ D
def HasE (N : Nx) : Exit → Fr → Act → World → Prop
  | .ret, F, a, w => ∃ mk, Has ⟨N.n, mk, N.lb⟩ F a ∧ MkOk N.lb mk w
  | _, F, a, _ => Has N F a
def X (r : Option Nat) (P : Program) (N : Nx) (c : Code) (F : Fr) (w : World) (K : Exit → Fr → World → Prop) : Prop :=
  ∀ a, Has N F a → c.wpIn (FR r) 0 P (fun e a' w' => ∃ F', HasE N e F' a' w' ∧ K e F' w') a w

section
variable {r : Option Nat} {N : Nx} {F : Fr} {P : Program} {w : World} {K K' : Exit → Fr → World → Prop} {c c1 c2 : Code}

theorem X.mono (h : X r P N c F w K) (hk : ∀ e F' w', K e F' w' → K' e F' w') : X r P N c F w K' :=
  fun a ha => wpIn_mono (h a ha) (fun e a' w' ⟨F', h1, h2⟩ => ⟨F', h1, hk _ _ _ h2⟩)
theorem x_sub {G : Fr} (hs : Sub F G) (h : X r P N c G w K) : X r P N c F w K := fun a ha => h a (ha.sub hs)

/-- 'k' where the code goes on, 'K' where it leaves. -/
def thenK (k : Fr → World → Prop) (K : Exit → Fr → World → Prop) : Exit → Fr → World → Prop
  | .normal => k
  | e => K e
theorem x_seq (h : X r P N c1 F w (thenK (fun F' w' => X r P N c2 F' w' K) K)) : X r P N (.seq c1 c2) F w K := fun a ha => by
  refine wpIn_seq (wpIn_mono (h a ha) ?_)
  rintro e a' w' ⟨F', h1, h2⟩
  cases e with
  | normal => exact h2 a' h1
  | _ => exact ⟨F', h1, h2⟩

theorem x_skip (h : K .normal F w) : X r P N .skip F w K := fun a ha => wpIn_skip ⟨F, ha, h⟩
theorem x_exit {id : Nat} (h : K (.exit id) F w) : X r P N (.exit id) F w K := fun a ha => wpIn_exit ⟨F, ha, h⟩
theorem x_ret (hm : MkOk N.lb N.at_ w) (h : K .ret F w) : X r P N .ret F w K := fun a ha => wpIn_ret ⟨F, ⟨N.at_, ha, hm⟩, h⟩

def inBlk (id : Nat) (K : Exit → Fr → World → Prop) : Exit → Fr → World → Prop
  | .exit i, F, w => if i = id then K .normal F w else K (.exit i) F w
  | e, F, w => K e F w
theorem x_block {id : Nat} (h : X r P N c F w (inBlk id K)) : X r P N (.block id c) F w K := fun a ha => by
  refine wpIn_block (wpIn_mono (h a ha) ?_)
  rintro e a' w' ⟨F', h1, h2⟩
  cases e with
  | exit i =>
    simp only [inBlk] at h2
    simp only [Exit.inBlock]
    split
    · rename_i hi; rw [if_pos hi] at h2; exact ⟨F', h1, h2⟩
    · rename_i hi; rw [if_neg hi] at h2; exact ⟨F', h1, h2⟩
  | _ => exact ⟨F', h1, h2⟩

theorem thenK_n {k : Fr → World → Prop} (h : k F w) : thenK k K .normal F w := h
theorem thenK_e {k : Fr → World → Prop} {i : Nat} (h : K (.exit i) F w) : thenK k K (.exit i) F w := h
theorem thenK_r {k : Fr → World → Prop} (h : K .ret F w) : thenK k K .ret F w := h
theorem inBlk_n {id : Nat} (h : K .normal F w) : inBlk id K .normal F w := h
theorem inBlk_r {id : Nat} (h : K .ret F w) : inBlk id K .ret F w := h
theorem inBlk_s {id : Nat} (h : K .normal F w) : inBlk id K (.exit id) F w := (if_pos rfl).mpr h
theorem inBlk_o {id i : Nat} (hi : i ≠ id) (h : K (.exit i) F w) : inBlk id K (.exit i) F w := (if_neg hi).mpr h

theorem x_cond_t {x : Operand} {b : Bool} (hx : evO F x = some (.bool b)) (hb : b = true) (h : X r P N c1 F w K) : X r P N (.cond x c1 c2) F w K := fun a ha => by
  subst hb; exact wpIn_cond_true (ha.ev hx) (h a ha)
theorem x_cond_f {x : Operand} {b : Bool} (hx : evO F x = some (.bool b)) (hb : b = false) (h : X r P N c2 F w K) : X r P N (.cond x c1 c2) F w K := fun a ha => by
  subst hb; exact wpIn_cond_false (ha.ev hx) (h a ha)
theorem x_cond {x : Operand} {b : Bool} (hx : evO F x = some (.bool b)) (h1 : b = true → X r P N c1 F w K) (h2 : b = false → X r P N c2 F w K) : X r P N (.cond x c1 c2) F w K := by
  cases b
  · exact x_cond_f hx rfl (h2 rfl)
  · exact x_cond_t hx rfl (h1 rfl)

theorem x_region {id : Nat} {l : List Oper} (h : XO r P N l.toArray l F w (K .normal)) : X r P N (.region id l.toArray false) F w K := fun a ha =>
  wpIn_region_lit (h a ha _ fun F' _ _ h1 h2 => ⟨F', h1, h2⟩)

/-- A loop: a state of one's own, a measure on it. -/
theorem x_loop {ι : Type} (G : ι → Fr) (I : ι → World → Prop) (μ : ι → Nat) (i0 : ι) (hs : Sub F (G i0)) (h0 : I i0 w)
    (h : ∀ i w, I i w → X r P N c (G i) w (thenK (fun F' w' => ∃ j, μ j < μ i ∧ Sub F' (G j) ∧ I j w') K)) : X r P N (.loop c) F w K := fun a ha => by
  refine wpIn_loop_ghost (fun n a w => ∃ i, μ i = n ∧ Has N (G i) a ∧ I i w) (μ i0) ⟨i0, rfl, ha.sub hs, h0⟩ ?_
  rintro n a w ⟨i, rfl, hi, hI⟩
  refine wpIn_mono (h i w hI a hi) ?_
  rintro e a' w' ⟨F', h1, h2⟩
  cases e with
  | normal =>
    obtain ⟨j, hj, hsub, hIj⟩ := h2
    exact ⟨μ j, hj, j, rfl, h1.sub hsub, hIj⟩
  | _ => exact ⟨F', h1, h2⟩

/-- The two ways meet again: what is known behind the first part. -/
theorem x_cut (G : Fr) (W : World → Prop) (h1 : X r P N c1 F w (thenK (fun F' w' => Sub F' G ∧ W w') K)) (h2 : ∀ w', W w' → X r P N c2 G w' K) : X r P N (.seq c1 c2) F w K :=
  x_seq (h1.mono fun e F' w' hk => by
    cases e with
    | normal => exact x_sub hk.1 (h2 w' hk.2)
    | _ => exact hk)
theorem x_cutE {ι : Type} (G : ι → Fr) (W : ι → World → Prop) (h1 : X r P N c1 F w (thenK (fun F' w' => ∃ i, Sub F' (G i) ∧ W i w') K)) (h2 : ∀ i w', W i w' → X r P N c2 (G i) w' K) : X r P N (.seq c1 c2) F w K :=
  x_seq (h1.mono fun e F' w' hk => by
    cases e with
    | normal => obtain ⟨i, h3, h4⟩ := hk; exact x_sub h3 (h2 i w' h4)
    | _ => exact hk)

/-- The ways meet: what is known behind this part. -/
theorem x_join (G : Fr) (W : World → Prop) {K2 : Exit → Fr → World → Prop} (h1 : X r P N c F w (thenK (fun F' w' => Sub F' G ∧ W w') K)) (h2 : ∀ w', W w' → X r P N c2 G w' K2) : X r P N c F w (thenK (fun F' w' => X r P N c2 F' w' K2) K) :=
  h1.mono fun e F' w' hk => by
    cases e with
    | normal => exact x_sub hk.1 (h2 w' hk.2)
    | _ => exact hk
theorem x_joinE {ι : Type} (G : ι → Fr) (W : ι → World → Prop) {K2 : Exit → Fr → World → Prop} (h1 : X r P N c F w (thenK (fun F' w' => ∃ i, Sub F' (G i) ∧ W i w') K)) (h2 : ∀ i w', W i w' → X r P N c2 (G i) w' K2) : X r P N c F w (thenK (fun F' w' => X r P N c2 F' w' K2) K) :=
  h1.mono fun e F' w' hk => by
    cases e with
    | normal => obtain ⟨i, h3, h4⟩ := hk; exact x_sub h3 (h2 i w' h4)
    | _ => exact hk
theorem XO.mono {ops : Array Oper} {l : List Oper} {K K' : Fr → World → Prop} (h : XO r P N ops l F w K) (hk : ∀ F' w', K F' w' → K' F' w') : XO r P N ops l F w K' :=
  fun a ha Q hQ => h a ha Q (fun F' a' w' h1 h2 => hQ F' a' w' h1 (hk _ _ h2))
theorem xo_join {ops : Array Oper} {l : List Oper} (G : Fr) (W : World → Prop) {K2 : Exit → Fr → World → Prop} (h1 : XO r P N ops l F w (fun F' w' => Sub F' G ∧ W w')) (h2 : ∀ w', W w' → X r P N c2 G w' K2) : XO r P N ops l F w (thenK (fun F' w' => X r P N c2 F' w' K2) K .normal) :=
  h1.mono fun F' w' hk => x_sub hk.1 (h2 w' hk.2)
theorem xo_joinE {ι : Type} {ops : Array Oper} {l : List Oper} (G : ι → Fr) (W : ι → World → Prop) {K2 : Exit → Fr → World → Prop} (h1 : XO r P N ops l F w (fun F' w' => ∃ i, Sub F' (G i) ∧ W i w')) (h2 : ∀ i w', W i w' → X r P N c2 (G i) w' K2) : XO r P N ops l F w (thenK (fun F' w' => X r P N c2 F' w' K2) K .normal) :=
  h1.mono fun F' w' hk => by obtain ⟨i, h3, h4⟩ := hk; exact x_sub h3 (h2 i w' h4)

/-- The same whatever stands behind. -/
theorem x_joinK {ι : Type} (G : ι → Fr) (W : ι → World → Prop) (h1 : X r P N c F w (thenK (fun F' w' => ∃ i, Sub F' (G i) ∧ W i w') K)) (h2 : ∀ i w', W i w' → ∀ F', Sub F' (G i) → K .normal F' w') : X r P N c F w K :=
  h1.mono fun e F' w' hk => by
    cases e with
    | normal => obtain ⟨i, h3, h4⟩ := hk; exact h2 i w' h4 F' h3
    | _ => exact hk
theorem xo_joinK {ι : Type} {ops : Array Oper} {l : List Oper} {K : Fr → World → Prop} (G : ι → Fr) (W : ι → World → Prop) (h1 : XO r P N ops l F w (fun F' w' => ∃ i, Sub F' (G i) ∧ W i w')) (h2 : ∀ i w', W i w' → ∀ F', Sub F' (G i) → K F' w') : XO r P N ops l F w K :=
  h1.mono fun F' w' hk => by obtain ⟨i, h3, h4⟩ := hk; exact h2 i w' h4 F' h3

/-- The slots that a call begins with. -/
theorem first_slots {n : Nat} (F : Fr) (hk : F.map (·.1) = List.range F.length) (hl : F.length ≤ n) : HasS n F { tmps := (F.map (·.2)).toArray ++ Array.replicate (n - (F.map (·.2)).toArray.size) undef, defers := [] } := by
  refine ⟨by simp; omega, fun s v e => ?_⟩
  have key : ∀ (F : Fr) (k n : Nat), F.map (·.1) = (List.range' k n) → ∀ s v, F.lookup s = some v → k ≤ s ∧ (F.map (·.2))[s - k]? = some v := by
    intro F
    induction F with
    | nil => intro k n _ s v h; simp at h
    | cons p F ih =>
      intro k n hk s v h
      cases n with
      | zero => simp at hk
      | succ n =>
        obtain ⟨i, u⟩ := p
        rw [List.range'_succ, List.map_cons, List.cons.injEq] at hk
        obtain ⟨hk1, hk2⟩ := hk
        have hk1 : i = k := hk1
        subst hk1
        rw [List.lookup_cons] at h
        by_cases hs : s = i
        · subst hs; simp at h; subst h; simp
        · have hb : (s == i) = false := by simpa using hs
          rw [hb] at h
          obtain ⟨h1, h2⟩ := ih (i + 1) n hk2 s v h
          refine ⟨by omega, ?_⟩
          rw [List.map_cons, show s - i = (s - (i + 1)) + 1 by omega, List.getElem?_cons_succ]; exact h2
  obtain ⟨_, h2⟩ := key F 0 F.length (by rw [hk, List.range_eq_range']) s v e
  rw [Nat.sub_zero] at h2
  have hlt : s < (F.map (·.2)).length := (List.getElem?_eq_some_iff.1 h2).1
  rw [Array.getElem?_append_left (by simpa using hlt)]
  simpa using h2

theorem HasS.getD {n : Nat} {a : Act} (h : HasS n F a) {s : Nat} {v : Value} (e : F.lookup s = some v) : a.tmps.getD s undef = v := by
  simp [Array.getD_eq_getD_getElem?, h.at_ s v e]
end
end Go.Proofs.Ytdoihebekbfnbaa
