/- Plain laws of floats: what rooms, bottoms and places come to within bounds. -/
import Derived.Test.YtmldhbnkndhijaaFloM
namespace Go.Proofs.Ytmldhbnkndhijaa
open Go.RowKit

structure FB (f : Fl) : Prop where
  x1 : -2251799813685248 ≤ f.x
  x2 : f.x ≤ 2251799813685248
  y1 : -2251799813685248 ≤ f.y
  y2 : f.y ≤ 2251799813685248
  w1 : 0 ≤ f.w
  w2 : f.w ≤ 2251799813685248
  h1 : 0 ≤ f.h
  h2 : f.h ≤ 2251799813685248

/-- Within 2^53. -/
def In53 (n : Int) : Prop := -9007199254740992 ≤ n ∧ n ≤ 9007199254740992

theorem w64 {n : Int} (h1 : -9223372036854775808 ≤ n) (h2 : n ≤ 9223372036854775807) : wrap64 n = n := IntWalk.wrap64_in n ⟨h1, h2⟩

def bot (f : Fl) : Int := f.y + f.h
theorem FB.bot {f : Fl} (h : FB f) : wrap64 (f.y + f.h) = bot f := by
  have := h.y1; have := h.y2; have := h.h1; have := h.h2
  unfold Go.Proofs.Ytmldhbnkndhijaa.bot; exact w64 (by omega) (by omega)
theorem FB.botIn {f : Fl} (h : FB f) : In53 (Go.Proofs.Ytmldhbnkndhijaa.bot f) := by
  have := h.y1; have := h.y2; have := h.h1; have := h.h2
  unfold In53 Go.Proofs.Ytmldhbnkndhijaa.bot; omega
theorem FB.edge {f : Fl} (h : FB f) : wrap64 (f.x + f.w) = f.x + f.w := by
  have := h.x1; have := h.x2; have := h.w1; have := h.w2
  exact w64 (by omega) (by omega)

/-- Does a float stand at one of so many heights from y on? -/
def St (y h : Int) (f : Fl) : Prop := 0 < f.h ∧ f.y < y + h ∧ y < bot f
instance (y h : Int) (f : Fl) : Decidable (St y h f) := by unfold St; exact inferInstance
theorem stands_iff {f : Fl} (hf : FB f) {y h : Int} (hy : In53 y) (hh : In53 h) : stands y h f = true ↔ St y h f := by
  unfold In53 at hy hh
  unfold stands St
  rw [hf.bot, w64 (n := y + h) (by omega) (by omega)]
  simp [and_assoc]

def FBs (l : List Fl) : Prop := ∀ f ∈ l, FB f

/-- What the room comes to. -/
structure AtSpec (l : List Fl) (left right y h : Int) (s0 : Bool) (r : Int × Int × Bool) : Prop where
  from_ge : left ≤ r.1
  to_le : r.2.1 ≤ right
  lefts : ∀ f ∈ l, St y h f → f.side ≠ 2 → f.x + f.w ≤ r.1
  rights : ∀ f ∈ l, St y h f → f.side = 2 → r.2.1 ≤ f.x
  from_at : r.1 = left ∨ ∃ f ∈ l, St y h f ∧ f.side ≠ 2 ∧ r.1 = f.x + f.w
  to_at : r.2.1 = right ∨ ∃ f ∈ l, St y h f ∧ f.side = 2 ∧ r.2.1 = f.x
  some_iff : r.2.2 = true ↔ (s0 = true ∨ ∃ f ∈ l, St y h f)

theorem at_fold {y h : Int} (hy : In53 y) (hh : In53 h) : ∀ (l : List Fl), FBs l → ∀ (left right : Int) (s : Bool), AtSpec l left right y h s (l.foldl (atS y h) (left, right, s))
  | [], _, left, right, s => ⟨Int.le_refl _, Int.le_refl _, by simp, by simp, .inl rfl, .inl rfl, by simp⟩
  | f :: l, hl, left, right, s => by
    have hf := hl f List.mem_cons_self
    have ih := at_fold hy hh l (fun g hg => hl g (List.mem_cons_of_mem _ hg))
    rw [List.foldl_cons]
    by_cases hs : St y h f
    · by_cases h2 : f.side = 2
      · have e : atS y h (left, right, s) f = (left, min right f.x, true) := by
          unfold atS; rw [if_pos ((stands_iff hf hy hh).2 hs), if_pos h2]
        rw [e]
        obtain ⟨a, b, c, d, e1, e2, e3⟩ := ih left (min right f.x) true
        refine ⟨a, by clear e1 e2 e3; omega, fun g hg hsg hs2 => ?_, fun g hg hsg hs2 => ?_, ?_, ?_, ?_⟩
        · rcases List.mem_cons.1 hg with rfl | hg
          · exact absurd h2 hs2
          · exact c g hg hsg hs2
        · rcases List.mem_cons.1 hg with rfl | hg
          · clear e1 e2 e3; omega
          · exact d g hg hsg hs2
        · rcases e1 with e1 | ⟨g, hg, hr⟩
          · exact .inl e1
          · exact .inr ⟨g, List.mem_cons_of_mem _ hg, hr⟩
        · rcases e2 with e2 | ⟨g, hg, hr⟩
          · rcases Int.le_total right f.x with hle | hle
            · exact .inl (by clear e1; omega)
            · exact .inr ⟨f, List.mem_cons_self, hs, h2, by clear e1; omega⟩
          · exact .inr ⟨g, List.mem_cons_of_mem _ hg, hr⟩
        · exact ⟨fun _ => .inr ⟨f, List.mem_cons_self, hs⟩, fun _ => e3.2 (.inl rfl)⟩
      · have e : atS y h (left, right, s) f = (max left (f.x + f.w), right, true) := by
          unfold atS; rw [if_pos ((stands_iff hf hy hh).2 hs), if_neg h2, hf.edge]
        rw [e]
        obtain ⟨a, b, c, d, e1, e2, e3⟩ := ih (max left (f.x + f.w)) right true
        refine ⟨by clear e1 e2 e3; omega, b, fun g hg hsg hs2 => ?_, fun g hg hsg hs2 => ?_, ?_, ?_, ?_⟩
        · rcases List.mem_cons.1 hg with rfl | hg
          · clear e1 e2 e3; omega
          · exact c g hg hsg hs2
        · rcases List.mem_cons.1 hg with rfl | hg
          · exact absurd hs2 h2
          · exact d g hg hsg hs2
        · rcases e1 with e1 | ⟨g, hg, hr⟩
          · rcases Int.le_total (f.x + f.w) left with hle | hle
            · exact .inl (by clear e2; omega)
            · exact .inr ⟨f, List.mem_cons_self, hs, h2, by clear e2; omega⟩
          · exact .inr ⟨g, List.mem_cons_of_mem _ hg, hr⟩
        · rcases e2 with e2 | ⟨g, hg, hr⟩
          · exact .inl e2
          · exact .inr ⟨g, List.mem_cons_of_mem _ hg, hr⟩
        · exact ⟨fun _ => .inr ⟨f, List.mem_cons_self, hs⟩, fun _ => e3.2 (.inl rfl)⟩
    · have e : atS y h (left, right, s) f = (left, right, s) := by
        unfold atS; rw [if_neg (fun hh' => hs ((stands_iff hf hy hh).1 hh'))]
      rw [e]
      obtain ⟨a, b, c, d, e1, e2, e3⟩ := ih left right s
      refine ⟨a, b, fun g hg hsg hs2 => ?_, fun g hg hsg hs2 => ?_, ?_, ?_, ?_⟩
      · rcases List.mem_cons.1 hg with rfl | hg
        · exact absurd hsg hs
        · exact c g hg hsg hs2
      · rcases List.mem_cons.1 hg with rfl | hg
        · exact absurd hsg hs
        · exact d g hg hsg hs2
      · rcases e1 with e1 | ⟨g, hg, hr⟩
        · exact .inl e1
        · exact .inr ⟨g, List.mem_cons_of_mem _ hg, hr⟩
      · rcases e2 with e2 | ⟨g, hg, hr⟩
        · exact .inl e2
        · exact .inr ⟨g, List.mem_cons_of_mem _ hg, hr⟩
      · rw [e3]
        constructor
        · rintro (h1 | ⟨g, hg, hr⟩)
          · exact .inl h1
          · exact .inr ⟨g, List.mem_cons_of_mem _ hg, hr⟩
        · rintro (h1 | ⟨g, hg, hr⟩)
          · exact .inl h1
          · rcases List.mem_cons.1 hg with rfl | hg
            · exact absurd hr hs
            · exact .inr ⟨g, hg, hr⟩

theorem at_spec {l : List Fl} (hl : FBs l) {left right y h : Int} (hy : In53 y) (hh : In53 h) : AtSpec l left right y h false (atM l left right y h) := at_fold hy hh l hl left right false

/-- Next: the least bottom above. -/
theorem next_spec {l : List Fl} (hl : FBs l) (y : Int) :
    ((nextM l y).2 = true → (∃ f ∈ l, (nextM l y).1 = bot f ∧ y < bot f) ∧ ∀ f ∈ l, y < bot f → (nextM l y).1 ≤ bot f) ∧
    ((nextM l y).2 = false → (nextM l y).1 = 0 ∧ ∀ f ∈ l, bot f ≤ y) := by
  have key : ∀ (l : List Fl), FBs l → ∀ (s : Int × Bool), (s.2 = false → s.1 = 0) →
      ((l.foldl (nextS y) s).2 = true → (s.2 = true ∧ (l.foldl (nextS y) s).1 = s.1 ∨ ∃ f ∈ l, (l.foldl (nextS y) s).1 = bot f ∧ y < bot f) ∧ (s.2 = true → (l.foldl (nextS y) s).1 ≤ s.1) ∧ ∀ f ∈ l, y < bot f → (l.foldl (nextS y) s).1 ≤ bot f) ∧
      ((l.foldl (nextS y) s).2 = false → s.2 = false ∧ (l.foldl (nextS y) s).1 = 0 ∧ ∀ f ∈ l, bot f ≤ y) := by
    intro l
    induction l with
    | nil => exact fun _ s hs => ⟨fun h => ⟨.inl ⟨h, rfl⟩, fun _ => Int.le_refl _, by simp⟩, fun h => ⟨h, hs h, by simp⟩⟩
    | cons f l ih =>
      intro hl s hs
      have hf := hl f List.mem_cons_self
      have hl' : FBs l := fun g hg => hl g (List.mem_cons_of_mem _ hg)
      rw [List.foldl_cons]
      by_cases hc : y < bot f ∧ (s.2 = false ∨ bot f < s.1)
      · have e : nextS y s f = (bot f, true) := by unfold nextS; rw [hf.bot, if_pos hc]
        rw [e]
        obtain ⟨h1, h2⟩ := ih hl' (bot f, true) (by simp)
        refine ⟨fun h => ?_, fun h => ?_⟩
        · obtain ⟨a, b, c⟩ := h1 h
          refine ⟨?_, fun hst => ?_, fun g hg hy => ?_⟩
          · rcases a with ⟨_, a⟩ | ⟨g, hg, a⟩
            · exact .inr ⟨f, List.mem_cons_self, a, hc.1⟩
            · exact .inr ⟨g, List.mem_cons_of_mem _ hg, a⟩
          · have := b rfl
            rcases hc.2 with h0 | h0
            · rw [h0] at hst; cases hst
            · simp at this; omega
          · rcases List.mem_cons.1 hg with rfl | hg
            · exact b rfl
            · exact c g hg hy
        · exact absurd (h2 h).1 (by simp)
      · have e : nextS y s f = s := by unfold nextS; rw [hf.bot, if_neg hc]
        rw [e]
        obtain ⟨h1, h2⟩ := ih hl' s hs
        refine ⟨fun h => ?_, fun h => ?_⟩
        · obtain ⟨a, b, c⟩ := h1 h
          refine ⟨?_, b, fun g hg hy => ?_⟩
          · rcases a with a | ⟨g, hg, a⟩
            · exact .inl a
            · exact .inr ⟨g, List.mem_cons_of_mem _ hg, a⟩
          · rcases List.mem_cons.1 hg with rfl | hg
            · cases hs2 : s.2
              · exact absurd ⟨hy, .inl hs2⟩ hc
              · have := b hs2
                have h3 : ¬ bot g < s.1 := fun h4 => hc ⟨hy, .inr h4⟩
                omega
            · exact c g hg hy
        · obtain ⟨a, b, c⟩ := h2 h
          refine ⟨a, b, fun g hg => ?_⟩
          rcases List.mem_cons.1 hg with rfl | hg
          · have h3 : ¬ y < bot g := fun h4 => hc ⟨h4, .inl a⟩
            omega
          · exact c g hg
  obtain ⟨h1, h2⟩ := key l hl (0, false) (fun _ => rfl)
  refine ⟨fun h => ?_, fun h => (h2 h).2⟩
  obtain ⟨a, _, c⟩ := h1 h
  rcases a with ⟨a, _⟩ | a
  · cases a
  · exact ⟨a, c⟩

/-- The search's answer. -/
structure GoSpec (l : List Fl) (left right w y : Int) (r : Int × Int × Int) : Prop where
  at_ : r.1 = (atM l left right r.2.2 1).1 ∧ r.2.1 = (atM l left right r.2.2 1).2.1
  ge : y ≤ r.2.2
  in_ : In53 r.2.2
  fits : (atM l left right r.2.2 1).2.2 = false ∨ w ≤ r.2.1 - r.1
  from_ : r.2.2 = y ∨ ∃ f ∈ l, r.2.2 = bot f
  high : (∀ f ∈ l, f.y ≤ y) → ∀ z, y ≤ z → z < r.2.2 → (atM l left right z 1).2.2 = true ∧ (atM l left right z 1).2.1 - (atM l left right z 1).1 < w

theorem at_same {l : List Fl} (hl : FBs l) {left right y z : Int} (hy : In53 y) (hz : In53 z) (hyz : y ≤ z) (htop : ∀ f ∈ l, f.y ≤ y) (hb : ∀ f ∈ l, y < bot f → z < bot f) : atM l left right z 1 = atM l left right y 1 := by
  have h1 : In53 1 := by unfold In53; omega
  have key : ∀ (l : List Fl), FBs l → (∀ f ∈ l, f.y ≤ y) → (∀ f ∈ l, y < bot f → z < bot f) → ∀ s, l.foldl (atS z 1) s = l.foldl (atS y 1) s := by
    intro l
    induction l with
    | nil => intros; rfl
    | cons f l ih =>
      intro hl ht hb s
      rw [List.foldl_cons, List.foldl_cons]
      have hf := hl f List.mem_cons_self
      have e : stands z 1 f = stands y 1 f := by
        rw [Bool.eq_iff_iff, stands_iff hf hz h1, stands_iff hf hy h1]
        have := ht f List.mem_cons_self; have := hb f List.mem_cons_self
        unfold St
        constructor
        · rintro ⟨a, b, c⟩; exact ⟨a, by omega, by omega⟩
        · rintro ⟨a, b, c⟩; exact ⟨a, by omega, by omega⟩
      have e2 : atS z 1 s f = atS y 1 s f := by unfold atS; rw [e]
      rw [e2]
      exact ih (fun g hg => hl g (List.mem_cons_of_mem _ hg)) (fun g hg => ht g (List.mem_cons_of_mem _ hg)) (fun g hg => hb g (List.mem_cons_of_mem _ hg)) _
  exact key l hl htop hb _

theorem go_spec {l : List Fl} (hl : FBs l) {left right w : Int} (hL : In53 left) (hR : In53 right) : ∀ (n : Nat) (y : Int), bots l y = n → In53 y → ∃ r, placeGo l left right w y = some r ∧ GoSpec l left right w y r := by
  have h1 : In53 1 := by unfold In53; omega
  intro n
  induction n using Nat.strongRecOn with
  | _ n ih =>
    intro y hn hy
    have hat := at_spec hl (left := left) (right := right) hy h1
    have hwr : wrap64 ((atM l left right y 1).2.1 - (atM l left right y 1).1) = (atM l left right y 1).2.1 - (atM l left right y 1).1 := by
      have b1 : -9007199254740992 ≤ (atM l left right y 1).1 ∧ (atM l left right y 1).1 ≤ 9007199254740992 := by
        unfold In53 at hL hR
        rcases hat.from_at with h | ⟨f, hf, _, _, h⟩
        · omega
        · have := hl f hf; have := this.x1; have := (hl f hf).x2; have := (hl f hf).w1; have := (hl f hf).w2; omega
      have b2 : -9007199254740992 ≤ (atM l left right y 1).2.1 ∧ (atM l left right y 1).2.1 ≤ 9007199254740992 := by
        unfold In53 at hL hR
        rcases hat.to_at with h | ⟨f, hf, _, _, h⟩
        · omega
        · have := (hl f hf).x1; have := (hl f hf).x2; omega
      exact w64 (by omega) (by omega)
    rw [placeGo, hwr]
    by_cases hm : (atM l left right y 1).2.2 = true ∧ (atM l left right y 1).2.1 - (atM l left right y 1).1 < w
    · rw [if_pos hm]
      obtain ⟨f, hf, hsf⟩ := (hat.some_iff.1 hm.1).resolve_left (by simp)
      have hnx : (nextM l y).2 = true := by
        cases h : (nextM l y).2
        · have := ((next_spec hl y).2 h).2 f hf
          have := hsf.2.2
          omega
        · rfl
      rw [dif_pos hnx]
      obtain ⟨⟨g, hg, e1, e2⟩, e3⟩ := (next_spec hl y).1 hnx
      have hin : In53 (nextM l y).1 := by rw [e1]; exact (hl g hg).botIn
      obtain ⟨r, hr, hs⟩ := ih _ (by rw [← hn]; exact bots_lt hnx) (nextM l y).1 rfl hin
      refine ⟨r, hr, hs.at_, ?_, hs.in_, hs.fits, ?_, ?_⟩
      · have := hs.ge; omega
      · rcases hs.from_ with h | h
        · exact .inr ⟨g, hg, h.trans e1⟩
        · exact .inr h
      · intro ht z hz1 hz2
        by_cases hz3 : z < (nextM l y).1
        · have hz4 : In53 z := by unfold In53 at hy hin ⊢; omega
          rw [at_same hl hy hz4 hz1 ht (fun f hf hyf => by have := e3 f hf hyf; omega)]
          exact hm
        · exact hs.high (fun f hf => by have := ht f hf; omega) z (by omega) hz2
    · rw [if_neg hm]
      refine ⟨_, rfl, ⟨rfl, rfl⟩, Int.le_refl _, hy, ?_, .inl rfl, fun _ z h1 h2 => by simp at h2; omega⟩
      rcases Bool.eq_false_or_eq_true (atM l left right y 1).2.2 with h | h
      · right
        have : ¬ ((atM l left right y 1).2.1 - (atM l left right y 1).1 < w) := fun h2 => hm ⟨h, h2⟩
        show w ≤ (atM l left right y 1).2.1 - (atM l left right y 1).1
        omega
      · exact .inl h

theorem top_spec : ∀ (l : List Fl) (y : Int), y ≤ topM l y ∧ (∀ f ∈ l, f.y ≤ topM l y) ∧ (topM l y = y ∨ ∃ f ∈ l, topM l y = f.y)
  | [], y => ⟨Int.le_refl _, by simp, .inl rfl⟩
  | f :: l, y => by
    have e : topM (f :: l) y = topM l (max y f.y) := rfl
    obtain ⟨a, b, c⟩ := top_spec l (max y f.y)
    rw [e]
    refine ⟨by omega, fun g hg => ?_, ?_⟩
    · rcases List.mem_cons.1 hg with rfl | hg
      · omega
      · exact b g hg
    · rcases c with c | ⟨g, hg, c⟩
      · rcases Int.le_total y f.y with h | h
        · exact .inr ⟨f, List.mem_cons_self, by omega⟩
        · exact .inl (by omega)
      · exact .inr ⟨g, List.mem_cons_of_mem _ hg, c⟩

/-- Place, within bounds: all that is said of it. -/
structure PlSpec (l : List Fl) (side w h left right y : Int) (x : Fl) : Prop where
  w_ : x.w = max w 0
  h_ : x.h = max h 0
  s_ : x.side = if side = 2 then 2 else 1
  y_ : y ≤ x.y
  tops : ∀ f ∈ l, f.y ≤ x.y
  from_ : x.y = y ∨ (∃ f ∈ l, x.y = f.y) ∨ ∃ f ∈ l, x.y = bot f
  x_ : x.x = if side = 2 then (atM l left right x.y 1).2.1 - max w 0 else (atM l left right x.y 1).1
  fits : (atM l left right x.y 1).2.2 = false ∨ max w 0 ≤ (atM l left right x.y 1).2.1 - (atM l left right x.y 1).1
  high : ∀ z, topM l y ≤ z → z < x.y → (atM l left right z 1).2.2 = true ∧ (atM l left right z 1).2.1 - (atM l left right z 1).1 < max w 0

theorem place_spec {l : List Fl} (hl : FBs l) {side w h left right y : Int} (hL : In53 left) (hR : In53 right) (hw : w ≤ 9007199254740992) (hy : In53 y) : PlSpec l side w h left right y (placeM l side w h left right y) := by
  obtain ⟨t1, t2, t3⟩ := top_spec l y
  have hty : In53 (topM l y) := by
    rcases t3 with h | ⟨f, hf, h⟩
    · rw [h]; exact hy
    · rw [h]; have := (hl f hf).y1; have := (hl f hf).y2; unfold In53; omega
  obtain ⟨⟨a, b, z⟩, hr, hs⟩ := go_spec hl (left := left) (right := right) (w := max w 0) hL hR _ (topM l y) rfl hty
  have hge := hs.ge
  have hfits := hs.fits
  obtain ⟨e1, e2⟩ := hs.at_
  dsimp only at hge hfits e1 e2
  have hat := at_spec hl (left := left) (right := right) (y := z) (h := 1) hs.in_ (by unfold In53; omega)
  have b2 : -9007199254740992 ≤ b ∧ b ≤ 9007199254740992 := by
    unfold In53 at hL hR
    rw [e2]
    rcases hat.to_at with h | ⟨f, hf, _, _, h⟩
    · omega
    · have := (hl f hf).x1; have := (hl f hf).x2; omega
  have hwb : wrap64 (b - max w 0) = b - max w 0 := w64 (by omega) (by omega)
  have hfr : z = y ∨ (∃ f ∈ l, z = f.y) ∨ ∃ f ∈ l, z = bot f := by
    rcases hs.from_ with h | h
    · rcases t3 with h3 | ⟨f, hf, h3⟩
      · exact .inl (h.trans h3)
      · exact .inr (.inl ⟨f, hf, h.trans h3⟩)
    · exact .inr (.inr h)
  have hhi : ∀ u, topM l y ≤ u → u < z → (atM l left right u 1).2.2 = true ∧ (atM l left right u 1).2.1 - (atM l left right u 1).1 < max w 0 := hs.high t2
  unfold placeM
  rw [hr]
  unfold placeEnd
  by_cases h2 : side = 2
  · simp only [h2, if_true, hwb]
    exact ⟨rfl, rfl, by rw [if_pos rfl], by show y ≤ z; omega, fun f hf => by have := t2 f hf; show f.y ≤ z; omega, hfr, by rw [if_pos rfl]; show b - max w 0 = _; rw [e2], by rw [e1, e2] at hfits; exact hfits, hhi⟩
  · simp only [h2, if_false]
    exact ⟨rfl, rfl, by rw [if_neg h2], by show y ≤ z; omega, fun f hf => by have := t2 f hf; show f.y ≤ z; omega, hfr, by rw [if_neg h2]; exact e1, by rw [e1, e2] at hfits; exact hfits, hhi⟩

/-- A float of the theorem of this stage: sizes of 16 bits, so far down. -/
structure FA (M : Int) (f : Fl) : Prop where
  s : f.side = 1 ∨ f.side = 2
  x1 : -65535 ≤ f.x
  x2 : f.x + f.w ≤ 65536
  w1 : 0 ≤ f.w
  w2 : f.w ≤ 65535
  h1 : 0 ≤ f.h
  h2 : f.h ≤ 65535
  y1 : 0 ≤ f.y
  y2 : bot f ≤ M

theorem FA.fb {M : Int} {f : Fl} (h : FA M f) (hM : M ≤ 2251799813685248) : FB f := by
  obtain ⟨s, x1, x2, w1, w2, h1, h2, y1, y2⟩ := h
  unfold bot at y2
  exact ⟨by omega, by omega, by omega, by omega, w1, by omega, h1, by omega⟩

theorem FA.more {M N : Int} {f : Fl} (h : FA M f) (hM : M ≤ N) : FA N f := ⟨h.s, h.x1, h.x2, h.w1, h.w2, h.h1, h.h2, h.y1, Int.le_trans h.y2 hM⟩

structure ApSpec (l : List Fl) (side w h rm y : Int) (M : Int) (x : Fl) : Prop where
  w_ : x.w = w
  h_ : x.h = h
  s_ : x.side = side
  y_ : y ≤ x.y
  tops : ∀ f ∈ l, f.y ≤ x.y
  room : w ≤ rm → 0 ≤ x.x ∧ x.x + w ≤ rm
  edge : (side = 1 ∧ x.x = 0) ∨ (side = 2 ∧ x.x + x.w = rm) ∨ ∃ f ∈ l, (side = 1 ∧ f.x + f.w = x.x) ∨ (side = 2 ∧ f.x = x.x + x.w)
  apart : ∀ f ∈ l, ¬ (x.x < f.x + f.w ∧ f.x < x.x + x.w ∧ x.y < f.y + f.h ∧ f.y < x.y + x.h)
  fa : FA (M + 131072) x

theorem apart_step {l : List Fl} {M side w h room y : Int} (hl : ∀ f ∈ l, FA M f) (hM0 : 0 ≤ M) (hM : M ≤ 2251799813685248) (hs : side = 1 ∨ side = 2) (hw : 0 ≤ w ∧ w ≤ 65535) (hh : 0 ≤ h ∧ h ≤ 65535) (hy : 0 ≤ y ∧ y ≤ 65535) (hr : 1 ≤ room ∧ room ≤ 65536) :
    ApSpec l side w h room y M (placeM l side w h 0 room y) := by
  have hfb : FBs l := fun f hf => (hl f hf).fb hM
  have p := place_spec hfb (side := side) (w := w) (h := h) (left := 0) (right := room) (y := y) (by unfold In53; omega) (by unfold In53; omega) (by omega) (by unfold In53; omega)
  generalize placeM l side w h 0 room y = x at p
  obtain ⟨pw, ph, ps, py, pt, pf, px, pfit, _⟩ := p
  have Pf := Lib.hid pf; clear pf
  have ew : max w 0 = w := by omega
  have eh : max h 0 = h := by omega
  rw [ew] at pw px pfit
  rw [eh] at ph
  have hxy : 0 ≤ x.y ∧ x.y ≤ M + 65535 := by
    refine ⟨by omega, ?_⟩
    rcases Pf.out with e | ⟨f, hf, e⟩ | ⟨f, hf, e⟩
    · omega
    · have u := (hl f hf).y2; have := (hl f hf).h1; unfold bot at u; omega
    · have := (hl f hf).y2; omega
  have hat := at_spec hfb (left := 0) (right := room) (y := x.y) (h := 1) (by unfold In53; omega) (by unfold In53; omega)
  generalize atM l 0 room x.y 1 = r at *
  obtain ⟨a, b, sm⟩ := r
  obtain ⟨q1, q2, q3, q4, q5, q6, q7⟩ := hat
  dsimp only at q1 q2 q3 q4 q5 q6 q7 px pfit
  have Q5 := Lib.hid q5; have Q6 := Lib.hid q6; have Q7 := Lib.hid q7; clear q5 q6 q7
  have hst : ∀ f ∈ l, x.y < f.y + f.h → St x.y 1 f := fun f hf h1 => by
    have h2 := pt f hf
    unfold St bot; omega
  have none_ : sm = false → a = 0 ∧ b = room := fun h0 => by
    have hno : ¬ ∃ f ∈ l, St x.y 1 f := fun h1 => by rw [Q7.out.2 (.inr h1)] at h0; cases h0
    refine ⟨?_, ?_⟩
    · rcases Q5.out with h1 | ⟨f, hf, h1, _⟩
      · exact h1
      · exact absurd ⟨f, hf, h1⟩ hno
    · rcases Q6.out with h1 | ⟨f, hf, h1, _⟩
      · exact h1
      · exact absurd ⟨f, hf, h1⟩ hno
  have ex : side = 1 ∧ x.x = a ∨ side = 2 ∧ x.x = b - w := by
    rcases hs with h1 | h1
    · left; rw [if_neg (by omega)] at px; exact ⟨h1, px⟩
    · right; rw [if_pos h1] at px; exact ⟨h1, px⟩
  refine ⟨pw, ph, ?_, py, pt, ?_, ?_, ?_, ?_⟩
  · rw [ps]; split <;> omega
  · intro hwr
    rcases pfit with h0 | h0
    · obtain ⟨e1, e2⟩ := none_ h0
      omega
    · omega
  · rcases ex with ⟨h1, e⟩ | ⟨h1, e⟩
    · rcases Q5.out with h2 | ⟨f, hf, _, _, h2⟩
      · exact .inl ⟨h1, e.trans h2⟩
      · exact .inr (.inr ⟨f, hf, .inl ⟨h1, by rw [e, h2]⟩⟩)
    · rcases Q6.out with h2 | ⟨f, hf, _, _, h2⟩
      · exact .inr (.inl ⟨h1, by omega⟩)
      · exact .inr (.inr ⟨f, hf, .inr ⟨h1, by omega⟩⟩)
  · rintro f hf ⟨m1, m2, m3, m4⟩
    have hsf := hst f hf m3
    have hsm : sm = true := Q7.out.2 (.inr ⟨f, hf, hsf⟩)
    have hfit : w ≤ b - a := by
      rcases pfit with h0 | h0
      · rw [hsm] at h0; cases h0
      · exact h0
    rcases (hl f hf).s with h1 | h1
    · have := q3 f hf hsf (by omega)
      omega
    · have := q4 f hf hsf h1
      omega
  · have hx1 : -65535 ≤ x.x ∧ x.x + x.w ≤ 65536 := by
      rcases pfit with h0 | h0
      · obtain ⟨e1, e2⟩ := none_ h0
        omega
      · omega
    refine ⟨?_, hx1.1, hx1.2, by omega, by omega, by omega, by omega, hxy.1, ?_⟩
    · rw [ps]; split <;> omega
    · unfold bot; omega

end Go.Proofs.Ytmldhbnkndhijaa
