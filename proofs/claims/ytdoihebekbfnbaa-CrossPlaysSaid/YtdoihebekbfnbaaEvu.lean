/- More of parts that draw their order: a slice of nothing, append of a slice's elements. -/
import Derived.Test.YtdoihebekbfnbaaMor
namespace Go.Proofs.Ytdoihebekbfnbaa
open Go.RowKit

section
variable {P : Program} {N : Nx} {B i n p : Nat} {w0 w : World} {F : Fr} {ops : Array Oper} {st : List Nat} {nw : Nw} {Hof : HofT} {α : Nat → Wt} {rest : List Oper} {K : List Oper → Fr → Prop} {d : Nat} {ty : TypeId} {pos : String} {af : Array Edge} {g : Option (Nat × Bool)} {bw : Bool}
theorem se_lit0 {t e : TypeId} {sz : Nat} {Hn : Wt → Hp} (hnw : nw.lookup i = some (slN 0, Hn)) (hHn : ∀ x, Hn x = [own (some ⟨x.1, 0, none⟩) 0 0 e sz []]) (hg : wants ops F g = some bw) (hb : bw = true) (hU : ∀ w, (underlying t).run P w = .ok (.slice e) w) (hS : ∀ w, (sizeOf e).run P w = .ok sz w) (hN : d < N.n)
    (hs : ∀ b, SubH (Hn (α i) ++ Hof α b) (Hof α (setb b i))) (h : SE P N B w0 st nw Hof α ops p (i + 1) n rest ((d, .slice (some ⟨(α i).1, 0, none⟩) 0 0) :: F) K) (hst : st.contains i = false := by rfl) :
    SE P N B w0 st nw Hof α ops p i (n + 1) (⟨some d, .buildSlice t 0 #[], ty, pos, af, g⟩ :: rest) F K :=
  se_op (s := .new d (slN 0 (α i))) ⟨hst, slN 0, Hn, hnw, rfl, hN, by rw [← hb]; exact hg, rfl, fun b ρ ha w hw => .inl (by
    have e0 : (Array.map (fun _ => (default : Value)) (Array.range 0)) = #[] := by simp
    refine ⟨(w.heap.size, none, 0), w.alloc (.cells #[] e), by simp [execOp, Instr.buildSlice, hU, hS, Instr.fill, newRow, e0, slN], ?_⟩
    rw [hHn]
    exact (Mem.start w).new (e := own _ 0 0 e sz []) (g := w.heap.size) rfl (Nat.le_refl _) ⟨by simp, .inr ⟨w.heap.size, 0, #[], rfl, Nat.zero_le _, Go.heap_alloc_new w _, Nat.le_refl _, Nat.zero_le _, by simp, by simp⟩⟩ ((Below.refl _ _).alloc (Nat.le_refl _) _)), fun b _ => hs b⟩ h
/-- append of a slice's elements, into one's own. -/
theorem se_appendN {β : Type} {c : β → List Value} {l : List β} {x y : Operand} {t e : TypeId} {sz m cap cap2 m' : Nat} {A A2 : Option Addr} {xs xs' : List Value} {Hn : Wt → Hp} (need : List (Nat × Nat)) (hst : st.contains i = true) (hnw : nw.lookup i = some (slA m', Hn)) (hg : wants ops F g = some bw) (hb : bw = true)
    (hx : evO F x = some (.slice A m cap)) (hy : evO F y = some (.slice A2 l.length cap2)) (hn' : m + l.length = m') (hxs' : xs ++ l.flatMap c = xs') (hok : appOk P t e sz = true) (hN : d < N.n)
    (hneed : ∀ z ∈ need, z.1 < i ∧ z.2 ∈ (⟨some d, .call { callee := .builtin .append, args := #[x, y], argTypes := #[t, t] }, ty, pos, af, g⟩ : Oper).looksAt ops ∧ (ops[p + z.1]?).bind (·.dst) = some z.2 ∧ (st.contains z.1 || (nw.lookup z.1).isSome) = true)
    (hu : ∀ u, u i = false → (∀ z ∈ need, u z.1 = true) → ∀ A' cap', Upd (Hof α u) (own A m cap e sz xs) (own A' m' cap' e sz xs') (Hof (fun j => if j = i then (0, A', cap') else α j) (setb u i)))
    (hr : ∀ u, RdH B w0 (Hof α u) c sz A2 l) (hnil : A2 = none → cap2 = 0) (hc : ∀ x, (c x).length = sz) (h1 : ∀ x, (c x).all Value.oneCell' = true) (hlen : m + l.length ≤ 4294967296)
    (h : SE P N B w0 st nw Hof α ops p (i + 1) n rest ((d, .slice (α i).2.1 m' (α i).2.2) :: F) K) :
    SE P N B w0 st nw Hof α ops p i (n + 1) (⟨some d, .call { callee := .builtin .append, args := #[x, y], argTypes := #[t, t] }, ty, pos, af, g⟩ :: rest) F K :=
  se_op (s := .gen d (slA m' (α i))) ⟨hst, slA m', Hn, hnw, rfl, hN, by rw [← hb]; exact hg, rfl, fun x y h1 h2 h3 => by
    obtain ⟨x1, x2, x3⟩ := x
    obtain ⟨y1, y2, y3⟩ := y
    simp only [slA] at h3
    injection h3 with e1 _ e2
    simp only at h1 h2
    subst e1 e2 h1 h2; rfl, need, hneed, fun u hu0 hun ρ ha w hw => by
    subst hn' hxs'
    obtain ⟨hu', ⟨hp, hp2⟩, j, z, hi, hz, hs, hzs, hby⟩ := appOk_spec hok
    have hup := hu u hu0 hun
    have hk : w.ownsRow 0 e sz (.slice A m cap) m xs := (hw.ok _ (hup none 0).mem).1
    have hkB := (hw.ok _ (hup none 0).mem).2
    have hfoot : (Value.slice A m cap).ownBlock = A.map (·.block) := by cases A <;> rfl
    cases A2 with
    | none =>
      have hl0 : l = [] := by
        cases l with
        | nil => rfl
        | cons a l => obtain ⟨b, o, hA, _⟩ := hr u w hw 0 (by simp); cases hA
      subst hl0
      have := hnil rfl
      subst this
      have hrun := run_append_owned_none (P := P) (w := w) 0 t ty e j sz hu' hi (.slice A m cap) m xs hk
      refine ⟨(0, A, cap), w, rfl, ?_, hw.upd (hup _ _) (Below.refl _ _) (fun _ _ _ => rfl) (show w.ownsRow 0 e sz (.slice A m cap) m (xs ++ []) by rw [List.append_nil]; exact hk) (fun g hg => .inl hg)⟩
      have hy' : evO F y = some (.slice none 0 0) := hy
      simp [execOp, resolve, invoke, builtin, ha _ _ hx, ha _ _ hy', hrun, slA]
    | some a =>
      have hnews : ∀ j u, (l.flatMap c)[j]? = some u → w.cell? (a.add j) = some u := by
        intro j v hj
        have hj' := (List.getElem?_eq_some_iff.1 hj).1
        rw [flatMap_len c sz hc] at hj'
        have hkl : j / sz < l.length := Nat.div_lt_of_lt_mul (by rw [Nat.mul_comm]; exact hj')
        obtain ⟨b, o, hA, _, hrow⟩ := hr u w hw (j / sz) hkl
        cases hA
        rw [add_place]
        have e1 : j = j / sz * sz + j % sz := (Nat.div_add_mod' j sz).symm
        have h2 := flatMap_at c sz hc l (j / sz) (j % sz) hkl (Nat.mod_lt _ hp)
        rw [← e1, hj] at h2
        have := hrow (j % sz) v h2.symm
        rwa [Nat.add_assoc, ← e1] at this
      obtain ⟨v', w', hrun, h2, h3, h4, h5⟩ := run_append_own_at (P := P) w 0 t ty e j z sz j.bytes hu' hi hz hs rfl hzs hp _ m _ hk a l.length cap2 (l.flatMap c) (flatMap_len c sz hc l) hnews (fun u hu => by
        obtain ⟨x, _, hx⟩ := List.mem_flatMap.1 hu
        exact List.all_eq_true.1 (h1 x) u hx) (by simp only [maxLen]; omega) (Nat.le_trans (Nat.mul_le_mul_right _ hlen) hby) (Nat.zero_le _)
      obtain ⟨A', cap', rfl⟩ : ∃ A' cap', v' = .slice A' (m + l.length) cap' := by
        rcases h2.2 with ⟨hv, h0⟩ | ⟨g, cap', cur, hv, _⟩
        · exact ⟨none, 0, by rw [hv, h0]⟩
        · exact ⟨_, _, hv⟩
      have hfoot' : (Value.slice A' (m + l.length) cap').ownBlock = A'.map (·.block) := by cases A' <;> rfl
      refine ⟨(0, A', cap'), w', rfl, ?_, hw.upd (hup _ _) ?_ (fun k hk hne => ?_) h2 ?_⟩
      · simp [execOp, resolve, invoke, builtin, ha _ _ hx, ha _ _ hy, hrun, slA]
      · refine (Below.refl B w).grown h3 hw.le (fun k hk => ?_)
        rw [hfoot] at hk; exact hkB k hk
      · exact h3.block k hk (by rw [hfoot]; exact fun e => hne e.symm)
      · intro q hq
        rw [hfoot, hfoot'] at h5
        have hq : A'.map (·.block) = some q := hq
        rcases h5 with h5 | h5
        · exact .inl (by rw [← hq, h5]; rfl)
        · rw [hq] at h5; cases h5; exact .inr (Nat.le_refl _)⟩ h
end
end Go.Proofs.Ytdoihebekbfnbaa
