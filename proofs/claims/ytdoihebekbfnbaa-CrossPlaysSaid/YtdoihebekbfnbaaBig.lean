/- Slices whose elements have several cells: made, stored into. -/
import Derived.Test.YtdoihebekbfnbaaGo
namespace Go.Proofs.Ytdoihebekbfnbaa
open Go.RowKit

theorem flat_len {α : Type} {c : α → List Value} {sz : Nat} (hc : ∀ x, (c x).length = sz) : ∀ (l : List α), (l.flatMap c).length = l.length * sz
  | [] => by simp
  | a :: l => by rw [List.flatMap_cons, List.length_append, hc, flat_len hc l, List.length_cons, Nat.add_mul]; omega
theorem flat_take {α : Type} {c : α → List Value} {sz : Nat} (hc : ∀ x, (c x).length = sz) : ∀ (l : List α) (k : Nat), (l.flatMap c).take (k * sz) = (l.take k).flatMap c
  | [], k => by simp
  | a :: l, 0 => by simp
  | a :: l, k + 1 => by
    rw [List.flatMap_cons, List.take_succ_cons, List.flatMap_cons, Nat.add_mul, Nat.one_mul, Nat.add_comm, List.take_append, hc, List.take_of_length_le (by rw [hc]; omega), Nat.add_sub_cancel_left, flat_take hc l k]
theorem flat_drop {α : Type} {c : α → List Value} {sz : Nat} (hc : ∀ x, (c x).length = sz) : ∀ (l : List α) (k : Nat), (l.flatMap c).drop (k * sz) = (l.drop k).flatMap c
  | [], k => by simp
  | a :: l, 0 => by simp
  | a :: l, k + 1 => by
    rw [List.flatMap_cons, List.drop_succ_cons, Nat.add_mul, Nat.one_mul, Nat.add_comm, List.drop_append, hc, List.drop_of_length_le (by rw [hc]; omega), Nat.add_sub_cancel_left, List.nil_append, flat_drop hc l k]
theorem flat_set {α : Type} {c : α → List Value} {sz : Nat} (hc : ∀ x, (c x).length = sz) (l : List α) (k : Nat) (h : k < l.length) (v : α) : (l.flatMap c).take (k * sz) ++ c v ++ (l.flatMap c).drop (k * sz + (c v).length) = (l.set k v).flatMap c := by
  rw [flat_take hc, hc, show k * sz + sz = (k + 1) * sz by rw [Nat.add_mul, Nat.one_mul], flat_drop hc, List.set_eq_take_append_cons_drop, if_pos h, List.flatMap_append, List.flatMap_cons, List.append_assoc]
theorem made_flat {α : Type} {c : α → List Value} {sz : Nat} (hc : ∀ x, (c x).length = sz) (a : α) (z : Value) (hz : z.cells.toList = c a) (hsz : 0 < sz) : ∀ n, (madeCells z.cells (n * sz)).toList = (List.replicate n a).flatMap c := by
  have hzs : z.cells.size = sz := by rw [← Array.length_toList, hz, hc]
  have key : ∀ n j, ((List.replicate n a).flatMap c)[j]? = if j < n * sz then (c a)[j % sz]? else none := by
    intro n
    induction n with
    | zero => intro j; simp
    | succ n ih =>
      intro j
      rw [List.replicate_succ, List.flatMap_cons, List.getElem?_append, hc, ih, Nat.add_mul, Nat.one_mul]
      split
      · rename_i h
        rw [Nat.mod_eq_of_lt h, if_pos (by omega)]
      · rename_i h
        have : j % sz = (j - sz) % sz := by
          conv => lhs; rw [show j = (j - sz) + sz by omega, Nat.add_mod_right]
        rw [this]
        congr 1
        exact propext ⟨fun _ => by omega, fun _ => by omega⟩
  intro n
  apply List.ext_getElem?
  intro j
  rw [key]
  by_cases hj : j < n * sz
  · rw [if_pos hj, ← hz]
    have : j % sz < z.cells.size := by rw [hzs]; exact Nat.mod_lt _ hsz
    simp [madeCells, hj, hzs, this]
    rw [getElem!_pos z.cells _ this, Array.getElem?_eq_getElem this]
  · rw [if_neg hj]
    simp [madeCells, hj]

section
variable {rd : Option Nat} {P : Program} {N : Nx} {B : Nat} {w0 : World} {F : Fr} {H H' : Hp} {ops : Array Oper} {rest : List Oper} {K : Fr → Hp → Prop} {d : Nat} {ty : TypeId} {pos : String} {af : Array Edge} {g : Option (Nat × Bool)} {bw : Bool}
/-- An element of several cells into a slice of the call's own. -/
theorem so_storeN {x y : Operand} {t t' : TypeId} {b o n cap sz : Nat} {vs xs xs' : List Value} (hg : wants ops F g = some bw) (hb : bw = true) (hx : evO F x = some (.pointer (some ⟨b, o, none⟩))) (hy : evO F y = some (.agg vs.toArray)) (h1 : vs.all Value.oneCell' = true)
    (hS : ∀ w, (sizeOf t).run P w = .ok vs.length w) (he : xs.take o ++ vs ++ xs.drop (o + vs.length) = xs') (hu : Upd H (own (some ⟨b, 0, none⟩) n cap t' sz xs) (own (some ⟨b, 0, none⟩) n cap t' sz xs') H') (ho : o + vs.length ≤ xs.length)
    (h : SO rd P N B w0 ops rest F H' K) : SO rd P N B w0 ops (⟨none, .store t x y, ty, pos, af, g⟩ :: rest) F H K := fun w hw => by
  subst he
  have hk : w.ownsRow 0 t' sz (.slice (some ⟨b, 0, none⟩) n cap) n xs := (hw.ok _ hu.mem).1
  have hB := (hw.ok _ hu.mem).2 b rfl
  rcases hk.2 with ⟨h', _⟩ | ⟨g', cap', cur, h', hb', hg', hnc, hcm, hcs, htake⟩
  · simp at h'
  simp only [Value.slice.injEq, Option.some.injEq, Addr.mk.injEq, and_true, true_and] at h'
  obtain ⟨rfl, rfl⟩ := h'
  have hlen : xs.length = n * sz := hk.1
  have hcl : n * sz ≤ cur.toList.length := by rw [← htake, List.length_take] at hlen; omega
  have hrow := run_storeCells_at P b o t' vs 0 cur w hg' (by simp at hcl ⊢; omega) (List.all_eq_true.1 h1)
  simp only [Nat.add_zero] at hrow
  refine xo_skip (w' := w.setRow b (cur.toList.take o ++ vs ++ cur.toList.drop (o + vs.length)).toArray) hg hb rfl (fun ρ ha => ?_) (h _ (hw.upd hu (setRow_below hB _) (fun k _ hne => ?_) ?_ (fun q hq => .inl hq)))
  · simp [execOp, ha _ _ hx, ha _ _ hy, Instr.storeAt, Instr.sureAddr, storeVar, Value.cells, hS, hrow]
  · have : b ≠ k := fun e => hne (by rw [e]; rfl)
    simp [World.setRow, Array.getElem?_modify, this]
  · refine ⟨by simp only [List.length_append, List.length_take, List.length_drop]; omega, .inr ⟨b, cap, (cur.toList.take o ++ vs ++ cur.toList.drop (o + vs.length)).toArray, rfl, hb', setRow_heap w b cur _ t' (0, 0) hg', hnc, hcm, ?_, ?_⟩⟩
    · rw [List.size_toArray]
      simp only [List.length_append, List.length_take, List.length_drop]
      simp only [Array.length_toList] at hcl ⊢
      omega
    · rw [← htake]
      apply List.ext_getElem?
      intro j
      simp only [List.getElem?_take, List.getElem?_append, List.length_append, List.length_take, List.getElem?_drop]
      have e1 : min o cur.toList.length = o := by omega
      have e2 : min o (min (n * sz) cur.toList.length) = o := by omega
      simp only [e1, e2]
      by_cases h1 : j < n * sz
      · rw [if_pos h1]
        by_cases h2 : j < o
        · rw [if_pos (by omega), if_pos (by omega), if_pos h2, if_pos (by omega), if_pos (by omega), if_pos h2, if_pos h1]
        · by_cases h3 : j < o + vs.length
          · rw [if_pos (by omega), if_neg h2, if_pos (by omega), if_neg h2]
          · rw [if_neg (by omega), if_neg (by omega), if_pos (by omega)]
      · rw [if_neg h1, if_neg (by omega), if_neg (by omega)]

/-- A store of one cell, what stands then told. -/
theorem so_storeE {x y : Operand} {t t' : TypeId} {b o : Nat} {v : Value} {cs cs' : List Value} (hg : wants ops F g = some bw) (hb : bw = true) (hx : evO F x = some (.pointer (some ⟨b, o, none⟩))) (hy : evO F y = some v) (hv : v.oneCell' = true)
    (hS : ∀ w, (sizeOf t).run P w = .ok 1 w) (he : cs.set o v = cs') (ho : o < cs.length) (hu : Upd H (row b t' cs) (row b t' cs') H')
    (h : SO rd P N B w0 ops rest F H' K) : SO rd P N B w0 ops (⟨none, .store t x y, ty, pos, af, g⟩ :: rest) F H K := by
  subst he; exact so_store hg hb hx hy hv hS hu ho h
/-- A slice of so many zeros. -/
theorem so_makeL {α : Type} {c : α → List Value} {a : α} {x y : Operand} {t e : TypeId} {sz : Nat} {k1 k2 : IntKind} {n : Nat} {z : Value} (hc : ∀ x, (c x).length = sz) (hsz : 0 < sz) (hza : z.cells.toList = c a) (hg : wants ops F g = some bw) (hb : bw = true) (hx : evO F x = some (.int k1 (n : Int))) (hy : evO F y = some (.int k2 (n : Int)))
    (hok : appOk P t e sz = true) (hZ : ∀ w, (zeroValue e).run P w = .ok z w) (hn : n ≤ 4294967296) (hN : d < N.n)
    (h : ∀ q, SO rd P N B w0 ops rest ((d, .slice (some ⟨q, 0, none⟩) n n) :: F) (own (some ⟨q, 0, none⟩) n n e sz ((List.replicate n a).flatMap c) :: H) K) : SO rd P N B w0 ops (⟨some d, .makeSlice t x y, ty, pos, af, g⟩ :: rest) F H K := fun w hw => by
  obtain ⟨hu', ⟨hp, hp2⟩, i, z', hi, hz, hs, hzs, hby⟩ := appOk_spec hok
  have hzz : z' = z := by
    have := hZ w
    simp [zeroValue, typeInfo, hi, hz] at this; exact this
  subst hzz
  obtain ⟨w', hr, h2, h3⟩ := run_make_full (P := P) w 0 t e i z' sz hu' hi hz hs k1 k2 n (by
    have : i.bytes * n ≤ i.bytes * 4294967296 := Nat.mul_le_mul_left _ hn
    omega) (by simp only [maxLen]; omega) (Nat.zero_le _)
  rw [made_flat hc a z' hza hsz] at h2
  have hb0 : Below w.heap.size w w' := (Below.refl _ w).grown h3 (Nat.le_refl _) (fun k hk => by cases hk)
  refine xo_run (w' := w') hg hb rfl hN (fun ρ ha => by simp [execOp, ha _ _ hx, ha _ _ hy, hr]) (h _ w' (hw.new (e := own _ n n e sz _) (g := w.heap.size) rfl (Nat.le_refl _) h2 hb0))
end

section
variable {P : Program} {N : Nx} {B n : Nat} {w0 : World} {F : Fr} {H : Hp} {ops : Array Oper} {rest : List Oper} {KD : List Oper → Fr → Hp → Prop} {d : Nat} {ty : TypeId} {pos : String} {af : Array Edge} {g : Option (Nat × Bool)} {bw one : Bool}
/-- A call of a closure in a part that draws its order. -/
theorem sd_callF {f : FuncId} {x : Operand} {as_ : Array Operand} {ats : Array TypeId} {us vs : List Value} {v : Value} (hx : evO F x = some (.func (.func f) #[] us.toArray)) (hc : ∀ w, Mem B w0 H w → Calls P f (vs ++ us).toArray w fun e w' => e = .returned v ∧ Below w.heap.size w w') (hg : wants ops F g = some bw) (hb : bw = true)
    (hvs : as_.toList.map (evO F) = vs.map some) (hf : ∀ args w, (callFunc f args).run P w = .ok (.enter f args) w) (hN : d < N.n) (h : SD one P N B w0 ops n rest ((d, v) :: F) H KD) :
    SD one P N B w0 ops (n + 1) (⟨some d, .call { callee := .value x, args := as_, argTypes := ats }, ty, pos, af, g⟩ :: rest) F H KD :=
  fun w hw => xd_op ⟨rfl, hN, .inl ⟨by rw [← hb]; exact hg, fun ρ ha w1 hw1 => .inr ⟨f, (vs ++ us).toArray, by
    have e : as_.map ρ = vs.toArray := args_eval hvs ha
    have e2 := ha _ _ hx
    simp [execOp, resolve, invoke, e, e2, hf, go_sem], hc w1 (hw.keep hw1)⟩⟩⟩ (h w hw)
end

section
variable {P : Program} {N : Nx} {B i n p : Nat} {w0 w : World} {F : Fr} {ops : Array Oper} {st : List Nat} {nw : Nw} {Hof : HofT} {α : Nat → Wt} {rest : List Oper} {K : List Oper → Fr → Prop} {d : Nat} {ty : TypeId} {pos : String} {af : Array Edge} {g : Option (Nat × Bool)} {bw : Bool}
/-- The same in a part that draws its order. -/
theorem se_makeL {β : Type} {c : β → List Value} {a : β} {x y : Operand} {t e : TypeId} {sz : Nat} {k1 k2 : IntKind} {m : Nat} {z : Value} {Hn : Wt → Hp} (hnw : nw.lookup i = some (slN m, Hn)) (hHn : ∀ x, Hn x = [own (some ⟨x.1, 0, none⟩) m m e sz ((List.replicate m a).flatMap c)])
    (hc : ∀ x, (c x).length = sz) (hsz : 0 < sz) (hza : z.cells.toList = c a) (hg : wants ops F g = some bw) (hb : bw = true) (hx : evO F x = some (.int k1 (m : Int))) (hy : evO F y = some (.int k2 (m : Int)))
    (hok : appOk P t e sz = true) (hZ : ∀ w, (zeroValue e).run P w = .ok z w) (hn : m ≤ 4294967296) (hN : d < N.n)
    (hs : ∀ b, SubH (Hn (α i) ++ Hof α b) (Hof α (setb b i))) (h : SE P N B w0 st nw Hof α ops p (i + 1) n rest ((d, .slice (some ⟨(α i).1, 0, none⟩) m m) :: F) K) (hst : st.contains i = false := by rfl) :
    SE P N B w0 st nw Hof α ops p i (n + 1) (⟨some d, .makeSlice t x y, ty, pos, af, g⟩ :: rest) F K :=
  se_op (s := .new d (slN m (α i))) ⟨hst, slN m, Hn, hnw, rfl, hN, by rw [← hb]; exact hg, rfl, fun b ρ ha w hw => .inl (by
    obtain ⟨hu', ⟨hp, hp2⟩, j, z', hi, hz, hs, hzs, hby⟩ := appOk_spec hok
    have hzz : z' = z := by
      have := hZ w
      simp [zeroValue, typeInfo, hi, hz] at this; exact this
    subst hzz
    obtain ⟨w', hr, h2, h3⟩ := run_make_full (P := P) w 0 t e j z' sz hu' hi hz hs k1 k2 m (by
      have : j.bytes * m ≤ j.bytes * 4294967296 := Nat.mul_le_mul_left _ hn
      omega) (by simp only [maxLen]; omega) (Nat.zero_le _)
    rw [made_flat hc a z' hza hsz] at h2
    have hb0 : Below w.heap.size w w' := (Below.refl _ w).grown h3 (Nat.le_refl _) (fun k hk => by cases hk)
    refine ⟨(w.heap.size, none, 0), w', by simp [execOp, ha _ _ hx, ha _ _ hy, hr, slN], ?_⟩
    rw [hHn]
    exact (Mem.start w).new (e := own _ m m e sz _) (g := w.heap.size) rfl (Nat.le_refl _) h2 hb0), fun b _ => hs b⟩ h
end
end Go.Proofs.Ytdoihebekbfnbaa
