/- Rows of memory: a store over a block, a slice of one, append onto a slice of the call's own. -/
import Derived.Test.YtdoihebekbfnbaaDraw
import Derived.Great.BuildSlice
namespace Go.Proofs.Ytdoihebekbfnbaa
open Go.RowKit

section
variable {r : Option Nat} {N : Nx} {F : Fr} {P : Program} {ops : Array Oper} {w : World} {K : Fr → World → Prop} {rest : List Oper} {d : Nat} {ty : TypeId} {pos : String} {af : Array Edge} {g : Option (Nat × Bool)} {bw : Bool}

theorem setRow_below {B b : Nat} (hB : B ≤ b) (cs : Array Value) : Below B w (w.setRow b cs) :=
  ⟨rfl, rfl, rfl, by simp [World.setRow], fun k hk => by
    have : b ≠ k := by omega
    simp [World.setRow, Array.getElem?_modify, this]⟩

/-- A store over a whole block. -/
theorem xo_storeB {x y : Operand} {t : TypeId} {b c : Nat} {cs old : Array Value} (hg : wants ops F g = some bw) (hb : bw = true) (hx : evO F x = some (.pointer (some ⟨b, 0, none⟩))) (hy : evO F y = some (.agg cs))
    (hS : ∀ w, (sizeOf t).run P w = .ok c w) (hcs : cs.size = c) (h1 : cs.toList.all Value.oneCell' = true) (hB : Blk w b t old) (ho : old.size = cs.size)
    (h : ∀ w', Blk w' b t cs → (∀ B, B ≤ b → Below B w w') → w'.heap.size = w.heap.size → XO r P N ops rest F w' K) : XO r P N ops (⟨none, .store t x y, ty, pos, af, g⟩ :: rest) F w K := by
  refine xo_skip (w' := w.setRow b cs) hg hb rfl (fun ρ ha => ?_) (h _ ?_ (fun B hB => setRow_below hB cs) (by simp [World.setRow]))
  · have hrow : (storeCells ⟨b, 0, none⟩ cs.toList).run P w = .ok () (w.setRow b (old.toList.take 0 ++ cs.toList).toArray) :=
      run_storeCells_from b t cs.toList 0 old _ hB (by simpa using ho.symm) (List.all_eq_true.1 h1)
    simp only [List.take_zero, List.nil_append, Array.toArray_toList] at hrow
    simp [execOp, ha _ _ hx, ha _ _ hy, Instr.storeAt, Instr.sureAddr, storeVar, Value.cells, hS, hcs, hrow]
  · exact setRow_heap w b old cs t (0, 0) hB

def appOk (P : Program) (t e : TypeId) (sz : Nat) : Bool :=
  (match P.underlying t with
   | some (.slice e') => e' == e
   | _ => false) && decide (0 < sz) && decide (sz ≤ 65536) && match P.info? e with
   | some i => (match i.zero with
     | some z => z.cells.size == sz
     | none => false) && i.size == sz && decide (4294967296 * i.bytes ≤ 140737488355328)
   | none => false

theorem appOk_spec {t e : TypeId} {sz : Nat} (h : appOk P t e sz = true) : P.underlying t = some (.slice e) ∧ (0 < sz ∧ sz ≤ 65536) ∧ ∃ i z, P.info? e = some i ∧ i.zero = some z ∧ i.size = sz ∧ z.cells.size = sz ∧ 4294967296 * i.bytes ≤ 140737488355328 := by
  unfold appOk at h
  simp only [Bool.and_eq_true, decide_eq_true_eq] at h
  obtain ⟨⟨⟨h1, h2⟩, h2'⟩, h3⟩ := h
  refine ⟨?_, ⟨h2, h2'⟩, ?_⟩
  · split at h1
    · rename_i e' he; rw [he]; simp at h1; rw [h1]
    · cases h1
  · split at h3
    · rename_i i hi
      simp only [Bool.and_eq_true, decide_eq_true_eq] at h3
      obtain ⟨⟨h4, h5⟩, h6⟩ := h3
      split at h4
      · rename_i z hz
        exact ⟨i, z, hi, hz, by simpa using h5, by simpa using h4, h6⟩
      · cases h4
    · cases h3

theorem run_slice1 {t e : TypeId} {sz : Nat} {v : Value} (hok : appOk P t e sz = true) (hvs : v.cells.size = sz) (w : World) : (Instr.buildSlice t 1 #[(0, v)]).run P w = .ok (.slice (some ⟨w.heap.size, 0, none⟩) 1 1) (w.alloc (.cells v.cells e)) := by
  obtain ⟨hu, ⟨hp, hp2⟩, i, z, hi, hz, hs, hzs, hby⟩ := appOk_spec hok
  subst hs
  have hf := Great.fill_whole hp [v] ((Array.range (1 * i.size)).map (z.cells[· % z.cells.size]!)) (by simpa using hvs) (by simp)
  exact run_buildSlice (P := P) w t e 1 #[(0, v)] v.cells i z hu hi hz (by omega) (by omega) (by simpa using hf)

/-- A slice of one element. -/
theorem xo_slice1 {x : Operand} {t e : TypeId} {sz : Nat} {v : Value} (hg : wants ops F g = some bw) (hb : bw = true) (hx : evO F x = some v) (hok : appOk P t e sz = true) (hvs : v.cells.size = sz) (hN : d < N.n)
    (h : XO r P N ops rest ((d, .slice (some ⟨w.heap.size, 0, none⟩) 1 1) :: F) (w.alloc (.cells v.cells e)) K) : XO r P N ops (⟨some d, .buildSlice t 1 #[(0, x)], ty, pos, af, g⟩ :: rest) F w K :=
  xo_run hg hb rfl hN (fun ρ ha => by simp [execOp, ha _ _ hx, run_slice1 hok hvs]) h
theorem xd_slice1 {B n : Nat} {w0 : World} {KD : World → List Oper → Fr → Prop} {x : Operand} {t e : TypeId} {sz : Nat} {v : Value} (hg : wants ops F g = some bw) (hb : bw = true) (hx : evO F x = some v) (hok : appOk P t e sz = true) (hvs : v.cells.size = sz) (hF : F.lookup d = none) (hN : d < N.n)
    (h : XD P N ops B w0 n rest F (fun w' l F' => ∀ g, B ≤ g → Blk w' g e v.cells → KD w' l ((d, .slice (some ⟨g, 0, none⟩) 1 1) :: F'))) : XD P N ops B w0 (n + 1) (⟨some d, .buildSlice t 1 #[(0, x)], ty, pos, af, g⟩ :: rest) F KD :=
  xd_new (fun g => .slice (some ⟨g, 0, none⟩) 1 1) hg hb rfl hF hN (fun ρ ha w => by simp [execOp, ha _ _ hx, run_slice1 hok hvs]) h

/-- append onto a slice of the call's own. -/
theorem xo_append1 {α : Type} {c : α → List Value} {x y : Operand} {t e : TypeId} {sz base b cap cap1 : Nat} {A : Option Addr} {l : List α} (u : α) (hg : wants ops F g = some bw) (hb : bw = true)
    (hx : evO F x = some (.slice A l.length cap)) (hy : evO F y = some (.slice (some ⟨b, 0, none⟩) 1 cap1)) (hok : appOk P t e sz = true)
    (hown : OwnSl c sz e base w A cap l) (hnews : Row w b 0 (c u)) (hcl : (c u).length = sz) (h1 : (c u).all Value.oneCell' = true) (hlen : l.length + 1 ≤ 4294967296) (hbase : base ≤ w.heap.size) (hN : d < N.n)
    (h : ∀ A' cap' w', OwnSl c sz e base w' A' cap' (l ++ [u]) → Below base w w' → XO r P N ops rest ((d, .slice A' (l ++ [u]).length cap') :: F) w' K) :
    XO r P N ops (⟨some d, .call { callee := .builtin .append, args := #[x, y], argTypes := #[t, t] }, ty, pos, af, g⟩ :: rest) F w K := by
  obtain ⟨hu, ⟨hp, hp2⟩, i, z, hi, hz, hs, hzs, hby⟩ := appOk_spec hok
  obtain ⟨g', cap', w', hr, h2, h3, h4, h5⟩ := run_append_lies (P := P) w t ty base e i z sz i.bytes hu hi hz hs rfl hzs hp _ l.length _ hown ⟨b, 0, none⟩ 1 cap1 (c u) (by omega) (fun j v hv => by rw [add_place]; exact hnews j v hv) (List.all_eq_true.1 h1) (by omega) (by simp only [maxLen]; omega)
    (Nat.le_trans (Nat.mul_le_mul_right _ hlen) hby) hbase _ rfl
  have e2 : (l ++ [u]).length = l.length + 1 := by simp
  refine xo_run (w' := w') hg hb rfl hN (fun ρ ha => ?_) (h (some ⟨g', 0, none⟩) cap' w' ?_ ?_)
  · rw [e2]
    simp [execOp, resolve, invoke, builtin, ha _ _ hx, ha _ _ hy, hr]
  · unfold OwnSl
    rw [e2]
    simpa using h2
  · refine (Below.refl base w).grown h3 hbase (fun k hk => ?_)
    rcases hown.2 with ⟨e0, _⟩ | ⟨g0, cap0, cur, hv, hb0, _⟩
    · rw [e0] at hk; simp [Value.ownBlock] at hk
    · rw [hv] at hk; simp [Value.ownBlock] at hk; omega
theorem OwnSl.below {α : Type} {c : α → List Value} {sz : Nat} {e : TypeId} {base B cap : Nat} {w' : World} {A : Option Addr} {l : List α} (h : OwnSl c sz e base w A cap l) (hb : Below B w w') (hB : w.heap.size ≤ B) : OwnSl c sz e base w' A cap l := by
  refine ⟨h.1, ?_⟩
  rcases h.2 with h0 | ⟨g, cap', cur, hv, hg, hc, hr⟩
  · exact .inl h0
  · refine .inr ⟨g, cap', cur, hv, hg, ?_, hr⟩
    have : g < w.heap.size := (Array.getElem?_eq_some_iff.1 hc).1
    rw [hb.block g (by omega)]; exact hc
end
end Go.Proofs.Ytdoihebekbfnbaa
