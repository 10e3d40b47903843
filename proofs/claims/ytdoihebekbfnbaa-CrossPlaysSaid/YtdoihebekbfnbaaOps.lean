/- One lemma an operation, over what is known of the frame. -/
import Derived.Test.YtdoihebekbfnbaaStep
namespace Go.Proofs.Ytdoihebekbfnbaa
open Go.RowKit

section
variable {r : Option Nat} {N : Nx} {F : Fr} {P : Program} {ops : Array Oper} {w : World} {K : Fr → World → Prop} {rest : List Oper} {d : Nat} {ty : TypeId} {pos : String} {af : Array Edge} {g : Option (Nat × Bool)} {bw : Bool} {C : World → Prop}

theorem ps_move {x : Operand} {v : Value} (hx : evO F x = some v) : PS P F C ⟨some d, .move x, ty, pos, af, g⟩ (v) :=
  fun ρ ha w hC => by simp [execOp, ha _ _ hx]

theorem ps_assign {x : Operand} {v : Value} (hx : evO F x = some v) : PS P F C ⟨some d, .assign x, ty, pos, af, g⟩ (v) :=
  fun ρ ha w hC => by simp [execOp, ha _ _ hx]

theorem ps_pick_t {c x y : Operand} {b : Bool} {v : Value} (hc : evO F c = some (.bool b)) (hbt : b = true) (hx : evO F x = some v) : PS P F C ⟨some d, .pick c x y, ty, pos, af, g⟩ (v) :=
  fun ρ ha w hC => by subst hbt; simp [execOp, ha _ _ hx, ha _ _ hc, asBool, go_sem]

theorem ps_pick_f {c x y : Operand} {b : Bool} {v : Value} (hc : evO F c = some (.bool b)) (hbt : b = false) (hy : evO F y = some v) : PS P F C ⟨some d, .pick c x y, ty, pos, af, g⟩ (v) :=
  fun ρ ha w hC => by subst hbt; simp [execOp, ha _ _ hy, ha _ _ hc, asBool, go_sem]

theorem xo_pick_s {c x y : Operand} {b : Bool} (_hc : evO F c = some (.bool b)) (h1 : b = true → XO r P N ops (⟨some d, .pick c x y, ty, pos, af, g⟩ :: rest) F w K) (h2 : b = false → XO r P N ops (⟨some d, .pick c x y, ty, pos, af, g⟩ :: rest) F w K) : XO r P N ops (⟨some d, .pick c x y, ty, pos, af, g⟩ :: rest) F w K := by
  cases b
  · exact h2 rfl
  · exact h1 rfl

/-! Sums, differences, products of int64. -/
theorem ps_add64 {x y : Operand} {xt yt : TypeId} {m n : Int} (hx : evO F x = some (.int .i64 m)) (hy : evO F y = some (.int .i64 n)) : PS P F C ⟨some d, .binOp .add xt x y yt, ty, pos, af, g⟩ (.int .i64 (wrap64 (m + n))) :=
  fun ρ ha w hC => by simp [execOp, ha _ _ hx, ha _ _ hy, eqGuard, go_sem, IntWalk.i64_left]

theorem ps_sub64 {x y : Operand} {xt yt : TypeId} {m n : Int} (hx : evO F x = some (.int .i64 m)) (hy : evO F y = some (.int .i64 n)) : PS P F C ⟨some d, .binOp .sub xt x y yt, ty, pos, af, g⟩ (.int .i64 (wrap64 (m - n))) :=
  fun ρ ha w hC => by simp [execOp, ha _ _ hx, ha _ _ hy, eqGuard, go_sem, IntWalk.i64_left]

theorem ps_mul64 {x y : Operand} {xt yt : TypeId} {m n : Int} (hx : evO F x = some (.int .i64 m)) (hy : evO F y = some (.int .i64 n)) : PS P F C ⟨some d, .binOp .mul xt x y yt, ty, pos, af, g⟩ (.int .i64 (wrap64 (m * n))) :=
  fun ρ ha w hC => by simp [execOp, ha _ _ hx, ha _ _ hy, eqGuard, go_sem, IntWalk.i64_left]

theorem wrap64_within (n : Int) (h : -9223372036854775808 ≤ n ∧ n ≤ 9223372036854775807) : wrap64 n = n := IntWalk.wrap64_in n h
theorem ps_add64_in {x y : Operand} {xt yt : TypeId} {m n : Int} (hx : evO F x = some (.int .i64 m)) (hy : evO F y = some (.int .i64 n)) (hin : -9223372036854775808 ≤ m + n ∧ m + n ≤ 9223372036854775807) : PS P F C ⟨some d, .binOp .add xt x y yt, ty, pos, af, g⟩ (.int .i64 (m + n)) :=
  (wrap64_within _ hin) ▸ ps_add64 hx hy
theorem ps_mul64_in {x y : Operand} {xt yt : TypeId} {m n : Int} (hx : evO F x = some (.int .i64 m)) (hy : evO F y = some (.int .i64 n)) (hin : -9223372036854775808 ≤ m * n ∧ m * n ≤ 9223372036854775807) : PS P F C ⟨some d, .binOp .mul xt x y yt, ty, pos, af, g⟩ (.int .i64 (m * n)) :=
  (show wrap64 (m * n) = m * n by unfold wrap64; omega) ▸ ps_mul64 hx hy
theorem ps_sub64_in {x y : Operand} {xt yt : TypeId} {m n : Int} (hx : evO F x = some (.int .i64 m)) (hy : evO F y = some (.int .i64 n)) (hin : -9223372036854775808 ≤ m - n ∧ m - n ≤ 9223372036854775807) : PS P F C ⟨some d, .binOp .sub xt x y yt, ty, pos, af, g⟩ (.int .i64 (m - n)) :=
  (wrap64_within _ hin) ▸ ps_sub64 hx hy
/-- A counter goes on by one. -/
theorem ps_succ {x y : Operand} {xt yt : TypeId} {k : Nat} (hx : evO F x = some (.int .i64 (k : Int))) (hy : evO F y = some (.int .i64 1)) (hin : k < 9223372036854775807) : PS P F C ⟨some d, .binOp .add xt x y yt, ty, pos, af, g⟩ (.int .i64 ((k + 1 : Nat) : Int)) := by
  have := ps_add64_in (P := P) (F := F) (C := C) (d := d) (xt := xt) (yt := yt) (ty := ty) (pos := pos) (af := af) (g := g) hx hy (by omega)
  simpa using this

/-! Rests and parts of what is not negative. -/
theorem ps_rem {x y : Operand} {xt yt : TypeId} {m n : Int} (hx : evO F x = some (.int .i64 m)) (hy : evO F y = some (.int .i64 n)) (hm : 0 ≤ m) (hn : 0 < n) (h : m ≤ 9223372036854775807) : PS P F C ⟨some d, .binOp .rem xt x y yt, ty, pos, af, g⟩ (.int .i64 (m % n)) :=
  fun ρ ha w hC => by
    have h1 : n ≠ 0 := by omega
    have h2 : m.tmod n = m % n := Int.tmod_eq_emod_of_nonneg hm
    have h3 : 0 ≤ m % n := Int.emod_nonneg _ h1
    have h4 : m % n ≤ m := by
      rcases Int.lt_or_le m n with h' | h'
      · rw [Int.emod_eq_of_lt hm h']; omega
      · have := Int.emod_lt_of_pos m hn; omega
    have h5 : IntKind.i64.wrap (m % n) = m % n := IntWalk.i64_in _ (by omega)
    simp [execOp, binOp, Op.intDiv, ha _ _ hx, ha _ _ hy, h1, h2, h5, go_sem]
theorem ps_quo {x y : Operand} {xt yt : TypeId} {m n : Int} (hx : evO F x = some (.int .i64 m)) (hy : evO F y = some (.int .i64 n)) (hm : 0 ≤ m) (hn : 0 < n) (h : m ≤ 9223372036854775807) : PS P F C ⟨some d, .binOp .quo xt x y yt, ty, pos, af, g⟩ (.int .i64 (m / n)) :=
  fun ρ ha w hC => by
    have h1 : n ≠ 0 := by omega
    have h2 : m.tdiv n = m / n := Int.tdiv_eq_ediv_of_nonneg hm
    have h3 : 0 ≤ m / n := Int.ediv_nonneg hm (by omega)
    have h4 : m / n ≤ m := Int.ediv_le_self _ hm
    have h5 : IntKind.i64.wrap (m / n) = m / n := IntWalk.i64_in _ (by omega)
    simp [execOp, binOp, Op.intDiv, ha _ _ hx, ha _ _ hy, h1, h2, h5, go_sem]

/-! Tests. -/
theorem ps_lss {x y : Operand} {xt yt : TypeId} {k : IntKind} {m n : Int} (hx : evO F x = some (.int k m)) (hy : evO F y = some (.int k n)) : PS P F C ⟨some d, .binOp .lss xt x y yt, ty, pos, af, g⟩ (.bool (decide (m < n))) :=
  fun ρ ha w hC => by simp [execOp, binOp, Op.intCmp, ha _ _ hx, ha _ _ hy, eqGuard, go_sem]

theorem ps_gtr {x y : Operand} {xt yt : TypeId} {k : IntKind} {m n : Int} (hx : evO F x = some (.int k m)) (hy : evO F y = some (.int k n)) : PS P F C ⟨some d, .binOp .gtr xt x y yt, ty, pos, af, g⟩ (.bool (decide (n < m))) :=
  fun ρ ha w hC => by simp [execOp, binOp, Op.intCmp, ha _ _ hx, ha _ _ hy, eqGuard, go_sem]

theorem ps_leq {x y : Operand} {xt yt : TypeId} {k : IntKind} {m n : Int} (hx : evO F x = some (.int k m)) (hy : evO F y = some (.int k n)) : PS P F C ⟨some d, .binOp .leq xt x y yt, ty, pos, af, g⟩ (.bool (decide (m ≤ n))) :=
  fun ρ ha w hC => by simp [execOp, binOp, Op.intCmp, ha _ _ hx, ha _ _ hy, eqGuard, go_sem]

theorem ps_geq {x y : Operand} {xt yt : TypeId} {k : IntKind} {m n : Int} (hx : evO F x = some (.int k m)) (hy : evO F y = some (.int k n)) : PS P F C ⟨some d, .binOp .geq xt x y yt, ty, pos, af, g⟩ (.bool (decide (n ≤ m))) :=
  fun ρ ha w hC => by simp [execOp, binOp, Op.intCmp, ha _ _ hx, ha _ _ hy, eqGuard, go_sem]

theorem ps_eql {x y : Operand} {xt yt : TypeId} {k : IntKind} {m n : Int} (hx : evO F x = some (.int k m)) (hy : evO F y = some (.int k n)) : PS P F C ⟨some d, .binOp .eql xt x y yt, ty, pos, af, g⟩ (.bool (decide (m = n))) :=
  fun ρ ha w hC => by
    have e : (m == n) = decide (m = n) := rfl
    simp [execOp, binOp, Op.intCmp, ha _ _ hx, ha _ _ hy, eqGuard, e]

theorem ps_neq {x y : Operand} {xt yt : TypeId} {k : IntKind} {m n : Int} (hx : evO F x = some (.int k m)) (hy : evO F y = some (.int k n)) : PS P F C ⟨some d, .binOp .neq xt x y yt, ty, pos, af, g⟩ (.bool (!decide (m = n))) :=
  fun ρ ha w hC => by
    have e2 : (m != n) = !decide (m = n) := rfl
    simp [execOp, binOp, Op.intCmp, ha _ _ hx, ha _ _ hy, eqGuard, e2]

theorem ps_not_ {x : Operand} {xt : TypeId} {b : Bool} (hx : evO F x = some (.bool b)) : PS P F C ⟨some d, .unOp .not xt x, ty, pos, af, g⟩ (.bool (!b)) :=
  fun ρ ha w hC => by simp [execOp, ha _ _ hx, go_sem]

/-! Addresses. -/
theorem add_place (b o n : Nat) : (⟨b, o, none⟩ : Addr).add n = ⟨b, o + n, none⟩ := by unfold Addr.add; split <;> simp_all
theorem fieldAt_run {st : TypeId} {fs : Array Field} {f : Nat} {fl : Field} {c : Nat}
    (hU : ∀ w, (underlying st).run P w = .ok (.struct fs) w) (hf : fs[f]? = some fl) (hS : ∀ w, (sizeOf fl.type).run P w = .ok c w) (hc : c ≠ 0) (b o : Nat) (w : World) :
    (Instr.fieldAt st (.pointer (some ⟨b, o, none⟩)) f).run P w = .ok (.pointer (some ⟨b, o + fl.offset, none⟩)) w := by
  simp [Instr.fieldAt, hU, hf, Instr.sureAddr, fieldPlace, hS, hc, add_place]
theorem ps_fieldAddr {x : Operand} {st : TypeId} {f b o c : Nat} (hx : evO F x = some (.pointer (some ⟨b, o, none⟩)))
    (hf : ∀ b o w, (Instr.fieldAt st (.pointer (some ⟨b, o, none⟩)) f).run P w = .ok (.pointer (some ⟨b, o + c, none⟩)) w) : PS P F C ⟨some d, .fieldAddr st x f, ty, pos, af, g⟩ (.pointer (some ⟨b, o + c, none⟩)) :=
  fun ρ ha w hC => by
    simp only [execOp, ha _ _ hx, Sem.run_bind, hf]; rfl

theorem ps_indexAddr {x y : Operand} {st e : TypeId} {b o len cap c : Nat} {k : IntKind} {i : Int} {j : Nat} (hx : evO F x = some (.slice (some ⟨b, o, none⟩) len cap)) (hy : evO F y = some (.int k i))
    (hU : ∀ w, (underlying st).run P w = .ok (.slice e) w) (hS : ∀ w, (sizeOf e).run P w = .ok c w) (hij : i = (j : Int)) (hjl : j < len) : PS P F C ⟨some d, .indexAddr st x y, ty, pos, af, g⟩ (.pointer (some ⟨b, o + j * c, none⟩)) :=
  fun ρ ha w hC => by
    subst hij
    have h1 : (0 : Int) ≤ (j : Int) ∧ (j : Int) < (len : Int) := by omega
    simp [execOp, ha _ _ hx, ha _ _ hy, Instr.indexAt, asIntOf, hU, hS, h1, add_place, hjl]

/-! Loads and stores. -/
theorem ps_load1 {x : Operand} {t : TypeId} {b o : Nat} {v : Value} (hx : evO F x = some (.pointer (some ⟨b, o, none⟩)))
    (hA : ∀ w, (isAgg t).run P w = .ok false w) (hc : ∀ w, C w → w.cell? ⟨b, o, none⟩ = some v) : PS P F C ⟨some d, .load t x, ty, pos, af, g⟩ (v) :=
  fun ρ ha w hC => by simp [execOp, ha _ _ hx, Instr.loadAt, Instr.sureAddr, loadVar, hA, hc w hC]

/-- A row of cells that reads as a list. -/
def Row (w : World) (b o : Nat) (cs : List Value) : Prop := ∀ j u, cs[j]? = some u → w.cell? ⟨b, o + j, none⟩ = some u
theorem cell_new (w : World) (t : TypeId) (cs : Array Value) (j : Nat) : (w.alloc (.cells cs t)).cell? ⟨w.heap.size, j, none⟩ = cs.toList[j]? :=
  (cell_of_row _ _ _ cs t (0, 0) (heap_alloc_new w _)).trans (by simp)
theorem cell_old {b : Nat} (w : World) (o : Obj) (j : Nat) (h : b < w.heap.size) : (w.alloc o).cell? ⟨b, j, none⟩ = w.cell? ⟨b, j, none⟩ := World.cell?_alloc_lt w o ⟨b, j, none⟩ h
theorem row_new (w : World) (t : TypeId) (cs : Array Value) : Row (w.alloc (.cells cs t)) w.heap.size 0 cs.toList := fun j u h => by
  rw [Nat.zero_add, cell_new]; exact h
theorem row_old {w : World} {ob : Obj} {b o : Nat} {cs : List Value} (h : b < w.heap.size) (hr : Row w b o cs) : Row (w.alloc ob) b o cs := fun j u hj => (cell_old w ob _ h).trans (hr j u hj)
theorem Row.below {w w' : World} {B b o : Nat} {cs : List Value} (h : Row w b o cs) (hb : Below B w w') (hB : b < B) : Row w' b o cs := fun j u hj => (hb.cell (p := ⟨b, _, none⟩) hB).trans (h j u hj)

theorem cell_oldT {w : World} {ob : Obj} {b j : Nat} {v : Option Value} (h : b < w.heap.size) (hc : w.cell? ⟨b, j, none⟩ = v) : (w.alloc ob).cell? ⟨b, j, none⟩ = v := (cell_old w ob j h).trans hc
theorem cell_newT {w : World} {t : TypeId} {cs : Array Value} {j : Nat} {v : Option Value} (hc : cs.toList[j]? = v) : (w.alloc (.cells cs t)).cell? ⟨w.heap.size, j, none⟩ = v := (cell_new w t cs j).trans hc
theorem cell_keptT {w w' : World} {B b j : Nat} {v : Option Value} (hb : Below B w w') (hB : b < B) (hc : w.cell? ⟨b, j, none⟩ = v) : w'.cell? ⟨b, j, none⟩ = v := (hb.cell (p := ⟨b, j, none⟩) hB).trans hc
theorem cell_drewT {w : World} {p : Addr} {v : Option Value} (hc : w.cell? p = v) : w.drew.cell? p = v := hc
theorem row_oldT {w : World} {ob : Obj} {b o : Nat} {cs : List Value} (h : b < w.heap.size) (hr : Row w b o cs) : Row (w.alloc ob) b o cs := row_old h hr
theorem row_keptT {w w' : World} {B b o : Nat} {cs : List Value} (hb : Below B w w') (hB : b < B) (h : Row w b o cs) : Row w' b o cs := h.below hb hB
theorem row_drewT {w : World} {b o : Nat} {cs : List Value} (h : Row w b o cs) : Row w.drew b o cs := h

theorem ps_loadN {x : Operand} {t : TypeId} {b o c : Nat} {cs : List Value} (hx : evO F x = some (.pointer (some ⟨b, o, none⟩)))
    (hA : ∀ w, (isAgg t).run P w = .ok true w) (hS : ∀ w, (sizeOf t).run P w = .ok c w) (hc : ∀ w, C w → Row w b o cs) (hl : cs.length = c) : PS P F C ⟨some d, .load t x, ty, pos, af, g⟩ (.agg cs.toArray) :=
  fun ρ ha w hC => by
    subst hl
    have := run_loadCells_list (P := P) w ⟨b, o, none⟩ cs (fun j v hv => by rw [add_place]; exact hc w hC j v hv)
    simp [execOp, ha _ _ hx, Instr.loadAt, Instr.sureAddr, loadVar, hA, hS, this]

theorem xo_alloc {t : TypeId} {z : Value} (hg : wants ops F g = some bw) (hb : bw = true) (hZ : ∀ w, (zeroValue t).run P w = .ok z w) (hN : d < N.n)
    (h : XO r P N ops rest ((d, .pointer (some ⟨w.heap.size, 0, none⟩)) :: F) (w.alloc (.cells z.cells t)) K) : XO r P N ops (⟨some d, .alloc t, ty, pos, af, g⟩ :: rest) F w K :=
  xo_run hg hb rfl hN (fun ρ ha => by simp [execOp, Instr.alloc, hZ, newVar, newRow]) h

theorem xo_box {x : Operand} {t : TypeId} {v : Value} (hg : wants ops F g = some bw) (hb : bw = true) (hx : evO F x = some v) (hN : d < N.n)
    (h : XO r P N ops rest ((d, .pointer (some ⟨w.heap.size, 0, none⟩)) :: F) (w.alloc (.cells v.cells t)) K) : XO r P N ops (⟨some d, .box t x, ty, pos, af, g⟩ :: rest) F w K :=
  xo_run hg hb rfl hN (fun ρ ha => by simp [execOp, Instr.box, ha _ _ hx, newVar, newRow]) h

theorem run_store1 {w : World} {t : TypeId} {b o : Nat} {v u : Value} (hv : v.oneCell' = true) (hS : ∀ w, (sizeOf t).run P w = .ok 1 w) (hc : w.cell? ⟨b, o, none⟩ = some u) (hf : w.frozen? ⟨b, o, none⟩ = false) :
    (storeVar t ⟨b, o, none⟩ v).run P w = .ok () (w.setCell ⟨b, o, none⟩ v) := by
  have hvc : v.cells = #[v] := by cases v <;> simp_all [Value.oneCell', Value.cells]
  unfold storeVar
  rw [hvc]
  simp [hS, storeCells, add_place, run_store P w _ _ _ hv, hc, hf]

theorem xo_store1 {x y : Operand} {t : TypeId} {b o : Nat} {v u : Value} (hg : wants ops F g = some bw) (hb : bw = true) (hx : evO F x = some (.pointer (some ⟨b, o, none⟩))) (hy : evO F y = some v) (hv : v.oneCell' = true)
    (hS : ∀ w, (sizeOf t).run P w = .ok 1 w) (hc : w.cell? ⟨b, o, none⟩ = some u) (hf : w.frozen? ⟨b, o, none⟩ = false)
    (h : XO r P N ops rest F (w.setCell ⟨b, o, none⟩ v) K) : XO r P N ops (⟨none, .store t x y, ty, pos, af, g⟩ :: rest) F w K :=
  xo_skip hg hb rfl (fun ρ ha => by
    simp [execOp, ha _ _ hx, ha _ _ hy, Instr.storeAt, Instr.sureAddr, run_store1 hv hS hc hf]) h

theorem setRow_alloc (w : World) (t : TypeId) (cs cs' : Array Value) : (w.alloc (.cells cs' t)).setRow w.heap.size cs = w.alloc (.cells cs t) := by
  simp only [World.setRow, World.alloc]
  congr 1
  apply Array.ext_getElem?
  intro i
  rw [Array.getElem?_modify, Array.getElem?_push, Array.getElem?_push]
  by_cases hi : i = w.heap.size
  · subst hi; simp
  · simp [hi, Ne.symm hi]

/-- A new variable and its value: one block. -/
theorem xo_new {y : Operand} {t : TypeId} {cs : Array Value} {c : Nat} {z : Value} {ty' : TypeId} {pos' : String} {af' : Array Edge} {g' : Option (Nat × Bool)} {bw' : Bool} (hg : wants ops F g = some bw) (hb : bw = true) (hZ : ∀ w, (zeroValue t).run P w = .ok z w) (hN : d < N.n)
    (hg' : wants ops ((d, .pointer (some ⟨w.heap.size, 0, none⟩)) :: F) g' = some bw') (hb' : bw' = true)
    (hy : evO ((d, .pointer (some ⟨w.heap.size, 0, none⟩)) :: F) y = some (.agg cs)) (hzc : z.cells.size = cs.size) (hS : ∀ w, (sizeOf t).run P w = .ok c w) (hcs : cs.size = c) (h1 : cs.toList.all Value.oneCell' = true)
    (h : XO r P N ops rest ((d, .pointer (some ⟨w.heap.size, 0, none⟩)) :: F) (w.alloc (.cells cs t)) K) :
    XO r P N ops (⟨some d, .alloc t, ty, pos, af, g⟩ :: ⟨none, .store t (.tmp d) y, ty', pos', af', g'⟩ :: rest) F w K := by
  refine xo_alloc hg hb hZ hN (xo_skip (w' := w.alloc (.cells cs t)) hg' hb' rfl (fun ρ ha => ?_) h)
  have e1 := ha (.tmp d) (.pointer (some ⟨w.heap.size, 0, none⟩)) (by simp [evO])
  have hrow : (storeCells ⟨w.heap.size, 0, none⟩ cs.toList).run P (w.alloc (.cells z.cells t)) = .ok () ((w.alloc (.cells z.cells t)).setRow w.heap.size (z.cells.toList.take 0 ++ cs.toList).toArray) :=
    run_storeCells_from w.heap.size t cs.toList 0 z.cells _ (heap_alloc_new w _) (by simpa using hzc.symm) (List.all_eq_true.1 h1)
  have hset : (w.alloc (.cells z.cells t)).setRow w.heap.size (z.cells.toList.take 0 ++ cs.toList).toArray = w.alloc (.cells cs t) := by
    rw [setRow_alloc]; simp
  rw [hset] at hrow
  generalize z.cells = zc at hrow ⊢
  simp [execOp, e1, ha _ _ hy, Instr.storeAt, Instr.sureAddr, storeVar, Value.cells, hS, hcs, hrow]

theorem ps_build {t : TypeId} {parts : Array (Nat × Operand)} {ps : List (Nat × Value)} {z : Value} {fs : Array Field} {cs : Array Value} (hps : parts.toList.map (fun p => (p.1, evO F p.2)) = ps.map (fun p => (p.1, some p.2))) (hr : ∀ w, (Instr.build t ps.toArray).run P w = .ok (.agg cs) w) : PS P F C ⟨some d, .build t parts, ty, pos, af, g⟩ (.agg cs) :=
  fun ρ ha w hC => by
    have e : parts.map (fun p => (p.1, ρ p.2)) = ps.toArray := by
      have key : ∀ (l : List (Nat × Operand)) (m : List (Nat × Value)), l.map (fun p => (p.1, evO F p.2)) = m.map (fun p => (p.1, some p.2)) → l.map (fun p => (p.1, ρ p.2)) = m := by
        intro l
        induction l with
        | nil => intro m hm; cases m with | nil => rfl | cons _ _ => simp at hm
        | cons p l ih =>
          intro m hm
          cases m with
          | nil => simp at hm
          | cons q m =>
            simp only [List.map_cons, List.cons.injEq, Prod.mk.injEq] at hm
            rw [List.map_cons, ih m hm.2, hm.1.1, ha _ _ hm.1.2]
      have := key _ _ hps
      apply Array.ext'
      simpa using this
    simp only [execOp]
    have e' : parts.map (fun (i, x) => (i, ρ x)) = ps.toArray := e
    rw [e']
    simp [hr]

def fitK (k : IntKind) : Int × Int := (k.min, k.max)
theorem run_conv {st dt : TypeId} {k k' : IntKind} {n : Int} (h1 : ∀ w, (underlying st).run P w = .ok (.int k) w) (h2 : ∀ w, (underlying dt).run P w = .ok (.int k') w) (hin : k'.wrap n = n) : ∀ w, (convert st dt (.int k n)).run P w = .ok (.int k' n) w := fun w => by
  simp [convert, h1, h2, hin, go_sem]

theorem ps_extract {x : Operand} {vs : Array Value} {i : Nat} {v : Value} (hx : evO F x = some (.tuple vs)) (hv : vs[i]? = some v) : PS P F C ⟨some d, .extract x i, ty, pos, af, g⟩ (v) :=
  fun ρ ha w hC => by simp [execOp, ha _ _ hx, Instr.extract, hv]

theorem ps_convert {x : Operand} {st dt : TypeId} {v u : Value} (hx : evO F x = some v) (hr : ∀ w, (convert st dt v).run P w = .ok u w) : PS P F C ⟨some d, .convert st dt x, ty, pos, af, g⟩ (u) :=
  fun ρ ha w hC => by simp [execOp, ha _ _ hx, hr]

theorem ps_len {x : Operand} {st e : TypeId} {A : Option Addr} {n cap : Nat} (hx : evO F x = some (.slice A n cap)) (hU : ∀ w, (underlying st).run P w = .ok (.slice e) w) : PS P F C ⟨some d, .call { callee := .builtin .len, args := #[x], argTypes := #[st] }, ty, pos, af, g⟩ (.int .i64 (n : Int)) :=
  fun ρ ha w hC => by simp [execOp, resolve, invoke, builtin, ha _ _ hx, Builtin.len_, hU, goInt]

theorem ps_max {x y : Operand} {ats : Array TypeId} {k : IntKind} {m n : Int} (hx : evO F x = some (.int k m)) (hy : evO F y = some (.int k n)) : PS P F C ⟨some d, .call { callee := .builtin .max, args := #[x, y], argTypes := ats }, ty, pos, af, g⟩ (.int k (max m n)) :=
  fun ρ ha w hC => by simp [ha _ _ hx, ha _ _ hy, run_max2, go_sem]

theorem ps_max3 {x y z : Operand} {ats : Array TypeId} {k : IntKind} {m n l : Int} (hx : evO F x = some (.int k m)) (hy : evO F y = some (.int k n)) (hz : evO F z = some (.int k l)) : PS P F C ⟨some d, .call { callee := .builtin .max, args := #[x, y, z], argTypes := ats }, ty, pos, af, g⟩ (.int k (max (max m n) l)) :=
  fun ρ ha w hC => by
    simp [ha _ _ hx, ha _ _ hy, ha _ _ hz, run_max3, go_sem]
theorem ps_min {x y : Operand} {ats : Array TypeId} {k : IntKind} {m n : Int} (hx : evO F x = some (.int k m)) (hy : evO F y = some (.int k n)) : PS P F C ⟨some d, .call { callee := .builtin .min, args := #[x, y], argTypes := ats }, ty, pos, af, g⟩ (.int k (min m n)) :=
  fun ρ ha w hC => by simp [ha _ _ hx, ha _ _ hy, run_min2, go_sem]

theorem args_eval {as_ : Array Operand} {vs : List Value} {ρ : Operand → Value} (hvs : as_.toList.map (evO F) = vs.map some) (ha : ∀ x v, evO F x = some v → ρ x = v) : as_.map ρ = vs.toArray := by
  have key : ∀ (l : List Operand) (m : List Value), l.map (evO F) = m.map some → l.map ρ = m := by
    intro l
    induction l with
    | nil => intro m hm; cases m with | nil => rfl | cons _ _ => simp at hm
    | cons p l ih =>
      intro m hm
      cases m with
      | nil => simp at hm
      | cons q m =>
        simp only [List.map_cons, List.cons.injEq] at hm
        rw [List.map_cons, ih m hm.2, ha _ _ hm.1]
  have := key _ _ hvs
  apply Array.ext'
  simpa using this

/-- A call of a function by its name. -/
theorem xo_call {f : FuncId} {as_ : Array Operand} {ats : Array TypeId} {vs : List Value} (hg : wants ops F g = some bw) (hb : bw = true)
    (hvs : as_.toList.map (evO F) = vs.map some) (hf : ∀ args w, (callFunc f args).run P w = .ok (.enter f args) w) (hN : d < N.n)
    (h : Calls P f vs.toArray w fun e w' => ∃ v, e = .returned v ∧ XO r P N ops rest ((d, v) :: F) w' K) :
    XO r P N ops (⟨some d, .call { callee := .value (.func f), args := as_, argTypes := ats }, ty, pos, af, g⟩ :: rest) F w K :=
  xo_enter hg hb rfl hN (fun ρ ha => by
    have e : as_.map ρ = vs.toArray := args_eval hvs ha
    have e2 := ha (.func f) _ rfl
    simp [execOp, resolve, invoke, e, e2, hf, go_sem]) h

/-- The same, the contract first. -/
theorem xo_callC {f : FuncId} {as_ : Array Operand} {ats : Array TypeId} {vs : List Value} {R : Ending → World → Prop} (hc : Calls P f vs.toArray w R) (hg : wants ops F g = some bw) (hb : bw = true)
    (hvs : as_.toList.map (evO F) = vs.map some) (hf : ∀ args w, (callFunc f args).run P w = .ok (.enter f args) w) (hN : d < N.n)
    (h : ∀ e w', R e w' → ∃ v, e = .returned v ∧ XO r P N ops rest ((d, v) :: F) w' K) :
    XO r P N ops (⟨some d, .call { callee := .value (.func f), args := as_, argTypes := ats }, ty, pos, af, g⟩ :: rest) F w K := xo_call hg hb hvs hf hN (hc.mono h)

end
end Go.Proofs.Ytdoihebekbfnbaa
