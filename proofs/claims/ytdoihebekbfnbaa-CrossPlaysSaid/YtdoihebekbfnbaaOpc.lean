/- Operations on numbers and pointers, closures, loops of so many rounds. -/
import Derived.Test.YtdoihebekbfnbaaOpb
import Derived.LoopNIn
namespace Go.Proofs.Ytdoihebekbfnbaa
open Go.RowKit

section
variable {rd : Option Nat} {P : Program} {N : Nx} {B : Nat} {w0 : World} {F : Fr} {H H' R : Hp} {C : World → Prop} {ops : Array Oper} {rest : List Oper} {K : Fr → Hp → Prop} {d : Nat} {ty : TypeId} {pos : String} {af : Array Edge} {g : Option (Nat × Bool)} {bw : Bool}

theorem ps_nilCheck {x : Operand} {a : Addr} (hx : evO F x = some (.pointer (some a))) : PS P F C ⟨some d, .nilCheck x, ty, pos, af, g⟩ (.pointer (some a)) :=
  fun ρ ha w hC => by simp [execOp, ha _ _ hx]
/-- The floor of the half. -/
theorem ps_shr1 {x y : Operand} {xt yt : TypeId} {yk : IntKind} {m : Int} (hx : evO F x = some (.int .i64 m)) (hy : evO F y = some (.int yk 1)) : PS P F C ⟨some d, .binOp .shr xt x y yt, ty, pos, af, g⟩ (.int .i64 (m / 2)) :=
  fun ρ ha w hC => by
    have e1 : min 1 IntKind.i64.bits = 1 := rfl
    have e2 : m.fdiv 2 = m / 2 := Int.fdiv_eq_ediv_of_nonneg m (by omega)
    simp [execOp, binOp, Op.shift, ha _ _ hx, ha _ _ hy, eqGuard, e1, e2]
theorem ps_shr2 {x y : Operand} {xt yt : TypeId} {yk : IntKind} {m : Int} (hx : evO F x = some (.int .i64 m)) (hy : evO F y = some (.int yk 2)) : PS P F C ⟨some d, .binOp .shr xt x y yt, ty, pos, af, g⟩ (.int .i64 (m / 4)) :=
  fun ρ ha w hC => by
    have e1 : min 2 IntKind.i64.bits = 2 := rfl
    have e2 : m.fdiv 4 = m / 4 := Int.fdiv_eq_ediv_of_nonneg m (by omega)
    simp [execOp, binOp, Op.shift, ha _ _ hx, ha _ _ hy, eqGuard, e1, e2]
theorem run_conv64 {st dt : TypeId} {k : IntKind} {n : Int} (h1 : ∀ w, (underlying st).run P w = .ok (.int k) w) (h2 : ∀ w, (underlying dt).run P w = .ok (.int .i64) w) (hin : -9223372036854775808 ≤ n ∧ n ≤ 9223372036854775807) : ∀ w, (convert st dt (.int k n)).run P w = .ok (.int .i64 n) w := run_conv h1 h2 (IntWalk.i64_in _ hin)
theorem ps_remT {x y : Operand} {xt yt : TypeId} {m n : Int} (hx : evO F x = some (.int .i64 m)) (hy : evO F y = some (.int .i64 n)) (hn : n ≠ 0) : PS P F C ⟨some d, .binOp .rem xt x y yt, ty, pos, af, g⟩ (.int .i64 (m.tmod n)) :=
  fun ρ ha w hC => by simp [execOp, binOp, Op.intDiv, ha _ _ hx, ha _ _ hy, hn, eqGuard]
theorem ps_remK {x y : Operand} {xt yt : TypeId} {k : IntKind} {m n : Int} (hx : evO F x = some (.int k m)) (hy : evO F y = some (.int k n)) (hn : n ≠ 0) : PS P F C ⟨some d, .binOp .rem xt x y yt, ty, pos, af, g⟩ (.int k (m.tmod n)) :=
  fun ρ ha w hC => by simp [execOp, binOp, Op.intDiv, ha _ _ hx, ha _ _ hy, hn, eqGuard]
theorem ps_quoT {x y : Operand} {xt yt : TypeId} {m n : Int} (hx : evO F x = some (.int .i64 m)) (hy : evO F y = some (.int .i64 n)) (hn : n ≠ 0) : PS P F C ⟨some d, .binOp .quo xt x y yt, ty, pos, af, g⟩ (.int .i64 (wrap64 (m.tdiv n))) :=
  fun ρ ha w hC => by simp [execOp, binOp, Op.intDiv, ha _ _ hx, ha _ _ hy, hn, eqGuard, IntWalk.i64_left]
/-- An element's address in an array. -/
theorem ps_indexArr {x y : Operand} {st e : TypeId} {b o n c : Nat} {k : IntKind} {i : Int} {j : Nat} (hx : evO F x = some (.pointer (some ⟨b, o, none⟩))) (hy : evO F y = some (.int k i))
    (hU : ∀ w, (underlying st).run P w = .ok (.array n e) w) (hS : ∀ w, (sizeOf e).run P w = .ok c w) (hij : i = Int.ofNat j) (hjl : j < n) : PS P F C ⟨some d, .indexAddr st x y, ty, pos, af, g⟩ (.pointer (some ⟨b, o + j * c, none⟩)) :=
  fun ρ ha w hC => by
    have hij : i = (j : Int) := hij
    subst hij
    have h1 : (0 : Int) ≤ (j : Int) ∧ (j : Int) < (n : Int) := by omega
    simp [execOp, ha _ _ hx, ha _ _ hy, Instr.indexAt, Instr.sureAddr, asIntOf, hU, hS, h1, add_place, hjl]

theorem ps_indexAddrL {x y : Operand} {st e : TypeId} {b o len cap c : Nat} {k : IntKind} {i : Int} {j : Nat} (hx : evO F x = some (.slice (some ⟨b, o, none⟩) len cap)) (hy : evO F y = some (.int k i))
    (hU : ∀ w, (underlying st).run P w = .ok (.slice e) w) (hS : ∀ w, (sizeOf e).run P w = .ok c w) (hij : i = Int.ofNat j) (hjl : j < len) : PS P F C ⟨some d, .indexAddr st x y, ty, pos, af, g⟩ (.pointer (some ⟨b, o + j * c, none⟩)) := ps_indexAddr hx hy hU hS hij hjl

/-! A part of a row is read. -/
def RwN (B : Nat) (w0 : World) (H : Hp) (b o : Nat) (_ : Nat) (cs : List Value) : Prop := Rw B w0 H b o cs
theorem rp_rw {b o j n : Nat} {cs ds : List Value} (h : Rw B w0 H b o cs) (hd : CopyL ((cs.drop j).take n) ds) : RwN B w0 H b (o + j) n ds := rw_part h hd.eq
theorem rp_here {q j n : Nat} {t : TypeId} {cs ds : List Value} (hd : CopyL ((cs.drop j).take n) ds) : RwN B w0 (row q t cs :: H) q j n ds := by
  have := rw_part (rw_here (B := B) (w0 := w0) (g := q) (t := t) (cs := cs) (H := H)) hd.eq
  rwa [Nat.zero_add] at this
theorem rp_own {q j n m cap sz : Nat} {t : TypeId} {cs ds : List Value} (hd : CopyL ((cs.drop j).take n) ds) : RwN B w0 (own (some ⟨q, 0, none⟩) m cap t sz cs :: H) q j n ds := by
  have := rw_part (rw_own (B := B) (w0 := w0) (b := q) (t := t) (cs := cs) (H := H) (n := m) (cap := cap) (sz := sz)) hd.eq
  rwa [Nat.zero_add] at this
theorem rp_there {b o n : Nat} {e : Ent} {ds : List Value} (h : RwN B w0 H b o n ds) : RwN B w0 (e :: H) b o n ds := rw_there h
theorem ps_ldP {x : Operand} {t : TypeId} {b o c : Nat} {cs : List Value} (hx : evO F x = some (.pointer (some ⟨b, o, none⟩))) (hA : ∀ w, (isAgg t).run P w = .ok true w) (hS : ∀ w, (sizeOf t).run P w = .ok c w) (hc : RwN B w0 H b o c cs) (hl : cs.length = c) : PS P F (Mem B w0 H) ⟨some d, .load t x, ty, pos, af, g⟩ (.agg cs.toArray) := ps_loadN hx hA hS hc hl

inductive Vals (F : Fr) : List Operand → List Value → Prop
  | nil : Vals F [] []
  | cons {x : Operand} {v : Value} {l : List Operand} {m : List Value} : evO F x = some v → Vals F l m → Vals F (x :: l) (v :: m)
theorem Vals.eval {l : List Operand} {m : List Value} (h : Vals F l m) {ρ : Operand → Value} (ha : ∀ x v, evO F x = some v → ρ x = v) : l.map ρ = m := by
  induction h with
  | nil => rfl
  | cons hx _ ih => rw [List.map_cons, ih, ha _ _ hx]
theorem ps_makeFunc {fn : Fn} {l m : List Operand} {vs us : List Value} (h1 : Vals F l vs) (h2 : Vals F m us) : PS P F C ⟨some d, .makeFunc fn l.toArray m.toArray, ty, pos, af, g⟩ (.func fn vs.toArray us.toArray) :=
  fun ρ ha w hC => by simp [execOp, Instr.makeFunc, h1.eval ha, h2.eval ha]

/-- A call of a closure. -/
theorem so_callF {f : FuncId} {x : Operand} {as_ : Array Operand} {ats : Array TypeId} {us vs : List Value} {v : Value} (hx : evO F x = some (.func (.func f) #[] us.toArray)) (hc : ∀ w, Mem B w0 H w → Calls P f (vs ++ us).toArray w fun e w' => e = .returned v ∧ Below w.heap.size w w') (hg : wants ops F g = some bw) (hb : bw = true)
    (hvs : as_.toList.map (evO F) = vs.map some) (hf : ∀ args w, (callFunc f args).run P w = .ok (.enter f args) w) (hN : d < N.n)
    (h : SO rd P N B w0 ops rest ((d, v) :: F) H K) :
    SO rd P N B w0 ops (⟨some d, .call { callee := .value x, args := as_, argTypes := ats }, ty, pos, af, g⟩ :: rest) F H K := fun w hw =>
  xo_enter hg hb rfl hN (fun ρ ha => by
    have e : as_.map ρ = vs.toArray := args_eval hvs ha
    have e2 := ha _ _ hx
    simp [execOp, resolve, invoke, e, e2, hf, go_sem]) ((hc w hw).mono fun _ w' ⟨he, hb⟩ => ⟨v, he, h w' (hw.keep hb)⟩)

/-! A loop of so many rounds at most. -/
def SL (rd : Option Nat) (P : Program) (N : Nx) (B : Nat) (w0 : World) (c : Code) (n : Nat) (F : Fr) (H : Hp) (K : Exit → Fr → Hp → Prop) : Prop :=
  NOk N w0 → ∀ w, Mem B w0 H w → ∀ a, Has N F a → Code.roundsIn (FR rd) 0 P c (fun e a' w' => ∃ F', HasE N e F' a' w' ∧ ∃ H', Mem B w0 H' w' ∧ K e F' H') n a w
theorem s_rounds {c : Code} {K : Exit → Fr → Hp → Prop} (n : Nat) (h : SL rd P N B w0 c n F H K) : S rd P N B w0 (.loop c) F H K := fun hn w hw a ha => wpIn_loop_rounds n (h hn w hw a ha)
theorem sl_round {c : Code} {n : Nat} {K : Exit → Fr → Hp → Prop} (h : S rd P N B w0 c F H (thenH (fun F' H' => SL rd P N B w0 c n F' H' K) K)) : SL rd P N B w0 c (n + 1) F H K := fun hn w hw a ha => by
  show c.wpIn (FR rd) 0 P _ a w
  refine wpIn_mono (h hn w hw a ha) ?_
  rintro e a' w' ⟨F', h1, H', h2, h3⟩
  cases e with
  | normal => exact h3 hn w' h2 a' h1
  | _ => exact ⟨F', h1, H', h2, h3⟩
end
end Go.Proofs.Ytdoihebekbfnbaa
