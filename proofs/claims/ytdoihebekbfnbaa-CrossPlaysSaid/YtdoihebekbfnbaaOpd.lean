/- More operations: shifts, conversions that wrap, Add64, a closure that turns memory. -/
import Derived.Test.YtdoihebekbfnbaaMix
import Derived.Laws.Externs
namespace Go.Proofs.Ytdoihebekbfnbaa
open Go.RowKit
section
variable {P : Program} {C : World → Prop} {F : Fr} {d : Nat} {ty : TypeId} {pos : String} {af : Array Edge} {g : Option (Nat × Bool)}
theorem ps_shr63 {x y : Operand} {xt yt : TypeId} {yk : IntKind} {m : Int} (hx : evO F x = some (.int .i64 m)) (hy : evO F y = some (.int yk 63)) : PS P F C ⟨some d, .binOp .shr xt x y yt, ty, pos, af, g⟩ (.int .i64 (m / 9223372036854775808)) :=
  fun ρ ha w hC => by
    have e1 : min 63 IntKind.i64.bits = 63 := rfl
    have e2 : m.fdiv 9223372036854775808 = m / 9223372036854775808 := Int.fdiv_eq_ediv_of_nonneg m (by omega)
    simp [execOp, binOp, Op.shift, ha _ _ hx, ha _ _ hy, eqGuard, e1, e2]
theorem run_convW {st dt : TypeId} {k k' : IntKind} {n m : Int} (h1 : ∀ w, (underlying st).run P w = .ok (.int k) w) (h2 : ∀ w, (underlying dt).run P w = .ok (.int k') w) (hm : k'.wrap n = m) : ∀ w, (convert st dt (.int k n)).run P w = .ok (.int k' m) w := fun w => by
  simp [convert, h1, h2, hm, go_sem]
theorem wrapU (n : Int) : IntKind.u64.wrap n = n % 18446744073709551616 := by
  simp [IntKind.wrap, IntKind.bits, IntKind.signed]
theorem ps_lenS {x : Operand} {st : TypeId} {s : ByteArray} (hx : evO F x = some (.string s)) (hU : P.underlying st = some .string) : PS P F C ⟨some d, .call { callee := .builtin .len, args := #[x], argTypes := #[st] }, ty, pos, af, g⟩ (.int .i64 (s.size : Nat)) :=
  fun ρ ha w hC => by simp [execOp, resolve, invoke, builtin, ha _ _ hx, run_len_string (P := P) w st ty s hU, goInt]
theorem ps_indexS {x y : Operand} {st : TypeId} {s : ByteArray} {k : IntKind} {j : Nat} (hx : evO F x = some (.string s)) (hy : evO F y = some (.int k (j : Int))) (hU : P.underlying st = some .string) (hj : j < s.size) : PS P F C ⟨some d, .index st x y, ty, pos, af, g⟩ (.int .u8 ((s[j]'hj).toNat : Nat)) :=
  fun ρ ha w hC => by
    have := run_index_string (P := P) w st s k (j : Int) hU
    rw [dif_pos ⟨by omega, by omega⟩] at this
    simp [execOp, ha _ _ hx, ha _ _ hy, this]
/-- math/bits.Add64, without a carry. -/
theorem ps_addX {f : FuncId} {fn : Func} {x y z : Operand} {ats : Array TypeId} {m n : Int} (hf : P.funcs[f]? = some fn) (hnm : fn.name = "math/bits.Add64") (hbd : fn.body.isNone = true) (hx : evO F x = some (.int .u64 m)) (hy : evO F y = some (.int .u64 n)) (hz : evO F z = some (.int .u64 0)) (hm : 0 ≤ m) (hn : 0 ≤ n)
    (h1 : Extern.findNext fn = none) (h2 : Extern.find fn = some add64Entry) :
    PS P F C ⟨some d, .call { callee := .value (.func f), args := #[x, y, z], argTypes := ats }, ty, pos, af, g⟩ (.tuple #[.int .u64 ((m + n) % 18446744073709551616), .int .u64 ((m + n) / 18446744073709551616)]) := fun ρ ha w hC => by
  have e2 := ha (.func f) _ rfl
  have h0 : (fn.name == "runtime.NumGoroutine") = false := by rw [hnm]; decide
  have := run_callFunc_extern hf h0 hbd h1 h2 #[.int .u64 m, .int .u64 n, .int .u64 0] w
  rw [run_add64 m n 0 hm hn (by omega) (by omega), Int.add_zero] at this
  simp only [Result.andThen] at this
  simp [execOp, resolve, invoke, e2, ha _ _ hx, ha _ _ hy, ha _ _ hz, this, go_sem]
end
section
variable {rd : Option Nat} {P : Program} {N : Nx} {B : Nat} {w0 : World} {F : Fr} {H : Hp} {ops : Array Oper} {rest : List Oper} {K : Fr → Hp → Prop} {d : Nat} {ty : TypeId} {pos : String} {af : Array Edge} {g : Option (Nat × Bool)} {bw : Bool}
/-- A call of a closure that turns what it holds. -/
theorem so_callFM {ι : Type} {f : FuncId} {x : Operand} {as_ : Array Operand} {ats : Array TypeId} {us vs : List Value} {v : ι → Value} {L : Hp} {Hn : ι → Hp} {I : ι → Prop} (hx : evO F x = some (.func (.func f) #[] us.toArray)) (hs : SubH H L) (hc : ∀ w, Mem B w0 L w → Calls P f (vs ++ us).toArray w fun e w' => ∃ i, I i ∧ e = .returned (v i) ∧ Mem B w0 (Hn i) w') (hg : wants ops F g = some bw) (hb : bw = true)
    (hvs : as_.toList.map (evO F) = vs.map some) (hf : ∀ args w, (callFunc f args).run P w = .ok (.enter f args) w) (hN : d < N.n)
    (h : ∀ i, I i → SO rd P N B w0 ops rest ((d, v i) :: F) (Hn i) K) :
    SO rd P N B w0 ops (⟨some d, .call { callee := .value x, args := as_, argTypes := ats }, ty, pos, af, g⟩ :: rest) F H K := fun w hw =>
  xo_enter hg hb rfl hN (fun ρ ha => by
    have e : as_.map ρ = vs.toArray := args_eval hvs ha
    have e2 := ha _ _ hx
    simp [execOp, resolve, invoke, e, e2, hf, go_sem]) ((hc w (hw.sub hs)).mono fun _ w' ⟨i, hi, he, hb⟩ => ⟨v i, he, h i hi w' hb⟩)
/-- A slice without elements, with room for so many. -/
theorem so_make0 {x y : Operand} {t e : TypeId} {sz : Nat} {k1 k2 : IntKind} {c : Nat} (hg : wants ops F g = some bw) (hb : bw = true) (hx : evO F x = some (.int k1 0)) (hy : evO F y = some (.int k2 (c : Int)))
    (hok : appOk P t e sz = true) (hn : c ≤ 4294967296) (hN : d < N.n)
    (h : ∀ q, SO rd P N B w0 ops rest ((d, .slice (some ⟨q, 0, none⟩) 0 c) :: F) (own (some ⟨q, 0, none⟩) 0 c e sz [] :: H) K) : SO rd P N B w0 ops (⟨some d, .makeSlice t x y, ty, pos, af, g⟩ :: rest) F H K := fun w hw => by
  obtain ⟨hu', ⟨hp, hp2⟩, i, z', hi, hz, hs, hzs, hby⟩ := appOk_spec hok
  obtain ⟨w', hr, h2, h3⟩ := run_make_own (P := P) w 0 t e i z' sz hu' hi hz hs k1 k2 c (by
    have : i.bytes * c ≤ i.bytes * 4294967296 := Nat.mul_le_mul_left _ hn
    omega) (by simp only [maxLen]; omega) (Nat.zero_le _)
  have hb0 : Below w.heap.size w w' := (Below.refl _ w).grown h3 (Nat.le_refl _) (fun k hk => by cases hk)
  refine xo_run (w' := w') hg hb rfl hN (fun ρ ha => by simp [execOp, ha _ _ hx, ha _ _ hy, hr]) (h _ w' (hw.new (e := own _ 0 c e sz _) (g := w.heap.size) rfl (Nat.le_refl _) h2 hb0))
/-- Two results that lie in cells of their own. -/
theorem sretCC {fn : Func} {Q : Value → Hp → Prop} {t u : Tmp} {ty ty2 : TypeId} {b b2 : Nat} {x y : Value} (hr : fn.results = #[.cell t ty, .cell u ty2]) (hv : F.lookup t = some (.pointer (some ⟨b, 0, none⟩))) (hx : F.lookup u = some (.pointer (some ⟨b2, 0, none⟩)))
    (hA : ∀ w, (isAgg ty).run P w = .ok false w) (hA2 : ∀ w, (isAgg ty2).run P w = .ok false w) (hc : Cl B w0 H b 0 x) (hc2 : Cl B w0 H b2 0 y) (h : Q (.tuple #[x, y]) H) : RetS P N B w0 fn Q .ret F H :=
  fun a w ha hw => ⟨.tuple #[x, y], by
    have c1 := hc w hw
    have c2 := hc2 w hw
    have e1 := ha.getD hv; have e2 := ha.getD hx; simp [Array.getD_eq_getD_getElem?] at e1 e2; simp [results, hr, e1, e2, asAddr, loadVar, hA, hA2, c1, c2], h⟩
end
end Go.Proofs.Ytdoihebekbfnbaa
