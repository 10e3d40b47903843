/- More operations: structs built and compared, slices cut and put together. -/
import Derived.Test.YtdoihebekbfnbaaSep
import Derived.Laws.StructEq
import Derived.Laws.Tables
import Derived.Laws.AppendOwnNone
import Derived.ChangeKeysEq
namespace Go.Proofs.Ytdoihebekbfnbaa
open Go.RowKit

/-! Equality of flat structs. -/
def eqv : Value → Value → Bool
  | .int _ a, .int _ b => a == b
  | .bool a, .bool b => a == b
  | _, _ => false
def eqCells : List Value → List Value → Bool
  | c :: cs, d :: ds => eqv c d && eqCells cs ds
  | _, _ => true
def fitV (t : Option TypeDesc) (c d : Value) : Bool :=
  match t, c, d with
  | some (.int _), .int k _, .int k' _ => decide (k = k')
  | some .bool, .bool _, .bool _ => true
  | _, _, _ => false
def flatEq (P : Program) : Nat → List Field → List Value → List Value → Bool
  | _, [], [], [] => true
  | i, f :: fs, c :: cs, d :: ds => decide (f.offset = i) && (f.name != "_") && P.plainKey f.type && fitV (P.underlying f.type) c d && flatEq P (i + 1) fs cs ds
  | _, _, _, _ => false
def structEqOk (P : Program) (t : TypeId) (cs ds : List Value) : Bool :=
  !P.stoodInHeld t && !P.eqGuardType P.depth t && match P.underlying t with
  | some (.struct fs) => flatEq P 0 fs.toList cs ds
  | _ => false

section
variable {P : Program}
theorem run_fitV (n : Nat) {t : TypeId} {c d : Value} (h : fitV (P.underlying t) c d = true) (w : World) : (Op.equalIn (n + 1) t c d).run P w = .ok (eqv c d) w := by
  cases hu : P.underlying t with
  | none => simp [hu, fitV] at h
  | some td =>
    rw [hu] at h
    unfold fitV at h
    split at h
    · rename_i e; cases e
      have hk := of_decide_eq_true h
      subst hk
      simp [Op.equalIn, run_underlying hu, eqv]
    · rename_i e; cases e
      simp [Op.equalIn, run_underlying hu, eqv]
    · cases h
theorem run_flatEq (n : Nat) (xs ys : Array Value) (w : World) : ∀ (fs : List Field) (i : Nat) (cs ds : List Value), flatEq P i fs cs ds = true → xs.toList.drop i = cs → ys.toList.drop i = ds →
    (Op.eqFields (n + 1) xs ys fs).run P w = .ok (eqCells cs ds) w
  | [], i, [], [], _, _, _ => by simp [Op.eqFields, eqCells]
  | [], i, [], _ :: _, h, _, _ => by simp [flatEq] at h
  | [], i, _ :: _, _, h, _, _ => by simp [flatEq] at h
  | f :: fs, i, [], _, h, _, _ => by simp [flatEq] at h
  | f :: fs, i, _ :: _, [], h, _, _ => by simp [flatEq] at h
  | f :: fs, i, c :: cs, d :: ds, h, hx, hy => by
    simp only [flatEq, Bool.and_eq_true, decide_eq_true_eq] at h
    obtain ⟨⟨⟨⟨h1, h2⟩, h3⟩, h4⟩, h5⟩ := h
    have at_ : ∀ {zs : Array Value} {e : Value} {es : List Value}, zs.toList.drop i = e :: es → zs[f.offset]? = some e ∧ zs.toList.drop (i + 1) = es := by
      intro zs e es hz
      have hl : i < zs.toList.length := by
        rcases Nat.lt_or_ge i zs.toList.length with h | h
        · exact h
        · rw [List.drop_of_length_le h] at hz; cases hz
      rw [List.drop_eq_getElem_cons hl] at hz
      injection hz with e1 e2
      refine ⟨?_, e2⟩
      rw [h1, ← Array.getElem?_toList, List.getElem?_eq_getElem hl, e1]
    obtain ⟨a1, a2⟩ := at_ hx
    obtain ⟨b1, b2⟩ := at_ hy
    have hn : f.name ≠ "_" := by simpa using h2
    have ih := run_flatEq n xs ys w fs (i + 1) cs ds h5 a2 b2
    unfold Op.eqFields
    rw [if_pos hn]
    simp only [Sem.run_bind, run_part_plain w h3 a1, run_part_plain w h3 b1, Result.andThen_ok, run_fitV n h4 w]
    cases he : eqv c d
    · simp [eqCells, he]
    · simp [eqCells, he, ih]
theorem run_structEq {t : TypeId} {cs ds : List Value} (h : structEqOk P t cs ds = true) (w : World) : (Op.equalIn 10000 t (.agg cs.toArray) (.agg ds.toArray)).run P w = .ok (eqCells cs ds) w := by
  unfold structEqOk at h
  simp only [Bool.and_eq_true, Bool.not_eq_true'] at h
  obtain ⟨⟨h1, h2⟩, h3⟩ := h
  split at h3
  · rename_i fs hu
    have e : P.fieldsOf t = fs := by simp [Program.fieldsOf, hu]
    rw [run_equalIn_struct (d := 9999) w t _ _ (by rw [e]; exact hu) h1, e]
    exact run_flatEq 9998 _ _ w _ 0 _ _ h3 (by simp) (by simp)
  · cases h3
end

/-! Structs built. -/
inductive Parts (F : Fr) : List (Nat × Operand) → List (Nat × Value) → Prop
  | nil : Parts F [] []
  | cons {i : Nat} {x : Operand} {v : Value} {l : List (Nat × Operand)} {m : List (Nat × Value)} : evO F x = some v → Parts F l m → Parts F ((i, x) :: l) ((i, v) :: m)
theorem Parts.eval {F : Fr} {l : List (Nat × Operand)} {m : List (Nat × Value)} (h : Parts F l m) {ρ : Operand → Value} (ha : ∀ x v, evO F x = some v → ρ x = v) : l.map (fun p => (p.1, ρ p.2)) = m := by
  induction h with
  | nil => rfl
  | cons hx _ ih => rw [List.map_cons, ih, ha _ _ hx]

section
variable {rd : Option Nat} {P : Program} {N : Nx} {B : Nat} {w0 : World} {F : Fr} {H H' R : Hp} {C : World → Prop} {ops : Array Oper} {rest : List Oper} {K : Fr → Hp → Prop} {d : Nat} {ty : TypeId} {pos : String} {af : Array Edge} {g : Option (Nat × Bool)} {bw : Bool}

theorem ps_eqS {x y : Operand} {t u : TypeId} {cs ds : List Value} (hx : evO F x = some (.agg cs.toArray)) (hy : evO F y = some (.agg ds.toArray)) (hok : structEqOk P t cs ds = true) : PS P F C ⟨some d, .binOp .eql t x y u, ty, pos, af, g⟩ (.bool (eqCells cs ds)) :=
  fun ρ ha w hC => by
    have hg : P.eqGuardType P.depth t = false := by
      unfold structEqOk at hok
      simp only [Bool.and_eq_true, Bool.not_eq_true'] at hok
      exact hok.1.2
    simp [execOp, ha _ _ hx, ha _ _ hy, run_eqGuard_agg w .eql t x y _ _ hg, run_eql_struct, run_structEq hok]
theorem ps_neqS {x y : Operand} {t u : TypeId} {cs ds : List Value} (hx : evO F x = some (.agg cs.toArray)) (hy : evO F y = some (.agg ds.toArray)) (hok : structEqOk P t cs ds = true) : PS P F C ⟨some d, .binOp .neq t x y u, ty, pos, af, g⟩ (.bool (!eqCells cs ds)) :=
  fun ρ ha w hC => by
    have hg : P.eqGuardType P.depth t = false := by
      unfold structEqOk at hok
      simp only [Bool.and_eq_true, Bool.not_eq_true'] at hok
      exact hok.1.2
    simp [execOp, ha _ _ hx, ha _ _ hy, run_eqGuard_agg w .neq t x y _ _ hg, run_neq_struct, run_structEq hok]
theorem run_eqlB {t : TypeId} (hU : P.underlying t = some .bool) (a b : Bool) (w : World) : (binOp .eql t (.bool a) (.bool b)).run P w = .ok (.bool (a == b)) w := by
  have e : binOp .eql t (.bool a) (.bool b) = (do pure (.bool (← Op.equal t (.bool a) (.bool b)))) := rfl
  have h : (Op.equal t (.bool a) (.bool b)).run P w = .ok (a == b) w := run_equalIn_bool (P := P) w 9999 t a b hU
  rw [e]; simp only [Sem.run_bind, h, Result.andThen_ok, Sem.run_pure]
theorem run_neqB {t : TypeId} (hU : P.underlying t = some .bool) (a b : Bool) (w : World) : (binOp .neq t (.bool a) (.bool b)).run P w = .ok (.bool (!(a == b))) w := by
  have e : binOp .neq t (.bool a) (.bool b) = (do pure (.bool (!(← Op.equal t (.bool a) (.bool b))))) := rfl
  have h : (Op.equal t (.bool a) (.bool b)).run P w = .ok (a == b) w := run_equalIn_bool (P := P) w 9999 t a b hU
  rw [e]; simp only [Sem.run_bind, h, Result.andThen_ok, Sem.run_pure]
theorem ps_eqB {x y : Operand} {t u : TypeId} {a b : Bool} (hx : evO F x = some (.bool a)) (hy : evO F y = some (.bool b)) (hU : P.underlying t = some .bool) : PS P F C ⟨some d, .binOp .eql t x y u, ty, pos, af, g⟩ (.bool (a == b)) :=
  fun ρ ha w hC => by
    have hg : ∀ X Y, (eqGuard .eql t X Y (.bool a) (.bool b)).run P w = .ok () w := fun _ _ => rfl
    simp only [execOp, ha _ _ hx, ha _ _ hy, Sem.run_bind, hg, run_eqlB hU, Result.andThen_ok, Sem.run_pure]
theorem ps_neqB {x y : Operand} {t u : TypeId} {a b : Bool} (hx : evO F x = some (.bool a)) (hy : evO F y = some (.bool b)) (hU : P.underlying t = some .bool) : PS P F C ⟨some d, .binOp .neq t x y u, ty, pos, af, g⟩ (.bool (!(a == b))) :=
  fun ρ ha w hC => by
    have hg : ∀ X Y, (eqGuard .neq t X Y (.bool a) (.bool b)).run P w = .ok () w := fun _ _ => rfl
    simp only [execOp, ha _ _ hx, ha _ _ hy, Sem.run_bind, hg, run_neqB hU, Result.andThen_ok, Sem.run_pure]

theorem ps_bld {t : TypeId} {l : List (Nat × Operand)} {ps : List (Nat × Value)} {cs0 cs : List Value} (hp : Parts F l ps) (hb : (P.built t ps).map Array.toList = some cs0) (hc : CopyL cs0 cs) : PS P F C ⟨some d, .build t l.toArray, ty, pos, af, g⟩ (.agg cs.toArray) :=
  fun ρ ha w hC => by
    have e := hp.eval ha
    have e2 := hc.eq
    subst e2
    cases hbb : P.built t ps with
    | none => rw [hbb] at hb; cases hb
    | some r =>
      rw [hbb] at hb
      have hr : r.toList = cs0 := by simpa using hb
      have := run_build (P := P) w t ps.toArray r (by simpa using hbb)
      subst hr
      simp [execOp, e, this]

theorem ps_field {x : Operand} {t : TypeId} {f : Nat} {cs : List Value} {v : Value} (fs : Array Field) (fl : Field) (hx : evO F x = some (.agg cs.toArray)) (hU : ∀ w, (underlying t).run P w = .ok (.struct fs) w) (hf : fs[f]? = some fl) (hA : ∀ w, (isAgg fl.type).run P w = .ok false w) (hv : cs[fl.offset]? = some v) : PS P F C ⟨some d, .field t x f, ty, pos, af, g⟩ v :=
  fun ρ ha w hC => by
    have : cs.toArray[fl.offset]? = some v := by simpa using hv
    simp [execOp, ha _ _ hx, Instr.field, hU, hf, part, hA, hv, asAgg]

theorem ps_extractI {x : Operand} {vs : Array Value} {i : Nat} {k : IntKind} {n : Int} (hx : evO F x = some (.tuple vs)) (hv : vs[i]? = some (.int k n)) : PS P F C ⟨some d, .extract x i, ty, pos, af, g⟩ (.int k n) := ps_extract hx hv
theorem ps_extractB {x : Operand} {vs : Array Value} {i : Nat} {b : Bool} (hx : evO F x = some (.tuple vs)) (hv : vs[i]? = some (.bool b)) : PS P F C ⟨some d, .extract x i, ty, pos, af, g⟩ (.bool b) := ps_extract hx hv
theorem ps_extractS {x : Operand} {vs : Array Value} {i : Nat} {A : Option Addr} {n c : Nat} (hx : evO F x = some (.tuple vs)) (hv : vs[i]? = some (.slice A n c)) : PS P F C ⟨some d, .extract x i, ty, pos, af, g⟩ (.slice A n c) := ps_extract hx hv

/-! Slices cut. -/
def subA (A : Option Addr) (lo sz cap : Nat) : Option Addr := if cap = lo then A else A.map (·.add (lo * sz))
def bnd (F : Fr) (o : Option Operand) (dflt n : Nat) : Prop :=
  match o with
  | none => n = dflt
  | some x => ∃ k m, evO F x = some (.int k m) ∧ m = (n : Int)
theorem ps_slice {x : Operand} {t e : TypeId} {A : Option Addr} {len cap lo hi sz : Nat} {low high : Option Operand} (hx : evO F x = some (.slice A len cap)) (hlo : bnd F low 0 lo) (hhi : bnd F high len hi) (h1 : lo ≤ hi) (h2 : hi ≤ cap)
    (hU : ∀ w, (underlying t).run P w = .ok (.slice e) w) (hS : ∀ w, (sizeOf e).run P w = .ok sz w) : PS P F C ⟨some d, .slice t x low high none, ty, pos, af, g⟩ (.slice (subA A lo sz cap) (hi - lo) (cap - lo)) :=
  fun ρ ha w hC => by
    have a1 : ∀ (k : IntKind) (n y : Nat) (code : BoundsCode), n ≤ y → (Instr.sliceBound (.int k (n : Int)) y code).run P w = .ok n w := fun k n y code h => by
      have := Go.run_sliceBound (P := P) (w := w) k (n : Int) y code (by omega) (by omega)
      simpa using this
    unfold subA
    cases low with
    | none =>
      have : lo = 0 := hlo
      subst this
      cases high with
      | none =>
        have : hi = len := hhi
        subst this
        simp [execOp, ha _ _ hx, Instr.sliceAt, Instr.slice, Instr.sliceBounds, hU, hS]
      | some y =>
        obtain ⟨k, m, hy, rfl⟩ := hhi
        simp [execOp, ha _ _ hx, ha _ _ hy, Instr.sliceAt, Instr.slice, Instr.sliceBounds, hU, hS, a1 _ _ _ _ h2]
    | some z =>
      obtain ⟨k', m', hz, rfl⟩ := hlo
      cases high with
      | none =>
        have : hi = len := hhi
        subst this
        simp [execOp, ha _ _ hx, ha _ _ hz, Instr.sliceAt, Instr.slice, Instr.sliceBounds, hU, hS, a1 _ _ _ _ h1]
      | some y =>
        obtain ⟨k, m, hy, rfl⟩ := hhi
        simp [execOp, ha _ _ hx, ha _ _ hy, ha _ _ hz, Instr.sliceAt, Instr.slice, Instr.sliceBounds, hU, hS, a1 _ _ _ _ h2, a1 _ _ _ _ h1]
theorem Rd.part {α : Type} {c : α → List Value} {sz : Nat} {A : Option Addr} {l : List α} {w : World} (h : Rd w c sz A l) (lo hi cap : Nat) (hc : l.length ≤ cap) : Rd w c sz (subA A lo sz cap) ((l.take hi).drop lo) := fun k hk => by
  have hk' : lo + k < l.length := by simp at hk; omega
  obtain ⟨b, o, hA, hlt, hr⟩ := h (lo + k) hk'
  refine ⟨b, o + lo * sz, ?_, hlt, ?_⟩
  · subst hA
    unfold subA
    rw [if_neg (by omega)]
    simp [add_place]
  · have e : ((l.take hi).drop lo)[k] = l[lo + k] := by simp
    rw [e, show o + lo * sz + k * sz = o + (lo + k) * sz by rw [Nat.add_mul]; omega]
    exact hr

/-! Slices put together. -/
theorem so_lit0 {t e : TypeId} {sz : Nat} (hg : wants ops F g = some bw) (hb : bw = true) (hU : ∀ w, (underlying t).run P w = .ok (.slice e) w) (hS : ∀ w, (sizeOf e).run P w = .ok sz w) (hN : d < N.n)
    (h : ∀ q, SO rd P N B w0 ops rest ((d, .slice (some ⟨q, 0, none⟩) 0 0) :: F) (own (some ⟨q, 0, none⟩) 0 0 e sz [] :: H) K) : SO rd P N B w0 ops (⟨some d, .buildSlice t 0 #[], ty, pos, af, g⟩ :: rest) F H K := fun w hw => by
  refine xo_run (w' := w.alloc (.cells #[] e)) hg hb rfl hN (fun ρ ha => ?_) (h w.heap.size _ (hw.new (g := w.heap.size) rfl (Nat.le_refl _) ?_ ((Below.refl _ _).alloc (Nat.le_refl _) _)))
  · have e0 : (Array.map (fun _ => (default : Value)) (Array.range 0)) = #[] := by simp
    simp [execOp, Instr.buildSlice, hU, hS, Instr.fill, newRow, e0]
  · exact ⟨by simp, .inr ⟨w.heap.size, 0, #[], rfl, Nat.zero_le _, Go.heap_alloc_new w _, Nat.le_refl _, Nat.zero_le _, by simp, by simp⟩⟩

/-- append of a slice's elements. -/
theorem so_appendN {α : Type} {c : α → List Value} {l : List α} {x y : Operand} {t e : TypeId} {sz n cap cap2 : Nat} {A A2 : Option Addr} {xs xs' : List Value} {n' : Nat} {R' : Option Addr → Nat → Hp} (hg : wants ops F g = some bw) (hb : bw = true)
    (hx : evO F x = some (.slice A n cap)) (hy : evO F y = some (.slice A2 l.length cap2)) (hn' : n + l.length = n') (hxs' : xs ++ l.flatMap c = xs') (hok : appOk P t e sz = true) (hN : d < N.n)
    (hu : ∀ A' cap', Upd H (own A n cap e sz xs) (own A' n' cap' e sz xs') (R' A' cap')) (hr : RdH B w0 H c sz A2 l) (hnil : A2 = none → cap2 = 0) (hc : ∀ x, (c x).length = sz) (h1 : ∀ x, (c x).all Value.oneCell' = true) (hlen : n + l.length ≤ 4294967296)
    (h : ∀ A' cap', SO rd P N B w0 ops rest ((d, .slice A' n' cap') :: F) (R' A' cap') K) :
    SO rd P N B w0 ops (⟨some d, .call { callee := .builtin .append, args := #[x, y], argTypes := #[t, t] }, ty, pos, af, g⟩ :: rest) F H K := fun w hw => by
  subst hn' hxs'
  obtain ⟨hu', ⟨hp, hp2⟩, i, z, hi, hz, hs, hzs, hby⟩ := appOk_spec hok
  have hk : w.ownsRow 0 e sz (.slice A n cap) n xs := (hw.ok _ (hu none 0).mem).1
  have hkB := (hw.ok _ (hu none 0).mem).2
  have hfoot : (Value.slice A n cap).ownBlock = A.map (·.block) := by cases A <;> rfl
  cases A2 with
  | none =>
    have hl0 : l = [] := by
      cases l with
      | nil => rfl
      | cons a l => obtain ⟨b, o, hA, _⟩ := hr w hw 0 (by simp); cases hA
    subst hl0
    have := hnil rfl
    subst this
    have hrun := run_append_owned_none (P := P) (w := w) 0 t ty e i sz hu' hi (.slice A n cap) n xs hk
    refine xo_run (w' := w) hg hb rfl hN (fun ρ ha => ?_) (h A cap w (hw.upd (hu _ _) (Below.refl _ _) (fun _ _ _ => rfl) (show w.ownsRow 0 e sz (.slice A n cap) n (xs ++ []) by rw [List.append_nil]; exact hk) (fun g hg => .inl hg)))
    have e2 : n + ([] : List α).length = n := rfl
    rw [e2]
    have hy' : evO F y = some (.slice none 0 0) := hy
    simp [execOp, resolve, invoke, builtin, ha _ _ hx, ha _ _ hy', hrun]
  | some a =>
    have hnews : ∀ j u, (l.flatMap c)[j]? = some u → w.cell? (a.add j) = some u := by
      intro j u hj
      have hj' := (List.getElem?_eq_some_iff.1 hj).1
      rw [flatMap_len c sz hc] at hj'
      have hkl : j / sz < l.length := Nat.div_lt_of_lt_mul (by rw [Nat.mul_comm]; exact hj')
      obtain ⟨b, o, hA, _, hrow⟩ := hr w hw (j / sz) hkl
      cases hA
      rw [add_place]
      have e1 : j = j / sz * sz + j % sz := (Nat.div_add_mod' j sz).symm
      have h2 := flatMap_at c sz hc l (j / sz) (j % sz) hkl (Nat.mod_lt _ hp)
      rw [← e1, hj] at h2
      have := hrow (j % sz) u h2.symm
      rwa [Nat.add_assoc, ← e1] at this
    obtain ⟨v', w', hrun, h2, h3, h4, h5⟩ := run_append_own_at (P := P) w 0 t ty e i z sz i.bytes hu' hi hz hs rfl hzs hp _ n _ hk a l.length cap2 (l.flatMap c) (flatMap_len c sz hc l) hnews (fun u hu => by
      obtain ⟨x, _, hx⟩ := List.mem_flatMap.1 hu
      exact List.all_eq_true.1 (h1 x) u hx) (by simp only [maxLen]; omega) (Nat.le_trans (Nat.mul_le_mul_right _ hlen) hby) (Nat.zero_le _)
    obtain ⟨A', cap', rfl⟩ : ∃ A' cap', v' = .slice A' (n + l.length) cap' := by
      rcases h2.2 with ⟨hv, h0⟩ | ⟨g, cap', cur, hv, _⟩
      · exact ⟨none, 0, by rw [hv, h0]⟩
      · exact ⟨_, _, hv⟩
    have hfoot' : (Value.slice A' (n + l.length) cap').ownBlock = A'.map (·.block) := by cases A' <;> rfl
    refine xo_run (w' := w') hg hb rfl hN (fun ρ ha => ?_) (h A' cap' w' (hw.upd (hu _ _) ?_ (fun k hk hne => ?_) h2 ?_))
    · simp [execOp, resolve, invoke, builtin, ha _ _ hx, ha _ _ hy, hrun]
    · refine (Below.refl B w).grown h3 hw.le (fun k hk => ?_)
      rw [hfoot] at hk; exact hkB k hk
    · exact h3.block k hk (by rw [hfoot]; exact fun e => hne e.symm)
    · intro q hq
      rw [hfoot, hfoot'] at h5
      have hq : A'.map (·.block) = some q := hq
      rcases h5 with h5 | h5
      · exact .inl (by rw [← hq, h5]; rfl)
      · rw [hq] at h5; cases h5; exact .inr (Nat.le_refl _)

/-- A slice of these elements. -/
theorem so_lit {n : Nat} {l : List (Nat × Operand)} {vs : List Value} {t e : TypeId} {sz : Nat} {xs : List Value} {ps : List (Nat × Value)} (hg : wants ops F g = some bw) (hb : bw = true) (hp : Parts F l ps) (hps : ps = (vs.zipIdx 0).map fun x => (x.2, x.1)) (hn : vs.length = n) (hok : appOk P t e sz = true) (hvs : ∀ v ∈ vs, v.cells.size = sz) (hxs : CopyL (vs.flatMap fun v => v.cells.toList) xs)
    (hl : vs.length ≤ 255) (hl0 : 0 < vs.length) (hN : d < N.n)
    (h : ∀ q, SO rd P N B w0 ops rest ((d, .slice (some ⟨q, 0, none⟩) n n) :: F) (own (some ⟨q, 0, none⟩) n n e sz xs :: H) K) : SO rd P N B w0 ops (⟨some d, .buildSlice t n l.toArray, ty, pos, af, g⟩ :: rest) F H K := fun w hw => by
  subst hn
  obtain ⟨hu', ⟨hp0, hp2⟩, i, z, hi, hz, hs, hzs, hby⟩ := appOk_spec hok
  have hx := hxs.eq
  subst hx; subst hs
  have hf := Great.fill_whole hp0 vs ((Array.range (vs.length * i.size)).map (z.cells[· % z.cells.size]!)) hvs (by simp)
  have hsm : vs.length * i.size ≤ 255 * 65536 := Nat.mul_le_mul hl hp2
  have hpos : 0 < vs.length * i.size := Nat.mul_pos hl0 hp0
  have hrun := run_buildSlice (P := P) w t e vs.length ps.toArray _ i z hu' hi hz (by omega) (by omega) (by rw [hps]; simpa using hf)
  refine xo_run (w' := w.alloc (.cells (vs.flatMap fun v => v.cells.toList).toArray e)) hg hb rfl hN (fun ρ ha => ?_) (h w.heap.size _ (hw.new (g := w.heap.size) rfl (Nat.le_refl _) ?_ ((Below.refl _ _).alloc (Nat.le_refl _) _)))
  · have e2 := hp.eval ha
    simp [execOp, e2, hrun]
  · have hlen : (vs.flatMap fun v => v.cells.toList).length = vs.length * i.size := by
      clear hf hrun hsm hpos hps h hl hl0 hxs
      induction vs with
      | nil => simp
      | cons v vs ih =>
        rw [List.flatMap_cons, List.length_append, ih (fun u hu => hvs u (List.mem_cons_of_mem _ hu)), List.length_cons, Nat.succ_mul]
        have := hvs v (by simp)
        simp at this ⊢; omega
    exact ⟨hlen, .inr ⟨w.heap.size, vs.length, _, rfl, Nat.zero_le _, Go.heap_alloc_new w _, Nat.le_refl _, by simp only [maxLen]; omega, by simpa using hlen, by rw [← hlen, List.take_of_length_le (by simp)]⟩⟩
theorem rw_own {b n cap sz : Nat} {t : TypeId} {cs : List Value} : Rw B w0 (own (some ⟨b, 0, none⟩) n cap t sz cs :: H) b 0 cs := fun w hw j u hj => by rw [Nat.zero_add]; exact cl_own hj w hw
end
end Go.Proofs.Ytdoihebekbfnbaa
