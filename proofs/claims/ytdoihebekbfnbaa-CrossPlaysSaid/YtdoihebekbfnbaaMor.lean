/- More of the engine: what is behind 'or' and 'and', one cell of an element. -/
import Derived.Test.YtdoihebekbfnbaaBig
namespace Go.Proofs.Ytdoihebekbfnbaa
open Go.RowKit

section
variable {P : Program} {F : Fr} {C : World → Prop} {d : Nat} {ty : TypeId} {pos : String} {af : Array Edge} {g : Option (Nat × Bool)}
theorem ps_addK {x y : Operand} {xt yt : TypeId} {k : IntKind} {m n r : Int} (hx : evO F x = some (.int k m)) (hy : evO F y = some (.int k n)) (hr : k.wrap (m + n) = r) : PS P F C ⟨some d, .binOp .add xt x y yt, ty, pos, af, g⟩ (.int k r) :=
  fun ρ ha w hC => by subst hr; simp [execOp, ha _ _ hx, ha _ _ hy, eqGuard, go_sem]
theorem ps_subK {x y : Operand} {xt yt : TypeId} {k : IntKind} {m n r : Int} (hx : evO F x = some (.int k m)) (hy : evO F y = some (.int k n)) (hr : k.wrap (m - n) = r) : PS P F C ⟨some d, .binOp .sub xt x y yt, ty, pos, af, g⟩ (.int k r) :=
  fun ρ ha w hC => by subst hr; simp [execOp, ha _ _ hx, ha _ _ hy, eqGuard, go_sem]
/-- An element of an array's value. -/
theorem ps_indexA {x y : Operand} {t e : TypeId} {cs : List Value} {v : Value} {k : IntKind} {i : Int} {j n : Nat} (hx : evO F x = some (.agg cs.toArray)) (hy : evO F y = some (.int k i)) (hU : ∀ w, (underlying t).run P w = .ok (.array n e) w) (hS : ∀ w, (sizeOf e).run P w = .ok 1 w) (hA : ∀ w, (isAgg e).run P w = .ok false w) (hi : i = Int.ofNat j) (hn : j < n) (hv : cs[j]? = some v) : PS P F C ⟨some d, .index t x y, ty, pos, af, g⟩ v :=
  fun ρ ha w hC => by
    subst hi
    have h3 : cs.toArray[j]? = some v := by simpa using hv
    simp [execOp, Instr.index, ha _ _ hx, ha _ _ hy, asIntOf, hU, hS, hn, part, hA, hv]
end

section
variable {rd : Option Nat} {P : Program} {N : Nx} {B : Nat} {w0 : World} {F : Fr} {H H' : Hp} {ops : Array Oper} {rest : List Oper} {K : Fr → Hp → Prop} {d d2 : Nat} {ty ty2 : TypeId} {pos pos2 : String} {af af2 : Array Edge} {g : Option (Nat × Bool)} {bw : Bool}
/-- 'a or b', b at hand. -/
theorem so_or {c x : Operand} {b1 b2 : Bool} (hg : wants ops F g = some bw) (hbw : bw = !b1) (hx : evO F x = some (.bool b2)) (hN : d < N.n) (hN2 : d2 < N.n)
    (hc : ∀ v, evO ((d, v) :: F) c = some (.bool b1)) (h : SO rd P N B w0 ops rest ((d2, .bool (b1 || b2)) :: (d, bif b1 then undef else .bool b2) :: F) H K) :
    SO rd P N B w0 ops (⟨some d, .move x, ty, pos, af, g⟩ :: ⟨some d2, .pick c (.const (.bool true)) (.tmp d), ty2, pos2, af2, none⟩ :: rest) F H K := by
  cases b1
  · refine so_pure (v := .bool b2) hg hbw rfl hN (ps_move hx) (so_pure rfl rfl rfl hN2 (ps_pick_f (v := .bool b2) (hc _) rfl ?_) h)
    simp [evO]
  · exact so_not hg hbw rfl hN (so_pure rfl rfl rfl hN2 (ps_pick_t (v := .bool true) (hc _) rfl rfl) h)
/-- 'a and b', b at hand. -/
theorem so_and {c x : Operand} {b1 b2 : Bool} (hg : wants ops F g = some bw) (hbw : bw = b1) (hx : evO F x = some (.bool b2)) (hN : d < N.n) (hN2 : d2 < N.n)
    (hc : ∀ v, evO ((d, v) :: F) c = some (.bool b1)) (h : SO rd P N B w0 ops rest ((d2, .bool (b1 && b2)) :: (d, bif b1 then .bool b2 else undef) :: F) H K) :
    SO rd P N B w0 ops (⟨some d, .move x, ty, pos, af, g⟩ :: ⟨some d2, .pick c (.tmp d) (.const (.bool false)), ty2, pos2, af2, none⟩ :: rest) F H K := by
  cases b1
  · exact so_not hg hbw rfl hN (so_pure rfl rfl rfl hN2 (ps_pick_f (v := .bool false) (hc _) rfl rfl) h)
  · refine so_pure (v := .bool b2) hg hbw rfl hN (ps_move hx) (so_pure rfl rfl rfl hN2 (ps_pick_t (v := .bool b2) (hc _) rfl ?_) h)
    simp [evO]
/-- One cell into a slice of the call's own, what stands then told. -/
theorem so_storeOE {x y : Operand} {t t' : TypeId} {b o n cap sz : Nat} {v : Value} {xs xs' : List Value} (hg : wants ops F g = some bw) (hb : bw = true) (hx : evO F x = some (.pointer (some ⟨b, o, none⟩))) (hy : evO F y = some v) (hv : v.oneCell' = true)
    (hS : ∀ w, (sizeOf t).run P w = .ok 1 w) (he : xs.set o v = xs') (ho : o < xs.length) (hu : Upd H (own (some ⟨b, 0, none⟩) n cap t' sz xs) (own (some ⟨b, 0, none⟩) n cap t' sz xs') H')
    (h : SO rd P N B w0 ops rest F H' K) : SO rd P N B w0 ops (⟨none, .store t x y, ty, pos, af, g⟩ :: rest) F H K := by
  subst he; exact so_storeO hg hb hx hy hv hS hu ho h
/-- Some cells of a block. -/
theorem so_storeR {x y : Operand} {t t' : TypeId} {b o : Nat} {vs cs cs' : List Value} (hg : wants ops F g = some bw) (hb : bw = true) (hx : evO F x = some (.pointer (some ⟨b, o, none⟩))) (hy : evO F y = some (.agg vs.toArray)) (h1 : vs.all Value.oneCell' = true)
    (hS : ∀ w, (sizeOf t).run P w = .ok vs.length w) (he : cs.take o ++ vs ++ cs.drop (o + vs.length) = cs') (ho : Nat.ble (o + vs.length) cs.length = true) (hu : Upd H (row b t' cs) (row b t' cs') H')
    (h : SO rd P N B w0 ops rest F H' K) : SO rd P N B w0 ops (⟨none, .store t x y, ty, pos, af, g⟩ :: rest) F H K := fun w hw => by
  subst he
  have ho := Nat.le_of_ble_eq_true ho
  have hk : Blk w b t' cs.toArray := (hw.ok _ hu.mem).1
  have hB := (hw.ok _ hu.mem).2 b rfl
  have hrow := run_storeCells_at P b o t' vs 0 cs.toArray w hk (by simpa using ho) (List.all_eq_true.1 h1)
  simp only [Nat.add_zero, List.toList_toArray] at hrow
  refine xo_skip (w' := w.setRow b (cs.take o ++ vs ++ cs.drop (o + vs.length)).toArray) hg hb rfl (fun ρ ha => ?_) (h _ (hw.upd hu (setRow_below hB _) (fun k _ hne => ?_) (setRow_heap w b cs.toArray _ t' (0, 0) hk) (fun q hq => .inl hq)))
  · simp [execOp, ha _ _ hx, ha _ _ hy, Instr.storeAt, Instr.sureAddr, storeVar, Value.cells, hS, hrow]
  · have : b ≠ k := fun e => hne (by rw [e]; rfl)
    simp [World.setRow, Array.getElem?_modify, this]
/-- A literal of elements. -/
theorem so_litL {α : Type} {c : α → List Value} {sz : Nat} (f : α → Value) (es : List α) {n : Nat} {l : List (Nat × Operand)} {t e : TypeId} {ps : List (Nat × Value)} (hf : ∀ x, (f x).cells.toList = c x) (hc : ∀ x, (c x).length = sz) (hg : wants ops F g = some bw) (hb : bw = true) (hp : Parts F l ps) (hps : ps = ((es.map f).zipIdx 0).map fun x => (x.2, x.1)) (hn : es.length = n) (hok : appOk P t e sz = true)
    (hl : Nat.ble n 255 = true) (hl0 : Nat.ble 1 n = true) (hN : d < N.n)
    (h : ∀ q, SO rd P N B w0 ops rest ((d, .slice (some ⟨q, 0, none⟩) n n) :: F) (own (some ⟨q, 0, none⟩) n n e sz (es.flatMap c) :: H) K) : SO rd P N B w0 ops (⟨some d, .buildSlice t n l.toArray, ty, pos, af, g⟩ :: rest) F H K := by
  have hl := Nat.le_of_ble_eq_true hl
  have hl0 := Nat.le_of_ble_eq_true hl0
  refine so_lit (vs := es.map f) (xs := es.flatMap c) hg hb hp hps (by rw [List.length_map]; exact hn) hok (fun v hv => ?_) ?_ (by rw [List.length_map]; omega) (by rw [List.length_map]; omega) hN h
  · obtain ⟨x, _, rfl⟩ := List.mem_map.1 hv
    rw [← Array.length_toList, hf, hc]
  · have : ((es.map f).flatMap fun v => v.cells.toList) = es.flatMap c := by
      rw [List.flatMap_map]; congr 1; funext x; exact hf x
    rw [this]; exact CopyL.refl _
end

theorem pick_of_mem {e : Ent} : ∀ {H : Hp}, e ∈ H → ∃ R, Pick H e R ∧ H.Perm (e :: R) := by
  intro H
  induction H with
  | nil => intro h; cases h
  | cons x H ih =>
    intro h
    rcases List.mem_cons.1 h with rfl | h
    · exact ⟨H, .here, .refl _⟩
    · obtain ⟨R, h1, h2⟩ := ih h
      exact ⟨x :: R, .there h1, (List.Perm.cons _ h2).trans (List.Perm.swap _ _ _)⟩
theorem SubH.of_perm : ∀ {L H : Hp}, H.Perm L → SubH H L := by
  intro L
  induction L with
  | nil => intro H _; exact .nil
  | cons e L ih =>
    intro H h
    obtain ⟨R, h1, h2⟩ := pick_of_mem (h.mem_iff.2 (List.mem_cons_self ..))
    exact .cons h1 (ih (List.Perm.cons_inv (h2.symm.trans h)))
theorem catH_all : ∀ (T R : Hp), CatH T R (T ++ R)
  | [], _ => .nil
  | _ :: T, R => .cons (catH_all T R)
section
variable {rd : Option Nat} {P : Program} {N : Nx} {B : Nat} {w0 : World} {F : Fr} {H : Hp} {α : Type} {c : α → List Value} {sz : Nat} {A : Option Addr} {l : List α}
/-- An element of a slice that can be read. -/
theorem s_rdAt {cd : Code} {K : Exit → Fr → Hp → Prop} (hR : RdH B w0 H c sz A l) {k : Nat} {x : α} (hk : l[k]? = some x) (h : ∀ b o, A = some ⟨b, o, none⟩ → Rw B w0 H b (o + k * sz) (c x) → S rd P N B w0 cd F H K) : S rd P N B w0 cd F H K := fun hn w hw => by
  obtain ⟨hlt, rfl⟩ := List.getElem?_eq_some_iff.1 hk
  obtain ⟨b, o, hA, hr⟩ := hR.at hw k hlt
  exact h b o hA hr hn w hw
end
section
variable {B : Nat} {w0 w : World} {H R : Hp}
theorem Mem.rdOwn {α : Type} {c : α → List Value} {sz n cap : Nat} {A : Option Addr} {t : TypeId} {l : List α} (h : Mem B w0 H w) (hp : Pick H (own A n cap t sz (l.flatMap c)) R) (hz : 0 < sz) (hc : ∀ x, (c x).length = sz) : Rd w c sz A l := own_rd hz hc w (h.pick hp)
theorem Mem.rowAt {g : Nat} {t : TypeId} {cs : List Value} (h : Mem B w0 H w) (hp : Pick H (row g t cs) R) : g < w.heap.size ∧ Row w g 0 cs := ⟨(row g t cs).lt rfl ((h.pick hp).ok _ (List.mem_cons_self ..)).1, rw_here w (h.pick hp)⟩
end

section
variable {B : Nat} {w0 : World} {H : Hp} {α : Type} {c : α → List Value} {sz : Nat}
theorem own_get {l : List α} {g n cap k : Nat} {t : TypeId} {x : α} (hz : 0 < sz) (hc : ∀ x, (c x).length = sz) (h : l[k]? = some x) : Rw B w0 (own (some ⟨g, 0, none⟩) n cap t sz (l.flatMap c) :: H) g (0 + k * sz) (c x) := by
  obtain ⟨hk, rfl⟩ := List.getElem?_eq_some_iff.1 h
  exact own_at hz hc k hk
/-- One cell of an element. -/
theorem flat_set1 (hc : ∀ x, (c x).length = sz) {l : List α} {k j : Nat} {x y : α} {v : Value} (h : l[k]? = some x) (hj : j < sz) (hv : (c x).set j v = c y) : (l.flatMap c).set (0 + k * sz + j) v = (l.set k y).flatMap c := by
  obtain ⟨hk, rfl⟩ := List.getElem?_eq_some_iff.1 h
  clear h
  rw [Nat.zero_add]
  induction l generalizing k with
  | nil => simp at hk
  | cons a l ih =>
    cases k with
    | zero =>
      rw [List.set_cons_zero, List.flatMap_cons, List.flatMap_cons, Nat.zero_mul, Nat.zero_add, List.set_append, if_pos (by rw [hc]; exact hj), ← hv]; rfl
    | succ k =>
      rw [List.set_cons_succ, List.flatMap_cons, List.flatMap_cons, List.set_append, if_neg (by rw [hc, Nat.add_mul]; omega), hc, ← ih (by simpa using hk) (by simpa using hv)]
      congr 2
      rw [Nat.add_mul]; omega
/-- An element of one cell. -/
theorem flat_set0 {c : α → List Value} (hc : ∀ x, (c x).length = 1) {l : List α} {k : Nat} {y : α} {v : Value} (hk : k < l.length) (hv : c y = [v]) : (l.flatMap c).set (0 + k * 1) v = (l.set k y).flatMap c := by
  have := flat_set1 hc (l := l) (k := k) (j := 0) (x := l[k]) (y := y) (v := v) (List.getElem?_eq_getElem hk) (by omega) (by
    have h1 := hc l[k]
    match e : c l[k], h1 with
    | [a], _ => rw [hv]; rfl)
  exact this
end
end Go.Proofs.Ytdoihebekbfnbaa
