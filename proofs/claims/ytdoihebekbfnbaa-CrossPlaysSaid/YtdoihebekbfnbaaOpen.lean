/- Opening a law's arguments, and closing its row. -/
import Derived.Test.YtdoihebekbfnbaaRows
import Derived.Test.YtdoihebekbfnbaaSep
import Derived.Test.YtdoihebekbfnbaaRow
import Derived.ChangeMaps5
import Derived.Carry
import Derived.OpenShut
namespace Go.Proofs.Ytdoihebekbfnbaa
open Go.ChangeShapes Go.WideShapes Go.ChangeAt Go.RowKit Go.Deep

theorem own_knob : ownKnob Try.prog.godebug = none := by kernel_rfl
theorem laid_out : laidOutB Try.prog = true := by kernel_rfl

section
variable {H : Type} {enc : TypeId × Value → H} {P : Program} {w : World} {base : Nat} {spare : Nat → Bool} {held : Bool}

theorem open_slice_rd {α : Type} {t e : TypeId} {fuel : Nat} {cs : List Value} {x : DataW H × List MemPlace} (c : α → List Value) (good : α → Prop) (sz : Nat) (ht : P.underlying t = some (.slice e)) (hC : P.cellsOf e = sz) (hz : 0 < sz)
    (hE : ∀ (vs : List Value) (n : Nat) (y : DataW H × List MemPlace), vs.length = sz → DataW.trod enc P w base spare held n e vs = some y → ∃ x, good x ∧ vs = c x) (h : DataW.trod enc P w base spare held fuel t cs = some x) :
    ∃ (A : Option Addr) (l : List α) (cap : Nat), cs = [.slice A l.length cap] ∧ (A = none → cap = 0) ∧ l.length ≤ cap ∧ cap ≤ maxLen ∧ Rd w c sz A l ∧ ∀ x ∈ l, good x := by
  rcases open_slice ht h with h0 | ⟨a, len, cap, m, n, D, Pl, hcs, hb, hl, hm, hmm, hx, hi⟩
  · exact ⟨none, [], 0, h0.1, fun _ => rfl, Nat.le_refl _, Nat.zero_le _, Rd.nil, by simp⟩
  · have spot0 : 0 < len → a.spot = none := by
      intro h0
      obtain ⟨cs', hc, _⟩ := hi 0 (by rw [hmm]; split <;> omega)
      rw [hC] at hc
      obtain ⟨_, hcl, hat⟩ := World.cells?_some hc
      have h1 := hat 0 hz
      rw [List.getElem?_eq_getElem (by omega)] at h1
      have := World.cell?_spot h1
      simpa [Addr.add] using this
    have each : ∀ i, i < len → ∃ x : α, (a.spot = none ∧ a.block < w.heap.size ∧ Row w a.block (a.off + i * sz) (c x)) ∧ good x := by
      intro i hil
      have him : i < m := by rw [hmm]; split <;> omega
      obtain ⟨cs', hc, ht'⟩ := hi i him
      rw [hC] at hc
      obtain ⟨_, hcl, hat⟩ := World.cells?_some hc
      obtain ⟨x, hg, hxc⟩ := hE cs' _ _ hcl ht'
      have hcell : ∀ j (hj : j < sz), w.cell? (a.add (i * sz + j)) = cs'[j]? := fun j hj => by
        have := hat j hj
        rw [← Go.Deep.add_add]; exact this
      have h0 := hcell 0 hz
      rw [List.getElem?_eq_getElem (by omega)] at h0
      have hsp := spot0 (by omega)
      obtain ⟨b, off, spot⟩ := a
      dsimp only at hsp; subst hsp
      refine ⟨x, ⟨rfl, ?_, fun j u hj => ?_⟩, hg⟩
      · rw [add_place] at h0
        unfold World.cell? at h0
        rcases Nat.lt_or_ge b w.heap.size with h' | h'
        · exact h'
        · rw [Array.getElem?_eq_none h'] at h0; simp at h0
      · have hj' : j < sz := by rw [← hxc] at hj; have := (List.getElem?_eq_some_iff.1 hj).1; omega
        have := hcell j hj'
        rw [add_place] at this
        dsimp only
        rw [Nat.add_assoc, this, hxc]; exact hj
    obtain ⟨l, hll, hr⟩ := list_of len each
    refine ⟨some a, l, cap, by rw [hll]; exact hcs, fun e => absurd e (by simp), by omega, hm, fun k hk => ?_, fun x hx => ?_⟩
    · obtain ⟨⟨h1, h2, h3⟩, _⟩ := hr k hk
      obtain ⟨b, off, spot⟩ := a
      dsimp only at h1 h2 h3; subst h1
      exact ⟨b, off, rfl, h2, h3⟩
    · obtain ⟨i, hi, rfl⟩ := List.mem_iff_getElem.1 hx
      exact (hr i hi).2

/-- A struct's cells, field by field. -/
theorem open_fields {t : TypeId} {fs : Array Field} {fuel : Nat} {cs : List Value} {x : DataW H × List MemPlace} (ht : P.underlying t = some (.struct fs)) (h : DataW.trod enc P w base spare held fuel t cs = some x) :
    cs.length = P.cellsOf t ∧ ∀ (j : Nat) (f : Field), fs[j]? = some f → ∃ (y : DataW H × List MemPlace) (n : Nat), DataW.trod enc P w base spare held n f.type ((cs.drop f.offset).take (P.cellsOf f.type)) = some y := by
  obtain ⟨ys, n, _, rfl, hl, hlen, hf⟩ := DataW.trod_struct ht h
  refine ⟨hl, fun j f hj => ?_⟩
  have hjl : j < fs.size := (Array.getElem?_eq_some_iff.1 hj).1
  have h1 := hf j f hj
  have hys : ys[j]? = some (ys[j]'(by omega)) := List.getElem?_eq_getElem (by omega)
  exact ⟨_, _, h1.trans hys⟩
/-- A struct by value. -/
theorem open_struct {r : Reach} {b0 : Nat} {t : TypeId} {fs : Array Field} {v : Value} {d : DataW H} {p : List MemPlace} (hs : P.underlying t = some (.struct fs)) (hv : Value.okWide P w r b0 t v) (h : DataW.Trod enc P w base spare held t v d p) :
    ∃ cs : List Value, v = .agg cs.toArray ∧ cs.length = P.cellsOf t ∧ ∀ (j : Nat) (f : Field), fs[j]? = some f → ∃ (y : DataW H × List MemPlace) (n : Nat), DataW.trod enc P w base spare held n f.type ((cs.drop f.offset).take (P.cellsOf f.type)) = some y := by
  obtain ⟨cs, rfl, hsz⟩ := okWide_struct hs hv
  obtain ⟨fuel, hf⟩ := h
  have := open_fields hs hf
  exact ⟨cs.toList, by simp, this.1, this.2⟩

theorem list1 {α : Type} {l : List α} (h : l.length = 1) : ∃ a, l = [a] := by
  match l, h with | [a], _ => exact ⟨a, rfl⟩
theorem list2 {α : Type} {l : List α} (h : l.length = 2) : ∃ a b, l = [a, b] := by
  match l, h with | [a, b], _ => exact ⟨a, b, rfl⟩
theorem list3 {α : Type} {l : List α} (h : l.length = 3) : ∃ a b c, l = [a, b, c] := by
  match l, h with | [a, b, c], _ => exact ⟨a, b, c, rfl⟩
theorem list4 {α : Type} {l : List α} (h : l.length = 4) : ∃ a b c d, l = [a, b, c, d] := by
  match l, h with | [a, b, c, d], _ => exact ⟨a, b, c, d, rfl⟩
theorem list5 {α : Type} {l : List α} (h : l.length = 5) : ∃ a b c d e, l = [a, b, c, d, e] := by
  match l, h with | [a, b, c, d, e], _ => exact ⟨a, b, c, d, e, rfl⟩
theorem list6 {α : Type} {l : List α} (h : l.length = 6) : ∃ a b c d e f, l = [a, b, c, d, e, f] := by
  match l, h with | [a, b, c, d, e, f], _ => exact ⟨a, b, c, d, e, f, rfl⟩

theorem cell_int {t : TypeId} {k : IntKind} {n : Nat} {v : Value} {y : DataW H × List MemPlace} (ht : P.underlying t = some (.int k)) (h : DataW.trod enc P w base spare held n t [v] = some y) : ∃ z : Int, v = .int k z ∧ (Lit.int k z).wf = true := by
  obtain ⟨z, e, _, g⟩ := DataW.trod_int ht h
  simp only [List.cons.injEq, and_true] at e
  exact ⟨z, e, g⟩
theorem cell_bool {t : TypeId} {n : Nat} {v : Value} {y : DataW H × List MemPlace} (ht : P.underlying t = some .bool) (h : DataW.trod enc P w base spare held n t [v] = some y) : ∃ b : Bool, v = .bool b := by
  obtain ⟨b, e, _⟩ := DataW.trod_bool ht h
  simp only [List.cons.injEq, and_true] at e
  exact ⟨b, e⟩

theorem trod_count {ts : List TypeId} : ∀ {vs : List Value} {ds : List (DataW H)} {ps : List MemPlace}, DataW.TrodAll enc P w base spare held ts vs ds ps → ds.length = ts.length := by
  induction ts with
  | nil => intro vs ds ps h; obtain ⟨_, rfl, _⟩ := trodAll_nil h; rfl
  | cons t ts ih =>
    intro vs ds ps h
    obtain ⟨v, vs', d, ds', p, p', rfl, rfl, rfl, h1, h2⟩ := trodAll_cons h
    simp [ih h2]
theorem trodAll_five {t0 t1 t2 t3 t4 : TypeId} {args : Array Value} {ds : List (DataW H)} {ps : List MemPlace} (h : DataW.TrodAll enc P w base spare held [t0, t1, t2, t3, t4] args.toList ds ps) :
    ∃ v0 v1 v2 v3 v4 d0 d1 d2 d3 d4 p0 p1 p2 p3 p4, args = #[v0, v1, v2, v3, v4] ∧ ds = [d0, d1, d2, d3, d4] ∧ DataW.Trod enc P w base spare held t0 v0 d0 p0 ∧ DataW.Trod enc P w base spare held t1 v1 d1 p1 ∧ DataW.Trod enc P w base spare held t2 v2 d2 p2 ∧ DataW.Trod enc P w base spare held t3 v3 d3 p3 ∧ DataW.Trod enc P w base spare held t4 v4 d4 p4 := by
  obtain ⟨v0, vs, d0, ds0, p0, q, hargs, rfl, _, h0, h⟩ := trodAll_cons h
  obtain ⟨v1, vs, d1, ds1, p1, q, rfl, rfl, _, h1, h⟩ := trodAll_cons h
  obtain ⟨v2, vs, d2, ds2, p2, q, rfl, rfl, _, h2, h⟩ := trodAll_cons h
  obtain ⟨v3, vs, d3, ds3, p3, q, rfl, rfl, _, h3, h⟩ := trodAll_cons h
  obtain ⟨v4, vs, d4, ds4, p4, q, rfl, rfl, _, h4, h⟩ := trodAll_cons h
  obtain ⟨rfl, rfl, rfl⟩ := trodAll_nil h
  exact ⟨v0, v1, v2, v3, v4, d0, d1, d2, d3, d4, p0, p1, p2, p3, p4, by cases args; simp_all, rfl, h0, h1, h2, h3, h4⟩
theorem trodAll_4 {t0 t1 t2 t3 : TypeId} {args : Array Value} {ds : List (DataW H)} {ps : List MemPlace} (h : DataW.TrodAll enc P w base spare held [t0, t1, t2, t3] args.toList ds ps) :
    ∃ v0 v1 v2 v3 d0 d1 d2 d3 p0 p1 p2 p3, args = #[v0, v1, v2, v3] ∧ ds = [d0, d1, d2, d3] ∧ DataW.Trod enc P w base spare held t0 v0 d0 p0 ∧ DataW.Trod enc P w base spare held t1 v1 d1 p1 ∧ DataW.Trod enc P w base spare held t2 v2 d2 p2 ∧ DataW.Trod enc P w base spare held t3 v3 d3 p3 := by
  obtain ⟨v0, vs, d0, ds0, p0, q, hargs, rfl, _, h0, h⟩ := trodAll_cons h
  obtain ⟨v1, vs, d1, ds1, p1, q, rfl, rfl, _, h1, h⟩ := trodAll_cons h
  obtain ⟨v2, vs, d2, ds2, p2, q, rfl, rfl, _, h2, h⟩ := trodAll_cons h
  obtain ⟨v3, vs, d3, ds3, p3, q, rfl, rfl, _, h3, h⟩ := trodAll_cons h
  obtain ⟨rfl, rfl, rfl⟩ := trodAll_nil h
  exact ⟨v0, v1, v2, v3, d0, d1, d2, d3, p0, p1, p2, p3, by cases args; simp_all, rfl, h0, h1, h2, h3⟩
theorem u32_of {n : Int} (h : (Lit.int .u32 n).wf = true) : 0 ≤ n ∧ n ≤ 4294967295 := by
  simp only [Lit.wf, Bool.and_eq_true, decide_eq_true_eq] at h
  obtain ⟨h1, h2⟩ := h
  have e1 : IntKind.min .u32 = 0 := by decide +kernel
  have e2 : IntKind.max .u32 = 4294967295 := by decide +kernel
  omega
theorem i32_of {n : Int} (h : (Lit.int .i32 n).wf = true) : -2147483648 ≤ n ∧ n ≤ 2147483647 := by
  simp only [Lit.wf, Bool.and_eq_true, decide_eq_true_eq] at h
  obtain ⟨h1, h2⟩ := h
  have e1 : IntKind.min .i32 = -2147483648 := by decide +kernel
  have e2 : IntKind.max .i32 = 2147483647 := by decide +kernel
  omega

/-- What lies from a place on reads as this type. -/
def SubT (enc : TypeId × Value → H) (P : Program) (w : World) (base : Nat) (spare : Nat → Bool) (held : Bool) (t : TypeId) (cs : List Value) (o : Nat) : Prop :=
  ∃ (n : Nat) (y : DataW H × List MemPlace), DataW.trod enc P w base spare held n t ((cs.drop o).take (P.cellsOf t)) = some y
theorem sub_cut {cs : List Value} {o a c C : Nat} (h : a + c ≤ C) : (((cs.drop o).take C).drop a).take c = (cs.drop (o + a)).take c := by
  rw [List.drop_take, List.take_take, List.drop_drop, Nat.min_eq_left (by omega)]
theorem SubT.field {t : TypeId} {cs : List Value} {o j : Nat} {fs : Array Field} {f : Field} (h : SubT enc P w base spare held t cs o) (ht : P.underlying t = some (.struct fs)) (hj : fs[j]? = some f) (hle : f.offset + P.cellsOf f.type ≤ P.cellsOf t) : SubT enc P w base spare held f.type cs (o + f.offset) := by
  obtain ⟨n, y, hy⟩ := h
  obtain ⟨_, hf⟩ := open_fields ht hy
  obtain ⟨y', n', h'⟩ := hf j f hj
  rw [sub_cut hle] at h'
  exact ⟨n', y', h'⟩
theorem SubT.elem {t e : TypeId} {cs : List Value} {o m : Nat} (h : SubT enc P w base spare held t cs o) (ht : P.underlying t = some (.array m e)) (i : Nat) (hi : i < m) (hle : i * P.cellsOf e + P.cellsOf e ≤ P.cellsOf t) : SubT enc P w base spare held e cs (o + i * P.cellsOf e) := by
  obtain ⟨n, y, hy⟩ := h
  obtain ⟨xs, n', _, _, _, hxl, hx⟩ := DataW.trod_array ht hy
  have h' := hx i hi
  rw [sub_cut hle, List.getElem?_eq_getElem (by omega)] at h'
  exact ⟨n', _, h'⟩
theorem sub_cell {cs : List Value} {o : Nat} {v : Value} (h : (cs.drop o).take 1 = [v]) : cs[o]? = some v := by
  have : ((cs.drop o).take 1)[0]? = some v := by rw [h]; rfl
  rw [List.getElem?_take, if_pos (by omega), List.getElem?_drop] at this
  exact this
theorem SubT.int {t : TypeId} {k : IntKind} {cs : List Value} {o : Nat} (h : SubT enc P w base spare held t cs o) (ht : P.underlying t = some (.int k)) (hc : P.cellsOf t = 1) : ∃ z : Int, cs[o]? = some (.int k z) ∧ (Lit.int k z).wf = true := by
  obtain ⟨n, y, hy⟩ := h
  rw [hc] at hy
  obtain ⟨z, e, _, g⟩ := DataW.trod_int ht hy
  exact ⟨z, sub_cell e, g⟩
theorem SubT.bool {t : TypeId} {cs : List Value} {o : Nat} (h : SubT enc P w base spare held t cs o) (ht : P.underlying t = some .bool) (hc : P.cellsOf t = 1) : ∃ b : Bool, cs[o]? = some (.bool b) := by
  obtain ⟨n, y, hy⟩ := h
  rw [hc] at hy
  obtain ⟨b, e, _⟩ := DataW.trod_bool ht hy
  exact ⟨b, sub_cell e⟩
theorem SubT.slice {t e : TypeId} {cs : List Value} {o : Nat} (h : SubT enc P w base spare held t cs o) (ht : P.underlying t = some (.slice e)) (hc : P.cellsOf t = 1) : ∃ (A : Option Addr) (l c : Nat) (n : Nat) (y : DataW H × List MemPlace), cs[o]? = some (.slice A l c) ∧ DataW.trod enc P w base spare held n t [.slice A l c] = some y := by
  obtain ⟨n, y, hy⟩ := h
  rw [hc] at hy
  rcases open_slice ht hy with h0 | ⟨a', len', cap', m, n', D, Pl, hcs, _⟩
  · exact ⟨_, _, _, n, y, sub_cell h0.1, by rw [← h0.1]; exact hy⟩
  · exact ⟨_, _, _, n, y, sub_cell hcs, by rw [← hcs]; exact hy⟩
inductive Gets (cs : List Value) : Nat → List Value → Prop
  | nil {o : Nat} : cs.length = o → Gets cs o []
  | cons {o : Nat} {v : Value} {vs : List Value} : cs[o]? = some v → Gets cs (o + 1) vs → Gets cs o (v :: vs)
theorem Gets.eq {cs vs : List Value} {o : Nat} (h : Gets cs o vs) : cs.drop o = vs := by
  induction h with
  | nil h => rw [List.drop_of_length_le (by omega)]
  | cons h _ ih =>
    have hl := (List.getElem?_eq_some_iff.1 h)
    rw [List.drop_eq_getElem_cons hl.1, ih, hl.2]
/-- A struct by value, whole. -/
theorem open_val {r : Reach} {b0 : Nat} {t : TypeId} {fs : Array Field} {v : Value} {d : DataW H} {p : List MemPlace} (hs : P.underlying t = some (.struct fs)) (hv : Value.okWide P w r b0 t v) (h : DataW.Trod enc P w base spare held t v d p) :
    ∃ cs : List Value, v = .agg cs.toArray ∧ cs.length = P.cellsOf t ∧ SubT enc P w base spare held t cs 0 := by
  obtain ⟨cs, rfl, hsz⟩ := okWide_struct hs hv
  obtain ⟨fuel, hf⟩ := h
  refine ⟨cs.toList, by simp, by simpa using hsz, fuel, (d, p), ?_⟩
  rw [List.drop_zero, List.take_of_length_le (by simp [hsz])]
  exact hf

/-- All arguments read as they did. -/
theorem trodAll_below {W W' : World} (hl : laidOutB P = true) (hb : Below W.heap.size W W') : ∀ {ts : List TypeId} {vs : List Value} {ds : List (DataW H)} {ps : List MemPlace}, (∀ t ∈ ts, P.readableRec t = true ∧ t < P.types.size) →
    DataW.TrodAll enc P W 0 (fun _ => true) true ts vs ds ps → (∀ x ∈ ps, x.block < W.heap.size) → DataW.TrodAll enc P W' 0 (fun b => decide (b < W.heap.size)) true ts vs ds ps
  | [], vs, ds, ps, _, h, _ => by
    obtain ⟨rfl, rfl, rfl⟩ := trodAll_nil h; exact trodAll_mk0
  | t :: ts, vs, ds, ps, ht, h, hlt => by
    obtain ⟨v, vs', d, ds', p, p', rfl, rfl, rfl, h1, h2⟩ := trodAll_cons h
    have h0 := ht t (by simp)
    exact trodAll_cons_mk (Below.trod hl h0.1 h0.2 h1 hb (fun x hx => hlt x (by simp [hx]))) (trodAll_below hl hb (fun t' h' => ht t' (by simp [h'])) h2 (fun x hx => hlt x (by simp [hx])))
end
end Go.Proofs.Ytdoihebekbfnbaa
