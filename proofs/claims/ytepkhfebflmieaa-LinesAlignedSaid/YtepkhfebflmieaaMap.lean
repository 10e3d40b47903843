/- Maps of one's own: made, filled, looked up. -/
import Derived.Test.YtepkhfebflmieaaGo
import Derived.MapKept
import Derived.Carry
namespace Go.Proofs.Ytepkhfebflmieaa
open Go.RowKit

/-- A map of the call's own. -/
def mapE (g : Nat) (es : List MapEntry) (clock : Nat) : Ent where
  foot := some g
  ok w := w.heap[g]? = some (.map es.toArray clock)
  keep h hw := (h g rfl).trans hw
  lt e hw := by cases e; exact (Array.getElem?_eq_some_iff.1 hw).1
  nd e hw := by cases e; intro h; rw [show _ = _ from hw] at h; cases h

section
variable {rd : Option Nat} {P : Program} {N : Nx} {B : Nat} {w0 : World} {F : Fr} {H H' : Hp} {C : World → Prop} {ops : Array Oper} {rest : List Oper} {K : Fr → Hp → Prop} {d : Nat} {ty : TypeId} {pos : String} {af : Array Edge} {g : Option (Nat × Bool)} {bw : Bool}

theorem so_makeMap {t : TypeId} (hg : wants ops F g = some bw) (hb : bw = true) (hN : d < N.n)
    (h : ∀ q, SO rd P N B w0 ops rest ((d, .map (some q)) :: F) (mapE q [] 0 :: H) K) : SO rd P N B w0 ops (⟨some d, .makeMap t none, ty, pos, af, g⟩ :: rest) F H K := fun w hw => by
  refine xo_run (w' := w.alloc (.map #[] 0)) hg hb rfl hN (fun ρ ha => ?_) (h w.heap.size _ (hw.new (g := w.heap.size) rfl (Nat.le_refl _) (Go.heap_alloc_new w _) ((Below.refl _ _).alloc (Nat.le_refl _) _)))
  simp [execOp, run_makeMap]

theorem run_insertNew {t kt et : TypeId} {kd : TypeDesc} {q c : Nat} {es : List MapEntry} {kv v : Value} {w : World} (hU : P.underlying t = some (.map kt et)) (hK : P.underlying kt = some kd) (hk : MapKept.IsKey kd kv) (hf : Instr.findNow kd kv es 0 = some none) (hq : w.heap[q]? = some (.map es.toArray c)) :
    (Instr.mapUpdate t (.map (some q)) kv v).run P w = .ok () (w.putObj q (.map (es ++ [(⟨kv, v, c⟩ : MapEntry)]).toArray (c + 1))) := by
  have h1 := MapKept.run_getObj_map (P := P) hq
  have h2 := MapKept.run_checkKey (P := P) (w := w) hK hk false 9999
  have h3 := MapKept.run_findKey (P := P) (w := w) (kt := kt) hK (l := es.toArray.toList) hf
  have h4 := MapKept.run_setObj_map (P := P) (.map (es ++ [(⟨kv, v, c⟩ : MapEntry)]).toArray (c + 1)) hq
  simp [Instr.mapUpdate, run_underlying hU, h1, h2, h3, h4, Result.andThen, World.putObj]
theorem so_insert {t kt et : TypeId} {kd : TypeDesc} {m k x : Operand} {q c : Nat} {es : List MapEntry} {kv v : Value} (hg : wants ops F g = some bw) (hb : bw = true) (hm : evO F m = some (.map (some q))) (hkv : evO F k = some kv) (hx : evO F x = some v)
    (hU : P.underlying t = some (.map kt et)) (hK : P.underlying kt = some kd) (hk : MapKept.IsKey kd kv) (hf : Instr.findNow kd kv es 0 = some none) (hu : Upd H (mapE q es c) (mapE q (es ++ [(⟨kv, v, c⟩ : MapEntry)]) (c + 1)) H')
    (h : SO rd P N B w0 ops rest F H' K) : SO rd P N B w0 ops (⟨none, .insert t m k x, ty, pos, af, g⟩ :: rest) F H K := fun w hw => by
  have hq : w.heap[q]? = some (.map es.toArray c) := (hw.ok _ hu.mem).1
  have hB := (hw.ok _ hu.mem).2 q rfl
  have hlt := (Array.getElem?_eq_some_iff.1 hq).1
  refine xo_skip (w' := w.putObj q (.map (es ++ [(⟨kv, v, c⟩ : MapEntry)]).toArray (c + 1))) hg hb rfl (fun ρ ha => ?_) (h _ (hw.upd hu ?_ (fun k _ hne => World.putObj_heap_other (fun e => hne (by rw [e]; rfl))) ?_ (fun q hq => .inl hq)))
  · simp [execOp, ha _ _ hm, ha _ _ hkv, ha _ _ hx, run_insertNew hU hK hk hf hq]
  · exact ⟨rfl, rfl, rfl, by simp [World.putObj], fun k hk => World.putObj_heap_other (by omega)⟩
  · show (w.putObj q _).heap[q]? = _
    simp [World.putObj, hlt]
theorem ps_lookup {t kt et : TypeId} {kd : TypeDesc} {m k : Operand} {q c i : Nat} {es : List MapEntry} {kv v : Value} {R : Hp} (hm : evO F m = some (.map (some q))) (hkv : evO F k = some kv)
    (hU : P.underlying t = some (.map kt et)) (hK : P.underlying kt = some kd) (hk : MapKept.IsKey kd kv) (hf : Instr.findNow kd kv es 0 = some (some (i, v))) (hp : Pick H (mapE q es c) R) : PS P F (Mem B w0 H) ⟨some d, .lookup t m k false, ty, pos, af, g⟩ v := fun ρ ha w hw => by
  have hq : w.heap[q]? = some (.map es.toArray c) := (hw.ok _ ((hp.mem _).2 (.inl rfl))).1
  have h1 := MapKept.run_getObj_map (P := P) hq
  have h2 := MapKept.run_checkKey (P := P) (w := w) hK hk (es.toArray.isEmpty) 9999
  have h3 := MapKept.run_findKey (P := P) (w := w) (kt := kt) hK (l := es.toArray.toList) hf
  simp at h2
  simp [execOp, ha _ _ hm, ha _ _ hkv, Instr.lookup, run_underlying hU, h1, h2, h3, Result.andThen]
theorem ps_lookup0 {t kt et : TypeId} {kd : TypeDesc} {m k : Operand} {q c : Nat} {es : List MapEntry} {kv v : Value} {R : Hp} (hm : evO F m = some (.map (some q))) (hkv : evO F k = some kv)
    (hU : P.underlying t = some (.map kt et)) (hK : P.underlying kt = some kd) (hk : MapKept.IsKey kd kv) (hf : Instr.findNow kd kv es 0 = some none) (hZ : ∀ w, (zeroValue et).run P w = .ok v w) (hp : Pick H (mapE q es c) R) : PS P F (Mem B w0 H) ⟨some d, .lookup t m k false, ty, pos, af, g⟩ v := fun ρ ha w hw => by
  have hq : w.heap[q]? = some (.map es.toArray c) := (hw.ok _ ((hp.mem _).2 (.inl rfl))).1
  have h1 := MapKept.run_getObj_map (P := P) hq
  have h2 := MapKept.run_checkKey (P := P) (w := w) hK hk (es.toArray.isEmpty) 9999
  have h3 := MapKept.run_findKey (P := P) (w := w) (kt := kt) hK (l := es.toArray.toList) hf
  simp at h2
  simp [execOp, ha _ _ hm, ha _ _ hkv, Instr.lookup, run_underlying hU, h1, h2, h3, hZ, Result.andThen]
end
end Go.Proofs.Ytepkhfebflmieaa
