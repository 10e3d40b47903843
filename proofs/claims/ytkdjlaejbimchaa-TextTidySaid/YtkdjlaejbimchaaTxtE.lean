/- The walk of Extent. -/
import Derived.Test.YtkdjlaejbimchaaTxtL
namespace Go.Proofs.Ytkdjlaejbimchaa
open Go.RowKit

structure Wg where
  a : Int
  b : Int
  w : Int
  gap : Int
  forced : Int
def Wg.cells (x : Wg) : List Value := [.int .i64 x.a, .int .i64 x.b, .int .i64 x.w, .int .i64 x.gap, .int .i64 x.forced]
structure ES where
  first : Bool
  least : Int
  great : Int
  far : Bool
  row : List Int
def closeM (s : ES) : ES := { s with great := max s.great (cutM s.row.sum), far := s.far || !decide (s.row.sum = cutM s.row.sum) }
def extS (s : ES) (x : Wg) : ES :=
  if s.first = false ∧ x.forced ≤ 0 then ⟨false, if s.least < x.w then x.w else s.least, s.great, s.far, s.row ++ [x.gap, x.w]⟩
  else ⟨false, if s.first = true ∨ s.least < x.w then x.w else s.least, (closeM s).great, (closeM s).far, [x.w]⟩
def extM (ws : List Wg) : ES := closeM (ws.foldl extS ⟨true, 0, 0, false, []⟩)

set_option maxRecDepth 100000 in
set_option maxHeartbeats 1000000 in
theorem close_any (g : Int) (far : Bool) (l : List Int) (A : Option Addr) (cap q3 q4 q5 B : Nat) (w0 w : World) (T : Hp) (hl : ∀ x ∈ l, I64 x) (hlen : l.length ≤ 9223372036854775807)
    (hw : Mem B w0 (own A l.length cap 2 1 (l.map (.int .i64)) :: row q5 29 [.slice A l.length cap] :: row q4 4 [.bool far] :: row q3 2 [.int .i64 g] :: T) w) :
    Calls Try.prog 19 #[.pointer (some ⟨q5, 0, none⟩), .pointer (some ⟨q3, 0, none⟩), .pointer (some ⟨q4, 0, none⟩)] w fun e w' => ∃ _ : Unit, True ∧ e = .returned (.tuple #[]) ∧
      Mem B w0 (own A l.length cap 2 1 (l.map (.int .i64)) :: row q5 29 [.slice A l.length cap] :: row q4 4 [.bool (far || !decide (l.sum = cutM l.sum))] :: row q3 2 [.int .i64 (max g (cutM l.sum))] :: T) w' := by
  refine (s_calls [(0, .pointer (some ⟨q5, 0, none⟩)), (1, .pointer (some ⟨q3, 0, none⟩)), (2, .pointer (some ⟨q4, 0, none⟩))] (Q := fun v H' => v = .tuple #[] ∧ H' = (own A l.length cap 2 1 (l.map (.int .i64)) :: row q5 29 [.slice A l.length cap] :: row q4 4 [.bool (far || !decide (l.sum = cutM l.sum))] :: row q3 2 [.int .i64 (max g (cutM l.sum))] :: T)) Try.func19 rfl Try.ntmps19 rfl (by simp) hw ?_).mono fun e w' ⟨v, H', h1, h2, h3, h4⟩ => ⟨(), trivial, h3 ▸ h1, h4 ▸ h2⟩
  have hsum : ∀ T w1, Mem B w0 (own A l.length cap 2 1 (l.map (.int .i64)) :: T) w1 → Calls Try.prog 20 #[.slice A l.length cap] w1 fun e w' => e = .returned (.tuple #[.int .i64 (cutM l.sum), .bool (!decide (l.sum = cutM l.sum))]) ∧ Below w1.heap.size w1 w' := fun T w1 h1 => sum_any l A cap hl hlen w1 (own_rd1 w1 h1)
  refine go_ _ ?_
  refine so_callQ (hsum _) rfl rfl rfl (tF rfl) (Nat.le_of_ble_eq_true rfl) ?_
  clear hsum
  generalize hd : (!decide (l.sum = cutM l.sum)) = d
  cases far
  · skip
    refine go_ _ ?_
    exact sret0n rfl ⟨rfl, rfl⟩
  · skip
    refine go_ _ ?_
    exact sret0n rfl ⟨rfl, rfl⟩

theorem sretTCC {P : Program} {N : Nx} {B : Nat} {w0 : World} {F : Fr} {H : Hp} {fn : Func} {Q : Value → Hp → Prop} {s t u : Tmp} {ty ty2 : TypeId} {b b2 : Nat} {v x y : Value} (hr : fn.results = #[.tmp s, .cell t ty, .cell u ty2]) (hs : F.lookup s = some v) (hv : F.lookup t = some (.pointer (some ⟨b, 0, none⟩))) (hx : F.lookup u = some (.pointer (some ⟨b2, 0, none⟩)))
    (hA : ∀ w, (isAgg ty).run P w = .ok false w) (hA2 : ∀ w, (isAgg ty2).run P w = .ok false w) (hc : Cl B w0 H b 0 x) (hc2 : Cl B w0 H b2 0 y) (h : Q (.tuple #[v, x, y]) H) : RetS P N B w0 fn Q .ret F H :=
  fun a w ha hw => ⟨.tuple #[v, x, y], by
    have c1 := hc w hw
    have c2 := hc2 w hw
    have e0 := ha.getD hs; have e1 := ha.getD hv; have e2 := ha.getD hx; simp [Array.getD_eq_getD_getElem?] at e0 e1 e2; simp [results, hr, e0, e1, e2, asAddr, loadVar, hA, hA2, c1, c2], h⟩

theorem extS_row (s : ES) (x : Wg) : (extS s x).row.length ≤ s.row.length + 2 := by
  unfold extS; split <;> simp
theorem ext_row (ws : List Wg) : ∀ k, ((ws.take k).foldl extS ⟨true, 0, 0, false, []⟩).row.length ≤ 2 * k := by
  intro k
  induction k with
  | zero => simp
  | succ k ih =>
    by_cases hk : k < ws.length
    · rw [List.take_add_one, List.getElem?_eq_getElem hk, List.foldl_append]
      simp only [Option.toList_some, List.foldl_cons, List.foldl_nil]
      have := extS_row ((ws.take k).foldl extS ⟨true, 0, 0, false, []⟩) ws[k]
      omega
    · rw [List.take_of_length_le (by omega)] at ih ⊢
      omega
theorem ext_first (ws : List Wg) (k : Nat) (hk : k ≤ ws.length) : ((ws.take k).foldl extS ⟨true, 0, 0, false, []⟩).first = decide (k = 0) := by
  cases k with
  | zero => rfl
  | succ k =>
    rw [List.take_add_one, List.getElem?_eq_getElem (by omega), List.foldl_append]
    simp only [Option.toList_some, List.foldl_cons, List.foldl_nil]
    unfold extS; split <;> rfl
theorem ext_in (ws : List Wg) (hw : ∀ x ∈ ws, I64 x.w ∧ I64 x.gap) : ∀ x ∈ (ws.foldl extS ⟨true, 0, 0, false, []⟩).row, I64 x := by
  have key : ∀ (l : List Wg) (s : ES), (∀ x ∈ l, I64 x.w ∧ I64 x.gap) → (∀ x ∈ s.row, I64 x) → ∀ x ∈ (l.foldl extS s).row, I64 x := by
    intro l
    induction l with
    | nil => intro s _ h; exact h
    | cons y l ih =>
      intro s hl h
      refine ih _ (fun x hx => hl x (List.mem_cons_of_mem _ hx)) ?_
      have hy := hl y (List.mem_cons_self ..)
      intro x hx
      unfold extS at hx
      split at hx
      · rcases List.mem_append.1 hx with hx | hx
        · exact h x hx
        · simp at hx; rcases hx with rfl | rfl
          · exact hy.2
          · exact hy.1
      · simp at hx; subst hx; exact hy.1
  exact key ws _ hw (by simp)

set_option maxRecDepth 100000 in
set_option maxHeartbeats 2000000 in
theorem extent_any (ws : List Wg) (A : Option Addr) (cap : Nat) (hlen : ws.length ≤ 1073741823) (hw : ∀ x ∈ ws, I64 x.w ∧ I64 x.gap) (w : World) (hA : Rd w Wg.cells 5 A ws) :
    Calls Try.prog 9 #[.slice A ws.length cap] w fun e w' => e = .returned (.tuple #[.int .i64 (extM ws).least, .int .i64 (extM ws).great, .bool (extM ws).far]) ∧ Below w.heap.size w w' := by
  refine s_quiet [(0, .slice A ws.length cap)] Try.func9 rfl Try.ntmps9 rfl (by simp) ?_
  refine s_ownNil 2 1 ?_
  refine go_ _ ?_
  (first | ((with_reducible apply so_new); rfl; (first | (with_reducible rfl) | assumption | exact decide_eq_true (by omega) | (simp only [Bool.not_eq_true', Bool.not_eq_false', decide_eq_false_iff_not, decide_eq_true_eq] <;> first | assumption | omega) | decide); exact tZ rfl; (first | exact Nat.le_of_ble_eq_true rfl | decide); (intro; rfl); (first | (with_reducible rfl) | assumption | exact decide_eq_true (by omega) | (simp only [Bool.not_eq_true', Bool.not_eq_false', decide_eq_false_iff_not, decide_eq_true_eq] <;> first | assumption | omega) | decide); (intro; rfl); rfl; exact tS rfl; rfl; rfl) | ((with_reducible apply so_alloc); rfl; (first | (with_reducible rfl) | assumption | exact decide_eq_true (by omega) | (simp only [Bool.not_eq_true', Bool.not_eq_false', decide_eq_false_iff_not, decide_eq_true_eq] <;> first | assumption | omega) | decide); exact tZ rfl; (focus ((repeat (first | (with_reducible exact CopyL.agg) | exact CopyL.nil | (apply CopyL.consI; rfl) | (apply CopyL.consB; rfl) | (apply CopyL.consS; rfl) | (apply CopyL.consP; rfl) | apply CopyL.cons)); done)); (first | exact Nat.le_of_ble_eq_true rfl | decide)) | ((with_reducible apply so_box); rfl; (first | (with_reducible rfl) | assumption | exact decide_eq_true (by omega) | (simp only [Bool.not_eq_true', Bool.not_eq_false', decide_eq_false_iff_not, decide_eq_true_eq] <;> first | assumption | omega) | decide); rfl; (focus ((repeat (first | (with_reducible exact CopyL.agg) | exact CopyL.nil | (apply CopyL.consI; rfl) | (apply CopyL.consB; rfl) | (apply CopyL.consS; rfl) | (apply CopyL.consP; rfl) | apply CopyL.cons)); done)); (first | exact Nat.le_of_ble_eq_true rfl | decide)))
  intro q3
  refine go_ _ ?_
  (first | ((with_reducible apply so_new); rfl; (first | (with_reducible rfl) | assumption | exact decide_eq_true (by omega) | (simp only [Bool.not_eq_true', Bool.not_eq_false', decide_eq_false_iff_not, decide_eq_true_eq] <;> first | assumption | omega) | decide); exact tZ rfl; (first | exact Nat.le_of_ble_eq_true rfl | decide); (intro; rfl); (first | (with_reducible rfl) | assumption | exact decide_eq_true (by omega) | (simp only [Bool.not_eq_true', Bool.not_eq_false', decide_eq_false_iff_not, decide_eq_true_eq] <;> first | assumption | omega) | decide); (intro; rfl); rfl; exact tS rfl; rfl; rfl) | ((with_reducible apply so_alloc); rfl; (first | (with_reducible rfl) | assumption | exact decide_eq_true (by omega) | (simp only [Bool.not_eq_true', Bool.not_eq_false', decide_eq_false_iff_not, decide_eq_true_eq] <;> first | assumption | omega) | decide); exact tZ rfl; (focus ((repeat (first | (with_reducible exact CopyL.agg) | exact CopyL.nil | (apply CopyL.consI; rfl) | (apply CopyL.consB; rfl) | (apply CopyL.consS; rfl) | (apply CopyL.consP; rfl) | apply CopyL.cons)); done)); (first | exact Nat.le_of_ble_eq_true rfl | decide)) | ((with_reducible apply so_box); rfl; (first | (with_reducible rfl) | assumption | exact decide_eq_true (by omega) | (simp only [Bool.not_eq_true', Bool.not_eq_false', decide_eq_false_iff_not, decide_eq_true_eq] <;> first | assumption | omega) | decide); rfl; (focus ((repeat (first | (with_reducible exact CopyL.agg) | exact CopyL.nil | (apply CopyL.consI; rfl) | (apply CopyL.consB; rfl) | (apply CopyL.consS; rfl) | (apply CopyL.consP; rfl) | apply CopyL.cons)); done)); (first | exact Nat.le_of_ble_eq_true rfl | decide)))
  intro q4
  refine go_ _ ?_
  (first | ((with_reducible apply so_new); rfl; (first | (with_reducible rfl) | assumption | exact decide_eq_true (by omega) | (simp only [Bool.not_eq_true', Bool.not_eq_false', decide_eq_false_iff_not, decide_eq_true_eq] <;> first | assumption | omega) | decide); exact tZ rfl; (first | exact Nat.le_of_ble_eq_true rfl | decide); (intro; rfl); (first | (with_reducible rfl) | assumption | exact decide_eq_true (by omega) | (simp only [Bool.not_eq_true', Bool.not_eq_false', decide_eq_false_iff_not, decide_eq_true_eq] <;> first | assumption | omega) | decide); (intro; rfl); rfl; exact tS rfl; rfl; rfl) | ((with_reducible apply so_alloc); rfl; (first | (with_reducible rfl) | assumption | exact decide_eq_true (by omega) | (simp only [Bool.not_eq_true', Bool.not_eq_false', decide_eq_false_iff_not, decide_eq_true_eq] <;> first | assumption | omega) | decide); exact tZ rfl; (focus ((repeat (first | (with_reducible exact CopyL.agg) | exact CopyL.nil | (apply CopyL.consI; rfl) | (apply CopyL.consB; rfl) | (apply CopyL.consS; rfl) | (apply CopyL.consP; rfl) | apply CopyL.cons)); done)); (first | exact Nat.le_of_ble_eq_true rfl | decide)) | ((with_reducible apply so_box); rfl; (first | (with_reducible rfl) | assumption | exact decide_eq_true (by omega) | (simp only [Bool.not_eq_true', Bool.not_eq_false', decide_eq_false_iff_not, decide_eq_true_eq] <;> first | assumption | omega) | decide); rfl; (focus ((repeat (first | (with_reducible exact CopyL.agg) | exact CopyL.nil | (apply CopyL.consI; rfl) | (apply CopyL.consB; rfl) | (apply CopyL.consS; rfl) | (apply CopyL.consP; rfl) | apply CopyL.cons)); done)); (first | exact Nat.le_of_ble_eq_true rfl | decide)))
  intro q5
  refine go_ _ ?_
  refine s_loop (ι := Nat × ES × Option Addr × Nat) (fun i => [(2, .int .i64 i.2.1.least), (3, .pointer (some ⟨q3, 0, none⟩)), (4, .pointer (some ⟨q4, 0, none⟩)), (5, .pointer (some ⟨q5, 0, none⟩)), (6, .func (.func 19) #[] #[.pointer (some ⟨q5, 0, none⟩), .pointer (some ⟨q3, 0, none⟩), .pointer (some ⟨q4, 0, none⟩)]), (10, .slice A ws.length cap), (11, .int .i64 (ws.length : Nat)), (12, .int .i64 (i.1 : Nat))])
    (fun i => [own i.2.2.1 i.2.1.row.length i.2.2.2 2 1 (i.2.1.row.map (.int .i64)), row q5 29 [.slice i.2.2.1 i.2.1.row.length i.2.2.2], row q4 4 [.bool i.2.1.far], row q3 2 [.int .i64 i.2.1.great]])
    (fun i => i.1 ≤ ws.length ∧ i.2.1 = (ws.take i.1).foldl extS ⟨true, 0, 0, false, []⟩) (fun i => ws.length - i.1) (0, ⟨true, 0, 0, false, []⟩, none, 0) (by repeat (first | exact Sub.nil | refine Sub.cons rfl ?_ | (refine Sub.consB rfl (by (first | rfl | exact decide_eq_decide.2 (by omega) | exact (decide_eq_true (by omega)).symm | exact (decide_eq_false (by omega)).symm | exact decide_eq_true (by omega) | exact decide_eq_false (by omega))) ?_))) (by repeat (first | exact SubH.refl | exact SubH.nil | ((with_reducible apply SubH.cons); (focus ((repeat (first | (with_reducible exact Pick.here) | (with_reducible apply Pick.there))); done))) | ((with_reducible apply SubH.consR); (focus ((repeat (first | (with_reducible exact Pick.here) | (with_reducible apply Pick.there))); done)); (first | rfl | simp; done)) | ((with_reducible apply SubH.consO); (focus ((repeat (first | (with_reducible exact Pick.here) | (with_reducible apply Pick.there))); done)); (first | rfl | simp; done); (first | rfl | simp; done)) | exact SubH.drop SubH.refl | apply SubH.drop)) ⟨Nat.zero_le _, rfl⟩ ?_
  rintro ⟨k, s, Ar, cr⟩ ⟨hk, hs⟩
  dsimp only at hk hs ⊢
  have hin := ext_in (ws.take k) (fun x hx => hw x (List.mem_of_mem_take hx))
  have hrl := ext_row ws k
  have hfi := ext_first ws k hk
  rw [← hs] at hin hrl hfi
  by_cases hlt : k < ws.length
  · have hstep : (ws.take (k + 1)).foldl extS ⟨true, 0, 0, false, []⟩ = extS s ws[k] := by
      rw [List.take_add_one, List.getElem?_eq_getElem hlt, List.foldl_append, ← hs]; rfl
    obtain ⟨b1, o1, rfl, hr⟩ := hA.at k hlt
    have hxw := hw _ (List.getElem_mem hlt)
    generalize ws[k] = x at *
    obtain ⟨xa, xb, xw, xg, xf⟩ := x
    obtain ⟨sf, sl, sg, sb, sr⟩ := s
    unfold Wg.cells at hr
    dsimp only at hr hxw hfi hrl hin ⊢
    subst hfi
    clear hs hw hA
    refine go_ _ ?_
    (first | ((with_reducible apply so_new); rfl; (first | (with_reducible rfl) | assumption | exact decide_eq_true (by omega) | (simp only [Bool.not_eq_true', Bool.not_eq_false', decide_eq_false_iff_not, decide_eq_true_eq] <;> first | assumption | omega) | decide); exact tZ rfl; (first | exact Nat.le_of_ble_eq_true rfl | decide); (intro; rfl); (first | (with_reducible rfl) | assumption | exact decide_eq_true (by omega) | (simp only [Bool.not_eq_true', Bool.not_eq_false', decide_eq_false_iff_not, decide_eq_true_eq] <;> first | assumption | omega) | decide); (intro; rfl); rfl; exact tS rfl; rfl; rfl) | ((with_reducible apply so_alloc); rfl; (first | (with_reducible rfl) | assumption | exact decide_eq_true (by omega) | (simp only [Bool.not_eq_true', Bool.not_eq_false', decide_eq_false_iff_not, decide_eq_true_eq] <;> first | assumption | omega) | decide); exact tZ rfl; (focus ((repeat (first | (with_reducible exact CopyL.agg) | exact CopyL.nil | (apply CopyL.consI; rfl) | (apply CopyL.consB; rfl) | (apply CopyL.consS; rfl) | (apply CopyL.consP; rfl) | apply CopyL.cons)); done)); (first | exact Nat.le_of_ble_eq_true rfl | decide)) | ((with_reducible apply so_box); rfl; (first | (with_reducible rfl) | assumption | exact decide_eq_true (by omega) | (simp only [Bool.not_eq_true', Bool.not_eq_false', decide_eq_false_iff_not, decide_eq_true_eq] <;> first | assumption | omega) | decide); rfl; (focus ((repeat (first | (with_reducible exact CopyL.agg) | exact CopyL.nil | (apply CopyL.consI; rfl) | (apply CopyL.consB; rfl) | (apply CopyL.consS; rfl) | (apply CopyL.consP; rfl) | apply CopyL.cons)); done)); (first | exact Nat.le_of_ble_eq_true rfl | decide)))
    intro q8
    refine go_ _ ?_
    refine so_storeB rfl (by (first | (with_reducible rfl) | assumption | exact decide_eq_true (by omega) | (simp only [Bool.not_eq_true', Bool.not_eq_false', decide_eq_false_iff_not, decide_eq_true_eq] <;> first | assumption | omega) | decide)) rfl rfl (tS rfl) rfl rfl (by (focus ((repeat (first | (with_reducible exact Upd.here) | (with_reducible apply Upd.there))); done))) (by rfl) ?_
    have hclose : ∀ T w1, Mem w.heap.size w (own Ar sr.length cr 2 1 (sr.map (.int .i64)) :: row q5 29 [.slice Ar sr.length cr] :: row q4 4 [.bool sb] :: row q3 2 [.int .i64 sg] :: T) w1 →
      Calls Try.prog 19 #[.pointer (some ⟨q5, 0, none⟩), .pointer (some ⟨q3, 0, none⟩), .pointer (some ⟨q4, 0, none⟩)] w1 fun e w' => ∃ _ : Unit, True ∧ e = .returned (.tuple #[]) ∧
      Mem w.heap.size w (own Ar sr.length cr 2 1 (sr.map (.int .i64)) :: row q5 29 [.slice Ar sr.length cr] :: row q4 4 [.bool (sb || !decide (sr.sum = cutM sr.sum))] :: row q3 2 [.int .i64 (max sg (cutM sr.sum))] :: T) w' := fun T w1 h1 => close_any sg sb sr Ar cr q3 q4 q5 _ w w1 T hin (by omega) h1
    by_cases h0 : k = 0
    · have he : extS ⟨decide (k = 0), sl, sg, sb, sr⟩ ⟨xa, xb, xw, xg, xf⟩ = ⟨false, xw, max sg (cutM sr.sum), sb || !decide (sr.sum = cutM sr.sum), [xw]⟩ := by
        unfold extS closeM; subst h0; simp
      rw [he] at hstep
      refine go_ _ ?_
      refine so_callFM (us := [.pointer (some ⟨q5, 0, none⟩), .pointer (some ⟨q3, 0, none⟩), .pointer (some ⟨q4, 0, none⟩)]) (vs := []) (v := fun _ : Unit => .tuple #[]) (L := own Ar sr.length cr 2 1 (sr.map (.int .i64)) :: row q5 29 [.slice Ar sr.length cr] :: row q4 4 [.bool sb] :: row q3 2 [.int .i64 sg] :: [row q8 34 [.int .i64 xa, .int .i64 xb, .int .i64 xw, .int .i64 xg, .int .i64 xf]])
        (Hn := fun _ : Unit => own Ar sr.length cr 2 1 (sr.map (.int .i64)) :: row q5 29 [.slice Ar sr.length cr] :: row q4 4 [.bool (sb || !decide (sr.sum = cutM sr.sum))] :: row q3 2 [.int .i64 (max sg (cutM sr.sum))] :: [row q8 34 [.int .i64 xa, .int .i64 xb, .int .i64 xw, .int .i64 xg, .int .i64 xf]]) (I := fun _ => True) rfl (by repeat (first | exact SubH.refl | exact SubH.nil | ((with_reducible apply SubH.cons); (focus ((repeat (first | (with_reducible exact Pick.here) | (with_reducible apply Pick.there))); done))) | ((with_reducible apply SubH.consR); (focus ((repeat (first | (with_reducible exact Pick.here) | (with_reducible apply Pick.there))); done)); (first | rfl | simp; done)) | ((with_reducible apply SubH.consO); (focus ((repeat (first | (with_reducible exact Pick.here) | (with_reducible apply Pick.there))); done)); (first | rfl | simp; done); (first | rfl | simp; done)) | exact SubH.drop SubH.refl | apply SubH.drop)) (hclose [row q8 34 [.int .i64 xa, .int .i64 xb, .int .i64 xw, .int .i64 xg, .int .i64 xf]]) rfl rfl rfl (tF rfl) (Nat.le_of_ble_eq_true rfl) fun _ _ => ?_
      clear hclose
      refine go_ _ ?_
      refine so_lit (vs := [.int .i64 xw]) (sz := 1) (e := 2) rfl (by (first | (with_reducible rfl) | assumption | exact decide_eq_true (by omega) | (simp only [Bool.not_eq_true', Bool.not_eq_false', decide_eq_false_iff_not, decide_eq_true_eq] <;> first | assumption | omega) | decide)) (by repeat (first | exact Parts.nil | ((with_reducible apply Parts.cons); rfl))) (by rfl) (by rfl) (by kernel_rfl) (by simp [Value.cells]) (xs := [.int .i64 xw]) (by repeat (first | exact CopyL.nil | apply CopyL.cons)) (by simp) (by simp) (Nat.le_of_ble_eq_true rfl) fun q9 => ?_
      refine go_ _ ?_
      exact ⟨(k + 1, ⟨false, xw, max sg (cutM sr.sum), sb || !decide (sr.sum = cutM sr.sum), [xw]⟩, some ⟨q9, 0, none⟩, 1), by dsimp only; omega, (by repeat (first | exact Sub.nil | refine Sub.cons rfl ?_ | (refine Sub.consB rfl (by (first | rfl | exact decide_eq_decide.2 (by omega) | exact (decide_eq_true (by omega)).symm | exact (decide_eq_false (by omega)).symm | exact decide_eq_true (by omega) | exact decide_eq_false (by omega))) ?_))), (by repeat (first | exact SubH.refl | exact SubH.nil | ((with_reducible apply SubH.cons); (focus ((repeat (first | (with_reducible exact Pick.here) | (with_reducible apply Pick.there))); done))) | ((with_reducible apply SubH.consR); (focus ((repeat (first | (with_reducible exact Pick.here) | (with_reducible apply Pick.there))); done)); (first | rfl | simp; done)) | ((with_reducible apply SubH.consO); (focus ((repeat (first | (with_reducible exact Pick.here) | (with_reducible apply Pick.there))); done)); (first | rfl | simp; done); (first | rfl | simp; done)) | exact SubH.drop SubH.refl | apply SubH.drop)), by dsimp only; omega, hstep.symm⟩
    · have hL : ∀ L : Int, (if sl < xw then xw else sl) = L → xf ≤ 0 → extS ⟨decide (k = 0), sl, sg, sb, sr⟩ ⟨xa, xb, xw, xg, xf⟩ = ⟨false, L, sg, sb, sr ++ [xg, xw]⟩ := fun L h1 h2 => by
        unfold extS; rw [if_pos ⟨decide_eq_false h0, h2⟩]; dsimp only; rw [h1]
      have hM : ∀ L : Int, (if sl < xw then xw else sl) = L → ¬ xf ≤ 0 → extS ⟨decide (k = 0), sl, sg, sb, sr⟩ ⟨xa, xb, xw, xg, xf⟩ = ⟨false, L, max sg (cutM sr.sum), sb || !decide (sr.sum = cutM sr.sum), [xw]⟩ := fun L h1 h2 => by
        unfold extS closeM; rw [if_neg (fun h => h2 h.2)]; dsimp only; rw [decide_eq_false h0]; simp [← h1]
      by_cases hl : sl < xw
      · rw [if_pos hl] at hL hM
        by_cases hf : xf ≤ 0
        · rw [hL xw rfl hf] at hstep
          clear hL hM hclose
          refine go_ _ ?_
          refine so_lit (vs := [.int .i64 xg, .int .i64 xw]) (sz := 1) (e := 2) rfl (by (first | (with_reducible rfl) | assumption | exact decide_eq_true (by omega) | (simp only [Bool.not_eq_true', Bool.not_eq_false', decide_eq_false_iff_not, decide_eq_true_eq] <;> first | assumption | omega) | decide)) (by repeat (first | exact Parts.nil | ((with_reducible apply Parts.cons); rfl))) (by rfl) (by rfl) (by kernel_rfl) (by simp [Value.cells]) (xs := [.int .i64 xg, .int .i64 xw]) (by repeat (first | exact CopyL.nil | apply CopyL.cons)) (by simp) (by simp) (Nat.le_of_ble_eq_true rfl) fun q9 => ?_
          refine go_ _ ?_
          refine so_appendN (c := aV) (l := [xg, xw]) (e := 2) (sz := 1) (xs := sr.map (.int .i64)) (n' := (sr ++ [xg, xw]).length) (xs' := (sr ++ [xg, xw]).map (.int .i64)) rfl (by (first | (with_reducible rfl) | assumption | exact decide_eq_true (by omega) | (simp only [Bool.not_eq_true', Bool.not_eq_false', decide_eq_false_iff_not, decide_eq_true_eq] <;> first | assumption | omega) | decide)) rfl rfl (by simp) (by simp [aV]) (by kernel_rfl) (Nat.le_of_ble_eq_true rfl) (fun A' cap' => (by (focus ((repeat (first | (with_reducible exact Upd.here) | (with_reducible apply Upd.there))); done)))) (own_rd (c := aV) (l := [xg, xw]) (by decide) (fun _ => rfl)) (by simp) (fun _ => rfl) (fun _ => rfl) (by simp; omega) fun A3 cap3 => ?_
          refine go_ _ ?_
          exact ⟨(k + 1, ⟨false, xw, sg, sb, sr ++ [xg, xw]⟩, A3, cap3), by dsimp only; omega, (by repeat (first | exact Sub.nil | refine Sub.cons rfl ?_ | (refine Sub.consB rfl (by (first | rfl | exact decide_eq_decide.2 (by omega) | exact (decide_eq_true (by omega)).symm | exact (decide_eq_false (by omega)).symm | exact decide_eq_true (by omega) | exact decide_eq_false (by omega))) ?_))), (by repeat (first | exact SubH.refl | exact SubH.nil | ((with_reducible apply SubH.cons); (focus ((repeat (first | (with_reducible exact Pick.here) | (with_reducible apply Pick.there))); done))) | ((with_reducible apply SubH.consR); (focus ((repeat (first | (with_reducible exact Pick.here) | (with_reducible apply Pick.there))); done)); (first | rfl | simp; done)) | ((with_reducible apply SubH.consO); (focus ((repeat (first | (with_reducible exact Pick.here) | (with_reducible apply Pick.there))); done)); (first | rfl | simp; done); (first | rfl | simp; done)) | exact SubH.drop SubH.refl | apply SubH.drop)), by dsimp only; omega, hstep.symm⟩
        · rw [hM xw rfl hf] at hstep
          clear hL hM
          refine go_ _ ?_
          refine so_callFM (us := [.pointer (some ⟨q5, 0, none⟩), .pointer (some ⟨q3, 0, none⟩), .pointer (some ⟨q4, 0, none⟩)]) (vs := []) (v := fun _ : Unit => .tuple #[]) (L := own Ar sr.length cr 2 1 (sr.map (.int .i64)) :: row q5 29 [.slice Ar sr.length cr] :: row q4 4 [.bool sb] :: row q3 2 [.int .i64 sg] :: [row q8 34 [.int .i64 xa, .int .i64 xb, .int .i64 xw, .int .i64 xg, .int .i64 xf]])
            (Hn := fun _ : Unit => own Ar sr.length cr 2 1 (sr.map (.int .i64)) :: row q5 29 [.slice Ar sr.length cr] :: row q4 4 [.bool (sb || !decide (sr.sum = cutM sr.sum))] :: row q3 2 [.int .i64 (max sg (cutM sr.sum))] :: [row q8 34 [.int .i64 xa, .int .i64 xb, .int .i64 xw, .int .i64 xg, .int .i64 xf]]) (I := fun _ => True) rfl (by repeat (first | exact SubH.refl | exact SubH.nil | ((with_reducible apply SubH.cons); (focus ((repeat (first | (with_reducible exact Pick.here) | (with_reducible apply Pick.there))); done))) | ((with_reducible apply SubH.consR); (focus ((repeat (first | (with_reducible exact Pick.here) | (with_reducible apply Pick.there))); done)); (first | rfl | simp; done)) | ((with_reducible apply SubH.consO); (focus ((repeat (first | (with_reducible exact Pick.here) | (with_reducible apply Pick.there))); done)); (first | rfl | simp; done); (first | rfl | simp; done)) | exact SubH.drop SubH.refl | apply SubH.drop)) (hclose [row q8 34 [.int .i64 xa, .int .i64 xb, .int .i64 xw, .int .i64 xg, .int .i64 xf]]) rfl rfl rfl (tF rfl) (Nat.le_of_ble_eq_true rfl) fun _ _ => ?_
          clear hclose
          refine go_ _ ?_
          refine so_lit (vs := [.int .i64 xw]) (sz := 1) (e := 2) rfl (by (first | (with_reducible rfl) | assumption | exact decide_eq_true (by omega) | (simp only [Bool.not_eq_true', Bool.not_eq_false', decide_eq_false_iff_not, decide_eq_true_eq] <;> first | assumption | omega) | decide)) (by repeat (first | exact Parts.nil | ((with_reducible apply Parts.cons); rfl))) (by rfl) (by rfl) (by kernel_rfl) (by simp [Value.cells]) (xs := [.int .i64 xw]) (by repeat (first | exact CopyL.nil | apply CopyL.cons)) (by simp) (by simp) (Nat.le_of_ble_eq_true rfl) fun q9 => ?_
          refine go_ _ ?_
          exact ⟨(k + 1, ⟨false, xw, max sg (cutM sr.sum), sb || !decide (sr.sum = cutM sr.sum), [xw]⟩, some ⟨q9, 0, none⟩, 1), by dsimp only; omega, (by repeat (first | exact Sub.nil | refine Sub.cons rfl ?_ | (refine Sub.consB rfl (by (first | rfl | exact decide_eq_decide.2 (by omega) | exact (decide_eq_true (by omega)).symm | exact (decide_eq_false (by omega)).symm | exact decide_eq_true (by omega) | exact decide_eq_false (by omega))) ?_))), (by repeat (first | exact SubH.refl | exact SubH.nil | ((with_reducible apply SubH.cons); (focus ((repeat (first | (with_reducible exact Pick.here) | (with_reducible apply Pick.there))); done))) | ((with_reducible apply SubH.consR); (focus ((repeat (first | (with_reducible exact Pick.here) | (with_reducible apply Pick.there))); done)); (first | rfl | simp; done)) | ((with_reducible apply SubH.consO); (focus ((repeat (first | (with_reducible exact Pick.here) | (with_reducible apply Pick.there))); done)); (first | rfl | simp; done); (first | rfl | simp; done)) | exact SubH.drop SubH.refl | apply SubH.drop)), by dsimp only; omega, hstep.symm⟩
      · rw [if_neg hl] at hL hM
        by_cases hf : xf ≤ 0
        · rw [hL sl rfl hf] at hstep
          clear hL hM hclose
          refine go_ _ ?_
          refine so_lit (vs := [.int .i64 xg, .int .i64 xw]) (sz := 1) (e := 2) rfl (by (first | (with_reducible rfl) | assumption | exact decide_eq_true (by omega) | (simp only [Bool.not_eq_true', Bool.not_eq_false', decide_eq_false_iff_not, decide_eq_true_eq] <;> first | assumption | omega) | decide)) (by repeat (first | exact Parts.nil | ((with_reducible apply Parts.cons); rfl))) (by rfl) (by rfl) (by kernel_rfl) (by simp [Value.cells]) (xs := [.int .i64 xg, .int .i64 xw]) (by repeat (first | exact CopyL.nil | apply CopyL.cons)) (by simp) (by simp) (Nat.le_of_ble_eq_true rfl) fun q9 => ?_
          refine go_ _ ?_
          refine so_appendN (c := aV) (l := [xg, xw]) (e := 2) (sz := 1) (xs := sr.map (.int .i64)) (n' := (sr ++ [xg, xw]).length) (xs' := (sr ++ [xg, xw]).map (.int .i64)) rfl (by (first | (with_reducible rfl) | assumption | exact decide_eq_true (by omega) | (simp only [Bool.not_eq_true', Bool.not_eq_false', decide_eq_false_iff_not, decide_eq_true_eq] <;> first | assumption | omega) | decide)) rfl rfl (by simp) (by simp [aV]) (by kernel_rfl) (Nat.le_of_ble_eq_true rfl) (fun A' cap' => (by (focus ((repeat (first | (with_reducible exact Upd.here) | (with_reducible apply Upd.there))); done)))) (own_rd (c := aV) (l := [xg, xw]) (by decide) (fun _ => rfl)) (by simp) (fun _ => rfl) (fun _ => rfl) (by simp; omega) fun A3 cap3 => ?_
          refine go_ _ ?_
          exact ⟨(k + 1, ⟨false, sl, sg, sb, sr ++ [xg, xw]⟩, A3, cap3), by dsimp only; omega, (by repeat (first | exact Sub.nil | refine Sub.cons rfl ?_ | (refine Sub.consB rfl (by (first | rfl | exact decide_eq_decide.2 (by omega) | exact (decide_eq_true (by omega)).symm | exact (decide_eq_false (by omega)).symm | exact decide_eq_true (by omega) | exact decide_eq_false (by omega))) ?_))), (by repeat (first | exact SubH.refl | exact SubH.nil | ((with_reducible apply SubH.cons); (focus ((repeat (first | (with_reducible exact Pick.here) | (with_reducible apply Pick.there))); done))) | ((with_reducible apply SubH.consR); (focus ((repeat (first | (with_reducible exact Pick.here) | (with_reducible apply Pick.there))); done)); (first | rfl | simp; done)) | ((with_reducible apply SubH.consO); (focus ((repeat (first | (with_reducible exact Pick.here) | (with_reducible apply Pick.there))); done)); (first | rfl | simp; done); (first | rfl | simp; done)) | exact SubH.drop SubH.refl | apply SubH.drop)), by dsimp only; omega, hstep.symm⟩
        · rw [hM sl rfl hf] at hstep
          clear hL hM
          refine go_ _ ?_
          refine so_callFM (us := [.pointer (some ⟨q5, 0, none⟩), .pointer (some ⟨q3, 0, none⟩), .pointer (some ⟨q4, 0, none⟩)]) (vs := []) (v := fun _ : Unit => .tuple #[]) (L := own Ar sr.length cr 2 1 (sr.map (.int .i64)) :: row q5 29 [.slice Ar sr.length cr] :: row q4 4 [.bool sb] :: row q3 2 [.int .i64 sg] :: [row q8 34 [.int .i64 xa, .int .i64 xb, .int .i64 xw, .int .i64 xg, .int .i64 xf]])
            (Hn := fun _ : Unit => own Ar sr.length cr 2 1 (sr.map (.int .i64)) :: row q5 29 [.slice Ar sr.length cr] :: row q4 4 [.bool (sb || !decide (sr.sum = cutM sr.sum))] :: row q3 2 [.int .i64 (max sg (cutM sr.sum))] :: [row q8 34 [.int .i64 xa, .int .i64 xb, .int .i64 xw, .int .i64 xg, .int .i64 xf]]) (I := fun _ => True) rfl (by repeat (first | exact SubH.refl | exact SubH.nil | ((with_reducible apply SubH.cons); (focus ((repeat (first | (with_reducible exact Pick.here) | (with_reducible apply Pick.there))); done))) | ((with_reducible apply SubH.consR); (focus ((repeat (first | (with_reducible exact Pick.here) | (with_reducible apply Pick.there))); done)); (first | rfl | simp; done)) | ((with_reducible apply SubH.consO); (focus ((repeat (first | (with_reducible exact Pick.here) | (with_reducible apply Pick.there))); done)); (first | rfl | simp; done); (first | rfl | simp; done)) | exact SubH.drop SubH.refl | apply SubH.drop)) (hclose [row q8 34 [.int .i64 xa, .int .i64 xb, .int .i64 xw, .int .i64 xg, .int .i64 xf]]) rfl rfl rfl (tF rfl) (Nat.le_of_ble_eq_true rfl) fun _ _ => ?_
          clear hclose
          refine go_ _ ?_
          refine so_lit (vs := [.int .i64 xw]) (sz := 1) (e := 2) rfl (by (first | (with_reducible rfl) | assumption | exact decide_eq_true (by omega) | (simp only [Bool.not_eq_true', Bool.not_eq_false', decide_eq_false_iff_not, decide_eq_true_eq] <;> first | assumption | omega) | decide)) (by repeat (first | exact Parts.nil | ((with_reducible apply Parts.cons); rfl))) (by rfl) (by rfl) (by kernel_rfl) (by simp [Value.cells]) (xs := [.int .i64 xw]) (by repeat (first | exact CopyL.nil | apply CopyL.cons)) (by simp) (by simp) (Nat.le_of_ble_eq_true rfl) fun q9 => ?_
          refine go_ _ ?_
          exact ⟨(k + 1, ⟨false, sl, max sg (cutM sr.sum), sb || !decide (sr.sum = cutM sr.sum), [xw]⟩, some ⟨q9, 0, none⟩, 1), by dsimp only; omega, (by repeat (first | exact Sub.nil | refine Sub.cons rfl ?_ | (refine Sub.consB rfl (by (first | rfl | exact decide_eq_decide.2 (by omega) | exact (decide_eq_true (by omega)).symm | exact (decide_eq_false (by omega)).symm | exact decide_eq_true (by omega) | exact decide_eq_false (by omega))) ?_))), (by repeat (first | exact SubH.refl | exact SubH.nil | ((with_reducible apply SubH.cons); (focus ((repeat (first | (with_reducible exact Pick.here) | (with_reducible apply Pick.there))); done))) | ((with_reducible apply SubH.consR); (focus ((repeat (first | (with_reducible exact Pick.here) | (with_reducible apply Pick.there))); done)); (first | rfl | simp; done)) | ((with_reducible apply SubH.consO); (focus ((repeat (first | (with_reducible exact Pick.here) | (with_reducible apply Pick.there))); done)); (first | rfl | simp; done); (first | rfl | simp; done)) | exact SubH.drop SubH.refl | apply SubH.drop)), by dsimp only; omega, hstep.symm⟩
  · obtain rfl : k = ws.length := by omega
    rw [List.take_length] at hs
    have he : extM ws = closeM s := by unfold extM; rw [hs]
    rw [he]
    clear he hs hfi
    obtain ⟨sf, sl, sg, sb, sr⟩ := s
    unfold closeM
    dsimp only at hin hrl ⊢
    have hclose : ∀ T w1, Mem w.heap.size w (own Ar sr.length cr 2 1 (sr.map (.int .i64)) :: row q5 29 [.slice Ar sr.length cr] :: row q4 4 [.bool sb] :: row q3 2 [.int .i64 sg] :: T) w1 →
      Calls Try.prog 19 #[.pointer (some ⟨q5, 0, none⟩), .pointer (some ⟨q3, 0, none⟩), .pointer (some ⟨q4, 0, none⟩)] w1 fun e w' => ∃ _ : Unit, True ∧ e = .returned (.tuple #[]) ∧
      Mem w.heap.size w (own Ar sr.length cr 2 1 (sr.map (.int .i64)) :: row q5 29 [.slice Ar sr.length cr] :: row q4 4 [.bool (sb || !decide (sr.sum = cutM sr.sum))] :: row q3 2 [.int .i64 (max sg (cutM sr.sum))] :: T) w' := fun T w1 h1 => close_any sg sb sr Ar cr q3 q4 q5 _ w w1 T hin (by omega) h1
    refine go_ _ ?_
    refine so_callFM (us := [.pointer (some ⟨q5, 0, none⟩), .pointer (some ⟨q3, 0, none⟩), .pointer (some ⟨q4, 0, none⟩)]) (vs := []) (v := fun _ : Unit => .tuple #[]) (L := own Ar sr.length cr 2 1 (sr.map (.int .i64)) :: row q5 29 [.slice Ar sr.length cr] :: row q4 4 [.bool sb] :: row q3 2 [.int .i64 sg] :: [])
      (Hn := fun _ : Unit => own Ar sr.length cr 2 1 (sr.map (.int .i64)) :: row q5 29 [.slice Ar sr.length cr] :: row q4 4 [.bool (sb || !decide (sr.sum = cutM sr.sum))] :: row q3 2 [.int .i64 (max sg (cutM sr.sum))] :: []) (I := fun _ => True) rfl .refl (hclose []) rfl rfl rfl (tF rfl) (Nat.le_of_ble_eq_true rfl) fun _ _ => ?_
    clear hclose
    generalize (sb || !decide (sr.sum = cutM sr.sum)) = fb
    generalize max sg (cutM sr.sum) = gg
    refine go_ _ ?_
    refine s_parts (by kernel_rfl) ?_
    refine sg_mix 5 [4] (fun _ => [own Ar sr.length cr 2 1 (sr.map (.int .i64)), row q5 29 [.slice Ar sr.length cr], row q4 4 [.bool fb], row q3 2 [.int .i64 gg]]) (by kernel_rfl) (by decide) rfl rfl (go_ _ ?_)
    refine sg_one (by kernel_rfl) ?_
    refine go_ _ ?_
    refine sretTCC rfl rfl rfl rfl (tA rfl) (tA rfl) ?_ ?_ rfl
    · exact cl_there (cl_there (cl_there (cl_here rfl)))
    · exact cl_there (cl_there (cl_here rfl))
end Go.Proofs.Ytkdjlaejbimchaa
