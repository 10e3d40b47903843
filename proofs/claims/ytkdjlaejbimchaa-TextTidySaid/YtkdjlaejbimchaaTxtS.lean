/- The walk of Same over equal words; what bounds words. -/
import Derived.Test.YtkdjlaejbimchaaTxtJ
namespace Go.Proofs.Ytkdjlaejbimchaa
open Go.RowKit

theorem so_sub {rd : Option Nat} {P : Program} {N : Nx} {B : Nat} {w0 : World} {F G : Fr} {H L : Hp} {ops : Array Oper} {l : List Oper} {K : Fr → Hp → Prop} (hs : Sub F G) (hh : SubH H L) (h : SO rd P N B w0 ops l G L K) : SO rd P N B w0 ops l F H K := fun w hw a ha => h w (hw.sub hh) a (ha.sub hs)
theorem so_ownCap {rd : Option Nat} {P : Program} {N : Nx} {B : Nat} {w0 : World} {F : Fr} {H R : Hp} {ops : Array Oper} {K : Fr → Hp → Prop} {A : Option Addr} {n cap sz : Nat} {t : TypeId} {cs : List Value} {l : List Oper} (hp : Pick H (own A n cap t sz cs) R) (h : n ≤ cap → SO rd P N B w0 ops l F H K) : SO rd P N B w0 ops l F H K := fun w hw => h (hw.ownCap hp) w hw
theorem eqC_refl (x : Wg) : (!eqCells x.cells x.cells) = false := by simp [Wg.cells, eqCells, eqv]

set_option maxRecDepth 100000 in
set_option maxHeartbeats 1000000 in
theorem same_any (l : List Wg) (A A' : Option Addr) (c c' : Nat) (hlen : l.length ≤ 4294967296) (w : World) (hA : Rd w Wg.cells 5 A l) (hA' : Rd w Wg.cells 5 A' l) :
    Calls Try.prog 11 #[.slice A l.length c, .slice A' l.length c'] w fun e w' => e = .returned (.bool true) ∧ Below w.heap.size w w' := by
  refine s_quiet [(0, .slice A l.length c), (1, .slice A' l.length c')] Try.func11 rfl Try.ntmps11 rfl (by simp) ?_
  refine go_ _ ?_
  refine s_loop (ι := Nat) (fun k => [(0, .slice A l.length c), (1, .slice A' l.length c'), (5, .int .i64 (k : Nat))]) (fun _ => []) (fun k => k ≤ l.length) (fun k => l.length - k) 0 (by repeat (first | exact Sub.nil | refine Sub.cons rfl ?_ | (refine Sub.consB rfl (by (first | rfl | exact decide_eq_decide.2 (by omega) | exact (decide_eq_true (by omega)).symm | exact (decide_eq_false (by omega)).symm | exact decide_eq_true (by omega) | exact decide_eq_false (by omega))) ?_))) (by repeat (first | exact SubH.refl | exact SubH.nil | ((with_reducible apply SubH.cons); (focus ((repeat (first | (with_reducible exact Pick.here) | (with_reducible apply Pick.there))); done))) | ((with_reducible apply SubH.consR); (focus ((repeat (first | (with_reducible exact Pick.here) | (with_reducible apply Pick.there))); done)); (first | rfl | simp; done)) | ((with_reducible apply SubH.consO); (focus ((repeat (first | (with_reducible exact Pick.here) | (with_reducible apply Pick.there))); done)); (first | rfl | simp; done); (first | rfl | simp; done)) | exact SubH.drop SubH.refl | apply SubH.drop)) (Nat.zero_le _) ?_
  rintro k hk
  by_cases hlt : k < l.length
  · obtain ⟨b1, o1, rfl, hr⟩ := hA.at k hlt
    obtain ⟨b2, o2, rfl, hr2⟩ := hA'.at k hlt
    have he := eqC_refl l[k]
    generalize l[k] = x at *
    obtain ⟨xa, xb, xw, xg, xf⟩ := x
    unfold Wg.cells at hr hr2 he
    dsimp only at hr hr2 he
    refine go_ _ ?_
    refine s_parts (by kernel_rfl) ?_
    refine sg_free 9 (by kernel_rfl) (go_ _ ?_)
    exact ⟨k + 1, by omega, (by repeat (first | exact Sub.nil | refine Sub.cons rfl ?_ | (refine Sub.consB rfl (by (first | rfl | exact decide_eq_decide.2 (by omega) | exact (decide_eq_true (by omega)).symm | exact (decide_eq_false (by omega)).symm | exact decide_eq_true (by omega) | exact decide_eq_false (by omega))) ?_))), .refl, by omega⟩
  · obtain rfl : k = l.length := by omega
    refine go_ _ ?_
    exact sret1 rfl rfl rfl

/-- Words lie in their text. -/
theorem wh_in (us : List Int) : ∀ (ws : List Wd) (at_ i : Nat), Wh us at_ i ws → at_ ≤ us.length → ∀ x ∈ ws, x.a < x.b ∧ x.b ≤ us.length ∧ -1 ≤ x.forced ∧ x.forced ≤ us.length := by
  intro ws
  induction ws with
  | nil => intro _ _ _ _ x hx; cases hx
  | cons w ws ih =>
    intro at_ i h hat x hx
    unfold Wh at h
    obtain ⟨h1, h2, h3, h4, h5, h6, h7⟩ := h
    rcases List.mem_cons.1 hx with rfl | hx
    · refine ⟨h3, h4, ?_⟩
      rw [← h5]
      have hc := List.countP_le_length (p := fun x : Int => x == 10) (l := (us.take x.a).drop at_)
      simp only [List.length_drop, List.length_take] at hc
      by_cases h : ((us.take x.a).drop at_).all btw = true
      · unfold endsL; rw [if_pos h]; omega
      · unfold endsL; rw [if_neg h]; omega
    · exact ih _ _ h7 h4 x hx
theorem words_in (av us : List Int) : ∀ x ∈ (wordsS av us).ws, x.a < x.b ∧ x.b ≤ us.length ∧ -1 ≤ x.forced ∧ x.forced ≤ us.length := wh_in us _ 0 0 (words_whole av us) (Nat.zero_le _)
theorem words_len (av us : List Int) : (wordsS av us).ws.length ≤ us.length := by
  have e1 := strM_len us _ 0 rfl
  rw [List.drop_zero] at e1
  have e2 := wordS_len av us (strM 0 us) ⟨[], 0, 0, false⟩
  unfold wordsS
  simp at e2
  omega
theorem shL_at (s : Nat) (d : Int) (ws : List Wd) (i : Nat) (h : i < ws.length) : (shL s d ws)[i]? = some (ws[i].sh s (if i = 0 then d else 0)) := by
  cases ws with
  | nil => simp at h
  | cons w ws =>
    cases i with
    | zero => simp [shL]
    | succ i =>
      have h' : i < ws.length := by simpa using h
      simp [shL, List.getElem?_eq_getElem h']
theorem shL_len (s : Nat) (d : Int) (ws : List Wd) : (shL s d ws).length = ws.length := by cases ws <;> simp [shL]
theorem join_at (s : Nat) (d : Int) (l ws : List Wd) (i : Nat) (h : i < ws.length) : ∃ h' : l.length + i < (l ++ shL s d ws).length, (l ++ shL s d ws)[l.length + i] = ws[i].sh s (if i = 0 then d else 0) := by
  have h' : l.length + i < (l ++ shL s d ws).length := by rw [List.length_append, shL_len]; omega
  refine ⟨h', ?_⟩
  have := shL_at s d ws i h
  rw [List.getElem_append_right (by omega)]
  have hx := List.getElem?_eq_some_iff.1 this
  obtain ⟨h1, h2⟩ := hx
  rw [← h2]
  congr 1
  omega
end Go.Proofs.Ytkdjlaejbimchaa
