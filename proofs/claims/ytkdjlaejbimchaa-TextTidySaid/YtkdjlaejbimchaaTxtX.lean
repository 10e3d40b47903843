/- The words of a text, and the walk of Words. -/
import Derived.Test.YtkdjlaejbimchaaTxtV
namespace Go.Proofs.Ytkdjlaejbimchaa
open Go.RowKit

structure Wd where
  a : Nat
  b : Nat
  w : Int
  gap : Int
  forced : Int
def Wd.cells (x : Wd) : List Value := [.int .i64 (x.a : Nat), .int .i64 (x.b : Nat), .int .i64 x.w, .int .i64 x.gap, .int .i64 x.forced]
structure WS where
  ws : List Wd
  gap : Int
  forced : Int
  far : Bool
def segM (us : List Int) (x : Str) : List Int := (us.take x.b).drop x.a
def wordS (av us : List Int) (s : WS) (x : Str) : WS :=
  if x.word then ⟨s.ws ++ [⟨x.a, x.b, cutM (wideM av (segM us x)), s.gap, s.forced⟩], 0, 0, s.far || !decide (wideM av (segM us x) = cutM (wideM av (segM us x)))⟩
  else if (endsM (segM us x)).1 = 0 ∧ (endsM (segM us x)).2 = true ∧ 0 < s.ws.length then ⟨s.ws, cutM (advM av 32), (endsM (segM us x)).1, s.far || (!decide (advM av 32 = cutM (advM av 32)) && decide (x.b < us.length))⟩
  else ⟨s.ws, s.gap, (endsM (segM us x)).1, s.far⟩
def wordsS (av us : List Int) : WS := (strM 0 us).foldl (wordS av us) ⟨[], 0, 0, false⟩

/-- Each stretch lies in the text. -/
theorem strM_in (us : List Int) : ∀ n k, us.length - k = n → ∀ s ∈ strM k (us.drop k), s.a ≤ s.b ∧ s.b ≤ us.length := by
  intro n
  induction n using Nat.strongRecOn with
  | ind n ih =>
    intro k hk s hs
    by_cases hl : k < us.length
    · have h1 := strM_step us k hl
      have hb := runLen_bound us k (btw us[k]) (by omega)
      have h2 := runLen_at us k (btw us[k]) hl
      rw [if_pos rfl] at h2
      rw [h1] at hs
      rcases List.mem_cons.1 hs with rfl | hs
      · dsimp only; omega
      · exact ih (us.length - (k + runLen (btw us[k]) (us.drop k))) (by omega) _ rfl s hs
    · rw [List.drop_of_length_le (by omega)] at hs
      simp [strM] at hs

theorem strM_len (us : List Int) : ∀ n k, us.length - k = n → (strM k (us.drop k)).length ≤ us.length - k := by
  intro n
  induction n using Nat.strongRecOn with
  | ind n ih =>
    intro k hk
    by_cases hl : k < us.length
    · have h1 := strM_step us k hl
      have hb := runLen_bound us k (btw us[k]) (by omega)
      have h2 := runLen_at us k (btw us[k]) hl
      rw [if_pos rfl] at h2
      rw [h1]
      have := ih (us.length - (k + runLen (btw us[k]) (us.drop k))) (by omega) _ rfl
      simp only [List.length_cons]
      omega
    · rw [List.drop_of_length_le (by omega)]
      simp [strM]
theorem wordS_len (av us : List Int) : ∀ (l : List Str) (s : WS), (l.foldl (wordS av us) s).ws.length ≤ s.ws.length + l.length := by
  intro l
  induction l with
  | nil => intro s; simp
  | cons x l ih =>
    intro s
    rw [List.foldl_cons]
    have := ih (wordS av us s x)
    have h1 : (wordS av us s x).ws.length ≤ s.ws.length + 1 := by
      unfold wordS; split
      · simp
      · split <;> simp
    simp only [List.length_cons]
    omega

def wordsJ (av us : List Int) (A2 A3 : Option Addr) (c2 c3 q2 q3 q4 q5 q6 : Nat) (pre : List Str) (R : Hp) : Prop :=
  ∃ s A cap, s = pre.foldl (wordS av us) ⟨[], 0, 0, false⟩ ∧ R = [row q6 34 [.int .i64 0, .int .i64 0, .int .i64 0, .int .i64 s.gap, .int .i64 s.forced], row q5 4 [.bool s.far], row q4 22 [.slice A s.ws.length cap],
    own A s.ws.length cap 34 5 (s.ws.flatMap Wd.cells), row q3 29 [.slice A3 av.length c3], row q2 28 [.slice A2 us.length c2]]

set_option maxRecDepth 100000 in
set_option maxHeartbeats 1000000 in
theorem words_any (us av : List Int) (A2 A3 : Option Addr) (c2 c3 : Nat) (hu : UB us) (ha : AB av) (hlen : us.length ≤ 4294967295) (hc2 : us.length ≤ c2) (w : World) (h2 : Rd w uV 1 A2 us) (h3 : Rd w aV 1 A3 av) :
    Calls Try.prog 13 #[.slice A2 us.length c2, .slice A3 av.length c3] w fun e w' => ∃ i : Option Addr × Nat, True ∧ e = .returned (.tuple #[.slice i.1 (wordsS av us).ws.length i.2, .bool (wordsS av us).far]) ∧ Mem w.heap.size w [own i.1 (wordsS av us).ws.length i.2 34 5 ((wordsS av us).ws.flatMap Wd.cells)] w' := by
  refine s_callsN [(0, .slice A2 us.length c2), (1, .slice A3 av.length c3)] (fun i : Option Addr × Nat => .tuple #[.slice i.1 (wordsS av us).ws.length i.2, .bool (wordsS av us).far]) (fun i => [own i.1 (wordsS av us).ws.length i.2 34 5 ((wordsS av us).ws.flatMap Wd.cells)]) (fun _ => True) Try.func13 rfl Try.ntmps13 rfl (by simp) ?_
  have H2 : ∀ H, RdH w.heap.size w H uV 1 A2 us := fun _ => h2.base rfl
  have H3 : ∀ H, RdH w.heap.size w H aV 1 A3 av := fun _ => h3.base rfl
  refine go_ _ ?_
  (first | ((with_reducible apply so_new); rfl; (first | (with_reducible rfl) | assumption | exact decide_eq_true (by omega) | (simp only [Bool.not_eq_true', Bool.not_eq_false', decide_eq_false_iff_not, decide_eq_true_eq] <;> first | assumption | omega) | decide); exact tZ rfl; (first | exact Nat.le_of_ble_eq_true rfl | decide); (intro; rfl); (first | (with_reducible rfl) | assumption | exact decide_eq_true (by omega) | (simp only [Bool.not_eq_true', Bool.not_eq_false', decide_eq_false_iff_not, decide_eq_true_eq] <;> first | assumption | omega) | decide); (intro; rfl); rfl; exact tS rfl; rfl; rfl) | ((with_reducible apply so_alloc); rfl; (first | (with_reducible rfl) | assumption | exact decide_eq_true (by omega) | (simp only [Bool.not_eq_true', Bool.not_eq_false', decide_eq_false_iff_not, decide_eq_true_eq] <;> first | assumption | omega) | decide); exact tZ rfl; (focus ((repeat (first | (with_reducible exact CopyL.agg) | exact CopyL.nil | (apply CopyL.consI; rfl) | (apply CopyL.consB; rfl) | (apply CopyL.consS; rfl) | (apply CopyL.consP; rfl) | apply CopyL.cons)); done)); (first | exact Nat.le_of_ble_eq_true rfl | decide)) | ((with_reducible apply so_box); rfl; (first | (with_reducible rfl) | assumption | exact decide_eq_true (by omega) | (simp only [Bool.not_eq_true', Bool.not_eq_false', decide_eq_false_iff_not, decide_eq_true_eq] <;> first | assumption | omega) | decide); rfl; (focus ((repeat (first | (with_reducible exact CopyL.agg) | exact CopyL.nil | (apply CopyL.consI; rfl) | (apply CopyL.consB; rfl) | (apply CopyL.consS; rfl) | (apply CopyL.consP; rfl) | apply CopyL.cons)); done)); (first | exact Nat.le_of_ble_eq_true rfl | decide)))
  intro q2
  refine go_ _ ?_
  (first | ((with_reducible apply so_new); rfl; (first | (with_reducible rfl) | assumption | exact decide_eq_true (by omega) | (simp only [Bool.not_eq_true', Bool.not_eq_false', decide_eq_false_iff_not, decide_eq_true_eq] <;> first | assumption | omega) | decide); exact tZ rfl; (first | exact Nat.le_of_ble_eq_true rfl | decide); (intro; rfl); (first | (with_reducible rfl) | assumption | exact decide_eq_true (by omega) | (simp only [Bool.not_eq_true', Bool.not_eq_false', decide_eq_false_iff_not, decide_eq_true_eq] <;> first | assumption | omega) | decide); (intro; rfl); rfl; exact tS rfl; rfl; rfl) | ((with_reducible apply so_alloc); rfl; (first | (with_reducible rfl) | assumption | exact decide_eq_true (by omega) | (simp only [Bool.not_eq_true', Bool.not_eq_false', decide_eq_false_iff_not, decide_eq_true_eq] <;> first | assumption | omega) | decide); exact tZ rfl; (focus ((repeat (first | (with_reducible exact CopyL.agg) | exact CopyL.nil | (apply CopyL.consI; rfl) | (apply CopyL.consB; rfl) | (apply CopyL.consS; rfl) | (apply CopyL.consP; rfl) | apply CopyL.cons)); done)); (first | exact Nat.le_of_ble_eq_true rfl | decide)) | ((with_reducible apply so_box); rfl; (first | (with_reducible rfl) | assumption | exact decide_eq_true (by omega) | (simp only [Bool.not_eq_true', Bool.not_eq_false', decide_eq_false_iff_not, decide_eq_true_eq] <;> first | assumption | omega) | decide); rfl; (focus ((repeat (first | (with_reducible exact CopyL.agg) | exact CopyL.nil | (apply CopyL.consI; rfl) | (apply CopyL.consB; rfl) | (apply CopyL.consS; rfl) | (apply CopyL.consP; rfl) | apply CopyL.cons)); done)); (first | exact Nat.le_of_ble_eq_true rfl | decide)))
  intro q3
  refine go_ _ ?_
  (first | ((with_reducible apply so_new); rfl; (first | (with_reducible rfl) | assumption | exact decide_eq_true (by omega) | (simp only [Bool.not_eq_true', Bool.not_eq_false', decide_eq_false_iff_not, decide_eq_true_eq] <;> first | assumption | omega) | decide); exact tZ rfl; (first | exact Nat.le_of_ble_eq_true rfl | decide); (intro; rfl); (first | (with_reducible rfl) | assumption | exact decide_eq_true (by omega) | (simp only [Bool.not_eq_true', Bool.not_eq_false', decide_eq_false_iff_not, decide_eq_true_eq] <;> first | assumption | omega) | decide); (intro; rfl); rfl; exact tS rfl; rfl; rfl) | ((with_reducible apply so_alloc); rfl; (first | (with_reducible rfl) | assumption | exact decide_eq_true (by omega) | (simp only [Bool.not_eq_true', Bool.not_eq_false', decide_eq_false_iff_not, decide_eq_true_eq] <;> first | assumption | omega) | decide); exact tZ rfl; (focus ((repeat (first | (with_reducible exact CopyL.agg) | exact CopyL.nil | (apply CopyL.consI; rfl) | (apply CopyL.consB; rfl) | (apply CopyL.consS; rfl) | (apply CopyL.consP; rfl) | apply CopyL.cons)); done)); (first | exact Nat.le_of_ble_eq_true rfl | decide)) | ((with_reducible apply so_box); rfl; (first | (with_reducible rfl) | assumption | exact decide_eq_true (by omega) | (simp only [Bool.not_eq_true', Bool.not_eq_false', decide_eq_false_iff_not, decide_eq_true_eq] <;> first | assumption | omega) | decide); rfl; (focus ((repeat (first | (with_reducible exact CopyL.agg) | exact CopyL.nil | (apply CopyL.consI; rfl) | (apply CopyL.consB; rfl) | (apply CopyL.consS; rfl) | (apply CopyL.consP; rfl) | apply CopyL.cons)); done)); (first | exact Nat.le_of_ble_eq_true rfl | decide)))
  intro q4
  refine go_ _ ?_
  (first | ((with_reducible apply so_new); rfl; (first | (with_reducible rfl) | assumption | exact decide_eq_true (by omega) | (simp only [Bool.not_eq_true', Bool.not_eq_false', decide_eq_false_iff_not, decide_eq_true_eq] <;> first | assumption | omega) | decide); exact tZ rfl; (first | exact Nat.le_of_ble_eq_true rfl | decide); (intro; rfl); (first | (with_reducible rfl) | assumption | exact decide_eq_true (by omega) | (simp only [Bool.not_eq_true', Bool.not_eq_false', decide_eq_false_iff_not, decide_eq_true_eq] <;> first | assumption | omega) | decide); (intro; rfl); rfl; exact tS rfl; rfl; rfl) | ((with_reducible apply so_alloc); rfl; (first | (with_reducible rfl) | assumption | exact decide_eq_true (by omega) | (simp only [Bool.not_eq_true', Bool.not_eq_false', decide_eq_false_iff_not, decide_eq_true_eq] <;> first | assumption | omega) | decide); exact tZ rfl; (focus ((repeat (first | (with_reducible exact CopyL.agg) | exact CopyL.nil | (apply CopyL.consI; rfl) | (apply CopyL.consB; rfl) | (apply CopyL.consS; rfl) | (apply CopyL.consP; rfl) | apply CopyL.cons)); done)); (first | exact Nat.le_of_ble_eq_true rfl | decide)) | ((with_reducible apply so_box); rfl; (first | (with_reducible rfl) | assumption | exact decide_eq_true (by omega) | (simp only [Bool.not_eq_true', Bool.not_eq_false', decide_eq_false_iff_not, decide_eq_true_eq] <;> first | assumption | omega) | decide); rfl; (focus ((repeat (first | (with_reducible exact CopyL.agg) | exact CopyL.nil | (apply CopyL.consI; rfl) | (apply CopyL.consB; rfl) | (apply CopyL.consS; rfl) | (apply CopyL.consP; rfl) | apply CopyL.cons)); done)); (first | exact Nat.le_of_ble_eq_true rfl | decide)))
  intro q5
  refine go_ _ ?_
  (first | ((with_reducible apply so_new); rfl; (first | (with_reducible rfl) | assumption | exact decide_eq_true (by omega) | (simp only [Bool.not_eq_true', Bool.not_eq_false', decide_eq_false_iff_not, decide_eq_true_eq] <;> first | assumption | omega) | decide); exact tZ rfl; (first | exact Nat.le_of_ble_eq_true rfl | decide); (intro; rfl); (first | (with_reducible rfl) | assumption | exact decide_eq_true (by omega) | (simp only [Bool.not_eq_true', Bool.not_eq_false', decide_eq_false_iff_not, decide_eq_true_eq] <;> first | assumption | omega) | decide); (intro; rfl); rfl; exact tS rfl; rfl; rfl) | ((with_reducible apply so_alloc); rfl; (first | (with_reducible rfl) | assumption | exact decide_eq_true (by omega) | (simp only [Bool.not_eq_true', Bool.not_eq_false', decide_eq_false_iff_not, decide_eq_true_eq] <;> first | assumption | omega) | decide); exact tZ rfl; (focus ((repeat (first | (with_reducible exact CopyL.agg) | exact CopyL.nil | (apply CopyL.consI; rfl) | (apply CopyL.consB; rfl) | (apply CopyL.consS; rfl) | (apply CopyL.consP; rfl) | apply CopyL.cons)); done)); (first | exact Nat.le_of_ble_eq_true rfl | decide)) | ((with_reducible apply so_box); rfl; (first | (with_reducible rfl) | assumption | exact decide_eq_true (by omega) | (simp only [Bool.not_eq_true', Bool.not_eq_false', decide_eq_false_iff_not, decide_eq_true_eq] <;> first | assumption | omega) | decide); rfl; (focus ((repeat (first | (with_reducible exact CopyL.agg) | exact CopyL.nil | (apply CopyL.consI; rfl) | (apply CopyL.consB; rfl) | (apply CopyL.consS; rfl) | (apply CopyL.consP; rfl) | apply CopyL.cons)); done)); (first | exact Nat.le_of_ble_eq_true rfl | decide)))
  intro q6
  refine so_nil ?_
  refine thenH_n ?_
  refine sq_start ?_
  refine sq_seq ?_
  refine go_ _ ?_
  refine so_callN (fun w1 _ => stretches_any A2 us.length c2 w1) rfl rfl rfl (tF rfl) (Nat.le_of_ble_eq_true rfl) ?_
  intro q _
  refine so_ownNil 34 5 ?_
  refine go_ _ ?_
  refine sq_rangeB (ps := [16]) (strM 0 us) (fun s : Str => [.agg s.cells.toArray]) [row q 28 [.slice A2 us.length c2]]
    [row q6 34 [.int .i64 0, .int .i64 0, .int .i64 0, .int .i64 0, .int .i64 0], row q5 4 [.bool false], row q4 22 [.slice none 0 0],
    own none 0 0 34 5 [], row q3 29 [.slice A3 av.length c3], row q2 28 [.slice A2 us.length c2]]
    (wordsJ av us A2 A3 c2 c3 q2 q3 q4 q5 q6) rfl (tF rfl) rfl (fun _ => rfl) (by decide) (fun p hp => by simp at hp; subst hp; exact Nat.le_of_ble_eq_true rfl)
    (by simp only [List.cons_append, List.nil_append]; exact (by repeat (first | exact SubH.refl | exact SubH.nil | ((with_reducible apply SubH.cons); (focus ((repeat (first | (with_reducible exact Pick.here) | (with_reducible apply Pick.there))); done))) | ((with_reducible apply SubH.consR); (focus ((repeat (first | (with_reducible exact Pick.here) | (with_reducible apply Pick.there))); done)); (first | rfl | simp; done)) | ((with_reducible apply SubH.consO); (focus ((repeat (first | (with_reducible exact Pick.here) | (with_reducible apply Pick.there))); done)); (first | rfl | simp; done); (first | rfl | simp; done)) | exact SubH.drop SubH.refl | apply SubH.drop))) ⟨⟨[], 0, 0, false⟩, none, 0, rfl, rfl⟩ (stretches_iter us A2 c2 q hu hlen) (fun W1 h1 => (H2 []).rebase h1 []) ?_ ?_
  · rintro L W1 pre x R T h1 hpx ⟨s, A, cap, hs, rfl⟩
    have hxin : x.a ≤ x.b ∧ x.b ≤ us.length := by
      obtain ⟨suf, e⟩ := hpx
      exact strM_in us _ 0 rfl x (by rw [List.drop_zero, e]; simp)
    have hfold : (pre ++ [x]).foldl (wordS av us) ⟨[], 0, 0, false⟩ = wordS av us s x := by rw [List.foldl_append, ← hs]; rfl
    have G2 : ∀ H, RdH w.heap.size W1 H uV 1 A2 us := fun _ => (H2 []).rebase h1 _
    have G3 : ∀ H, RdH w.heap.size W1 H aV 1 A3 av := fun _ => (H3 []).rebase h1 _
    obtain ⟨xa, xb, xw⟩ := x
    unfold Str.cells
    dsimp only at hxin ⊢
    simp only [List.zip_cons_cons, List.zip_nil_left, List.cons_append, List.nil_append]
    refine go_ _ ?_
    (first | ((with_reducible apply so_new); rfl; (first | (with_reducible rfl) | assumption | exact decide_eq_true (by omega) | (simp only [Bool.not_eq_true', Bool.not_eq_false', decide_eq_false_iff_not, decide_eq_true_eq] <;> first | assumption | omega) | decide); exact tZ rfl; (first | exact Nat.le_of_ble_eq_true rfl | decide); (intro; rfl); (first | (with_reducible rfl) | assumption | exact decide_eq_true (by omega) | (simp only [Bool.not_eq_true', Bool.not_eq_false', decide_eq_false_iff_not, decide_eq_true_eq] <;> first | assumption | omega) | decide); (intro; rfl); rfl; exact tS rfl; rfl; rfl) | ((with_reducible apply so_alloc); rfl; (first | (with_reducible rfl) | assumption | exact decide_eq_true (by omega) | (simp only [Bool.not_eq_true', Bool.not_eq_false', decide_eq_false_iff_not, decide_eq_true_eq] <;> first | assumption | omega) | decide); exact tZ rfl; (focus ((repeat (first | (with_reducible exact CopyL.agg) | exact CopyL.nil | (apply CopyL.consI; rfl) | (apply CopyL.consB; rfl) | (apply CopyL.consS; rfl) | (apply CopyL.consP; rfl) | apply CopyL.cons)); done)); (first | exact Nat.le_of_ble_eq_true rfl | decide)) | ((with_reducible apply so_box); rfl; (first | (with_reducible rfl) | assumption | exact decide_eq_true (by omega) | (simp only [Bool.not_eq_true', Bool.not_eq_false', decide_eq_false_iff_not, decide_eq_true_eq] <;> first | assumption | omega) | decide); rfl; (focus ((repeat (first | (with_reducible exact CopyL.agg) | exact CopyL.nil | (apply CopyL.consI; rfl) | (apply CopyL.consB; rfl) | (apply CopyL.consS; rfl) | (apply CopyL.consP; rfl) | apply CopyL.cons)); done)); (first | exact Nat.le_of_ble_eq_true rfl | decide)))
    intro q7
    refine go_ _ ?_
    refine ⟨rfl, _ :: _ :: _ :: _ :: _ :: _ :: _ :: [], .refl, fun T' => ?_⟩
    simp only [List.cons_append, List.nil_append]
    obtain ⟨ws, gap, forced, far⟩ := s
    have hsegl : (segM us ⟨xa, xb, xw⟩).length = xb - xa := by unfold segM; simp only [List.length_drop, List.length_take]; omega
    have hsegr : ∀ H w1, Mem w.heap.size W1 H w1 → Rd w1 uV 1 (subA A2 xa 1 c2) (segM us ⟨xa, xb, xw⟩) := fun H w1 hm => (G2 H w1 hm).part xa xb c2 hc2
    have hub : UB (segM us ⟨xa, xb, xw⟩) := fun y hy => hu y (List.mem_of_mem_take (List.mem_of_mem_drop hy))
    dsimp only
    cases xw
    · skip
      refine go_ _ ?_
      refine so_pure rfl (by (first | (with_reducible rfl) | assumption | exact decide_eq_true (by omega) | (simp only [Bool.not_eq_true', Bool.not_eq_false', decide_eq_false_iff_not, decide_eq_true_eq] <;> first | assumption | omega) | decide)) rfl (Nat.le_of_ble_eq_true rfl) (ps_slice (lo := xa) (hi := xb) rfl ⟨_, _, rfl, rfl⟩ ⟨_, _, rfl, rfl⟩ hxin.1 (Nat.le_trans hxin.2 hc2) (tU rfl) (tS rfl)) ?_
      refine go_ _ ?_
      have hends : ∀ H w1, Mem w.heap.size W1 H w1 → Calls Try.prog 23 #[.slice (subA A2 xa 1 c2) (xb - xa) (c2 - xa)] w1 fun e w' => e = .returned (.tuple #[.int .i64 (endsM (segM us ⟨xa, xb, false⟩)).1, .bool (endsM (segM us ⟨xa, xb, false⟩)).2]) ∧ Below w1.heap.size w1 w' := fun H w1 hm => by
        have := ends_any (segM us ⟨xa, xb, false⟩) (subA A2 xa 1 c2) (c2 - xa) (by rw [hsegl]; omega) w1 (hsegr H w1 hm)
        rwa [hsegl] at this
      generalize he : endsM (segM us ⟨xa, xb, false⟩) = en at *
      obtain ⟨n, sp⟩ := en
      dsimp only at hends
      refine so_callQ (hends _) rfl rfl rfl (tF rfl) (Nat.le_of_ble_eq_true rfl) ?_
      clear hends hsegr hsegl hub
      by_cases hc : n = 0 ∧ sp = true ∧ 0 < ws.length
      · obtain ⟨rfl, rfl, hl⟩ := hc
        have hw : wordS av us ⟨ws, gap, forced, far⟩ ⟨xa, xb, false⟩ = ⟨ws, cutM (advM av 32), 0, far || (!decide (advM av 32 = cutM (advM av 32)) && decide (xb < us.length))⟩ := by
          unfold wordS
          rw [if_neg (by simp), he]
          dsimp only
          rw [if_pos ⟨rfl, rfl, hl⟩]
        rw [hw] at hfold
        have hadv : ∀ H w1, Mem w.heap.size W1 H w1 → Calls Try.prog 25 #[.int .u16 32, .slice A3 av.length c3] w1 fun e w' => e = .returned (.int .i64 (advM av 32)) ∧ Below w1.heap.size w1 w' := fun H w1 hm => advance_any 32 av A3 c3 w1 (by decide) (G3 H w1 hm)
        clear hw
        refine go_ _ ?_
        refine so_callQ (hadv _) rfl rfl rfl (tF rfl) (Nat.le_of_ble_eq_true rfl) ?_
        refine go_ _ ?_
        generalize advM av 32 = v at *
        refine so_callQ (fun w1 _ => cut_any v w1) rfl rfl rfl (tF rfl) (Nat.le_of_ble_eq_true rfl) ?_
        generalize hg : (!decide (v = cutM v)) = g2 at *
        clear hadv
        cases far
        · cases g2
          · skip
            refine go_ _ ?_
            exact ⟨rfl, _, ⟨⟨ws, cutM v, 0, _⟩, A, cap, hfold.symm, rfl⟩, by simp only [List.cons_append, List.nil_append]; exact .drop .refl⟩
          · skip
            refine go_ _ ?_
            rw [show decide ((xb : Int) < (us.length : Int)) = decide (xb < us.length) from decide_eq_decide.2 (by omega)]
            exact ⟨rfl, _, ⟨⟨ws, cutM v, 0, _⟩, A, cap, hfold.symm, rfl⟩, by simp only [List.cons_append, List.nil_append]; exact .drop .refl⟩
        · skip
          refine go_ _ ?_
          exact ⟨rfl, _, ⟨⟨ws, cutM v, 0, _⟩, A, cap, hfold.symm, rfl⟩, by simp only [List.cons_append, List.nil_append]; exact .drop .refl⟩
      · have hw : wordS av us ⟨ws, gap, forced, far⟩ ⟨xa, xb, false⟩ = ⟨ws, gap, n, far⟩ := by
          unfold wordS
          rw [if_neg (by simp), he]
          dsimp only
          rw [if_neg hc]
        rw [hw] at hfold
        by_cases hn : n = 0
        · cases sp
          · skip
            refine go_ _ ?_
            exact ⟨rfl, _, ⟨⟨ws, gap, n, far⟩, A, cap, hfold.symm, rfl⟩, by simp only [List.cons_append, List.nil_append]; exact .drop .refl⟩
          · have hl : ¬ 0 < ws.length := fun h => hc ⟨hn, rfl, h⟩
            refine go_ _ ?_
            exact ⟨rfl, _, ⟨⟨ws, gap, n, far⟩, A, cap, hfold.symm, rfl⟩, by simp only [List.cons_append, List.nil_append]; exact .drop .refl⟩
        · skip
          refine go_ _ ?_
          exact ⟨rfl, _, ⟨⟨ws, gap, n, far⟩, A, cap, hfold.symm, rfl⟩, by simp only [List.cons_append, List.nil_append]; exact .drop .refl⟩
    · skip
      refine go_ _ ?_
      refine s_parts (by kernel_rfl) ?_
      refine sg_free 7 (by kernel_rfl) (go_ _ ?_)
      refine sd_pure rfl (by (first | (with_reducible rfl) | assumption | exact decide_eq_true (by omega) | (simp only [Bool.not_eq_true', Bool.not_eq_false', decide_eq_false_iff_not, decide_eq_true_eq] <;> first | assumption | omega) | decide)) rfl (Nat.le_of_ble_eq_true rfl) (ps_slice (lo := xa) (hi := xb) rfl ⟨_, _, rfl, rfl⟩ ⟨_, _, rfl, rfl⟩ hxin.1 (Nat.le_trans hxin.2 hc2) (tU rfl) (tS rfl)) ?_
      refine go_ _ ?_
      have hwide : ∀ H w1, Mem w.heap.size W1 H w1 → Calls Try.prog 16 #[.slice (subA A2 xa 1 c2) (xb - xa) (c2 - xa), .slice A3 av.length c3] w1 fun e w' => e = .returned (.tuple #[.int .i64 (cutM (wideM av (segM us ⟨xa, xb, true⟩))), .bool (!decide (wideM av (segM us ⟨xa, xb, true⟩) = cutM (wideM av (segM us ⟨xa, xb, true⟩))))]) ∧ Below w1.heap.size w1 w' := fun H w1 hm => by
        have := wide_any (segM us ⟨xa, xb, true⟩) av (subA A2 xa 1 c2) A3 (c2 - xa) c3 (by rw [hsegl]; omega) hub ha w1 (hsegr H w1 hm) (G3 H w1 hm)
        rwa [hsegl] at this
      have hlen2 : ws.length < us.length := by
        obtain ⟨suf, e⟩ := hpx
        have e1 := strM_len us _ 0 rfl
        rw [List.drop_zero, e] at e1
        have e2 := wordS_len av us pre ⟨[], 0, 0, false⟩
        rw [← hs] at e2
        simp at e1 e2
        omega
      have hw : wordS av us ⟨ws, gap, forced, far⟩ ⟨xa, xb, true⟩ = ⟨ws ++ [⟨xa, xb, cutM (wideM av (segM us ⟨xa, xb, true⟩)), gap, forced⟩], 0, 0, far || !decide (wideM av (segM us ⟨xa, xb, true⟩) = cutM (wideM av (segM us ⟨xa, xb, true⟩)))⟩ := by
        unfold wordS
        rw [if_pos rfl]
      rw [hw] at hfold
      clear hw hsegl hsegr hub hs hpx
      refine sg_one (by kernel_rfl) ?_
      refine so_callQ (hwide _) rfl rfl rfl (tF rfl) (Nat.le_of_ble_eq_true rfl) ?_
      clear hwide
      generalize wideM av (segM us ⟨xa, xb, true⟩) = v at *
      generalize hg : (!decide (v = cutM v)) = g2 at *
      refine go_ _ ?_
      refine sg_free 5 (by kernel_rfl) (go_ _ ?_)
      refine s_parts (by kernel_rfl) ?_
      refine sg_mix 10 [6, 8] (fun b => row q7 50 [.int .i64 (xa : Nat), .int .i64 (xb : Nat), .bool true] :: row q6 34 [bif b 6 then .int .i64 (xa : Nat) else .int .i64 0, bif b 8 then .int .i64 (xb : Nat) else .int .i64 0, .int .i64 0, .int .i64 gap, .int .i64 forced] :: row q5 4 [.bool far] :: row q4 22 [.slice A ws.length cap] ::
        own A ws.length cap 34 5 (ws.flatMap Wd.cells) :: row q3 29 [.slice A3 av.length c3] :: row q2 28 [.slice A2 us.length c2] :: T')
        (H' := row q7 50 [.int .i64 (xa : Nat), .int .i64 (xb : Nat), .bool true] :: row q6 34 [.int .i64 (xa : Nat), .int .i64 (xb : Nat), .int .i64 0, .int .i64 gap, .int .i64 forced] :: row q5 4 [.bool far] :: row q4 22 [.slice A ws.length cap] ::
        own A ws.length cap 34 5 (ws.flatMap Wd.cells) :: row q3 29 [.slice A3 av.length c3] :: row q2 28 [.slice A2 us.length c2] :: T')
        (by kernel_rfl) (by decide) rfl rfl (go_ _ ?_)
      refine sg_one (by kernel_rfl) ?_
      have e1 : (ws ++ [(⟨xa, xb, cutM v, gap, forced⟩ : Wd)]).length = ws.length + 1 := by simp
      have e2 : (ws ++ [(⟨xa, xb, cutM v, gap, forced⟩ : Wd)]).flatMap Wd.cells = ws.flatMap Wd.cells ++ Wd.cells ⟨xa, xb, cutM v, gap, forced⟩ := by simp
      cases far
      all_goals
        refine go_ _ ?_
        refine so_slice1 (e := 34) (sz := 5) rfl (by (first | (with_reducible rfl) | assumption | exact decide_eq_true (by omega) | (simp only [Bool.not_eq_true', Bool.not_eq_false', decide_eq_false_iff_not, decide_eq_true_eq] <;> first | assumption | omega) | decide)) rfl (by kernel_rfl) rfl (Nat.le_of_ble_eq_true rfl) fun q8 => ?_
        refine go_ _ ?_
        refine so_append1 (e := 34) (sz := 5) (news := Wd.cells ⟨xa, xb, cutM v, gap, forced⟩) rfl (by (first | (with_reducible rfl) | assumption | exact decide_eq_true (by omega) | (simp only [Bool.not_eq_true', Bool.not_eq_false', decide_eq_false_iff_not, decide_eq_true_eq] <;> first | assumption | omega) | decide)) rfl rfl (by kernel_rfl) (Nat.le_of_ble_eq_true rfl) (fun A'' cap'' => (by (focus ((repeat (first | (with_reducible exact Upd.here) | (with_reducible apply Upd.there))); done)))) rw_here rfl rfl (by omega) fun A3' cap3 => ?_
        refine go_ _ ?_
        refine so_storeB rfl rfl rfl rfl (tS rfl) rfl rfl (by (focus ((repeat (first | (with_reducible exact Upd.here) | (with_reducible apply Upd.there))); done))) (by rfl) ?_
        refine go_ _ ?_
        exact ⟨rfl, _, ⟨⟨ws ++ [⟨xa, xb, cutM v, gap, forced⟩], 0, 0, _⟩, A3', cap3, hfold.symm, rfl⟩, by simp only [e1, e2, List.cons_append, List.nil_append]; exact .drop (.drop .refl)⟩
  · rintro W1 ⟨n', at', lb'⟩ h1 hN R' ⟨s, A, cap, hs, rfl⟩
    dsimp only at hN
    subst hN
    obtain rfl : s = wordsS av us := hs
    generalize wordsS av us = s at *
    obtain ⟨ws, gap, forced, far⟩ := s
    dsimp only
    refine go_ _ ?_
    refine s_parts (by kernel_rfl) ?_
    refine sg_mix 3 [2] (fun _ => [row q6 34 [.int .i64 0, .int .i64 0, .int .i64 0, .int .i64 gap, .int .i64 forced], row q5 4 [.bool far], row q4 22 [.slice A ws.length cap],
      own A ws.length cap 34 5 (ws.flatMap Wd.cells), row q3 29 [.slice A3 av.length c3], row q2 28 [.slice A2 us.length c2]]) (by kernel_rfl) (by decide) rfl rfl (go_ _ ?_)
    refine sg_one (by kernel_rfl) ?_
    refine go_ _ ?_
    refine onlyRet_r ?_
    refine sretCC rfl rfl rfl (tA rfl) (tA rfl) ?_ ?_ ⟨(A, cap), trivial, rfl, ?_⟩
    · exact cl_there (cl_there (cl_here rfl))
    · exact cl_there (cl_here rfl)
    · exact .drop (.drop (.drop (.cons .here .nil)))
end Go.Proofs.Ytkdjlaejbimchaa
