/- Lines, in plain Lean: rows of words. -/
import Derived.Test.YtepkhfebflmieaaFlnQ
import Derived.Test.YtepkhfebflmieaaFlnW
import Derived.Test.YtepkhfebflmieaaMap
import Derived.Test.YtepkhfebflmieaaIterG
namespace Go.Proofs.Ytepkhfebflmieaa
open Go.RowKit

structure Wg where
  a : Int
  b : Int
  w : Int
  gap : Int
  forced : Int
def Wg.cells (x : Wg) : List Value := [.int .i64 x.a, .int .i64 x.b, .int .i64 x.w, .int .i64 x.gap, .int .i64 x.forced]
structure En where
  ws : List Wg
  l : List Fl
  h : Int
  al : Int
  left : Int
  right : Int
  Aw : Option Addr
  Al : Option Addr
  cw : Nat
  cl : Nat
def En.st (e : En) (y : Int) (k : Nat) : List Value := [.slice e.Aw e.ws.length e.cw, .int .i64 e.h, .int .u8 e.al, .int .i64 e.left, .int .i64 e.right, .int .i64 y, .slice e.Al e.l.length e.cl, .int .i64 (k : Nat)]
structure Ro where
  y : Int
  a : Nat
  b : Nat
  xs : List Int

def tallM (l : List Fl) (left right y h : Int) : Int × Int := ((atM l left right y (max h 1)).1, (atM l left right y (max h 1)).2.1)
def downGo (l : List Fl) (h left right w : Int) (y : Int) : Int × Int × Int :=
  if _h : (nextM l y).2 = true ∧ ¬ ((tallM l left right y h).1 = left ∧ (tallM l left right y h).2 = right) ∧ wrap64 ((tallM l left right y h).2 - (tallM l left right y h).1) < w
  then downGo l h left right w (nextM l y).1 else ((tallM l left right y h).1, (tallM l left right y h).2, y)
termination_by bots l y
decreasing_by exact bots_lt _h.1
def fillL (to_ : Int) : List Wg → Int → List Int → Int × List Int
  | [], at_, xs => (at_, xs)
  | w :: ws, at_, xs => if w.forced ≠ 0 ∨ to_ < wrap64 (wrap64 (at_ + w.gap) + w.w) then (at_, xs) else fillL to_ ws (wrap64 (at_ + wrap64 (w.gap + w.w))) (xs ++ [wrap64 (at_ + w.gap)])
def alM (al left : Int) : Int := if al = 1 then left else if al = 2 then left / 2 else 0
/-- The row that begins with a word, and where the next one stands. -/
def fullM (e : En) (y : Int) (k : Nat) (w : Wg) : Ro × Int :=
  let d := downGo e.l e.h e.left e.right w.w y
  let f := fillL d.2.1 (e.ws.drop (k + 1)) (wrap64 (d.1 + w.w)) [d.1]
  (⟨d.2.2, k, k + f.2.length, f.2.map fun x => wrap64 (x + alM e.al (max (wrap64 (d.2.1 - f.1)) 0))⟩, wrap64 (d.2.2 + e.h))
def emptyL (h : Int) (k : Nat) : Nat → Int → List Ro × Int
  | 0, y => ([], y)
  | m + 1, y => (⟨y, k, k, []⟩ :: (emptyL h k m (wrap64 (y + h))).1, (emptyL h k m (wrap64 (y + h))).2)
def endsOf (w : Wg) (k : Nat) : Int := max (if 0 < k then wrap64 (w.forced - 1) else w.forced) 0
def rowsF (e : En) : Nat → Int → Nat → List Ro × Int
  | 0, y, _ => ([], y)
  | m + 1, y, k => match e.ws[k]? with
    | none => ([], y)
    | some w => ((emptyL e.h k (endsOf w k).toNat y).1 ++ (fullM e (emptyL e.h k (endsOf w k).toNat y).2 k w).1 :: (rowsF e m (fullM e (emptyL e.h k (endsOf w k).toNat y).2 k w).2 (fullM e (emptyL e.h k (endsOf w k).toNat y).2 k w).1.b).1,
        (rowsF e m (fullM e (emptyL e.h k (endsOf w k).toNat y).2 k w).2 (fullM e (emptyL e.h k (endsOf w k).toNat y).2 k w).1.b).2)
def rowsM (e : En) (y : Int) : List Ro × Int := rowsF e e.ws.length y 0

theorem fillL_len (to_ : Int) : ∀ (ws : List Wg) (at_ : Int) (xs : List Int), xs.length ≤ (fillL to_ ws at_ xs).2.length ∧ (fillL to_ ws at_ xs).2.length ≤ xs.length + ws.length := by
  intro ws
  induction ws with
  | nil => intro at_ xs; simp [fillL]
  | cons w ws ih =>
    intro at_ xs
    rw [fillL]
    split
    · simp
    · have := ih (wrap64 (at_ + wrap64 (w.gap + w.w))) (xs ++ [wrap64 (at_ + w.gap)])
      simp at this
      simp; omega
theorem flSl_rd {w : World} {A : Option Addr} {l : List Fl} (h : Rd w Fl.cells 5 A l) : FlSl w w.heap.size A l := fun k hk => by
  obtain ⟨b, o, hA, hlt, hr⟩ := h k hk
  exact ⟨b, o, hA, hlt, ⟨hr 0 _ rfl, hr 1 _ rfl, hr 2 _ rfl, hr 3 _ rfl, hr 4 _ rfl⟩⟩
structure EnOk (e : En) (B : Nat) (w0 : World) : Prop where
  words : ∀ H, RdH B w0 H Wg.cells 5 e.Aw e.ws
  floats : ∀ H, RdH B w0 H Fl.cells 5 e.Al e.l
  lw : e.ws.length ≤ 1000
  ll : e.l.length ≤ 65536
  fo : ∀ x ∈ e.ws, 0 ≤ x.forced ∧ x.forced ≤ 1000

set_option maxRecDepth 100000 in
set_option maxHeartbeats 2000000 in
theorem down_any (e : En) (wd y : Int) (k qf B : Nat) (w0 w : World) (T : Hp) (he : EnOk e B w0) (hw : Mem B w0 (row qf 43 (e.st y k) :: T) w) :
    Calls Try.prog 18 #[.pointer (some ⟨qf, 0, none⟩), .int .i64 wd] w fun r w' => ∃ _ : Unit, True ∧ r = .returned (.tuple #[.int .i64 (downGo e.l e.h e.left e.right wd y).1, .int .i64 (downGo e.l e.h e.left e.right wd y).2.1]) ∧
      Mem B w0 (row qf 43 (e.st (downGo e.l e.h e.left e.right wd y).2.2 k) :: T) w' := by
  refine (s_calls [(0, .pointer (some ⟨qf, 0, none⟩)), (1, .int .i64 wd)] (Q := fun v H' => v = .tuple #[.int .i64 (downGo e.l e.h e.left e.right wd y).1, .int .i64 (downGo e.l e.h e.left e.right wd y).2.1] ∧ H' = (row qf 43 (e.st (downGo e.l e.h e.left e.right wd y).2.2 k) :: T)) Try.func18 rfl Try.ntmps18 rfl (by simp) hw ?_).mono fun e w' ⟨v, H', h1, h2, h3, h4⟩ => ⟨(), trivial, h3 ▸ h1, h4 ▸ h2⟩
  have htall : ∀ H y w1, Mem B w0 H w1 → Calls Try.prog 20 #[.slice e.Al e.l.length e.cl, .int .i64 y, .int .i64 e.h, .int .i64 e.left, .int .i64 e.right] w1 fun r w' => r = .returned (.tuple #[.int .i64 (tallM e.l e.left e.right y e.h).1, .int .i64 (tallM e.l e.left e.right y e.h).2]) ∧ Below w1.heap.size w1 w' := fun H y w1 h1 =>
    tall_any e.Al e.l e.cl e.left e.right y e.h w1 w1.heap.size (Nat.le_refl _) (Nat.le_trans he.ll (by decide)) (flSl_rd (he.floats H w1 h1))
  have hnext : ∀ H y w1, Mem B w0 H w1 → Calls Try.prog 21 #[.slice e.Al e.l.length e.cl, .int .i64 y] w1 fun r w' => r = .returned (.tuple #[.int .i64 (nextM e.l y).1, .bool (nextM e.l y).2]) ∧ Below w1.heap.size w1 w' := fun H y w1 h1 =>
    next_any e.Al e.l e.cl y w1 w1.heap.size (Nat.le_refl _) (Nat.le_trans he.ll (by decide)) (flSl_rd (he.floats H w1 h1))
  obtain ⟨ws, l, h, al, left, right, Aw, Al, cw, cl⟩ := e
  clear he
  unfold En.st at *
  dsimp only at *
  refine go_ _ ?_
  refine s_scopeL (ι := Int) 0 (fun y => [(0, .pointer (some ⟨qf, 0, none⟩)), (1, .int .i64 wd)]) (fun y => row qf 43 [.slice Aw ws.length cw, .int .i64 h, .int .u8 al, .int .i64 left, .int .i64 right, .int .i64 y, .slice Al l.length cl, .int .i64 (k : Nat)] :: T)
    (fun z => downGo l h left right wd z = downGo l h left right wd y) (fun z => bots l z) y (by repeat (first | exact Sub.nil | refine Sub.cons rfl ?_ | (refine Sub.consB rfl (by (first | rfl | exact decide_eq_decide.2 (by omega) | exact (decide_eq_true (by omega)).symm | exact (decide_eq_false (by omega)).symm | exact decide_eq_true (by omega) | exact decide_eq_false (by omega))) ?_))) .refl rfl ?_
  intro z hz
  rw [downGo] at hz
  have hbl := fun h => bots_lt (l := l) (y := z) h
  generalize htm : tallM l left right z h = tm at *
  generalize hnm : nextM l z = nm at *
  obtain ⟨a, b⟩ := tm
  obtain ⟨nx, is_⟩ := nm
  have ht := fun H => htall H z
  have hn := fun H => hnext H z
  rw [htm] at ht
  rw [hnm] at hn
  clear htall hnext hw htm hnm
  dsimp only at hz ht hn hbl
  refine go_ _ ?_
  refine s_parts (by kernel_rfl) ?_
  refine sg_free 20 (by kernel_rfl) (go_ _ ?_)
  refine sg_one (by kernel_rfl) ?_
  refine so_callQ (ht _) rfl rfl rfl (tF rfl) (Nat.le_of_ble_eq_true rfl) ?_
  refine go_ _ ?_
  refine sg_free 5 (by kernel_rfl) (go_ _ ?_)
  obtain ⟨wh, hwh⟩ : ∃ wh : Bool, wh = decide (a = left ∧ b = right) := ⟨_, rfl⟩
  refine so_joinK (ι := Unit) (fun _ => [(0, .pointer (some ⟨qf, 0, none⟩)), (1, .int .i64 wd), (4, .int .i64 a), (5, .int .i64 b), (6, .bool wh)])
    (fun _ => row qf 43 [.slice Aw ws.length cw, .int .i64 h, .int .u8 al, .int .i64 left, .int .i64 right, .int .i64 z, .slice Al l.length cl, .int .i64 (k : Nat)] :: T) (fun _ => True) ?_ ?_
  · rw [hwh]
    by_cases ha : a = left
    · skip
      refine go_ _ ?_
      exact ⟨(), (by repeat (first | exact Sub.nil | refine Sub.cons rfl ?_ | (refine Sub.consB rfl (by (first | rfl | exact decide_eq_decide.2 (by omega) | exact (decide_eq_true (by omega)).symm | exact (decide_eq_false (by omega)).symm | exact decide_eq_true (by omega) | exact decide_eq_false (by omega))) ?_))), .refl, trivial⟩
    · skip
      refine go_ _ ?_
      exact ⟨(), (by repeat (first | exact Sub.nil | refine Sub.cons rfl ?_ | (refine Sub.consB rfl (by (first | rfl | exact decide_eq_decide.2 (by omega) | exact (decide_eq_true (by omega)).symm | exact (decide_eq_false (by omega)).symm | exact decide_eq_true (by omega) | exact decide_eq_false (by omega))) ?_))), .refl, trivial⟩
  rintro _ _ F' H' hF hH
  refine go_ _ ?_
  refine s_sub hF hH ?_
  clear hF hH F' H'
  have hz1 : is_ = true → wh = false → wrap64 (b - a) < wd → downGo l h left right wd nx = downGo l h left right wd y := fun h1 h2 h3 => by
    have : ¬ (a = left ∧ b = right) := by rw [hwh] at h2; exact of_decide_eq_false h2
    rw [dif_pos ⟨h1, this, h3⟩] at hz; exact hz
  have hz2 : (is_ = false ∨ wh = true ∨ ¬ wrap64 (b - a) < wd) → downGo l h left right wd y = (a, b, z) := fun h1 => by
    rw [dif_neg] at hz
    · exact hz.symm
    · rintro ⟨h2, h3, h4⟩
      rcases h1 with h1 | h1 | h1
      · rw [h1] at h2; cases h2
      · rw [hwh] at h1; exact h3 (of_decide_eq_true h1)
      · exact h1 h4
  clear hz hwh
  refine go_ _ ?_
  refine s_parts (by kernel_rfl) ?_
  refine sg_free 8 (by kernel_rfl) (go_ _ ?_)
  refine sg_one (by kernel_rfl) ?_
  refine so_callQ (hn _) rfl rfl rfl (tF rfl) (Nat.le_of_ble_eq_true rfl) ?_
  clear ht hn
  refine go_ _ ?_
  refine sg_free 5 (by kernel_rfl) (go_ _ ?_)
  cases is_
  · have e := hz2 (.inl rfl)
    rw [e]
    refine go_ _ ?_
    exact sret2 rfl rfl rfl ⟨rfl, rfl⟩
  · cases wh
    · by_cases hlt : wrap64 (b - a) < wd
      · have e := hz1 rfl rfl hlt
        have hb := hbl rfl
        refine go_ _ ?_
        exact ⟨nx, hb, (by repeat (first | exact Sub.nil | refine Sub.cons rfl ?_ | (refine Sub.consB rfl (by (first | rfl | exact decide_eq_decide.2 (by omega) | exact (decide_eq_true (by omega)).symm | exact (decide_eq_false (by omega)).symm | exact decide_eq_true (by omega) | exact decide_eq_false (by omega))) ?_))), (by repeat (first | exact SubH.refl | exact SubH.nil | ((with_reducible apply SubH.cons); (focus ((repeat (first | (with_reducible exact Pick.here) | (with_reducible apply Pick.there))); done))) | ((with_reducible apply SubH.consR); (focus ((repeat (first | (with_reducible exact Pick.here) | (with_reducible apply Pick.there))); done)); (first | rfl | simp; done)) | ((with_reducible apply SubH.consO); (focus ((repeat (first | (with_reducible exact Pick.here) | (with_reducible apply Pick.there))); done)); (first | rfl | simp; done); (first | rfl | simp; done)) | exact SubH.drop SubH.refl | apply SubH.drop)), e⟩
      · have e := hz2 (.inr (.inr hlt))
        rw [e]
        refine go_ _ ?_
        exact sret2 rfl rfl rfl ⟨rfl, rfl⟩
    · have e := hz2 (.inr (.inl rfl))
      rw [e]
      refine go_ _ ?_
      exact sret2 rfl rfl rfl ⟨rfl, rfl⟩

set_option maxRecDepth 100000 in
set_option maxHeartbeats 2000000 in
theorem empty_any (e : En) (y : Int) (k qf B : Nat) (w0 w : World) (T : Hp) (hw : Mem B w0 (row qf 43 (e.st y k) :: T) w) :
    Calls Try.prog 16 #[.pointer (some ⟨qf, 0, none⟩)] w fun r w' => ∃ _ : Unit, True ∧ r = .returned (.agg #[.int .i64 y, .int .i64 (k : Nat), .int .i64 (k : Nat), .slice none 0 0]) ∧
      Mem B w0 (row qf 43 (e.st (wrap64 (y + e.h)) k) :: T) w' := by
  refine (s_calls [(0, .pointer (some ⟨qf, 0, none⟩))] (Q := fun v H' => v = .agg #[.int .i64 y, .int .i64 (k : Nat), .int .i64 (k : Nat), .slice none 0 0] ∧ SubH H' (row qf 43 (e.st (wrap64 (y + e.h)) k) :: T)) Try.func16 rfl Try.ntmps16 rfl (by simp) hw ?_).mono fun e w' ⟨v, H', h1, h2, h3, h4⟩ => ⟨(), trivial, h3 ▸ h1, h2.sub h4⟩
  obtain ⟨ws, l, h, al, left, right, Aw, Al, cw, cl⟩ := e
  unfold En.st at *
  dsimp only at *
  clear hw
  refine go_ _ ?_
  (first | ((with_reducible apply so_new); rfl; (first | (with_reducible rfl) | assumption | exact decide_eq_true (by omega) | (simp only [Bool.not_eq_true', Bool.not_eq_false', decide_eq_false_iff_not, decide_eq_true_eq] <;> first | assumption | omega) | decide); exact tZ rfl; (first | exact Nat.le_of_ble_eq_true rfl | decide); (intro; rfl); (first | (with_reducible rfl) | assumption | exact decide_eq_true (by omega) | (simp only [Bool.not_eq_true', Bool.not_eq_false', decide_eq_false_iff_not, decide_eq_true_eq] <;> first | assumption | omega) | decide); (intro; rfl); rfl; exact tS rfl; rfl; rfl) | ((with_reducible apply so_alloc); rfl; (first | (with_reducible rfl) | assumption | exact decide_eq_true (by omega) | (simp only [Bool.not_eq_true', Bool.not_eq_false', decide_eq_false_iff_not, decide_eq_true_eq] <;> first | assumption | omega) | decide); exact tZ rfl; (focus ((repeat (first | (with_reducible exact CopyL.agg) | exact CopyL.nil | (apply CopyL.consI; rfl) | (apply CopyL.consB; rfl) | (apply CopyL.consS; rfl) | (apply CopyL.consP; rfl) | apply CopyL.cons)); done)); (first | exact Nat.le_of_ble_eq_true rfl | decide)) | ((with_reducible apply so_box); rfl; (first | (with_reducible rfl) | assumption | exact decide_eq_true (by omega) | (simp only [Bool.not_eq_true', Bool.not_eq_false', decide_eq_false_iff_not, decide_eq_true_eq] <;> first | assumption | omega) | decide); rfl; (focus ((repeat (first | (with_reducible exact CopyL.agg) | exact CopyL.nil | (apply CopyL.consI; rfl) | (apply CopyL.consB; rfl) | (apply CopyL.consS; rfl) | (apply CopyL.consP; rfl) | apply CopyL.cons)); done)); (first | exact Nat.le_of_ble_eq_true rfl | decide)))
  intro q2
  refine so_nil ?_
  refine go_ _ ?_
  refine s_parts (by kernel_rfl) ?_
  refine sg_free 14 (by kernel_rfl) (go_ _ ?_)
  refine sd_allocL (cs := [.int .i64 0, .int .i64 0, .int .i64 0, .slice none 0 0]) rfl rfl (by (first | (with_reducible rfl) | assumption | exact decide_eq_true (by omega) | (simp only [Bool.not_eq_true', Bool.not_eq_false', decide_eq_false_iff_not, decide_eq_true_eq] <;> first | assumption | omega) | decide)) rfl (tZ rfl) (Nat.le_of_ble_eq_true rfl) ?_
  refine go_ _ ?_
  intro q3
  refine sg_one (by kernel_rfl) ?_
  refine so_storeB rfl rfl rfl rfl (tS rfl) rfl rfl (by (focus ((repeat (first | (with_reducible exact Upd.here) | (with_reducible apply Upd.there))); done))) (by rfl) ?_
  refine go_ _ ?_
  refine s_parts (by kernel_rfl) ?_
  refine sg_free 11 (by kernel_rfl) (go_ _ ?_)
  refine sg_one (by kernel_rfl) ?_
  refine go_ _ ?_
  refine so_storeB rfl rfl rfl rfl (tS rfl) rfl rfl (by (focus ((repeat (first | (with_reducible exact Upd.here) | (with_reducible apply Upd.there))); done))) (by rfl) ?_
  refine go_ _ ?_
  refine sretCell rfl rfl (tA rfl) (tS rfl) (rw_there rw_here) ?_
  exact ⟨rfl, by simp only [List.set]; exact .drop (.drop .refl)⟩
end Go.Proofs.Ytepkhfebflmieaa
