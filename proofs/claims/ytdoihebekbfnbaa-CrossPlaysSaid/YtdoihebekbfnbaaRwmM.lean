/- The document's items of a Flex, their order, their rows (jambref19), in plain Lean. -/
import Derived.Test.YtdoihebekbfnbaaRwiW
namespace Go.Proofs.Ytdoihebekbfnbaa
open Go.RowKit

structure Ct where
  least : Int
  greatest : Int
  oleast : Int
  ogreatest : Int
def Ct.cells (x : Ct) : List Value := [.int .i64 x.least, .int .i64 x.greatest, .int .i64 x.oleast, .int .i64 x.ogreatest]
theorem Ct.len (x : Ct) : x.cells.length = 4 := rfl
structure RI where
  s : Sty
  left : Int
  right : Int
  sides : Int
  base : Int
  guess : Int
  factor : Int
  held : Bool
  w : Int
def riC (s : Sty) (a b c d e f : Int) (h : Bool) (w : Int) : List Value := s.cells ++ [.int .i64 a, .int .i64 b, .int .i64 c, .int .i64 d, .int .i64 e, .int .i64 f, .bool h, .int .i64 w]
def RI.cells (x : RI) : List Value := riC x.s x.left x.right x.sides x.base x.guess x.factor x.held x.w
theorem RI.len (x : RI) : x.cells.length = 51 := rfl
def baseM (c : Int) (s : Sty) (g : Int) : Int := if (resM s.basis c).2 = true then (resM s.basis c).1 else if (resM s.w c).2 = true then (resM s.w c).1 else g
def sidesM (c : Int) (s : Sty) : Int := (resM s.m3 c).1 + (resM s.m1 c).1 + s.frame
def riM (c : Int) (s : Sty) (g : Int) : RI := ⟨s, (resM s.m3 c).1, (resM s.m1 c).1, sidesM c s, baseM c s g, clampM s c (baseM c s g), 0, false, 0⟩
def risM (c : Int) (kids : List Sty) (got : List Ct) : List RI := kids.mapIdx fun i s => riM c s (got[i]?.elim 0 Ct.greatest)
theorem risM_len (c : Int) (kids : List Sty) (got : List Ct) : (risM c kids got).length = kids.length := by unfold risM; simp
theorem risM_take (c : Int) (kids : List Sty) (got : List Ct) (i : Nat) (h : i < kids.length) : (risM c kids got).take (i + 1) = (risM c kids got).take i ++ [riM c kids[i] (got[i]?.elim 0 Ct.greatest)] := by
  have hl : i < (risM c kids got).length := by rw [risM_len]; exact h
  rw [List.take_add_one, List.getElem?_eq_getElem hl]
  simp [risM]

/-- The order: each behind those ahead of it that are not above it. -/
def posM (key : Nat → Int) (x : Int) (out : List Nat) : Nat → Nat
  | 0 => 0
  | k + 1 => if x < key (out[k]?.getD 0) then posM key x out k else k + 1
def insM (key : Nat → Int) (out : List Nat) (i : Nat) : List Nat := out.take (posM key (key i) out out.length) ++ i :: out.drop (posM key (key i) out out.length)
def orderM (key : Nat → Int) (n : Nat) : List Nat := (List.range n).foldl (insM key) []
theorem posM_le (key : Nat → Int) (x : Int) (out : List Nat) : ∀ k, posM key x out k ≤ k
  | 0 => Nat.le_refl _
  | k + 1 => by rw [posM]; split; · exact Nat.le_trans (posM_le key x out k) (Nat.le_succ _)
                · exact Nat.le_refl _
theorem insM_perm (key : Nat → Int) (out : List Nat) (i : Nat) : (insM key out i).Perm (i :: out) := by
  unfold insM
  refine List.perm_middle.trans ?_
  rw [List.take_append_drop]
theorem orderM_succ (key : Nat → Int) (n : Nat) : orderM key (n + 1) = insM key (orderM key n) n := by
  unfold orderM; rw [List.range_succ, List.foldl_append]; rfl
theorem orderM_perm (key : Nat → Int) : ∀ n, (orderM key n).Perm (List.range n)
  | 0 => List.Perm.refl _
  | n + 1 => by
    rw [orderM_succ, List.range_succ]
    refine (insM_perm key _ n).trans ((List.Perm.cons n (orderM_perm key n)).trans ?_)
    exact (List.perm_append_singleton n _).symm
theorem orderM_len (key : Nat → Int) (n : Nat) : (orderM key n).length = n := by rw [(orderM_perm key n).length_eq, List.length_range]
theorem orderM_mem (key : Nat → Int) (n : Nat) {k : Nat} (h : k ∈ orderM key n) : k < n := by rw [(orderM_perm key n).mem_iff] at h; exact List.mem_range.1 h

/-- The rows, the last one first. -/
def rstep (wrap : Bool) (c : Int) (f : Nat → Int) (st : List (List Nat) × Int) (k : Nat) : List (List Nat) × Int :=
  match st.1 with
  | [] => ([[k]], f k)
  | r :: rs => if wrap = true ∧ c < st.2 + f k then ([k] :: r :: rs, f k) else ((r ++ [k]) :: rs, st.2 + f k)
def rowsR (wrap : Bool) (c : Int) (f : Nat → Int) (order : List Nat) : List (List Nat) := (order.foldl (rstep wrap c f) ([], 0)).1.reverse
def fM (l : List RI) (k : Nat) : Int := l[k]?.elim 0 fun x => x.guess + x.sides
def keyM (kids : List Sty) (k : Nat) : Int := kids[k]?.elim 0 Sty.order
/-- The document's rows. -/
def rowsD (s : Sty) (c : Int) (kids : List Sty) (got : List Ct) : List (List Nat) := rowsR s.wrap c (fM (risM c kids got)) (orderM (keyM kids) kids.length)

theorem rstep_flat (wrap : Bool) (c : Int) (f : Nat → Int) : ∀ (order : List Nat) (st : List (List Nat) × Int), (order.foldl (rstep wrap c f) st).1.reverse.flatten = st.1.reverse.flatten ++ order
  | [], st => by simp
  | k :: ks, st => by
    rw [List.foldl_cons, rstep_flat wrap c f ks]
    obtain ⟨rs, su⟩ := st
    cases rs with
    | nil => simp [rstep]
    | cons r rs =>
      rw [rstep]
      dsimp only
      split <;> simp
theorem rowsR_flat (wrap : Bool) (c : Int) (f : Nat → Int) (order : List Nat) : (rowsR wrap c f order).flatten = order := by unfold rowsR; rw [rstep_flat]; rfl
theorem rstep_full (wrap : Bool) (c : Int) (f : Nat → Int) : ∀ (order : List Nat) (st : List (List Nat) × Int), (∀ r ∈ st.1, r ≠ []) → ∀ r ∈ (order.foldl (rstep wrap c f) st).1, r ≠ []
  | [], _, h => h
  | k :: ks, st, h => by
    rw [List.foldl_cons]
    refine rstep_full wrap c f ks _ ?_
    obtain ⟨rs, su⟩ := st
    cases rs with
    | nil => simp [rstep]
    | cons r rs =>
      rw [rstep]
      dsimp only
      intro x hx
      split at hx
      · rcases List.mem_cons.1 hx with rfl | hx
        · simp
        · exact h x hx
      · rcases List.mem_cons.1 hx with rfl | hx
        · simp
        · exact h x (List.mem_cons_of_mem _ hx)
theorem rowsR_full (wrap : Bool) (c : Int) (f : Nat → Int) (order : List Nat) : ∀ r ∈ rowsR wrap c f order, r ≠ [] := fun r hr => rstep_full wrap c f order ([], 0) (by simp) r (by unfold rowsR at hr; simpa using hr)
theorem len_flat : ∀ (l : List (List Nat)), (∀ r ∈ l, r ≠ []) → l.length ≤ l.flatten.length ∧ ∀ r ∈ l, r.length ≤ l.flatten.length
  | [], _ => by simp
  | r :: rs, h => by
    have ih := len_flat rs (fun x hx => h x (List.mem_cons_of_mem _ hx))
    have h0 : 0 < r.length := by
      have := h r (by simp)
      cases r with
      | nil => exact absurd rfl this
      | cons a l => simp
    rw [List.flatten_cons, List.length_append, List.length_cons]
    refine ⟨by omega, fun x hx => ?_⟩
    rcases List.mem_cons.1 hx with rfl | hx
    · omega
    · have := ih.2 x hx; omega
theorem rowsD_flat (s : Sty) (c : Int) (kids : List Sty) (got : List Ct) : (rowsD s c kids got).flatten = orderM (keyM kids) kids.length := rowsR_flat ..
theorem rowsD_len (s : Sty) (c : Int) (kids : List Sty) (got : List Ct) : (rowsD s c kids got).length ≤ kids.length ∧ ∀ r ∈ rowsD s c kids got, r.length ≤ kids.length ∧ ∀ k ∈ r, k < kids.length := by
  have h := len_flat (rowsD s c kids got) (rowsR_full _ _ _ _)
  have e := rowsD_flat s c kids got
  rw [e, orderM_len] at h
  refine ⟨h.1, fun r hr => ⟨h.2 r hr, fun k hk => orderM_mem (keyM kids) _ ?_⟩⟩
  rw [← e]; exact List.mem_flatten.2 ⟨r, hr, hk⟩
end Go.Proofs.Ytdoihebekbfnbaa
