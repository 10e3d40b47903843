/- Lists of numbers, lists of such, in memory. -/
import Derived.Test.YtdoihebekbfnbaaMor
namespace Go.Proofs.Ytdoihebekbfnbaa
open Go.RowKit

def kC (k : Nat) : List Value := [.int .i64 (k : Nat)]
structure RS where
  A : Option Addr
  l : List Nat
  c : Nat
def RS.cells (r : RS) : List Value := [.slice r.A r.l.length r.c]
def RS.own (r : RS) : Ent := Go.Proofs.Ytdoihebekbfnbaa.own r.A r.l.length r.c 3 1 (r.l.flatMap kC)
theorem RS.own_more (A : Option Addr) (c : Nat) (l : List Nat) (k : Nat) : RS.own ⟨A, l ++ [k], c⟩ = Go.Proofs.Ytdoihebekbfnbaa.own A (l.length + 1) c 3 1 (l.flatMap kC ++ [.int .i64 (k : Nat)]) := by
  unfold RS.own; rw [List.length_append, List.flatMap_append]; rfl
theorem rev_get (r : RS) (fs : List RS) : (r :: fs).reverse[fs.length]? = some r := by
  rw [List.reverse_cons, List.getElem?_append_right (by simp), List.length_reverse, Nat.sub_self]; rfl
theorem rev_set (r x : RS) (fs : List RS) : (r :: fs).reverse.set fs.length x = (x :: fs).reverse := by
  rw [List.reverse_cons, List.reverse_cons, List.set_append, if_neg (by simp), List.length_reverse, Nat.sub_self]; rfl
section
variable {B : Nat} {w0 w : World} {H : Hp}
theorem Mem.one {e : Ent} (h : Mem B w0 H w) (he : e ∈ H) : Mem B w0 [e] w := ⟨h.below, h.base, fun x hx => by rw [List.mem_singleton.1 hx]; exact h.ok e he, List.pairwise_singleton _ _, h.others⟩
theorem RS.rd {r : RS} (h : Mem B w0 H w) (he : r.own ∈ H) : Rd w kC 1 r.A r.l := (h.one he).rdOwn .here (by decide) (fun _ => rfl)
end
end Go.Proofs.Ytdoihebekbfnbaa
