/- What CrossRows asks of what is placed, in plain Lean. -/
import Derived.Test.YtdoihebekbfnbaaCroV
namespace Go.Proofs.Ytdoihebekbfnbaa
open Go.RowKit

/-- What the law asks of an item. -/
structure RK (s : Sty) (u : Us) (h0 : Int) : Prop where
  h : s.h.k = 0
  minh : s.minh.k = 0
  maxh : s.maxh.k = 0
  w : u.w ≤ 1073741824
  left : 0 ≤ u.left ∧ u.left ≤ 1073741824
  right : 0 ≤ u.right ∧ u.right ≤ 1073741824
  hh : h0 ≤ 1073741824
  m0 : s.m0.k ≠ 2 ∧ 0 ≤ s.m0.n ∧ s.m0.n ≤ 1073741824
  m2 : s.m2.k ≠ 2 ∧ 0 ≤ s.m2.n ∧ s.m2.n ≤ 1073741824
  b : s.b0 ≤ 1073741824 ∧ s.b1 ≤ 1073741824 ∧ s.b2 ≤ 1073741824 ∧ s.b3 ≤ 1073741824
  p : s.p0 ≤ 1073741824 ∧ s.p1 ≤ 1073741824 ∧ s.p2 ≤ 1073741824 ∧ s.p3 ≤ 1073741824
  down : s.b0 + s.b2 + s.p0 + s.p2 ≤ h0
def RKi (x : Case) (i : Nat) : Prop := ∃ s u h, x.kids[i]? = some s ∧ x.us[i]? = some u ∧ x.hs[i]? = some h ∧ RK s u h

theorem lenMay_px {l : Ln} {least lo c : Int} (h : lenMayM l least lo = true) (hk : l.k ≠ 2) : (resM l c).1 = l.n := by
  unfold lenMayM at h
  unfold resM
  rw [if_neg hk]
  by_cases h0 : l.k = 0
  · rw [if_pos h0] at h
    rw [if_neg (by omega)]
    exact (of_decide_eq_true h).symm
  · rw [if_neg h0] at h
    by_cases h1 : l.k = 1
    · rw [if_pos h1]
    · rw [if_neg h1, if_neg hk] at h; cases h
theorem hm_in {l : Ln} (h : HM1 l) : In1 l.n := by
  obtain ⟨h2, h⟩ := h
  unfold lenMayM at h
  unfold In1
  by_cases h0 : l.k = 0
  · rw [if_pos h0] at h; have := of_decide_eq_true h; omega
  · rw [if_neg h0] at h
    by_cases h1 : l.k = 1
    · rw [if_pos h1] at h; have := of_decide_eq_true h; omega
    · rw [if_neg h1, if_neg h2] at h; cases h

section
variable {x : Case} (hm : CaseMay x)
include hm
theorem CaseMay.rb : ∀ s ∈ x.kids, RB x.c s := fun s hs => by
  have hk := hm.kid s hs
  have hc := hm.c
  have hst := hk.p.stB (c := x.c) hc.2
  rw [show max x.c 0 = x.c by omega] at hst
  exact ⟨hst, lnB_of hk.basis (by omega) (by omega) (by omega)⟩
theorem CaseMay.plB : PlB x.s x.c x.kids x.us x.hs (rowsD x.s x.c x.kids []) := by
  have hc := hm.c
  have hr := rowsD_len x.s x.c x.kids []
  have hn := hm.nk
  refine ⟨fun k hk => ?_, fun k hk => ?_, fun u hu => ?_, fun h hh => ?_, by unfold In1; omega, ⟨hm_in hm.s.h, hm_in hm.s.minh, hm_in hm.s.maxh⟩, by omega, fun r hr' => ⟨by have := (hr.2 r hr').1; omega, (hr.2 r hr').2⟩, by omega⟩
  · have h := hm.kid k hk
    exact ⟨(hm.rb k hk).st, lnB_of h.p.m0 (by omega) (by omega) (by omega), lnB_of h.p.m2 (by omega) (by omega) (by omega)⟩
  · have h := (hm.kid k hk).h
    exact ⟨hm_in h.h, hm_in h.minh, hm_in h.maxh⟩
  · have h := hm.us u hu
    have h1 := h.w; have h2 := h.left; have h3 := h.right
    unfold InB; omega
  · have := hm.hs h hh
    unfold In1; omega

def Case.S (x : Case) (k : Nat) : Sty := x.kids[k]?.getD Sty.zero
def Case.U (x : Case) (k : Nat) : Us := x.us[k]?.getD ⟨0, 0, 0⟩
def Case.Hh (x : Case) (k : Nat) : Int := x.hs[k]?.getD 0
def Case.P (x : Case) : List Fg × Int := placeM x.s x.c (itemsM x.c x.kids x.us x.hs) (rowsD x.s x.c x.kids [])
def Case.F (x : Case) (k : Nat) : Fg := (x.P.1.map cutF)[k]?.getD Fg.zero
def Case.T (x : Case) (q : Nat) : Int := topM x.s (itemsM x.c x.kids x.us x.hs) ((rowsD x.s x.c x.kids []).length == 1) (rowsD x.s x.c x.kids []) q
def Case.Tall (x : Case) (r : List Nat) : Int := tallM (itemsM x.c x.kids x.us x.hs) r

variable (hI : ∀ j, j < x.kids.length → RKi x j)
include hI
theorem item_at {k : Nat} (hk : k < x.kids.length) : x.kids[k]? = some (x.S k) ∧ x.us[k]? = some (x.U k) ∧ x.hs[k]? = some (x.Hh k) ∧ RK (x.S k) (x.U k) (x.Hh k) ∧ 0 ≤ (x.U k).w ∧ 0 ≤ x.Hh k ∧
    (itemsM x.c x.kids x.us x.hs)[k]? = some ⟨x.S k, (x.S k).frame + (x.U k).w, x.Hh k, (x.S k).m0.n, (x.S k).m2.n, (x.U k).left, (x.U k).right, (x.S k).down⟩ := by
  obtain ⟨s, u, h, h1, h2, h3, h4⟩ := hI k hk
  have e1 : x.S k = s := by unfold Case.S; rw [h1]; rfl
  have e2 : x.U k = u := by unfold Case.U; rw [h2]; rfl
  have e3 : x.Hh k = h := by unfold Case.Hh; rw [h3]; rfl
  rw [e1, e2, e3]
  have hp := (hm.kid s (List.mem_of_getElem? h1)).p
  refine ⟨h1, h2, h3, h4, (hm.us u (List.mem_of_getElem? h2)).w.1, (hm.hs h (List.mem_of_getElem? h3)).1, ?_⟩
  unfold itemsM
  rw [List.getElem?_mapIdx, h1, h2, h3]
  simp only [Option.map_some, Option.getD_some, itM, lenMay_px hp.m0 h4.m0.1, lenMay_px hp.m2 h4.m2.1]
theorem items_IB : ∀ y ∈ itemsM x.c x.kids x.us x.hs, IB y := by
  intro y hy
  obtain ⟨k, hk⟩ := List.getElem?_of_mem hy
  have hl : k < x.kids.length := by
    have := (List.getElem?_eq_some_iff.1 hk).1
    unfold itemsM at this; simpa using this
  obtain ⟨h1, h2, h3, h4, h5, h6, h7⟩ := item_at hm hI hl
  rw [h7] at hk
  cases hk
  have hp := (hm.kid _ (List.mem_of_getElem? h1)).p
  have b0 := hp.b0; have b1 := hp.b1; have b2 := hp.b2; have b3 := hp.b3; have p0 := hp.p0; have p1 := hp.p1; have p2 := hp.p2; have p3 := hp.p3
  have hb := h4.b; have hpp := h4.p; have hw := h4.w; have hd := h4.down; have hhh := h4.hh
  refine ⟨?_, ⟨h6, h4.hh⟩, h4.m0.2, h4.m2.2, h4.left, h4.right, ?_, h4.h, h4.minh, h4.maxh⟩
  · dsimp only; unfold Sty.frame; omega
  · dsimp only; unfold Sty.down; omega
variable (hsh : x.s.h.k = 0)
include hsh
theorem T_in (q : Nat) : 0 ≤ x.T q ∧ x.T q ≤ 3221225472 * 60 := by
  have := topM_in (items_IB hm hI) hsh (only := (rowsD x.s x.c x.kids []).length == 1) (rowsD x.s x.c x.kids []) q
  have h2 := (rowsD_len x.s x.c x.kids []).1
  have h3 := hm.nk
  unfold Case.T; omega
omit hm hI in
theorem rowTall_eq (r : List Nat) (only : Bool) : rowTallM x.s (itemsM x.c x.kids x.us x.hs) r only = x.Tall r := by unfold rowTallM; rw [if_neg (fun h => by omega)]; rfl
omit hm hI in
theorem T_succ {q : Nat} {r : List Nat} (h : (rowsD x.s x.c x.kids [])[q]? = some r) : x.T (q + 1) = x.T q + x.Tall r := by
  unfold Case.T; rw [topM_succ x.s _ _ _ q r h, rowTall_eq hsh]
theorem high_eq : cutM x.P.2 = x.T (rowsD x.s x.c x.kids []).length := by
  have h := T_in hm hI hsh (rowsD x.s x.c x.kids []).length
  have e : x.P.2 = x.T (rowsD x.s x.c x.kids []).length := by
    unfold Case.P placeM Case.T; rw [rows20_top]; dsimp only; omega
  rw [e]; exact cutM_in (by omega)
structure FK (x : Case) (q : Nat) (r : List Nat) (k : Nat) : Prop where
  n : k < x.kids.length
  f : (x.P.1.map cutF)[k]? = some (x.F k)
  y0 : x.T q + (x.S k).m0.n ≤ (x.F k).y
  y1 : (x.F k).y + (x.F k).h + (x.S k).m2.n ≤ x.T q + x.Tall r
  h0 : x.s.items ≠ 3 → (x.F k).h = x.Hh k
  h3 : x.s.items = 3 → (x.F k).h = x.Tall r - (x.S k).m0.n - (x.S k).m2.n
  xb : -1099511627776 ≤ (x.F k).x ∧ (x.F k).x ≤ 1099511627776
  wb : 0 ≤ (x.F k).w ∧ (x.F k).w ≤ 5368709120
  hb : 0 ≤ (x.F k).h
  tb : 0 ≤ x.Tall r ∧ x.Tall r ≤ 3221225472
theorem frag_at {q : Nat} {r : List Nat} (hr : (rowsD x.s x.c x.kids [])[q]? = some r) {j k : Nat} (hk : r[j]? = some k) :
    FK x q r k ∧ (x.F k).x = begM x.s (leftM' x.c (itemsM x.c x.kids x.us x.hs) r) + preM (itemsM x.c x.kids x.us x.hs) r j + (x.U k).left + movM x.s (leftM' x.c (itemsM x.c x.kids x.us x.hs) r) j r.length ∧ (x.F k).w = (x.S k).frame + (x.U k).w := by
  have hIB := items_IB hm hI
  have hrl := (rowsD_len x.s x.c x.kids []).2 r (List.mem_of_getElem? hr)
  have hkn := hrl.2 k (List.mem_of_getElem? hk)
  have hnk := hm.nk
  obtain ⟨h1, h2, h3, h4, h5, h6, h7⟩ := item_at hm hI hkn
  have hlen : (itemsM x.c x.kids x.us x.hs).length = x.kids.length := by unfold itemsM; simp
  obtain ⟨y, hy, hP⟩ := rows20_at x.s x.c (itemsM x.c x.kids x.us x.hs) ((rowsD x.s x.c x.kids []).length == 1) (rowsD x.s x.c x.kids []) (List.replicate (itemsM x.c x.kids x.us x.hs).length Fg.zero, 0)
    (by rw [rowsD_flat]; exact (orderM_perm (keyM x.kids) x.kids.length).nodup_iff.2 List.nodup_range) (fun a ha b hb => by have := ((rowsD_len x.s x.c x.kids []).2 a ha).2 b hb; rw [List.length_replicate, hlen]; exact ⟨this, this⟩) q r hr j k hk
  rw [h7] at hy
  obtain rfl : _ = y := Option.some.inj hy
  rw [rowTall_eq hsh] at hP
  have hT := T_in hm hI hsh q
  have e0 : (0 : Int) + topM x.s (itemsM x.c x.kids x.us x.hs) ((rowsD x.s x.c x.kids []).length == 1) (rowsD x.s x.c x.kids []) q = x.T q := by unfold Case.T; omega
  rw [e0] at hP
  have hxi := x_in hIB (s := x.s) hm.c r (by omega) j k hk h7
  have hyi := y_in hIB (s := x.s) h7 r (List.mem_of_getElem? hk) (x.T q)
  dsimp only at hxi hyi
  obtain ⟨g1, g2, g3, g4, g5, g6, g7⟩ := hyi
  have hwb := (hIB _ (List.mem_of_getElem? h7)).wide
  have hab := h4.m0.2; have hbb := h4.m2.2
  dsimp only at hwb
  unfold fragM at hP
  dsimp only at hP
  have htt : tallM (itemsM x.c x.kids x.us x.hs) r = x.Tall r := rfl
  rw [htt] at g1 g2 g3 g4 g5 g6 g7
  generalize hgtM x.s ⟨x.S k, (x.S k).frame + (x.U k).w, x.Hh k, (x.S k).m0.n, (x.S k).m2.n, (x.U k).left, (x.U k).right, (x.S k).down⟩ (x.Tall r) = H at *
  have hF : (x.P.1.map cutF)[k]? = some ⟨begM x.s (leftM' x.c (itemsM x.c x.kids x.us x.hs) r) + preM (itemsM x.c x.kids x.us x.hs) r j + (x.U k).left + movM x.s (leftM' x.c (itemsM x.c x.kids x.us x.hs) r) j r.length, x.T q + (x.S k).m0.n + overM x.s (x.Tall r - H - (x.S k).m0.n - (x.S k).m2.n), (x.S k).frame + (x.U k).w, H⟩ := by
    unfold Case.P placeM
    rw [List.getElem?_map, hP]
    simp only [Option.map_some, cutF]
    rw [cutM_in hxi, cutM_in (n := x.T q + (x.S k).m0.n + overM x.s (x.Tall r - H - (x.S k).m0.n - (x.S k).m2.n)) (by omega), cutM_in (n := (x.S k).frame + (x.U k).w) (by omega), cutM_in (n := H) (by omega)]
  have hFk2 : (x.P.1.map cutF)[k]? = some (x.F k) := by unfold Case.F; rw [hF]; rfl
  rw [hF] at hFk2
  have hFk := (Option.some.inj hFk2).symm
  refine ⟨⟨hkn, by rw [hF]; unfold Case.F; rw [hF]; rfl, ?_, ?_, ?_, ?_, ?_, ?_, ?_, ⟨g6, g7⟩⟩, ?_, ?_⟩ <;> rw [hFk]
  · exact g1
  · exact g2
  · exact g3
  · exact g4
  · exact hxi
  · exact hwb
  · exact g5
theorem frag_next {q : Nat} {r : List Nat} (hr : (rowsD x.s x.c x.kids [])[q]? = some r) {j k k' : Nat} (hk : r[j]? = some k) (hk' : r[j + 1]? = some k') : (x.F k).x + (x.F k).w + (x.U k).right + (x.U k').left ≤ (x.F k').x := by
  obtain ⟨f1, e1, e2⟩ := frag_at hm hI hsh hr hk
  obtain ⟨f2, e3, e4⟩ := frag_at hm hI hsh hr hk'
  obtain ⟨h1, h2, h3, h4, h5, h6, h7⟩ := item_at hm hI f1.n
  have := x_next (l := itemsM x.c x.kids x.us x.hs) (s := x.s) (c := x.c) r j k k' hk hk' h7
  dsimp only at this
  omega
omit hsh in
theorem tall_next {r : List Nat} {j k : Nat} (hk : r[j]? = some k) (hkn : k < x.kids.length) : x.Tall (r.take (j + 1)) = max (x.Tall (r.take j)) (x.Hh k + (x.S k).m0.n + (x.S k).m2.n) := by
  obtain ⟨h1, h2, h3, h4, h5, h6, h7⟩ := item_at hm hI hkn
  obtain ⟨hj, rfl⟩ := List.getElem?_eq_some_iff.1 hk
  obtain ⟨hl, he⟩ := List.getElem?_eq_some_iff.1 h7
  unfold Case.Tall
  rw [tall_step _ r j hj hl, he]
omit hsh in
theorem tall_in' (r : List Nat) : 0 ≤ x.Tall r ∧ x.Tall r ≤ 3221225472 := tall_le (items_IB hm hI) r 0 (by omega)
end
end Go.Proofs.Ytdoihebekbfnbaa
