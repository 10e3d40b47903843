/- Place: the range over heights, and what the search answers. -/
import Derived.Test.YtmldhbnkndhijaaFloW
import Derived.Test.YtmldhbnkndhijaaRange
namespace Go.Proofs.Ytmldhbnkndhijaa
open Go.RowKit Go.Shelf
attribute [local go_sem] Oper.semAt_some

set_option maxHeartbeats 400000 in
theorem heights_any (s : Array Value) (y : Int) (w : World) (a b c : Value) (hs : s = #[a, b, c]) :
    Calls Try.prog 21 #[.agg s, .int .i64 y] w fun e w' =>
      e = .returned (.func (.func 26) #[] #[.pointer (some ⟨w.heap.size, 0, none⟩), .pointer (some ⟨w.heap.size + 1, 0, none⟩)]) ∧
      (w.alloc (.cells #[a, b, c] 47)).alloc (.cells #[.int .i64 y] 2) = w' := by
  subst hs
  go_enter Try.func21, Try.ntmps21
  go_wp2
  go_ret
  exact ⟨rfl, rfl⟩

/-- The iterator's own state: the shelf's box, the height's box. -/
structure HtIn (W : World) (Bs By : Nat) (A : Option Addr) (n cap : Nat) (left right y : Int) : Prop where
  s : Blk W Bs 47 #[.slice A n cap, .int .i64 left, .int .i64 right]
  y : Blk W By 2 #[.int .i64 y]

def cellInt (W : World) (b : Nat) : Int := match W.cell? ⟨b, 0, none⟩ with | some (.int _ n) => n | _ => 0

def HtRel (Pre : Int → World → Prop) (R Fin : World → Prop) (u : Value) (wr : World) : Prop := (u = .bool true ∧ (∃ y, Pre y wr) ∧ R wr) ∨ (u = .bool false ∧ Fin wr ∧ R wr)
def htMeas (l : List Fl) (By : Nat) (u : Value) (wr : World) : Nat := match u with | .bool true => bots l (cellInt wr By) + 1 | _ => 0

set_option maxHeartbeats 1000000 in
theorem heights1_in (n : Nat) (lp Bs By : Nat) (A : Option Addr) (l : List Fl) (cap : Nat) (left right : Int) (B : Nat) (hlen : l.length ≤ maxLen)
    (Pre Go : Int → World → Prop) (R : World → Prop) (Stop : World → Prop) (Fin : World → Prop)
    (hPre : ∀ y W, Pre y W → HtIn W Bs By A l.length cap left right y ∧ FlSl W B A l ∧ B ≤ W.heap.size)
    (hGo : ∀ y W, Go y W → HtIn W Bs By A l.length cap left right y ∧ FlSl W B A l ∧ B ≤ W.heap.size)
    (hRb : ∀ W W', KeepsOthers W W' → R W → R W')
    (hY : ∀ y W, R W → Pre y W → YieldAt Fence.wide n Try.prog lp #[.int .i64 y] W fun e W' => (e = .returned (.bool true) ∧ Go y W' ∧ R W') ∨ (e = .returned (.bool false) ∧ Stop W'))
    (hnext : ∀ y W W', Go y W → Below W.heap.size W W' → (nextM l y).2 = true → Pre (nextM l y).1 (W'.setCell ⟨By, 0, none⟩ (.int .i64 (nextM l y).1)))
    (hfin : ∀ y W W', Go y W → Below W.heap.size W W' → (nextM l y).2 = false → Fin (W'.setCell ⟨By, 0, none⟩ (.int .i64 (nextM l y).1)))
    (y : Int) (W : World) (h0 : Pre y W) (hR : R W) :
    CallsIn Fence.wide (n + 1) Try.prog 26 #[.func (.yield lp) #[] #[], .pointer (some ⟨Bs, 0, none⟩), .pointer (some ⟨By, 0, none⟩)] W fun e W' => (∃ v, e = .returned v) ∧ ((Fin W' ∧ R W') ∨ Stop W') := by
  refine callsIn_of_wp Try.func26 rfl trivial ?_ rfl
  simp only [Try.ntmps26, List.size_toArray, List.length_cons, List.length_nil, Nat.reduceAdd, Nat.reduceSub, Array.replicate_succ, Array.replicate_zero, List.push_toArray, List.append_toArray, List.nil_append, List.cons_append]
  gi_wp2
  have HPre := Lib.hid hPre; have HGo := Lib.hid hGo; have HRb := Lib.hid hRb; have HY := Lib.hid hY; have Hn := Lib.hid hnext; have Hf := Lib.hid hfin
  clear hPre hGo hRb hY hnext hfin
  gi_loopw [4] (fun u4 wr => HtRel Pre R Fin u4 wr) (fun u4 wr => htMeas l By u4 wr)
  case atStart => exact .inl ⟨rfl, ⟨y, h0⟩, hR⟩
  case round =>
    rcases hrel with ⟨rfl, ⟨y, hp⟩, hr⟩ | ⟨rfl, hF, hr⟩
    · obtain ⟨⟨hs, hy0⟩, hA, hBw⟩ := HPre.out y wr hp
      have s0 := hs.cell 0; have y0 := hy0.cell 0
      simp only [List.getElem?_toArray, List.getElem?_cons_zero] at s0 y0
      obtain ⟨fn, tmps, assign, body, hy, hRd⟩ := HY.out y wr hr hp
      have hyv : cellInt wr By = y := by simp [cellInt, y0]
      have HRd := Lib.hid hRd; have Hyv := Lib.hid hyv
      clear hRd hyv
      gi_wp2
      refine HRd.out.mono ?_
      rintro e W3 (⟨rfl, hg, hr3⟩ | ⟨rfl, hst⟩)
      · obtain ⟨⟨hs', hy'⟩, hA', hBw'⟩ := HGo.out y W3 hg
        have s0' := hs'.cell 0; have y0' := hy'.cell 0
        simp only [List.getElem?_toArray, List.getElem?_cons_zero] at s0' y0'
        clear hy s0 y0
        gi_wp2
        refine ⟨trivial, ?_⟩
        refine (callsIn_wide.2 (next_any A l cap y W3 B hBw' hlen hA')).mono ?_
        rintro e W4 ⟨rfl, hb4⟩
        have hy4 := hy'.below hb4 hy'.lt
        have y4 := hy4.cell 0; have f4 := hy4.frozen 0
        simp only [List.getElem?_toArray, List.getElem?_cons_zero] at y4
        clear s0' y0'
        cases hn : (nextM l y).2
        · have Hn' := Lib.hid hn; clear hn
          gi_wp2
          go_roundw
          case rel => exact .inr ⟨rfl, Hf.out y W3 W4 hg hb4 Hn'.out, HRb.out _ _ ((keepsOthers_below hb4 (Nat.le_refl _)).trans (KeepsOthers.setCell _ _ _)) hr3⟩
          case measure => simp only [htMeas]; omega
        · have Hn' := Lib.hid hn; clear hn
          gi_wp2
          go_roundw
          case rel => exact .inl ⟨rfl, ⟨_, Hn.out y W3 W4 hg hb4 Hn'.out⟩, HRb.out _ _ ((keepsOthers_below hb4 (Nat.le_refl _)).trans (KeepsOthers.setCell _ _ _)) hr3⟩
          case measure =>
            have e1 : cellInt (W4.setCell ⟨By, 0, none⟩ (.int .i64 (nextM l y).1)) By = (nextM l y).1 := by
              simp [cellInt, World.cell?_setCell_same' W4 ⟨By, 0, none⟩ _ (by rw [y4]; rfl)]
            have := bots_lt Hn'.out
            show bots l (cellInt (W4.setCell ⟨By, 0, none⟩ (.int .i64 (nextM l y).1)) By) + 1 < bots l (cellInt wr By) + 1
            rw [e1, Hyv.out]; omega
      · gi_wp2
        refine bodyPost_ret (results_none rfl _ _ _) rfl ?_
        exact ⟨⟨_, rfl⟩, .inr hst⟩
    · gi_wp2
      go_end0
      exact ⟨⟨_, rfl⟩, .inl ⟨hF, hr⟩⟩

/-- What Place's own boxes hold while the heights are gone through. -/
structure PlX (w W : World) (s18 Bs By : Nat) (A : Option Addr) (n cap : Nat) (side left right ww hh : Int) : Prop where
  b : Below w.heap.size w W
  sd : Blk W w.heap.size 5 #[.int .u8 side]
  r : Blk W (w.heap.size + 1) 29 #[.int .u8 0, .int .i64 0, .int .i64 0, .int .i64 0, .int .i64 0]
  o : Blk W (w.heap.size + 2) 29 #[.int .u8 1, .int .i64 0, .int .i64 0, .int .i64 ww, .int .i64 hh]
  s : Blk W s18 47 #[.slice A n cap, .int .i64 left, .int .i64 right]
  s2 : Blk W Bs 47 #[.slice A n cap, .int .i64 left, .int .i64 right]

theorem PlX.below {w W W' : World} {s18 Bs By : Nat} {A : Option Addr} {n cap : Nat} {side left right ww hh : Int} (h : PlX w W s18 Bs By A n cap side left right ww hh) (hb : Below W.heap.size W W') : PlX w W' s18 Bs By A n cap side left right ww hh :=
  ⟨h.b.trans (hb.mono h.b.size), h.sd.below hb h.sd.lt, h.r.below hb h.r.lt, h.o.below hb h.o.lt, h.s.below hb h.s.lt, h.s2.below hb h.s2.lt⟩
theorem PlX.far {w W : World} {s18 Bs By : Nat} {A : Option Addr} {n cap : Nat} {side left right ww hh : Int} (h : PlX w W s18 Bs By A n cap side left right ww hh) (v : Value) (h1 : w.heap.size + 3 ≤ By) (h2 : s18 ≠ By) (h3 : Bs ≠ By) :
    PlX w (W.setCell ⟨By, 0, none⟩ v) s18 Bs By A n cap side left right ww hh :=
  ⟨h.b.setCell (p := ⟨By, 0, none⟩) (by simp; omega) _, h.sd.far (p := ⟨By, 0, none⟩) (by simp; omega) _, h.r.far (p := ⟨By, 0, none⟩) (by simp; omega) _, h.o.far (p := ⟨By, 0, none⟩) (by simp; omega) _, h.s.far (p := ⟨By, 0, none⟩) h2 _, h.s2.far (p := ⟨By, 0, none⟩) h3 _⟩
theorem PlX.idle {B : Nat} {w : World} {s18 Bs By : Nat} {A : Option Addr} {n cap : Nat} {side left right ww hh : Int} (hB : w.heap.size ≤ B) : Idle B (fun W => PlX w W s18 Bs By A n cap side left right ww hh) :=
  fun W r o o' h hr hl ho => ⟨idle_below w hB (Nat.le_refl _) W r o o' h.b hr hl ho, idle_blk B _ _ _ W r o o' h.sd hr hl ho, idle_blk B _ _ _ W r o o' h.r hr hl ho, idle_blk B _ _ _ W r o o' h.o hr hl ho, idle_blk B _ _ _ W r o o' h.s hr hl ho, idle_blk B _ _ _ W r o o' h.s2 hr hl ho⟩

theorem placeEnd_ne {side ww hh a b y : Int} (h : side ≠ 2) : placeEnd side ww hh (some (a, b, y)) = ⟨1, a, y, ww, hh⟩ := by unfold placeEnd; dsimp only; rw [if_neg h]

def PlGo (l : List Fl) (left right ww : Int) (T : Option (Int × Int × Int)) (y : Int) : Prop := placeGo l left right ww y = T
def PlMiss (l : List Fl) (left right ww : Int) (y : Int) : Prop := (atM l left right y 1).2.2 = true ∧ wrap64 ((atM l left right y 1).2.1 - (atM l left right y 1).1) < ww
/-- What lies behind the search. -/
structure PlZ (w W : World) (f : Fl) : Prop where
  b : Below w.heap.size w W
  r : Blk W (w.heap.size + 1) 29 #[.int .u8 0, .int .i64 0, .int .i64 0, .int .i64 0, .int .i64 0]
  o : Blk W (w.heap.size + 2) 29 #[.int .u8 f.side, .int .i64 f.x, .int .i64 f.y, .int .i64 f.w, .int .i64 f.h]
theorem PlZ.idle {B : Nat} {w : World} {f : Fl} (hB : w.heap.size ≤ B) : Idle B (fun W => PlZ w W f) :=
  fun W r o o' h hr hl ho => ⟨idle_below w hB (Nat.le_refl _) W r o o' h.b hr hl ho, idle_blk B _ _ _ W r o o' h.r hr hl ho, idle_blk B _ _ _ W r o o' h.o hr hl ho⟩

set_option maxHeartbeats 1000000 in
theorem place_any (A : Option Addr) (l : List Fl) (cap : Nat) (side x h left right y : Int) (w : World) (B : Nat) (hBw : B ≤ w.heap.size) (hlen : l.length ≤ maxLen) (hc : FlSl w B A l) :
    Calls Try.prog 8 #[.slice A l.length cap, .int .u8 side, .int .i64 x, .int .i64 h, .int .i64 left, .int .i64 right, .int .i64 y] w fun e w' =>
      e = .returned (placeM l side x h left right y).val ∧ Below w.heap.size w w' := by
  have hlen' := hlen
  unfold maxLen at hlen'
  have Hc := Lib.hid hc; clear hc
  refine (callsIn_wide (n := 5)).1 (callsIn_of_wp_marks Try.func8 rfl trivial ?_ rfl)
  simp only [Try.ntmps8, List.size_toArray, List.length_cons, List.length_nil, Nat.reduceAdd, Nat.reduceSub, Array.replicate_succ, Array.replicate_zero, List.push_toArray, List.append_toArray, List.nil_append, List.cons_append]
  gi_wp2
  obtain ⟨W3, hW3⟩ : ∃ W3, ((w.alloc (.cells #[.int .u8 side] 5)).alloc (.cells #[.int .u8 0, .int .i64 0, .int .i64 0, .int .i64 0, .int .i64 0] 29)).alloc (.cells #[.int .u8 1, .int .i64 0, .int .i64 0, .int .i64 (max x 0), .int .i64 (max h 0)] 29) = W3 := ⟨_, rfl⟩
  rw [hW3]
  have hb3 : Below w.heap.size w W3 := by rw [← hW3]; exact (((Below.refl _ _).alloc (Nat.le_refl _) _).alloc (by simp) _).alloc (by simp; omega) _
  have kS : Blk W3 w.heap.size 5 #[.int .u8 side] := by rw [← hW3]; exact ((Blk.new _ _ _).alloc _).alloc _
  have kR : Blk W3 (w.heap.size + 1) 29 #[.int .u8 0, .int .i64 0, .int .i64 0, .int .i64 0, .int .i64 0] := by
    rw [← hW3]; have := Blk.new (w.alloc (.cells #[.int .u8 side] 5)) 29 #[.int .u8 0, .int .i64 0, .int .i64 0, .int .i64 0, .int .i64 0]
    rw [World.size_alloc] at this; exact this.alloc _
  have kO : Blk W3 (w.heap.size + 2) 29 #[.int .u8 1, .int .i64 0, .int .i64 0, .int .i64 (max x 0), .int .i64 (max h 0)] := by
    rw [← hW3]; have := Blk.new ((w.alloc (.cells #[.int .u8 side] 5)).alloc (.cells #[.int .u8 0, .int .i64 0, .int .i64 0, .int .i64 0, .int .i64 0] 29)) 29 #[.int .u8 1, .int .i64 0, .int .i64 0, .int .i64 (max x 0), .int .i64 (max h 0)]
    rw [World.size_alloc, World.size_alloc] at this; exact this
  have hz3 : W3.heap.size = w.heap.size + 3 := by rw [← hW3]; simp
  clear hW3
  have HS := Lib.hid kS; have HR := Lib.hid kR; have HO := Lib.hid kO; have Hz3 := Lib.hid hz3
  clear kS kR kO hz3
  gi_loopw [6, 30] (fun u6 u30 wr => ∃ (k : Nat) (p : Int), k ≤ l.length ∧ u30 = .int .i64 k ∧ u6 = .int .i64 p ∧ Below W3.heap.size W3 wr ∧ (l.drop k).foldl (fun y f => max y f.y) p = topM l y) (fun _ u30 _ => l.length - (intOf u30).toNat)
  case atStart => exact ⟨0, _, Nat.zero_le _, rfl, rfl, Below.refl _ _, rfl⟩
  case round =>
    obtain ⟨k, p, hk, rfl, rfl, hb, hr⟩ := hrel
    by_cases hlt : k < l.length
    · obtain ⟨b, o, rfl, hB, h0, h1, h2, h3, h4⟩ := ((Hc.out.below flKeeps hb3 hBw).below flKeeps hb (Nat.le_trans hBw hb3.size)) k hlt
      have Hr := Lib.hid (fold_at hlt hr); clear hr
      gi_wp2
      go_roundw
      case rel => exact ⟨k + 1, _, by omega, by go_num, rfl, hb.alloc hb.size _, Hr.out⟩
      case measure => simp [intOf]; omega
    · have Hr := Lib.hid (fold_end hlt hr); clear hr
      gi_wp2
      refine ⟨trivial, ?_⟩
      refine (callsIn_wide.2 (heights_any _ p _ _ _ _ rfl)).mono ?_
      rintro e w' ⟨rfl, rfl⟩
      gi_wp2
      obtain ⟨W4, hW4⟩ : ∃ W4, ((wr.alloc (.cells #[.slice A l.length cap, .int .i64 left, .int .i64 right] 47)).alloc (.cells #[.slice A l.length cap, .int .i64 left, .int .i64 right] 47)).alloc (.cells #[.int .i64 p] 2) = W4 := ⟨_, rfl⟩
      rw [hW4]
      have hz4 : W4.heap.size = wr.heap.size + 3 := by rw [← hW4]; simp
      have hbw : w.heap.size + 3 ≤ wr.heap.size := by rw [← Hz3.out]; exact hb.size
      have kX : PlX w W4 wr.heap.size (wr.heap.size + 1) (wr.heap.size + 2) A l.length cap side left right (max x 0) (max h 0) := by
        have z3 := Hz3.out
        rw [← hW4]
        refine ⟨(((hb3.trans (hb.mono (by omega))).alloc (by omega) _).alloc (by simp; omega) _).alloc (by simp; omega) _, (((HS.out.below hb HS.out.lt).alloc _).alloc _).alloc _, (((HR.out.below hb HR.out.lt).alloc _).alloc _).alloc _, (((HO.out.below hb HO.out.lt).alloc _).alloc _).alloc _, ((Blk.new _ _ _).alloc _).alloc _, ?_⟩
        have := Blk.new (wr.alloc (.cells #[.slice A l.length cap, .int .i64 left, .int .i64 right] 47)) 47 #[.slice A l.length cap, .int .i64 left, .int .i64 right]
        rw [World.size_alloc] at this; exact this.alloc _
      have kY : Blk W4 (wr.heap.size + 2) 2 #[.int .i64 p] := by
        rw [← hW4]
        have := Blk.new ((wr.alloc (.cells #[.slice A l.length cap, .int .i64 left, .int .i64 right] 47)).alloc (.cells #[.slice A l.length cap, .int .i64 left, .int .i64 right] 47)) 2 #[.int .i64 p]
        rw [World.size_alloc, World.size_alloc] at this; exact this
      clear hW4
      have hX := Lib.hid kX; have hY := Lib.hid kY; have Hz4 := Lib.hid hz4
      clear kX kY hz4
      have Hb3 := Lib.hid hb3
      clear hb3 hb
      refine range_law (n := 3) (gf := 26) (lb := #[.pointer (some ⟨wr.heap.size + 1, 0, none⟩), .pointer (some ⟨wr.heap.size + 2, 0, none⟩)]) rfl (enters_of Try.func26 (by kernel_rfl) rfl)
        (fun y : Int => #[.int .i64 y]) (fun _ => rfl)
        (fun y W => (PlX w W wr.heap.size (wr.heap.size + 1) (wr.heap.size + 2) A l.length cap side left right (max x 0) (max h 0) ∧ Blk W (wr.heap.size + 2) 2 #[.int .i64 y]) ∧ PlGo l left right (max x 0) (placeGo l left right (max x 0) p) y)
        (fun y W => (PlX w W wr.heap.size (wr.heap.size + 1) (wr.heap.size + 2) A l.length cap side left right (max x 0) (max h 0) ∧ Blk W (wr.heap.size + 2) 2 #[.int .i64 y]) ∧ PlGo l left right (max x 0) (placeGo l left right (max x 0) p) y ∧ PlMiss l left right (max x 0) y)
        (fun c W => c = .exit 2 ∧ PlZ w W (placeEnd side (max x 0) (max h 0) (placeGo l left right (max x 0) p)))
        (fun W => PlZ w W (placeEnd side (max x 0) (max h 0) (placeGo l left right (max x 0) p)))
        ?iGo ?iOut ?iFin ?round ?seq ?done ?stop
      case iGo => exact fun y => ((PlX.idle (by rw [Hz4.out]; omega)).and (idle_blk _ _ _ _)).and ((idle_const _ _).and (idle_const _ _))
      case iOut => exact fun c => (idle_const _ _).and (PlZ.idle (by rw [Hz4.out]; omega))
      case iFin => exact PlZ.idle (by rw [Hz4.out]; omega)
      case round =>
        intro lp y W K hsz hp hK
        have HK := Lib.hid hK; clear hK
        have Hp := Lib.hid hp; clear hp
        gi_wp2_with fail
        refine HK.out _ _ _ (((PlX.idle (by rw [Hz4.out]; omega)).and (idle_blk _ _ _ _)).and (idle_const _ _)) Hp.out (KeepsOthers.refl _) ?_
        clear Hp HK
        rintro W2 hsz2 ⟨⟨hX2, hY2⟩, hgo⟩
        have c0 := hX2.s.cell 0; have c1 := hX2.s.cell 1; have c2 := hX2.s.cell 2
        simp only [List.getElem?_toArray, List.getElem?_cons_zero, List.getElem?_cons_succ] at c0 c1 c2
        have Hgo := Lib.hid hgo; clear hgo
        gi_wp2_with fail
        refine ⟨trivial, ?_⟩
        refine (CallsIn.inRound lp (callsIn_wide.2 (at_any A l cap left right y 1 W2 B (Nat.le_trans hBw hX2.b.size) hlen (Hc.out.below flKeeps hX2.b hBw)))).mono ?_
        rintro e W5 ⟨rfl, hb5⟩
        have hX5 := hX2.below hb5
        have o0 := hX5.o.cell 0; have o1 := hX5.o.cell 1; have o2 := hX5.o.cell 2; have o3 := hX5.o.cell 3; have sd := hX5.sd.cell 0
        simp only [List.getElem?_toArray, List.getElem?_cons_zero, List.getElem?_cons_succ] at o0 o1 o2 o3 sd
        have f0 := hX5.o.frozen 0; have f1 := hX5.o.frozen 1; have f2 := hX5.o.frozen 2
        have HX5 := Lib.hid hX5; have HX2 := Lib.hid hX2; have HY2 := Lib.hid hY2; have Hb5 := Lib.hid hb5
        clear c0 c1 c2 hX5 hX2 hY2 hb5
        by_cases hmiss : PlMiss l left right (max x 0) y
        · have m1 := hmiss.1; have m2 := hmiss.2
          have Hm := Lib.hid hmiss; clear hmiss
          gi_wp2_with fail
          exact ⟨keepsOthers_below Hb5.out (Nat.le_refl _), ⟨HX5.out, HY2.out.below Hb5.out HY2.out.lt⟩, Hgo.out, Hm.out⟩
        · have hT : placeGo l left right (max x 0) p = some ((atM l left right y 1).1, (atM l left right y 1).2.1, y) := by
            have h := Hgo.out
            unfold PlGo at h; unfold PlMiss at hmiss
            rw [placeGo, if_neg hmiss] at h; exact h.symm
          have HT := Lib.hid hT; clear hT
          have hsp : (atM l left right y 1).2.2 = false ∨ ((atM l left right y 1).2.2 = true ∧ max x 0 ≤ wrap64 ((atM l left right y 1).2.1 - (atM l left right y 1).1)) := by
            unfold PlMiss at hmiss
            cases h : (atM l left right y 1).2.2
            · exact .inl rfl
            · exact .inr ⟨rfl, Int.not_lt.1 fun hh => hmiss ⟨h, hh⟩⟩
          clear hmiss
          have hO2 := (HX5.out.o.set_ 1 (.int .i64 (atM l left right y 1).1)).set_ 2 (.int .i64 y)
          have hO4 := (hO2.set_ 0 (.int .u8 2)).set_ 1 (.int .i64 (wrap64 ((atM l left right y 1).2.1 - max x 0)))
          have HO2 := Lib.hid hO2; have HO4 := Lib.hid hO4; clear hO2 hO4
          by_cases hs2 : side = 2
          · subst hs2
            rcases hsp with hsp | ⟨hsp, hge⟩
            all_goals
              gi_wp2_with fail
              refine ⟨(keepsOthers_below Hb5.out (Nat.le_refl _)).trans ((((KeepsOthers.setCell _ _ _).trans (KeepsOthers.setCell _ _ _)).trans (KeepsOthers.setCell _ _ _)).trans (KeepsOthers.setCell _ _ _)), rfl, ?_⟩
              rw [HT.out]
              exact ⟨(((HX5.out.b.setCell (p := ⟨w.heap.size + 2, 1, none⟩) (by simp) _).setCell (p := ⟨w.heap.size + 2, 2, none⟩) (by simp) _).setCell (p := ⟨w.heap.size + 2, 0, none⟩) (by simp) _).setCell (p := ⟨w.heap.size + 2, 1, none⟩) (by simp) _,
                (((HX5.out.r.far (p := ⟨w.heap.size + 2, 1, none⟩) (by simp) _).far (p := ⟨w.heap.size + 2, 2, none⟩) (by simp) _).far (p := ⟨w.heap.size + 2, 0, none⟩) (by simp) _).far (p := ⟨w.heap.size + 2, 1, none⟩) (by simp) _, HO4.out⟩
          · have hs2' : (side == 2) = false := beq_eq_false_iff_ne.2 hs2
            have Hs2 := Lib.hid hs2; clear hs2
            rcases hsp with hsp | ⟨hsp, hge⟩
            all_goals
              gi_wp2_with fail
              refine ⟨(keepsOthers_below Hb5.out (Nat.le_refl _)).trans ((KeepsOthers.setCell _ _ _).trans (KeepsOthers.setCell _ _ _)), rfl, ?_⟩
              rw [HT.out, placeEnd_ne Hs2.out]
              exact ⟨(HX5.out.b.setCell (p := ⟨w.heap.size + 2, 1, none⟩) (by simp) _).setCell (p := ⟨w.heap.size + 2, 2, none⟩) (by simp) _,
                (HX5.out.r.far (p := ⟨w.heap.size + 2, 1, none⟩) (by simp) _).far (p := ⟨w.heap.size + 2, 2, none⟩) (by simp) _, HO2.out⟩
      case seq =>
        intro R Rd W1 hRb hRd hRs hYld hR1 hb1
        have hz4' := Hz4.out
        have hA : ∀ W, Below w.heap.size w W → FlSl W B A l ∧ B ≤ W.heap.size := fun W hb => ⟨Hc.out.below flKeeps hb hBw, Nat.le_trans hBw hb.size⟩
        refine (heights1_in 3 (W4.heap.size + 1) (wr.heap.size + 1) (wr.heap.size + 2) A l cap left right B hlen _ _ R (fun W => ∃ c, (c = .exit 2 ∧ PlZ w W (placeEnd side (max x 0) (max h 0) (placeGo l left right (max x 0) p))) ∧ Rd c W)
          (fun W => PlZ w W (placeEnd side (max x 0) (max h 0) (placeGo l left right (max x 0) p))) ?h1 ?h2 hRb hYld ?h3 ?h4 p W1 ?h5 hR1).mono fun e w' h => h
        case h1 => exact fun y W h => ⟨⟨h.1.1.s2, h.1.2⟩, hA W h.1.1.b⟩
        case h2 => exact fun y W h => ⟨⟨h.1.1.s2, h.1.2⟩, hA W h.1.1.b⟩
        case h3 =>
          rintro y W W' ⟨⟨hX, hY⟩, hg, hm⟩ hb hn
          refine ⟨⟨(hX.below hb).far _ (by omega) (by omega) (by omega), ?_⟩, ?_⟩
          · exact (hY.below hb hY.lt).set_ 0 _
          · unfold PlGo at hg ⊢; unfold PlMiss at hm
            rw [placeGo, if_pos hm, dif_pos hn] at hg
            exact hg
        case h4 =>
          rintro y W W' ⟨⟨hX, hY⟩, hg, hm⟩ hb hn
          have hX' := (hX.below hb).far (.int .i64 (nextM l y).1) (by omega) (by omega) (by omega)
          unfold PlGo at hg; unfold PlMiss at hm
          rw [placeGo, if_pos hm, dif_neg (by rw [hn]; exact Bool.false_ne_true)] at hg
          rw [← hg]
          exact ⟨hX'.b, hX'.r, hX'.o⟩
        case h5 => exact ⟨⟨hX.out.below hb1, (hY.out.below hb1 hY.out.lt)⟩, rfl⟩
      case done =>
        intro D W hD hZ hK
        have o0 := hZ.o.cell 0; have o1 := hZ.o.cell 1; have o2 := hZ.o.cell 2; have o3 := hZ.o.cell 3; have o4 := hZ.o.cell 4
        have r0 := hZ.r.cell 0; have r1 := hZ.r.cell 1; have r2 := hZ.r.cell 2; have r3 := hZ.r.cell 3; have r4 := hZ.r.cell 4
        simp only [List.getElem?_toArray, List.getElem?_cons_zero, List.getElem?_cons_succ] at o0 o1 o2 o3 o4 r0 r1 r2 r3 r4
        have f0 := hZ.r.frozen 0; have f1 := hZ.r.frozen 1; have f2 := hZ.r.frozen 2; have f3 := hZ.r.frozen 3; have f4 := hZ.r.frozen 4
        have HZ := Lib.hid hZ; have HK := Lib.hid hK; clear hZ hK
        have kR5 := ((((HZ.out.r.set_ 0 (.int .u8 (placeEnd side (max x 0) (max h 0) (placeGo l left right (max x 0) p)).side)).set_ 1 (.int .i64 (placeEnd side (max x 0) (max h 0) (placeGo l left right (max x 0) p)).x)).set_ 2 (.int .i64 (placeEnd side (max x 0) (max h 0) (placeGo l left right (max x 0) p)).y)).set_ 3 (.int .i64 (placeEnd side (max x 0) (max h 0) (placeGo l left right (max x 0) p)).w)).set_ 4 (.int .i64 (placeEnd side (max x 0) (max h 0) (placeGo l left right (max x 0) p)).h)
        have kB5 := ((((HZ.out.b.setCell (p := ⟨w.heap.size + 1, 0, none⟩) (by simp) (.int .u8 (placeEnd side (max x 0) (max h 0) (placeGo l left right (max x 0) p)).side)).setCell (p := ⟨w.heap.size + 1, 1, none⟩) (by simp) (.int .i64 (placeEnd side (max x 0) (max h 0) (placeGo l left right (max x 0) p)).x)).setCell (p := ⟨w.heap.size + 1, 2, none⟩) (by simp) (.int .i64 (placeEnd side (max x 0) (max h 0) (placeGo l left right (max x 0) p)).y)).setCell (p := ⟨w.heap.size + 1, 3, none⟩) (by simp) (.int .i64 (placeEnd side (max x 0) (max h 0) (placeGo l left right (max x 0) p)).w)).setCell (p := ⟨w.heap.size + 1, 4, none⟩) (by simp) (.int .i64 (placeEnd side (max x 0) (max h 0) (placeGo l left right (max x 0) p)).h)
        have KR5 := Lib.hid kR5; have KB5 := Lib.hid kB5; clear kR5 kB5
        gi_wp2
        generalize hE : placeEnd side (max x 0) (max h 0) (placeGo l left right (max x 0) p) = E at *
        have hk' := ((((((KeepsOthers.setCell W ⟨w.heap.size + 1, 0, none⟩ (.int .u8 E.side)).trans (KeepsOthers.setCell _ ⟨w.heap.size + 1, 1, none⟩ (.int .i64 E.x))).trans (KeepsOthers.setCell _ ⟨w.heap.size + 1, 2, none⟩ (.int .i64 E.y))).trans (KeepsOthers.setCell _ ⟨w.heap.size + 1, 3, none⟩ (.int .i64 E.w))).trans (KeepsOthers.setCell _ ⟨w.heap.size + 1, 4, none⟩ (.int .i64 E.h))).same D _ HK.out rfl)
        refine ⟨by simp, .inl ⟨_, _, rfl, run_takeDeferred hk', ?_⟩⟩
        have kF := idle_blk 0 _ _ _ _ D _ (.deferred none) KR5.out (Nat.zero_le _) hk' rfl
        have c0 := kF.cell 0; have c1 := kF.cell 1; have c2 := kF.cell 2; have c3 := kF.cell 3; have c4 := kF.cell 4
        simp at c0 c1 c2 c3 c4
        have HE := Lib.hid hE; have HF := Lib.hid kF; clear hE kF
        refine ⟨E.val, by simp [results, Try.results8, go_sem, c0, c1, c2, c3, c4, Fl.val], ?_, below_putObj KB5.out (Nat.le_refl _) (by have := Hz4.out; omega) _⟩
        rw [← HE.out, Hr.out]; rfl
      case stop =>
        rintro D c W hD ⟨rfl, hZ⟩ hK
        have o0 := hZ.o.cell 0; have o1 := hZ.o.cell 1; have o2 := hZ.o.cell 2; have o3 := hZ.o.cell 3; have o4 := hZ.o.cell 4
        have r0 := hZ.r.cell 0; have r1 := hZ.r.cell 1; have r2 := hZ.r.cell 2; have r3 := hZ.r.cell 3; have r4 := hZ.r.cell 4
        simp only [List.getElem?_toArray, List.getElem?_cons_zero, List.getElem?_cons_succ] at o0 o1 o2 o3 o4 r0 r1 r2 r3 r4
        have f0 := hZ.r.frozen 0; have f1 := hZ.r.frozen 1; have f2 := hZ.r.frozen 2; have f3 := hZ.r.frozen 3; have f4 := hZ.r.frozen 4
        have HZ := Lib.hid hZ; have HK := Lib.hid hK; clear hZ hK
        have kR5 := ((((HZ.out.r.set_ 0 (.int .u8 (placeEnd side (max x 0) (max h 0) (placeGo l left right (max x 0) p)).side)).set_ 1 (.int .i64 (placeEnd side (max x 0) (max h 0) (placeGo l left right (max x 0) p)).x)).set_ 2 (.int .i64 (placeEnd side (max x 0) (max h 0) (placeGo l left right (max x 0) p)).y)).set_ 3 (.int .i64 (placeEnd side (max x 0) (max h 0) (placeGo l left right (max x 0) p)).w)).set_ 4 (.int .i64 (placeEnd side (max x 0) (max h 0) (placeGo l left right (max x 0) p)).h)
        have kB5 := ((((HZ.out.b.setCell (p := ⟨w.heap.size + 1, 0, none⟩) (by simp) (.int .u8 (placeEnd side (max x 0) (max h 0) (placeGo l left right (max x 0) p)).side)).setCell (p := ⟨w.heap.size + 1, 1, none⟩) (by simp) (.int .i64 (placeEnd side (max x 0) (max h 0) (placeGo l left right (max x 0) p)).x)).setCell (p := ⟨w.heap.size + 1, 2, none⟩) (by simp) (.int .i64 (placeEnd side (max x 0) (max h 0) (placeGo l left right (max x 0) p)).y)).setCell (p := ⟨w.heap.size + 1, 3, none⟩) (by simp) (.int .i64 (placeEnd side (max x 0) (max h 0) (placeGo l left right (max x 0) p)).w)).setCell (p := ⟨w.heap.size + 1, 4, none⟩) (by simp) (.int .i64 (placeEnd side (max x 0) (max h 0) (placeGo l left right (max x 0) p)).h)
        have KR5 := Lib.hid kR5; have KB5 := Lib.hid kB5; clear kR5 kB5
        gi_wp2
        generalize hE : placeEnd side (max x 0) (max h 0) (placeGo l left right (max x 0) p) = E at *
        have hk' := ((((((KeepsOthers.setCell W ⟨w.heap.size + 1, 0, none⟩ (.int .u8 E.side)).trans (KeepsOthers.setCell _ ⟨w.heap.size + 1, 1, none⟩ (.int .i64 E.x))).trans (KeepsOthers.setCell _ ⟨w.heap.size + 1, 2, none⟩ (.int .i64 E.y))).trans (KeepsOthers.setCell _ ⟨w.heap.size + 1, 3, none⟩ (.int .i64 E.w))).trans (KeepsOthers.setCell _ ⟨w.heap.size + 1, 4, none⟩ (.int .i64 E.h))).same D _ HK.out rfl)
        refine ⟨by simp, .inl ⟨_, _, rfl, run_takeDeferred hk', ?_⟩⟩
        have kF := idle_blk 0 _ _ _ _ D _ (.deferred none) KR5.out (Nat.zero_le _) hk' rfl
        have c0 := kF.cell 0; have c1 := kF.cell 1; have c2 := kF.cell 2; have c3 := kF.cell 3; have c4 := kF.cell 4
        simp at c0 c1 c2 c3 c4
        have HE := Lib.hid hE; have HF := Lib.hid kF; clear hE kF
        refine ⟨E.val, by simp [results, Try.results8, go_sem, c0, c1, c2, c3, c4, Fl.val], ?_, below_putObj KB5.out (Nat.le_refl _) (by have := Hz4.out; omega) _⟩
        rw [← HE.out, Hr.out]; rfl

end Go.Proofs.Ytmldhbnkndhijaa
