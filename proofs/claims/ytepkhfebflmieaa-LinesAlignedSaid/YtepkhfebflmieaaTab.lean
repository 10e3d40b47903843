/- The loaded facts on types and functions, asked by number: one table each. -/
import Derived.Test.YtepkhfebflmieaaRows
import Derived.Test.YtepkhfebflmieaaCtl
namespace Go.Proofs.Ytepkhfebflmieaa
open Go.RowKit

noncomputable def tyT (t : Nat) : Option TypeInfo :=
  match t with
  | 0 => some Try.t0
  | 1 => some Try.t1
  | 2 => some Try.t2
  | 3 => some Try.t3
  | 4 => some Try.t4
  | 5 => some Try.t5
  | 6 => some Try.t6
  | 7 => some Try.t7
  | 8 => some Try.t8
  | 9 => some Try.t9
  | 10 => some Try.t10
  | 11 => some Try.t11
  | 12 => some Try.t12
  | 13 => some Try.t13
  | 14 => some Try.t14
  | 15 => some Try.t15
  | 16 => some Try.t16
  | 17 => some Try.t17
  | 18 => some Try.t18
  | 19 => some Try.t19
  | 20 => some Try.t20
  | 21 => some Try.t21
  | 22 => some Try.t22
  | 23 => some Try.t23
  | 24 => some Try.t24
  | 25 => some Try.t25
  | 26 => some Try.t26
  | 27 => some Try.t27
  | 28 => some Try.t28
  | 29 => some Try.t29
  | 30 => some Try.t30
  | 31 => some Try.t31
  | 32 => some Try.t32
  | 33 => some Try.t33
  | 34 => some Try.t34
  | 35 => some Try.t35
  | 36 => some Try.t36
  | 37 => some Try.t37
  | 38 => some Try.t38
  | 39 => some Try.t39
  | 40 => some Try.t40
  | 41 => some Try.t41
  | 42 => some Try.t42
  | 43 => some Try.t43
  | 44 => some Try.t44
  | 45 => some Try.t45
  | 46 => some Try.t46
  | 47 => some Try.t47
  | 48 => some Try.t48
  | 49 => some Try.t49
  | 50 => some Try.t50
  | 51 => some Try.t51
  | 52 => some Try.t52
  | 53 => some Try.t53
  | 54 => some Try.t54
  | 55 => some Try.t55
  | 56 => some Try.t56
  | 57 => some Try.t57
  | 58 => some Try.t58
  | 59 => some Try.t59
  | 60 => some Try.t60
  | 61 => some Try.t61
  | 62 => some Try.t62
  | 63 => some Try.t63
  | 64 => some Try.t64
  | 65 => some Try.t65
  | 66 => some Try.t66
  | 67 => some Try.t67
  | 68 => some Try.t68
  | 69 => some Try.t69
  | 70 => some Try.t70
  | 71 => some Try.t71
  | 72 => some Try.t72
  | 73 => some Try.t73
  | 74 => some Try.t74
  | 75 => some Try.t75
  | 76 => some Try.t76
  | 77 => some Try.t77
  | _ => none

theorem tyT_spec : ∀ (t : Nat) (i : TypeInfo), tyT t = some i → ∀ w, (typeInfo t).run Try.prog w = .ok i w
  | 0, _, h => by cases h; exact Try.typeInfo0
  | 1, _, h => by cases h; exact Try.typeInfo1
  | 2, _, h => by cases h; exact Try.typeInfo2
  | 3, _, h => by cases h; exact Try.typeInfo3
  | 4, _, h => by cases h; exact Try.typeInfo4
  | 5, _, h => by cases h; exact Try.typeInfo5
  | 6, _, h => by cases h; exact Try.typeInfo6
  | 7, _, h => by cases h; exact Try.typeInfo7
  | 8, _, h => by cases h; exact Try.typeInfo8
  | 9, _, h => by cases h; exact Try.typeInfo9
  | 10, _, h => by cases h; exact Try.typeInfo10
  | 11, _, h => by cases h; exact Try.typeInfo11
  | 12, _, h => by cases h; exact Try.typeInfo12
  | 13, _, h => by cases h; exact Try.typeInfo13
  | 14, _, h => by cases h; exact Try.typeInfo14
  | 15, _, h => by cases h; exact Try.typeInfo15
  | 16, _, h => by cases h; exact Try.typeInfo16
  | 17, _, h => by cases h; exact Try.typeInfo17
  | 18, _, h => by cases h; exact Try.typeInfo18
  | 19, _, h => by cases h; exact Try.typeInfo19
  | 20, _, h => by cases h; exact Try.typeInfo20
  | 21, _, h => by cases h; exact Try.typeInfo21
  | 22, _, h => by cases h; exact Try.typeInfo22
  | 23, _, h => by cases h; exact Try.typeInfo23
  | 24, _, h => by cases h; exact Try.typeInfo24
  | 25, _, h => by cases h; exact Try.typeInfo25
  | 26, _, h => by cases h; exact Try.typeInfo26
  | 27, _, h => by cases h; exact Try.typeInfo27
  | 28, _, h => by cases h; exact Try.typeInfo28
  | 29, _, h => by cases h; exact Try.typeInfo29
  | 30, _, h => by cases h; exact Try.typeInfo30
  | 31, _, h => by cases h; exact Try.typeInfo31
  | 32, _, h => by cases h; exact Try.typeInfo32
  | 33, _, h => by cases h; exact Try.typeInfo33
  | 34, _, h => by cases h; exact Try.typeInfo34
  | 35, _, h => by cases h; exact Try.typeInfo35
  | 36, _, h => by cases h; exact Try.typeInfo36
  | 37, _, h => by cases h; exact Try.typeInfo37
  | 38, _, h => by cases h; exact Try.typeInfo38
  | 39, _, h => by cases h; exact Try.typeInfo39
  | 40, _, h => by cases h; exact Try.typeInfo40
  | 41, _, h => by cases h; exact Try.typeInfo41
  | 42, _, h => by cases h; exact Try.typeInfo42
  | 43, _, h => by cases h; exact Try.typeInfo43
  | 44, _, h => by cases h; exact Try.typeInfo44
  | 45, _, h => by cases h; exact Try.typeInfo45
  | 46, _, h => by cases h; exact Try.typeInfo46
  | 47, _, h => by cases h; exact Try.typeInfo47
  | 48, _, h => by cases h; exact Try.typeInfo48
  | 49, _, h => by cases h; exact Try.typeInfo49
  | 50, _, h => by cases h; exact Try.typeInfo50
  | 51, _, h => by cases h; exact Try.typeInfo51
  | 52, _, h => by cases h; exact Try.typeInfo52
  | 53, _, h => by cases h; exact Try.typeInfo53
  | 54, _, h => by cases h; exact Try.typeInfo54
  | 55, _, h => by cases h; exact Try.typeInfo55
  | 56, _, h => by cases h; exact Try.typeInfo56
  | 57, _, h => by cases h; exact Try.typeInfo57
  | 58, _, h => by cases h; exact Try.typeInfo58
  | 59, _, h => by cases h; exact Try.typeInfo59
  | 60, _, h => by cases h; exact Try.typeInfo60
  | 61, _, h => by cases h; exact Try.typeInfo61
  | 62, _, h => by cases h; exact Try.typeInfo62
  | 63, _, h => by cases h; exact Try.typeInfo63
  | 64, _, h => by cases h; exact Try.typeInfo64
  | 65, _, h => by cases h; exact Try.typeInfo65
  | 66, _, h => by cases h; exact Try.typeInfo66
  | 67, _, h => by cases h; exact Try.typeInfo67
  | 68, _, h => by cases h; exact Try.typeInfo68
  | 69, _, h => by cases h; exact Try.typeInfo69
  | 70, _, h => by cases h; exact Try.typeInfo70
  | 71, _, h => by cases h; exact Try.typeInfo71
  | 72, _, h => by cases h; exact Try.typeInfo72
  | 73, _, h => by cases h; exact Try.typeInfo73
  | 74, _, h => by cases h; exact Try.typeInfo74
  | 75, _, h => by cases h; exact Try.typeInfo75
  | 76, _, h => by cases h; exact Try.typeInfo76
  | 77, _, h => by cases h; exact Try.typeInfo77
  | n + 78, _, h => by simp [tyT] at h

noncomputable def unT (t : Nat) : Option TypeDesc :=
  match (tyT t).map TypeInfo.desc with
  | some (TypeDesc.named _ u) => (tyT u).map TypeInfo.desc
  | d => d

def szT (t : Nat) : Option Nat :=
  match t with
  | 0 => some 1
  | 1 => some 1
  | 2 => some 1
  | 3 => some 1
  | 4 => some 1
  | 5 => some 1
  | 6 => some 1
  | 7 => some 4
  | 8 => some 4
  | 9 => some 1
  | 10 => some 1
  | 11 => some 1
  | 12 => some 1
  | 13 => some 2
  | 14 => some 2
  | 15 => some 1
  | 16 => some 1
  | 17 => some 1
  | 18 => some 1
  | 19 => some 1
  | 20 => some 1
  | 21 => some 1
  | 22 => some 1
  | 23 => some 1
  | 24 => some 7
  | 25 => some 7
  | 26 => some 1
  | 27 => some 1
  | 28 => some 1
  | 29 => some 1
  | 30 => some 1
  | 31 => some 1
  | 32 => some 4
  | 33 => some 4
  | 34 => some 1
  | 35 => some 1
  | 36 => some 5
  | 37 => some 5
  | 38 => some 1
  | 39 => some 5
  | 40 => some 5
  | 41 => some 1
  | 42 => some 8
  | 43 => some 8
  | 44 => some 1
  | 45 => some 1
  | 46 => some 1
  | 47 => some 1
  | 48 => some 1
  | 49 => some 1
  | 50 => some 1
  | 51 => some 1
  | 52 => some 1
  | 53 => some 1
  | 54 => some 1
  | 55 => some 1
  | 56 => some 1
  | 57 => some 1
  | 58 => some 3
  | 59 => some 3
  | 60 => some 1
  | 61 => some 1
  | 62 => some 4
  | 63 => some 4
  | 64 => some 0
  | 65 => some 0
  | 66 => some 0
  | 67 => some 1
  | 68 => some 1
  | 69 => some 1
  | 70 => some 1
  | 71 => some 1
  | 72 => some 1
  | 73 => some 1
  | 74 => some 1
  | 75 => some 11
  | 76 => some 11
  | 77 => some 1
  | _ => none

theorem szT_spec : ∀ (t c : Nat), szT t = some c → ∀ w, (sizeOf t).run Try.prog w = .ok c w
  | 0, _, h => by cases h; exact Try.sizeOf0
  | 1, _, h => by cases h; exact Try.sizeOf1
  | 2, _, h => by cases h; exact Try.sizeOf2
  | 3, _, h => by cases h; exact Try.sizeOf3
  | 4, _, h => by cases h; exact Try.sizeOf4
  | 5, _, h => by cases h; exact Try.sizeOf5
  | 6, _, h => by cases h; exact Try.sizeOf6
  | 7, _, h => by cases h; exact Try.sizeOf7
  | 8, _, h => by cases h; exact Try.sizeOf8
  | 9, _, h => by cases h; exact Try.sizeOf9
  | 10, _, h => by cases h; exact Try.sizeOf10
  | 11, _, h => by cases h; exact Try.sizeOf11
  | 12, _, h => by cases h; exact Try.sizeOf12
  | 13, _, h => by cases h; exact Try.sizeOf13
  | 14, _, h => by cases h; exact Try.sizeOf14
  | 15, _, h => by cases h; exact Try.sizeOf15
  | 16, _, h => by cases h; exact Try.sizeOf16
  | 17, _, h => by cases h; exact Try.sizeOf17
  | 18, _, h => by cases h; exact Try.sizeOf18
  | 19, _, h => by cases h; exact Try.sizeOf19
  | 20, _, h => by cases h; exact Try.sizeOf20
  | 21, _, h => by cases h; exact Try.sizeOf21
  | 22, _, h => by cases h; exact Try.sizeOf22
  | 23, _, h => by cases h; exact Try.sizeOf23
  | 24, _, h => by cases h; exact Try.sizeOf24
  | 25, _, h => by cases h; exact Try.sizeOf25
  | 26, _, h => by cases h; exact Try.sizeOf26
  | 27, _, h => by cases h; exact Try.sizeOf27
  | 28, _, h => by cases h; exact Try.sizeOf28
  | 29, _, h => by cases h; exact Try.sizeOf29
  | 30, _, h => by cases h; exact Try.sizeOf30
  | 31, _, h => by cases h; exact Try.sizeOf31
  | 32, _, h => by cases h; exact Try.sizeOf32
  | 33, _, h => by cases h; exact Try.sizeOf33
  | 34, _, h => by cases h; exact Try.sizeOf34
  | 35, _, h => by cases h; exact Try.sizeOf35
  | 36, _, h => by cases h; exact Try.sizeOf36
  | 37, _, h => by cases h; exact Try.sizeOf37
  | 38, _, h => by cases h; exact Try.sizeOf38
  | 39, _, h => by cases h; exact Try.sizeOf39
  | 40, _, h => by cases h; exact Try.sizeOf40
  | 41, _, h => by cases h; exact Try.sizeOf41
  | 42, _, h => by cases h; exact Try.sizeOf42
  | 43, _, h => by cases h; exact Try.sizeOf43
  | 44, _, h => by cases h; exact Try.sizeOf44
  | 45, _, h => by cases h; exact Try.sizeOf45
  | 46, _, h => by cases h; exact Try.sizeOf46
  | 47, _, h => by cases h; exact Try.sizeOf47
  | 48, _, h => by cases h; exact Try.sizeOf48
  | 49, _, h => by cases h; exact Try.sizeOf49
  | 50, _, h => by cases h; exact Try.sizeOf50
  | 51, _, h => by cases h; exact Try.sizeOf51
  | 52, _, h => by cases h; exact Try.sizeOf52
  | 53, _, h => by cases h; exact Try.sizeOf53
  | 54, _, h => by cases h; exact Try.sizeOf54
  | 55, _, h => by cases h; exact Try.sizeOf55
  | 56, _, h => by cases h; exact Try.sizeOf56
  | 57, _, h => by cases h; exact Try.sizeOf57
  | 58, _, h => by cases h; exact Try.sizeOf58
  | 59, _, h => by cases h; exact Try.sizeOf59
  | 60, _, h => by cases h; exact Try.sizeOf60
  | 61, _, h => by cases h; exact Try.sizeOf61
  | 62, _, h => by cases h; exact Try.sizeOf62
  | 63, _, h => by cases h; exact Try.sizeOf63
  | 64, _, h => by cases h; exact Try.sizeOf64
  | 65, _, h => by cases h; exact Try.sizeOf65
  | 66, _, h => by cases h; exact Try.sizeOf66
  | 67, _, h => by cases h; exact Try.sizeOf67
  | 68, _, h => by cases h; exact Try.sizeOf68
  | 69, _, h => by cases h; exact Try.sizeOf69
  | 70, _, h => by cases h; exact Try.sizeOf70
  | 71, _, h => by cases h; exact Try.sizeOf71
  | 72, _, h => by cases h; exact Try.sizeOf72
  | 73, _, h => by cases h; exact Try.sizeOf73
  | 74, _, h => by cases h; exact Try.sizeOf74
  | 75, _, h => by cases h; exact Try.sizeOf75
  | 76, _, h => by cases h; exact Try.sizeOf76
  | 77, _, h => by cases h; exact Try.sizeOf77
  | n + 78, _, h => by simp [szT] at h

theorem unT_spec : ∀ (t : Nat) (d : TypeDesc), unT t = some d → Try.prog.underlying t = some d
  | 0, _, h => Try.underlying0.trans h
  | 1, _, h => Try.underlying1.trans h
  | 2, _, h => Try.underlying2.trans h
  | 3, _, h => Try.underlying3.trans h
  | 4, _, h => Try.underlying4.trans h
  | 5, _, h => Try.underlying5.trans h
  | 6, _, h => Try.underlying6.trans h
  | 7, _, h => Try.underlying7.trans h
  | 8, _, h => Try.underlying8.trans h
  | 9, _, h => Try.underlying9.trans h
  | 10, _, h => Try.underlying10.trans h
  | 11, _, h => Try.underlying11.trans h
  | 12, _, h => Try.underlying12.trans h
  | 13, _, h => Try.underlying13.trans h
  | 14, _, h => Try.underlying14.trans h
  | 15, _, h => Try.underlying15.trans h
  | 16, _, h => Try.underlying16.trans h
  | 17, _, h => Try.underlying17.trans h
  | 18, _, h => Try.underlying18.trans h
  | 19, _, h => Try.underlying19.trans h
  | 20, _, h => Try.underlying20.trans h
  | 21, _, h => Try.underlying21.trans h
  | 22, _, h => Try.underlying22.trans h
  | 23, _, h => Try.underlying23.trans h
  | 24, _, h => Try.underlying24.trans h
  | 25, _, h => Try.underlying25.trans h
  | 26, _, h => Try.underlying26.trans h
  | 27, _, h => Try.underlying27.trans h
  | 28, _, h => Try.underlying28.trans h
  | 29, _, h => Try.underlying29.trans h
  | 30, _, h => Try.underlying30.trans h
  | 31, _, h => Try.underlying31.trans h
  | 32, _, h => Try.underlying32.trans h
  | 33, _, h => Try.underlying33.trans h
  | 34, _, h => Try.underlying34.trans h
  | 35, _, h => Try.underlying35.trans h
  | 36, _, h => Try.underlying36.trans h
  | 37, _, h => Try.underlying37.trans h
  | 38, _, h => Try.underlying38.trans h
  | 39, _, h => Try.underlying39.trans h
  | 40, _, h => Try.underlying40.trans h
  | 41, _, h => Try.underlying41.trans h
  | 42, _, h => Try.underlying42.trans h
  | 43, _, h => Try.underlying43.trans h
  | 44, _, h => Try.underlying44.trans h
  | 45, _, h => Try.underlying45.trans h
  | 46, _, h => Try.underlying46.trans h
  | 47, _, h => Try.underlying47.trans h
  | 48, _, h => Try.underlying48.trans h
  | 49, _, h => Try.underlying49.trans h
  | 50, _, h => Try.underlying50.trans h
  | 51, _, h => Try.underlying51.trans h
  | 52, _, h => Try.underlying52.trans h
  | 53, _, h => Try.underlying53.trans h
  | 54, _, h => Try.underlying54.trans h
  | 55, _, h => Try.underlying55.trans h
  | 56, _, h => Try.underlying56.trans h
  | 57, _, h => Try.underlying57.trans h
  | 58, _, h => Try.underlying58.trans h
  | 59, _, h => Try.underlying59.trans h
  | 60, _, h => Try.underlying60.trans h
  | 61, _, h => Try.underlying61.trans h
  | 62, _, h => Try.underlying62.trans h
  | 63, _, h => Try.underlying63.trans h
  | 64, _, h => Try.underlying64.trans h
  | 65, _, h => Try.underlying65.trans h
  | 66, _, h => Try.underlying66.trans h
  | 67, _, h => Try.underlying67.trans h
  | 68, _, h => Try.underlying68.trans h
  | 69, _, h => Try.underlying69.trans h
  | 70, _, h => Try.underlying70.trans h
  | 71, _, h => Try.underlying71.trans h
  | 72, _, h => Try.underlying72.trans h
  | 73, _, h => Try.underlying73.trans h
  | 74, _, h => Try.underlying74.trans h
  | 75, _, h => Try.underlying75.trans h
  | 76, _, h => Try.underlying76.trans h
  | 77, _, h => Try.underlying77.trans h
  | n + 78, _, h => by simp [unT, tyT] at h

theorem tU {t : Nat} {d : TypeDesc} (h : unT t = some d) : ∀ w, (underlying t).run Try.prog w = .ok d w := fun w => run_underlying (unT_spec t d h) w
theorem tS {t c : Nat} (h : szT t = some c) : ∀ w, (sizeOf t).run Try.prog w = .ok c w := szT_spec t c h
theorem tZ {t : Nat} {z : Value} (h : (tyT t).bind (·.zero) = some z) : ∀ w, (zeroValue t).run Try.prog w = .ok z w := fun w => by
  cases e : tyT t with
  | none => rw [e] at h; cases h
  | some i =>
    rw [e] at h
    have h : i.zero = some z := h
    simp [zeroValue, tyT_spec t i e, h]
def foT7 (f : Nat) : Option Nat :=
  match f with
  | 0 => some 0
  | 1 => some 1
  | 2 => some 2
  | 3 => some 3
  | _ => none
def foT8 (f : Nat) : Option Nat :=
  match f with
  | 0 => some 0
  | 1 => some 1
  | 2 => some 2
  | 3 => some 3
  | _ => none
def foT13 (f : Nat) : Option Nat :=
  match f with
  | 0 => some 0
  | 1 => some 1
  | _ => none
def foT14 (f : Nat) : Option Nat :=
  match f with
  | 0 => some 0
  | 1 => some 1
  | _ => none
def foT18 (f : Nat) : Option Nat :=
  match f with
  | 0 => some 0
  | _ => none
def foT19 (f : Nat) : Option Nat :=
  match f with
  | 0 => some 0
  | _ => none
def foT24 (f : Nat) : Option Nat :=
  match f with
  | 0 => some 0
  | 1 => some 1
  | 2 => some 2
  | 3 => some 3
  | 4 => some 4
  | 5 => some 5
  | 6 => some 6
  | _ => none
def foT25 (f : Nat) : Option Nat :=
  match f with
  | 0 => some 0
  | 1 => some 1
  | 2 => some 2
  | 3 => some 3
  | 4 => some 4
  | 5 => some 5
  | 6 => some 6
  | _ => none
def foT32 (f : Nat) : Option Nat :=
  match f with
  | 0 => some 0
  | 1 => some 1
  | 2 => some 2
  | 3 => some 3
  | _ => none
def foT33 (f : Nat) : Option Nat :=
  match f with
  | 0 => some 0
  | 1 => some 1
  | 2 => some 2
  | 3 => some 3
  | _ => none
def foT36 (f : Nat) : Option Nat :=
  match f with
  | 0 => some 0
  | 1 => some 1
  | 2 => some 2
  | 3 => some 3
  | 4 => some 4
  | _ => none
def foT37 (f : Nat) : Option Nat :=
  match f with
  | 0 => some 0
  | 1 => some 1
  | 2 => some 2
  | 3 => some 3
  | 4 => some 4
  | _ => none
def foT39 (f : Nat) : Option Nat :=
  match f with
  | 0 => some 0
  | 1 => some 1
  | 2 => some 2
  | 3 => some 3
  | 4 => some 4
  | _ => none
def foT40 (f : Nat) : Option Nat :=
  match f with
  | 0 => some 0
  | 1 => some 1
  | 2 => some 2
  | 3 => some 3
  | 4 => some 4
  | _ => none
def foT42 (f : Nat) : Option Nat :=
  match f with
  | 0 => some 0
  | 1 => some 1
  | 2 => some 2
  | 3 => some 3
  | 4 => some 4
  | 5 => some 5
  | 6 => some 6
  | 7 => some 7
  | _ => none
def foT43 (f : Nat) : Option Nat :=
  match f with
  | 0 => some 0
  | 1 => some 1
  | 2 => some 2
  | 3 => some 3
  | 4 => some 4
  | 5 => some 5
  | 6 => some 6
  | 7 => some 7
  | _ => none
def foT58 (f : Nat) : Option Nat :=
  match f with
  | 0 => some 0
  | 1 => some 1
  | 2 => some 2
  | _ => none
def foT59 (f : Nat) : Option Nat :=
  match f with
  | 0 => some 0
  | 1 => some 1
  | 2 => some 2
  | _ => none
def foT62 (f : Nat) : Option Nat :=
  match f with
  | 0 => some 0
  | 1 => some 1
  | 2 => some 2
  | 3 => some 3
  | _ => none
def foT63 (f : Nat) : Option Nat :=
  match f with
  | 0 => some 0
  | 1 => some 1
  | 2 => some 2
  | 3 => some 3
  | _ => none
def foT75 (f : Nat) : Option Nat :=
  match f with
  | 0 => some 0
  | 1 => some 1
  | 2 => some 2
  | 3 => some 3
  | 4 => some 4
  | 5 => some 5
  | 6 => some 6
  | 7 => some 7
  | 8 => some 8
  | 9 => some 9
  | 10 => some 10
  | _ => none
def foT76 (f : Nat) : Option Nat :=
  match f with
  | 0 => some 0
  | 1 => some 1
  | 2 => some 2
  | 3 => some 3
  | 4 => some 4
  | 5 => some 5
  | 6 => some 6
  | 7 => some 7
  | 8 => some 8
  | 9 => some 9
  | 10 => some 10
  | _ => none
def foT (t f : Nat) : Option Nat :=
  match t with
  | 7 => foT7 f
  | 8 => foT8 f
  | 13 => foT13 f
  | 14 => foT14 f
  | 18 => foT18 f
  | 19 => foT19 f
  | 24 => foT24 f
  | 25 => foT25 f
  | 32 => foT32 f
  | 33 => foT33 f
  | 36 => foT36 f
  | 37 => foT37 f
  | 39 => foT39 f
  | 40 => foT40 f
  | 42 => foT42 f
  | 43 => foT43 f
  | 58 => foT58 f
  | 59 => foT59 f
  | 62 => foT62 f
  | 63 => foT63 f
  | 75 => foT75 f
  | 76 => foT76 f
  | _ => none
theorem tFo7 (f c : Nat) (h : foT7 f = some c) : ∀ b o w, (Instr.fieldAt 7 (.pointer (some ⟨b, o, none⟩)) f).run Try.prog w = .ok (.pointer (some ⟨b, o + c, none⟩)) w := by
  unfold foT7 at h; split at h
  · cases h; intro b o w; refine (fieldAt_run (tU rfl) (f := 0) (by rfl) (tS (by rfl)) (by decide) b o w).trans ?_; rfl
  · cases h; intro b o w; refine (fieldAt_run (tU rfl) (f := 1) (by rfl) (tS (by rfl)) (by decide) b o w).trans ?_; rfl
  · cases h; intro b o w; refine (fieldAt_run (tU rfl) (f := 2) (by rfl) (tS (by rfl)) (by decide) b o w).trans ?_; rfl
  · cases h; intro b o w; refine (fieldAt_run (tU rfl) (f := 3) (by rfl) (tS (by rfl)) (by decide) b o w).trans ?_; rfl
  · cases h
theorem tFo8 (f c : Nat) (h : foT8 f = some c) : ∀ b o w, (Instr.fieldAt 8 (.pointer (some ⟨b, o, none⟩)) f).run Try.prog w = .ok (.pointer (some ⟨b, o + c, none⟩)) w := by
  unfold foT8 at h; split at h
  · cases h; intro b o w; refine (fieldAt_run (tU rfl) (f := 0) (by rfl) (tS (by rfl)) (by decide) b o w).trans ?_; rfl
  · cases h; intro b o w; refine (fieldAt_run (tU rfl) (f := 1) (by rfl) (tS (by rfl)) (by decide) b o w).trans ?_; rfl
  · cases h; intro b o w; refine (fieldAt_run (tU rfl) (f := 2) (by rfl) (tS (by rfl)) (by decide) b o w).trans ?_; rfl
  · cases h; intro b o w; refine (fieldAt_run (tU rfl) (f := 3) (by rfl) (tS (by rfl)) (by decide) b o w).trans ?_; rfl
  · cases h
theorem tFo13 (f c : Nat) (h : foT13 f = some c) : ∀ b o w, (Instr.fieldAt 13 (.pointer (some ⟨b, o, none⟩)) f).run Try.prog w = .ok (.pointer (some ⟨b, o + c, none⟩)) w := by
  unfold foT13 at h; split at h
  · cases h; intro b o w; refine (fieldAt_run (tU rfl) (f := 0) (by rfl) (tS (by rfl)) (by decide) b o w).trans ?_; rfl
  · cases h; intro b o w; refine (fieldAt_run (tU rfl) (f := 1) (by rfl) (tS (by rfl)) (by decide) b o w).trans ?_; rfl
  · cases h
theorem tFo14 (f c : Nat) (h : foT14 f = some c) : ∀ b o w, (Instr.fieldAt 14 (.pointer (some ⟨b, o, none⟩)) f).run Try.prog w = .ok (.pointer (some ⟨b, o + c, none⟩)) w := by
  unfold foT14 at h; split at h
  · cases h; intro b o w; refine (fieldAt_run (tU rfl) (f := 0) (by rfl) (tS (by rfl)) (by decide) b o w).trans ?_; rfl
  · cases h; intro b o w; refine (fieldAt_run (tU rfl) (f := 1) (by rfl) (tS (by rfl)) (by decide) b o w).trans ?_; rfl
  · cases h
theorem tFo18 (f c : Nat) (h : foT18 f = some c) : ∀ b o w, (Instr.fieldAt 18 (.pointer (some ⟨b, o, none⟩)) f).run Try.prog w = .ok (.pointer (some ⟨b, o + c, none⟩)) w := by
  unfold foT18 at h; split at h
  · cases h; intro b o w; refine (fieldAt_run (tU rfl) (f := 0) (by rfl) (tS (by rfl)) (by decide) b o w).trans ?_; rfl
  · cases h
theorem tFo19 (f c : Nat) (h : foT19 f = some c) : ∀ b o w, (Instr.fieldAt 19 (.pointer (some ⟨b, o, none⟩)) f).run Try.prog w = .ok (.pointer (some ⟨b, o + c, none⟩)) w := by
  unfold foT19 at h; split at h
  · cases h; intro b o w; refine (fieldAt_run (tU rfl) (f := 0) (by rfl) (tS (by rfl)) (by decide) b o w).trans ?_; rfl
  · cases h
theorem tFo24 (f c : Nat) (h : foT24 f = some c) : ∀ b o w, (Instr.fieldAt 24 (.pointer (some ⟨b, o, none⟩)) f).run Try.prog w = .ok (.pointer (some ⟨b, o + c, none⟩)) w := by
  unfold foT24 at h; split at h
  · cases h; intro b o w; refine (fieldAt_run (tU rfl) (f := 0) (by rfl) (tS (by rfl)) (by decide) b o w).trans ?_; rfl
  · cases h; intro b o w; refine (fieldAt_run (tU rfl) (f := 1) (by rfl) (tS (by rfl)) (by decide) b o w).trans ?_; rfl
  · cases h; intro b o w; refine (fieldAt_run (tU rfl) (f := 2) (by rfl) (tS (by rfl)) (by decide) b o w).trans ?_; rfl
  · cases h; intro b o w; refine (fieldAt_run (tU rfl) (f := 3) (by rfl) (tS (by rfl)) (by decide) b o w).trans ?_; rfl
  · cases h; intro b o w; refine (fieldAt_run (tU rfl) (f := 4) (by rfl) (tS (by rfl)) (by decide) b o w).trans ?_; rfl
  · cases h; intro b o w; refine (fieldAt_run (tU rfl) (f := 5) (by rfl) (tS (by rfl)) (by decide) b o w).trans ?_; rfl
  · cases h; intro b o w; refine (fieldAt_run (tU rfl) (f := 6) (by rfl) (tS (by rfl)) (by decide) b o w).trans ?_; rfl
  · cases h
theorem tFo25 (f c : Nat) (h : foT25 f = some c) : ∀ b o w, (Instr.fieldAt 25 (.pointer (some ⟨b, o, none⟩)) f).run Try.prog w = .ok (.pointer (some ⟨b, o + c, none⟩)) w := by
  unfold foT25 at h; split at h
  · cases h; intro b o w; refine (fieldAt_run (tU rfl) (f := 0) (by rfl) (tS (by rfl)) (by decide) b o w).trans ?_; rfl
  · cases h; intro b o w; refine (fieldAt_run (tU rfl) (f := 1) (by rfl) (tS (by rfl)) (by decide) b o w).trans ?_; rfl
  · cases h; intro b o w; refine (fieldAt_run (tU rfl) (f := 2) (by rfl) (tS (by rfl)) (by decide) b o w).trans ?_; rfl
  · cases h; intro b o w; refine (fieldAt_run (tU rfl) (f := 3) (by rfl) (tS (by rfl)) (by decide) b o w).trans ?_; rfl
  · cases h; intro b o w; refine (fieldAt_run (tU rfl) (f := 4) (by rfl) (tS (by rfl)) (by decide) b o w).trans ?_; rfl
  · cases h; intro b o w; refine (fieldAt_run (tU rfl) (f := 5) (by rfl) (tS (by rfl)) (by decide) b o w).trans ?_; rfl
  · cases h; intro b o w; refine (fieldAt_run (tU rfl) (f := 6) (by rfl) (tS (by rfl)) (by decide) b o w).trans ?_; rfl
  · cases h
theorem tFo32 (f c : Nat) (h : foT32 f = some c) : ∀ b o w, (Instr.fieldAt 32 (.pointer (some ⟨b, o, none⟩)) f).run Try.prog w = .ok (.pointer (some ⟨b, o + c, none⟩)) w := by
  unfold foT32 at h; split at h
  · cases h; intro b o w; refine (fieldAt_run (tU rfl) (f := 0) (by rfl) (tS (by rfl)) (by decide) b o w).trans ?_; rfl
  · cases h; intro b o w; refine (fieldAt_run (tU rfl) (f := 1) (by rfl) (tS (by rfl)) (by decide) b o w).trans ?_; rfl
  · cases h; intro b o w; refine (fieldAt_run (tU rfl) (f := 2) (by rfl) (tS (by rfl)) (by decide) b o w).trans ?_; rfl
  · cases h; intro b o w; refine (fieldAt_run (tU rfl) (f := 3) (by rfl) (tS (by rfl)) (by decide) b o w).trans ?_; rfl
  · cases h
theorem tFo33 (f c : Nat) (h : foT33 f = some c) : ∀ b o w, (Instr.fieldAt 33 (.pointer (some ⟨b, o, none⟩)) f).run Try.prog w = .ok (.pointer (some ⟨b, o + c, none⟩)) w := by
  unfold foT33 at h; split at h
  · cases h; intro b o w; refine (fieldAt_run (tU rfl) (f := 0) (by rfl) (tS (by rfl)) (by decide) b o w).trans ?_; rfl
  · cases h; intro b o w; refine (fieldAt_run (tU rfl) (f := 1) (by rfl) (tS (by rfl)) (by decide) b o w).trans ?_; rfl
  · cases h; intro b o w; refine (fieldAt_run (tU rfl) (f := 2) (by rfl) (tS (by rfl)) (by decide) b o w).trans ?_; rfl
  · cases h; intro b o w; refine (fieldAt_run (tU rfl) (f := 3) (by rfl) (tS (by rfl)) (by decide) b o w).trans ?_; rfl
  · cases h
theorem tFo36 (f c : Nat) (h : foT36 f = some c) : ∀ b o w, (Instr.fieldAt 36 (.pointer (some ⟨b, o, none⟩)) f).run Try.prog w = .ok (.pointer (some ⟨b, o + c, none⟩)) w := by
  unfold foT36 at h; split at h
  · cases h; intro b o w; refine (fieldAt_run (tU rfl) (f := 0) (by rfl) (tS (by rfl)) (by decide) b o w).trans ?_; rfl
  · cases h; intro b o w; refine (fieldAt_run (tU rfl) (f := 1) (by rfl) (tS (by rfl)) (by decide) b o w).trans ?_; rfl
  · cases h; intro b o w; refine (fieldAt_run (tU rfl) (f := 2) (by rfl) (tS (by rfl)) (by decide) b o w).trans ?_; rfl
  · cases h; intro b o w; refine (fieldAt_run (tU rfl) (f := 3) (by rfl) (tS (by rfl)) (by decide) b o w).trans ?_; rfl
  · cases h; intro b o w; refine (fieldAt_run (tU rfl) (f := 4) (by rfl) (tS (by rfl)) (by decide) b o w).trans ?_; rfl
  · cases h
theorem tFo37 (f c : Nat) (h : foT37 f = some c) : ∀ b o w, (Instr.fieldAt 37 (.pointer (some ⟨b, o, none⟩)) f).run Try.prog w = .ok (.pointer (some ⟨b, o + c, none⟩)) w := by
  unfold foT37 at h; split at h
  · cases h; intro b o w; refine (fieldAt_run (tU rfl) (f := 0) (by rfl) (tS (by rfl)) (by decide) b o w).trans ?_; rfl
  · cases h; intro b o w; refine (fieldAt_run (tU rfl) (f := 1) (by rfl) (tS (by rfl)) (by decide) b o w).trans ?_; rfl
  · cases h; intro b o w; refine (fieldAt_run (tU rfl) (f := 2) (by rfl) (tS (by rfl)) (by decide) b o w).trans ?_; rfl
  · cases h; intro b o w; refine (fieldAt_run (tU rfl) (f := 3) (by rfl) (tS (by rfl)) (by decide) b o w).trans ?_; rfl
  · cases h; intro b o w; refine (fieldAt_run (tU rfl) (f := 4) (by rfl) (tS (by rfl)) (by decide) b o w).trans ?_; rfl
  · cases h
theorem tFo39 (f c : Nat) (h : foT39 f = some c) : ∀ b o w, (Instr.fieldAt 39 (.pointer (some ⟨b, o, none⟩)) f).run Try.prog w = .ok (.pointer (some ⟨b, o + c, none⟩)) w := by
  unfold foT39 at h; split at h
  · cases h; intro b o w; refine (fieldAt_run (tU rfl) (f := 0) (by rfl) (tS (by rfl)) (by decide) b o w).trans ?_; rfl
  · cases h; intro b o w; refine (fieldAt_run (tU rfl) (f := 1) (by rfl) (tS (by rfl)) (by decide) b o w).trans ?_; rfl
  · cases h; intro b o w; refine (fieldAt_run (tU rfl) (f := 2) (by rfl) (tS (by rfl)) (by decide) b o w).trans ?_; rfl
  · cases h; intro b o w; refine (fieldAt_run (tU rfl) (f := 3) (by rfl) (tS (by rfl)) (by decide) b o w).trans ?_; rfl
  · cases h; intro b o w; refine (fieldAt_run (tU rfl) (f := 4) (by rfl) (tS (by rfl)) (by decide) b o w).trans ?_; rfl
  · cases h
theorem tFo40 (f c : Nat) (h : foT40 f = some c) : ∀ b o w, (Instr.fieldAt 40 (.pointer (some ⟨b, o, none⟩)) f).run Try.prog w = .ok (.pointer (some ⟨b, o + c, none⟩)) w := by
  unfold foT40 at h; split at h
  · cases h; intro b o w; refine (fieldAt_run (tU rfl) (f := 0) (by rfl) (tS (by rfl)) (by decide) b o w).trans ?_; rfl
  · cases h; intro b o w; refine (fieldAt_run (tU rfl) (f := 1) (by rfl) (tS (by rfl)) (by decide) b o w).trans ?_; rfl
  · cases h; intro b o w; refine (fieldAt_run (tU rfl) (f := 2) (by rfl) (tS (by rfl)) (by decide) b o w).trans ?_; rfl
  · cases h; intro b o w; refine (fieldAt_run (tU rfl) (f := 3) (by rfl) (tS (by rfl)) (by decide) b o w).trans ?_; rfl
  · cases h; intro b o w; refine (fieldAt_run (tU rfl) (f := 4) (by rfl) (tS (by rfl)) (by decide) b o w).trans ?_; rfl
  · cases h
theorem tFo42 (f c : Nat) (h : foT42 f = some c) : ∀ b o w, (Instr.fieldAt 42 (.pointer (some ⟨b, o, none⟩)) f).run Try.prog w = .ok (.pointer (some ⟨b, o + c, none⟩)) w := by
  unfold foT42 at h; split at h
  · cases h; intro b o w; refine (fieldAt_run (tU rfl) (f := 0) (by rfl) (tS (by rfl)) (by decide) b o w).trans ?_; rfl
  · cases h; intro b o w; refine (fieldAt_run (tU rfl) (f := 1) (by rfl) (tS (by rfl)) (by decide) b o w).trans ?_; rfl
  · cases h; intro b o w; refine (fieldAt_run (tU rfl) (f := 2) (by rfl) (tS (by rfl)) (by decide) b o w).trans ?_; rfl
  · cases h; intro b o w; refine (fieldAt_run (tU rfl) (f := 3) (by rfl) (tS (by rfl)) (by decide) b o w).trans ?_; rfl
  · cases h; intro b o w; refine (fieldAt_run (tU rfl) (f := 4) (by rfl) (tS (by rfl)) (by decide) b o w).trans ?_; rfl
  · cases h; intro b o w; refine (fieldAt_run (tU rfl) (f := 5) (by rfl) (tS (by rfl)) (by decide) b o w).trans ?_; rfl
  · cases h; intro b o w; refine (fieldAt_run (tU rfl) (f := 6) (by rfl) (tS (by rfl)) (by decide) b o w).trans ?_; rfl
  · cases h; intro b o w; refine (fieldAt_run (tU rfl) (f := 7) (by rfl) (tS (by rfl)) (by decide) b o w).trans ?_; rfl
  · cases h
theorem tFo43 (f c : Nat) (h : foT43 f = some c) : ∀ b o w, (Instr.fieldAt 43 (.pointer (some ⟨b, o, none⟩)) f).run Try.prog w = .ok (.pointer (some ⟨b, o + c, none⟩)) w := by
  unfold foT43 at h; split at h
  · cases h; intro b o w; refine (fieldAt_run (tU rfl) (f := 0) (by rfl) (tS (by rfl)) (by decide) b o w).trans ?_; rfl
  · cases h; intro b o w; refine (fieldAt_run (tU rfl) (f := 1) (by rfl) (tS (by rfl)) (by decide) b o w).trans ?_; rfl
  · cases h; intro b o w; refine (fieldAt_run (tU rfl) (f := 2) (by rfl) (tS (by rfl)) (by decide) b o w).trans ?_; rfl
  · cases h; intro b o w; refine (fieldAt_run (tU rfl) (f := 3) (by rfl) (tS (by rfl)) (by decide) b o w).trans ?_; rfl
  · cases h; intro b o w; refine (fieldAt_run (tU rfl) (f := 4) (by rfl) (tS (by rfl)) (by decide) b o w).trans ?_; rfl
  · cases h; intro b o w; refine (fieldAt_run (tU rfl) (f := 5) (by rfl) (tS (by rfl)) (by decide) b o w).trans ?_; rfl
  · cases h; intro b o w; refine (fieldAt_run (tU rfl) (f := 6) (by rfl) (tS (by rfl)) (by decide) b o w).trans ?_; rfl
  · cases h; intro b o w; refine (fieldAt_run (tU rfl) (f := 7) (by rfl) (tS (by rfl)) (by decide) b o w).trans ?_; rfl
  · cases h
theorem tFo58 (f c : Nat) (h : foT58 f = some c) : ∀ b o w, (Instr.fieldAt 58 (.pointer (some ⟨b, o, none⟩)) f).run Try.prog w = .ok (.pointer (some ⟨b, o + c, none⟩)) w := by
  unfold foT58 at h; split at h
  · cases h; intro b o w; refine (fieldAt_run (tU rfl) (f := 0) (by rfl) (tS (by rfl)) (by decide) b o w).trans ?_; rfl
  · cases h; intro b o w; refine (fieldAt_run (tU rfl) (f := 1) (by rfl) (tS (by rfl)) (by decide) b o w).trans ?_; rfl
  · cases h; intro b o w; refine (fieldAt_run (tU rfl) (f := 2) (by rfl) (tS (by rfl)) (by decide) b o w).trans ?_; rfl
  · cases h
theorem tFo59 (f c : Nat) (h : foT59 f = some c) : ∀ b o w, (Instr.fieldAt 59 (.pointer (some ⟨b, o, none⟩)) f).run Try.prog w = .ok (.pointer (some ⟨b, o + c, none⟩)) w := by
  unfold foT59 at h; split at h
  · cases h; intro b o w; refine (fieldAt_run (tU rfl) (f := 0) (by rfl) (tS (by rfl)) (by decide) b o w).trans ?_; rfl
  · cases h; intro b o w; refine (fieldAt_run (tU rfl) (f := 1) (by rfl) (tS (by rfl)) (by decide) b o w).trans ?_; rfl
  · cases h; intro b o w; refine (fieldAt_run (tU rfl) (f := 2) (by rfl) (tS (by rfl)) (by decide) b o w).trans ?_; rfl
  · cases h
theorem tFo62 (f c : Nat) (h : foT62 f = some c) : ∀ b o w, (Instr.fieldAt 62 (.pointer (some ⟨b, o, none⟩)) f).run Try.prog w = .ok (.pointer (some ⟨b, o + c, none⟩)) w := by
  unfold foT62 at h; split at h
  · cases h; intro b o w; refine (fieldAt_run (tU rfl) (f := 0) (by rfl) (tS (by rfl)) (by decide) b o w).trans ?_; rfl
  · cases h; intro b o w; refine (fieldAt_run (tU rfl) (f := 1) (by rfl) (tS (by rfl)) (by decide) b o w).trans ?_; rfl
  · cases h; intro b o w; refine (fieldAt_run (tU rfl) (f := 2) (by rfl) (tS (by rfl)) (by decide) b o w).trans ?_; rfl
  · cases h; intro b o w; refine (fieldAt_run (tU rfl) (f := 3) (by rfl) (tS (by rfl)) (by decide) b o w).trans ?_; rfl
  · cases h
theorem tFo63 (f c : Nat) (h : foT63 f = some c) : ∀ b o w, (Instr.fieldAt 63 (.pointer (some ⟨b, o, none⟩)) f).run Try.prog w = .ok (.pointer (some ⟨b, o + c, none⟩)) w := by
  unfold foT63 at h; split at h
  · cases h; intro b o w; refine (fieldAt_run (tU rfl) (f := 0) (by rfl) (tS (by rfl)) (by decide) b o w).trans ?_; rfl
  · cases h; intro b o w; refine (fieldAt_run (tU rfl) (f := 1) (by rfl) (tS (by rfl)) (by decide) b o w).trans ?_; rfl
  · cases h; intro b o w; refine (fieldAt_run (tU rfl) (f := 2) (by rfl) (tS (by rfl)) (by decide) b o w).trans ?_; rfl
  · cases h; intro b o w; refine (fieldAt_run (tU rfl) (f := 3) (by rfl) (tS (by rfl)) (by decide) b o w).trans ?_; rfl
  · cases h
theorem tFo75 (f c : Nat) (h : foT75 f = some c) : ∀ b o w, (Instr.fieldAt 75 (.pointer (some ⟨b, o, none⟩)) f).run Try.prog w = .ok (.pointer (some ⟨b, o + c, none⟩)) w := by
  unfold foT75 at h; split at h
  · cases h; intro b o w; refine (fieldAt_run (tU rfl) (f := 0) (by rfl) (tS (by rfl)) (by decide) b o w).trans ?_; rfl
  · cases h; intro b o w; refine (fieldAt_run (tU rfl) (f := 1) (by rfl) (tS (by rfl)) (by decide) b o w).trans ?_; rfl
  · cases h; intro b o w; refine (fieldAt_run (tU rfl) (f := 2) (by rfl) (tS (by rfl)) (by decide) b o w).trans ?_; rfl
  · cases h; intro b o w; refine (fieldAt_run (tU rfl) (f := 3) (by rfl) (tS (by rfl)) (by decide) b o w).trans ?_; rfl
  · cases h; intro b o w; refine (fieldAt_run (tU rfl) (f := 4) (by rfl) (tS (by rfl)) (by decide) b o w).trans ?_; rfl
  · cases h; intro b o w; refine (fieldAt_run (tU rfl) (f := 5) (by rfl) (tS (by rfl)) (by decide) b o w).trans ?_; rfl
  · cases h; intro b o w; refine (fieldAt_run (tU rfl) (f := 6) (by rfl) (tS (by rfl)) (by decide) b o w).trans ?_; rfl
  · cases h; intro b o w; refine (fieldAt_run (tU rfl) (f := 7) (by rfl) (tS (by rfl)) (by decide) b o w).trans ?_; rfl
  · cases h; intro b o w; refine (fieldAt_run (tU rfl) (f := 8) (by rfl) (tS (by rfl)) (by decide) b o w).trans ?_; rfl
  · cases h; intro b o w; refine (fieldAt_run (tU rfl) (f := 9) (by rfl) (tS (by rfl)) (by decide) b o w).trans ?_; rfl
  · cases h; intro b o w; refine (fieldAt_run (tU rfl) (f := 10) (by rfl) (tS (by rfl)) (by decide) b o w).trans ?_; rfl
  · cases h
theorem tFo76 (f c : Nat) (h : foT76 f = some c) : ∀ b o w, (Instr.fieldAt 76 (.pointer (some ⟨b, o, none⟩)) f).run Try.prog w = .ok (.pointer (some ⟨b, o + c, none⟩)) w := by
  unfold foT76 at h; split at h
  · cases h; intro b o w; refine (fieldAt_run (tU rfl) (f := 0) (by rfl) (tS (by rfl)) (by decide) b o w).trans ?_; rfl
  · cases h; intro b o w; refine (fieldAt_run (tU rfl) (f := 1) (by rfl) (tS (by rfl)) (by decide) b o w).trans ?_; rfl
  · cases h; intro b o w; refine (fieldAt_run (tU rfl) (f := 2) (by rfl) (tS (by rfl)) (by decide) b o w).trans ?_; rfl
  · cases h; intro b o w; refine (fieldAt_run (tU rfl) (f := 3) (by rfl) (tS (by rfl)) (by decide) b o w).trans ?_; rfl
  · cases h; intro b o w; refine (fieldAt_run (tU rfl) (f := 4) (by rfl) (tS (by rfl)) (by decide) b o w).trans ?_; rfl
  · cases h; intro b o w; refine (fieldAt_run (tU rfl) (f := 5) (by rfl) (tS (by rfl)) (by decide) b o w).trans ?_; rfl
  · cases h; intro b o w; refine (fieldAt_run (tU rfl) (f := 6) (by rfl) (tS (by rfl)) (by decide) b o w).trans ?_; rfl
  · cases h; intro b o w; refine (fieldAt_run (tU rfl) (f := 7) (by rfl) (tS (by rfl)) (by decide) b o w).trans ?_; rfl
  · cases h; intro b o w; refine (fieldAt_run (tU rfl) (f := 8) (by rfl) (tS (by rfl)) (by decide) b o w).trans ?_; rfl
  · cases h; intro b o w; refine (fieldAt_run (tU rfl) (f := 9) (by rfl) (tS (by rfl)) (by decide) b o w).trans ?_; rfl
  · cases h; intro b o w; refine (fieldAt_run (tU rfl) (f := 10) (by rfl) (tS (by rfl)) (by decide) b o w).trans ?_; rfl
  · cases h
theorem tFo (t f c : Nat) (h : foT t f = some c) : ∀ b o w, (Instr.fieldAt t (.pointer (some ⟨b, o, none⟩)) f).run Try.prog w = .ok (.pointer (some ⟨b, o + c, none⟩)) w := by
  unfold foT at h; split at h
  · exact tFo7 f c h
  · exact tFo8 f c h
  · exact tFo13 f c h
  · exact tFo14 f c h
  · exact tFo18 f c h
  · exact tFo19 f c h
  · exact tFo24 f c h
  · exact tFo25 f c h
  · exact tFo32 f c h
  · exact tFo33 f c h
  · exact tFo36 f c h
  · exact tFo37 f c h
  · exact tFo39 f c h
  · exact tFo40 f c h
  · exact tFo42 f c h
  · exact tFo43 f c h
  · exact tFo58 f c h
  · exact tFo59 f c h
  · exact tFo62 f c h
  · exact tFo63 f c h
  · exact tFo75 f c h
  · exact tFo76 f c h
  · cases h
def agg? (d : TypeDesc) : Bool := match d with | .struct _ | .array _ _ => true | _ => false
theorem tA {t : Nat} {b : Bool} (h : (unT t).map agg? = some b) : ∀ w, (isAgg t).run Try.prog w = .ok b w := fun w => by
  cases e : unT t with
  | none => rw [e] at h; cases h
  | some d =>
    rw [e] at h; cases h
    unfold isAgg
    simp only [Sem.run_bind, tU e, Result.andThen_ok]
    cases d <;> simp [agg?]

def fnT (f : Nat) : Bool :=
  match f with
  | 2 => true
  | 3 => true
  | 4 => true
  | 5 => true
  | 6 => true
  | 7 => true
  | 8 => true
  | 9 => true
  | 10 => true
  | 11 => true
  | 12 => true
  | 13 => true
  | 14 => true
  | 15 => true
  | 16 => true
  | 17 => true
  | 18 => true
  | 19 => true
  | 20 => true
  | 21 => true
  | 22 => true
  | _ => false

theorem tF {f : Nat} (h : fnT f = true) : ∀ args w, (callFunc f args).run Try.prog w = .ok (.enter f args) w := by
  unfold fnT at h; split at h
  · exact Try.call2
  · exact Try.call3
  · exact Try.call4
  · exact Try.call5
  · exact Try.call6
  · exact Try.call7
  · exact Try.call8
  · exact Try.call9
  · exact Try.call10
  · exact Try.call11
  · exact Try.call12
  · exact Try.call13
  · exact Try.call14
  · exact Try.call15
  · exact Try.call16
  · exact Try.call17
  · exact Try.call18
  · exact Try.call19
  · exact Try.call20
  · exact Try.call21
  · exact Try.call22
  · exact absurd h Bool.false_ne_true

end Go.Proofs.Ytepkhfebflmieaa
