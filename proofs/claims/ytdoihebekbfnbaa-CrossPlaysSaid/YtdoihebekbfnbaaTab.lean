/- The loaded facts on types and functions, asked by number: one table each. -/
import Derived.Test.YtdoihebekbfnbaaRows
import Derived.Test.YtdoihebekbfnbaaCtl
namespace Go.Proofs.Ytdoihebekbfnbaa
open Go.RowKit

noncomputable def tyT (t : Nat) : Option TypeInfo :=
  match t with
  | 0 => some Try.t0
  | 1 => some Try.t1
  | 2 => some Try.t2
  | 3 => some Try.t3
  | 4 => some Try.t4
  | 5 => some Try.t5
  | 6 => some Try.t6
  | 7 => some Try.t7
  | 8 => some Try.t8
  | 9 => some Try.t9
  | 10 => some Try.t10
  | 11 => some Try.t11
  | 12 => some Try.t12
  | 13 => some Try.t13
  | 14 => some Try.t14
  | 15 => some Try.t15
  | 16 => some Try.t16
  | 17 => some Try.t17
  | 18 => some Try.t18
  | 19 => some Try.t19
  | 20 => some Try.t20
  | 21 => some Try.t21
  | 22 => some Try.t22
  | 23 => some Try.t23
  | 24 => some Try.t24
  | 25 => some Try.t25
  | 26 => some Try.t26
  | 27 => some Try.t27
  | 28 => some Try.t28
  | 29 => some Try.t29
  | 30 => some Try.t30
  | 31 => some Try.t31
  | 32 => some Try.t32
  | 33 => some Try.t33
  | 34 => some Try.t34
  | 35 => some Try.t35
  | 36 => some Try.t36
  | 37 => some Try.t37
  | 38 => some Try.t38
  | 39 => some Try.t39
  | 40 => some Try.t40
  | 41 => some Try.t41
  | 42 => some Try.t42
  | 43 => some Try.t43
  | 44 => some Try.t44
  | 45 => some Try.t45
  | 46 => some Try.t46
  | 47 => some Try.t47
  | 48 => some Try.t48
  | 49 => some Try.t49
  | 50 => some Try.t50
  | 51 => some Try.t51
  | 52 => some Try.t52
  | 53 => some Try.t53
  | 54 => some Try.t54
  | 55 => some Try.t55
  | 56 => some Try.t56
  | 57 => some Try.t57
  | 58 => some Try.t58
  | 59 => some Try.t59
  | 60 => some Try.t60
  | 61 => some Try.t61
  | 62 => some Try.t62
  | 63 => some Try.t63
  | 64 => some Try.t64
  | 65 => some Try.t65
  | 66 => some Try.t66
  | 67 => some Try.t67
  | 68 => some Try.t68
  | 69 => some Try.t69
  | 70 => some Try.t70
  | 71 => some Try.t71
  | 72 => some Try.t72
  | 73 => some Try.t73
  | 74 => some Try.t74
  | 75 => some Try.t75
  | 76 => some Try.t76
  | 77 => some Try.t77
  | 78 => some Try.t78
  | 79 => some Try.t79
  | 80 => some Try.t80
  | 81 => some Try.t81
  | 82 => some Try.t82
  | 83 => some Try.t83
  | 84 => some Try.t84
  | 85 => some Try.t85
  | 86 => some Try.t86
  | 87 => some Try.t87
  | 88 => some Try.t88
  | 89 => some Try.t89
  | 90 => some Try.t90
  | 91 => some Try.t91
  | 92 => some Try.t92
  | 93 => some Try.t93
  | 94 => some Try.t94
  | 95 => some Try.t95
  | 96 => some Try.t96
  | 97 => some Try.t97
  | 98 => some Try.t98
  | 99 => some Try.t99
  | 100 => some Try.t100
  | 101 => some Try.t101
  | 102 => some Try.t102
  | 103 => some Try.t103
  | 104 => some Try.t104
  | 105 => some Try.t105
  | 106 => some Try.t106
  | 107 => some Try.t107
  | 108 => some Try.t108
  | 109 => some Try.t109
  | 110 => some Try.t110
  | 111 => some Try.t111
  | 112 => some Try.t112
  | 113 => some Try.t113
  | 114 => some Try.t114
  | 115 => some Try.t115
  | 116 => some Try.t116
  | 117 => some Try.t117
  | 118 => some Try.t118
  | 119 => some Try.t119
  | 120 => some Try.t120
  | 121 => some Try.t121
  | 122 => some Try.t122
  | 123 => some Try.t123
  | 124 => some Try.t124
  | _ => none

theorem tyT_spec : ∀ (t : Nat) (i : TypeInfo), tyT t = some i → ∀ w, (typeInfo t).run Try.prog w = .ok i w
  | 0, _, h => by cases h; exact Try.typeInfo0
  | 1, _, h => by cases h; exact Try.typeInfo1
  | 2, _, h => by cases h; exact Try.typeInfo2
  | 3, _, h => by cases h; exact Try.typeInfo3
  | 4, _, h => by cases h; exact Try.typeInfo4
  | 5, _, h => by cases h; exact Try.typeInfo5
  | 6, _, h => by cases h; exact Try.typeInfo6
  | 7, _, h => by cases h; exact Try.typeInfo7
  | 8, _, h => by cases h; exact Try.typeInfo8
  | 9, _, h => by cases h; exact Try.typeInfo9
  | 10, _, h => by cases h; exact Try.typeInfo10
  | 11, _, h => by cases h; exact Try.typeInfo11
  | 12, _, h => by cases h; exact Try.typeInfo12
  | 13, _, h => by cases h; exact Try.typeInfo13
  | 14, _, h => by cases h; exact Try.typeInfo14
  | 15, _, h => by cases h; exact Try.typeInfo15
  | 16, _, h => by cases h; exact Try.typeInfo16
  | 17, _, h => by cases h; exact Try.typeInfo17
  | 18, _, h => by cases h; exact Try.typeInfo18
  | 19, _, h => by cases h; exact Try.typeInfo19
  | 20, _, h => by cases h; exact Try.typeInfo20
  | 21, _, h => by cases h; exact Try.typeInfo21
  | 22, _, h => by cases h; exact Try.typeInfo22
  | 23, _, h => by cases h; exact Try.typeInfo23
  | 24, _, h => by cases h; exact Try.typeInfo24
  | 25, _, h => by cases h; exact Try.typeInfo25
  | 26, _, h => by cases h; exact Try.typeInfo26
  | 27, _, h => by cases h; exact Try.typeInfo27
  | 28, _, h => by cases h; exact Try.typeInfo28
  | 29, _, h => by cases h; exact Try.typeInfo29
  | 30, _, h => by cases h; exact Try.typeInfo30
  | 31, _, h => by cases h; exact Try.typeInfo31
  | 32, _, h => by cases h; exact Try.typeInfo32
  | 33, _, h => by cases h; exact Try.typeInfo33
  | 34, _, h => by cases h; exact Try.typeInfo34
  | 35, _, h => by cases h; exact Try.typeInfo35
  | 36, _, h => by cases h; exact Try.typeInfo36
  | 37, _, h => by cases h; exact Try.typeInfo37
  | 38, _, h => by cases h; exact Try.typeInfo38
  | 39, _, h => by cases h; exact Try.typeInfo39
  | 40, _, h => by cases h; exact Try.typeInfo40
  | 41, _, h => by cases h; exact Try.typeInfo41
  | 42, _, h => by cases h; exact Try.typeInfo42
  | 43, _, h => by cases h; exact Try.typeInfo43
  | 44, _, h => by cases h; exact Try.typeInfo44
  | 45, _, h => by cases h; exact Try.typeInfo45
  | 46, _, h => by cases h; exact Try.typeInfo46
  | 47, _, h => by cases h; exact Try.typeInfo47
  | 48, _, h => by cases h; exact Try.typeInfo48
  | 49, _, h => by cases h; exact Try.typeInfo49
  | 50, _, h => by cases h; exact Try.typeInfo50
  | 51, _, h => by cases h; exact Try.typeInfo51
  | 52, _, h => by cases h; exact Try.typeInfo52
  | 53, _, h => by cases h; exact Try.typeInfo53
  | 54, _, h => by cases h; exact Try.typeInfo54
  | 55, _, h => by cases h; exact Try.typeInfo55
  | 56, _, h => by cases h; exact Try.typeInfo56
  | 57, _, h => by cases h; exact Try.typeInfo57
  | 58, _, h => by cases h; exact Try.typeInfo58
  | 59, _, h => by cases h; exact Try.typeInfo59
  | 60, _, h => by cases h; exact Try.typeInfo60
  | 61, _, h => by cases h; exact Try.typeInfo61
  | 62, _, h => by cases h; exact Try.typeInfo62
  | 63, _, h => by cases h; exact Try.typeInfo63
  | 64, _, h => by cases h; exact Try.typeInfo64
  | 65, _, h => by cases h; exact Try.typeInfo65
  | 66, _, h => by cases h; exact Try.typeInfo66
  | 67, _, h => by cases h; exact Try.typeInfo67
  | 68, _, h => by cases h; exact Try.typeInfo68
  | 69, _, h => by cases h; exact Try.typeInfo69
  | 70, _, h => by cases h; exact Try.typeInfo70
  | 71, _, h => by cases h; exact Try.typeInfo71
  | 72, _, h => by cases h; exact Try.typeInfo72
  | 73, _, h => by cases h; exact Try.typeInfo73
  | 74, _, h => by cases h; exact Try.typeInfo74
  | 75, _, h => by cases h; exact Try.typeInfo75
  | 76, _, h => by cases h; exact Try.typeInfo76
  | 77, _, h => by cases h; exact Try.typeInfo77
  | 78, _, h => by cases h; exact Try.typeInfo78
  | 79, _, h => by cases h; exact Try.typeInfo79
  | 80, _, h => by cases h; exact Try.typeInfo80
  | 81, _, h => by cases h; exact Try.typeInfo81
  | 82, _, h => by cases h; exact Try.typeInfo82
  | 83, _, h => by cases h; exact Try.typeInfo83
  | 84, _, h => by cases h; exact Try.typeInfo84
  | 85, _, h => by cases h; exact Try.typeInfo85
  | 86, _, h => by cases h; exact Try.typeInfo86
  | 87, _, h => by cases h; exact Try.typeInfo87
  | 88, _, h => by cases h; exact Try.typeInfo88
  | 89, _, h => by cases h; exact Try.typeInfo89
  | 90, _, h => by cases h; exact Try.typeInfo90
  | 91, _, h => by cases h; exact Try.typeInfo91
  | 92, _, h => by cases h; exact Try.typeInfo92
  | 93, _, h => by cases h; exact Try.typeInfo93
  | 94, _, h => by cases h; exact Try.typeInfo94
  | 95, _, h => by cases h; exact Try.typeInfo95
  | 96, _, h => by cases h; exact Try.typeInfo96
  | 97, _, h => by cases h; exact Try.typeInfo97
  | 98, _, h => by cases h; exact Try.typeInfo98
  | 99, _, h => by cases h; exact Try.typeInfo99
  | 100, _, h => by cases h; exact Try.typeInfo100
  | 101, _, h => by cases h; exact Try.typeInfo101
  | 102, _, h => by cases h; exact Try.typeInfo102
  | 103, _, h => by cases h; exact Try.typeInfo103
  | 104, _, h => by cases h; exact Try.typeInfo104
  | 105, _, h => by cases h; exact Try.typeInfo105
  | 106, _, h => by cases h; exact Try.typeInfo106
  | 107, _, h => by cases h; exact Try.typeInfo107
  | 108, _, h => by cases h; exact Try.typeInfo108
  | 109, _, h => by cases h; exact Try.typeInfo109
  | 110, _, h => by cases h; exact Try.typeInfo110
  | 111, _, h => by cases h; exact Try.typeInfo111
  | 112, _, h => by cases h; exact Try.typeInfo112
  | 113, _, h => by cases h; exact Try.typeInfo113
  | 114, _, h => by cases h; exact Try.typeInfo114
  | 115, _, h => by cases h; exact Try.typeInfo115
  | 116, _, h => by cases h; exact Try.typeInfo116
  | 117, _, h => by cases h; exact Try.typeInfo117
  | 118, _, h => by cases h; exact Try.typeInfo118
  | 119, _, h => by cases h; exact Try.typeInfo119
  | 120, _, h => by cases h; exact Try.typeInfo120
  | 121, _, h => by cases h; exact Try.typeInfo121
  | 122, _, h => by cases h; exact Try.typeInfo122
  | 123, _, h => by cases h; exact Try.typeInfo123
  | 124, _, h => by cases h; exact Try.typeInfo124
  | n + 125, _, h => by simp [tyT] at h

noncomputable def unT (t : Nat) : Option TypeDesc :=
  match (tyT t).map TypeInfo.desc with
  | some (TypeDesc.named _ u) => (tyT u).map TypeInfo.desc
  | d => d

def szT (t : Nat) : Option Nat :=
  match t with
  | 0 => some 1
  | 1 => some 1
  | 2 => some 1
  | 3 => some 1
  | 4 => some 1
  | 5 => some 1
  | 6 => some 1
  | 7 => some 4
  | 8 => some 4
  | 9 => some 1
  | 10 => some 1
  | 11 => some 1
  | 12 => some 1
  | 13 => some 2
  | 14 => some 2
  | 15 => some 1
  | 16 => some 1
  | 17 => some 1
  | 18 => some 1
  | 19 => some 1
  | 20 => some 1
  | 21 => some 1
  | 22 => some 2
  | 23 => some 2
  | 24 => some 8
  | 25 => some 4
  | 26 => some 1
  | 27 => some 43
  | 28 => some 43
  | 29 => some 1
  | 30 => some 1
  | 31 => some 1
  | 32 => some 47
  | 33 => some 47
  | 34 => some 1
  | 35 => some 1
  | 36 => some 1
  | 37 => some 1
  | 38 => some 1
  | 39 => some 1
  | 40 => some 1
  | 41 => some 1
  | 42 => some 1
  | 43 => some 1
  | 44 => some 1
  | 45 => some 5
  | 46 => some 5
  | 47 => some 3
  | 48 => some 3
  | 49 => some 1
  | 50 => some 1
  | 51 => some 1
  | 52 => some 1
  | 53 => some 1
  | 54 => some 1
  | 55 => some 1
  | 56 => some 1
  | 57 => some 1
  | 58 => some 1
  | 59 => some 1
  | 60 => some 1
  | 61 => some 51
  | 62 => some 51
  | 63 => some 1
  | 64 => some 1
  | 65 => some 46
  | 66 => some 46
  | 67 => some 1
  | 68 => some 1
  | 69 => some 1
  | 70 => some 1
  | 71 => some 1
  | 72 => some 1
  | 73 => some 1
  | 74 => some 1
  | 75 => some 1
  | 76 => some 7
  | 77 => some 7
  | 78 => some 1
  | 79 => some 1
  | 80 => some 1
  | 81 => some 1
  | 82 => some 1
  | 83 => some 1
  | 84 => some 1
  | 85 => some 3
  | 86 => some 3
  | 87 => some 5
  | 88 => some 5
  | 89 => some 1
  | 90 => some 1
  | 91 => some 4
  | 92 => some 4
  | 93 => some 1
  | 94 => some 50
  | 95 => some 50
  | 96 => some 1
  | 97 => some 1
  | 98 => some 1
  | 99 => some 1
  | 100 => some 1
  | 101 => some 4
  | 102 => some 1
  | 103 => some 1
  | 104 => some 1
  | 105 => some 1
  | 106 => some 2
  | 107 => some 1
  | 108 => some 1
  | 109 => some 1
  | 110 => some 4
  | 111 => some 4
  | 112 => some 0
  | 113 => some 0
  | 114 => some 0
  | 115 => some 1
  | 116 => some 1
  | 117 => some 1
  | 118 => some 1
  | 119 => some 1
  | 120 => some 1
  | 121 => some 1
  | 122 => some 11
  | 123 => some 11
  | 124 => some 1
  | _ => none

theorem szT_spec : ∀ (t c : Nat), szT t = some c → ∀ w, (sizeOf t).run Try.prog w = .ok c w
  | 0, _, h => by cases h; exact Try.sizeOf0
  | 1, _, h => by cases h; exact Try.sizeOf1
  | 2, _, h => by cases h; exact Try.sizeOf2
  | 3, _, h => by cases h; exact Try.sizeOf3
  | 4, _, h => by cases h; exact Try.sizeOf4
  | 5, _, h => by cases h; exact Try.sizeOf5
  | 6, _, h => by cases h; exact Try.sizeOf6
  | 7, _, h => by cases h; exact Try.sizeOf7
  | 8, _, h => by cases h; exact Try.sizeOf8
  | 9, _, h => by cases h; exact Try.sizeOf9
  | 10, _, h => by cases h; exact Try.sizeOf10
  | 11, _, h => by cases h; exact Try.sizeOf11
  | 12, _, h => by cases h; exact Try.sizeOf12
  | 13, _, h => by cases h; exact Try.sizeOf13
  | 14, _, h => by cases h; exact Try.sizeOf14
  | 15, _, h => by cases h; exact Try.sizeOf15
  | 16, _, h => by cases h; exact Try.sizeOf16
  | 17, _, h => by cases h; exact Try.sizeOf17
  | 18, _, h => by cases h; exact Try.sizeOf18
  | 19, _, h => by cases h; exact Try.sizeOf19
  | 20, _, h => by cases h; exact Try.sizeOf20
  | 21, _, h => by cases h; exact Try.sizeOf21
  | 22, _, h => by cases h; exact Try.sizeOf22
  | 23, _, h => by cases h; exact Try.sizeOf23
  | 24, _, h => by cases h; exact Try.sizeOf24
  | 25, _, h => by cases h; exact Try.sizeOf25
  | 26, _, h => by cases h; exact Try.sizeOf26
  | 27, _, h => by cases h; exact Try.sizeOf27
  | 28, _, h => by cases h; exact Try.sizeOf28
  | 29, _, h => by cases h; exact Try.sizeOf29
  | 30, _, h => by cases h; exact Try.sizeOf30
  | 31, _, h => by cases h; exact Try.sizeOf31
  | 32, _, h => by cases h; exact Try.sizeOf32
  | 33, _, h => by cases h; exact Try.sizeOf33
  | 34, _, h => by cases h; exact Try.sizeOf34
  | 35, _, h => by cases h; exact Try.sizeOf35
  | 36, _, h => by cases h; exact Try.sizeOf36
  | 37, _, h => by cases h; exact Try.sizeOf37
  | 38, _, h => by cases h; exact Try.sizeOf38
  | 39, _, h => by cases h; exact Try.sizeOf39
  | 40, _, h => by cases h; exact Try.sizeOf40
  | 41, _, h => by cases h; exact Try.sizeOf41
  | 42, _, h => by cases h; exact Try.sizeOf42
  | 43, _, h => by cases h; exact Try.sizeOf43
  | 44, _, h => by cases h; exact Try.sizeOf44
  | 45, _, h => by cases h; exact Try.sizeOf45
  | 46, _, h => by cases h; exact Try.sizeOf46
  | 47, _, h => by cases h; exact Try.sizeOf47
  | 48, _, h => by cases h; exact Try.sizeOf48
  | 49, _, h => by cases h; exact Try.sizeOf49
  | 50, _, h => by cases h; exact Try.sizeOf50
  | 51, _, h => by cases h; exact Try.sizeOf51
  | 52, _, h => by cases h; exact Try.sizeOf52
  | 53, _, h => by cases h; exact Try.sizeOf53
  | 54, _, h => by cases h; exact Try.sizeOf54
  | 55, _, h => by cases h; exact Try.sizeOf55
  | 56, _, h => by cases h; exact Try.sizeOf56
  | 57, _, h => by cases h; exact Try.sizeOf57
  | 58, _, h => by cases h; exact Try.sizeOf58
  | 59, _, h => by cases h; exact Try.sizeOf59
  | 60, _, h => by cases h; exact Try.sizeOf60
  | 61, _, h => by cases h; exact Try.sizeOf61
  | 62, _, h => by cases h; exact Try.sizeOf62
  | 63, _, h => by cases h; exact Try.sizeOf63
  | 64, _, h => by cases h; exact Try.sizeOf64
  | 65, _, h => by cases h; exact Try.sizeOf65
  | 66, _, h => by cases h; exact Try.sizeOf66
  | 67, _, h => by cases h; exact Try.sizeOf67
  | 68, _, h => by cases h; exact Try.sizeOf68
  | 69, _, h => by cases h; exact Try.sizeOf69
  | 70, _, h => by cases h; exact Try.sizeOf70
  | 71, _, h => by cases h; exact Try.sizeOf71
  | 72, _, h => by cases h; exact Try.sizeOf72
  | 73, _, h => by cases h; exact Try.sizeOf73
  | 74, _, h => by cases h; exact Try.sizeOf74
  | 75, _, h => by cases h; exact Try.sizeOf75
  | 76, _, h => by cases h; exact Try.sizeOf76
  | 77, _, h => by cases h; exact Try.sizeOf77
  | 78, _, h => by cases h; exact Try.sizeOf78
  | 79, _, h => by cases h; exact Try.sizeOf79
  | 80, _, h => by cases h; exact Try.sizeOf80
  | 81, _, h => by cases h; exact Try.sizeOf81
  | 82, _, h => by cases h; exact Try.sizeOf82
  | 83, _, h => by cases h; exact Try.sizeOf83
  | 84, _, h => by cases h; exact Try.sizeOf84
  | 85, _, h => by cases h; exact Try.sizeOf85
  | 86, _, h => by cases h; exact Try.sizeOf86
  | 87, _, h => by cases h; exact Try.sizeOf87
  | 88, _, h => by cases h; exact Try.sizeOf88
  | 89, _, h => by cases h; exact Try.sizeOf89
  | 90, _, h => by cases h; exact Try.sizeOf90
  | 91, _, h => by cases h; exact Try.sizeOf91
  | 92, _, h => by cases h; exact Try.sizeOf92
  | 93, _, h => by cases h; exact Try.sizeOf93
  | 94, _, h => by cases h; exact Try.sizeOf94
  | 95, _, h => by cases h; exact Try.sizeOf95
  | 96, _, h => by cases h; exact Try.sizeOf96
  | 97, _, h => by cases h; exact Try.sizeOf97
  | 98, _, h => by cases h; exact Try.sizeOf98
  | 99, _, h => by cases h; exact Try.sizeOf99
  | 100, _, h => by cases h; exact Try.sizeOf100
  | 101, _, h => by cases h; exact Try.sizeOf101
  | 102, _, h => by cases h; exact Try.sizeOf102
  | 103, _, h => by cases h; exact Try.sizeOf103
  | 104, _, h => by cases h; exact Try.sizeOf104
  | 105, _, h => by cases h; exact Try.sizeOf105
  | 106, _, h => by cases h; exact Try.sizeOf106
  | 107, _, h => by cases h; exact Try.sizeOf107
  | 108, _, h => by cases h; exact Try.sizeOf108
  | 109, _, h => by cases h; exact Try.sizeOf109
  | 110, _, h => by cases h; exact Try.sizeOf110
  | 111, _, h => by cases h; exact Try.sizeOf111
  | 112, _, h => by cases h; exact Try.sizeOf112
  | 113, _, h => by cases h; exact Try.sizeOf113
  | 114, _, h => by cases h; exact Try.sizeOf114
  | 115, _, h => by cases h; exact Try.sizeOf115
  | 116, _, h => by cases h; exact Try.sizeOf116
  | 117, _, h => by cases h; exact Try.sizeOf117
  | 118, _, h => by cases h; exact Try.sizeOf118
  | 119, _, h => by cases h; exact Try.sizeOf119
  | 120, _, h => by cases h; exact Try.sizeOf120
  | 121, _, h => by cases h; exact Try.sizeOf121
  | 122, _, h => by cases h; exact Try.sizeOf122
  | 123, _, h => by cases h; exact Try.sizeOf123
  | 124, _, h => by cases h; exact Try.sizeOf124
  | n + 125, _, h => by simp [szT] at h

theorem unT_spec : ∀ (t : Nat) (d : TypeDesc), unT t = some d → Try.prog.underlying t = some d
  | 0, _, h => Try.underlying0.trans h
  | 1, _, h => Try.underlying1.trans h
  | 2, _, h => Try.underlying2.trans h
  | 3, _, h => Try.underlying3.trans h
  | 4, _, h => Try.underlying4.trans h
  | 5, _, h => Try.underlying5.trans h
  | 6, _, h => Try.underlying6.trans h
  | 7, _, h => Try.underlying7.trans h
  | 8, _, h => Try.underlying8.trans h
  | 9, _, h => Try.underlying9.trans h
  | 10, _, h => Try.underlying10.trans h
  | 11, _, h => Try.underlying11.trans h
  | 12, _, h => Try.underlying12.trans h
  | 13, _, h => Try.underlying13.trans h
  | 14, _, h => Try.underlying14.trans h
  | 15, _, h => Try.underlying15.trans h
  | 16, _, h => Try.underlying16.trans h
  | 17, _, h => Try.underlying17.trans h
  | 18, _, h => Try.underlying18.trans h
  | 19, _, h => Try.underlying19.trans h
  | 20, _, h => Try.underlying20.trans h
  | 21, _, h => Try.underlying21.trans h
  | 22, _, h => Try.underlying22.trans h
  | 23, _, h => Try.underlying23.trans h
  | 24, _, h => Try.underlying24.trans h
  | 25, _, h => Try.underlying25.trans h
  | 26, _, h => Try.underlying26.trans h
  | 27, _, h => Try.underlying27.trans h
  | 28, _, h => Try.underlying28.trans h
  | 29, _, h => Try.underlying29.trans h
  | 30, _, h => Try.underlying30.trans h
  | 31, _, h => Try.underlying31.trans h
  | 32, _, h => Try.underlying32.trans h
  | 33, _, h => Try.underlying33.trans h
  | 34, _, h => Try.underlying34.trans h
  | 35, _, h => Try.underlying35.trans h
  | 36, _, h => Try.underlying36.trans h
  | 37, _, h => Try.underlying37.trans h
  | 38, _, h => Try.underlying38.trans h
  | 39, _, h => Try.underlying39.trans h
  | 40, _, h => Try.underlying40.trans h
  | 41, _, h => Try.underlying41.trans h
  | 42, _, h => Try.underlying42.trans h
  | 43, _, h => Try.underlying43.trans h
  | 44, _, h => Try.underlying44.trans h
  | 45, _, h => Try.underlying45.trans h
  | 46, _, h => Try.underlying46.trans h
  | 47, _, h => Try.underlying47.trans h
  | 48, _, h => Try.underlying48.trans h
  | 49, _, h => Try.underlying49.trans h
  | 50, _, h => Try.underlying50.trans h
  | 51, _, h => Try.underlying51.trans h
  | 52, _, h => Try.underlying52.trans h
  | 53, _, h => Try.underlying53.trans h
  | 54, _, h => Try.underlying54.trans h
  | 55, _, h => Try.underlying55.trans h
  | 56, _, h => Try.underlying56.trans h
  | 57, _, h => Try.underlying57.trans h
  | 58, _, h => Try.underlying58.trans h
  | 59, _, h => Try.underlying59.trans h
  | 60, _, h => Try.underlying60.trans h
  | 61, _, h => Try.underlying61.trans h
  | 62, _, h => Try.underlying62.trans h
  | 63, _, h => Try.underlying63.trans h
  | 64, _, h => Try.underlying64.trans h
  | 65, _, h => Try.underlying65.trans h
  | 66, _, h => Try.underlying66.trans h
  | 67, _, h => Try.underlying67.trans h
  | 68, _, h => Try.underlying68.trans h
  | 69, _, h => Try.underlying69.trans h
  | 70, _, h => Try.underlying70.trans h
  | 71, _, h => Try.underlying71.trans h
  | 72, _, h => Try.underlying72.trans h
  | 73, _, h => Try.underlying73.trans h
  | 74, _, h => Try.underlying74.trans h
  | 75, _, h => Try.underlying75.trans h
  | 76, _, h => Try.underlying76.trans h
  | 77, _, h => Try.underlying77.trans h
  | 78, _, h => Try.underlying78.trans h
  | 79, _, h => Try.underlying79.trans h
  | 80, _, h => Try.underlying80.trans h
  | 81, _, h => Try.underlying81.trans h
  | 82, _, h => Try.underlying82.trans h
  | 83, _, h => Try.underlying83.trans h
  | 84, _, h => Try.underlying84.trans h
  | 85, _, h => Try.underlying85.trans h
  | 86, _, h => Try.underlying86.trans h
  | 87, _, h => Try.underlying87.trans h
  | 88, _, h => Try.underlying88.trans h
  | 89, _, h => Try.underlying89.trans h
  | 90, _, h => Try.underlying90.trans h
  | 91, _, h => Try.underlying91.trans h
  | 92, _, h => Try.underlying92.trans h
  | 93, _, h => Try.underlying93.trans h
  | 94, _, h => Try.underlying94.trans h
  | 95, _, h => Try.underlying95.trans h
  | 96, _, h => Try.underlying96.trans h
  | 97, _, h => Try.underlying97.trans h
  | 98, _, h => Try.underlying98.trans h
  | 99, _, h => Try.underlying99.trans h
  | 100, _, h => Try.underlying100.trans h
  | 101, _, h => Try.underlying101.trans h
  | 102, _, h => Try.underlying102.trans h
  | 103, _, h => Try.underlying103.trans h
  | 104, _, h => Try.underlying104.trans h
  | 105, _, h => Try.underlying105.trans h
  | 106, _, h => Try.underlying106.trans h
  | 107, _, h => Try.underlying107.trans h
  | 108, _, h => Try.underlying108.trans h
  | 109, _, h => Try.underlying109.trans h
  | 110, _, h => Try.underlying110.trans h
  | 111, _, h => Try.underlying111.trans h
  | 112, _, h => Try.underlying112.trans h
  | 113, _, h => Try.underlying113.trans h
  | 114, _, h => Try.underlying114.trans h
  | 115, _, h => Try.underlying115.trans h
  | 116, _, h => Try.underlying116.trans h
  | 117, _, h => Try.underlying117.trans h
  | 118, _, h => Try.underlying118.trans h
  | 119, _, h => Try.underlying119.trans h
  | 120, _, h => Try.underlying120.trans h
  | 121, _, h => Try.underlying121.trans h
  | 122, _, h => Try.underlying122.trans h
  | 123, _, h => Try.underlying123.trans h
  | 124, _, h => Try.underlying124.trans h
  | n + 125, _, h => by simp [unT, tyT] at h

theorem tU {t : Nat} {d : TypeDesc} (h : unT t = some d) : ∀ w, (underlying t).run Try.prog w = .ok d w := fun w => run_underlying (unT_spec t d h) w
theorem tS {t c : Nat} (h : szT t = some c) : ∀ w, (sizeOf t).run Try.prog w = .ok c w := szT_spec t c h
theorem tZ {t : Nat} {z : Value} (h : (tyT t).bind (·.zero) = some z) : ∀ w, (zeroValue t).run Try.prog w = .ok z w := fun w => by
  cases e : tyT t with
  | none => rw [e] at h; cases h
  | some i =>
    rw [e] at h
    have h : i.zero = some z := h
    simp [zeroValue, tyT_spec t i e, h]
def foT7 (f : Nat) : Option Nat :=
  match f with
  | 0 => some 0
  | 1 => some 1
  | 2 => some 2
  | 3 => some 3
  | _ => none
def foT8 (f : Nat) : Option Nat :=
  match f with
  | 0 => some 0
  | 1 => some 1
  | 2 => some 2
  | 3 => some 3
  | _ => none
def foT13 (f : Nat) : Option Nat :=
  match f with
  | 0 => some 0
  | 1 => some 1
  | _ => none
def foT14 (f : Nat) : Option Nat :=
  match f with
  | 0 => some 0
  | 1 => some 1
  | _ => none
def foT18 (f : Nat) : Option Nat :=
  match f with
  | 0 => some 0
  | _ => none
def foT19 (f : Nat) : Option Nat :=
  match f with
  | 0 => some 0
  | _ => none
def foT22 (f : Nat) : Option Nat :=
  match f with
  | 0 => some 0
  | 1 => some 1
  | _ => none
def foT23 (f : Nat) : Option Nat :=
  match f with
  | 0 => some 0
  | 1 => some 1
  | _ => none
def foT27 (f : Nat) : Option Nat :=
  match f with
  | 0 => some 0
  | 1 => some 1
  | 2 => some 2
  | 3 => some 3
  | 4 => some 4
  | 5 => some 6
  | 6 => some 8
  | 7 => some 10
  | 8 => some 12
  | 9 => some 14
  | 10 => some 16
  | 11 => some 24
  | 12 => some 28
  | 13 => some 32
  | 14 => some 33
  | 15 => some 34
  | 16 => some 35
  | 17 => some 36
  | 18 => some 37
  | 19 => some 38
  | 20 => some 39
  | 21 => some 40
  | 22 => some 42
  | _ => none
def foT28 (f : Nat) : Option Nat :=
  match f with
  | 0 => some 0
  | 1 => some 1
  | 2 => some 2
  | 3 => some 3
  | 4 => some 4
  | 5 => some 6
  | 6 => some 8
  | 7 => some 10
  | 8 => some 12
  | 9 => some 14
  | 10 => some 16
  | 11 => some 24
  | 12 => some 28
  | 13 => some 32
  | 14 => some 33
  | 15 => some 34
  | 16 => some 35
  | 17 => some 36
  | 18 => some 37
  | 19 => some 38
  | 20 => some 39
  | 21 => some 40
  | 22 => some 42
  | _ => none
def foT32 (f : Nat) : Option Nat :=
  match f with
  | 0 => some 0
  | 1 => some 43
  | 2 => some 44
  | 3 => some 45
  | 4 => some 46
  | _ => none
def foT33 (f : Nat) : Option Nat :=
  match f with
  | 0 => some 0
  | 1 => some 43
  | 2 => some 44
  | 3 => some 45
  | 4 => some 46
  | _ => none
def foT45 (f : Nat) : Option Nat :=
  match f with
  | 0 => some 0
  | 1 => some 1
  | 2 => some 2
  | 3 => some 3
  | 4 => some 4
  | _ => none
def foT46 (f : Nat) : Option Nat :=
  match f with
  | 0 => some 0
  | 1 => some 1
  | 2 => some 2
  | 3 => some 3
  | 4 => some 4
  | _ => none
def foT47 (f : Nat) : Option Nat :=
  match f with
  | 0 => some 0
  | 1 => some 1
  | 2 => some 2
  | _ => none
def foT48 (f : Nat) : Option Nat :=
  match f with
  | 0 => some 0
  | 1 => some 1
  | 2 => some 2
  | _ => none
def foT61 (f : Nat) : Option Nat :=
  match f with
  | 0 => some 0
  | 1 => some 43
  | 2 => some 44
  | 3 => some 45
  | 4 => some 46
  | 5 => some 47
  | 6 => some 48
  | 7 => some 49
  | 8 => some 50
  | _ => none
def foT62 (f : Nat) : Option Nat :=
  match f with
  | 0 => some 0
  | 1 => some 43
  | 2 => some 44
  | 3 => some 45
  | 4 => some 46
  | 5 => some 47
  | 6 => some 48
  | 7 => some 49
  | 8 => some 50
  | _ => none
def foT65 (f : Nat) : Option Nat :=
  match f with
  | 0 => some 0
  | 1 => some 43
  | 2 => some 44
  | 3 => some 45
  | _ => none
def foT66 (f : Nat) : Option Nat :=
  match f with
  | 0 => some 0
  | 1 => some 43
  | 2 => some 44
  | 3 => some 45
  | _ => none
def foT76 (f : Nat) : Option Nat :=
  match f with
  | 0 => some 0
  | 1 => some 1
  | 2 => some 2
  | 3 => some 3
  | 4 => some 6
  | _ => none
def foT77 (f : Nat) : Option Nat :=
  match f with
  | 0 => some 0
  | 1 => some 1
  | 2 => some 2
  | 3 => some 3
  | 4 => some 6
  | _ => none
def foT85 (f : Nat) : Option Nat :=
  match f with
  | 0 => some 0
  | 1 => some 1
  | 2 => some 2
  | _ => none
def foT86 (f : Nat) : Option Nat :=
  match f with
  | 0 => some 0
  | 1 => some 1
  | 2 => some 2
  | _ => none
def foT87 (f : Nat) : Option Nat :=
  match f with
  | 0 => some 0
  | 1 => some 1
  | 2 => some 2
  | 3 => some 3
  | 4 => some 4
  | _ => none
def foT88 (f : Nat) : Option Nat :=
  match f with
  | 0 => some 0
  | 1 => some 1
  | 2 => some 2
  | 3 => some 3
  | 4 => some 4
  | _ => none
def foT91 (f : Nat) : Option Nat :=
  match f with
  | 0 => some 0
  | 1 => some 1
  | 2 => some 2
  | 3 => some 3
  | _ => none
def foT92 (f : Nat) : Option Nat :=
  match f with
  | 0 => some 0
  | 1 => some 1
  | 2 => some 2
  | 3 => some 3
  | _ => none
def foT94 (f : Nat) : Option Nat :=
  match f with
  | 0 => some 0
  | 1 => some 43
  | 2 => some 44
  | 3 => some 45
  | 4 => some 46
  | 5 => some 47
  | 6 => some 48
  | 7 => some 49
  | _ => none
def foT95 (f : Nat) : Option Nat :=
  match f with
  | 0 => some 0
  | 1 => some 43
  | 2 => some 44
  | 3 => some 45
  | 4 => some 46
  | 5 => some 47
  | 6 => some 48
  | 7 => some 49
  | _ => none
def foT106 (f : Nat) : Option Nat :=
  match f with
  | 0 => some 0
  | 1 => some 1
  | _ => none
def foT110 (f : Nat) : Option Nat :=
  match f with
  | 0 => some 0
  | 1 => some 1
  | 2 => some 2
  | 3 => some 3
  | _ => none
def foT111 (f : Nat) : Option Nat :=
  match f with
  | 0 => some 0
  | 1 => some 1
  | 2 => some 2
  | 3 => some 3
  | _ => none
def foT122 (f : Nat) : Option Nat :=
  match f with
  | 0 => some 0
  | 1 => some 1
  | 2 => some 2
  | 3 => some 3
  | 4 => some 4
  | 5 => some 5
  | 6 => some 6
  | 7 => some 7
  | 8 => some 8
  | 9 => some 9
  | 10 => some 10
  | _ => none
def foT123 (f : Nat) : Option Nat :=
  match f with
  | 0 => some 0
  | 1 => some 1
  | 2 => some 2
  | 3 => some 3
  | 4 => some 4
  | 5 => some 5
  | 6 => some 6
  | 7 => some 7
  | 8 => some 8
  | 9 => some 9
  | 10 => some 10
  | _ => none
def foT (t f : Nat) : Option Nat :=
  match t with
  | 7 => foT7 f
  | 8 => foT8 f
  | 13 => foT13 f
  | 14 => foT14 f
  | 18 => foT18 f
  | 19 => foT19 f
  | 22 => foT22 f
  | 23 => foT23 f
  | 27 => foT27 f
  | 28 => foT28 f
  | 32 => foT32 f
  | 33 => foT33 f
  | 45 => foT45 f
  | 46 => foT46 f
  | 47 => foT47 f
  | 48 => foT48 f
  | 61 => foT61 f
  | 62 => foT62 f
  | 65 => foT65 f
  | 66 => foT66 f
  | 76 => foT76 f
  | 77 => foT77 f
  | 85 => foT85 f
  | 86 => foT86 f
  | 87 => foT87 f
  | 88 => foT88 f
  | 91 => foT91 f
  | 92 => foT92 f
  | 94 => foT94 f
  | 95 => foT95 f
  | 106 => foT106 f
  | 110 => foT110 f
  | 111 => foT111 f
  | 122 => foT122 f
  | 123 => foT123 f
  | _ => none
theorem tFo7 (f c : Nat) (h : foT7 f = some c) : ∀ b o w, (Instr.fieldAt 7 (.pointer (some ⟨b, o, none⟩)) f).run Try.prog w = .ok (.pointer (some ⟨b, o + c, none⟩)) w := by
  unfold foT7 at h; split at h
  · cases h; intro b o w; refine (fieldAt_run (tU rfl) (f := 0) (by rfl) (tS (by rfl)) (by decide) b o w).trans ?_; rfl
  · cases h; intro b o w; refine (fieldAt_run (tU rfl) (f := 1) (by rfl) (tS (by rfl)) (by decide) b o w).trans ?_; rfl
  · cases h; intro b o w; refine (fieldAt_run (tU rfl) (f := 2) (by rfl) (tS (by rfl)) (by decide) b o w).trans ?_; rfl
  · cases h; intro b o w; refine (fieldAt_run (tU rfl) (f := 3) (by rfl) (tS (by rfl)) (by decide) b o w).trans ?_; rfl
  · cases h
theorem tFo8 (f c : Nat) (h : foT8 f = some c) : ∀ b o w, (Instr.fieldAt 8 (.pointer (some ⟨b, o, none⟩)) f).run Try.prog w = .ok (.pointer (some ⟨b, o + c, none⟩)) w := by
  unfold foT8 at h; split at h
  · cases h; intro b o w; refine (fieldAt_run (tU rfl) (f := 0) (by rfl) (tS (by rfl)) (by decide) b o w).trans ?_; rfl
  · cases h; intro b o w; refine (fieldAt_run (tU rfl) (f := 1) (by rfl) (tS (by rfl)) (by decide) b o w).trans ?_; rfl
  · cases h; intro b o w; refine (fieldAt_run (tU rfl) (f := 2) (by rfl) (tS (by rfl)) (by decide) b o w).trans ?_; rfl
  · cases h; intro b o w; refine (fieldAt_run (tU rfl) (f := 3) (by rfl) (tS (by rfl)) (by decide) b o w).trans ?_; rfl
  · cases h
theorem tFo13 (f c : Nat) (h : foT13 f = some c) : ∀ b o w, (Instr.fieldAt 13 (.pointer (some ⟨b, o, none⟩)) f).run Try.prog w = .ok (.pointer (some ⟨b, o + c, none⟩)) w := by
  unfold foT13 at h; split at h
  · cases h; intro b o w; refine (fieldAt_run (tU rfl) (f := 0) (by rfl) (tS (by rfl)) (by decide) b o w).trans ?_; rfl
  · cases h; intro b o w; refine (fieldAt_run (tU rfl) (f := 1) (by rfl) (tS (by rfl)) (by decide) b o w).trans ?_; rfl
  · cases h
theorem tFo14 (f c : Nat) (h : foT14 f = some c) : ∀ b o w, (Instr.fieldAt 14 (.pointer (some ⟨b, o, none⟩)) f).run Try.prog w = .ok (.pointer (some ⟨b, o + c, none⟩)) w := by
  unfold foT14 at h; split at h
  · cases h; intro b o w; refine (fieldAt_run (tU rfl) (f := 0) (by rfl) (tS (by rfl)) (by decide) b o w).trans ?_; rfl
  · cases h; intro b o w; refine (fieldAt_run (tU rfl) (f := 1) (by rfl) (tS (by rfl)) (by decide) b o w).trans ?_; rfl
  · cases h
theorem tFo18 (f c : Nat) (h : foT18 f = some c) : ∀ b o w, (Instr.fieldAt 18 (.pointer (some ⟨b, o, none⟩)) f).run Try.prog w = .ok (.pointer (some ⟨b, o + c, none⟩)) w := by
  unfold foT18 at h; split at h
  · cases h; intro b o w; refine (fieldAt_run (tU rfl) (f := 0) (by rfl) (tS (by rfl)) (by decide) b o w).trans ?_; rfl
  · cases h
theorem tFo19 (f c : Nat) (h : foT19 f = some c) : ∀ b o w, (Instr.fieldAt 19 (.pointer (some ⟨b, o, none⟩)) f).run Try.prog w = .ok (.pointer (some ⟨b, o + c, none⟩)) w := by
  unfold foT19 at h; split at h
  · cases h; intro b o w; refine (fieldAt_run (tU rfl) (f := 0) (by rfl) (tS (by rfl)) (by decide) b o w).trans ?_; rfl
  · cases h
theorem tFo22 (f c : Nat) (h : foT22 f = some c) : ∀ b o w, (Instr.fieldAt 22 (.pointer (some ⟨b, o, none⟩)) f).run Try.prog w = .ok (.pointer (some ⟨b, o + c, none⟩)) w := by
  unfold foT22 at h; split at h
  · cases h; intro b o w; refine (fieldAt_run (tU rfl) (f := 0) (by rfl) (tS (by rfl)) (by decide) b o w).trans ?_; rfl
  · cases h; intro b o w; refine (fieldAt_run (tU rfl) (f := 1) (by rfl) (tS (by rfl)) (by decide) b o w).trans ?_; rfl
  · cases h
theorem tFo23 (f c : Nat) (h : foT23 f = some c) : ∀ b o w, (Instr.fieldAt 23 (.pointer (some ⟨b, o, none⟩)) f).run Try.prog w = .ok (.pointer (some ⟨b, o + c, none⟩)) w := by
  unfold foT23 at h; split at h
  · cases h; intro b o w; refine (fieldAt_run (tU rfl) (f := 0) (by rfl) (tS (by rfl)) (by decide) b o w).trans ?_; rfl
  · cases h; intro b o w; refine (fieldAt_run (tU rfl) (f := 1) (by rfl) (tS (by rfl)) (by decide) b o w).trans ?_; rfl
  · cases h
theorem tFo27 (f c : Nat) (h : foT27 f = some c) : ∀ b o w, (Instr.fieldAt 27 (.pointer (some ⟨b, o, none⟩)) f).run Try.prog w = .ok (.pointer (some ⟨b, o + c, none⟩)) w := by
  unfold foT27 at h; split at h
  · cases h; intro b o w; refine (fieldAt_run (tU rfl) (f := 0) (by rfl) (tS (by rfl)) (by decide) b o w).trans ?_; rfl
  · cases h; intro b o w; refine (fieldAt_run (tU rfl) (f := 1) (by rfl) (tS (by rfl)) (by decide) b o w).trans ?_; rfl
  · cases h; intro b o w; refine (fieldAt_run (tU rfl) (f := 2) (by rfl) (tS (by rfl)) (by decide) b o w).trans ?_; rfl
  · cases h; intro b o w; refine (fieldAt_run (tU rfl) (f := 3) (by rfl) (tS (by rfl)) (by decide) b o w).trans ?_; rfl
  · cases h; intro b o w; refine (fieldAt_run (tU rfl) (f := 4) (by rfl) (tS (by rfl)) (by decide) b o w).trans ?_; rfl
  · cases h; intro b o w; refine (fieldAt_run (tU rfl) (f := 5) (by rfl) (tS (by rfl)) (by decide) b o w).trans ?_; rfl
  · cases h; intro b o w; refine (fieldAt_run (tU rfl) (f := 6) (by rfl) (tS (by rfl)) (by decide) b o w).trans ?_; rfl
  · cases h; intro b o w; refine (fieldAt_run (tU rfl) (f := 7) (by rfl) (tS (by rfl)) (by decide) b o w).trans ?_; rfl
  · cases h; intro b o w; refine (fieldAt_run (tU rfl) (f := 8) (by rfl) (tS (by rfl)) (by decide) b o w).trans ?_; rfl
  · cases h; intro b o w; refine (fieldAt_run (tU rfl) (f := 9) (by rfl) (tS (by rfl)) (by decide) b o w).trans ?_; rfl
  · cases h; intro b o w; refine (fieldAt_run (tU rfl) (f := 10) (by rfl) (tS (by rfl)) (by decide) b o w).trans ?_; rfl
  · cases h; intro b o w; refine (fieldAt_run (tU rfl) (f := 11) (by rfl) (tS (by rfl)) (by decide) b o w).trans ?_; rfl
  · cases h; intro b o w; refine (fieldAt_run (tU rfl) (f := 12) (by rfl) (tS (by rfl)) (by decide) b o w).trans ?_; rfl
  · cases h; intro b o w; refine (fieldAt_run (tU rfl) (f := 13) (by rfl) (tS (by rfl)) (by decide) b o w).trans ?_; rfl
  · cases h; intro b o w; refine (fieldAt_run (tU rfl) (f := 14) (by rfl) (tS (by rfl)) (by decide) b o w).trans ?_; rfl
  · cases h; intro b o w; refine (fieldAt_run (tU rfl) (f := 15) (by rfl) (tS (by rfl)) (by decide) b o w).trans ?_; rfl
  · cases h; intro b o w; refine (fieldAt_run (tU rfl) (f := 16) (by rfl) (tS (by rfl)) (by decide) b o w).trans ?_; rfl
  · cases h; intro b o w; refine (fieldAt_run (tU rfl) (f := 17) (by rfl) (tS (by rfl)) (by decide) b o w).trans ?_; rfl
  · cases h; intro b o w; refine (fieldAt_run (tU rfl) (f := 18) (by rfl) (tS (by rfl)) (by decide) b o w).trans ?_; rfl
  · cases h; intro b o w; refine (fieldAt_run (tU rfl) (f := 19) (by rfl) (tS (by rfl)) (by decide) b o w).trans ?_; rfl
  · cases h; intro b o w; refine (fieldAt_run (tU rfl) (f := 20) (by rfl) (tS (by rfl)) (by decide) b o w).trans ?_; rfl
  · cases h; intro b o w; refine (fieldAt_run (tU rfl) (f := 21) (by rfl) (tS (by rfl)) (by decide) b o w).trans ?_; rfl
  · cases h; intro b o w; refine (fieldAt_run (tU rfl) (f := 22) (by rfl) (tS (by rfl)) (by decide) b o w).trans ?_; rfl
  · cases h
theorem tFo28 (f c : Nat) (h : foT28 f = some c) : ∀ b o w, (Instr.fieldAt 28 (.pointer (some ⟨b, o, none⟩)) f).run Try.prog w = .ok (.pointer (some ⟨b, o + c, none⟩)) w := by
  unfold foT28 at h; split at h
  · cases h; intro b o w; refine (fieldAt_run (tU rfl) (f := 0) (by rfl) (tS (by rfl)) (by decide) b o w).trans ?_; rfl
  · cases h; intro b o w; refine (fieldAt_run (tU rfl) (f := 1) (by rfl) (tS (by rfl)) (by decide) b o w).trans ?_; rfl
  · cases h; intro b o w; refine (fieldAt_run (tU rfl) (f := 2) (by rfl) (tS (by rfl)) (by decide) b o w).trans ?_; rfl
  · cases h; intro b o w; refine (fieldAt_run (tU rfl) (f := 3) (by rfl) (tS (by rfl)) (by decide) b o w).trans ?_; rfl
  · cases h; intro b o w; refine (fieldAt_run (tU rfl) (f := 4) (by rfl) (tS (by rfl)) (by decide) b o w).trans ?_; rfl
  · cases h; intro b o w; refine (fieldAt_run (tU rfl) (f := 5) (by rfl) (tS (by rfl)) (by decide) b o w).trans ?_; rfl
  · cases h; intro b o w; refine (fieldAt_run (tU rfl) (f := 6) (by rfl) (tS (by rfl)) (by decide) b o w).trans ?_; rfl
  · cases h; intro b o w; refine (fieldAt_run (tU rfl) (f := 7) (by rfl) (tS (by rfl)) (by decide) b o w).trans ?_; rfl
  · cases h; intro b o w; refine (fieldAt_run (tU rfl) (f := 8) (by rfl) (tS (by rfl)) (by decide) b o w).trans ?_; rfl
  · cases h; intro b o w; refine (fieldAt_run (tU rfl) (f := 9) (by rfl) (tS (by rfl)) (by decide) b o w).trans ?_; rfl
  · cases h; intro b o w; refine (fieldAt_run (tU rfl) (f := 10) (by rfl) (tS (by rfl)) (by decide) b o w).trans ?_; rfl
  · cases h; intro b o w; refine (fieldAt_run (tU rfl) (f := 11) (by rfl) (tS (by rfl)) (by decide) b o w).trans ?_; rfl
  · cases h; intro b o w; refine (fieldAt_run (tU rfl) (f := 12) (by rfl) (tS (by rfl)) (by decide) b o w).trans ?_; rfl
  · cases h; intro b o w; refine (fieldAt_run (tU rfl) (f := 13) (by rfl) (tS (by rfl)) (by decide) b o w).trans ?_; rfl
  · cases h; intro b o w; refine (fieldAt_run (tU rfl) (f := 14) (by rfl) (tS (by rfl)) (by decide) b o w).trans ?_; rfl
  · cases h; intro b o w; refine (fieldAt_run (tU rfl) (f := 15) (by rfl) (tS (by rfl)) (by decide) b o w).trans ?_; rfl
  · cases h; intro b o w; refine (fieldAt_run (tU rfl) (f := 16) (by rfl) (tS (by rfl)) (by decide) b o w).trans ?_; rfl
  · cases h; intro b o w; refine (fieldAt_run (tU rfl) (f := 17) (by rfl) (tS (by rfl)) (by decide) b o w).trans ?_; rfl
  · cases h; intro b o w; refine (fieldAt_run (tU rfl) (f := 18) (by rfl) (tS (by rfl)) (by decide) b o w).trans ?_; rfl
  · cases h; intro b o w; refine (fieldAt_run (tU rfl) (f := 19) (by rfl) (tS (by rfl)) (by decide) b o w).trans ?_; rfl
  · cases h; intro b o w; refine (fieldAt_run (tU rfl) (f := 20) (by rfl) (tS (by rfl)) (by decide) b o w).trans ?_; rfl
  · cases h; intro b o w; refine (fieldAt_run (tU rfl) (f := 21) (by rfl) (tS (by rfl)) (by decide) b o w).trans ?_; rfl
  · cases h; intro b o w; refine (fieldAt_run (tU rfl) (f := 22) (by rfl) (tS (by rfl)) (by decide) b o w).trans ?_; rfl
  · cases h
theorem tFo32 (f c : Nat) (h : foT32 f = some c) : ∀ b o w, (Instr.fieldAt 32 (.pointer (some ⟨b, o, none⟩)) f).run Try.prog w = .ok (.pointer (some ⟨b, o + c, none⟩)) w := by
  unfold foT32 at h; split at h
  · cases h; intro b o w; refine (fieldAt_run (tU rfl) (f := 0) (by rfl) (tS (by rfl)) (by decide) b o w).trans ?_; rfl
  · cases h; intro b o w; refine (fieldAt_run (tU rfl) (f := 1) (by rfl) (tS (by rfl)) (by decide) b o w).trans ?_; rfl
  · cases h; intro b o w; refine (fieldAt_run (tU rfl) (f := 2) (by rfl) (tS (by rfl)) (by decide) b o w).trans ?_; rfl
  · cases h; intro b o w; refine (fieldAt_run (tU rfl) (f := 3) (by rfl) (tS (by rfl)) (by decide) b o w).trans ?_; rfl
  · cases h; intro b o w; refine (fieldAt_run (tU rfl) (f := 4) (by rfl) (tS (by rfl)) (by decide) b o w).trans ?_; rfl
  · cases h
theorem tFo33 (f c : Nat) (h : foT33 f = some c) : ∀ b o w, (Instr.fieldAt 33 (.pointer (some ⟨b, o, none⟩)) f).run Try.prog w = .ok (.pointer (some ⟨b, o + c, none⟩)) w := by
  unfold foT33 at h; split at h
  · cases h; intro b o w; refine (fieldAt_run (tU rfl) (f := 0) (by rfl) (tS (by rfl)) (by decide) b o w).trans ?_; rfl
  · cases h; intro b o w; refine (fieldAt_run (tU rfl) (f := 1) (by rfl) (tS (by rfl)) (by decide) b o w).trans ?_; rfl
  · cases h; intro b o w; refine (fieldAt_run (tU rfl) (f := 2) (by rfl) (tS (by rfl)) (by decide) b o w).trans ?_; rfl
  · cases h; intro b o w; refine (fieldAt_run (tU rfl) (f := 3) (by rfl) (tS (by rfl)) (by decide) b o w).trans ?_; rfl
  · cases h; intro b o w; refine (fieldAt_run (tU rfl) (f := 4) (by rfl) (tS (by rfl)) (by decide) b o w).trans ?_; rfl
  · cases h
theorem tFo45 (f c : Nat) (h : foT45 f = some c) : ∀ b o w, (Instr.fieldAt 45 (.pointer (some ⟨b, o, none⟩)) f).run Try.prog w = .ok (.pointer (some ⟨b, o + c, none⟩)) w := by
  unfold foT45 at h; split at h
  · cases h; intro b o w; refine (fieldAt_run (tU rfl) (f := 0) (by rfl) (tS (by rfl)) (by decide) b o w).trans ?_; rfl
  · cases h; intro b o w; refine (fieldAt_run (tU rfl) (f := 1) (by rfl) (tS (by rfl)) (by decide) b o w).trans ?_; rfl
  · cases h; intro b o w; refine (fieldAt_run (tU rfl) (f := 2) (by rfl) (tS (by rfl)) (by decide) b o w).trans ?_; rfl
  · cases h; intro b o w; refine (fieldAt_run (tU rfl) (f := 3) (by rfl) (tS (by rfl)) (by decide) b o w).trans ?_; rfl
  · cases h; intro b o w; refine (fieldAt_run (tU rfl) (f := 4) (by rfl) (tS (by rfl)) (by decide) b o w).trans ?_; rfl
  · cases h
theorem tFo46 (f c : Nat) (h : foT46 f = some c) : ∀ b o w, (Instr.fieldAt 46 (.pointer (some ⟨b, o, none⟩)) f).run Try.prog w = .ok (.pointer (some ⟨b, o + c, none⟩)) w := by
  unfold foT46 at h; split at h
  · cases h; intro b o w; refine (fieldAt_run (tU rfl) (f := 0) (by rfl) (tS (by rfl)) (by decide) b o w).trans ?_; rfl
  · cases h; intro b o w; refine (fieldAt_run (tU rfl) (f := 1) (by rfl) (tS (by rfl)) (by decide) b o w).trans ?_; rfl
  · cases h; intro b o w; refine (fieldAt_run (tU rfl) (f := 2) (by rfl) (tS (by rfl)) (by decide) b o w).trans ?_; rfl
  · cases h; intro b o w; refine (fieldAt_run (tU rfl) (f := 3) (by rfl) (tS (by rfl)) (by decide) b o w).trans ?_; rfl
  · cases h; intro b o w; refine (fieldAt_run (tU rfl) (f := 4) (by rfl) (tS (by rfl)) (by decide) b o w).trans ?_; rfl
  · cases h
theorem tFo47 (f c : Nat) (h : foT47 f = some c) : ∀ b o w, (Instr.fieldAt 47 (.pointer (some ⟨b, o, none⟩)) f).run Try.prog w = .ok (.pointer (some ⟨b, o + c, none⟩)) w := by
  unfold foT47 at h; split at h
  · cases h; intro b o w; refine (fieldAt_run (tU rfl) (f := 0) (by rfl) (tS (by rfl)) (by decide) b o w).trans ?_; rfl
  · cases h; intro b o w; refine (fieldAt_run (tU rfl) (f := 1) (by rfl) (tS (by rfl)) (by decide) b o w).trans ?_; rfl
  · cases h; intro b o w; refine (fieldAt_run (tU rfl) (f := 2) (by rfl) (tS (by rfl)) (by decide) b o w).trans ?_; rfl
  · cases h
theorem tFo48 (f c : Nat) (h : foT48 f = some c) : ∀ b o w, (Instr.fieldAt 48 (.pointer (some ⟨b, o, none⟩)) f).run Try.prog w = .ok (.pointer (some ⟨b, o + c, none⟩)) w := by
  unfold foT48 at h; split at h
  · cases h; intro b o w; refine (fieldAt_run (tU rfl) (f := 0) (by rfl) (tS (by rfl)) (by decide) b o w).trans ?_; rfl
  · cases h; intro b o w; refine (fieldAt_run (tU rfl) (f := 1) (by rfl) (tS (by rfl)) (by decide) b o w).trans ?_; rfl
  · cases h; intro b o w; refine (fieldAt_run (tU rfl) (f := 2) (by rfl) (tS (by rfl)) (by decide) b o w).trans ?_; rfl
  · cases h
theorem tFo61 (f c : Nat) (h : foT61 f = some c) : ∀ b o w, (Instr.fieldAt 61 (.pointer (some ⟨b, o, none⟩)) f).run Try.prog w = .ok (.pointer (some ⟨b, o + c, none⟩)) w := by
  unfold foT61 at h; split at h
  · cases h; intro b o w; refine (fieldAt_run (tU rfl) (f := 0) (by rfl) (tS (by rfl)) (by decide) b o w).trans ?_; rfl
  · cases h; intro b o w; refine (fieldAt_run (tU rfl) (f := 1) (by rfl) (tS (by rfl)) (by decide) b o w).trans ?_; rfl
  · cases h; intro b o w; refine (fieldAt_run (tU rfl) (f := 2) (by rfl) (tS (by rfl)) (by decide) b o w).trans ?_; rfl
  · cases h; intro b o w; refine (fieldAt_run (tU rfl) (f := 3) (by rfl) (tS (by rfl)) (by decide) b o w).trans ?_; rfl
  · cases h; intro b o w; refine (fieldAt_run (tU rfl) (f := 4) (by rfl) (tS (by rfl)) (by decide) b o w).trans ?_; rfl
  · cases h; intro b o w; refine (fieldAt_run (tU rfl) (f := 5) (by rfl) (tS (by rfl)) (by decide) b o w).trans ?_; rfl
  · cases h; intro b o w; refine (fieldAt_run (tU rfl) (f := 6) (by rfl) (tS (by rfl)) (by decide) b o w).trans ?_; rfl
  · cases h; intro b o w; refine (fieldAt_run (tU rfl) (f := 7) (by rfl) (tS (by rfl)) (by decide) b o w).trans ?_; rfl
  · cases h; intro b o w; refine (fieldAt_run (tU rfl) (f := 8) (by rfl) (tS (by rfl)) (by decide) b o w).trans ?_; rfl
  · cases h
theorem tFo62 (f c : Nat) (h : foT62 f = some c) : ∀ b o w, (Instr.fieldAt 62 (.pointer (some ⟨b, o, none⟩)) f).run Try.prog w = .ok (.pointer (some ⟨b, o + c, none⟩)) w := by
  unfold foT62 at h; split at h
  · cases h; intro b o w; refine (fieldAt_run (tU rfl) (f := 0) (by rfl) (tS (by rfl)) (by decide) b o w).trans ?_; rfl
  · cases h; intro b o w; refine (fieldAt_run (tU rfl) (f := 1) (by rfl) (tS (by rfl)) (by decide) b o w).trans ?_; rfl
  · cases h; intro b o w; refine (fieldAt_run (tU rfl) (f := 2) (by rfl) (tS (by rfl)) (by decide) b o w).trans ?_; rfl
  · cases h; intro b o w; refine (fieldAt_run (tU rfl) (f := 3) (by rfl) (tS (by rfl)) (by decide) b o w).trans ?_; rfl
  · cases h; intro b o w; refine (fieldAt_run (tU rfl) (f := 4) (by rfl) (tS (by rfl)) (by decide) b o w).trans ?_; rfl
  · cases h; intro b o w; refine (fieldAt_run (tU rfl) (f := 5) (by rfl) (tS (by rfl)) (by decide) b o w).trans ?_; rfl
  · cases h; intro b o w; refine (fieldAt_run (tU rfl) (f := 6) (by rfl) (tS (by rfl)) (by decide) b o w).trans ?_; rfl
  · cases h; intro b o w; refine (fieldAt_run (tU rfl) (f := 7) (by rfl) (tS (by rfl)) (by decide) b o w).trans ?_; rfl
  · cases h; intro b o w; refine (fieldAt_run (tU rfl) (f := 8) (by rfl) (tS (by rfl)) (by decide) b o w).trans ?_; rfl
  · cases h
theorem tFo65 (f c : Nat) (h : foT65 f = some c) : ∀ b o w, (Instr.fieldAt 65 (.pointer (some ⟨b, o, none⟩)) f).run Try.prog w = .ok (.pointer (some ⟨b, o + c, none⟩)) w := by
  unfold foT65 at h; split at h
  · cases h; intro b o w; refine (fieldAt_run (tU rfl) (f := 0) (by rfl) (tS (by rfl)) (by decide) b o w).trans ?_; rfl
  · cases h; intro b o w; refine (fieldAt_run (tU rfl) (f := 1) (by rfl) (tS (by rfl)) (by decide) b o w).trans ?_; rfl
  · cases h; intro b o w; refine (fieldAt_run (tU rfl) (f := 2) (by rfl) (tS (by rfl)) (by decide) b o w).trans ?_; rfl
  · cases h; intro b o w; refine (fieldAt_run (tU rfl) (f := 3) (by rfl) (tS (by rfl)) (by decide) b o w).trans ?_; rfl
  · cases h
theorem tFo66 (f c : Nat) (h : foT66 f = some c) : ∀ b o w, (Instr.fieldAt 66 (.pointer (some ⟨b, o, none⟩)) f).run Try.prog w = .ok (.pointer (some ⟨b, o + c, none⟩)) w := by
  unfold foT66 at h; split at h
  · cases h; intro b o w; refine (fieldAt_run (tU rfl) (f := 0) (by rfl) (tS (by rfl)) (by decide) b o w).trans ?_; rfl
  · cases h; intro b o w; refine (fieldAt_run (tU rfl) (f := 1) (by rfl) (tS (by rfl)) (by decide) b o w).trans ?_; rfl
  · cases h; intro b o w; refine (fieldAt_run (tU rfl) (f := 2) (by rfl) (tS (by rfl)) (by decide) b o w).trans ?_; rfl
  · cases h; intro b o w; refine (fieldAt_run (tU rfl) (f := 3) (by rfl) (tS (by rfl)) (by decide) b o w).trans ?_; rfl
  · cases h
theorem tFo76 (f c : Nat) (h : foT76 f = some c) : ∀ b o w, (Instr.fieldAt 76 (.pointer (some ⟨b, o, none⟩)) f).run Try.prog w = .ok (.pointer (some ⟨b, o + c, none⟩)) w := by
  unfold foT76 at h; split at h
  · cases h; intro b o w; refine (fieldAt_run (tU rfl) (f := 0) (by rfl) (tS (by rfl)) (by decide) b o w).trans ?_; rfl
  · cases h; intro b o w; refine (fieldAt_run (tU rfl) (f := 1) (by rfl) (tS (by rfl)) (by decide) b o w).trans ?_; rfl
  · cases h; intro b o w; refine (fieldAt_run (tU rfl) (f := 2) (by rfl) (tS (by rfl)) (by decide) b o w).trans ?_; rfl
  · cases h; intro b o w; refine (fieldAt_run (tU rfl) (f := 3) (by rfl) (tS (by rfl)) (by decide) b o w).trans ?_; rfl
  · cases h; intro b o w; refine (fieldAt_run (tU rfl) (f := 4) (by rfl) (tS (by rfl)) (by decide) b o w).trans ?_; rfl
  · cases h
theorem tFo77 (f c : Nat) (h : foT77 f = some c) : ∀ b o w, (Instr.fieldAt 77 (.pointer (some ⟨b, o, none⟩)) f).run Try.prog w = .ok (.pointer (some ⟨b, o + c, none⟩)) w := by
  unfold foT77 at h; split at h
  · cases h; intro b o w; refine (fieldAt_run (tU rfl) (f := 0) (by rfl) (tS (by rfl)) (by decide) b o w).trans ?_; rfl
  · cases h; intro b o w; refine (fieldAt_run (tU rfl) (f := 1) (by rfl) (tS (by rfl)) (by decide) b o w).trans ?_; rfl
  · cases h; intro b o w; refine (fieldAt_run (tU rfl) (f := 2) (by rfl) (tS (by rfl)) (by decide) b o w).trans ?_; rfl
  · cases h; intro b o w; refine (fieldAt_run (tU rfl) (f := 3) (by rfl) (tS (by rfl)) (by decide) b o w).trans ?_; rfl
  · cases h; intro b o w; refine (fieldAt_run (tU rfl) (f := 4) (by rfl) (tS (by rfl)) (by decide) b o w).trans ?_; rfl
  · cases h
theorem tFo85 (f c : Nat) (h : foT85 f = some c) : ∀ b o w, (Instr.fieldAt 85 (.pointer (some ⟨b, o, none⟩)) f).run Try.prog w = .ok (.pointer (some ⟨b, o + c, none⟩)) w := by
  unfold foT85 at h; split at h
  · cases h; intro b o w; refine (fieldAt_run (tU rfl) (f := 0) (by rfl) (tS (by rfl)) (by decide) b o w).trans ?_; rfl
  · cases h; intro b o w; refine (fieldAt_run (tU rfl) (f := 1) (by rfl) (tS (by rfl)) (by decide) b o w).trans ?_; rfl
  · cases h; intro b o w; refine (fieldAt_run (tU rfl) (f := 2) (by rfl) (tS (by rfl)) (by decide) b o w).trans ?_; rfl
  · cases h
theorem tFo86 (f c : Nat) (h : foT86 f = some c) : ∀ b o w, (Instr.fieldAt 86 (.pointer (some ⟨b, o, none⟩)) f).run Try.prog w = .ok (.pointer (some ⟨b, o + c, none⟩)) w := by
  unfold foT86 at h; split at h
  · cases h; intro b o w; refine (fieldAt_run (tU rfl) (f := 0) (by rfl) (tS (by rfl)) (by decide) b o w).trans ?_; rfl
  · cases h; intro b o w; refine (fieldAt_run (tU rfl) (f := 1) (by rfl) (tS (by rfl)) (by decide) b o w).trans ?_; rfl
  · cases h; intro b o w; refine (fieldAt_run (tU rfl) (f := 2) (by rfl) (tS (by rfl)) (by decide) b o w).trans ?_; rfl
  · cases h
theorem tFo87 (f c : Nat) (h : foT87 f = some c) : ∀ b o w, (Instr.fieldAt 87 (.pointer (some ⟨b, o, none⟩)) f).run Try.prog w = .ok (.pointer (some ⟨b, o + c, none⟩)) w := by
  unfold foT87 at h; split at h
  · cases h; intro b o w; refine (fieldAt_run (tU rfl) (f := 0) (by rfl) (tS (by rfl)) (by decide) b o w).trans ?_; rfl
  · cases h; intro b o w; refine (fieldAt_run (tU rfl) (f := 1) (by rfl) (tS (by rfl)) (by decide) b o w).trans ?_; rfl
  · cases h; intro b o w; refine (fieldAt_run (tU rfl) (f := 2) (by rfl) (tS (by rfl)) (by decide) b o w).trans ?_; rfl
  · cases h; intro b o w; refine (fieldAt_run (tU rfl) (f := 3) (by rfl) (tS (by rfl)) (by decide) b o w).trans ?_; rfl
  · cases h; intro b o w; refine (fieldAt_run (tU rfl) (f := 4) (by rfl) (tS (by rfl)) (by decide) b o w).trans ?_; rfl
  · cases h
theorem tFo88 (f c : Nat) (h : foT88 f = some c) : ∀ b o w, (Instr.fieldAt 88 (.pointer (some ⟨b, o, none⟩)) f).run Try.prog w = .ok (.pointer (some ⟨b, o + c, none⟩)) w := by
  unfold foT88 at h; split at h
  · cases h; intro b o w; refine (fieldAt_run (tU rfl) (f := 0) (by rfl) (tS (by rfl)) (by decide) b o w).trans ?_; rfl
  · cases h; intro b o w; refine (fieldAt_run (tU rfl) (f := 1) (by rfl) (tS (by rfl)) (by decide) b o w).trans ?_; rfl
  · cases h; intro b o w; refine (fieldAt_run (tU rfl) (f := 2) (by rfl) (tS (by rfl)) (by decide) b o w).trans ?_; rfl
  · cases h; intro b o w; refine (fieldAt_run (tU rfl) (f := 3) (by rfl) (tS (by rfl)) (by decide) b o w).trans ?_; rfl
  · cases h; intro b o w; refine (fieldAt_run (tU rfl) (f := 4) (by rfl) (tS (by rfl)) (by decide) b o w).trans ?_; rfl
  · cases h
theorem tFo91 (f c : Nat) (h : foT91 f = some c) : ∀ b o w, (Instr.fieldAt 91 (.pointer (some ⟨b, o, none⟩)) f).run Try.prog w = .ok (.pointer (some ⟨b, o + c, none⟩)) w := by
  unfold foT91 at h; split at h
  · cases h; intro b o w; refine (fieldAt_run (tU rfl) (f := 0) (by rfl) (tS (by rfl)) (by decide) b o w).trans ?_; rfl
  · cases h; intro b o w; refine (fieldAt_run (tU rfl) (f := 1) (by rfl) (tS (by rfl)) (by decide) b o w).trans ?_; rfl
  · cases h; intro b o w; refine (fieldAt_run (tU rfl) (f := 2) (by rfl) (tS (by rfl)) (by decide) b o w).trans ?_; rfl
  · cases h; intro b o w; refine (fieldAt_run (tU rfl) (f := 3) (by rfl) (tS (by rfl)) (by decide) b o w).trans ?_; rfl
  · cases h
theorem tFo92 (f c : Nat) (h : foT92 f = some c) : ∀ b o w, (Instr.fieldAt 92 (.pointer (some ⟨b, o, none⟩)) f).run Try.prog w = .ok (.pointer (some ⟨b, o + c, none⟩)) w := by
  unfold foT92 at h; split at h
  · cases h; intro b o w; refine (fieldAt_run (tU rfl) (f := 0) (by rfl) (tS (by rfl)) (by decide) b o w).trans ?_; rfl
  · cases h; intro b o w; refine (fieldAt_run (tU rfl) (f := 1) (by rfl) (tS (by rfl)) (by decide) b o w).trans ?_; rfl
  · cases h; intro b o w; refine (fieldAt_run (tU rfl) (f := 2) (by rfl) (tS (by rfl)) (by decide) b o w).trans ?_; rfl
  · cases h; intro b o w; refine (fieldAt_run (tU rfl) (f := 3) (by rfl) (tS (by rfl)) (by decide) b o w).trans ?_; rfl
  · cases h
theorem tFo94 (f c : Nat) (h : foT94 f = some c) : ∀ b o w, (Instr.fieldAt 94 (.pointer (some ⟨b, o, none⟩)) f).run Try.prog w = .ok (.pointer (some ⟨b, o + c, none⟩)) w := by
  unfold foT94 at h; split at h
  · cases h; intro b o w; refine (fieldAt_run (tU rfl) (f := 0) (by rfl) (tS (by rfl)) (by decide) b o w).trans ?_; rfl
  · cases h; intro b o w; refine (fieldAt_run (tU rfl) (f := 1) (by rfl) (tS (by rfl)) (by decide) b o w).trans ?_; rfl
  · cases h; intro b o w; refine (fieldAt_run (tU rfl) (f := 2) (by rfl) (tS (by rfl)) (by decide) b o w).trans ?_; rfl
  · cases h; intro b o w; refine (fieldAt_run (tU rfl) (f := 3) (by rfl) (tS (by rfl)) (by decide) b o w).trans ?_; rfl
  · cases h; intro b o w; refine (fieldAt_run (tU rfl) (f := 4) (by rfl) (tS (by rfl)) (by decide) b o w).trans ?_; rfl
  · cases h; intro b o w; refine (fieldAt_run (tU rfl) (f := 5) (by rfl) (tS (by rfl)) (by decide) b o w).trans ?_; rfl
  · cases h; intro b o w; refine (fieldAt_run (tU rfl) (f := 6) (by rfl) (tS (by rfl)) (by decide) b o w).trans ?_; rfl
  · cases h; intro b o w; refine (fieldAt_run (tU rfl) (f := 7) (by rfl) (tS (by rfl)) (by decide) b o w).trans ?_; rfl
  · cases h
theorem tFo95 (f c : Nat) (h : foT95 f = some c) : ∀ b o w, (Instr.fieldAt 95 (.pointer (some ⟨b, o, none⟩)) f).run Try.prog w = .ok (.pointer (some ⟨b, o + c, none⟩)) w := by
  unfold foT95 at h; split at h
  · cases h; intro b o w; refine (fieldAt_run (tU rfl) (f := 0) (by rfl) (tS (by rfl)) (by decide) b o w).trans ?_; rfl
  · cases h; intro b o w; refine (fieldAt_run (tU rfl) (f := 1) (by rfl) (tS (by rfl)) (by decide) b o w).trans ?_; rfl
  · cases h; intro b o w; refine (fieldAt_run (tU rfl) (f := 2) (by rfl) (tS (by rfl)) (by decide) b o w).trans ?_; rfl
  · cases h; intro b o w; refine (fieldAt_run (tU rfl) (f := 3) (by rfl) (tS (by rfl)) (by decide) b o w).trans ?_; rfl
  · cases h; intro b o w; refine (fieldAt_run (tU rfl) (f := 4) (by rfl) (tS (by rfl)) (by decide) b o w).trans ?_; rfl
  · cases h; intro b o w; refine (fieldAt_run (tU rfl) (f := 5) (by rfl) (tS (by rfl)) (by decide) b o w).trans ?_; rfl
  · cases h; intro b o w; refine (fieldAt_run (tU rfl) (f := 6) (by rfl) (tS (by rfl)) (by decide) b o w).trans ?_; rfl
  · cases h; intro b o w; refine (fieldAt_run (tU rfl) (f := 7) (by rfl) (tS (by rfl)) (by decide) b o w).trans ?_; rfl
  · cases h
theorem tFo106 (f c : Nat) (h : foT106 f = some c) : ∀ b o w, (Instr.fieldAt 106 (.pointer (some ⟨b, o, none⟩)) f).run Try.prog w = .ok (.pointer (some ⟨b, o + c, none⟩)) w := by
  unfold foT106 at h; split at h
  · cases h; intro b o w; refine (fieldAt_run (tU rfl) (f := 0) (by rfl) (tS (by rfl)) (by decide) b o w).trans ?_; rfl
  · cases h; intro b o w; refine (fieldAt_run (tU rfl) (f := 1) (by rfl) (tS (by rfl)) (by decide) b o w).trans ?_; rfl
  · cases h
theorem tFo110 (f c : Nat) (h : foT110 f = some c) : ∀ b o w, (Instr.fieldAt 110 (.pointer (some ⟨b, o, none⟩)) f).run Try.prog w = .ok (.pointer (some ⟨b, o + c, none⟩)) w := by
  unfold foT110 at h; split at h
  · cases h; intro b o w; refine (fieldAt_run (tU rfl) (f := 0) (by rfl) (tS (by rfl)) (by decide) b o w).trans ?_; rfl
  · cases h; intro b o w; refine (fieldAt_run (tU rfl) (f := 1) (by rfl) (tS (by rfl)) (by decide) b o w).trans ?_; rfl
  · cases h; intro b o w; refine (fieldAt_run (tU rfl) (f := 2) (by rfl) (tS (by rfl)) (by decide) b o w).trans ?_; rfl
  · cases h; intro b o w; refine (fieldAt_run (tU rfl) (f := 3) (by rfl) (tS (by rfl)) (by decide) b o w).trans ?_; rfl
  · cases h
theorem tFo111 (f c : Nat) (h : foT111 f = some c) : ∀ b o w, (Instr.fieldAt 111 (.pointer (some ⟨b, o, none⟩)) f).run Try.prog w = .ok (.pointer (some ⟨b, o + c, none⟩)) w := by
  unfold foT111 at h; split at h
  · cases h; intro b o w; refine (fieldAt_run (tU rfl) (f := 0) (by rfl) (tS (by rfl)) (by decide) b o w).trans ?_; rfl
  · cases h; intro b o w; refine (fieldAt_run (tU rfl) (f := 1) (by rfl) (tS (by rfl)) (by decide) b o w).trans ?_; rfl
  · cases h; intro b o w; refine (fieldAt_run (tU rfl) (f := 2) (by rfl) (tS (by rfl)) (by decide) b o w).trans ?_; rfl
  · cases h; intro b o w; refine (fieldAt_run (tU rfl) (f := 3) (by rfl) (tS (by rfl)) (by decide) b o w).trans ?_; rfl
  · cases h
theorem tFo122 (f c : Nat) (h : foT122 f = some c) : ∀ b o w, (Instr.fieldAt 122 (.pointer (some ⟨b, o, none⟩)) f).run Try.prog w = .ok (.pointer (some ⟨b, o + c, none⟩)) w := by
  unfold foT122 at h; split at h
  · cases h; intro b o w; refine (fieldAt_run (tU rfl) (f := 0) (by rfl) (tS (by rfl)) (by decide) b o w).trans ?_; rfl
  · cases h; intro b o w; refine (fieldAt_run (tU rfl) (f := 1) (by rfl) (tS (by rfl)) (by decide) b o w).trans ?_; rfl
  · cases h; intro b o w; refine (fieldAt_run (tU rfl) (f := 2) (by rfl) (tS (by rfl)) (by decide) b o w).trans ?_; rfl
  · cases h; intro b o w; refine (fieldAt_run (tU rfl) (f := 3) (by rfl) (tS (by rfl)) (by decide) b o w).trans ?_; rfl
  · cases h; intro b o w; refine (fieldAt_run (tU rfl) (f := 4) (by rfl) (tS (by rfl)) (by decide) b o w).trans ?_; rfl
  · cases h; intro b o w; refine (fieldAt_run (tU rfl) (f := 5) (by rfl) (tS (by rfl)) (by decide) b o w).trans ?_; rfl
  · cases h; intro b o w; refine (fieldAt_run (tU rfl) (f := 6) (by rfl) (tS (by rfl)) (by decide) b o w).trans ?_; rfl
  · cases h; intro b o w; refine (fieldAt_run (tU rfl) (f := 7) (by rfl) (tS (by rfl)) (by decide) b o w).trans ?_; rfl
  · cases h; intro b o w; refine (fieldAt_run (tU rfl) (f := 8) (by rfl) (tS (by rfl)) (by decide) b o w).trans ?_; rfl
  · cases h; intro b o w; refine (fieldAt_run (tU rfl) (f := 9) (by rfl) (tS (by rfl)) (by decide) b o w).trans ?_; rfl
  · cases h; intro b o w; refine (fieldAt_run (tU rfl) (f := 10) (by rfl) (tS (by rfl)) (by decide) b o w).trans ?_; rfl
  · cases h
theorem tFo123 (f c : Nat) (h : foT123 f = some c) : ∀ b o w, (Instr.fieldAt 123 (.pointer (some ⟨b, o, none⟩)) f).run Try.prog w = .ok (.pointer (some ⟨b, o + c, none⟩)) w := by
  unfold foT123 at h; split at h
  · cases h; intro b o w; refine (fieldAt_run (tU rfl) (f := 0) (by rfl) (tS (by rfl)) (by decide) b o w).trans ?_; rfl
  · cases h; intro b o w; refine (fieldAt_run (tU rfl) (f := 1) (by rfl) (tS (by rfl)) (by decide) b o w).trans ?_; rfl
  · cases h; intro b o w; refine (fieldAt_run (tU rfl) (f := 2) (by rfl) (tS (by rfl)) (by decide) b o w).trans ?_; rfl
  · cases h; intro b o w; refine (fieldAt_run (tU rfl) (f := 3) (by rfl) (tS (by rfl)) (by decide) b o w).trans ?_; rfl
  · cases h; intro b o w; refine (fieldAt_run (tU rfl) (f := 4) (by rfl) (tS (by rfl)) (by decide) b o w).trans ?_; rfl
  · cases h; intro b o w; refine (fieldAt_run (tU rfl) (f := 5) (by rfl) (tS (by rfl)) (by decide) b o w).trans ?_; rfl
  · cases h; intro b o w; refine (fieldAt_run (tU rfl) (f := 6) (by rfl) (tS (by rfl)) (by decide) b o w).trans ?_; rfl
  · cases h; intro b o w; refine (fieldAt_run (tU rfl) (f := 7) (by rfl) (tS (by rfl)) (by decide) b o w).trans ?_; rfl
  · cases h; intro b o w; refine (fieldAt_run (tU rfl) (f := 8) (by rfl) (tS (by rfl)) (by decide) b o w).trans ?_; rfl
  · cases h; intro b o w; refine (fieldAt_run (tU rfl) (f := 9) (by rfl) (tS (by rfl)) (by decide) b o w).trans ?_; rfl
  · cases h; intro b o w; refine (fieldAt_run (tU rfl) (f := 10) (by rfl) (tS (by rfl)) (by decide) b o w).trans ?_; rfl
  · cases h
theorem tFo (t f c : Nat) (h : foT t f = some c) : ∀ b o w, (Instr.fieldAt t (.pointer (some ⟨b, o, none⟩)) f).run Try.prog w = .ok (.pointer (some ⟨b, o + c, none⟩)) w := by
  unfold foT at h; split at h
  · exact tFo7 f c h
  · exact tFo8 f c h
  · exact tFo13 f c h
  · exact tFo14 f c h
  · exact tFo18 f c h
  · exact tFo19 f c h
  · exact tFo22 f c h
  · exact tFo23 f c h
  · exact tFo27 f c h
  · exact tFo28 f c h
  · exact tFo32 f c h
  · exact tFo33 f c h
  · exact tFo45 f c h
  · exact tFo46 f c h
  · exact tFo47 f c h
  · exact tFo48 f c h
  · exact tFo61 f c h
  · exact tFo62 f c h
  · exact tFo65 f c h
  · exact tFo66 f c h
  · exact tFo76 f c h
  · exact tFo77 f c h
  · exact tFo85 f c h
  · exact tFo86 f c h
  · exact tFo87 f c h
  · exact tFo88 f c h
  · exact tFo91 f c h
  · exact tFo92 f c h
  · exact tFo94 f c h
  · exact tFo95 f c h
  · exact tFo106 f c h
  · exact tFo110 f c h
  · exact tFo111 f c h
  · exact tFo122 f c h
  · exact tFo123 f c h
  · cases h
def agg? (d : TypeDesc) : Bool := match d with | .struct _ | .array _ _ => true | _ => false
theorem tA {t : Nat} {b : Bool} (h : (unT t).map agg? = some b) : ∀ w, (isAgg t).run Try.prog w = .ok b w := fun w => by
  cases e : unT t with
  | none => rw [e] at h; cases h
  | some d =>
    rw [e] at h; cases h
    unfold isAgg
    simp only [Sem.run_bind, tU e, Result.andThen_ok]
    cases d <;> simp [agg?]

def fnT (f : Nat) : Bool :=
  match f with
  | 2 => true
  | 3 => true
  | 4 => true
  | 5 => true
  | 6 => true
  | 7 => true
  | 8 => true
  | 9 => true
  | 10 => true
  | 11 => true
  | 12 => true
  | 13 => true
  | 14 => true
  | 15 => true
  | 16 => true
  | 17 => true
  | 18 => true
  | 19 => true
  | 20 => true
  | 21 => true
  | 22 => true
  | 23 => true
  | 24 => true
  | 25 => true
  | 26 => true
  | 27 => true
  | 28 => true
  | 29 => true
  | 30 => true
  | 31 => true
  | 32 => true
  | 33 => true
  | 34 => true
  | 35 => true
  | 36 => true
  | 37 => true
  | 38 => true
  | 39 => true
  | 40 => true
  | 41 => true
  | 42 => true
  | 43 => true
  | _ => false

theorem tF {f : Nat} (h : fnT f = true) : ∀ args w, (callFunc f args).run Try.prog w = .ok (.enter f args) w := by
  unfold fnT at h; split at h
  · exact Try.call2
  · exact Try.call3
  · exact Try.call4
  · exact Try.call5
  · exact Try.call6
  · exact Try.call7
  · exact Try.call8
  · exact Try.call9
  · exact Try.call10
  · exact Try.call11
  · exact Try.call12
  · exact Try.call13
  · exact Try.call14
  · exact Try.call15
  · exact Try.call16
  · exact Try.call17
  · exact Try.call18
  · exact Try.call19
  · exact Try.call20
  · exact Try.call21
  · exact Try.call22
  · exact Try.call23
  · exact Try.call24
  · exact Try.call25
  · exact Try.call26
  · exact Try.call27
  · exact Try.call28
  · exact Try.call29
  · exact Try.call30
  · exact Try.call31
  · exact Try.call32
  · exact Try.call33
  · exact Try.call34
  · exact Try.call35
  · exact Try.call36
  · exact Try.call37
  · exact Try.call38
  · exact Try.call39
  · exact Try.call40
  · exact Try.call41
  · exact Try.call42
  · exact Try.call43
  · exact absurd h Bool.false_ne_true

end Go.Proofs.Ytdoihebekbfnbaa
