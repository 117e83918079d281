/- The code of some functions, compiled (printed by a program for this seat; each is held against the compiler by the kernel). -/
import Derived.Test.YtlhajccbfapieaaGreatDoorAbAbr
namespace Go.Proofs.YtlhajccbfapieaaGreatDoor.Ab
open Go
set_option maxRecDepth 100000
def code99 : CFn :=
 .mk
 (.seq (.reg none [i1 2 .mv [.k (.d (.str []))]])
 (.seq
 (.reg (some [])
 [m1 3 0, i1 4 .nilck [.t 3], i1 5 (.fad 1) [.t 4], i1 6 ld [.t 5], i1 7 .sdat [.t 6], m1 8 0,
 i1 9 .nilck [.t 8], i1 10 (.fad 1) [.t 9], i1 11 ld [.t 10], i1 12 .len [.t 11], i1 13 (.ustr 5) [.t 7, .t 12], m1 2 13])
 .ret))
 [.tmp 2]
theorem code99_ok : F0 99 = some (.code code99) := by kernel_rfl
def code98 : CFn :=
 .mk
 (.seq (.reg none [i1 4 .mv [k1 0], i1 5 .mv [.k (.d .nili)]])
 (.seq (.reg none [m1 6 0, i1 7 (.call false) [.k (.fn .opn 121 [] []), .t 6]])
 (.seq
 (.reg none
 [m1 8 0, m1 9 0, i1 10 .nilck [.t 9], i1 11 (.fad 1) [.t 10], i1 12 ld [.t 11], m1 13 1,
 i1 14 (.appT 5 1 1) [.t 12, .t 13], i1 15 .nilck [.t 8], i1 16 (.fad 1) [.t 15], .mk none none (.storeT 1) [.t 16, .t 14]])
 (.seq (.reg none [m1 17 1, i1 18 .lens [.t 17], m1 4 18, i1 5 .mv [.k (.d .nili)]]) .ret))))
 [.tmp 4, .tmp 5]
theorem code98_ok : F0 98 = some (.code code98) := by kernel_rfl
def code121 : CFn :=
 .mk
 (.seq (.reg none [m1 2 0, i1 3 .nilck [.t 2], i1 4 (.fad 0) [.t 3], i1 5 ld [.t 4], i1 6 (.bin .eql (.nil 0)) [.t 5, .k (.d .nilp)]])
 (.cond (.t 6)
 (.reg none
 [m1 7 0, m1 8 0, i1 9 .cvu [.t 8], i1 10 (.call false) [.k (.fn .drop 143 [] []), .t 9], i1 11 (.cvp 111 2) [.t 10],
 i1 12 .nilck [.t 7], i1 13 (.fad 0) [.t 12], .mk none none (.storeT 1) [.t 13, .t 11]])
 (.seq
 (.reg none
 [m1 14 0, i1 15 .nilck [.t 14], i1 16 (.fad 0) [.t 15], i1 17 ld [.t 16], m1 18 0,
 i1 19 (.bin .neq (.nil 0)) [.t 17, .t 18]])
 (.cond (.t 19) .bad .skip))))
 []
theorem code121_ok : F0 121 = some (.code code121) := by kernel_rfl
def code87 : CFn :=
 .mk
 (.seq (.reg none [i1 2 .mv [kf]])
 (.seq
 (.seq (.reg none [m1 3 0, i1 4 (.call false) [fp 106, .t 3]])
 (.block 0
 (.seq
 (.seq (.reg none [i1 6 (bi .eql) [.t 4, .k (.d (.str [.ofNat 115, .ofNat 112, .ofNat 97, .ofNat 110]))], m1 5 6])
 (.cond (.t 5) .skip
 (.seq (.reg none [i1 7 (bi .eql) [.t 4, .k (.d (.str [.ofNat 97, .ofNat 117, .ofNat 116, .ofNat 111]))], m1 5 7])
 (.cond (.t 5) .skip
 (.seq (.reg none [i1 8 (bi .eql) [.t 4, .k (.d (.str [.ofNat 105, .ofNat 110, .ofNat 105, .ofNat 116, .ofNat 105, .ofNat 97, .ofNat 108]))], m1 5 8])
 (.cond (.t 5) .skip
 (.seq (.reg none [i1 9 (bi .eql) [.t 4, .k (.d (.str [.ofNat 105, .ofNat 110, .ofNat 104, .ofNat 101, .ofNat 114, .ofNat 105, .ofNat 116]))], m1 5 9])
 (.cond (.t 5) .skip
 (.seq (.reg none [i1 10 (bi .eql) [.t 4, .k (.d (.str [.ofNat 117, .ofNat 110, .ofNat 115, .ofNat 101, .ofNat 116]))], m1 5 10])
 (.cond (.t 5) .skip
 (.seq
 (.reg none [i1 11 (bi .eql) [.t 4, .k (.d (.str [.ofNat 100, .ofNat 101, .ofNat 102, .ofNat 97, .ofNat 117, .ofNat 108, .ofNat 116]))], m1 5 11])
 (.cond (.t 5) .skip
 (.reg none [i1 12 (bi .eql) [.t 4, .k (.d (.str [.ofNat 114, .ofNat 101, .ofNat 118, .ofNat 101, .ofNat 114, .ofNat 116]))], m1 5 12])))))))))))))
 (.seq (.fgt [0, 2, 5]) (.cond (.t 5) (.seq (.reg none [i1 2 .mv [kf]]) .ret) .skip)))))
 (.seq (.fgt [0, 2]) (.seq (.reg none [m1 13 0, i1 14 (.call false) [fp 90, .t 13], m1 2 14]) .ret))))
 [.tmp 2]
theorem code87_ok : F0 87 = some (.code code87) := by kernel_rfl
def code90 : CFn :=
 .mk
 (.seq (.reg none [i1 2 .mv [kf]])
 (.seq
 (.reg none
 [m1 3 0, i1 4 (bi .neq) [.t 3, .k (.d (.str []))], m1 5 4, g1 6 5 .mv [.t 0], g1 7 5 .lens [.t 6],
 g1 8 5 (bi .leq) [.t 7, k1 64], i1 9 .pick [.t 5, .t 8, kf], m1 10 9,
 g1 11 10 .mv [.t 0], g1 12 10 (.call false) [fp 119, .t 11, .k (.d (.int .u8 (.ofNat 0)))],
 g1 13 10 (bi .lss) [.t 12, k1 0], i1 14 .pick [.t 10, .t 13, kf], m1 2 14])
 .ret))
 [.tmp 2]
theorem code90_ok : F0 90 = some (.code code90) := by kernel_rfl
def code64 : CFn :=
 .mk
 (.seq (.reg none [i1 1 (.box 9) [.t 0], i1 2 .mv [.k (.d (.str []))]])
 (.seq
 (.seq (.reg none [i1 3 ld [.t 1], i1 4 (.call false) [fp 90, .t 3], i1 5 (.un .not) [.t 4]])
 (.cond (.t 5) (.seq (.reg none [i1 2 .mv [.k (.d (.str []))]]) .ret) .skip))
 (.seq (.fgt [1, 2]) (.seq (.reg none [i1 6 ld [.t 1], i1 7 (.mkf .drop 92 0) [.t 1], i1 8 (.call false) [.k (.fn .drop 91 [] []), .t 6, .t 7], m1 2 8]) .ret))))
 [.tmp 2]
theorem code64_ok : F0 64 = some (.code code64) := by kernel_rfl
def code92 : CFn :=
 .mk
 (.seq (.reg none [i1 5 .mv [.k (.d (.str []))]])
 (.seq
 (.reg none
 [m1 7 0, i1 8 (bi .eql) [.t 7, k1 0], m1 9 8, g0 10 9 .mv [.t 0],
 g0 11 9 (bi .eql) [.t 10, k1 1], g0 12 9 .mv [.t 11], g1 13 12 ld [.t 2],
 g1 14 12 .idxs [.t 13, k1 0], g1 15 12 (bi .eql) [.t 14, .k (.d (.int .u8 (.ofNat 45)))],
 g0 16 9 .pick [.t 12, .t 15, kf], i1 17 .pick [.t 9, kt, .t 16], m1 6 17])
 (.seq
 (.block 0
 (.seq
 (.seq (.reg none [m1 19 1, i1 20 (.call false) [fp 93, .t 19], m1 18 20])
 (.cond (.t 18) .skip
 (.seq
 (.reg none
 [m1 21 1, i1 22 (bi .eql) [.t 21, .k (.d (.int .u8 (.ofNat 45)))], m1 23 22, g1 24 23 ld [.t 2],
 g1 25 23 .lens [.t 24], g1 26 23 (bi .gtr) [.t 25, k1 1], i1 27 .pick [.t 23, .t 26, kf],
 m1 18 27])
 (.cond (.t 18) .skip
 (.reg none
 [m1 28 1, i1 29 (.call false) [fp 94, .t 28], m1 30 29, g1 31 30 .mv [.t 6],
 g1 32 30 (.un .not) [.t 31], i1 33 .pick [.t 30, .t 32, kf], m1 18 33])))))
 (.seq (.fgt [0, 1, 2, 5, 18])
 (.cond (.t 18)
 (.seq
 (.reg none
 [i1 34 ld [.t 2], m1 35 0, m1 36 0, i1 37 (bi .add) [.t 36, k1 1],
 i1 38 (.cuts true true) [.t 34, .t 35, .t 37], m1 5 38])
 .ret)
 (.seq
 (.seq (.reg none [m1 40 1, i1 41 (.call false) [fp 94, .t 40], m1 39 41])
 (.cond (.t 39) .skip (.reg none [m1 42 1, i1 43 (.call false) [fp 95, .t 42], m1 39 43])))
 (.seq (.fgt [0, 1, 2, 5, 39]) (.cond (.t 39) (.seq (.reg none [m1 44 1, i1 45 (.call false) [fp 96, .t 44], m1 5 45]) .ret) .skip)))))))
 (.seq (.fgt [0, 2, 5])
 (.seq
 (.reg none
 [i1 46 ld [.t 2], m1 47 0, m1 48 0, i1 49 (bi .add) [.t 48, k1 1],
 i1 50 (.cuts true true) [.t 46, .t 47, .t 49], i1 51 (bi .add) [.k (.d (.str [.ofNat 92])), .t 50], m1 5 51])
 .ret)))))
 [.tmp 5]
theorem code92_ok : F0 92 = some (.code code92) := by kernel_rfl
def code95 : CFn :=
 .mk
 (.seq (.reg none [i1 2 .mv [kf]])
 (.seq
 (.reg none
 [m1 3 0, i1 4 (bi .lss) [.t 3, .k (.d (.int .u8 (.ofNat 32)))], m1 5 4, g0 6 5 .mv [.t 0],
 g0 7 5 (bi .eql) [.t 6, .k (.d (.int .u8 (.ofNat 127)))], i1 8 .pick [.t 5, kt, .t 7], m1 2 8])
 .ret))
 [.tmp 2]
theorem code95_ok : F0 95 = some (.code code95) := by kernel_rfl
def code94 : CFn :=
 .mk
 (.seq (.reg none [i1 2 .mv [kf]])
 (.seq
 (.reg none
 [m1 3 0, i1 4 (bi .geq) [.t 3, .k (.d (.int .u8 (.ofNat 48)))], m1 5 4, g1 6 5 .mv [.t 0],
 g1 7 5 (bi .leq) [.t 6, .k (.d (.int .u8 (.ofNat 57)))], i1 8 .pick [.t 5, .t 7, kf], m1 2 8])
 .ret))
 [.tmp 2]
theorem code94_ok : F0 94 = some (.code code94) := by kernel_rfl
def code91 : CFn :=
 .mk
 (.seq (.reg none [i1 4 .mv [.k (.d (.str []))]])
 (.seq (.reg none [i1 5 (.new 111 [.d .nilp, .d .nilsl]) []])
 (.seq
 (.seq (.reg none [m1 7 0, i1 8 .lens [.t 7], i1 9 .mv [k1 0]])
 (.block 0
 (.loop [0, 1, 4, 5, 8, 9]
 (.seq (.reg none [i1 10 (bi .lss) [.t 9, .t 8]])
 (.seq (.cond (.t 10) .skip (.exit 0))
 (.seq (.fgt [0, 1, 4, 5, 8, 9])
 (.seq
 (.block 1
 (.seq (.reg none [m1 11 9, m1 6 11])
 (.reg none
 [m1 12 1, m1 13 6, m1 14 0, m1 15 6, i1 16 .idxs [.t 14, .t 15],
 i1 17 (.call false) [.t 12, .t 13, .t 16], i1 18 (.call false) [.k (.fn .opn 98 [] []), .t 5, .t 17]])))
 (.seq (.fgt [0, 1, 4, 5, 8, 9]) (.reg none [i1 19 (bi .add) [.t 9, k1 1], m1 9 19])))))))))
 (.seq (.fgt [4, 5]) (.seq (.reg none [i1 20 (.call false) [.k (.fn .opn 99 [] []), .t 5], m1 4 20]) .ret)))))
 [.tmp 4]
theorem code91_ok : F0 91 = some (.code code91) := by kernel_rfl
def code96 : CFn :=
 .mk
 (.seq (.reg none [i1 2 .mv [.k (.d (.str []))]])
 (.seq (.reg none [i1 3 .mv [.k (.d (.str [.ofNat 92]))]])
 (.seq
 (.seq (.reg none [m1 4 0, i1 5 (bi .shr) [.t 4, .k (.d (.int .u64 (.ofNat 4)))], i1 6 (bi .gtr) [.t 5, .k (.d (.int .u8 (.ofNat 0)))]])
 (.cond (.t 6)
 (.reg none
 [m1 7 3, m1 8 0, i1 9 (bi .shr) [.t 8, .k (.d (.int .u64 (.ofNat 4)))], m1 10 0,
 i1 11 (bi .shr) [.t 10, .k (.d (.int .u64 (.ofNat 4)))], i1 12 (bi .add) [.t 11, .k (.d (.int .u8 (.ofNat 1)))],
 i1 13 (.cuts true true)
 [.k
 (.d (.str [.ofNat 48, .ofNat 49, .ofNat 50, .ofNat 51, .ofNat 52, .ofNat 53, .ofNat 54, .ofNat 55, .ofNat 56, .ofNat 57, .ofNat 97, .ofNat 98, .ofNat 99, .ofNat 100, .ofNat 101, .ofNat 102])),
 .t 9, .t 12],
 i1 14 (bi .add) [.t 7, .t 13], m1 3 14])
 .skip))
 (.seq (.fgt [0, 2, 3])
 (.seq
 (.reg none
 [m1 15 3, m1 16 0, i1 17 (bi .and) [.t 16, .k (.d (.int .u8 (.ofNat 15)))], m1 18 0,
 i1 19 (bi .and) [.t 18, .k (.d (.int .u8 (.ofNat 15)))], i1 20 (bi .add) [.t 19, .k (.d (.int .u8 (.ofNat 1)))],
 i1 21 (.cuts true true)
 [.k
 (.d (.str [.ofNat 48, .ofNat 49, .ofNat 50, .ofNat 51, .ofNat 52, .ofNat 53, .ofNat 54, .ofNat 55, .ofNat 56, .ofNat 57, .ofNat 97, .ofNat 98, .ofNat 99, .ofNat 100, .ofNat 101, .ofNat 102])),
 .t 17, .t 20],
 i1 22 (bi .add) [.t 15, .t 21], i1 23 (bi .add) [.t 22, .k (.d (.str [.ofNat 32]))], m1 2 23])
 .ret)))))
 [.tmp 2]
theorem code96_ok : F0 96 = some (.code code96) := by kernel_rfl
def code6 : CFn :=
 .mk
 (.seq (.reg none [i1 2 .mv [kf]])
 (.seq (.reg none [i1 3 .mv [k1 0]])
 (.seq
 (.seq (.reg none [m1 12 0, i1 13 .len [.t 12], i1 14 .mv [k1 0]])
 (.block 0
 (.loop [2, 3, 12, 13, 14]
 (.seq (.reg none [i1 15 (bi .lss) [.t 14, .t 13]])
 (.seq (.cond (.t 15) .skip (.exit 0))
 (.seq (.fgt [2, 3, 12, 13, 14])
 (.seq
 (.block 1
 (.seq
 (.reg none
 [i1 16 (.iad 11) [.t 12, .t 14], i1 17 (.load (some 11)) [.t 16],
 .mk (some 5) none
 (.new 46
 [.d (.int .i64 (.ofNat 0)), .d .nilsl, .d (.int .i64 (.ofNat 0)), .d (.int .i64 (.ofNat 0)), .d (.int .i64 (.ofNat 0)), .d (.int .i64 (.ofNat 0)), .d (.bool false),
 .d (.int .i64 (.ofNat 0)), .d (.int .i64 (.ofNat 0)), .d (.int .i64 (.ofNat 0)), .d .nilsl])
 [],
 .mk none none (.storeT 11) [.t 5, .t 17]])
 (.seq
 (.reg none
 [m1 18 3, i1 19 (.fad 10) [.t 5], i1 20 ld [.t 19], i1 21 .len [.t 20],
 i1 22 .min [.t 21, k1 1000], i1 23 (bi .add) [k1 1, .t 22],
 i1 24 (bi .add) [.t 18, .t 23], m1 3 24])
 (.seq
 (.seq
 (.reg none
 [m1 25 3, i1 26 (bi .gtr) [.t 25, k1 400], m1 27 26, g0 28 27 (.fad 1) [.t 5],
 g0 29 27 ld [.t 28], g0 30 27 .len [.t 29], g0 31 27 (bi .gtr) [.t 30, k1 30],
 i1 32 .pick [.t 27, kt, .t 31]])
 (.cond (.t 32) (.seq (.reg none [i1 2 .mv [kf]]) .ret) .skip))
 (.seq (.fgt [2, 3, 5, 12, 13, 14])
 (.seq
 (.seq (.reg none [i1 33 (.fad 1) [.t 5], i1 34 ld [.t 33], i1 35 .len [.t 34], i1 36 .mv [k1 0]])
 (.block 2
 (.loop [2, 3, 5, 12, 13, 14, 34, 35, 36]
 (.seq (.reg none [i1 37 (bi .lss) [.t 36, .t 35]])
 (.seq (.cond (.t 37) .skip (.exit 2))
 (.seq (.fgt [2, 3, 5, 12, 13, 14, 34, 35, 36])
 (.seq
 (.block 3
 (.seq (.reg none [i1 38 (.iad 1) [.t 34, .t 36], i1 39 ld [.t 38], m1 7 39])
 (.seq (.reg none [m1 40 7, i1 41 .lens [.t 40], i1 42 (bi .gtr) [.t 41, k1 100]])
 (.cond (.t 42) (.seq (.reg none [i1 2 .mv [kf]]) .ret) .skip))))
 (.seq (.fgt [2, 3, 5, 12, 13, 14, 34, 35, 36]) (.reg none [i1 43 (bi .add) [.t 36, k1 1], m1 36 43])))))))))
 (.seq (.fgt [2, 3, 5, 12, 13, 14])
 (.seq (.reg none [i1 44 (.fad 10) [.t 5], i1 45 ld [.t 44], i1 46 .len [.t 45], i1 47 .mv [k1 0]])
 (.block 4
 (.loop [2, 3, 12, 13, 14, 45, 46, 47]
 (.seq (.reg none [i1 48 (bi .lss) [.t 47, .t 46]])
 (.seq (.cond (.t 48) .skip (.exit 4))
 (.seq (.fgt [2, 3, 12, 13, 14, 45, 46, 47])
 (.seq
 (.block 5
 (.seq
 (.reg none
 [i1 49 (.iad 11) [.t 45, .t 47], i1 50 (.load (some 11)) [.t 49],
 .mk (some 9) none
 (.new 46
 [.d (.int .i64 (.ofNat 0)), .d .nilsl, .d (.int .i64 (.ofNat 0)), .d (.int .i64 (.ofNat 0)), .d (.int .i64 (.ofNat 0)), .d (.int .i64 (.ofNat 0)),
 .d (.bool false), .d (.int .i64 (.ofNat 0)), .d (.int .i64 (.ofNat 0)), .d (.int .i64 (.ofNat 0)), .d .nilsl])
 [],
 .mk none none (.storeT 11) [.t 9, .t 50]])
 (.seq
 (.seq
 (.reg none
 [i1 51 (.fad 1) [.t 9], i1 52 ld [.t 51], i1 53 .len [.t 52],
 i1 54 (bi .gtr) [.t 53, k1 30], m1 55 54, g0 56 55 (.fad 10) [.t 9],
 g0 57 55 ld [.t 56], g0 58 55 .len [.t 57],
 g0 59 55 (bi .gtr) [.t 58, k1 0], i1 60 .pick [.t 55, kt, .t 59]])
 (.cond (.t 60) (.seq (.reg none [i1 2 .mv [kf]]) .ret) .skip))
 (.seq (.fgt [2, 3, 9, 12, 13, 14, 45, 46, 47])
 (.seq (.reg none [i1 61 (.fad 1) [.t 9], i1 62 ld [.t 61], i1 63 .len [.t 62], i1 64 .mv [k1 0]])
 (.block 6
 (.loop [2, 3, 12, 13, 14, 45, 46, 47, 62, 63, 64]
 (.seq (.reg none [i1 65 (bi .lss) [.t 64, .t 63]])
 (.seq (.cond (.t 65) .skip (.exit 6))
 (.seq (.fgt [2, 3, 12, 13, 14, 45, 46, 47, 62, 63, 64])
 (.seq
 (.block 7
 (.seq (.reg none [i1 66 (.iad 1) [.t 62, .t 64], i1 67 ld [.t 66], m1 11 67])
 (.seq (.reg none [m1 68 11, i1 69 .lens [.t 68], i1 70 (bi .gtr) [.t 69, k1 100]])
 (.cond (.t 70) (.seq (.reg none [i1 2 .mv [kf]]) .ret) .skip))))
 (.seq (.fgt [2, 3, 12, 13, 14, 45, 46, 47, 62, 63, 64])
 (.reg none [i1 71 (bi .add) [.t 64, k1 1], m1 64 71])))))))))))))
 (.seq (.fgt [2, 3, 12, 13, 14, 45, 46, 47]) (.reg none [i1 72 (bi .add) [.t 47, k1 1], m1 47 72]))))))))))))))))
 (.seq (.fgt [2, 3, 12, 13, 14]) (.reg none [i1 73 (bi .add) [.t 14, k1 1], m1 14 73])))))))))
 (.seq (.fgt [2]) (.seq (.reg none [i1 2 .mv [kt]]) .ret)))))
 [.tmp 2]
theorem code6_ok : F0 6 = some (.code code6) := by kernel_rfl
def code3 : CFn :=
 .mk
 (.seq (.reg none [i1 3 (.box 25) [.t 0], i1 6 .mv [kf]])
 (.seq
 (.seq
 (.reg none
 [m1 7 1, i1 8 (.call false) [fp 6, .t 7], i1 9 (.un .not) [.t 8], m1 10 9, g0 11 10 .mv [.t 2],
 g0 12 10 (.call false) [fp 6, .t 11], g0 13 10 (.un .not) [.t 12], i1 14 .pick [.t 10, kt, .t 13]])
 (.cond (.t 14) (.seq (.reg none [i1 15 (.call false) [fp 7], m1 6 15]) .ret) .skip))
 (.seq (.fgt [1, 2, 3, 6])
 (.seq
 (.reg (some [])
 [i1 16 (.load (some 7)) [.t 3], i1 17 (.call true) [fp 8, .t 16], i1 18 (.load (some 7)) [.t 3], i1 19 (.call true) [fp 9, .t 18],
 i1 20 (.bin .eql .bool) [.t 17, .t 19], m1 21 20, g1 22 21 (.load (some 7)) [.t 3], g1 23 21 (.call true) [fp 10, .t 22],
 g1 24 21 (.load (some 7)) [.t 3], g1 25 21 (.call true) [fp 11, .t 24], g1 26 21 (.bin .eql .bool) [.t 23, .t 25],
 i1 27 .pick [.t 21, .t 26, kf], m1 28 27, g1 29 28 (.load (some 7)) [.t 3], g1 30 28 (.call true) [fp 12, .t 29],
 g1 31 28 (.load (some 7)) [.t 3], g1 32 28 (.call true) [fp 13, .t 31], g1 33 28 (bi .eql) [.t 30, .t 32],
 i1 34 .pick [.t 28, .t 33, kf], m1 35 34, g1 36 35 .mv [.t 1], g1 37 35 (.call true) [fp 14, .t 36],
 g1 38 35 .mv [.t 1], g1 39 35 (.call true) [fp 15, .t 38], g1 40 35 (.bin .eql .bool) [.t 37, .t 39],
 i1 41 .pick [.t 35, .t 40, kf], m1 42 41, g1 43 42 .mv [.t 1], g1 44 42 (.call true) [fp 16, .t 43],
 g1 45 42 .mv [.t 1], g1 46 42 (.call true) [fp 17, .t 45], g1 47 42 (bi .eql) [.t 44, .t 46],
 i1 48 .pick [.t 42, .t 47, kf], m1 49 48, g1 50 49 .mv [.t 1], g1 51 49 .mv [.t 2],
 g1 52 49 (.call true) [fp 18, .t 50, .t 51], g1 53 49 .mv [.t 1], g1 54 49 .mv [.t 2],
 g1 55 49 (.call true) [fp 19, .t 53, .t 54], g1 56 49 (.bin .eql .bool) [.t 52, .t 55], i1 57 .pick [.t 49, .t 56, kf],
 m1 58 57, g1 59 58 .mv [.t 1], g1 60 58 .mv [.t 1], g1 61 58 (.call true) [fp 18, .t 59, .t 60],
 i1 62 .pick [.t 58, .t 61, kf], m1 63 62, g1 64 63 (.call true) [fp 7],
 i1 65 .pick [.t 63, .t 64, kf], m1 6 65])
 .ret))))
 [.tmp 6]
theorem code3_ok : F0 3 = some (.code code3) := by kernel_rfl
def code102 : CFn :=
 .mk
 (.seq (.reg none [i1 2 .mv [kf]])
 (.seq
 (.reg none
 [m1 3 0, i1 4 (bi .geq) [.t 3, .k (.d (.int .u8 (.ofNat 97)))], m1 5 4, g1 6 5 .mv [.t 0],
 g1 7 5 (bi .leq) [.t 6, .k (.d (.int .u8 (.ofNat 122)))], i1 8 .pick [.t 5, .t 7, kf], m1 9 8,
 g0 10 9 .mv [.t 0], g0 11 9 (bi .geq) [.t 10, .k (.d (.int .u8 (.ofNat 65)))], g0 12 9 .mv [.t 11], g1 13 12 .mv [.t 0],
 g1 14 12 (bi .leq) [.t 13, .k (.d (.int .u8 (.ofNat 90)))], g0 15 9 .pick [.t 12, .t 14, kf],
 i1 16 .pick [.t 9, kt, .t 15], m1 17 16, g0 18 17 .mv [.t 0],
 g0 19 17 (bi .eql) [.t 18, .k (.d (.int .u8 (.ofNat 95)))], i1 20 .pick [.t 17, kt, .t 19], m1 21 20,
 g0 22 21 .mv [.t 0], g0 23 21 (bi .geq) [.t 22, .k (.d (.int .u8 (.ofNat 128)))], i1 24 .pick [.t 21, kt, .t 23],
 m1 2 24])
 .ret))
 [.tmp 2]
theorem code102_ok : F0 102 = some (.code code102) := by kernel_rfl
def code89 : CFn :=
 .mk
 (.seq (.reg none [i1 2 .mv [kf]])
 (.seq
 (.reg none
 [i1 5 (.bslT 9 1 [.str []] 7 [0, 1, 2, 3, 4, 5, 6])
 [.k (.d (.str [.ofNat 115, .ofNat 112, .ofNat 97, .ofNat 110])), .k (.d (.str [.ofNat 97, .ofNat 117, .ofNat 116, .ofNat 111])),
 .k (.d (.str [.ofNat 105, .ofNat 110, .ofNat 105, .ofNat 116, .ofNat 105, .ofNat 97, .ofNat 108])), .k (.d (.str [.ofNat 105, .ofNat 110, .ofNat 104, .ofNat 101, .ofNat 114, .ofNat 105, .ofNat 116])),
 .k (.d (.str [.ofNat 117, .ofNat 110, .ofNat 115, .ofNat 101, .ofNat 116])), .k (.d (.str [.ofNat 100, .ofNat 101, .ofNat 102, .ofNat 97, .ofNat 117, .ofNat 108, .ofNat 116])),
 .k (.d (.str [.ofNat 114, .ofNat 101, .ofNat 118, .ofNat 101, .ofNat 114, .ofNat 116]))],
 m1 3 5])
 (.seq
 (.seq (.reg none [i1 4 .mv [k1 0]])
 (.block 0
 (.loop [0, 2, 3, 4]
 (.seq (.seq (.reg none [m1 6 4, m1 7 3, i1 8 .len [.t 7], i1 9 (bi .lss) [.t 6, .t 8]]) (.cond (.t 9) .skip (.exit 0)))
 (.seq (.fgt [0, 2, 3, 4])
 (.seq
 (.block 1
 (.seq
 (.reg none
 [m1 12 0, m1 13 3, m1 14 4, i1 15 (.iad 1) [.t 13, .t 14], i1 16 ld [.t 15],
 i1 17 (.call false) [fp 120, .t 12, .t 16]])
 (.cond (.t 17) (.seq (.reg none [i1 2 .mv [kf]]) .ret) .skip)))
 (.seq (.fgt [0, 2, 3, 4]) (.reg none [m1 10 4, i1 11 (bi .add) [.t 10, k1 1], m1 4 11]))))))))
 (.seq (.fgt [0, 2]) (.seq (.reg none [m1 18 0, i1 19 (.call false) [fp 101, .t 18], m1 2 19]) .ret)))))
 [.tmp 2]
theorem code89_ok : F0 89 = some (.code code89) := by kernel_rfl
def code120 : CFn :=
 .mk
 (.seq (.reg none [i1 4 .mv [kf]])
 (.seq
 (.reg none
 [m1 5 0, i1 6 (.call false) [fp 142, .t 5], m1 7 1, i1 8 (.call false) [fp 142, .t 7],
 i1 9 (bi .eql) [.t 6, .t 8], m1 4 9])
 .ret))
 [.tmp 4]
theorem code120_ok : F0 120 = some (.code code120) := by kernel_rfl
def code142 : CFn :=
 .mk
 (.seq (.reg none [i1 2 .mv [.k (.d (.str []))]])
 (.seq (.reg none [i1 3 .mv [.k (.d (.str []))]])
 (.seq
 (.seq (.reg none [i1 4 .mv [k1 0]])
 (.block 0
 (.loop [0, 2, 3, 4]
 (.seq (.seq (.reg none [m1 6 4, m1 7 0, i1 8 .lens [.t 7], i1 9 (bi .lss) [.t 6, .t 8]]) (.cond (.t 9) .skip (.exit 0)))
 (.seq (.fgt [0, 2, 3, 4])
 (.seq
 (.block 1
 (.seq (.reg none [m1 12 0, m1 13 4, i1 14 .idxs [.t 12, .t 13], m1 5 14])
 (.seq
 (.seq
 (.reg none
 [m1 15 5, i1 16 (bi .geq) [.t 15, .k (.d (.int .u8 (.ofNat 65)))], m1 17 16, g1 18 17 .mv [.t 5],
 g1 19 17 (bi .leq) [.t 18, .k (.d (.int .u8 (.ofNat 90)))], i1 20 .pick [.t 17, .t 19, kf]])
 (.cond (.t 20)
 (.reg none
 [m1 21 5, i1 22 (bi .sub) [.t 21, .k (.d (.int .u8 (.ofNat 65)))],
 i1 23 (bi .add) [.t 22, .k (.d (.int .u8 (.ofNat 97)))], m1 5 23])
 .skip))
 (.seq (.fgt [0, 2, 3, 4, 5])
 (.reg none
 [m1 24 3, m1 25 5, i1 26 (.bslT 5 1 [.int .u8 (.ofNat 0)] 1 [0]) [.t 25], i1 27 .b2s [.t 26],
 i1 28 (bi .add) [.t 24, .t 27], m1 3 28])))))
 (.seq (.fgt [0, 2, 3, 4]) (.reg none [m1 10 4, i1 11 (bi .add) [.t 10, k1 1], m1 4 11]))))))))
 (.seq (.fgt [2, 3]) (.seq (.reg none [m1 29 3, m1 2 29]) .ret)))))
 [.tmp 2]
theorem code142_ok : F0 142 = some (.code code142) := by kernel_rfl
def code101 : CFn :=
 .mk
 (.seq (.reg none [i1 2 .mv [kf]])
 (.seq
 (.reg none
 [m1 3 0, i1 4 (bi .neq) [.t 3, .k (.d (.str []))], m1 5 4, g1 6 5 .mv [.t 0], g1 7 5 .lens [.t 6],
 g1 8 5 (bi .leq) [.t 7, k1 64], i1 9 .pick [.t 5, .t 8, kf], m1 10 9,
 g1 11 10 .mv [.t 0], g1 12 10 (.call false) [fp 124, .t 11], g1 13 10 (.un .not) [.t 12],
 i1 14 .pick [.t 10, .t 13, kf], m1 2 14])
 .ret))
 [.tmp 2]
theorem code101_ok : F0 101 = some (.code code101) := by kernel_rfl
def code67 : CFn :=
 .mk
 (.seq (.reg none [i1 2 .mv [.k (.d (.str []))]])
 (.seq
 (.seq (.reg none [m1 6 0, i1 7 (.call false) [fp 101, .t 6], i1 8 (.un .not) [.t 7]])
 (.cond (.t 8) (.seq (.reg none [i1 2 .mv [.k (.d (.str []))]]) .ret) .skip))
 (.seq (.fgt [0, 2])
 (.seq (.reg none [i1 3 .mv [.k (.d (.str []))]])
 (.seq
 (.seq (.reg none [i1 4 .mv [k1 0]])
 (.block 0
 (.loop [0, 2, 3, 4]
 (.seq (.seq (.reg none [m1 9 4, m1 10 0, i1 11 .lens [.t 10], i1 12 (bi .lss) [.t 9, .t 11]]) (.cond (.t 12) .skip (.exit 0)))
 (.seq (.fgt [0, 2, 3, 4])
 (.seq
 (.block 1
 (.seq (.reg none [m1 15 0, m1 16 4, i1 17 .idxs [.t 15, .t 16], m1 5 17])
 (.seq
 (.reg none
 [m1 18 5, i1 19 (.call false) [fp 102, .t 18], m1 20 19, g0 21 20 .mv [.t 5],
 g0 22 20 (bi .eql) [.t 21, .k (.d (.int .u8 (.ofNat 45)))], g0 23 20 .mv [.t 22], g1 24 23 .mv [.t 0],
 g1 25 23 .lens [.t 24], g1 26 23 (bi .gtr) [.t 25, k1 1],
 g0 27 20 .pick [.t 23, .t 26, kf], i1 28 .pick [.t 20, kt, .t 27], m1 29 28,
 g0 30 29 .mv [.t 5], g0 31 29 (.call false) [fp 103, .t 30], g0 32 29 .mv [.t 31], g1 33 32 .mv [.t 4],
 g1 34 32 (bi .gtr) [.t 33, k1 0], g0 35 29 .pick [.t 32, .t 34, kf],
 g0 36 29 .mv [.t 35], g1 37 36 .mv [.t 4], g1 38 36 (bi .eql) [.t 37, k1 1],
 g1 39 36 .mv [.t 38], g1 40 39 .mv [.t 0], g1 41 39 .idxs [.t 40, k1 0],
 g1 42 39 (bi .eql) [.t 41, .k (.d (.int .u8 (.ofNat 45)))], g1 43 36 .pick [.t 39, .t 42, kf],
 g1 44 36 (.un .not) [.t 43], g0 45 29 .pick [.t 36, .t 44, kf], i1 46 .pick [.t 29, kt, .t 45]])
 (.cond (.t 46)
 (.reg none
 [m1 47 3, m1 48 0, m1 49 4, m1 50 4,
 i1 51 (bi .add) [.t 50, k1 1], i1 52 (.cuts true true) [.t 48, .t 49, .t 51],
 i1 53 (bi .add) [.t 47, .t 52], m1 3 53])
 (.seq
 (.reg none
 [m1 54 5, i1 55 (.call false) [fp 103, .t 54], m1 56 55, g0 57 56 .mv [.t 5],
 g0 58 56 (.call false) [fp 104, .t 57], i1 59 .pick [.t 56, kt, .t 58]])
 (.cond (.t 59)
 (.reg none
 [m1 60 3, m1 61 5, i1 62 (.call false) [fp 105, .t 61], i1 63 (bi .add) [.t 60, .t 62],
 m1 3 63])
 (.reg none
 [m1 64 3, i1 65 (bi .add) [.t 64, .k (.d (.str [.ofNat 92]))], m1 66 0, m1 67 4,
 m1 68 4, i1 69 (bi .add) [.t 68, k1 1], i1 70 (.cuts true true) [.t 66, .t 67, .t 69],
 i1 71 (bi .add) [.t 65, .t 70], m1 3 71])))))))
 (.seq (.fgt [0, 2, 3, 4]) (.reg none [m1 13 4, i1 14 (bi .add) [.t 13, k1 1], m1 4 14]))))))))
 (.seq (.fgt [2, 3]) (.seq (.reg none [m1 72 3, m1 2 72]) .ret)))))))
 [.tmp 2]
theorem code67_ok : F0 67 = some (.code code67) := by kernel_rfl
def code104 : CFn :=
 .mk
 (.seq (.reg none [i1 2 .mv [kf]])
 (.seq
 (.reg none
 [m1 3 0, i1 4 (bi .lss) [.t 3, .k (.d (.int .u8 (.ofNat 32)))], m1 5 4, g0 6 5 .mv [.t 0],
 g0 7 5 (bi .eql) [.t 6, .k (.d (.int .u8 (.ofNat 127)))], i1 8 .pick [.t 5, kt, .t 7], m1 2 8])
 .ret))
 [.tmp 2]
theorem code104_ok : F0 104 = some (.code code104) := by kernel_rfl
def code103 : CFn :=
 .mk
 (.seq (.reg none [i1 2 .mv [kf]])
 (.seq
 (.reg none
 [m1 3 0, i1 4 (bi .geq) [.t 3, .k (.d (.int .u8 (.ofNat 48)))], m1 5 4, g1 6 5 .mv [.t 0],
 g1 7 5 (bi .leq) [.t 6, .k (.d (.int .u8 (.ofNat 57)))], i1 8 .pick [.t 5, .t 7, kf], m1 2 8])
 .ret))
 [.tmp 2]
theorem code103_ok : F0 103 = some (.code code103) := by kernel_rfl
def code124 : CFn :=
 .mk
 (.seq (.reg none [i1 2 .mv [kf]])
 (.seq
 (.seq (.reg none [i1 3 .mv [k1 0]])
 (.block 0
 (.loop [0, 2, 3]
 (.seq (.seq (.reg none [m1 4 3, m1 5 0, i1 6 .lens [.t 5], i1 7 (bi .lss) [.t 4, .t 6]]) (.cond (.t 7) .skip (.exit 0)))
 (.seq (.fgt [0, 2, 3])
 (.seq
 (.block 1
 (.seq (.reg none [m1 10 0, m1 11 3, i1 12 .idxs [.t 10, .t 11], i1 13 (bi .eql) [.t 12, .k (.d (.int .u8 (.ofNat 0)))]])
 (.cond (.t 13) (.seq (.reg none [i1 2 .mv [kt]]) .ret) .skip)))
 (.seq (.fgt [0, 2, 3]) (.reg none [m1 8 3, i1 9 (bi .add) [.t 8, k1 1], m1 3 9]))))))))
 (.seq (.fgt [2]) (.seq (.reg none [i1 2 .mv [kf]]) .ret))))
 [.tmp 2]
theorem code124_ok : F0 124 = some (.code code124) := by kernel_rfl
def code105 : CFn :=
 .mk
 (.seq (.reg none [i1 2 .mv [.k (.d (.str []))]])
 (.seq
 (.reg none
 [i1 3 .mv
 [.k (.d (.str [.ofNat 48, .ofNat 49, .ofNat 50, .ofNat 51, .ofNat 52, .ofNat 53, .ofNat 54, .ofNat 55, .ofNat 56, .ofNat 57, .ofNat 97, .ofNat 98, .ofNat 99, .ofNat 100, .ofNat 101, .ofNat 102]))]])
 (.seq (.reg none [i1 4 .mv [.k (.d (.str [.ofNat 92]))]])
 (.seq
 (.seq (.reg none [m1 5 0, i1 6 (bi .geq) [.t 5, .k (.d (.int .u8 (.ofNat 16)))]])
 (.cond (.t 6)
 (.reg none
 [m1 7 4, m1 8 3, m1 9 0, i1 10 (bi .quo) [.t 9, .k (.d (.int .u8 (.ofNat 16)))], m1 11 0,
 i1 12 (bi .quo) [.t 11, .k (.d (.int .u8 (.ofNat 16)))], i1 13 (bi .add) [.t 12, .k (.d (.int .u8 (.ofNat 1)))],
 i1 14 (.cuts true true) [.t 8, .t 10, .t 13], i1 15 (bi .add) [.t 7, .t 14], m1 4 15])
 .skip))
 (.seq (.fgt [0, 2, 3, 4])
 (.seq
 (.reg none
 [m1 16 4, m1 17 3, m1 18 0, i1 19 (bi .rem) [.t 18, .k (.d (.int .u8 (.ofNat 16)))], m1 20 0,
 i1 21 (bi .rem) [.t 20, .k (.d (.int .u8 (.ofNat 16)))], i1 22 (bi .add) [.t 21, .k (.d (.int .u8 (.ofNat 1)))],
 i1 23 (.cuts true true) [.t 17, .t 19, .t 22], i1 24 (bi .add) [.t 16, .t 23], i1 25 (bi .add) [.t 24, .k (.d (.str [.ofNat 32]))],
 m1 2 25])
 .ret))))))
 [.tmp 2]
theorem code105_ok : F0 105 = some (.code code105) := by kernel_rfl
def code40 : CFn :=
 .mk
 (.seq (.reg none [i1 2 .mv [kf]])
 (.seq
 (.seq (.reg none [i1 3 .mv [k1 0]])
 (.block 0
 (.loop [0, 2, 3]
 (.seq (.seq (.reg none [m1 5 3, m1 6 0, i1 7 .len [.t 6], i1 8 (bi .lss) [.t 5, .t 7]]) (.cond (.t 8) .skip (.exit 0)))
 (.seq (.fgt [0, 2, 3])
 (.seq
 (.block 1
 (.seq
 (.seq
 (.reg none
 [m1 11 0, m1 12 3, i1 13 (.iad 11) [.t 11, .t 12], i1 14 (.fad 0) [.t 13], i1 15 ld [.t 14],
 i1 16 (bi .eql) [.t 15, k1 2], m1 17 16, g1 18 17 .mv [.t 0], g1 19 17 .mv [.t 3],
 g1 20 17 (.iad 11) [.t 18, .t 19], g1 21 17 (.fad 2) [.t 20], g1 22 17 (.load (some 7)) [.t 21],
 g1 23 17 (.call false) [fp 9, .t 22], g1 24 17 (.un .not) [.t 23], i1 25 .pick [.t 17, .t 24, kf]])
 (.cond (.t 25) (.seq (.reg none [i1 2 .mv [kf]]) .ret) .skip))
 (.seq (.fgt [0, 2, 3])
 (.seq (.reg none [i1 4 .mv [k1 0]])
 (.block 2
 (.loop [0, 2, 3, 4]
 (.seq
 (.seq
 (.reg none
 [m1 26 4, m1 27 0, m1 28 3, i1 29 (.iad 11) [.t 27, .t 28], i1 30 (.fad 10) [.t 29],
 i1 31 ld [.t 30], i1 32 .len [.t 31], i1 33 (bi .lss) [.t 26, .t 32]])
 (.cond (.t 33) .skip (.exit 2)))
 (.seq (.fgt [0, 2, 3, 4])
 (.seq
 (.block 3
 (.seq
 (.reg none
 [m1 36 0, m1 37 3, i1 38 (.iad 11) [.t 36, .t 37], i1 39 (.fad 10) [.t 38], i1 40 ld [.t 39],
 m1 41 4, i1 42 (.iad 11) [.t 40, .t 41], i1 43 (.fad 0) [.t 42], i1 44 ld [.t 43],
 i1 45 (bi .eql) [.t 44, k1 2], m1 46 45, g1 47 46 .mv [.t 0],
 g1 48 46 .mv [.t 3], g1 49 46 (.iad 11) [.t 47, .t 48], g1 50 46 (.fad 10) [.t 49], g1 51 46 ld [.t 50],
 g1 52 46 .mv [.t 4], g1 53 46 (.iad 11) [.t 51, .t 52], g1 54 46 (.fad 2) [.t 53], g1 55 46 (.load (some 7)) [.t 54],
 g1 56 46 (.call false) [fp 9, .t 55], g1 57 46 (.un .not) [.t 56], i1 58 .pick [.t 46, .t 57, kf]])
 (.cond (.t 58) (.seq (.reg none [i1 2 .mv [kf]]) .ret) .skip)))
 (.seq (.fgt [0, 2, 3, 4]) (.reg none [m1 34 4, i1 35 (bi .add) [.t 34, k1 1], m1 4 35])))))))))))
 (.seq (.fgt [0, 2, 3]) (.reg none [m1 9 3, i1 10 (bi .add) [.t 9, k1 1], m1 3 10]))))))))
 (.seq (.fgt [2]) (.seq (.reg none [i1 2 .mv [kt]]) .ret))))
 [.tmp 2]
theorem code40_ok : F0 40 = some (.code code40) := by kernel_rfl
def code9 : CFn :=
 .mk
 (.seq (.reg none [i1 1 (.box 25) [.t 0], i1 2 .mv [kf]])
 (.seq
 (.reg none
 [i1 3 (.fad 4) [.t 1], i1 4 ld [.t 3], i1 5 (.un .not) [.t 4], m1 6 5, g1 7 6 (.fad 0) [.t 1],
 g1 8 6 (.load (some 2)) [.t 7], g1 9 6 (.call false) [fp 25, .t 8], g1 10 6 .mv [.t 9], g0 11 10 (.fad 2) [.t 1],
 g0 12 10 (.load (some 2)) [.t 11], g0 13 10 (.call false) [fp 25, .t 12], g1 14 6 .pick [.t 10, kt, .t 13],
 i1 15 .pick [.t 6, .t 14, kf], m1 2 15])
 .ret))
 [.tmp 2]
theorem code9_ok : F0 9 = some (.code code9) := by kernel_rfl
def code15 : CFn :=
 .mk
 (.seq (.reg none [i1 2 .mv [kf]])
 (.seq
 (.seq (.reg none [m1 6 0, i1 7 .len [.t 6], i1 8 (bi .eql) [.t 7, k1 0]])
 (.cond (.t 8) (.seq (.reg none [i1 2 .mv [kt]]) .ret) .skip))
 (.seq (.fgt [0, 2])
 (.seq
 (.seq
 (.reg none
 [m1 9 0, i1 10 .len [.t 9], i1 11 (bi .gtr) [.t 10, k1 256], m1 12 11,
 g0 13 12 .mv [.t 0], g0 14 12 (.call false) [fp 37, .t 13], g0 15 12 (.un .not) [.t 14],
 i1 16 .pick [.t 12, kt, .t 15]])
 (.cond (.t 16) (.seq (.reg none [i1 2 .mv [kf]]) .ret) .skip))
 (.seq (.fgt [0, 2])
 (.seq (.reg none [m1 17 0, i1 18 .len [.t 17], m1 3 18])
 (.seq (.reg none [i1 4 .mv [k1 0]])
 (.seq
 (.seq (.reg none [i1 5 .mv [k1 0]])
 (.block 0
 (.loop [0, 2, 3, 4, 5]
 (.seq (.seq (.reg none [m1 19 5, m1 20 0, i1 21 .len [.t 20], i1 22 (bi .lss) [.t 19, .t 21]]) (.cond (.t 22) .skip (.exit 0)))
 (.seq (.fgt [0, 2, 3, 4, 5])
 (.seq
 (.block 1
 (.seq
 (.seq
 (.reg none
 [m1 25 0, m1 26 5, i1 27 (.iad 11) [.t 25, .t 26], i1 28 (.load (some 11)) [.t 27],
 i1 29 (.call false) [fp 38, .t 28], i1 30 (.un .not) [.t 29]])
 (.cond (.t 30) (.seq (.reg none [i1 2 .mv [kf]]) .ret) .skip))
 (.seq (.fgt [0, 2, 3, 4, 5])
 (.seq
 (.seq
 (.reg none
 [m1 31 0, m1 32 5, i1 33 (.iad 11) [.t 31, .t 32], i1 34 (.fad 0) [.t 33], i1 35 ld [.t 34],
 i1 36 (bi .eql) [.t 35, k1 1], m1 37 36, g0 38 37 .mv [.t 0],
 g0 39 37 .mv [.t 5], g0 40 37 (.iad 11) [.t 38, .t 39], g0 41 37 (.fad 0) [.t 40], g0 42 37 ld [.t 41],
 g0 43 37 (bi .eql) [.t 42, k1 2], i1 44 .pick [.t 37, kt, .t 43]])
 (.cond (.t 44) (.exit 1) .skip))
 (.seq (.fgt [0, 2, 3, 4, 5])
 (.seq
 (.seq
 (.reg none
 [m1 45 0, m1 46 5, i1 47 (.iad 11) [.t 45, .t 46], i1 48 (.fad 0) [.t 47], i1 49 ld [.t 48],
 i1 50 (bi .neq) [.t 49, k1 3]])
 (.cond (.t 50) (.reg none [m1 51 4, i1 52 (bi .add) [.t 51, k1 1], m1 4 52]) .skip))
 (.seq (.fgt [0, 2, 3, 4, 5])
 (.seq
 (.seq
 (.reg none
 [m1 53 0, m1 54 5, i1 55 (.iad 11) [.t 53, .t 54], i1 56 (.fad 10) [.t 55], i1 57 ld [.t 56],
 i1 58 (.call false) [fp 39, .t 57], i1 59 (.un .not) [.t 58]])
 (.cond (.t 59) (.seq (.reg none [i1 2 .mv [kf]]) .ret) .skip))
 (.seq (.fgt [0, 2, 3, 4, 5])
 (.seq
 (.reg none
 [m1 60 3, m1 61 0, m1 62 5, i1 63 (.iad 11) [.t 61, .t 62], i1 64 (.fad 10) [.t 63],
 i1 65 ld [.t 64], i1 66 .len [.t 65], i1 67 (bi .add) [.t 60, .t 66], m1 3 67])
 (.seq (.reg none [m1 68 3, i1 69 (bi .gtr) [.t 68, k1 256]])
 (.cond (.t 69) (.seq (.reg none [i1 2 .mv [kf]]) .ret) .skip))))))))))))
 (.seq (.fgt [0, 2, 3, 4, 5]) (.reg none [m1 23 5, i1 24 (bi .add) [.t 23, k1 1], m1 5 24]))))))))
 (.seq (.fgt [0, 2, 4])
 (.seq
 (.reg none
 [m1 70 4, i1 71 (bi .eql) [.t 70, k1 0], m1 72 71, g0 73 72 .mv [.t 4],
 g0 74 72 (bi .eql) [.t 73, k1 1], g0 75 72 .mv [.t 74], g1 76 75 .mv [.t 0],
 g1 77 75 (.call false) [fp 40, .t 76], g0 78 72 .pick [.t 75, .t 77, kf],
 i1 79 .pick [.t 72, kt, .t 78], m1 2 79])
 .ret))))))))))
 [.tmp 2]
theorem code15_ok : F0 15 = some (.code code15) := by kernel_rfl
def code32 : CFn :=
 .mk
 (.seq
 (.reg none
 [i1 1 (.box 23) [.t 0],
 .mk (some 2) none
 (.new 25 [.d (.int .i64 (.ofNat 0)), .d (.int .i64 (.ofNat 0)), .d (.int .i64 (.ofNat 0)), .d (.int .i64 (.ofNat 0)), .d (.bool false), .d (.int .i64 (.ofNat 0)), .d (.int .i64 (.ofNat 0))]) []])
 (.seq
 (.seq (.reg none [i1 3 (.fad 0) [.t 1], i1 4 ld [.t 3], i1 5 (bi .eql) [.t 4, k1 6]])
 (.cond (.t 5)
 (.seq
 (.reg none
 [i1 6 (.build [.d (.int .i64 (.ofNat 0)), .d (.int .i64 (.ofNat 0))] [(0, 1)]) [k1 1], i1 7 (.load (some 2)) [.t 1],
 .mk (some 8) none
 (.build [.d (.int .i64 (.ofNat 0)), .d (.int .i64 (.ofNat 0)), .d (.int .i64 (.ofNat 0)), .d (.int .i64 (.ofNat 0)), .d (.bool false), .d (.int .i64 (.ofNat 0)), .d (.int .i64 (.ofNat 0))]
 [(0, 2), (2, 2)])
 [.t 6, .t 7],
 .mk none none (.storeT 7) [.t 2, .t 8]])
 .ret)
 .skip))
 (.seq (.fgt [1, 2])
 (.seq
 (.reg none
 [i1 9 (.load (some 2)) [.t 1], i1 10 (.load (some 2)) [.t 1],
 .mk (some 11) none
 (.build [.d (.int .i64 (.ofNat 0)), .d (.int .i64 (.ofNat 0)), .d (.int .i64 (.ofNat 0)), .d (.int .i64 (.ofNat 0)), .d (.bool false), .d (.int .i64 (.ofNat 0)), .d (.int .i64 (.ofNat 0))]
 [(0, 2), (2, 2)])
 [.t 9, .t 10],
 .mk none none (.storeT 7) [.t 2, .t 11]])
 .ret))))
 [.cell 2 (some 7)]
theorem code32_ok : F0 32 = some (.code code32) := by kernel_rfl
def code11 : CFn :=
 .mk
 (.seq (.reg none [i1 1 (.box 25) [.t 0], i1 2 .mv [kf]])
 (.seq
 (.seq (.reg none [i1 3 (.fad 4) [.t 1], i1 4 ld [.t 3]])
 (.cond (.t 4)
 (.seq
 (.reg none
 [i1 5 (.fad 0) [.t 1], i1 6 (.load (some 2)) [.t 5], i1 7 (.build [.d (.int .i64 (.ofNat 0)), .d (.int .i64 (.ofNat 0))] [(0, 1)]) [k1 1],
 i1 8 (.bin .eql (.cells 2 [(0, 1), (1, 1)])) [.t 6, .t 7], m1 9 8, g1 10 9 (.fad 2) [.t 1], g1 11 9 (.load (some 2)) [.t 10],
 g1 12 9 (.build [.d (.int .i64 (.ofNat 0)), .d (.int .i64 (.ofNat 0))] [(0, 1)]) [k1 5],
 g1 13 9 (.bin .eql (.cells 2 [(0, 1), (1, 1)])) [.t 11, .t 12], i1 14 .pick [.t 9, .t 13, kf], m1 15 14,
 g1 16 15 (.fad 5) [.t 1], g1 17 15 (.load (some 2)) [.t 16], g1 18 15 (.call false) [fp 25, .t 17],
 i1 19 .pick [.t 15, .t 18, kf], m1 20 19, g1 21 20 (.fad 5) [.t 1], g1 22 20 (.load (some 2)) [.t 21],
 g1 23 20 (.call false) [fp 28, .t 22, k1 1], i1 24 .pick [.t 20, .t 23, kf], m1 2 24])
 .ret)
 .skip))
 (.seq (.fgt [1, 2])
 (.seq
 (.reg none
 [i1 25 (.fad 5) [.t 1], i1 26 (.load (some 2)) [.t 25], i1 27 (.build [.d (.int .i64 (.ofNat 0)), .d (.int .i64 (.ofNat 0))] []) [],
 i1 28 (.bin .eql (.cells 2 [(0, 1), (1, 1)])) [.t 26, .t 27], m1 29 28, g1 30 29 (.fad 0) [.t 1], g1 31 29 (.load (some 2)) [.t 30],
 g1 32 29 (.call false) [fp 28, .t 31, k1 13], i1 33 .pick [.t 29, .t 32, kf], m1 34 33,
 g1 35 34 (.fad 2) [.t 1], g1 36 34 (.load (some 2)) [.t 35], g1 37 34 (.call false) [fp 28, .t 36, k1 29],
 i1 38 .pick [.t 34, .t 37, kf], m1 2 38])
 .ret))))
 [.tmp 2]
theorem code11_ok : F0 11 = some (.code code11) := by kernel_rfl
def code19 : CFn :=
 .mk
 (.seq (.reg none [i1 4 .mv [kf]])
 (.seq (.reg none [m1 5 0, m1 6 1, i1 7 (.call false) [fp 44, .t 5, .t 6, k1 40], m1 4 7]) .ret))
 [.tmp 4]
theorem code19_ok : F0 19 = some (.code code19) := by kernel_rfl
def code13 : CFn :=
 .mk
 (.seq (.reg none [i1 1 (.box 25) [.t 0], i1 2 .mv [.k (.d (.str []))]])
 (.seq
 (.seq (.reg none [i1 3 (.load (some 7)) [.t 1], i1 4 (.call false) [fp 11, .t 3], i1 5 (.un .not) [.t 4]])
 (.cond (.t 5) (.seq (.reg none [i1 2 .mv [.k (.d (.str []))]]) .ret) .skip))
 (.seq (.fgt [1, 2])
 (.seq
 (.seq (.reg none [i1 6 (.fad 4) [.t 1], i1 7 ld [.t 6]])
 (.cond (.t 7)
 (.seq
 (.reg none
 [i1 8 (.fad 5) [.t 1], i1 9 (.load (some 2)) [.t 8], i1 10 (.call false) [fp 31, .t 9],
 i1 11 (bi .add)
 [.k (.d (.str [.ofNat 102, .ofNat 105, .ofNat 116, .ofNat 45, .ofNat 99, .ofNat 111, .ofNat 110, .ofNat 116, .ofNat 101, .ofNat 110, .ofNat 116, .ofNat 40])), .t 10],
 i1 12 (bi .add) [.t 11, .k (.d (.str [.ofNat 41]))], m1 2 12])
 .ret)
 .skip))
 (.seq (.fgt [1, 2])
 (.seq
 (.seq
 (.reg (some [])
 [i1 13 (.fad 0) [.t 1], i1 14 (.load (some 2)) [.t 13], i1 15 (.fad 2) [.t 1], i1 16 (.load (some 2)) [.t 15],
 i1 17 (.bin .eql (.cells 2 [(0, 1), (1, 1)])) [.t 14, .t 16], m1 18 17, g0 19 18 (.load (some 7)) [.t 1], g0 20 18 (.fad 2) [.t 1],
 g0 21 18 (.load (some 2)) [.t 20], g0 22 18 (.call true) [fp 32, .t 21],
 g0 23 18 (.bin .eql (.cells 7 [(0, 1), (1, 1), (2, 1), (3, 1), (4, 0), (5, 1), (6, 1)])) [.t 19, .t 22], i1 24 .pick [.t 18, kt, .t 23]])
 (.cond (.t 24) (.seq (.reg none [i1 25 (.fad 2) [.t 1], i1 26 (.load (some 2)) [.t 25], i1 27 (.call false) [fp 31, .t 26], m1 2 27]) .ret) .skip))
 (.seq (.fgt [1, 2])
 (.seq
 (.reg (some [])
 [i1 28 (.fad 0) [.t 1], i1 29 (.load (some 2)) [.t 28], i1 30 (.call true) [fp 31, .t 29],
 i1 31 (bi .add) [.k (.d (.str [.ofNat 109, .ofNat 105, .ofNat 110, .ofNat 109, .ofNat 97, .ofNat 120, .ofNat 40])), .t 30],
 i1 32 (bi .add) [.t 31, .k (.d (.str [.ofNat 44, .ofNat 32]))], i1 33 (.fad 2) [.t 1], i1 34 (.load (some 2)) [.t 33],
 i1 35 (.call true) [fp 31, .t 34], i1 36 (bi .add) [.t 32, .t 35], i1 37 (bi .add) [.t 36, .k (.d (.str [.ofNat 41]))],
 m1 2 37])
 .ret))))))))
 [.tmp 2]
theorem code13_ok : F0 13 = some (.code code13) := by kernel_rfl
def code17 : CFn :=
 .mk
 (.seq (.reg none [i1 2 .mv [.k (.d (.str []))]])
 (.seq
 (.seq (.reg none [m1 5 0, i1 6 .len [.t 5], i1 7 (bi .eql) [.t 6, k1 0]])
 (.cond (.t 7) (.seq (.reg none [i1 2 .mv [.k (.d (.str [.ofNat 110, .ofNat 111, .ofNat 110, .ofNat 101]))]]) .ret) .skip))
 (.seq (.fgt [0, 2])
 (.seq
 (.seq (.reg none [m1 8 0, i1 9 (.call false) [fp 15, .t 8], i1 10 (.un .not) [.t 9]])
 (.cond (.t 10) (.seq (.reg none [i1 2 .mv [.k (.d (.str []))]]) .ret) .skip))
 (.seq (.fgt [0, 2])
 (.seq (.reg none [i1 3 .mv [.k (.d .nilsl)]])
 (.seq
 (.seq (.reg none [i1 4 .mv [k1 0]])
 (.block 0
 (.loop [0, 2, 3, 4]
 (.seq (.seq (.reg none [m1 11 4, m1 12 0, i1 13 .len [.t 12], i1 14 (bi .lss) [.t 11, .t 13]]) (.cond (.t 14) .skip (.exit 0)))
 (.seq (.fgt [0, 2, 3, 4])
 (.seq
 (.block 1
 (.reg none
 [m1 17 3, m1 18 0, m1 19 4, i1 20 (.iad 11) [.t 18, .t 19], i1 21 (.load (some 11)) [.t 20],
 i1 22 (.call false) [fp 42, .t 21], i1 23 (.bslT 9 1 [.str []] 1 [0]) [.t 22], i1 24 (.appT 9 1 16) [.t 17, .t 23], m1 3 24]))
 (.seq (.fgt [0, 2, 3, 4]) (.reg none [m1 15 4, i1 16 (bi .add) [.t 15, k1 1], m1 4 16]))))))))
 (.seq (.fgt [2, 3]) (.seq (.reg none [m1 25 3, i1 26 (.call false) [fp 43, .t 25], m1 2 26]) .ret)))))))))
 [.tmp 2]
theorem code17_ok : F0 17 = some (.code code17) := by kernel_rfl
def code68 : CFn :=
 .mk
 (.seq (.reg none [i1 4 .mv [kf]])
 (.seq
 (.seq (.reg none [m1 6 0, i1 7 .len [.t 6], m1 8 1, i1 9 .len [.t 8], i1 10 (bi .neq) [.t 7, .t 9]])
 (.cond (.t 10) (.seq (.reg none [i1 4 .mv [kf]]) .ret) .skip))
 (.seq (.fgt [0, 1, 4])
 (.seq
 (.seq (.reg none [i1 5 .mv [k1 0]])
 (.block 0
 (.loop [0, 1, 4, 5]
 (.seq (.seq (.reg none [m1 11 5, m1 12 0, i1 13 .len [.t 12], i1 14 (bi .lss) [.t 11, .t 13]]) (.cond (.t 14) .skip (.exit 0)))
 (.seq (.fgt [0, 1, 4, 5])
 (.seq
 (.block 1
 (.seq
 (.reg (some [])
 [m1 17 0, m1 18 5, i1 19 (.iad 1) [.t 17, .t 18], i1 20 ld [.t 19], m1 21 1, m1 22 5,
 i1 23 (.iad 1) [.t 21, .t 22], i1 24 ld [.t 23], i1 25 (bi .neq) [.t 20, .t 24]])
 (.cond (.t 25) (.seq (.reg none [i1 4 .mv [kf]]) .ret) .skip)))
 (.seq (.fgt [0, 1, 4, 5]) (.reg none [m1 15 5, i1 16 (bi .add) [.t 15, k1 1], m1 5 16]))))))))
 (.seq (.fgt [4]) (.seq (.reg none [i1 4 .mv [kt]]) .ret))))))
 [.tmp 4]
theorem code68_ok : F0 68 = some (.code code68) := by kernel_rfl
def code37 : CFn :=
 .mk
 (.seq (.reg none [i1 2 .mv [kf]])
 (.seq (.reg none [i1 3 .mv [kf]])
 (.seq
 (.seq (.reg none [i1 4 .mv [k1 0]])
 (.block 0
 (.loop [0, 2, 3, 4]
 (.seq (.seq (.reg none [m1 5 4, m1 6 0, i1 7 .len [.t 6], i1 8 (bi .lss) [.t 5, .t 7]]) (.cond (.t 8) .skip (.exit 0)))
 (.seq (.fgt [0, 2, 3, 4])
 (.seq
 (.block 1
 (.seq
 (.seq
 (.reg none
 [m1 11 4, i1 12 (bi .gtr) [.t 11, k1 0], m1 13 12, g1 14 13 .mv [.t 0],
 g1 15 13 .mv [.t 4], g1 16 13 (.iad 11) [.t 14, .t 15], g1 17 13 (.fad 0) [.t 16], g1 18 13 ld [.t 17],
 g1 19 13 (bi .eql) [.t 18, k1 1], i1 20 .pick [.t 13, .t 19, kf], m1 21 20,
 g1 22 21 .mv [.t 0], g1 23 21 .mv [.t 4], g1 24 21 (bi .sub) [.t 23, k1 1],
 g1 25 21 (.iad 11) [.t 22, .t 24], g1 26 21 (.fad 0) [.t 25], g1 27 21 ld [.t 26],
 g1 28 21 (bi .eql) [.t 27, k1 1], i1 29 .pick [.t 21, .t 28, kf]])
 (.cond (.t 29) (.seq (.reg none [i1 2 .mv [kf]]) .ret) .skip))
 (.seq (.fgt [0, 2, 3, 4])
 (.reg none
 [m1 30 3, m1 31 30, g0 32 31 .mv [.t 0], g0 33 31 .mv [.t 4], g0 34 31 (.iad 11) [.t 32, .t 33],
 g0 35 31 (.fad 0) [.t 34], g0 36 31 ld [.t 35], g0 37 31 (bi .neq) [.t 36, k1 1],
 i1 38 .pick [.t 31, kt, .t 37], m1 3 38]))))
 (.seq (.fgt [0, 2, 3, 4]) (.reg none [m1 9 4, i1 10 (bi .add) [.t 9, k1 1], m1 4 10]))))))))
 (.seq (.fgt [2, 3]) (.seq (.reg none [m1 39 3, m1 2 39]) .ret)))))
 [.tmp 2]
theorem code37_ok : F0 37 = some (.code code37) := by kernel_rfl
def code39 : CFn :=
 .mk
 (.seq (.reg none [i1 2 .mv [kf]])
 (.seq
 (.seq
 (.reg none
 [m1 4 0, i1 5 .len [.t 4], i1 6 (bi .gtr) [.t 5, k1 256], m1 7 6, g0 8 7 .mv [.t 0],
 g0 9 7 (.call false) [fp 37, .t 8], g0 10 7 (.un .not) [.t 9], i1 11 .pick [.t 7, kt, .t 10]])
 (.cond (.t 11) (.seq (.reg none [i1 2 .mv [kf]]) .ret) .skip))
 (.seq (.fgt [0, 2])
 (.seq
 (.seq (.reg none [i1 3 .mv [k1 0]])
 (.block 0
 (.loop [0, 2, 3]
 (.seq (.seq (.reg none [m1 12 3, m1 13 0, i1 14 .len [.t 13], i1 15 (bi .lss) [.t 12, .t 14]]) (.cond (.t 15) .skip (.exit 0)))
 (.seq (.fgt [0, 2, 3])
 (.seq
 (.block 1
 (.seq
 (.reg none
 [m1 18 0, m1 19 3, i1 20 (.iad 11) [.t 18, .t 19], i1 21 (.fad 0) [.t 20], i1 22 ld [.t 21],
 i1 23 (bi .neq) [.t 22, k1 1], m1 24 23, g1 25 24 .mv [.t 0], g1 26 24 .mv [.t 3],
 g1 27 24 (.iad 11) [.t 25, .t 26], g1 28 24 (.fad 0) [.t 27], g1 29 24 ld [.t 28],
 g1 30 24 (bi .neq) [.t 29, k1 2], i1 31 .pick [.t 24, .t 30, kf], m1 32 31,
 g0 33 32 .mv [.t 0], g0 34 32 .mv [.t 3], g0 35 32 (.iad 11) [.t 33, .t 34], g0 36 32 (.load (some 11)) [.t 35],
 g0 37 32 (.call false) [fp 38, .t 36], g0 38 32 (.un .not) [.t 37], i1 39 .pick [.t 32, kt, .t 38]])
 (.cond (.t 39) (.seq (.reg none [i1 2 .mv [kf]]) .ret) .skip)))
 (.seq (.fgt [0, 2, 3]) (.reg none [m1 16 3, i1 17 (bi .add) [.t 16, k1 1], m1 3 17]))))))))
 (.seq (.fgt [2]) (.seq (.reg none [i1 2 .mv [kt]]) .ret))))))
 [.tmp 2]
theorem code39_ok : F0 39 = some (.code code39) := by kernel_rfl
def code25 : CFn :=
 .mk
 (.seq (.reg none [i1 1 (.box 23) [.t 0], i1 2 .mv [kf]])
 (.seq
 (.reg none
 [i1 3 (.fad 0) [.t 1], i1 4 ld [.t 3], i1 5 (bi .eql) [.t 4, k1 2], m1 6 5,
 g0 7 6 (.fad 0) [.t 1], g0 8 6 ld [.t 7], g0 9 6 (bi .eql) [.t 8, k1 3],
 i1 10 .pick [.t 6, kt, .t 9], m1 2 10])
 .ret))
 [.tmp 2]
theorem code25_ok : F0 25 = some (.code code25) := by kernel_rfl
def code43 : CFn :=
 .mk
 (.seq (.reg none [i1 2 .mv [.k (.d (.str []))]])
 (.seq (.reg none [i1 3 .mv [.k (.d (.str []))]])
 (.seq
 (.seq (.reg none [i1 4 .mv [k1 0]])
 (.block 0
 (.loop [0, 2, 3, 4]
 (.seq (.seq (.reg none [m1 5 4, m1 6 0, i1 7 .len [.t 6], i1 8 (bi .lss) [.t 5, .t 7]]) (.cond (.t 8) .skip (.exit 0)))
 (.seq (.fgt [0, 2, 3, 4])
 (.seq
 (.block 1
 (.seq
 (.seq (.reg none [m1 11 4, i1 12 (bi .gtr) [.t 11, k1 0]])
 (.cond (.t 12) (.reg none [m1 13 3, i1 14 (bi .add) [.t 13, .k (.d (.str [.ofNat 32]))], m1 3 14]) .skip))
 (.seq (.fgt [0, 2, 3, 4])
 (.reg none
 [m1 15 3, m1 16 0, m1 17 4, i1 18 (.iad 1) [.t 16, .t 17], i1 19 ld [.t 18],
 i1 20 (bi .add) [.t 15, .t 19], m1 3 20]))))
 (.seq (.fgt [0, 2, 3, 4]) (.reg none [m1 9 4, i1 10 (bi .add) [.t 9, k1 1], m1 4 10]))))))))
 (.seq (.fgt [2, 3]) (.seq (.reg none [m1 21 3, m1 2 21]) .ret)))))
 [.tmp 2]
theorem code43_ok : F0 43 = some (.code code43) := by kernel_rfl
def code63 : CFn :=
 .mk
 (.seq (.reg none [i1 2 .mv [kf]])
 (.seq
 (.seq
 (.reg none
 [m1 4 0, i1 5 .len [.t 4], i1 6 (bi .lss) [.t 5, k1 1], m1 7 6, g0 8 7 .mv [.t 0],
 g0 9 7 .len [.t 8], g0 10 7 (bi .gtr) [.t 9, k1 16], i1 11 .pick [.t 7, kt, .t 10]])
 (.cond (.t 11) (.seq (.reg none [i1 2 .mv [kf]]) .ret) .skip))
 (.seq (.fgt [0, 2])
 (.seq
 (.seq (.reg none [i1 3 .mv [k1 0]])
 (.block 0
 (.loop [0, 2, 3]
 (.seq (.seq (.reg none [m1 12 3, m1 13 0, i1 14 .len [.t 13], i1 15 (bi .lss) [.t 12, .t 14]]) (.cond (.t 15) .skip (.exit 0)))
 (.seq (.fgt [0, 2, 3])
 (.seq
 (.block 1
 (.seq
 (.reg none
 [m1 18 0, m1 19 3, i1 20 (.iad 1) [.t 18, .t 19], i1 21 ld [.t 20], i1 22 (.call false) [fp 89, .t 21],
 i1 23 (.un .not) [.t 22]])
 (.cond (.t 23) (.seq (.reg none [i1 2 .mv [kf]]) .ret) .skip)))
 (.seq (.fgt [0, 2, 3]) (.reg none [m1 16 3, i1 17 (bi .add) [.t 16, k1 1], m1 3 17]))))))))
 (.seq (.fgt [2]) (.seq (.reg none [i1 2 .mv [kt]]) .ret))))))
 [.tmp 2]
theorem code63_ok : F0 63 = some (.code code63) := by kernel_rfl
def code42 : CFn :=
 .mk
 (.seq (.reg none [i1 1 (.box 46) [.t 0], i1 2 .mv [.k (.d (.str []))]])
 (.seq
 (.seq (.reg none [i1 8 (.fad 0) [.t 1], i1 9 ld [.t 8]])
 (.block 0
 (.seq (.reg none [i1 11 (bi .eql) [.t 9, k1 1], m1 10 11])
 (.cond (.t 10)
 (.seq (.reg none [i1 3 .mv [.k (.d .nilsl)]])
 (.seq
 (.seq (.reg none [i1 4 .mv [k1 0]])
 (.block 1
 (.loop [1, 2, 3, 4]
 (.seq
 (.seq
 (.reg none [m1 12 4, i1 13 (.fad 1) [.t 1], i1 14 ld [.t 13], i1 15 .len [.t 14], i1 16 (bi .lss) [.t 12, .t 15]])
 (.cond (.t 16) .skip (.exit 1)))
 (.seq (.fgt [1, 2, 3, 4])
 (.seq
 (.block 2
 (.reg none
 [m1 19 3, i1 20 (.fad 1) [.t 1], i1 21 ld [.t 20], m1 22 4, i1 23 (.iad 1) [.t 21, .t 22],
 i1 24 ld [.t 23], i1 25 (.call false) [fp 67, .t 24], i1 26 (.bslT 9 1 [.str []] 1 [0]) [.t 25], i1 27 (.appT 9 1 16) [.t 19, .t 26],
 m1 3 27]))
 (.seq (.fgt [1, 2, 3, 4]) (.reg none [m1 17 4, i1 18 (bi .add) [.t 17, k1 1], m1 4 18]))))))))
 (.seq (.fgt [2, 3])
 (.seq
 (.reg none
 [m1 28 3, i1 29 (.call false) [fp 43, .t 28], i1 30 (bi .add) [.k (.d (.str [.ofNat 91])), .t 29],
 i1 31 (bi .add) [.t 30, .k (.d (.str [.ofNat 93]))], m1 2 31])
 .ret))))
 (.seq (.reg none [i1 33 (bi .eql) [.t 9, k1 2], m1 32 33])
 (.cond (.t 32) (.seq (.reg none [i1 34 (.fad 2) [.t 1], i1 35 (.load (some 7)) [.t 34], i1 36 (.call false) [fp 13, .t 35], m1 2 36]) .ret)
 .skip))))))
 (.seq (.fgt [1, 2])
 (.seq (.reg none [i1 5 .mv [.k (.d (.str [.ofNat 97, .ofNat 117, .ofNat 116, .ofNat 111, .ofNat 45, .ofNat 102, .ofNat 105, .ofNat 108, .ofNat 108]))]])
 (.seq
 (.seq (.reg none [i1 37 (.fad 0) [.t 1], i1 38 ld [.t 37], i1 39 (bi .eql) [.t 38, k1 5]])
 (.cond (.t 39) (.reg none [i1 5 .mv [.k (.d (.str [.ofNat 97, .ofNat 117, .ofNat 116, .ofNat 111, .ofNat 45, .ofNat 102, .ofNat 105, .ofNat 116]))]]) .skip))
 (.seq (.fgt [1, 2, 5])
 (.seq
 (.seq (.reg none [i1 40 (.fad 0) [.t 1], i1 41 ld [.t 40], i1 42 (bi .eql) [.t 41, k1 3]])
 (.cond (.t 42)
 (.reg none
 [i1 43 (.fad 9) [.t 1], i1 44 ld [.t 43], i1 45 (.call false) [fp 60, .t 44, k1 1], m1 5 45])
 .skip))
 (.seq (.fgt [1, 2, 5])
 (.seq (.reg none [i1 6 .mv [.k (.d .nilsl)]])
 (.seq
 (.seq (.reg none [i1 7 .mv [k1 0]])
 (.block 3
 (.loop [1, 2, 5, 6, 7]
 (.seq
 (.seq
 (.reg none
 [m1 46 7, i1 47 (.fad 10) [.t 1], i1 48 ld [.t 47], i1 49 .len [.t 48], i1 50 (bi .lss) [.t 46, .t 49]])
 (.cond (.t 50) .skip (.exit 3)))
 (.seq (.fgt [1, 2, 5, 6, 7])
 (.seq
 (.block 4
 (.reg (some [(54, 1, 53, 0), (55, 0, 53, 0), (60, 1, 53, 0), (61, 0, 53, 0), (66, 1, 53, 0), (67, 0, 53, 0)])
 [m1 53 6, i1 54 (.fad 10) [.t 1], i1 55 ld [.t 54], m1 56 7, i1 57 (.iad 11) [.t 55, .t 56],
 i1 58 (.fad 0) [.t 57], i1 59 ld [.t 58], i1 60 (.fad 10) [.t 1], i1 61 ld [.t 60], m1 62 7,
 i1 63 (.iad 11) [.t 61, .t 62], i1 64 (.fad 1) [.t 63], i1 65 ld [.t 64], i1 66 (.fad 10) [.t 1], i1 67 ld [.t 66],
 m1 68 7, i1 69 (.iad 11) [.t 67, .t 68], i1 70 (.fad 2) [.t 69], i1 71 (.load (some 7)) [.t 70],
 .mk (some 72) none
 (.build
 [.d (.int .i64 (.ofNat 0)), .d .nilsl, .d (.int .i64 (.ofNat 0)), .d (.int .i64 (.ofNat 0)), .d (.int .i64 (.ofNat 0)), .d (.int .i64 (.ofNat 0)), .d (.bool false),
 .d (.int .i64 (.ofNat 0)), .d (.int .i64 (.ofNat 0)), .d (.int .i64 (.ofNat 0)), .d .nilsl]
 [(0, 1), (1, 1), (2, 7)])
 [.t 59, .t 65, .t 71],
 i1 73 (.call true) [fp 42, .t 72], i1 74 (.bsl 9 1 [.str []] 1 [0]) [.t 73], i1 75 (.app 9 1 16) [.t 53, .t 74], m1 6 75]))
 (.seq (.fgt [1, 2, 5, 6, 7]) (.reg none [m1 51 7, i1 52 (bi .add) [.t 51, k1 1], m1 7 52]))))))))
 (.seq (.fgt [2, 5, 6])
 (.seq
 (.reg none
 [m1 76 5, i1 77 (bi .add) [.k (.d (.str [.ofNat 114, .ofNat 101, .ofNat 112, .ofNat 101, .ofNat 97, .ofNat 116, .ofNat 40])), .t 76],
 i1 78 (bi .add) [.t 77, .k (.d (.str [.ofNat 44, .ofNat 32]))], m1 79 6, i1 80 (.call false) [fp 43, .t 79],
 i1 81 (bi .add) [.t 78, .t 80], i1 82 (bi .add) [.t 81, .k (.d (.str [.ofNat 41]))], m1 2 82])
 .ret))))))))))))
 [.tmp 2]
theorem code42_ok : F0 42 = some (.code code42) := by kernel_rfl
def code38 : CFn :=
 .mk
 (.seq (.reg none [i1 1 (.box 46) [.t 0], i1 2 .mv [kf]])
 (.seq
 (.seq
 (.reg none
 [i1 3 (.fad 0) [.t 1], i1 4 ld [.t 3], i1 5 (bi .neq) [.t 4, k1 1], m1 6 5,
 g1 7 6 (.fad 1) [.t 1], g1 8 6 ld [.t 7], g1 9 6 .len [.t 8],
 g1 10 6 (bi .gtr) [.t 9, k1 0], i1 11 .pick [.t 6, .t 10, kf], m1 12 11,
 g0 13 12 (.fad 0) [.t 1], g0 14 12 ld [.t 13], g0 15 12 (bi .neq) [.t 14, k1 2],
 g0 16 12 .mv [.t 15], g1 17 16 (.fad 2) [.t 1], g1 18 16 (.load (some 7)) [.t 17],
 .mk (some 19) (some (16, true))
 (.build [.d (.int .i64 (.ofNat 0)), .d (.int .i64 (.ofNat 0)), .d (.int .i64 (.ofNat 0)), .d (.int .i64 (.ofNat 0)), .d (.bool false), .d (.int .i64 (.ofNat 0)), .d (.int .i64 (.ofNat 0))] [])
 [],
 g1 20 16 (.bin .neq (.cells 7 [(0, 1), (1, 1), (2, 1), (3, 1), (4, 0), (5, 1), (6, 1)])) [.t 18, .t 19], g0 21 12 .pick [.t 16, .t 20, kf],
 i1 22 .pick [.t 12, kt, .t 21], m1 23 22, g0 24 23 (.fad 0) [.t 1], g0 25 23 ld [.t 24],
 g0 26 23 (bi .neq) [.t 25, k1 3], g0 27 23 .mv [.t 26], g1 28 27 (.fad 9) [.t 1],
 g1 29 27 ld [.t 28], g1 30 27 (bi .neq) [.t 29, k1 0], g0 31 23 .pick [.t 27, .t 30, kf],
 i1 32 .pick [.t 23, kt, .t 31]])
 (.cond (.t 32) (.seq (.reg none [i1 2 .mv [kf]]) .ret) .skip))
 (.seq (.fgt [1, 2])
 (.seq
 (.seq (.reg none [i1 33 (.fad 0) [.t 1], i1 34 ld [.t 33]])
 (.block 0
 (.seq (.reg none [i1 36 (bi .eql) [.t 34, k1 1], m1 35 36])
 (.cond (.t 35)
 (.seq
 (.reg none
 [i1 37 (.fad 1) [.t 1], i1 38 ld [.t 37], i1 39 (.call false) [fp 63, .t 38], m1 40 39,
 g1 41 40 (.fad 10) [.t 1], g1 42 40 ld [.t 41], g1 43 40 .len [.t 42],
 g1 44 40 (bi .eql) [.t 43, k1 0], i1 45 .pick [.t 40, .t 44, kf], m1 2 45])
 .ret)
 (.seq (.reg none [i1 47 (bi .eql) [.t 34, k1 2], m1 46 47])
 (.cond (.t 46)
 (.seq
 (.reg none
 [i1 48 (.fad 2) [.t 1], i1 49 (.load (some 7)) [.t 48], i1 50 (.call false) [fp 11, .t 49], m1 51 50,
 g1 52 51 (.fad 10) [.t 1], g1 53 51 ld [.t 52], g1 54 51 .len [.t 53],
 g1 55 51 (bi .eql) [.t 54, k1 0], i1 56 .pick [.t 51, .t 55, kf], m1 2 56])
 .ret)
 (.seq (.reg none [i1 58 (bi .eql) [.t 34, k1 3], m1 57 58])
 (.cond (.t 57)
 (.seq
 (.reg none
 [i1 59 (.fad 9) [.t 1], i1 60 ld [.t 59], i1 61 (bi .geq) [.t 60, k1 1], m1 62 61,
 g1 63 62 (.fad 9) [.t 1], g1 64 62 ld [.t 63], g1 65 62 (bi .leq) [.t 64, k1 10000],
 i1 66 .pick [.t 62, .t 65, kf], m1 2 66])
 .ret)
 .skip))))))))
 (.seq (.fgt [1, 2])
 (.seq
 (.reg none
 [i1 67 (.fad 0) [.t 1], i1 68 ld [.t 67], i1 69 (bi .eql) [.t 68, k1 4], m1 70 69,
 g0 71 70 (.fad 0) [.t 1], g0 72 70 ld [.t 71], g0 73 70 (bi .eql) [.t 72, k1 5],
 i1 74 .pick [.t 70, kt, .t 73], m1 2 74])
 .ret))))))
 [.tmp 2]
theorem code38_ok : F0 38 = some (.code code38) := by kernel_rfl
def code44 : CFn :=
 .mk
 (.seq (.reg none [i1 6 .mv [kf]])
 (.seq
 (.seq (.reg none [m1 10 0, i1 11 .len [.t 10], m1 12 1, i1 13 .len [.t 12], i1 14 (bi .neq) [.t 11, .t 13]])
 (.cond (.t 14) (.seq (.reg none [i1 6 .mv [kf]]) .ret) .skip))
 (.seq (.fgt [0, 1, 2, 6])
 (.seq
 (.seq (.reg none [i1 7 .mv [k1 0]])
 (.block 0
 (.loop [0, 1, 2, 6, 7]
 (.seq (.seq (.reg none [m1 15 7, m1 16 0, i1 17 .len [.t 16], i1 18 (bi .lss) [.t 15, .t 17]]) (.cond (.t 18) .skip (.exit 0)))
 (.seq (.fgt [0, 1, 2, 6, 7])
 (.seq
 (.block 1
 (.seq
 (.reg none
 [m1 21 0, m1 22 7, i1 23 (.iad 11) [.t 21, .t 22], i1 24 (.load (some 11)) [.t 23],
 .mk (some 8) none
 (.new 46
 [.d (.int .i64 (.ofNat 0)), .d .nilsl, .d (.int .i64 (.ofNat 0)), .d (.int .i64 (.ofNat 0)), .d (.int .i64 (.ofNat 0)), .d (.int .i64 (.ofNat 0)), .d (.bool false),
 .d (.int .i64 (.ofNat 0)), .d (.int .i64 (.ofNat 0)), .d (.int .i64 (.ofNat 0)), .d .nilsl])
 [],
 .mk none none (.storeT 11) [.t 8, .t 24]])
 (.seq
 (.reg none
 [m1 25 1, m1 26 7, i1 27 (.iad 11) [.t 25, .t 26], i1 28 (.load (some 11)) [.t 27],
 .mk (some 9) none
 (.new 46
 [.d (.int .i64 (.ofNat 0)), .d .nilsl, .d (.int .i64 (.ofNat 0)), .d (.int .i64 (.ofNat 0)), .d (.int .i64 (.ofNat 0)), .d (.int .i64 (.ofNat 0)), .d (.bool false),
 .d (.int .i64 (.ofNat 0)), .d (.int .i64 (.ofNat 0)), .d (.int .i64 (.ofNat 0)), .d .nilsl])
 [],
 .mk none none (.storeT 11) [.t 9, .t 28]])
 (.seq
 (.seq
 (.reg none
 [i1 29 (.fad 0) [.t 8], i1 30 ld [.t 29], i1 31 (.fad 0) [.t 9], i1 32 ld [.t 31],
 i1 33 (bi .neq) [.t 30, .t 32], m1 34 33, g0 35 34 (.fad 1) [.t 8], g0 36 34 ld [.t 35],
 g0 37 34 (.fad 1) [.t 9], g0 38 34 ld [.t 37], g0 39 34 (.call false) [fp 68, .t 36, .t 38],
 g0 40 34 (.un .not) [.t 39], i1 41 .pick [.t 34, kt, .t 40], m1 42 41, g0 43 42 (.fad 2) [.t 8],
 g0 44 42 (.load (some 7)) [.t 43], g0 45 42 (.fad 2) [.t 9], g0 46 42 (.load (some 7)) [.t 45],
 g0 47 42 (.bin .neq (.cells 7 [(0, 1), (1, 1), (2, 1), (3, 1), (4, 0), (5, 1), (6, 1)])) [.t 44, .t 46], i1 48 .pick [.t 42, kt, .t 47],
 m1 49 48, g0 50 49 (.fad 9) [.t 8], g0 51 49 ld [.t 50], g0 52 49 (.fad 9) [.t 9],
 g0 53 49 ld [.t 52], g0 54 49 (bi .neq) [.t 51, .t 53], i1 55 .pick [.t 49, kt, .t 54]])
 (.cond (.t 55) (.seq (.reg none [i1 6 .mv [kf]]) .ret) .skip))
 (.seq (.fgt [0, 1, 2, 6, 7, 8, 9])
 (.seq
 (.reg none
 [m1 56 2, i1 57 (bi .gtr) [.t 56, k1 0], m1 58 57, g1 59 58 (.fad 10) [.t 8],
 g1 60 58 ld [.t 59], g1 61 58 (.fad 10) [.t 9], g1 62 58 ld [.t 61], g1 63 58 .mv [.t 2],
 g1 64 58 (bi .sub) [.t 63, k1 1], g1 65 58 (.call false) [fp 44, .t 60, .t 62, .t 64],
 g1 66 58 (.un .not) [.t 65], i1 67 .pick [.t 58, .t 66, kf]])
 (.cond (.t 67) (.seq (.reg none [i1 6 .mv [kf]]) .ret) .skip)))))))
 (.seq (.fgt [0, 1, 2, 6, 7]) (.reg none [m1 19 7, i1 20 (bi .add) [.t 19, k1 1], m1 7 20]))))))))
 (.seq (.fgt [6]) (.seq (.reg none [i1 6 .mv [kt]]) .ret))))))
 [.tmp 6]
theorem code44_ok : F0 44 = some (.code code44) := by kernel_rfl
def code93 : CFn :=
 .mk
 (.seq (.reg none [i1 2 .mv [kf]])
 (.seq
 (.reg none
 [m1 3 0, i1 4 (bi .geq) [.t 3, .k (.d (.int .u8 (.ofNat 97)))], m1 5 4, g1 6 5 .mv [.t 0],
 g1 7 5 (bi .leq) [.t 6, .k (.d (.int .u8 (.ofNat 122)))], i1 8 .pick [.t 5, .t 7, kf], m1 9 8,
 g0 10 9 .mv [.t 0], g0 11 9 (bi .geq) [.t 10, .k (.d (.int .u8 (.ofNat 65)))], g0 12 9 .mv [.t 11], g1 13 12 .mv [.t 0],
 g1 14 12 (bi .leq) [.t 13, .k (.d (.int .u8 (.ofNat 90)))], g0 15 9 .pick [.t 12, .t 14, kf],
 i1 16 .pick [.t 9, kt, .t 15], m1 17 16, g0 18 17 .mv [.t 0],
 g0 19 17 (bi .eql) [.t 18, .k (.d (.int .u8 (.ofNat 95)))], i1 20 .pick [.t 17, kt, .t 19], m1 21 20,
 g0 22 21 .mv [.t 0], g0 23 21 (bi .geq) [.t 22, .k (.d (.int .u8 (.ofNat 128)))], i1 24 .pick [.t 21, kt, .t 23],
 m1 2 24])
 .ret))
 [.tmp 2]
theorem code93_ok : F0 93 = some (.code code93) := by kernel_rfl
def code8 : CFn :=
 .mk
 (.seq (.reg none [i1 1 (.box 25) [.t 0], i1 2 .mv [kf]])
 (.seq
 (.reg none
 [i1 3 (.fad 4) [.t 1], i1 4 ld [.t 3], i1 5 (.un .not) [.t 4], m1 6 5, g1 7 6 (.fad 0) [.t 1],
 g1 8 6 (.load (some 2)) [.t 7], g1 9 6 (.call false) [fp 24, .t 8], g1 10 6 .mv [.t 9], g0 11 10 (.fad 2) [.t 1],
 g0 12 10 (.load (some 2)) [.t 11], g0 13 10 (.call false) [fp 24, .t 12], g1 14 6 .pick [.t 10, kt, .t 13],
 i1 15 .pick [.t 6, .t 14, kf], m1 2 15])
 .ret))
 [.tmp 2]
theorem code8_ok : F0 8 = some (.code code8) := by kernel_rfl
def code14 : CFn :=
 .mk
 (.seq (.reg none [i1 2 .mv [kf]])
 (.seq
 (.seq (.reg none [m1 7 0, i1 8 .len [.t 7], i1 9 (bi .eql) [.t 8, k1 0]])
 (.cond (.t 9) (.seq (.reg none [i1 2 .mv [kt]]) .ret) .skip))
 (.seq (.fgt [0, 2])
 (.seq
 (.seq (.reg none [m1 10 0, i1 11 (.call false) [fp 33, .t 10, kf], i1 12 (.un .not) [.t 11]])
 (.cond (.t 12) (.seq (.reg none [i1 2 .mv [kf]]) .ret) .skip))
 (.seq (.fgt [0, 2])
 (.seq (.reg none [m1 13 0, i1 14 .len [.t 13], m1 3 14, i1 4 .mv [k1 0]])
 (.seq
 (.seq (.reg none [m1 15 0, i1 16 .len [.t 15], i1 17 .mv [k1 0]])
 (.block 0
 (.loop [0, 2, 3, 4, 15, 16, 17]
 (.seq (.reg none [i1 18 (bi .lss) [.t 17, .t 16]])
 (.seq (.cond (.t 18) .skip (.exit 0))
 (.seq (.fgt [0, 2, 3, 4, 15, 16, 17])
 (.seq
 (.block 1
 (.seq
 (.reg none
 [i1 19 (.iad 11) [.t 15, .t 17], i1 20 (.load (some 11)) [.t 19],
 .mk (some 6) none
 (.new 46
 [.d (.int .i64 (.ofNat 0)), .d .nilsl, .d (.int .i64 (.ofNat 0)), .d (.int .i64 (.ofNat 0)), .d (.int .i64 (.ofNat 0)), .d (.int .i64 (.ofNat 0)), .d (.bool false),
 .d (.int .i64 (.ofNat 0)), .d (.int .i64 (.ofNat 0)), .d (.int .i64 (.ofNat 0)), .d .nilsl])
 [],
 .mk none none (.storeT 11) [.t 6, .t 20]])
 (.seq
 (.seq (.reg none [i1 21 (.fad 0) [.t 6], i1 22 ld [.t 21], i1 23 (.call false) [fp 34, .t 22], i1 24 (.un .not) [.t 23]])
 (.cond (.t 24) (.exit 1) .skip))
 (.seq (.fgt [0, 2, 3, 4, 6, 15, 16, 17])
 (.seq
 (.seq (.reg none [i1 25 (.fad 0) [.t 6], i1 26 ld [.t 25], i1 27 (.call false) [fp 35, .t 26]])
 (.cond (.t 27) (.reg none [m1 28 4, i1 29 (bi .add) [.t 28, k1 1], m1 4 29]) .skip))
 (.seq (.fgt [0, 2, 3, 4, 6, 15, 16, 17])
 (.seq
 (.reg none
 [m1 30 3, i1 31 (.fad 10) [.t 6], i1 32 ld [.t 31], i1 33 .len [.t 32],
 i1 34 (bi .add) [.t 30, .t 33], m1 3 34])
 (.seq
 (.reg none
 [m1 35 3, i1 36 (bi .gtr) [.t 35, k1 256], m1 37 36,
 g0 38 37 (.fad 10) [.t 6], g0 39 37 ld [.t 38],
 g0 40 37 (.call false) [fp 33, .t 39, kt], g0 41 37 (.un .not) [.t 40],
 i1 42 .pick [.t 37, kt, .t 41]])
 (.cond (.t 42) (.seq (.reg none [i1 2 .mv [kf]]) .ret) .skip)))))))))
 (.seq (.fgt [0, 2, 3, 4, 15, 16, 17]) (.reg none [i1 43 (bi .add) [.t 17, k1 1], m1 17 43])))))))))
 (.seq (.fgt [0, 2, 4])
 (.seq
 (.reg none
 [m1 44 4, i1 45 (bi .leq) [.t 44, k1 1], m1 46 45, g1 47 46 .mv [.t 0],
 g1 48 46 (.call false) [fp 36, .t 47], g1 49 46 (.un .not) [.t 48], i1 50 .pick [.t 46, .t 49, kf],
 m1 2 50])
 .ret)))))))))
 [.tmp 2]
theorem code14_ok : F0 14 = some (.code code14) := by kernel_rfl
def code10 : CFn :=
 .mk
 (.seq (.reg none [i1 1 (.box 25) [.t 0], i1 2 .mv [kf]])
 (.seq
 (.seq (.reg none [i1 3 (.fad 4) [.t 1], i1 4 ld [.t 3]])
 (.cond (.t 4)
 (.seq
 (.reg (some [])
 [i1 5 (.load (some 7)) [.t 1], i1 6 (.fad 5) [.t 1], i1 7 (.load (some 2)) [.t 6], i1 8 (.call true) [fp 26, .t 7],
 i1 9 (.bin .eql (.cells 7 [(0, 1), (1, 1), (2, 1), (3, 1), (4, 0), (5, 1), (6, 1)])) [.t 5, .t 8], m1 10 9, g1 11 10 (.fad 5) [.t 1],
 g1 12 10 (.load (some 2)) [.t 11], g1 13 10 (.call true) [fp 24, .t 12], i1 14 .pick [.t 10, .t 13, kf],
 m1 15 14, g1 16 15 (.fad 5) [.t 1], g1 17 15 (.load (some 2)) [.t 16],
 g1 18 15 (.call true) [fp 27, .t 17, k1 1], i1 19 .pick [.t 15, .t 18, kf], m1 2 19])
 .ret)
 .skip))
 (.seq (.fgt [1, 2])
 (.seq
 (.reg none
 [i1 20 (.fad 5) [.t 1], i1 21 (.load (some 2)) [.t 20], i1 22 (.build [.d (.int .i64 (.ofNat 0)), .d (.int .i64 (.ofNat 0))] []) [],
 i1 23 (.bin .eql (.cells 2 [(0, 1), (1, 1)])) [.t 21, .t 22], m1 24 23, g1 25 24 (.fad 0) [.t 1], g1 26 24 (.load (some 2)) [.t 25],
 g1 27 24 (.call false) [fp 27, .t 26, k1 13], i1 28 .pick [.t 24, .t 27, kf], m1 29 28,
 g1 30 29 (.fad 2) [.t 1], g1 31 29 (.load (some 2)) [.t 30], g1 32 29 (.call false) [fp 27, .t 31, k1 29],
 i1 33 .pick [.t 29, .t 32, kf], m1 2 33])
 .ret))))
 [.tmp 2]
theorem code10_ok : F0 10 = some (.code code10) := by kernel_rfl
def code18 : CFn :=
 .mk
 (.seq (.reg none [i1 4 .mv [kf]])
 (.seq
 (.seq (.reg none [m1 9 0, i1 10 .len [.t 9], m1 11 1, i1 12 .len [.t 11], i1 13 (bi .neq) [.t 10, .t 12]])
 (.cond (.t 13) (.seq (.reg none [i1 4 .mv [kf]]) .ret) .skip))
 (.seq (.fgt [0, 1, 4])
 (.seq
 (.seq (.reg none [m1 14 0, i1 15 .len [.t 14], i1 16 .mv [k1 0]])
 (.block 0
 (.loop [1, 4, 14, 15, 16]
 (.seq (.reg none [i1 17 (bi .lss) [.t 16, .t 15]])
 (.seq (.cond (.t 17) .skip (.exit 0))
 (.seq (.fgt [1, 4, 14, 15, 16])
 (.seq
 (.block 1
 (.seq
 (.reg none
 [m1 18 16, i1 19 (.iad 11) [.t 14, .t 16], i1 20 (.load (some 11)) [.t 19],
 .mk (some 6) none
 (.new 46
 [.d (.int .i64 (.ofNat 0)), .d .nilsl, .d (.int .i64 (.ofNat 0)), .d (.int .i64 (.ofNat 0)), .d (.int .i64 (.ofNat 0)), .d (.int .i64 (.ofNat 0)), .d (.bool false),
 .d (.int .i64 (.ofNat 0)), .d (.int .i64 (.ofNat 0)), .d (.int .i64 (.ofNat 0)), .d .nilsl])
 [],
 m1 5 18, .mk none none (.storeT 11) [.t 6, .t 20]])
 (.seq
 (.reg none
 [m1 21 1, m1 22 5, i1 23 (.iad 11) [.t 21, .t 22], i1 24 (.load (some 11)) [.t 23],
 .mk (some 7) none
 (.new 46
 [.d (.int .i64 (.ofNat 0)), .d .nilsl, .d (.int .i64 (.ofNat 0)), .d (.int .i64 (.ofNat 0)), .d (.int .i64 (.ofNat 0)), .d (.int .i64 (.ofNat 0)), .d (.bool false),
 .d (.int .i64 (.ofNat 0)), .d (.int .i64 (.ofNat 0)), .d (.int .i64 (.ofNat 0)), .d .nilsl])
 [],
 .mk none none (.storeT 11) [.t 7, .t 24]])
 (.seq
 (.seq
 (.reg none
 [i1 25 (.fad 0) [.t 6], i1 26 ld [.t 25], i1 27 (.fad 0) [.t 7], i1 28 ld [.t 27],
 i1 29 (bi .neq) [.t 26, .t 28], m1 30 29, g0 31 30 (.fad 2) [.t 6], g0 32 30 (.load (some 7)) [.t 31],
 g0 33 30 (.fad 2) [.t 7], g0 34 30 (.load (some 7)) [.t 33],
 g0 35 30 (.bin .neq (.cells 7 [(0, 1), (1, 1), (2, 1), (3, 1), (4, 0), (5, 1), (6, 1)])) [.t 32, .t 34], i1 36 .pick [.t 30, kt, .t 35],
 m1 37 36, g0 38 37 (.fad 9) [.t 6], g0 39 37 ld [.t 38], g0 40 37 (.fad 9) [.t 7],
 g0 41 37 ld [.t 40], g0 42 37 (bi .neq) [.t 39, .t 41], i1 43 .pick [.t 37, kt, .t 42],
 m1 44 43, g0 45 44 (.fad 1) [.t 6], g0 46 44 ld [.t 45], g0 47 44 .len [.t 46],
 g0 48 44 (.fad 1) [.t 7], g0 49 44 ld [.t 48], g0 50 44 .len [.t 49],
 g0 51 44 (bi .neq) [.t 47, .t 50], i1 52 .pick [.t 44, kt, .t 51], m1 53 52,
 g0 54 53 (.fad 10) [.t 6], g0 55 53 ld [.t 54], g0 56 53 (.fad 10) [.t 7], g0 57 53 ld [.t 56],
 g0 58 53 (.call false) [fp 18, .t 55, .t 57], g0 59 53 (.un .not) [.t 58], i1 60 .pick [.t 53, kt, .t 59]])
 (.cond (.t 60) (.seq (.reg none [i1 4 .mv [kf]]) .ret) .skip))
 (.seq (.fgt [1, 4, 6, 7, 14, 15, 16])
 (.seq (.reg none [i1 61 (.fad 1) [.t 6], i1 62 ld [.t 61], i1 63 .len [.t 62], i1 64 .mv [k1 0]])
 (.block 2
 (.loop [1, 4, 6, 7, 14, 15, 16, 63, 64]
 (.seq (.reg none [i1 65 (bi .lss) [.t 64, .t 63]])
 (.seq (.cond (.t 65) .skip (.exit 2))
 (.seq (.fgt [1, 4, 6, 7, 14, 15, 16, 63, 64])
 (.seq
 (.block 3
 (.seq (.reg none [m1 66 64, m1 8 66])
 (.seq
 (.reg (some [])
 [i1 67 (.fad 1) [.t 6], i1 68 ld [.t 67], m1 69 8, i1 70 (.iad 1) [.t 68, .t 69], i1 71 ld [.t 70],
 i1 72 (.fad 1) [.t 7], i1 73 ld [.t 72], m1 74 8, i1 75 (.iad 1) [.t 73, .t 74], i1 76 ld [.t 75],
 i1 77 (bi .neq) [.t 71, .t 76]])
 (.cond (.t 77) (.seq (.reg none [i1 4 .mv [kf]]) .ret) .skip))))
 (.seq (.fgt [1, 4, 6, 7, 14, 15, 16, 63, 64]) (.reg none [i1 78 (bi .add) [.t 64, k1 1], m1 64 78]))))))))))))))
 (.seq (.fgt [1, 4, 14, 15, 16]) (.reg none [i1 79 (bi .add) [.t 16, k1 1], m1 16 79])))))))))
 (.seq (.fgt [4]) (.seq (.reg none [i1 4 .mv [kt]]) .ret))))))
 [.tmp 4]
theorem code18_ok : F0 18 = some (.code code18) := by kernel_rfl
def code12 : CFn :=
 .mk
 (.seq (.reg none [i1 1 (.box 25) [.t 0], i1 2 .mv [.k (.d (.str []))]])
 (.seq
 (.block 0
 (.seq (.reg none [i1 4 (.load (some 7)) [.t 1], i1 5 (.call false) [fp 10, .t 4], i1 6 (.un .not) [.t 5], m1 3 6])
 (.cond (.t 3) (.seq (.reg none [i1 2 .mv [.k (.d (.str []))]]) .ret)
 (.seq (.reg none [i1 8 (.fad 4) [.t 1], i1 9 ld [.t 8], m1 7 9])
 (.cond (.t 7)
 (.seq
 (.reg none
 [i1 10 (.fad 5) [.t 1], i1 11 (.load (some 2)) [.t 10], i1 12 (.call false) [fp 29, .t 11],
 i1 13 (bi .add)
 [.k (.d (.str [.ofNat 102, .ofNat 105, .ofNat 116, .ofNat 45, .ofNat 99, .ofNat 111, .ofNat 110, .ofNat 116, .ofNat 101, .ofNat 110, .ofNat 116, .ofNat 40])), .t 12],
 i1 14 (bi .add) [.t 13, .k (.d (.str [.ofNat 41]))], m1 2 14])
 .ret)
 (.seq
 (.reg (some [])
 [i1 16 (.load (some 7)) [.t 1], i1 17 (.fad 2) [.t 1], i1 18 (.load (some 2)) [.t 17], i1 19 (.call true) [fp 30, .t 18],
 i1 20 (.bin .eql (.cells 7 [(0, 1), (1, 1), (2, 1), (3, 1), (4, 0), (5, 1), (6, 1)])) [.t 16, .t 19], m1 15 20])
 (.cond (.t 15) (.seq (.reg none [i1 21 (.fad 2) [.t 1], i1 22 (.load (some 2)) [.t 21], i1 23 (.call false) [fp 29, .t 22], m1 2 23]) .ret)
 .skip)))))))
 (.seq (.fgt [1, 2])
 (.seq
 (.reg (some [])
 [i1 24 (.fad 0) [.t 1], i1 25 (.load (some 2)) [.t 24], i1 26 (.call true) [fp 29, .t 25],
 i1 27 (bi .add) [.k (.d (.str [.ofNat 109, .ofNat 105, .ofNat 110, .ofNat 109, .ofNat 97, .ofNat 120, .ofNat 40])), .t 26],
 i1 28 (bi .add) [.t 27, .k (.d (.str [.ofNat 44, .ofNat 32]))], i1 29 (.fad 2) [.t 1], i1 30 (.load (some 2)) [.t 29],
 i1 31 (.call true) [fp 29, .t 30], i1 32 (bi .add) [.t 28, .t 31], i1 33 (bi .add) [.t 32, .k (.d (.str [.ofNat 41]))],
 m1 2 33])
 .ret))))
 [.tmp 2]
theorem code12_ok : F0 12 = some (.code code12) := by kernel_rfl
def code16 : CFn :=
 .mk
 (.seq (.reg none [i1 2 .mv [.k (.d (.str []))]])
 (.seq
 (.block 0
 (.seq (.reg none [m1 4 0, i1 5 .len [.t 4], i1 6 (bi .eql) [.t 5, k1 0], m1 3 6])
 (.cond (.t 3) (.seq (.reg none [i1 2 .mv [.k (.d (.str [.ofNat 110, .ofNat 111, .ofNat 110, .ofNat 101]))]]) .ret)
 (.seq (.reg none [m1 8 0, i1 9 (.call false) [fp 14, .t 8], i1 10 (.un .not) [.t 9], m1 7 10])
 (.cond (.t 7) (.seq (.reg none [i1 2 .mv [.k (.d (.str []))]]) .ret) .skip)))))
 (.seq (.fgt [0, 2]) (.seq (.reg none [m1 11 0, i1 12 (.call false) [fp 41, .t 11], m1 2 12]) .ret))))
 [.tmp 2]
theorem code16_ok : F0 16 = some (.code code16) := by kernel_rfl
def code62 : CFn :=
 .mk (.seq (.reg none [i1 1 (.box 26) [.t 0], i1 2 .mv [.k (.d .nilf)]]) (.seq (.reg none [i1 3 (.mkf .drop 88 0) [.t 1], m1 2 3]) .ret)) [.tmp 2]
theorem code62_ok : F0 62 = some (.code code62) := by kernel_rfl
def code88 : CFn :=
 .mk
 (.seq (.reg none [i1 7 ld [.t 1], i1 8 .len [.t 7], i1 9 .mv [k1 0]])
 (.block 0
 (.loop [0, 7, 8, 9]
 (.seq (.reg none [i1 10 (bi .lss) [.t 9, .t 8]])
 (.seq (.cond (.t 10) .skip (.exit 0))
 (.seq (.fgt [0, 7, 8, 9])
 (.seq
 (.block 1
 (.seq
 (.reg none
 [i1 11 (.iad 11) [.t 7, .t 9], i1 12 (.load (some 11)) [.t 11],
 .mk (some 4) none
 (.new 46
 [.d (.int .i64 (.ofNat 0)), .d .nilsl, .d (.int .i64 (.ofNat 0)), .d (.int .i64 (.ofNat 0)), .d (.int .i64 (.ofNat 0)), .d (.int .i64 (.ofNat 0)), .d (.bool false),
 .d (.int .i64 (.ofNat 0)), .d (.int .i64 (.ofNat 0)), .d (.int .i64 (.ofNat 0)), .d .nilsl])
 [],
 .mk none none (.storeT 11) [.t 4, .t 12]])
 (.seq (.seq (.reg none [m1 13 0, i1 14 (.load (some 11)) [.t 4], i1 15 (.call false) [.t 13, .t 14], i1 16 (.un .not) [.t 15]]) (.cond (.t 16) .ret .skip))
 (.seq (.fgt [0, 4, 7, 8, 9])
 (.seq (.reg none [i1 17 (.fad 10) [.t 4], i1 18 ld [.t 17], i1 19 .len [.t 18], i1 20 .mv [k1 0]])
 (.block 2
 (.loop [0, 7, 8, 9, 18, 19, 20]
 (.seq (.reg none [i1 21 (bi .lss) [.t 20, .t 19]])
 (.seq (.cond (.t 21) .skip (.exit 2))
 (.seq (.fgt [0, 7, 8, 9, 18, 19, 20])
 (.seq
 (.block 3
 (.seq
 (.reg none
 [i1 22 (.iad 11) [.t 18, .t 20], i1 23 (.load (some 11)) [.t 22],
 .mk (some 6) none
 (.new 46
 [.d (.int .i64 (.ofNat 0)), .d .nilsl, .d (.int .i64 (.ofNat 0)), .d (.int .i64 (.ofNat 0)), .d (.int .i64 (.ofNat 0)), .d (.int .i64 (.ofNat 0)), .d (.bool false),
 .d (.int .i64 (.ofNat 0)), .d (.int .i64 (.ofNat 0)), .d (.int .i64 (.ofNat 0)), .d .nilsl])
 [],
 .mk none none (.storeT 11) [.t 6, .t 23]])
 (.seq (.reg none [m1 24 0, i1 25 (.load (some 11)) [.t 6], i1 26 (.call false) [.t 24, .t 25], i1 27 (.un .not) [.t 26]])
 (.cond (.t 27) .ret .skip))))
 (.seq (.fgt [0, 7, 8, 9, 18, 19, 20]) (.reg none [i1 28 (bi .add) [.t 20, k1 1], m1 20 28])))))))))))))
 (.seq (.fgt [0, 7, 8, 9]) (.reg none [i1 29 (bi .add) [.t 9, k1 1], m1 9 29])))))))))
 []
theorem code88_ok : F0 88 = some (.code code88) := by kernel_rfl
def code61 : CFn :=
 .mk
 (.seq (.reg none [i1 1 (.box 46) [.t 0], i1 2 .mv [kf]])
 (.seq
 (.seq (.reg none [i1 5 (.fad 0) [.t 1], i1 6 ld [.t 5]])
 (.block 0
 (.seq (.reg none [i1 8 (bi .eql) [.t 6, k1 1], m1 7 8])
 (.cond (.t 7)
 (.seq
 (.seq
 (.reg none
 [i1 9 (.fad 1) [.t 1], i1 10 ld [.t 9], i1 11 .len [.t 10], i1 12 (bi .lss) [.t 11, k1 1],
 m1 13 12, g0 14 13 (.fad 1) [.t 1], g0 15 13 ld [.t 14], g0 16 13 .len [.t 15],
 g0 17 13 (bi .gtr) [.t 16, k1 16], i1 18 .pick [.t 13, kt, .t 17], m1 19 18,
 g0 20 19 (.fad 10) [.t 1], g0 21 19 ld [.t 20], g0 22 19 .len [.t 21],
 g0 23 19 (bi .gtr) [.t 22, k1 0], i1 24 .pick [.t 19, kt, .t 23]])
 (.cond (.t 24) (.seq (.reg none [i1 2 .mv [kf]]) .ret) .skip))
 (.seq (.fgt [1, 2])
 (.seq
 (.seq (.reg none [i1 25 (.fad 1) [.t 1], i1 26 ld [.t 25], i1 27 .len [.t 26], i1 28 .mv [k1 0]])
 (.block 1
 (.loop [1, 2, 26, 27, 28]
 (.seq (.reg none [i1 29 (bi .lss) [.t 28, .t 27]])
 (.seq (.cond (.t 29) .skip (.exit 1))
 (.seq (.fgt [1, 2, 26, 27, 28])
 (.seq
 (.block 2
 (.seq (.reg none [i1 30 (.iad 1) [.t 26, .t 28], i1 31 ld [.t 30], m1 4 31])
 (.seq (.reg none [m1 32 4, i1 33 (.call false) [fp 87, .t 32], i1 34 (.un .not) [.t 33]])
 (.cond (.t 34) (.seq (.reg none [i1 2 .mv [kf]]) .ret) .skip))))
 (.seq (.fgt [1, 2, 26, 27, 28]) (.reg none [i1 35 (bi .add) [.t 28, k1 1], m1 28 35])))))))))
 (.seq (.fgt [1, 2])
 (.seq
 (.reg none
 [i1 36 (.fad 2) [.t 1], i1 37 (.load (some 7)) [.t 36],
 .mk (some 38) none
 (.build
 [.d (.int .i64 (.ofNat 0)), .d (.int .i64 (.ofNat 0)), .d (.int .i64 (.ofNat 0)), .d (.int .i64 (.ofNat 0)), .d (.bool false), .d (.int .i64 (.ofNat 0)), .d (.int .i64 (.ofNat 0))]
 [])
 [],
 i1 39 (.bin .eql (.cells 7 [(0, 1), (1, 1), (2, 1), (3, 1), (4, 0), (5, 1), (6, 1)])) [.t 37, .t 38], m1 40 39, g1 41 40 (.fad 9) [.t 1],
 g1 42 40 ld [.t 41], g1 43 40 (bi .eql) [.t 42, k1 0],
 i1 44 .pick [.t 40, .t 43, kf], m1 2 44])
 .ret)))))
 (.seq (.reg none [i1 46 (bi .eql) [.t 6, k1 2], m1 45 46])
 (.cond (.t 45)
 (.seq
 (.reg none
 [i1 47 (.fad 2) [.t 1], i1 48 (.load (some 7)) [.t 47], i1 49 (.call false) [fp 10, .t 48], m1 50 49,
 g1 51 50 (.fad 1) [.t 1], g1 52 50 ld [.t 51], g1 53 50 .len [.t 52], g1 54 50 (.fad 10) [.t 1],
 g1 55 50 ld [.t 54], g1 56 50 .len [.t 55], g1 57 50 (bi .add) [.t 53, .t 56],
 g1 58 50 (bi .eql) [.t 57, k1 0], i1 59 .pick [.t 50, .t 58, kf], m1 60 59,
 g1 61 60 (.fad 9) [.t 1], g1 62 60 ld [.t 61], g1 63 60 (bi .eql) [.t 62, k1 0],
 i1 64 .pick [.t 60, .t 63, kf], m1 2 64])
 .ret)
 (.seq (.reg none [i1 66 (bi .eql) [.t 6, k1 3], m1 65 66])
 (.cond (.t 65)
 (.seq
 (.reg none
 [i1 67 (.fad 9) [.t 1], i1 68 ld [.t 67], i1 69 (bi .geq) [.t 68, k1 1], m1 70 69,
 g1 71 70 (.fad 9) [.t 1], g1 72 70 ld [.t 71], g1 73 70 (bi .leq) [.t 72, k1 10000],
 i1 74 .pick [.t 70, .t 73, kf], m1 75 74, g1 76 75 (.fad 1) [.t 1], g1 77 75 ld [.t 76],
 g1 78 75 .len [.t 77], g1 79 75 (bi .eql) [.t 78, k1 0], i1 80 .pick [.t 75, .t 79, kf],
 m1 81 80, g1 82 81 (.fad 2) [.t 1], g1 83 81 (.load (some 7)) [.t 82],
 .mk (some 84) (some (81, true))
 (.build
 [.d (.int .i64 (.ofNat 0)), .d (.int .i64 (.ofNat 0)), .d (.int .i64 (.ofNat 0)), .d (.int .i64 (.ofNat 0)), .d (.bool false), .d (.int .i64 (.ofNat 0)), .d (.int .i64 (.ofNat 0))]
 [])
 [],
 g1 85 81 (.bin .eql (.cells 7 [(0, 1), (1, 1), (2, 1), (3, 1), (4, 0), (5, 1), (6, 1)])) [.t 83, .t 84], i1 86 .pick [.t 81, .t 85, kf], m1 2 86])
 .ret)
 .skip))))))))
 (.seq (.fgt [1, 2])
 (.seq
 (.reg none
 [i1 87 (.fad 0) [.t 1], i1 88 ld [.t 87], i1 89 (.call false) [fp 35, .t 88], m1 90 89, g1 91 90 (.fad 1) [.t 1],
 g1 92 90 ld [.t 91], g1 93 90 .len [.t 92], g1 94 90 (bi .eql) [.t 93, k1 0],
 i1 95 .pick [.t 90, .t 94, kf], m1 96 95, g1 97 96 (.fad 2) [.t 1], g1 98 96 (.load (some 7)) [.t 97],
 .mk (some 99) (some (96, true))
 (.build [.d (.int .i64 (.ofNat 0)), .d (.int .i64 (.ofNat 0)), .d (.int .i64 (.ofNat 0)), .d (.int .i64 (.ofNat 0)), .d (.bool false), .d (.int .i64 (.ofNat 0)), .d (.int .i64 (.ofNat 0))] [])
 [],
 g1 100 96 (.bin .eql (.cells 7 [(0, 1), (1, 1), (2, 1), (3, 1), (4, 0), (5, 1), (6, 1)])) [.t 98, .t 99], i1 101 .pick [.t 96, .t 100, kf], m1 102 101,
 g1 103 102 (.fad 9) [.t 1], g1 104 102 ld [.t 103], g1 105 102 (bi .eql) [.t 104, k1 0],
 i1 106 .pick [.t 102, .t 105, kf], m1 2 106])
 .ret))))
 [.tmp 2]
theorem code61_ok : F0 61 = some (.code code61) := by kernel_rfl
def code53 : CFn :=
 .mk
 (.seq (.reg none [i1 0 (.new 23 [.d (.int .i64 (.ofNat 0)), .d (.int .i64 (.ofNat 0))]) []])
 (.seq (.reg none [i1 1 (.build [.d (.int .i64 (.ofNat 0)), .d (.int .i64 (.ofNat 0))] [(0, 1)]) [k1 1], .mk none none (.storeT 2) [.t 0, .t 1]]) .ret))
 [.cell 0 (some 2)]
theorem code53_ok : F0 53 = some (.code code53) := by kernel_rfl
def code26 : CFn :=
 .mk
 (.seq
 (.reg none
 [i1 1 (.box 23) [.t 0],
 .mk (some 2) none
 (.new 25 [.d (.int .i64 (.ofNat 0)), .d (.int .i64 (.ofNat 0)), .d (.int .i64 (.ofNat 0)), .d (.int .i64 (.ofNat 0)), .d (.bool false), .d (.int .i64 (.ofNat 0)), .d (.int .i64 (.ofNat 0))]) []])
 (.seq
 (.reg (some [])
 [i1 3 (.call true) [fp 53], i1 4 (.build [.d (.int .i64 (.ofNat 0)), .d (.int .i64 (.ofNat 0))] [(0, 1)]) [k1 5],
 i1 5 (.load (some 2)) [.t 1],
 .mk (some 6) none
 (.build [.d (.int .i64 (.ofNat 0)), .d (.int .i64 (.ofNat 0)), .d (.int .i64 (.ofNat 0)), .d (.int .i64 (.ofNat 0)), .d (.bool false), .d (.int .i64 (.ofNat 0)), .d (.int .i64 (.ofNat 0))]
 [(0, 2), (2, 2), (4, 1), (5, 2)])
 [.t 3, .t 4, kt, .t 5],
 .mk none none (.store 7) [.t 2, .t 6]])
 .ret))
 [.cell 2 (some 7)]
theorem code26_ok : F0 26 = some (.code code26) := by kernel_rfl
def code35 : CFn :=
 .mk
 (.seq (.reg none [i1 2 .mv [kf]])
 (.seq
 (.reg none
 [m1 3 0, i1 4 (bi .eql) [.t 3, k1 4], m1 5 4, g0 6 5 .mv [.t 0],
 g0 7 5 (bi .eql) [.t 6, k1 5], i1 8 .pick [.t 5, kt, .t 7], m1 2 8])
 .ret))
 [.tmp 2]
theorem code35_ok : F0 35 = some (.code code35) := by kernel_rfl
def code24 : CFn :=
 .mk
 (.seq (.reg none [i1 1 (.box 23) [.t 0], i1 2 .mv [kf]])
 (.seq
 (.reg none
 [i1 3 (.fad 0) [.t 1], i1 4 ld [.t 3], i1 5 (bi .eql) [.t 4, k1 2], m1 6 5,
 g0 7 6 (.fad 0) [.t 1], g0 8 6 ld [.t 7], g0 9 6 (bi .eql) [.t 8, k1 3],
 i1 10 .pick [.t 6, kt, .t 9], m1 2 10])
 .ret))
 [.tmp 2]
theorem code24_ok : F0 24 = some (.code code24) := by kernel_rfl
def code34 : CFn :=
 .mk
 (.seq (.reg none [i1 2 .mv [kf]])
 (.seq
 (.reg none
 [m1 3 0, i1 4 (bi .eql) [.t 3, k1 3], m1 5 4, g0 6 5 .mv [.t 0],
 g0 7 5 (.call false) [fp 35, .t 6], i1 8 .pick [.t 5, kt, .t 7], m1 2 8])
 .ret))
 [.tmp 2]
theorem code34_ok : F0 34 = some (.code code34) := by kernel_rfl
def code41 : CFn :=
 .mk
 (.seq (.reg none [i1 2 .mv [.k (.d (.str []))]])
 (.seq (.reg none [i1 3 .mv [.k (.d .nilsl)]])
 (.seq
 (.seq (.reg none [m1 9 0, i1 10 .len [.t 9], i1 11 .mv [k1 0]])
 (.block 0
 (.loop [2, 3, 9, 10, 11]
 (.seq (.reg none [i1 12 (bi .lss) [.t 11, .t 10]])
 (.seq (.cond (.t 12) .skip (.exit 0))
 (.seq (.fgt [2, 3, 9, 10, 11])
 (.seq
 (.block 1
 (.seq
 (.reg none
 [i1 13 (.iad 11) [.t 9, .t 11], i1 14 (.load (some 11)) [.t 13],
 .mk (some 5) none
 (.new 46
 [.d (.int .i64 (.ofNat 0)), .d .nilsl, .d (.int .i64 (.ofNat 0)), .d (.int .i64 (.ofNat 0)), .d (.int .i64 (.ofNat 0)), .d (.int .i64 (.ofNat 0)), .d (.bool false),
 .d (.int .i64 (.ofNat 0)), .d (.int .i64 (.ofNat 0)), .d (.int .i64 (.ofNat 0)), .d .nilsl])
 [],
 .mk none none (.storeT 11) [.t 5, .t 14]])
 (.seq (.reg none [i1 15 (.fad 0) [.t 5], i1 16 ld [.t 15]])
 (.block 2
 (.seq (.reg none [i1 18 (bi .eql) [.t 16, k1 1], m1 17 18])
 (.cond (.t 17)
 (.seq (.reg none [i1 6 .mv [.k (.d .nilsl)]])
 (.seq
 (.seq (.reg none [i1 19 (.fad 1) [.t 5], i1 20 ld [.t 19], i1 21 .len [.t 20], i1 22 .mv [k1 0]])
 (.block 3
 (.loop [2, 3, 6, 9, 10, 11, 20, 21, 22]
 (.seq (.reg none [i1 23 (bi .lss) [.t 22, .t 21]])
 (.seq (.cond (.t 23) .skip (.exit 3))
 (.seq (.fgt [2, 3, 6, 9, 10, 11, 20, 21, 22])
 (.seq
 (.block 4
 (.seq (.reg none [i1 24 (.iad 1) [.t 20, .t 22], i1 25 ld [.t 24], m1 8 25])
 (.reg none
 [m1 26 6, m1 27 8, i1 28 (.call false) [fp 64, .t 27], i1 29 (.bslT 9 1 [.str []] 1 [0]) [.t 28],
 i1 30 (.appT 9 1 16) [.t 26, .t 29], m1 6 30])))
 (.seq (.fgt [2, 3, 6, 9, 10, 11, 20, 21, 22]) (.reg none [i1 31 (bi .add) [.t 22, k1 1], m1 22 31])))))))))
 (.seq (.fgt [2, 3, 6, 9, 10, 11])
 (.reg none
 [m1 32 3, m1 33 6, i1 34 (.call false) [fp 65, .t 33, .k (.d (.str [.ofNat 32]))],
 i1 35 (bi .add) [.k (.d (.str [.ofNat 91])), .t 34], i1 36 (bi .add) [.t 35, .k (.d (.str [.ofNat 93]))],
 i1 37 (.bslT 9 1 [.str []] 1 [0]) [.t 36], i1 38 (.appT 9 1 16) [.t 32, .t 37], m1 3 38]))))
 (.seq (.reg none [i1 40 (bi .eql) [.t 16, k1 2], m1 39 40])
 (.cond (.t 39)
 (.reg none
 [m1 41 3, i1 42 (.fad 2) [.t 5], i1 43 (.load (some 7)) [.t 42], i1 44 (.call false) [fp 12, .t 43],
 i1 45 (.bslT 9 1 [.str []] 1 [0]) [.t 44], i1 46 (.appT 9 1 16) [.t 41, .t 45], m1 3 46])
 (.seq (.reg none [i1 48 (bi .eql) [.t 16, k1 3], m1 47 48])
 (.cond (.t 47)
 (.reg (some [])
 [m1 49 3, i1 50 (.fad 9) [.t 5], i1 51 ld [.t 50], i1 52 (.call true) [fp 66, .t 51],
 i1 53 (bi .add) [.k (.d (.str [.ofNat 114, .ofNat 101, .ofNat 112, .ofNat 101, .ofNat 97, .ofNat 116, .ofNat 40])), .t 52],
 i1 54 (bi .add) [.t 53, .k (.d (.str [.ofNat 44, .ofNat 32]))], i1 55 (.fad 10) [.t 5], i1 56 ld [.t 55],
 i1 57 (.call true) [fp 41, .t 56], i1 58 (bi .add) [.t 54, .t 57],
 i1 59 (bi .add) [.t 58, .k (.d (.str [.ofNat 41]))], i1 60 (.bsl 9 1 [.str []] 1 [0]) [.t 59], i1 61 (.app 9 1 16) [.t 49, .t 60],
 m1 3 61])
 (.seq (.reg none [i1 63 (bi .eql) [.t 16, k1 4], m1 62 63])
 (.cond (.t 62)
 (.reg none
 [m1 64 3, i1 65 (.fad 10) [.t 5], i1 66 ld [.t 65], i1 67 (.call false) [fp 41, .t 66],
 i1 68 (bi .add)
 [.k
 (.d
 (.str
 [.ofNat 114, .ofNat 101, .ofNat 112, .ofNat 101, .ofNat 97, .ofNat 116, .ofNat 40, .ofNat 97, .ofNat 117, .ofNat 116, .ofNat 111, .ofNat 45, .ofNat 102, .ofNat 105,
 .ofNat 108, .ofNat 108, .ofNat 44, .ofNat 32])),
 .t 67],
 i1 69 (bi .add) [.t 68, .k (.d (.str [.ofNat 41]))], i1 70 (.bslT 9 1 [.str []] 1 [0]) [.t 69], i1 71 (.appT 9 1 16) [.t 64, .t 70],
 m1 3 71])
 (.seq (.reg none [i1 73 (bi .eql) [.t 16, k1 5], m1 72 73])
 (.cond (.t 72)
 (.reg none
 [m1 74 3, i1 75 (.fad 10) [.t 5], i1 76 ld [.t 75], i1 77 (.call false) [fp 41, .t 76],
 i1 78 (bi .add)
 [.k
 (.d
 (.str
 [.ofNat 114, .ofNat 101, .ofNat 112, .ofNat 101, .ofNat 97, .ofNat 116, .ofNat 40, .ofNat 97, .ofNat 117, .ofNat 116, .ofNat 111, .ofNat 45, .ofNat 102, .ofNat 105,
 .ofNat 116, .ofNat 44, .ofNat 32])),
 .t 77],
 i1 79 (bi .add) [.t 78, .k (.d (.str [.ofNat 41]))], i1 80 (.bslT 9 1 [.str []] 1 [0]) [.t 79], i1 81 (.appT 9 1 16) [.t 74, .t 80],
 m1 3 81])
 .skip))))))))))))))
 (.seq (.fgt [2, 3, 9, 10, 11]) (.reg none [i1 82 (bi .add) [.t 11, k1 1], m1 11 82])))))))))
 (.seq (.fgt [2, 3]) (.seq (.reg none [m1 83 3, i1 84 (.call false) [fp 65, .t 83, .k (.d (.str [.ofNat 32]))], m1 2 84]) .ret)))))
 [.tmp 2]
theorem code41_ok : F0 41 = some (.code code41) := by kernel_rfl
def code33 : CFn :=
 .mk
 (.seq (.reg none [i1 4 .mv [kf]])
 (.seq (.reg none [i1 5 .mv [k1 0]])
 (.seq
 (.seq (.reg none [m1 8 0, i1 9 .len [.t 8], i1 10 .mv [k1 0]])
 (.block 0
 (.loop [0, 1, 4, 5, 8, 9, 10]
 (.seq (.reg none [i1 11 (bi .lss) [.t 10, .t 9]])
 (.seq (.cond (.t 11) .skip (.exit 0))
 (.seq (.fgt [0, 1, 4, 5, 8, 9, 10])
 (.seq
 (.block 1
 (.seq
 (.reg none
 [m1 12 10, i1 13 (.iad 11) [.t 8, .t 10], i1 14 (.load (some 11)) [.t 13],
 .mk (some 7) none
 (.new 46
 [.d (.int .i64 (.ofNat 0)), .d .nilsl, .d (.int .i64 (.ofNat 0)), .d (.int .i64 (.ofNat 0)), .d (.int .i64 (.ofNat 0)), .d (.int .i64 (.ofNat 0)), .d (.bool false),
 .d (.int .i64 (.ofNat 0)), .d (.int .i64 (.ofNat 0)), .d (.int .i64 (.ofNat 0)), .d .nilsl])
 [],
 m1 6 12, .mk none none (.storeT 11) [.t 7, .t 14]])
 (.seq
 (.seq
 (.reg none
 [i1 15 (.load (some 11)) [.t 7], i1 16 (.call false) [fp 61, .t 15], i1 17 (.un .not) [.t 16], m1 18 17,
 g0 19 18 .mv [.t 1], g0 20 18 .mv [.t 19], g1 21 20 (.fad 0) [.t 7], g1 22 20 ld [.t 21],
 g1 23 20 (.call false) [fp 34, .t 22], g0 24 18 .pick [.t 20, .t 23, kf],
 i1 25 .pick [.t 18, kt, .t 24], m1 26 25, g0 27 26 .mv [.t 6],
 g0 28 26 (bi .gtr) [.t 27, k1 0], g0 29 26 .mv [.t 28], g1 30 29 (.fad 0) [.t 7],
 g1 31 29 ld [.t 30], g1 32 29 (bi .eql) [.t 31, k1 1],
 g0 33 26 .pick [.t 29, .t 32, kf], g0 34 26 .mv [.t 33], g1 35 34 .mv [.t 0], g1 36 34 .mv [.t 6],
 g1 37 34 (bi .sub) [.t 36, k1 1], g1 38 34 (.iad 11) [.t 35, .t 37], g1 39 34 (.fad 0) [.t 38],
 g1 40 34 ld [.t 39], g1 41 34 (bi .eql) [.t 40, k1 1],
 g0 42 26 .pick [.t 34, .t 41, kf], i1 43 .pick [.t 26, kt, .t 42]])
 (.cond (.t 43) (.seq (.reg none [i1 4 .mv [kf]]) .ret) .skip))
 (.seq (.fgt [0, 1, 4, 5, 7, 8, 9, 10])
 (.seq (.reg none [i1 44 (.fad 0) [.t 7], i1 45 ld [.t 44], i1 46 (bi .neq) [.t 45, k1 1]])
 (.cond (.t 46) (.reg none [m1 47 5, i1 48 (bi .add) [.t 47, k1 1], m1 5 48]) .skip))))))
 (.seq (.fgt [0, 1, 4, 5, 8, 9, 10]) (.reg none [i1 49 (bi .add) [.t 10, k1 1], m1 10 49])))))))))
 (.seq (.fgt [0, 4, 5])
 (.seq
 (.reg none
 [m1 50 5, i1 51 (bi .gtr) [.t 50, k1 0], m1 52 51, g1 53 52 .mv [.t 0],
 g1 54 52 .len [.t 53], g1 55 52 (bi .leq) [.t 54, k1 256], i1 56 .pick [.t 52, .t 55, kf],
 m1 4 56])
 .ret)))))
 [.tmp 4]
theorem code33_ok : F0 33 = some (.code code33) := by kernel_rfl
def code36 : CFn :=
 .mk
 (.seq (.reg none [i1 2 .mv [kf]])
 (.seq (.reg none [i1 3 (.new 4 [.d (.bool false)]) [], i1 4 (.new 4 [.d (.bool false)]) [], .mk none none (.storeT 1) [.t 3, kf], .mk none none (.storeT 1) [.t 4, kt]])
 (.seq (.seq (.reg none [m1 6 0, i1 7 (.call false) [.k (.fn .opn 62 [] []), .t 6]]) (.block 0 (.rng 36 [3, 4] (.t 7))))
 (.seq (.fgt [2, 3, 4])
 (.seq
 (.reg none
 [i1 26 ld [.t 3], m1 27 26, g1 28 27 ld [.t 4], g1 29 27 (.un .not) [.t 28],
 i1 30 .pick [.t 27, .t 29, kf], m1 2 30])
 .ret)))))
 [.tmp 2]
theorem code36_ok : F0 36 = some (.code code36) := by kernel_rfl
def code30 : CFn :=
 .mk
 (.seq
 (.reg none
 [i1 1 (.box 23) [.t 0],
 .mk (some 2) none
 (.new 25 [.d (.int .i64 (.ofNat 0)), .d (.int .i64 (.ofNat 0)), .d (.int .i64 (.ofNat 0)), .d (.int .i64 (.ofNat 0)), .d (.bool false), .d (.int .i64 (.ofNat 0)), .d (.int .i64 (.ofNat 0))]) []])
 (.seq
 (.seq (.reg none [i1 3 (.fad 0) [.t 1], i1 4 ld [.t 3], i1 5 (bi .eql) [.t 4, k1 6]])
 (.cond (.t 5)
 (.seq
 (.reg (some [])
 [i1 6 (.call true) [fp 53], i1 7 (.load (some 2)) [.t 1],
 .mk (some 8) none
 (.build [.d (.int .i64 (.ofNat 0)), .d (.int .i64 (.ofNat 0)), .d (.int .i64 (.ofNat 0)), .d (.int .i64 (.ofNat 0)), .d (.bool false), .d (.int .i64 (.ofNat 0)), .d (.int .i64 (.ofNat 0))]
 [(0, 2), (2, 2)])
 [.t 6, .t 7],
 .mk none none (.store 7) [.t 2, .t 8]])
 .ret)
 .skip))
 (.seq (.fgt [1, 2])
 (.seq
 (.reg none
 [i1 9 (.load (some 2)) [.t 1], i1 10 (.load (some 2)) [.t 1],
 .mk (some 11) none
 (.build [.d (.int .i64 (.ofNat 0)), .d (.int .i64 (.ofNat 0)), .d (.int .i64 (.ofNat 0)), .d (.int .i64 (.ofNat 0)), .d (.bool false), .d (.int .i64 (.ofNat 0)), .d (.int .i64 (.ofNat 0))]
 [(0, 2), (2, 2)])
 [.t 9, .t 10],
 .mk none none (.storeT 7) [.t 2, .t 11]])
 .ret))))
 [.cell 2 (some 7)]
theorem code30_ok : F0 30 = some (.code code30) := by kernel_rfl
def round36 : RFn :=
 .mk [3, 4] [8]
 (.reg none
 [.mk (some 5) none
 (.new 46
 [.d (.int .i64 (.ofNat 0)), .d .nilsl, .d (.int .i64 (.ofNat 0)), .d (.int .i64 (.ofNat 0)), .d (.int .i64 (.ofNat 0)), .d (.int .i64 (.ofNat 0)), .d (.bool false), .d (.int .i64 (.ofNat 0)),
 .d (.int .i64 (.ofNat 0)), .d (.int .i64 (.ofNat 0)), .d .nilsl])
 [],
 .mk none none (.storeT 11) [.t 5, .t 8]])
 (.block 1
 (.seq
 (.reg none
 [i1 9 ld [.t 3], m1 10 9, g0 11 10 (.fad 0) [.t 5], g0 12 10 ld [.t 11],
 g0 13 10 (.call false) [fp 35, .t 12], i1 14 .pick [.t 10, kt, .t 13], .mk none none (.storeT 1) [.t 3, .t 14]])
 (.reg none
 [i1 15 ld [.t 4], m1 16 15, g1 17 16 (.fad 0) [.t 5], g1 18 16 ld [.t 17],
 g1 19 16 (bi .neq) [.t 18, k1 2], g1 20 16 .mv [.t 19], g0 21 20 (.fad 2) [.t 5],
 g0 22 20 (.load (some 7)) [.t 21], g0 23 20 (.call false) [fp 8, .t 22], g1 24 16 .pick [.t 20, kt, .t 23],
 i1 25 .pick [.t 16, .t 24, kf], .mk none none (.storeT 1) [.t 4, .t 25]])))
theorem round36_ok : F0 (1048576 + 36) = some (.round round36) := by kernel_rfl
end Go.Proofs.YtlhajccbfapieaaGreatDoor.Ab
