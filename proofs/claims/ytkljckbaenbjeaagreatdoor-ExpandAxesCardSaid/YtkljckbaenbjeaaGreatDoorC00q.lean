/- The code of some functions, compiled (printed by a program for this seat; each is held against the compiler by the kernel). -/
import Derived.Test.YtkljckbaenbjeaaGreatDoorAbAbr
namespace Go.Proofs.YtkljckbaenbjeaaGreatDoor.Ab
open Go
set_option maxRecDepth 100000
def code6 : CFn :=
 .mk
 (.seq (.reg none [i1 8 (.new 26 [.d .nilsl, .d .nilsl, .d (.int .i64 (.ofNat 0)), .d (.int .i64 (.ofNat 0))]) [], i1 9 .mv [k1 0]])
 (.seq
 (.reg none
 [m1 20 0, m1 21 1, m1 22 2, m1 23 3, i1 24 (.call false) [fp 12, .t 20, .t 21, .t 22, .t 23],
 m1 19 24, i1 25 (.ext 0) [.t 19], i1 26 (.ext 1) [.t 19], m1 10 25, m1 11 26])
 (.seq
 (.seq (.reg none [m1 27 11, i1 28 (bi .neq) [.t 27, k1 0]])
 (.cond (.t 28)
 (.seq
 (.reg none
 [i1 29 (.build [.d .nilsl, .d .nilsl, .d (.int .i64 (.ofNat 0)), .d (.int .i64 (.ofNat 0))] []) [], m1 30 11, .mk none none (.storeT 4) [.t 8, .t 29],
 m1 9 30])
 .ret)
 .skip))
 (.seq (.fgt [0, 8, 9, 10])
 (.seq
 (.reg none
 [i1 31 (.bslT 37 1 [.nilsl] 1 [0]) [.k (.d .nilsl)], i1 32 (.build [.d .nilsl, .d .nilsl, .d (.int .i64 (.ofNat 0)), .d (.int .i64 (.ofNat 0))] [(0, 1)]) [.t 31],
 i1 12 (.new 26 [.d .nilsl, .d .nilsl, .d (.int .i64 (.ofNat 0)), .d (.int .i64 (.ofNat 0))]) [], .mk none none (.storeT 4) [.t 12, .t 32]])
 (.seq (.reg none [i1 13 (.new 4 [.d (.bool false)]) [], .mk none none (.storeT 1) [.t 13, kf]])
 (.seq (.reg none [i1 33 (.mkf .opn 13 0) [.t 12, .t 13], m1 14 33])
 (.seq .skip
 (.seq
 (.seq (.reg none [m1 34 0, i1 35 .len [.t 34], i1 36 .mv [k1 0]])
 (.block 0
 (.loop [0, 8, 9, 10, 12, 13, 14, 34, 35, 36]
 (.seq (.reg none [i1 37 (bi .lss) [.t 36, .t 35]])
 (.seq (.cond (.t 37) .skip (.exit 0))
 (.seq (.fgt [0, 8, 9, 10, 12, 13, 14, 34, 35, 36])
 (.seq
 (.block 1
 (.seq
 (.reg none
 [m1 38 36, i1 39 (.iad 11) [.t 34, .t 36], i1 40 (.load (some 11)) [.t 39],
 .mk (some 16) none
 (.new 43
 [.d (.int .i64 (.ofNat 0)), .d .nilsl, .d (.int .i64 (.ofNat 0)), .d (.int .i64 (.ofNat 0)), .d (.int .i64 (.ofNat 0)), .d (.int .i64 (.ofNat 0)), .d (.bool false),
 .d (.int .i64 (.ofNat 0)), .d (.int .i64 (.ofNat 0)), .d (.int .i64 (.ofNat 0)), .d .nilsl])
 [],
 m1 15 38, .mk none none (.storeT 11) [.t 16, .t 40]])
 (.seq
 (.reg (some [])
 [i1 41 (.fad 1) [.t 12], i1 42 ld [.t 41], i1 43 .len [.t 42], i1 44 (.fad 9) [.t 16], i1 45 ld [.t 44],
 m1 17 43, m1 18 45])
 (.seq
 (.block 2
 (.seq
 (.reg none
 [i1 47 (.fad 0) [.t 16], i1 48 ld [.t 47], i1 49 (bi .eql) [.t 48, k1 1],
 m1 50 49, g0 51 50 (.fad 0) [.t 16], g0 52 50 ld [.t 51],
 g0 53 50 (bi .eql) [.t 52, k1 2], i1 54 .pick [.t 50, kt, .t 53],
 m1 46 54])
 (.cond (.t 46)
 (.reg none
 [m1 55 14, m1 56 0, m1 57 15, m1 58 15,
 i1 59 (bi .add) [.t 58, k1 1], i1 60 (.cutr 11 true true) [.t 56, .t 57, .t 59],
 i1 61 (.call false) [.t 55, .t 60]])
 (.seq (.reg none [i1 63 (.fad 0) [.t 16], i1 64 ld [.t 63], i1 65 (.call false) [fp 15, .t 64], m1 62 65])
 (.cond (.t 62) (.reg none [m1 66 10, m1 18 66]) .skip)))))
 (.seq (.fgt [0, 8, 9, 10, 12, 13, 14, 16, 17, 18, 34, 35, 36])
 (.seq
 (.seq (.reg none [m1 67 18, i1 68 .mv [k1 0]])
 (.block 3
 (.loop [0, 8, 9, 10, 12, 13, 14, 16, 17, 34, 35, 36, 67, 68]
 (.seq (.reg none [i1 69 (bi .lss) [.t 68, .t 67]])
 (.seq (.cond (.t 69) .skip (.exit 3))
 (.seq (.fgt [0, 8, 9, 10, 12, 13, 14, 16, 17, 34, 35, 36, 67, 68])
 (.seq
 (.block 4
 (.seq (.reg none [m1 70 14, i1 71 (.fad 10) [.t 16], i1 72 ld [.t 71], i1 73 (.call false) [.t 70, .t 72]])
 (.seq (.reg none [i1 74 ld [.t 13]]) (.cond (.t 74) (.exit 0) .skip))))
 (.seq (.fgt [0, 8, 9, 10, 12, 13, 14, 16, 17, 34, 35, 36, 67, 68])
 (.reg none [i1 75 (bi .add) [.t 68, k1 1], m1 68 75])))))))))
 (.seq (.fgt [0, 8, 9, 10, 12, 13, 14, 16, 17, 34, 35, 36])
 (.seq (.reg none [i1 76 (.fad 0) [.t 16], i1 77 ld [.t 76], i1 78 (bi .eql) [.t 77, k1 5]])
 (.cond (.t 78)
 (.reg none
 [m1 79 17, i1 80 (.fad 1) [.t 12], i1 81 ld [.t 80], i1 82 .len [.t 81], i1 83 (.fad 2) [.t 12],
 .mk none none (.storeT 1) [.t 83, .t 79], i1 84 (.fad 3) [.t 12], .mk none none (.storeT 1) [.t 84, .t 82]])
 .skip)))))))))
 (.seq (.fgt [0, 8, 9, 10, 12, 13, 14, 34, 35, 36]) (.reg none [i1 85 (bi .add) [.t 36, k1 1], m1 36 85])))))))))
 (.seq (.fgt [8, 9, 12, 13])
 (.seq
 (.seq (.reg none [i1 86 ld [.t 13]])
 (.cond (.t 86)
 (.seq
 (.reg none
 [i1 87 (.build [.d .nilsl, .d .nilsl, .d (.int .i64 (.ofNat 0)), .d (.int .i64 (.ofNat 0))] []) [], .mk none none (.storeT 4) [.t 8, .t 87],
 i1 9 .mv [k1 52]])
 .ret)
 .skip))
 (.seq (.fgt [8, 9, 12]) (.seq (.reg none [i1 88 (.load (some 4)) [.t 12], .mk none none (.storeT 4) [.t 8, .t 88], i1 9 .mv [k1 0]]) .ret)))))))))))))
 [.cell 8 (some 4), .tmp 9]
theorem code6_ok : F0 6 = some (.code code6) := by kernel_rfl
def code13 : CFn :=
 .mk
 (.seq (.reg none [m1 7 0, i1 8 .len [.t 7], i1 9 .mv [k1 0]])
 (.block 0
 (.loop [1, 2, 7, 8, 9]
 (.seq (.reg none [i1 10 (bi .lss) [.t 9, .t 8]])
 (.seq (.cond (.t 10) .skip (.exit 0))
 (.seq (.fgt [1, 2, 7, 8, 9])
 (.seq
 (.block 1
 (.seq
 (.reg none
 [i1 11 (.iad 11) [.t 7, .t 9], i1 12 (.load (some 11)) [.t 11],
 .mk (some 5) none
 (.new 43
 [.d (.int .i64 (.ofNat 0)), .d .nilsl, .d (.int .i64 (.ofNat 0)), .d (.int .i64 (.ofNat 0)), .d (.int .i64 (.ofNat 0)), .d (.int .i64 (.ofNat 0)), .d (.bool false),
 .d (.int .i64 (.ofNat 0)), .d (.int .i64 (.ofNat 0)), .d (.int .i64 (.ofNat 0)), .d .nilsl])
 [],
 .mk none none (.storeT 11) [.t 5, .t 12]])
 (.seq
 (.seq (.reg none [i1 13 (.fad 0) [.t 5], i1 14 ld [.t 13], i1 15 (bi .eql) [.t 14, k1 1]])
 (.cond (.t 15)
 (.seq
 (.reg none
 [i1 16 (.fad 0) [.t 1], i1 17 ld [.t 16], i1 18 .len [.t 17], i1 19 (bi .sub) [.t 18, k1 1],
 m1 6 19])
 (.seq
 (.reg (some [])
 [i1 20 (.fad 0) [.t 1], i1 21 ld [.t 20], m1 22 6, i1 23 (.fad 0) [.t 1], i1 24 ld [.t 23],
 m1 25 6, i1 26 (.iad 1) [.t 24, .t 25], i1 27 ld [.t 26], i1 28 (.fad 1) [.t 5], i1 29 ld [.t 28],
 i1 30 (.bsl 37 1 [.nilsl] 2 [0, 1]) [.t 27, .t 29], i1 31 (.callD [20]) [fp 14, .t 30], i1 32 (.iad 1) [.t 21, .t 22],
 .mk none none (.storeT 1) [.t 32, .t 31]])
 (.exit 1)))
 .skip))
 (.seq (.fgt [1, 2, 5, 7, 8, 9])
 (.seq
 (.reg none
 [i1 33 ld [.t 2], m1 34 33, g0 35 34 (.fad 1) [.t 1], g0 36 34 ld [.t 35], g0 37 34 .len [.t 36],
 g0 38 34 (bi .geq) [.t 37, k1 10000], i1 39 .pick [.t 34, kt, .t 38], .mk none none (.storeT 1) [.t 2, .t 39]])
 (.seq
 (.reg none
 [i1 40 (.fad 1) [.t 1], i1 41 ld [.t 40], i1 42 (.fad 2) [.t 5], i1 43 (.load (some 7)) [.t 42],
 i1 44 (.bslT 41 7 [.int .i64 (.ofNat 0), .int .i64 (.ofNat 0), .int .i64 (.ofNat 0), .int .i64 (.ofNat 0), .bool false, .int .i64 (.ofNat 0), .int .i64 (.ofNat 0)] 1 [0])
 [.t 43],
 i1 45 (.appT 41 7 56) [.t 41, .t 44], i1 46 (.fad 1) [.t 1], .mk none none (.storeT 1) [.t 46, .t 45]])
 (.reg none
 [i1 47 (.fad 0) [.t 1], i1 48 ld [.t 47], i1 49 (.bslT 37 1 [.nilsl] 1 [0]) [.k (.d .nilsl)], i1 50 (.appT 37 1 24) [.t 48, .t 49],
 i1 51 (.fad 0) [.t 1], .mk none none (.storeT 1) [.t 51, .t 50]])))))))
 (.seq (.fgt [1, 2, 7, 8, 9]) (.reg none [i1 52 (bi .add) [.t 9, k1 1], m1 9 52])))))))))
 []
theorem code13_ok : F0 13 = some (.code code13) := by kernel_rfl
def code32 : CFn :=
 .mk
 (.seq (.reg none [i1 2 (.box 41) [.t 0], i1 4 .mv [k1 0], i1 5 .mv [k1 0]])
 (.seq
 (.seq
 (.reg none
 [i1 12 (.load (some 7)) [.t 2], i1 13 (.call false) [fp 61, .t 12], i1 14 (.un .not) [.t 13], m1 15 14,
 g0 16 15 (.load (some 7)) [.t 2], g0 17 15 (.call false) [fp 22, .t 16], g0 18 15 (.un .not) [.t 17],
 i1 19 .pick [.t 15, kt, .t 18], m1 20 19, g0 21 20 .mv [.t 1], g0 22 20 (.call false) [fp 28, .t 21],
 g0 23 20 (.un .not) [.t 22], i1 24 .pick [.t 20, kt, .t 23]])
 (.cond (.t 24) (.seq (.reg none [i1 4 .mv [k1 0], i1 5 .mv [k1 2]]) .ret) .skip))
 (.seq (.fgt [1, 2, 4, 5])
 (.seq (.reg none [i1 6 .mv [k1 64]])
 (.seq
 (.seq
 (.reg none
 [i1 25 (.fad 0) [.t 2], i1 26 (.load (some 2)) [.t 25], i1 27 (.fad 2) [.t 2], i1 28 (.load (some 2)) [.t 27],
 i1 29 (.build [.d (.int .i64 (.ofNat 0)), .d (.int .i64 (.ofNat 0)), .d (.int .i64 (.ofNat 0)), .d (.int .i64 (.ofNat 0))] [(0, 2), (2, 2)]) [.t 26, .t 28],
 i1 30 .mv [k1 0]])
 (.block 0
 (.loop [1, 4, 5, 6, 29, 30]
 (.seq (.reg none [i1 31 (bi .lss) [.t 30, k1 2]])
 (.seq (.cond (.t 31) .skip (.exit 0))
 (.seq (.fgt [1, 4, 5, 6, 29, 30])
 (.seq
 (.block 1
 (.seq (.reg none [i1 32 (.idxA 2 2 (some 2)) [.t 29, .t 30], i1 8 (.new 39 [.d (.int .i64 (.ofNat 0)), .d (.int .i64 (.ofNat 0))]) [], .mk none none (.storeT 2) [.t 8, .t 32]])
 (.seq
 (.reg none
 [i1 34 (.load (some 2)) [.t 8], m1 35 1, i1 36 (.call false) [fp 62, .t 34, .t 35, kt], m1 33 36,
 i1 37 (.ext 0) [.t 33], i1 38 (.ext 1) [.t 33], i1 39 (.ext 2) [.t 33], m1 9 37, m1 10 38, m1 11 39])
 (.seq
 (.seq (.reg none [m1 40 11, i1 41 (bi .neq) [.t 40, k1 0]])
 (.cond (.t 41) (.seq (.reg none [m1 42 11, i1 4 .mv [k1 0], m1 5 42]) .ret) .skip))
 (.seq (.fgt [1, 4, 5, 6, 9, 10, 29, 30])
 (.seq (.reg none [m1 43 10])
 (.cond (.t 43) (.reg none [m1 44 6, m1 45 9, i1 46 .max [.t 44, .t 45], m1 6 46]) .skip)))))))
 (.seq (.fgt [1, 4, 5, 6, 29, 30]) (.reg none [i1 47 (bi .add) [.t 30, k1 1], m1 30 47])))))))))
 (.seq (.fgt [4, 5, 6]) (.seq (.reg none [m1 48 6, m1 4 48, i1 5 .mv [k1 0]]) .ret)))))))
 [.tmp 4, .tmp 5]
theorem code32_ok : F0 32 = some (.code code32) := by kernel_rfl
def code12 : CFn :=
 .mk
 (.seq (.reg none [i1 5 (.box 3) [.t 1], i1 7 (.box 3) [.t 3], i1 8 (.new 3 [.d (.int .i64 (.ofNat 0))]) [], i1 9 (.new 29 [.d (.int .i64 (.ofNat 0))]) []])
 (.seq
 (.block 0
 (.seq
 (.reg none
 [m1 19 0, i1 20 (.call false) [fp 27, .t 19], i1 21 (.un .not) [.t 20], m1 22 21, g0 23 22 ld [.t 5],
 g0 24 22 (.call false) [fp 28, .t 23], g0 25 22 (.un .not) [.t 24], i1 26 .pick [.t 22, kt, .t 25],
 m1 27 26, g0 28 27 ld [.t 7], g0 29 27 (.call false) [fp 28, .t 28], g0 30 27 (.un .not) [.t 29],
 i1 31 .pick [.t 27, kt, .t 30], m1 18 31])
 (.cond (.t 18) (.seq (.reg none [.mk none none (.storeT 1) [.t 8, k1 0], .mk none none (.storeT 1) [.t 9, k1 2]]) .ret)
 (.seq (.reg none [m1 33 0, i1 34 (.call false) [.k (.fn .drop 29 [] []), .t 33, fp 30], i1 35 (.un .not) [.t 34], m1 32 35])
 (.cond (.t 32) (.seq (.reg none [.mk none none (.storeT 1) [.t 8, k1 0], .mk none none (.storeT 1) [.t 9, k1 0]]) .ret)
 (.seq (.reg none [m1 37 2, i1 38 (.un .not) [.t 37], m1 36 38])
 (.cond (.t 36) (.seq (.reg none [.mk none none (.storeT 1) [.t 8, k1 1], .mk none none (.storeT 1) [.t 9, k1 0]]) .ret) .skip)))))))
 (.seq (.fgt [0, 5, 7, 8, 9])
 (.seq (.reg none [i1 10 (.new 66 [.d (.int .i64 (.ofNat 0)), .d (.int .i64 (.ofNat 0))]) [], i1 11 (.new 66 [.d (.int .i64 (.ofNat 0)), .d (.int .i64 (.ofNat 0))]) []])
 (.seq (.seq (.reg none [m1 39 0, i1 40 (.call false) [.k (.fn .opn 31 [] []), .t 39]]) (.block 1 (.rng 12 [5, 8, 9, 10, 7, 11] (.t 40))))
 (.seq (.fgt [5, 7, 8, 9, 10, 11])
 (.seq
 (.reg none
 [i1 74 ld [.t 5], i1 75 ld [.t 7], i1 76 (bi .add) [.t 74, .t 75], i1 77 (.iadA 2 1) [.t 10, k1 0],
 i1 78 ld [.t 77], i1 79 (bi .sub) [.t 76, .t 78], i1 80 (.iadA 2 1) [.t 10, k1 1], i1 81 ld [.t 80],
 i1 82 (.call false) [fp 33, .t 79, .t 81], m1 17 82])
 (.seq
 (.reg none
 [m1 83 17, i1 84 (.iadA 2 1) [.t 11, k1 0], i1 85 ld [.t 84],
 i1 86 (bi .sub) [k1 10000, .t 85], i1 87 (.iadA 2 1) [.t 11, k1 1], i1 88 ld [.t 87],
 i1 89 (.call false) [fp 33, .t 86, .t 88], i1 90 .min [.t 83, .t 89], m1 17 90])
 (.seq
 (.reg none
 [m1 91 17, i1 92 .max [k1 1, .t 91], .mk none none (.storeT 1) [.t 8, .t 92], .mk none none (.storeT 1) [.t 9, k1 0]])
 .ret)))))))))
 [.cell 8 none, .cell 9 none]
theorem code12_ok : F0 12 = some (.code code12) := by kernel_rfl
def code30 : CFn :=
 .mk
 (.seq (.reg none [i1 1 (.box 43) [.t 0], i1 2 .mv [kf]])
 (.seq (.reg none [i1 3 (.fad 0) [.t 1], i1 4 ld [.t 3], i1 5 (.call false) [fp 15, .t 4], m1 2 5]) .ret))
 [.tmp 2]
theorem code30_ok : F0 30 = some (.code code30) := by kernel_rfl
def code9 : CFn :=
 .mk
 (.seq (.reg none [i1 1 (.box 26) [.t 0], i1 2 .mv [kf]])
 (.seq (.reg none [i1 3 .mv [fp 21]])
 (.seq
 (.seq
 (.reg none
 [i1 4 (.fad 1) [.t 1], i1 5 ld [.t 4], i1 6 .len [.t 5], i1 7 (bi .gtr) [.t 6, k1 10000],
 m1 8 7, g0 9 8 (.fad 0) [.t 1], g0 10 8 ld [.t 9], g0 11 8 .len [.t 10], g0 12 8 (.fad 1) [.t 1],
 g0 13 8 ld [.t 12], g0 14 8 .len [.t 13], g0 15 8 (bi .add) [.t 14, k1 1],
 g0 16 8 (bi .neq) [.t 11, .t 15], i1 17 .pick [.t 8, kt, .t 16], m1 18 17, g0 19 18 (.fad 1) [.t 1],
 g0 20 18 ld [.t 19], g0 21 18 .mv [.t 3], g0 22 18 (.call false) [.k (.fn .drop 23 [] []), .t 20, .t 21],
 i1 23 .pick [.t 18, kt, .t 22]])
 (.cond (.t 23) (.seq (.reg none [i1 2 .mv [kf]]) .ret) .skip))
 (.seq (.fgt [1, 2])
 (.seq
 (.reg none
 [i1 24 (.fad 2) [.t 1], i1 25 ld [.t 24], i1 26 (bi .eql) [.t 25, k1 0], m1 27 26,
 g1 28 27 (.fad 3) [.t 1], g1 29 27 ld [.t 28], g1 30 27 (bi .eql) [.t 29, k1 0],
 i1 31 .pick [.t 27, .t 30, kf], m1 32 31, g0 33 32 (.fad 2) [.t 1], g0 34 32 ld [.t 33],
 g0 35 32 (bi .geq) [.t 34, k1 0], g0 36 32 .mv [.t 35], g1 37 36 (.fad 2) [.t 1],
 g1 38 36 ld [.t 37], g1 39 36 (.fad 3) [.t 1], g1 40 36 ld [.t 39], g1 41 36 (bi .lss) [.t 38, .t 40],
 g0 42 32 .pick [.t 36, .t 41, kf], g0 43 32 .mv [.t 42], g1 44 43 (.fad 3) [.t 1], g1 45 43 ld [.t 44],
 g1 46 43 (.fad 1) [.t 1], g1 47 43 ld [.t 46], g1 48 43 .len [.t 47], g1 49 43 (bi .leq) [.t 45, .t 48],
 g0 50 32 .pick [.t 43, .t 49, kf], i1 51 .pick [.t 32, kt, .t 50], m1 2 51])
 .ret)))))
 [.tmp 2]
theorem code9_ok : F0 9 = some (.code code9) := by kernel_rfl
def code21 : CFn :=
 .mk
 (.seq (.reg none [i1 1 (.box 41) [.t 0], i1 2 .mv [kf]])
 (.seq (.reg none [i1 3 (.load (some 7)) [.t 1], i1 4 (.call false) [fp 22, .t 3], i1 5 (.un .not) [.t 4], m1 2 5]) .ret))
 [.tmp 2]
theorem code21_ok : F0 21 = some (.code code21) := by kernel_rfl
def code15 : CFn :=
 .mk
 (.seq (.reg none [i1 2 .mv [kf]])
 (.seq
 (.reg none
 [m1 3 0, i1 4 (bi .eql) [.t 3, k1 4], m1 5 4, g0 6 5 .mv [.t 0],
 g0 7 5 (bi .eql) [.t 6, k1 5], i1 8 .pick [.t 5, kt, .t 7], m1 2 8])
 .ret))
 [.tmp 2]
theorem code15_ok : F0 15 = some (.code code15) := by kernel_rfl
def code31 : CFn :=
 .mk (.seq (.reg none [i1 1 (.box 22) [.t 0], i1 2 .mv [.k (.d .nilf)]]) (.seq (.reg none [i1 3 (.mkf .drop 60 0) [.t 1], m1 2 3]) .ret)) [.tmp 2]
theorem code31_ok : F0 31 = some (.code code31) := by kernel_rfl
def code60 : CFn :=
 .mk
 (.seq (.reg none [i1 9 ld [.t 1], i1 10 .len [.t 9], i1 11 .mv [k1 0]])
 (.block 0
 (.loop [0, 9, 10, 11]
 (.seq (.reg none [i1 12 (bi .lss) [.t 11, .t 10]])
 (.seq (.cond (.t 12) .skip (.exit 0))
 (.seq (.fgt [0, 9, 10, 11])
 (.seq
 (.block 1
 (.seq
 (.reg none
 [i1 13 (.iad 11) [.t 9, .t 11], i1 14 (.load (some 11)) [.t 13],
 .mk (some 4) none
 (.new 43
 [.d (.int .i64 (.ofNat 0)), .d .nilsl, .d (.int .i64 (.ofNat 0)), .d (.int .i64 (.ofNat 0)), .d (.int .i64 (.ofNat 0)), .d (.int .i64 (.ofNat 0)), .d (.bool false),
 .d (.int .i64 (.ofNat 0)), .d (.int .i64 (.ofNat 0)), .d (.int .i64 (.ofNat 0)), .d .nilsl])
 [],
 .mk none none (.storeT 11) [.t 4, .t 14]])
 (.seq
 (.reg (some [])
 [i1 15 (.fad 10) [.t 4], i1 16 ld [.t 15], i1 17 (.fad 9) [.t 4], i1 18 ld [.t 17], m1 5 16, m1 6 18])
 (.seq
 (.seq
 (.reg none
 [i1 19 (.fad 0) [.t 4], i1 20 ld [.t 19], i1 21 (bi .eql) [.t 20, k1 1], m1 22 21,
 g0 23 22 (.fad 0) [.t 4], g0 24 22 ld [.t 23], g0 25 22 (bi .eql) [.t 24, k1 2],
 i1 26 .pick [.t 22, kt, .t 25]])
 (.cond (.t 26)
 (.reg none
 [i1 27 (.load (some 11)) [.t 4],
 .mk (some 28) none
 (.bslT 43 11
 [.int .i64 (.ofNat 0), .nilsl, .int .i64 (.ofNat 0), .int .i64 (.ofNat 0), .int .i64 (.ofNat 0), .int .i64 (.ofNat 0), .bool false, .int .i64 (.ofNat 0), .int .i64 (.ofNat 0),
 .int .i64 (.ofNat 0), .nilsl]
 1 [0])
 [.t 27],
 m1 5 28, i1 6 .mv [k1 1]])
 .skip))
 (.seq (.fgt [0, 5, 6, 9, 10, 11])
 (.seq (.reg none [m1 29 5, i1 30 .len [.t 29], i1 31 .mv [k1 0]])
 (.block 2
 (.loop [0, 6, 9, 10, 11, 29, 30, 31]
 (.seq (.reg none [i1 32 (bi .lss) [.t 31, .t 30]])
 (.seq (.cond (.t 32) .skip (.exit 2))
 (.seq (.fgt [0, 6, 9, 10, 11, 29, 30, 31])
 (.seq
 (.block 3
 (.seq
 (.reg none
 [i1 33 (.iad 11) [.t 29, .t 31], i1 34 (.load (some 11)) [.t 33],
 .mk (some 8) none
 (.new 43
 [.d (.int .i64 (.ofNat 0)), .d .nilsl, .d (.int .i64 (.ofNat 0)), .d (.int .i64 (.ofNat 0)), .d (.int .i64 (.ofNat 0)), .d (.int .i64 (.ofNat 0)), .d (.bool false),
 .d (.int .i64 (.ofNat 0)), .d (.int .i64 (.ofNat 0)), .d (.int .i64 (.ofNat 0)), .d .nilsl])
 [],
 .mk none none (.storeT 11) [.t 8, .t 34]])
 (.seq
 (.reg none
 [m1 35 0, i1 36 (.load (some 11)) [.t 8], m1 37 6, i1 38 (.call false) [.t 35, .t 36, .t 37],
 i1 39 (.un .not) [.t 38]])
 (.cond (.t 39) .ret .skip))))
 (.seq (.fgt [0, 6, 9, 10, 11, 29, 30, 31]) (.reg none [i1 40 (bi .add) [.t 31, k1 1], m1 31 40]))))))))))))))
 (.seq (.fgt [0, 9, 10, 11]) (.reg none [i1 41 (bi .add) [.t 11, k1 1], m1 11 41])))))))))
 []
theorem code60_ok : F0 60 = some (.code code60) := by kernel_rfl
def code28 : CFn :=
 .mk
 (.seq (.reg none [i1 2 .mv [kf]])
 (.seq
 (.reg none
 [m1 3 0, i1 4 (bi .geq) [.t 3, k1 0], m1 5 4, g1 6 5 .mv [.t 0],
 g1 7 5 (.call false) [fp 58, .t 6], i1 8 .pick [.t 5, .t 7, kf], m1 2 8])
 .ret))
 [.tmp 2]
theorem code28_ok : F0 28 = some (.code code28) := by kernel_rfl
def code33 : CFn :=
 .mk
 (.seq (.reg none [i1 4 .mv [k1 0]])
 (.seq
 (.seq (.reg none [m1 6 1])
 (.block 0
 (.seq (.reg none [i1 8 (bi .eql) [.t 6, k1 0], m1 7 8])
 (.cond (.t 7) (.seq (.reg none [i1 4 .mv [k1 0]]) .ret)
 (.seq (.reg none [i1 10 (bi .eql) [.t 6, .k (.d (.int .i64 (.negSucc 0)))], m1 9 10])
 (.cond (.t 9) (.seq (.reg none [m1 11 0, i1 12 (.un .neg) [.t 11], m1 4 12]) .ret) .skip))))))
 (.seq (.fgt [0, 1, 4])
 (.seq (.reg none [m1 13 0, m1 14 1, i1 15 (bi .quo) [.t 13, .t 14], m1 5 15])
 (.seq
 (.seq
 (.reg none
 [m1 16 0, m1 17 1, i1 18 (bi .rem) [.t 16, .t 17], i1 19 (bi .neq) [.t 18, k1 0],
 m1 20 19, g1 21 20 .mv [.t 0], g1 22 20 (bi .lss) [.t 21, k1 0], g1 23 20 .mv [.t 1],
 g1 24 20 (bi .lss) [.t 23, k1 0], g1 25 20 (.bin .neq .bool) [.t 22, .t 24],
 i1 26 .pick [.t 20, .t 25, kf]])
 (.cond (.t 26) (.reg none [m1 27 5, i1 28 (bi .sub) [.t 27, k1 1], m1 5 28]) .skip))
 (.seq (.fgt [4, 5]) (.seq (.reg none [m1 29 5, m1 4 29]) .ret)))))))
 [.tmp 4]
theorem code33_ok : F0 33 = some (.code code33) := by kernel_rfl
def code117 : CFn :=
 .mk
 (.seq (.reg none [i1 2 .mv [kf]])
 (.seq
 (.seq (.reg none [m1 3 0, i1 4 (.call false) [fp 115, .t 3]])
 (.block 0
 (.seq
 (.seq (.reg none [i1 6 (bi .eql) [.t 4, .k (.d (.str [.ofNat 115, .ofNat 112, .ofNat 97, .ofNat 110]))], m1 5 6])
 (.cond (.t 5) .skip
 (.seq (.reg none [i1 7 (bi .eql) [.t 4, .k (.d (.str [.ofNat 97, .ofNat 117, .ofNat 116, .ofNat 111]))], m1 5 7])
 (.cond (.t 5) .skip
 (.seq (.reg none [i1 8 (bi .eql) [.t 4, .k (.d (.str [.ofNat 105, .ofNat 110, .ofNat 105, .ofNat 116, .ofNat 105, .ofNat 97, .ofNat 108]))], m1 5 8])
 (.cond (.t 5) .skip
 (.seq (.reg none [i1 9 (bi .eql) [.t 4, .k (.d (.str [.ofNat 105, .ofNat 110, .ofNat 104, .ofNat 101, .ofNat 114, .ofNat 105, .ofNat 116]))], m1 5 9])
 (.cond (.t 5) .skip
 (.seq (.reg none [i1 10 (bi .eql) [.t 4, .k (.d (.str [.ofNat 117, .ofNat 110, .ofNat 115, .ofNat 101, .ofNat 116]))], m1 5 10])
 (.cond (.t 5) .skip
 (.seq
 (.reg none [i1 11 (bi .eql) [.t 4, .k (.d (.str [.ofNat 100, .ofNat 101, .ofNat 102, .ofNat 97, .ofNat 117, .ofNat 108, .ofNat 116]))], m1 5 11])
 (.cond (.t 5) .skip
 (.reg none [i1 12 (bi .eql) [.t 4, .k (.d (.str [.ofNat 114, .ofNat 101, .ofNat 118, .ofNat 101, .ofNat 114, .ofNat 116]))], m1 5 12])))))))))))))
 (.seq (.fgt [0, 2, 5]) (.cond (.t 5) (.seq (.reg none [i1 2 .mv [kf]]) .ret) .skip)))))
 (.seq (.fgt [0, 2]) (.seq (.reg none [m1 13 0, i1 14 (.call false) [fp 135, .t 13], m1 2 14]) .ret))))
 [.tmp 2]
theorem code117_ok : F0 117 = some (.code code117) := by kernel_rfl
def code135 : CFn :=
 .mk
 (.seq (.reg none [i1 2 .mv [kf]])
 (.seq
 (.reg none
 [m1 3 0, i1 4 (bi .neq) [.t 3, .k (.d (.str []))], m1 5 4, g1 6 5 .mv [.t 0], g1 7 5 .lens [.t 6],
 g1 8 5 (bi .leq) [.t 7, k1 64], i1 9 .pick [.t 5, .t 8, kf], m1 10 9,
 g1 11 10 .mv [.t 0], g1 12 10 (.call false) [fp 83, .t 11, .k (.d (.int .u8 (.ofNat 0)))],
 g1 13 10 (bi .lss) [.t 12, k1 0], i1 14 .pick [.t 10, .t 13, kf], m1 2 14])
 .ret))
 [.tmp 2]
theorem code135_ok : F0 135 = some (.code code135) := by kernel_rfl
def code4 : CFn :=
 .mk
 (.seq (.reg none [i1 2 .mv [kf]])
 (.seq (.reg none [i1 3 .mv [k1 0]])
 (.seq
 (.seq (.reg none [m1 12 0, i1 13 .len [.t 12], i1 14 .mv [k1 0]])
 (.block 0
 (.loop [2, 3, 12, 13, 14]
 (.seq (.reg none [i1 15 (bi .lss) [.t 14, .t 13]])
 (.seq (.cond (.t 15) .skip (.exit 0))
 (.seq (.fgt [2, 3, 12, 13, 14])
 (.seq
 (.block 1
 (.seq
 (.reg none
 [i1 16 (.iad 11) [.t 12, .t 14], i1 17 (.load (some 11)) [.t 16],
 .mk (some 5) none
 (.new 43
 [.d (.int .i64 (.ofNat 0)), .d .nilsl, .d (.int .i64 (.ofNat 0)), .d (.int .i64 (.ofNat 0)), .d (.int .i64 (.ofNat 0)), .d (.int .i64 (.ofNat 0)), .d (.bool false),
 .d (.int .i64 (.ofNat 0)), .d (.int .i64 (.ofNat 0)), .d (.int .i64 (.ofNat 0)), .d .nilsl])
 [],
 .mk none none (.storeT 11) [.t 5, .t 17]])
 (.seq
 (.reg none
 [m1 18 3, i1 19 (.fad 10) [.t 5], i1 20 ld [.t 19], i1 21 .len [.t 20],
 i1 22 .min [.t 21, k1 1000], i1 23 (bi .add) [k1 1, .t 22],
 i1 24 (bi .add) [.t 18, .t 23], m1 3 24])
 (.seq
 (.seq
 (.reg none
 [m1 25 3, i1 26 (bi .gtr) [.t 25, k1 400], m1 27 26, g0 28 27 (.fad 1) [.t 5],
 g0 29 27 ld [.t 28], g0 30 27 .len [.t 29], g0 31 27 (bi .gtr) [.t 30, k1 30],
 i1 32 .pick [.t 27, kt, .t 31]])
 (.cond (.t 32) (.seq (.reg none [i1 2 .mv [kf]]) .ret) .skip))
 (.seq (.fgt [2, 3, 5, 12, 13, 14])
 (.seq
 (.seq (.reg none [i1 33 (.fad 1) [.t 5], i1 34 ld [.t 33], i1 35 .len [.t 34], i1 36 .mv [k1 0]])
 (.block 2
 (.loop [2, 3, 5, 12, 13, 14, 34, 35, 36]
 (.seq (.reg none [i1 37 (bi .lss) [.t 36, .t 35]])
 (.seq (.cond (.t 37) .skip (.exit 2))
 (.seq (.fgt [2, 3, 5, 12, 13, 14, 34, 35, 36])
 (.seq
 (.block 3
 (.seq (.reg none [i1 38 (.iad 1) [.t 34, .t 36], i1 39 ld [.t 38], m1 7 39])
 (.seq (.reg none [m1 40 7, i1 41 .lens [.t 40], i1 42 (bi .gtr) [.t 41, k1 100]])
 (.cond (.t 42) (.seq (.reg none [i1 2 .mv [kf]]) .ret) .skip))))
 (.seq (.fgt [2, 3, 5, 12, 13, 14, 34, 35, 36]) (.reg none [i1 43 (bi .add) [.t 36, k1 1], m1 36 43])))))))))
 (.seq (.fgt [2, 3, 5, 12, 13, 14])
 (.seq (.reg none [i1 44 (.fad 10) [.t 5], i1 45 ld [.t 44], i1 46 .len [.t 45], i1 47 .mv [k1 0]])
 (.block 4
 (.loop [2, 3, 12, 13, 14, 45, 46, 47]
 (.seq (.reg none [i1 48 (bi .lss) [.t 47, .t 46]])
 (.seq (.cond (.t 48) .skip (.exit 4))
 (.seq (.fgt [2, 3, 12, 13, 14, 45, 46, 47])
 (.seq
 (.block 5
 (.seq
 (.reg none
 [i1 49 (.iad 11) [.t 45, .t 47], i1 50 (.load (some 11)) [.t 49],
 .mk (some 9) none
 (.new 43
 [.d (.int .i64 (.ofNat 0)), .d .nilsl, .d (.int .i64 (.ofNat 0)), .d (.int .i64 (.ofNat 0)), .d (.int .i64 (.ofNat 0)), .d (.int .i64 (.ofNat 0)),
 .d (.bool false), .d (.int .i64 (.ofNat 0)), .d (.int .i64 (.ofNat 0)), .d (.int .i64 (.ofNat 0)), .d .nilsl])
 [],
 .mk none none (.storeT 11) [.t 9, .t 50]])
 (.seq
 (.seq
 (.reg none
 [i1 51 (.fad 1) [.t 9], i1 52 ld [.t 51], i1 53 .len [.t 52],
 i1 54 (bi .gtr) [.t 53, k1 30], m1 55 54, g0 56 55 (.fad 10) [.t 9],
 g0 57 55 ld [.t 56], g0 58 55 .len [.t 57],
 g0 59 55 (bi .gtr) [.t 58, k1 0], i1 60 .pick [.t 55, kt, .t 59]])
 (.cond (.t 60) (.seq (.reg none [i1 2 .mv [kf]]) .ret) .skip))
 (.seq (.fgt [2, 3, 9, 12, 13, 14, 45, 46, 47])
 (.seq (.reg none [i1 61 (.fad 1) [.t 9], i1 62 ld [.t 61], i1 63 .len [.t 62], i1 64 .mv [k1 0]])
 (.block 6
 (.loop [2, 3, 12, 13, 14, 45, 46, 47, 62, 63, 64]
 (.seq (.reg none [i1 65 (bi .lss) [.t 64, .t 63]])
 (.seq (.cond (.t 65) .skip (.exit 6))
 (.seq (.fgt [2, 3, 12, 13, 14, 45, 46, 47, 62, 63, 64])
 (.seq
 (.block 7
 (.seq (.reg none [i1 66 (.iad 1) [.t 62, .t 64], i1 67 ld [.t 66], m1 11 67])
 (.seq (.reg none [m1 68 11, i1 69 .lens [.t 68], i1 70 (bi .gtr) [.t 69, k1 100]])
 (.cond (.t 70) (.seq (.reg none [i1 2 .mv [kf]]) .ret) .skip))))
 (.seq (.fgt [2, 3, 12, 13, 14, 45, 46, 47, 62, 63, 64])
 (.reg none [i1 71 (bi .add) [.t 64, k1 1], m1 64 71])))))))))))))
 (.seq (.fgt [2, 3, 12, 13, 14, 45, 46, 47]) (.reg none [i1 72 (bi .add) [.t 47, k1 1], m1 47 72]))))))))))))))))
 (.seq (.fgt [2, 3, 12, 13, 14]) (.reg none [i1 73 (bi .add) [.t 14, k1 1], m1 14 73])))))))))
 (.seq (.fgt [2]) (.seq (.reg none [i1 2 .mv [kt]]) .ret)))))
 [.tmp 2]
theorem code4_ok : F0 4 = some (.code code4) := by kernel_rfl
def code3 : CFn :=
 .mk
 (.seq (.reg none [i1 9 (.box 26) [.t 4], i1 10 .mv [kf]])
 (.seq
 (.seq
 (.reg none
 [m1 15 0, i1 16 (.call false) [fp 4, .t 15], i1 17 (.un .not) [.t 16], m1 18 17, g0 19 18 (.fad 1) [.t 9],
 g0 20 18 ld [.t 19], g0 21 18 .len [.t 20], g0 22 18 (bi .gtr) [.t 21, k1 300],
 i1 23 .pick [.t 18, kt, .t 22], m1 24 23, g0 25 24 (.fad 0) [.t 9], g0 26 24 ld [.t 25],
 g0 27 24 .len [.t 26], g0 28 24 (bi .gtr) [.t 27, k1 300], i1 29 .pick [.t 24, kt, .t 28]])
 (.cond (.t 29) (.seq (.reg none [i1 30 (.call false) [fp 5], m1 10 30]) .ret) .skip))
 (.seq (.fgt [0, 1, 2, 3, 9, 10])
 (.seq
 (.reg none
 [m1 32 0, m1 33 1, m1 34 2, m1 35 3, i1 36 (.call false) [fp 6, .t 32, .t 33, .t 34, .t 35],
 m1 31 36, i1 37 (.ext 0) [.t 31], i1 38 (.ext 1) [.t 31], i1 11 (.new 26 [.d .nilsl, .d .nilsl, .d (.int .i64 (.ofNat 0)), .d (.int .i64 (.ofNat 0))]) [],
 .mk none none (.storeT 4) [.t 11, .t 37], m1 12 38])
 (.seq
 (.reg none
 [m1 40 0, m1 41 1, m1 42 2, m1 43 3, i1 44 (.call false) [fp 7, .t 40, .t 41, .t 42, .t 43],
 m1 39 44, i1 45 (.ext 0) [.t 39], i1 46 (.ext 1) [.t 39], i1 13 (.new 26 [.d .nilsl, .d .nilsl, .d (.int .i64 (.ofNat 0)), .d (.int .i64 (.ofNat 0))]) [],
 .mk none none (.storeT 4) [.t 13, .t 45], m1 14 46])
 (.seq
 (.reg (some [])
 [i1 47 (.load (some 4)) [.t 11], i1 48 (.load (some 4)) [.t 13], i1 49 (.call true) [fp 8, .t 47, .t 48], m1 50 49,
 g1 51 50 .mv [.t 12], g1 52 50 .mv [.t 14], g1 53 50 (bi .eql) [.t 51, .t 52], i1 54 .pick [.t 50, .t 53, kf],
 m1 55 54, g1 56 55 (.load (some 4)) [.t 9], g1 57 55 (.call true) [fp 9, .t 56], g1 58 55 (.load (some 4)) [.t 9],
 g1 59 55 (.call true) [fp 10, .t 58], g1 60 55 (.bin .eql .bool) [.t 57, .t 59], i1 61 .pick [.t 55, .t 60, kf],
 m1 62 61, g1 63 62 .mv [.t 12], g1 64 62 (bi .neq) [.t 63, k1 0], g1 65 62 .mv [.t 64],
 g0 66 65 (.load (some 4)) [.t 11], g0 67 65 (.call true) [fp 9, .t 66], g1 68 62 .pick [.t 65, kt, .t 67],
 i1 69 .pick [.t 62, .t 68, kf], m1 70 69, g1 71 70 (.call true) [fp 5],
 i1 72 .pick [.t 70, .t 71, kf], m1 10 72])
 .ret))))))
 [.tmp 10]
theorem code3_ok : F0 3 = some (.code code3) := by kernel_rfl
def code147 : CFn :=
 .mk
 (.seq (.reg none [i1 6 .mv [k1 0], i1 7 .mv [k1 0]])
 (.seq
 (.seq (.reg none [m1 11 2, i1 12 (bi .eql) [.t 11, k1 0]])
 (.cond (.t 12) (.seq (.reg none [i1 6 .mv [k1 0], i1 7 .mv [k1 2]]) .ret) .skip))
 (.seq (.fgt [0, 1, 2, 6, 7])
 (.seq
 (.reg none
 [m1 14 0, i1 15 (.call false) [fp 160, .t 14], m1 16 1, i1 17 (.call false) [fp 160, .t 16],
 i1 18 (.call false) [fp 159, .t 15, .t 17], m1 19 2, i1 20 (.call false) [fp 160, .t 19],
 i1 21 (.call false) [fp 158, .t 18, .t 20], m1 13 21, i1 22 (.ext 0) [.t 13], i1 23 (.ext 1) [.t 13],
 i1 8 (.new 178 [.d (.int .u64 (.ofNat 0)), .d (.int .u64 (.ofNat 0))]) [], .mk none none (.storeT 2) [.t 8, .t 22], m1 9 23])
 (.seq
 (.reg none
 [m1 24 0, i1 25 (bi .lss) [.t 24, k1 0], m1 26 1,
 i1 27 (bi .lss) [.t 26, k1 0], i1 28 (.bin .neq .bool) [.t 25, .t 27], m1 29 2,
 i1 30 (bi .lss) [.t 29, k1 0], i1 31 (.bin .neq .bool) [.t 28, .t 30], m1 32 31,
 g1 33 32 (.load (some 2)) [.t 8], g1 34 32 (.build [.d (.int .u64 (.ofNat 0)), .d (.int .u64 (.ofNat 0))] []) [],
 g1 35 32 (.bin .neq (.cells 2 [(0, 1), (1, 1)])) [.t 33, .t 34], g1 36 32 .mv [.t 35], g0 37 36 .mv [.t 9],
 g0 38 36 (bi .gtr) [.t 37, .k (.d (.int .u64 (.ofNat 0)))], g1 39 32 .pick [.t 36, kt, .t 38],
 i1 40 .pick [.t 32, .t 39, kf], m1 10 40])
 (.seq
 (.seq
 (.reg none
 [m1 41 10, m1 42 41, g1 43 42 .mv [.t 9], g1 44 42 (bi .gtr) [.t 43, .k (.d (.int .u64 (.ofNat 0)))],
 i1 45 .pick [.t 42, .t 44, kf]])
 (.cond (.t 45) (.reg none [i1 46 (.load (some 2)) [.t 8], i1 47 (.call false) [fp 161, .t 46, .k (.d (.int .u64 (.ofNat 1)))], .mk none none (.storeT 2) [.t 8, .t 47]])
 .skip))
 (.seq (.fgt [6, 7, 8, 10])
 (.seq
 (.seq
 (.reg none
 [i1 48 (.fad 0) [.t 8], i1 49 ld [.t 48], i1 50 (bi .gtr) [.t 49, .k (.d (.int .u64 (.ofNat 0)))], m1 51 50,
 g0 52 51 (.fad 1) [.t 8], g0 53 51 ld [.t 52], g0 54 51 (bi .gtr) [.t 53, .k (.d (.int .u64 (.ofNat 9223372036854775807)))],
 g0 55 51 .mv [.t 54], g1 56 55 .mv [.t 10], g1 57 55 .mv [.t 56], g1 58 57 (.fad 1) [.t 8],
 g1 59 57 ld [.t 58], g1 60 57 (bi .eql) [.t 59, .k (.d (.int .u64 (.ofNat 9223372036854775808)))],
 g1 61 55 .pick [.t 57, .t 60, kf], g1 62 55 (.un .not) [.t 61], g0 63 51 .pick [.t 55, .t 62, kf],
 i1 64 .pick [.t 51, kt, .t 63]])
 (.cond (.t 64) (.seq (.reg none [i1 6 .mv [k1 0], i1 7 .mv [k1 10]]) .ret) .skip))
 (.seq (.fgt [6, 7, 8, 10])
 (.seq
 (.seq (.reg none [m1 65 10])
 (.cond (.t 65)
 (.seq
 (.reg none
 [i1 66 (.fad 1) [.t 8], i1 67 ld [.t 66], i1 68 (bi .sub) [.k (.d (.int .u64 (.ofNat 0))), .t 67], i1 69 (.cvi .i64) [.t 68],
 m1 6 69, i1 7 .mv [k1 0]])
 .ret)
 .skip))
 (.seq (.fgt [6, 7, 8])
 (.seq
 (.reg none
 [i1 70 (.fad 1) [.t 8], i1 71 ld [.t 70], i1 72 (.cvi .i64) [.t 71], m1 6 72, i1 7 .mv [k1 0]])
 .ret))))))))))))
 [.tmp 6, .tmp 7]
theorem code147_ok : F0 147 = some (.code code147) := by kernel_rfl
def code123 : CFn :=
 .mk
 (.seq (.reg none [i1 2 .mv [kf]])
 (.seq
 (.reg none
 [i1 5 (.bslT 9 1 [.str []] 7 [0, 1, 2, 3, 4, 5, 6])
 [.k (.d (.str [.ofNat 115, .ofNat 112, .ofNat 97, .ofNat 110])), .k (.d (.str [.ofNat 97, .ofNat 117, .ofNat 116, .ofNat 111])),
 .k (.d (.str [.ofNat 105, .ofNat 110, .ofNat 105, .ofNat 116, .ofNat 105, .ofNat 97, .ofNat 108])), .k (.d (.str [.ofNat 105, .ofNat 110, .ofNat 104, .ofNat 101, .ofNat 114, .ofNat 105, .ofNat 116])),
 .k (.d (.str [.ofNat 117, .ofNat 110, .ofNat 115, .ofNat 101, .ofNat 116])), .k (.d (.str [.ofNat 100, .ofNat 101, .ofNat 102, .ofNat 97, .ofNat 117, .ofNat 108, .ofNat 116])),
 .k (.d (.str [.ofNat 114, .ofNat 101, .ofNat 118, .ofNat 101, .ofNat 114, .ofNat 116]))],
 m1 3 5])
 (.seq
 (.seq (.reg none [i1 4 .mv [k1 0]])
 (.block 0
 (.loop [0, 2, 3, 4]
 (.seq (.seq (.reg none [m1 6 4, m1 7 3, i1 8 .len [.t 7], i1 9 (bi .lss) [.t 6, .t 8]]) (.cond (.t 9) .skip (.exit 0)))
 (.seq (.fgt [0, 2, 3, 4])
 (.seq
 (.block 1
 (.seq
 (.reg none
 [m1 12 0, m1 13 3, m1 14 4, i1 15 (.iad 1) [.t 13, .t 14], i1 16 ld [.t 15],
 i1 17 (.call false) [fp 144, .t 12, .t 16]])
 (.cond (.t 17) (.seq (.reg none [i1 2 .mv [kf]]) .ret) .skip)))
 (.seq (.fgt [0, 2, 3, 4]) (.reg none [m1 10 4, i1 11 (bi .add) [.t 10, k1 1], m1 4 11]))))))))
 (.seq (.fgt [0, 2]) (.seq (.reg none [m1 18 0, i1 19 (.call false) [fp 145, .t 18], m1 2 19]) .ret)))))
 [.tmp 2]
theorem code123_ok : F0 123 = some (.code code123) := by kernel_rfl
def code144 : CFn :=
 .mk
 (.seq (.reg none [i1 4 .mv [kf]])
 (.seq
 (.reg none
 [m1 5 0, i1 6 (.call false) [fp 156, .t 5], m1 7 1, i1 8 (.call false) [fp 156, .t 7],
 i1 9 (bi .eql) [.t 6, .t 8], m1 4 9])
 .ret))
 [.tmp 4]
theorem code144_ok : F0 144 = some (.code code144) := by kernel_rfl
def code156 : CFn :=
 .mk
 (.seq (.reg none [i1 2 .mv [.k (.d (.str []))]])
 (.seq (.reg none [i1 3 .mv [.k (.d (.str []))]])
 (.seq
 (.seq (.reg none [i1 4 .mv [k1 0]])
 (.block 0
 (.loop [0, 2, 3, 4]
 (.seq (.seq (.reg none [m1 6 4, m1 7 0, i1 8 .lens [.t 7], i1 9 (bi .lss) [.t 6, .t 8]]) (.cond (.t 9) .skip (.exit 0)))
 (.seq (.fgt [0, 2, 3, 4])
 (.seq
 (.block 1
 (.seq (.reg none [m1 12 0, m1 13 4, i1 14 .idxs [.t 12, .t 13], m1 5 14])
 (.seq
 (.seq
 (.reg none
 [m1 15 5, i1 16 (bi .geq) [.t 15, .k (.d (.int .u8 (.ofNat 65)))], m1 17 16, g1 18 17 .mv [.t 5],
 g1 19 17 (bi .leq) [.t 18, .k (.d (.int .u8 (.ofNat 90)))], i1 20 .pick [.t 17, .t 19, kf]])
 (.cond (.t 20)
 (.reg none
 [m1 21 5, i1 22 (bi .sub) [.t 21, .k (.d (.int .u8 (.ofNat 65)))],
 i1 23 (bi .add) [.t 22, .k (.d (.int .u8 (.ofNat 97)))], m1 5 23])
 .skip))
 (.seq (.fgt [0, 2, 3, 4, 5])
 (.reg none
 [m1 24 3, m1 25 5, i1 26 (.bslT 5 1 [.int .u8 (.ofNat 0)] 1 [0]) [.t 25], i1 27 .b2s [.t 26],
 i1 28 (bi .add) [.t 24, .t 27], m1 3 28])))))
 (.seq (.fgt [0, 2, 3, 4]) (.reg none [m1 10 4, i1 11 (bi .add) [.t 10, k1 1], m1 4 11]))))))))
 (.seq (.fgt [2, 3]) (.seq (.reg none [m1 29 3, m1 2 29]) .ret)))))
 [.tmp 2]
theorem code156_ok : F0 156 = some (.code code156) := by kernel_rfl
def code145 : CFn :=
 .mk
 (.seq (.reg none [i1 2 .mv [kf]])
 (.seq
 (.reg none
 [m1 3 0, i1 4 (bi .neq) [.t 3, .k (.d (.str []))], m1 5 4, g1 6 5 .mv [.t 0], g1 7 5 .lens [.t 6],
 g1 8 5 (bi .leq) [.t 7, k1 64], i1 9 .pick [.t 5, .t 8, kf], m1 10 9,
 g1 11 10 .mv [.t 0], g1 12 10 (.call false) [fp 157, .t 11], g1 13 10 (.un .not) [.t 12],
 i1 14 .pick [.t 10, .t 13, kf], m1 2 14])
 .ret))
 [.tmp 2]
theorem code145_ok : F0 145 = some (.code code145) := by kernel_rfl
def code157 : CFn :=
 .mk
 (.seq (.reg none [i1 2 .mv [kf]])
 (.seq
 (.seq (.reg none [i1 3 .mv [k1 0]])
 (.block 0
 (.loop [0, 2, 3]
 (.seq (.seq (.reg none [m1 4 3, m1 5 0, i1 6 .lens [.t 5], i1 7 (bi .lss) [.t 4, .t 6]]) (.cond (.t 7) .skip (.exit 0)))
 (.seq (.fgt [0, 2, 3])
 (.seq
 (.block 1
 (.seq (.reg none [m1 10 0, m1 11 3, i1 12 .idxs [.t 10, .t 11], i1 13 (bi .eql) [.t 12, .k (.d (.int .u8 (.ofNat 0)))]])
 (.cond (.t 13) (.seq (.reg none [i1 2 .mv [kt]]) .ret) .skip)))
 (.seq (.fgt [0, 2, 3]) (.reg none [m1 8 3, i1 9 (bi .add) [.t 8, k1 1], m1 3 9]))))))))
 (.seq (.fgt [2]) (.seq (.reg none [i1 2 .mv [kf]]) .ret))))
 [.tmp 2]
theorem code157_ok : F0 157 = some (.code code157) := by kernel_rfl
def code66 : CFn :=
 .mk
 (.seq (.reg none [i1 2 .mv [kf]])
 (.seq
 (.seq (.reg none [i1 3 .mv [k1 0]])
 (.block 0
 (.loop [0, 2, 3]
 (.seq (.seq (.reg none [m1 5 3, m1 6 0, i1 7 .len [.t 6], i1 8 (bi .lss) [.t 5, .t 7]]) (.cond (.t 8) .skip (.exit 0)))
 (.seq (.fgt [0, 2, 3])
 (.seq
 (.block 1
 (.seq
 (.seq
 (.reg none
 [m1 11 0, m1 12 3, i1 13 (.iad 11) [.t 11, .t 12], i1 14 (.fad 0) [.t 13], i1 15 ld [.t 14],
 i1 16 (bi .eql) [.t 15, k1 2], m1 17 16, g1 18 17 .mv [.t 0], g1 19 17 .mv [.t 3],
 g1 20 17 (.iad 11) [.t 18, .t 19], g1 21 17 (.fad 2) [.t 20], g1 22 17 (.load (some 7)) [.t 21],
 g1 23 17 (.call false) [fp 98, .t 22], g1 24 17 (.un .not) [.t 23], i1 25 .pick [.t 17, .t 24, kf]])
 (.cond (.t 25) (.seq (.reg none [i1 2 .mv [kf]]) .ret) .skip))
 (.seq (.fgt [0, 2, 3])
 (.seq (.reg none [i1 4 .mv [k1 0]])
 (.block 2
 (.loop [0, 2, 3, 4]
 (.seq
 (.seq
 (.reg none
 [m1 26 4, m1 27 0, m1 28 3, i1 29 (.iad 11) [.t 27, .t 28], i1 30 (.fad 10) [.t 29],
 i1 31 ld [.t 30], i1 32 .len [.t 31], i1 33 (bi .lss) [.t 26, .t 32]])
 (.cond (.t 33) .skip (.exit 2)))
 (.seq (.fgt [0, 2, 3, 4])
 (.seq
 (.block 3
 (.seq
 (.reg none
 [m1 36 0, m1 37 3, i1 38 (.iad 11) [.t 36, .t 37], i1 39 (.fad 10) [.t 38], i1 40 ld [.t 39],
 m1 41 4, i1 42 (.iad 11) [.t 40, .t 41], i1 43 (.fad 0) [.t 42], i1 44 ld [.t 43],
 i1 45 (bi .eql) [.t 44, k1 2], m1 46 45, g1 47 46 .mv [.t 0],
 g1 48 46 .mv [.t 3], g1 49 46 (.iad 11) [.t 47, .t 48], g1 50 46 (.fad 10) [.t 49], g1 51 46 ld [.t 50],
 g1 52 46 .mv [.t 4], g1 53 46 (.iad 11) [.t 51, .t 52], g1 54 46 (.fad 2) [.t 53], g1 55 46 (.load (some 7)) [.t 54],
 g1 56 46 (.call false) [fp 98, .t 55], g1 57 46 (.un .not) [.t 56], i1 58 .pick [.t 46, .t 57, kf]])
 (.cond (.t 58) (.seq (.reg none [i1 2 .mv [kf]]) .ret) .skip)))
 (.seq (.fgt [0, 2, 3, 4]) (.reg none [m1 34 4, i1 35 (bi .add) [.t 34, k1 1], m1 4 35])))))))))))
 (.seq (.fgt [0, 2, 3]) (.reg none [m1 9 3, i1 10 (bi .add) [.t 9, k1 1], m1 3 10]))))))))
 (.seq (.fgt [2]) (.seq (.reg none [i1 2 .mv [kt]]) .ret))))
 [.tmp 2]
theorem code66_ok : F0 66 = some (.code code66) := by kernel_rfl
def code37 : CFn :=
 .mk
 (.seq (.reg none [i1 2 .mv [kf]])
 (.seq
 (.seq (.reg none [i1 3 .mv [k1 0]])
 (.block 0
 (.loop [0, 2, 3]
 (.seq (.seq (.reg none [m1 4 3, m1 5 0, i1 6 .len [.t 5], i1 7 (bi .lss) [.t 4, .t 6]]) (.cond (.t 7) .skip (.exit 0)))
 (.seq (.fgt [0, 2, 3])
 (.seq
 (.block 1
 (.seq
 (.reg none
 [m1 10 0, m1 11 3, i1 12 (.iad 11) [.t 10, .t 11], i1 13 (.fad 0) [.t 12], i1 14 ld [.t 13],
 i1 15 (bi .eql) [.t 14, k1 4], m1 16 15, g0 17 16 .mv [.t 0], g0 18 16 .mv [.t 3],
 g0 19 16 (.iad 11) [.t 17, .t 18], g0 20 16 (.fad 0) [.t 19], g0 21 16 ld [.t 20],
 g0 22 16 (bi .eql) [.t 21, k1 5], i1 23 .pick [.t 16, kt, .t 22]])
 (.cond (.t 23) (.seq (.reg none [i1 2 .mv [kt]]) .ret) .skip)))
 (.seq (.fgt [0, 2, 3]) (.reg none [m1 8 3, i1 9 (bi .add) [.t 8, k1 1], m1 3 9]))))))))
 (.seq (.fgt [2]) (.seq (.reg none [i1 2 .mv [kf]]) .ret))))
 [.tmp 2]
theorem code37_ok : F0 37 = some (.code code37) := by kernel_rfl
def code98 : CFn :=
 .mk
 (.seq (.reg none [i1 1 (.box 41) [.t 0], i1 2 .mv [kf]])
 (.seq
 (.reg none
 [i1 3 (.fad 4) [.t 1], i1 4 ld [.t 3], i1 5 (.un .not) [.t 4], m1 6 5, g1 7 6 (.fad 0) [.t 1],
 g1 8 6 (.load (some 2)) [.t 7], g1 9 6 (.call false) [fp 43, .t 8], g1 10 6 .mv [.t 9], g0 11 10 (.fad 2) [.t 1],
 g0 12 10 (.load (some 2)) [.t 11], g0 13 10 (.call false) [fp 43, .t 12], g1 14 6 .pick [.t 10, kt, .t 13],
 i1 15 .pick [.t 6, .t 14, kf], m1 2 15])
 .ret))
 [.tmp 2]
theorem code98_ok : F0 98 = some (.code code98) := by kernel_rfl
def code35 : CFn :=
 .mk
 (.seq (.reg none [i1 2 .mv [kf]])
 (.seq
 (.seq (.reg none [m1 6 0, i1 7 .len [.t 6], i1 8 (bi .eql) [.t 7, k1 0]])
 (.cond (.t 8) (.seq (.reg none [i1 2 .mv [kt]]) .ret) .skip))
 (.seq (.fgt [0, 2])
 (.seq
 (.seq
 (.reg none
 [m1 9 0, i1 10 .len [.t 9], i1 11 (bi .gtr) [.t 10, k1 256], m1 12 11,
 g0 13 12 .mv [.t 0], g0 14 12 (.call false) [fp 63, .t 13], g0 15 12 (.un .not) [.t 14],
 i1 16 .pick [.t 12, kt, .t 15]])
 (.cond (.t 16) (.seq (.reg none [i1 2 .mv [kf]]) .ret) .skip))
 (.seq (.fgt [0, 2])
 (.seq (.reg none [m1 17 0, i1 18 .len [.t 17], m1 3 18])
 (.seq (.reg none [i1 4 .mv [k1 0]])
 (.seq
 (.seq (.reg none [i1 5 .mv [k1 0]])
 (.block 0
 (.loop [0, 2, 3, 4, 5]
 (.seq (.seq (.reg none [m1 19 5, m1 20 0, i1 21 .len [.t 20], i1 22 (bi .lss) [.t 19, .t 21]]) (.cond (.t 22) .skip (.exit 0)))
 (.seq (.fgt [0, 2, 3, 4, 5])
 (.seq
 (.block 1
 (.seq
 (.seq
 (.reg none
 [m1 25 0, m1 26 5, i1 27 (.iad 11) [.t 25, .t 26], i1 28 (.load (some 11)) [.t 27],
 i1 29 (.call false) [fp 64, .t 28], i1 30 (.un .not) [.t 29]])
 (.cond (.t 30) (.seq (.reg none [i1 2 .mv [kf]]) .ret) .skip))
 (.seq (.fgt [0, 2, 3, 4, 5])
 (.seq
 (.seq
 (.reg none
 [m1 31 0, m1 32 5, i1 33 (.iad 11) [.t 31, .t 32], i1 34 (.fad 0) [.t 33], i1 35 ld [.t 34],
 i1 36 (bi .eql) [.t 35, k1 1], m1 37 36, g0 38 37 .mv [.t 0],
 g0 39 37 .mv [.t 5], g0 40 37 (.iad 11) [.t 38, .t 39], g0 41 37 (.fad 0) [.t 40], g0 42 37 ld [.t 41],
 g0 43 37 (bi .eql) [.t 42, k1 2], i1 44 .pick [.t 37, kt, .t 43]])
 (.cond (.t 44) (.exit 1) .skip))
 (.seq (.fgt [0, 2, 3, 4, 5])
 (.seq
 (.seq
 (.reg none
 [m1 45 0, m1 46 5, i1 47 (.iad 11) [.t 45, .t 46], i1 48 (.fad 0) [.t 47], i1 49 ld [.t 48],
 i1 50 (bi .neq) [.t 49, k1 3]])
 (.cond (.t 50) (.reg none [m1 51 4, i1 52 (bi .add) [.t 51, k1 1], m1 4 52]) .skip))
 (.seq (.fgt [0, 2, 3, 4, 5])
 (.seq
 (.seq
 (.reg none
 [m1 53 0, m1 54 5, i1 55 (.iad 11) [.t 53, .t 54], i1 56 (.fad 10) [.t 55], i1 57 ld [.t 56],
 i1 58 (.call false) [fp 65, .t 57], i1 59 (.un .not) [.t 58]])
 (.cond (.t 59) (.seq (.reg none [i1 2 .mv [kf]]) .ret) .skip))
 (.seq (.fgt [0, 2, 3, 4, 5])
 (.seq
 (.reg none
 [m1 60 3, m1 61 0, m1 62 5, i1 63 (.iad 11) [.t 61, .t 62], i1 64 (.fad 10) [.t 63],
 i1 65 ld [.t 64], i1 66 .len [.t 65], i1 67 (bi .add) [.t 60, .t 66], m1 3 67])
 (.seq (.reg none [m1 68 3, i1 69 (bi .gtr) [.t 68, k1 256]])
 (.cond (.t 69) (.seq (.reg none [i1 2 .mv [kf]]) .ret) .skip))))))))))))
 (.seq (.fgt [0, 2, 3, 4, 5]) (.reg none [m1 23 5, i1 24 (bi .add) [.t 23, k1 1], m1 5 24]))))))))
 (.seq (.fgt [0, 2, 4])
 (.seq
 (.reg none
 [m1 70 4, i1 71 (bi .eql) [.t 70, k1 0], m1 72 71, g0 73 72 .mv [.t 4],
 g0 74 72 (bi .eql) [.t 73, k1 1], g0 75 72 .mv [.t 74], g1 76 75 .mv [.t 0],
 g1 77 75 (.call false) [fp 66, .t 76], g0 78 72 .pick [.t 75, .t 77, kf],
 i1 79 .pick [.t 72, kt, .t 78], m1 2 79])
 .ret))))))))))
 [.tmp 2]
theorem code35_ok : F0 35 = some (.code code35) := by kernel_rfl
def code24 : CFn :=
 .mk
 (.seq (.reg none [i1 1 (.box 41) [.t 0], i1 2 .mv [kf]])
 (.seq
 (.seq (.reg none [i1 3 (.fad 4) [.t 1], i1 4 ld [.t 3]])
 (.cond (.t 4)
 (.seq
 (.reg none
 [i1 5 (.fad 0) [.t 1], i1 6 (.load (some 2)) [.t 5], i1 7 (.build [.d (.int .i64 (.ofNat 0)), .d (.int .i64 (.ofNat 0))] [(0, 1)]) [k1 1],
 i1 8 (.bin .eql (.cells 2 [(0, 1), (1, 1)])) [.t 6, .t 7], m1 9 8, g1 10 9 (.fad 2) [.t 1], g1 11 9 (.load (some 2)) [.t 10],
 g1 12 9 (.build [.d (.int .i64 (.ofNat 0)), .d (.int .i64 (.ofNat 0))] [(0, 1)]) [k1 5],
 g1 13 9 (.bin .eql (.cells 2 [(0, 1), (1, 1)])) [.t 11, .t 12], i1 14 .pick [.t 9, .t 13, kf], m1 15 14,
 g1 16 15 (.fad 5) [.t 1], g1 17 15 (.load (some 2)) [.t 16], g1 18 15 (.call false) [fp 43, .t 17],
 i1 19 .pick [.t 15, .t 18, kf], m1 20 19, g1 21 20 (.fad 5) [.t 1], g1 22 20 (.load (some 2)) [.t 21],
 g1 23 20 (.call false) [fp 44, .t 22, k1 1], i1 24 .pick [.t 20, .t 23, kf], m1 2 24])
 .ret)
 .skip))
 (.seq (.fgt [1, 2])
 (.seq
 (.reg none
 [i1 25 (.fad 5) [.t 1], i1 26 (.load (some 2)) [.t 25], i1 27 (.build [.d (.int .i64 (.ofNat 0)), .d (.int .i64 (.ofNat 0))] []) [],
 i1 28 (.bin .eql (.cells 2 [(0, 1), (1, 1)])) [.t 26, .t 27], m1 29 28, g1 30 29 (.fad 0) [.t 1], g1 31 29 (.load (some 2)) [.t 30],
 g1 32 29 (.call false) [fp 44, .t 31, k1 13], i1 33 .pick [.t 29, .t 32, kf], m1 34 33,
 g1 35 34 (.fad 2) [.t 1], g1 36 34 (.load (some 2)) [.t 35], g1 37 34 (.call false) [fp 44, .t 36, k1 29],
 i1 38 .pick [.t 34, .t 37, kf], m1 2 38])
 .ret))))
 [.tmp 2]
theorem code24_ok : F0 24 = some (.code code24) := by kernel_rfl
def code20 : CFn :=
 .mk
 (.seq (.reg none [i1 4 .mv [kf]])
 (.seq
 (.seq (.reg none [m1 6 0, i1 7 .len [.t 6], m1 8 1, i1 9 .len [.t 8], i1 10 (bi .neq) [.t 7, .t 9]])
 (.cond (.t 10) (.seq (.reg none [i1 4 .mv [kf]]) .ret) .skip))
 (.seq (.fgt [0, 1, 4])
 (.seq
 (.seq (.reg none [i1 5 .mv [k1 0]])
 (.block 0
 (.loop [0, 1, 4, 5]
 (.seq (.seq (.reg none [m1 11 5, m1 12 0, i1 13 .len [.t 12], i1 14 (bi .lss) [.t 11, .t 13]]) (.cond (.t 14) .skip (.exit 0)))
 (.seq (.fgt [0, 1, 4, 5])
 (.seq
 (.block 1
 (.seq
 (.reg (some [])
 [m1 17 0, m1 18 5, i1 19 (.iad 1) [.t 17, .t 18], i1 20 ld [.t 19], m1 21 1, m1 22 5,
 i1 23 (.iad 1) [.t 21, .t 22], i1 24 ld [.t 23], i1 25 (bi .neq) [.t 20, .t 24]])
 (.cond (.t 25) (.seq (.reg none [i1 4 .mv [kf]]) .ret) .skip)))
 (.seq (.fgt [0, 1, 4, 5]) (.reg none [m1 15 5, i1 16 (bi .add) [.t 15, k1 1], m1 5 16]))))))))
 (.seq (.fgt [4]) (.seq (.reg none [i1 4 .mv [kt]]) .ret))))))
 [.tmp 4]
theorem code20_ok : F0 20 = some (.code code20) := by kernel_rfl
def code63 : CFn :=
 .mk
 (.seq (.reg none [i1 2 .mv [kf]])
 (.seq (.reg none [i1 3 .mv [kf]])
 (.seq
 (.seq (.reg none [i1 4 .mv [k1 0]])
 (.block 0
 (.loop [0, 2, 3, 4]
 (.seq (.seq (.reg none [m1 5 4, m1 6 0, i1 7 .len [.t 6], i1 8 (bi .lss) [.t 5, .t 7]]) (.cond (.t 8) .skip (.exit 0)))
 (.seq (.fgt [0, 2, 3, 4])
 (.seq
 (.block 1
 (.seq
 (.seq
 (.reg none
 [m1 11 4, i1 12 (bi .gtr) [.t 11, k1 0], m1 13 12, g1 14 13 .mv [.t 0],
 g1 15 13 .mv [.t 4], g1 16 13 (.iad 11) [.t 14, .t 15], g1 17 13 (.fad 0) [.t 16], g1 18 13 ld [.t 17],
 g1 19 13 (bi .eql) [.t 18, k1 1], i1 20 .pick [.t 13, .t 19, kf], m1 21 20,
 g1 22 21 .mv [.t 0], g1 23 21 .mv [.t 4], g1 24 21 (bi .sub) [.t 23, k1 1],
 g1 25 21 (.iad 11) [.t 22, .t 24], g1 26 21 (.fad 0) [.t 25], g1 27 21 ld [.t 26],
 g1 28 21 (bi .eql) [.t 27, k1 1], i1 29 .pick [.t 21, .t 28, kf]])
 (.cond (.t 29) (.seq (.reg none [i1 2 .mv [kf]]) .ret) .skip))
 (.seq (.fgt [0, 2, 3, 4])
 (.reg none
 [m1 30 3, m1 31 30, g0 32 31 .mv [.t 0], g0 33 31 .mv [.t 4], g0 34 31 (.iad 11) [.t 32, .t 33],
 g0 35 31 (.fad 0) [.t 34], g0 36 31 ld [.t 35], g0 37 31 (bi .neq) [.t 36, k1 1],
 i1 38 .pick [.t 31, kt, .t 37], m1 3 38]))))
 (.seq (.fgt [0, 2, 3, 4]) (.reg none [m1 9 4, i1 10 (bi .add) [.t 9, k1 1], m1 4 10]))))))))
 (.seq (.fgt [2, 3]) (.seq (.reg none [m1 39 3, m1 2 39]) .ret)))))
 [.tmp 2]
theorem code63_ok : F0 63 = some (.code code63) := by kernel_rfl
def code65 : CFn :=
 .mk
 (.seq (.reg none [i1 2 .mv [kf]])
 (.seq
 (.seq
 (.reg none
 [m1 4 0, i1 5 .len [.t 4], i1 6 (bi .gtr) [.t 5, k1 256], m1 7 6, g0 8 7 .mv [.t 0],
 g0 9 7 (.call false) [fp 63, .t 8], g0 10 7 (.un .not) [.t 9], i1 11 .pick [.t 7, kt, .t 10]])
 (.cond (.t 11) (.seq (.reg none [i1 2 .mv [kf]]) .ret) .skip))
 (.seq (.fgt [0, 2])
 (.seq
 (.seq (.reg none [i1 3 .mv [k1 0]])
 (.block 0
 (.loop [0, 2, 3]
 (.seq (.seq (.reg none [m1 12 3, m1 13 0, i1 14 .len [.t 13], i1 15 (bi .lss) [.t 12, .t 14]]) (.cond (.t 15) .skip (.exit 0)))
 (.seq (.fgt [0, 2, 3])
 (.seq
 (.block 1
 (.seq
 (.reg none
 [m1 18 0, m1 19 3, i1 20 (.iad 11) [.t 18, .t 19], i1 21 (.fad 0) [.t 20], i1 22 ld [.t 21],
 i1 23 (bi .neq) [.t 22, k1 1], m1 24 23, g1 25 24 .mv [.t 0], g1 26 24 .mv [.t 3],
 g1 27 24 (.iad 11) [.t 25, .t 26], g1 28 24 (.fad 0) [.t 27], g1 29 24 ld [.t 28],
 g1 30 24 (bi .neq) [.t 29, k1 2], i1 31 .pick [.t 24, .t 30, kf], m1 32 31,
 g0 33 32 .mv [.t 0], g0 34 32 .mv [.t 3], g0 35 32 (.iad 11) [.t 33, .t 34], g0 36 32 (.load (some 11)) [.t 35],
 g0 37 32 (.call false) [fp 64, .t 36], g0 38 32 (.un .not) [.t 37], i1 39 .pick [.t 32, kt, .t 38]])
 (.cond (.t 39) (.seq (.reg none [i1 2 .mv [kf]]) .ret) .skip)))
 (.seq (.fgt [0, 2, 3]) (.reg none [m1 16 3, i1 17 (bi .add) [.t 16, k1 1], m1 3 17]))))))))
 (.seq (.fgt [2]) (.seq (.reg none [i1 2 .mv [kt]]) .ret))))))
 [.tmp 2]
theorem code65_ok : F0 65 = some (.code code65) := by kernel_rfl
def code43 : CFn :=
 .mk
 (.seq (.reg none [i1 1 (.box 39) [.t 0], i1 2 .mv [kf]])
 (.seq
 (.reg none
 [i1 3 (.fad 0) [.t 1], i1 4 ld [.t 3], i1 5 (bi .eql) [.t 4, k1 2], m1 6 5,
 g0 7 6 (.fad 0) [.t 1], g0 8 6 ld [.t 7], g0 9 6 (bi .eql) [.t 8, k1 3],
 i1 10 .pick [.t 6, kt, .t 9], m1 2 10])
 .ret))
 [.tmp 2]
theorem code43_ok : F0 43 = some (.code code43) := by kernel_rfl
def code97 : CFn :=
 .mk
 (.seq (.reg none [i1 2 .mv [kf]])
 (.seq
 (.seq
 (.reg none
 [m1 4 0, i1 5 .len [.t 4], i1 6 (bi .lss) [.t 5, k1 1], m1 7 6, g0 8 7 .mv [.t 0],
 g0 9 7 .len [.t 8], g0 10 7 (bi .gtr) [.t 9, k1 16], i1 11 .pick [.t 7, kt, .t 10]])
 (.cond (.t 11) (.seq (.reg none [i1 2 .mv [kf]]) .ret) .skip))
 (.seq (.fgt [0, 2])
 (.seq
 (.seq (.reg none [i1 3 .mv [k1 0]])
 (.block 0
 (.loop [0, 2, 3]
 (.seq (.seq (.reg none [m1 12 3, m1 13 0, i1 14 .len [.t 13], i1 15 (bi .lss) [.t 12, .t 14]]) (.cond (.t 15) .skip (.exit 0)))
 (.seq (.fgt [0, 2, 3])
 (.seq
 (.block 1
 (.seq
 (.reg none
 [m1 18 0, m1 19 3, i1 20 (.iad 1) [.t 18, .t 19], i1 21 ld [.t 20], i1 22 (.call false) [fp 123, .t 21],
 i1 23 (.un .not) [.t 22]])
 (.cond (.t 23) (.seq (.reg none [i1 2 .mv [kf]]) .ret) .skip)))
 (.seq (.fgt [0, 2, 3]) (.reg none [m1 16 3, i1 17 (bi .add) [.t 16, k1 1], m1 3 17]))))))))
 (.seq (.fgt [2]) (.seq (.reg none [i1 2 .mv [kt]]) .ret))))))
 [.tmp 2]
theorem code97_ok : F0 97 = some (.code code97) := by kernel_rfl
def code64 : CFn :=
 .mk
 (.seq (.reg none [i1 1 (.box 43) [.t 0], i1 2 .mv [kf]])
 (.seq
 (.seq
 (.reg none
 [i1 3 (.fad 0) [.t 1], i1 4 ld [.t 3], i1 5 (bi .neq) [.t 4, k1 1], m1 6 5,
 g1 7 6 (.fad 1) [.t 1], g1 8 6 ld [.t 7], g1 9 6 .len [.t 8],
 g1 10 6 (bi .gtr) [.t 9, k1 0], i1 11 .pick [.t 6, .t 10, kf], m1 12 11,
 g0 13 12 (.fad 0) [.t 1], g0 14 12 ld [.t 13], g0 15 12 (bi .neq) [.t 14, k1 2],
 g0 16 12 .mv [.t 15], g1 17 16 (.fad 2) [.t 1], g1 18 16 (.load (some 7)) [.t 17],
 .mk (some 19) (some (16, true))
 (.build [.d (.int .i64 (.ofNat 0)), .d (.int .i64 (.ofNat 0)), .d (.int .i64 (.ofNat 0)), .d (.int .i64 (.ofNat 0)), .d (.bool false), .d (.int .i64 (.ofNat 0)), .d (.int .i64 (.ofNat 0))] [])
 [],
 g1 20 16 (.bin .neq (.cells 7 [(0, 1), (1, 1), (2, 1), (3, 1), (4, 0), (5, 1), (6, 1)])) [.t 18, .t 19], g0 21 12 .pick [.t 16, .t 20, kf],
 i1 22 .pick [.t 12, kt, .t 21], m1 23 22, g0 24 23 (.fad 0) [.t 1], g0 25 23 ld [.t 24],
 g0 26 23 (bi .neq) [.t 25, k1 3], g0 27 23 .mv [.t 26], g1 28 27 (.fad 9) [.t 1],
 g1 29 27 ld [.t 28], g1 30 27 (bi .neq) [.t 29, k1 0], g0 31 23 .pick [.t 27, .t 30, kf],
 i1 32 .pick [.t 23, kt, .t 31]])
 (.cond (.t 32) (.seq (.reg none [i1 2 .mv [kf]]) .ret) .skip))
 (.seq (.fgt [1, 2])
 (.seq
 (.seq (.reg none [i1 33 (.fad 0) [.t 1], i1 34 ld [.t 33]])
 (.block 0
 (.seq (.reg none [i1 36 (bi .eql) [.t 34, k1 1], m1 35 36])
 (.cond (.t 35)
 (.seq
 (.reg none
 [i1 37 (.fad 1) [.t 1], i1 38 ld [.t 37], i1 39 (.call false) [fp 97, .t 38], m1 40 39,
 g1 41 40 (.fad 10) [.t 1], g1 42 40 ld [.t 41], g1 43 40 .len [.t 42],
 g1 44 40 (bi .eql) [.t 43, k1 0], i1 45 .pick [.t 40, .t 44, kf], m1 2 45])
 .ret)
 (.seq (.reg none [i1 47 (bi .eql) [.t 34, k1 2], m1 46 47])
 (.cond (.t 46)
 (.seq
 (.reg none
 [i1 48 (.fad 2) [.t 1], i1 49 (.load (some 7)) [.t 48], i1 50 (.call false) [fp 24, .t 49], m1 51 50,
 g1 52 51 (.fad 10) [.t 1], g1 53 51 ld [.t 52], g1 54 51 .len [.t 53],
 g1 55 51 (bi .eql) [.t 54, k1 0], i1 56 .pick [.t 51, .t 55, kf], m1 2 56])
 .ret)
 (.seq (.reg none [i1 58 (bi .eql) [.t 34, k1 3], m1 57 58])
 (.cond (.t 57)
 (.seq
 (.reg none
 [i1 59 (.fad 9) [.t 1], i1 60 ld [.t 59], i1 61 (bi .geq) [.t 60, k1 1], m1 62 61,
 g1 63 62 (.fad 9) [.t 1], g1 64 62 ld [.t 63], g1 65 62 (bi .leq) [.t 64, k1 10000],
 i1 66 .pick [.t 62, .t 65, kf], m1 2 66])
 .ret)
 .skip))))))))
 (.seq (.fgt [1, 2])
 (.seq
 (.reg none
 [i1 67 (.fad 0) [.t 1], i1 68 ld [.t 67], i1 69 (bi .eql) [.t 68, k1 4], m1 70 69,
 g0 71 70 (.fad 0) [.t 1], g0 72 70 ld [.t 71], g0 73 70 (bi .eql) [.t 72, k1 5],
 i1 74 .pick [.t 70, kt, .t 73], m1 2 74])
 .ret))))))
 [.tmp 2]
theorem code64_ok : F0 64 = some (.code code64) := by kernel_rfl
def code7 : CFn :=
 .mk
 (.seq (.reg none [i1 8 (.new 26 [.d .nilsl, .d .nilsl, .d (.int .i64 (.ofNat 0)), .d (.int .i64 (.ofNat 0))]) [], i1 9 .mv [k1 0]])
 (.seq
 (.reg none
 [m1 17 0, m1 18 1, m1 19 2, m1 20 3, i1 21 (.call false) [fp 16, .t 17, .t 18, .t 19, .t 20],
 m1 16 21, i1 22 (.ext 0) [.t 16], i1 23 (.ext 1) [.t 16], m1 10 22, m1 11 23])
 (.seq
 (.seq (.reg none [m1 24 11, i1 25 (bi .neq) [.t 24, k1 0]])
 (.cond (.t 25)
 (.seq
 (.reg none
 [i1 26 (.build [.d .nilsl, .d .nilsl, .d (.int .i64 (.ofNat 0)), .d (.int .i64 (.ofNat 0))] []) [], m1 27 11, .mk none none (.storeT 4) [.t 8, .t 26],
 m1 9 27])
 .ret)
 .skip))
 (.seq (.fgt [0, 8, 9, 10])
 (.seq
 (.seq
 (.reg none
 [m1 28 0, m1 29 10, i1 30 (.call false) [fp 17, .t 28, .t 29],
 i1 31 (bi .gtr) [.t 30, k1 10000]])
 (.cond (.t 31)
 (.seq
 (.reg none
 [i1 32 (.build [.d .nilsl, .d .nilsl, .d (.int .i64 (.ofNat 0)), .d (.int .i64 (.ofNat 0))] []) [], .mk none none (.storeT 4) [.t 8, .t 32],
 i1 9 .mv [k1 52]])
 .ret)
 .skip))
 (.seq (.fgt [0, 8, 9, 10])
 (.seq
 (.reg none
 [i1 33 (.bslT 37 1 [.nilsl] 1 [0]) [.k (.d .nilsl)], i1 34 (.build [.d .nilsl, .d .nilsl, .d (.int .i64 (.ofNat 0)), .d (.int .i64 (.ofNat 0))] [(0, 1)]) [.t 33],
 i1 12 (.new 26 [.d .nilsl, .d .nilsl, .d (.int .i64 (.ofNat 0)), .d (.int .i64 (.ofNat 0))]) [], .mk none none (.storeT 4) [.t 12, .t 34]])
 (.seq
 (.seq (.reg none [i1 13 .mv [k1 0]])
 (.block 0
 (.loop [0, 8, 9, 10, 12, 13]
 (.seq (.seq (.reg none [m1 35 13, m1 36 0, i1 37 .len [.t 36], i1 38 (bi .lss) [.t 35, .t 37]]) (.cond (.t 38) .skip (.exit 0)))
 (.seq (.fgt [0, 8, 9, 10, 12, 13])
 (.seq
 (.block 1
 (.seq
 (.seq
 (.reg none
 [m1 41 0, m1 42 13, i1 43 (.iad 11) [.t 41, .t 42], i1 44 (.fad 0) [.t 43], i1 45 ld [.t 44],
 i1 46 (bi .lss) [.t 45, k1 3]])
 (.cond (.t 46)
 (.seq
 (.reg (some [])
 [i1 47 (.load (some 4)) [.t 12], m1 48 0, m1 49 13, i1 50 (.iad 11) [.t 48, .t 49], i1 51 (.load (some 11)) [.t 50],
 .mk (some 52) none
 (.bsl 43 11
 [.int .i64 (.ofNat 0), .nilsl, .int .i64 (.ofNat 0), .int .i64 (.ofNat 0), .int .i64 (.ofNat 0), .int .i64 (.ofNat 0), .bool false, .int .i64 (.ofNat 0),
 .int .i64 (.ofNat 0), .int .i64 (.ofNat 0), .nilsl]
 1 [0])
 [.t 51],
 i1 53 (.callD []) [.k (.fn .opn 18 [] []), .t 47, .t 52], .mk none none (.store 4) [.t 12, .t 53]])
 (.exit 1))
 .skip))
 (.seq (.fgt [0, 8, 9, 10, 12, 13])
 (.seq (.reg none [i1 54 (.fad 1) [.t 12], i1 55 ld [.t 54], i1 56 .len [.t 55], m1 14 56])
 (.seq
 (.seq (.reg none [i1 15 .mv [k1 0]])
 (.block 2
 (.loop [0, 8, 9, 10, 12, 13, 14, 15]
 (.seq
 (.seq
 (.reg none
 [m1 57 15, m1 58 0, m1 59 13, i1 60 (.iad 11) [.t 58, .t 59], i1 61 (.load (some 11)) [.t 60],
 m1 62 10, i1 63 (.call false) [fp 19, .t 61, .t 62], i1 64 (bi .lss) [.t 57, .t 63]])
 (.cond (.t 64) .skip (.exit 2)))
 (.seq (.fgt [0, 8, 9, 10, 12, 13, 14, 15])
 (.seq
 (.block 3
 (.reg (some [])
 [i1 67 (.load (some 4)) [.t 12], m1 68 0, m1 69 13, i1 70 (.iad 11) [.t 68, .t 69], i1 71 (.fad 10) [.t 70],
 i1 72 ld [.t 71], i1 73 (.callD []) [.k (.fn .opn 18 [] []), .t 67, .t 72], .mk none none (.store 4) [.t 12, .t 73]]))
 (.seq (.fgt [0, 8, 9, 10, 12, 13, 14, 15])
 (.reg none [m1 65 15, i1 66 (bi .add) [.t 65, k1 1], m1 15 66]))))))))
 (.seq (.fgt [0, 8, 9, 10, 12, 13, 14])
 (.seq
 (.reg none
 [m1 74 0, m1 75 13, i1 76 (.iad 11) [.t 74, .t 75], i1 77 (.fad 0) [.t 76], i1 78 ld [.t 77],
 i1 79 (bi .eql) [.t 78, k1 5]])
 (.cond (.t 79)
 (.seq (.reg none [m1 80 14, i1 81 (.fad 2) [.t 12], .mk none none (.storeT 1) [.t 81, .t 80]])
 (.reg none
 [i1 82 (.fad 1) [.t 12], i1 83 ld [.t 82], i1 84 .len [.t 83], i1 85 (.fad 3) [.t 12], .mk none none (.storeT 1) [.t 85, .t 84]]))
 .skip))))))))
 (.seq (.fgt [0, 8, 9, 10, 12, 13]) (.reg none [m1 39 13, i1 40 (bi .add) [.t 39, k1 1], m1 13 40]))))))))
 (.seq (.fgt [8, 9, 12]) (.seq (.reg none [i1 86 (.load (some 4)) [.t 12], .mk none none (.storeT 4) [.t 8, .t 86], i1 9 .mv [k1 0]]) .ret))))))))))
 [.cell 8 (some 4), .tmp 9]
theorem code7_ok : F0 7 = some (.code code7) := by kernel_rfl
def code67 : CFn :=
 .mk
 (.seq (.reg none [i1 2 (.box 41) [.t 0], i1 4 .mv [k1 0], i1 5 .mv [k1 0]])
 (.seq
 (.seq
 (.reg none
 [i1 13 (.load (some 7)) [.t 2], i1 14 (.call false) [fp 98, .t 13], i1 15 (.un .not) [.t 14], m1 16 15,
 g0 17 16 (.load (some 7)) [.t 2], g0 18 16 (.call false) [fp 24, .t 17], g0 19 16 (.un .not) [.t 18],
 i1 20 .pick [.t 16, kt, .t 19], m1 21 20, g0 22 21 .mv [.t 1], g0 23 21 (.call false) [fp 36, .t 22],
 g0 24 21 (.un .not) [.t 23], i1 25 .pick [.t 21, kt, .t 24]])
 (.cond (.t 25) (.seq (.reg none [i1 4 .mv [k1 0], i1 5 .mv [k1 2]]) .ret) .skip))
 (.seq (.fgt [1, 2, 4, 5])
 (.seq
 (.reg none
 [i1 27 (.fad 0) [.t 2], i1 28 (.load (some 2)) [.t 27], m1 29 1, i1 30 (.call false) [fp 99, .t 28, .t 29, kt],
 m1 26 30, i1 31 (.ext 0) [.t 26], i1 32 (.ext 1) [.t 26], i1 33 (.ext 2) [.t 26], m1 6 31, m1 7 32,
 m1 8 33])
 (.seq
 (.reg none
 [i1 35 (.fad 2) [.t 2], i1 36 (.load (some 2)) [.t 35], m1 37 1, i1 38 (.call false) [fp 99, .t 36, .t 37, kt],
 m1 34 38, i1 39 (.ext 0) [.t 34], i1 40 (.ext 1) [.t 34], i1 41 (.ext 2) [.t 34], m1 9 39, m1 10 40,
 m1 11 41])
 (.seq
 (.seq (.reg none [m1 42 8, i1 43 (bi .neq) [.t 42, k1 0]])
 (.cond (.t 43) (.seq (.reg none [m1 44 8, i1 4 .mv [k1 0], m1 5 44]) .ret) .skip))
 (.seq (.fgt [4, 5, 6, 7, 9, 10, 11])
 (.seq
 (.seq (.reg none [m1 45 11, i1 46 (bi .neq) [.t 45, k1 0]])
 (.cond (.t 46) (.seq (.reg none [m1 47 11, i1 4 .mv [k1 0], m1 5 47]) .ret) .skip))
 (.seq (.fgt [4, 5, 6, 7, 9, 10])
 (.seq (.reg none [m1 48 6, m1 12 48])
 (.seq
 (.seq
 (.reg none
 [m1 49 10, m1 50 49, g1 51 50 .mv [.t 7], g1 52 50 (.un .not) [.t 51], g1 53 50 .mv [.t 52],
 g0 54 53 .mv [.t 9], g0 55 53 .mv [.t 6], g0 56 53 (bi .gtr) [.t 54, .t 55],
 g1 57 50 .pick [.t 53, kt, .t 56], i1 58 .pick [.t 50, .t 57, kf]])
 (.cond (.t 58) (.reg none [m1 59 9, m1 12 59]) .skip))
 (.seq (.fgt [4, 5, 12])
 (.seq (.reg none [m1 60 12, i1 61 .max [.t 60, k1 64], m1 4 61, i1 5 .mv [k1 0]])
 .ret)))))))))))))
 [.tmp 4, .tmp 5]
theorem code67_ok : F0 67 = some (.code code67) := by kernel_rfl
def code16 : CFn :=
 .mk
 (.seq (.reg none [i1 8 .mv [k1 0], i1 9 .mv [k1 0]])
 (.seq
 (.seq
 (.reg none
 [m1 19 0, i1 20 (.call false) [fp 35, .t 19], i1 21 (.un .not) [.t 20], m1 22 21, g0 23 22 .mv [.t 1],
 g0 24 22 (.call false) [fp 36, .t 23], g0 25 22 (.un .not) [.t 24], i1 26 .pick [.t 22, kt, .t 25], m1 27 26,
 g0 28 27 .mv [.t 3], g0 29 27 (.call false) [fp 36, .t 28], g0 30 27 (.un .not) [.t 29],
 i1 31 .pick [.t 27, kt, .t 30]])
 (.cond (.t 31) (.seq (.reg none [i1 8 .mv [k1 0], i1 9 .mv [k1 2]]) .ret) .skip))
 (.seq (.fgt [0, 1, 2, 3, 8, 9])
 (.seq
 (.seq (.reg none [m1 32 0, i1 33 (.call false) [fp 37, .t 32], i1 34 (.un .not) [.t 33]])
 (.cond (.t 34) (.seq (.reg none [i1 8 .mv [k1 0], i1 9 .mv [k1 0]]) .ret) .skip))
 (.seq (.fgt [0, 1, 2, 3, 8, 9])
 (.seq
 (.seq (.reg none [m1 35 2, i1 36 (.un .not) [.t 35]])
 (.cond (.t 36) (.seq (.reg none [i1 8 .mv [k1 1], i1 9 .mv [k1 0]]) .ret) .skip))
 (.seq (.fgt [0, 1, 3, 8, 9])
 (.seq
 (.reg none
 [m1 38 0, m1 39 1, m1 40 3, i1 41 (.call false) [fp 38, .t 38, k1 1, .t 39, .t 40],
 m1 37 41, i1 42 (.ext 0) [.t 37], i1 43 (.ext 1) [.t 37], i1 44 (.ext 2) [.t 37], m1 10 42, m1 11 43,
 m1 12 44])
 (.seq
 (.seq (.reg none [m1 45 12, i1 46 (bi .neq) [.t 45, k1 0]])
 (.cond (.t 46) (.seq (.reg none [m1 47 12, i1 8 .mv [k1 0], m1 9 47]) .ret) .skip))
 (.seq (.fgt [0, 1, 3, 8, 9])
 (.seq (.reg none [i1 13 .mv [k1 1]])
 (.seq (.reg none [i1 14 .mv [k1 10001]])
 (.seq
 (.block 0
 (.loop [0, 1, 3, 8, 9, 13, 14]
 (.seq
 (.seq
 (.reg none
 [m1 48 14, m1 49 13, i1 50 (bi .sub) [.t 48, .t 49],
 i1 51 (bi .gtr) [.t 50, k1 1]])
 (.cond (.t 51) .skip (.exit 0)))
 (.seq (.fgt [0, 1, 3, 8, 9, 13, 14])
 (.block 1
 (.seq
 (.reg none
 [m1 52 13, m1 53 14, i1 54 (bi .add) [.t 52, .t 53],
 i1 55 (bi .quo) [.t 54, k1 2], m1 15 55])
 (.seq
 (.reg none
 [m1 57 0, m1 58 15, m1 59 1, m1 60 3,
 i1 61 (.call false) [fp 38, .t 57, .t 58, .t 59, .t 60], m1 56 61, i1 62 (.ext 0) [.t 56], i1 63 (.ext 1) [.t 56],
 i1 64 (.ext 2) [.t 56], m1 16 62, m1 17 63, m1 18 64])
 (.seq
 (.reg none
 [m1 65 16, m1 66 1, i1 67 (bi .leq) [.t 65, .t 66], m1 68 67, g1 69 68 .mv [.t 17],
 g1 70 68 (bi .leq) [.t 69, k1 10000], i1 71 .pick [.t 68, .t 70, kf]])
 (.cond (.t 71) (.reg none [m1 72 15, m1 13 72]) (.reg none [m1 73 15, m1 14 73]))))))))))
 (.seq (.fgt [8, 9, 13]) (.seq (.reg none [m1 74 13, m1 8 74, i1 9 .mv [k1 0]]) .ret)))))))))))))))
 [.tmp 8, .tmp 9]
theorem code16_ok : F0 16 = some (.code code16) := by kernel_rfl
def code10 : CFn :=
 .mk
 (.seq (.reg none [i1 1 (.box 26) [.t 0], i1 2 .mv [kf]])
 (.seq
 (.seq
 (.reg none
 [i1 4 (.fad 1) [.t 1], i1 5 ld [.t 4], i1 6 .len [.t 5], i1 7 (bi .gtr) [.t 6, k1 10000], m1 8 7,
 g0 9 8 (.fad 0) [.t 1], g0 10 8 ld [.t 9], g0 11 8 .len [.t 10], g0 12 8 (.fad 1) [.t 1],
 g0 13 8 ld [.t 12], g0 14 8 .len [.t 13], g0 15 8 (bi .add) [.t 14, k1 1],
 g0 16 8 (bi .neq) [.t 11, .t 15], i1 17 .pick [.t 8, kt, .t 16]])
 (.cond (.t 17) (.seq (.reg none [i1 2 .mv [kf]]) .ret) .skip))
 (.seq (.fgt [1, 2])
 (.seq
 (.seq (.reg none [i1 3 .mv [k1 0]])
 (.block 0
 (.loop [1, 2, 3]
 (.seq
 (.seq (.reg none [m1 18 3, i1 19 (.fad 1) [.t 1], i1 20 ld [.t 19], i1 21 .len [.t 20], i1 22 (bi .lss) [.t 18, .t 21]])
 (.cond (.t 22) .skip (.exit 0)))
 (.seq (.fgt [1, 2, 3])
 (.seq
 (.block 1
 (.seq
 (.reg none
 [i1 25 (.fad 1) [.t 1], i1 26 ld [.t 25], m1 27 3, i1 28 (.iad 7) [.t 26, .t 27], i1 29 (.load (some 7)) [.t 28],
 i1 30 (.call false) [fp 24, .t 29], i1 31 (.un .not) [.t 30]])
 (.cond (.t 31) (.seq (.reg none [i1 2 .mv [kf]]) .ret) .skip)))
 (.seq (.fgt [1, 2, 3]) (.reg none [m1 23 3, i1 24 (bi .add) [.t 23, k1 1], m1 3 24]))))))))
 (.seq (.fgt [1, 2])
 (.seq
 (.reg none
 [i1 32 (.fad 2) [.t 1], i1 33 ld [.t 32], i1 34 (bi .eql) [.t 33, k1 0], m1 35 34,
 g1 36 35 (.fad 3) [.t 1], g1 37 35 ld [.t 36], g1 38 35 (bi .eql) [.t 37, k1 0],
 i1 39 .pick [.t 35, .t 38, kf], m1 40 39, g0 41 40 (.fad 2) [.t 1], g0 42 40 ld [.t 41],
 g0 43 40 (bi .geq) [.t 42, k1 0], g0 44 40 .mv [.t 43], g1 45 44 (.fad 2) [.t 1],
 g1 46 44 ld [.t 45], g1 47 44 (.fad 3) [.t 1], g1 48 44 ld [.t 47], g1 49 44 (bi .lss) [.t 46, .t 48],
 g0 50 40 .pick [.t 44, .t 49, kf], g0 51 40 .mv [.t 50], g1 52 51 (.fad 3) [.t 1], g1 53 51 ld [.t 52],
 g1 54 51 (.fad 1) [.t 1], g1 55 51 ld [.t 54], g1 56 51 .len [.t 55], g1 57 51 (bi .leq) [.t 53, .t 56],
 g0 58 40 .pick [.t 51, .t 57, kf], i1 59 .pick [.t 40, kt, .t 58], m1 2 59])
 .ret))))))
 [.tmp 2]
theorem code10_ok : F0 10 = some (.code code10) := by kernel_rfl
def code8 : CFn :=
 .mk
 (.seq (.reg none [i1 2 (.box 26) [.t 0], i1 3 (.box 26) [.t 1], i1 4 .mv [kf]])
 (.seq
 (.seq
 (.reg none
 [i1 7 (.fad 0) [.t 2], i1 8 ld [.t 7], i1 9 .len [.t 8], i1 10 (.fad 0) [.t 3], i1 11 ld [.t 10], i1 12 .len [.t 11],
 i1 13 (bi .neq) [.t 9, .t 12], m1 14 13, g0 15 14 (.fad 1) [.t 2], g0 16 14 ld [.t 15],
 g0 17 14 .len [.t 16], g0 18 14 (.fad 1) [.t 3], g0 19 14 ld [.t 18], g0 20 14 .len [.t 19],
 g0 21 14 (bi .neq) [.t 17, .t 20], i1 22 .pick [.t 14, kt, .t 21], m1 23 22, g0 24 23 (.fad 2) [.t 2],
 g0 25 23 ld [.t 24], g0 26 23 (.fad 2) [.t 3], g0 27 23 ld [.t 26], g0 28 23 (bi .neq) [.t 25, .t 27],
 i1 29 .pick [.t 23, kt, .t 28], m1 30 29, g0 31 30 (.fad 3) [.t 2], g0 32 30 ld [.t 31],
 g0 33 30 (.fad 3) [.t 3], g0 34 30 ld [.t 33], g0 35 30 (bi .neq) [.t 32, .t 34],
 i1 36 .pick [.t 30, kt, .t 35]])
 (.cond (.t 36) (.seq (.reg none [i1 4 .mv [kf]]) .ret) .skip))
 (.seq (.fgt [2, 3, 4])
 (.seq
 (.seq (.reg none [i1 5 .mv [k1 0]])
 (.block 0
 (.loop [2, 3, 4, 5]
 (.seq
 (.seq (.reg none [m1 37 5, i1 38 (.fad 0) [.t 2], i1 39 ld [.t 38], i1 40 .len [.t 39], i1 41 (bi .lss) [.t 37, .t 40]])
 (.cond (.t 41) .skip (.exit 0)))
 (.seq (.fgt [2, 3, 4, 5])
 (.seq
 (.block 1
 (.seq
 (.reg (some [])
 [i1 44 (.fad 0) [.t 2], i1 45 ld [.t 44], m1 46 5, i1 47 (.iad 1) [.t 45, .t 46], i1 48 ld [.t 47],
 i1 49 (.fad 0) [.t 3], i1 50 ld [.t 49], m1 51 5, i1 52 (.iad 1) [.t 50, .t 51], i1 53 ld [.t 52],
 i1 54 (.call true) [fp 20, .t 48, .t 53], i1 55 (.un .not) [.t 54]])
 (.cond (.t 55) (.seq (.reg none [i1 4 .mv [kf]]) .ret) .skip)))
 (.seq (.fgt [2, 3, 4, 5]) (.reg none [m1 42 5, i1 43 (bi .add) [.t 42, k1 1], m1 5 43]))))))))
 (.seq (.fgt [2, 3, 4])
 (.seq
 (.seq (.reg none [i1 6 .mv [k1 0]])
 (.block 2
 (.loop [2, 3, 4, 6]
 (.seq
 (.seq (.reg none [m1 56 6, i1 57 (.fad 1) [.t 2], i1 58 ld [.t 57], i1 59 .len [.t 58], i1 60 (bi .lss) [.t 56, .t 59]])
 (.cond (.t 60) .skip (.exit 2)))
 (.seq (.fgt [2, 3, 4, 6])
 (.seq
 (.block 3
 (.seq
 (.reg (some [])
 [i1 63 (.fad 1) [.t 2], i1 64 ld [.t 63], m1 65 6, i1 66 (.iad 7) [.t 64, .t 65], i1 67 (.load (some 7)) [.t 66],
 i1 68 (.fad 1) [.t 3], i1 69 ld [.t 68], m1 70 6, i1 71 (.iad 7) [.t 69, .t 70], i1 72 (.load (some 7)) [.t 71],
 i1 73 (.bin .neq (.cells 7 [(0, 1), (1, 1), (2, 1), (3, 1), (4, 0), (5, 1), (6, 1)])) [.t 67, .t 72]])
 (.cond (.t 73) (.seq (.reg none [i1 4 .mv [kf]]) .ret) .skip)))
 (.seq (.fgt [2, 3, 4, 6]) (.reg none [m1 61 6, i1 62 (bi .add) [.t 61, k1 1], m1 6 62]))))))))
 (.seq (.fgt [4]) (.seq (.reg none [i1 4 .mv [kt]]) .ret))))))))
 [.tmp 4]
theorem code8_ok : F0 8 = some (.code code8) := by kernel_rfl
def code18 : CFn :=
 .mk
 (.seq (.reg none [i1 2 (.box 26) [.t 0], i1 4 (.new 26 [.d .nilsl, .d .nilsl, .d (.int .i64 (.ofNat 0)), .d (.int .i64 (.ofNat 0))]) []])
 (.seq
 (.seq (.reg none [i1 5 .mv [k1 0]])
 (.block 0
 (.loop [1, 2, 4, 5]
 (.seq (.seq (.reg none [m1 7 5, m1 8 1, i1 9 .len [.t 8], i1 10 (bi .lss) [.t 7, .t 9]]) (.cond (.t 10) .skip (.exit 0)))
 (.seq (.fgt [1, 2, 4, 5])
 (.seq
 (.block 1
 (.seq
 (.reg none
 [m1 13 1, m1 14 5, i1 15 (.iad 11) [.t 13, .t 14], i1 16 (.fad 0) [.t 15], i1 17 ld [.t 16],
 i1 18 (bi .eql) [.t 17, k1 1]])
 (.cond (.t 18)
 (.seq
 (.reg none
 [i1 19 (.fad 0) [.t 2], i1 20 ld [.t 19], i1 21 .len [.t 20], i1 22 (bi .sub) [.t 21, k1 1],
 m1 6 22])
 (.reg (some [(23, 1, 26, 0), (33, 0, 26, 0), (36, 1, 26, 0), (23, 1, 32, 0)])
 [i1 23 (.fad 0) [.t 2], i1 24 ld [.t 23], m1 25 6, i1 27 (.fad 0) [.t 2], i1 28 ld [.t 27], m1 29 6,
 i1 30 (.iad 1) [.t 28, .t 29], i1 31 ld [.t 30], m1 33 1, m1 34 5, i1 35 (.iad 11) [.t 33, .t 34],
 i1 36 (.fad 1) [.t 35], i1 37 ld [.t 36], i1 26 (.bsl 9 1 [.str []] 0 []) [], i1 32 (.app 9 1 16) [.t 26, .t 31],
 i1 38 (.app 9 1 16) [.t 32, .t 37], i1 39 (.iad 1) [.t 24, .t 25], .mk none none (.storeT 1) [.t 39, .t 38]]))
 (.seq
 (.reg (some [])
 [i1 40 (.fad 1) [.t 2], i1 41 ld [.t 40], m1 42 1, m1 43 5, i1 44 (.iad 11) [.t 42, .t 43],
 i1 45 (.fad 2) [.t 44], i1 46 (.load (some 7)) [.t 45],
 i1 47 (.bsl 41 7 [.int .i64 (.ofNat 0), .int .i64 (.ofNat 0), .int .i64 (.ofNat 0), .int .i64 (.ofNat 0), .bool false, .int .i64 (.ofNat 0), .int .i64 (.ofNat 0)] 1 [0])
 [.t 46],
 i1 48 (.app 41 7 56) [.t 41, .t 47], i1 49 (.fad 1) [.t 2], .mk none none (.storeT 1) [.t 49, .t 48]])
 (.reg none
 [i1 50 (.fad 0) [.t 2], i1 51 ld [.t 50], i1 52 (.bslT 37 1 [.nilsl] 1 [0]) [.k (.d .nilsl)], i1 53 (.appT 37 1 24) [.t 51, .t 52],
 i1 54 (.fad 0) [.t 2], .mk none none (.storeT 1) [.t 54, .t 53]])))))
 (.seq (.fgt [1, 2, 4, 5]) (.reg none [m1 11 5, i1 12 (bi .add) [.t 11, k1 1], m1 5 12]))))))))
 (.seq (.fgt [2, 4]) (.seq (.reg none [i1 55 (.load (some 4)) [.t 2], .mk none none (.storeT 4) [.t 4, .t 55]]) .ret))))
 [.cell 4 (some 4)]
theorem code18_ok : F0 18 = some (.code code18) := by kernel_rfl
def code17 : CFn :=
 .mk
 (.seq (.reg none [i1 4 .mv [k1 0]])
 (.seq (.reg none [i1 5 .mv [k1 0]])
 (.seq
 (.seq (.reg none [i1 6 .mv [k1 0]])
 (.block 0
 (.loop [0, 1, 4, 5, 6]
 (.seq (.seq (.reg none [m1 9 6, m1 10 0, i1 11 .len [.t 10], i1 12 (bi .lss) [.t 9, .t 11]]) (.cond (.t 12) .skip (.exit 0)))
 (.seq (.fgt [0, 1, 4, 5, 6])
 (.seq
 (.block 1
 (.seq (.reg none [i1 7 .mv [k1 0]])
 (.seq
 (.seq
 (.reg none
 [m1 15 0, m1 16 6, i1 17 (.iad 11) [.t 15, .t 16], i1 18 (.fad 0) [.t 17], i1 19 ld [.t 18],
 i1 20 (bi .eql) [.t 19, k1 2]])
 (.cond (.t 20) (.reg none [i1 7 .mv [k1 1]]) .skip))
 (.seq (.fgt [0, 1, 4, 5, 6, 7])
 (.seq
 (.seq (.reg none [i1 8 .mv [k1 0]])
 (.block 2
 (.loop [0, 1, 4, 5, 6, 7, 8]
 (.seq
 (.seq
 (.reg none
 [m1 21 8, m1 22 0, m1 23 6, i1 24 (.iad 11) [.t 22, .t 23], i1 25 (.fad 10) [.t 24],
 i1 26 ld [.t 25], i1 27 .len [.t 26], i1 28 (bi .lss) [.t 21, .t 27]])
 (.cond (.t 28) .skip (.exit 2)))
 (.seq (.fgt [0, 1, 4, 5, 6, 7, 8])
 (.seq
 (.block 3
 (.seq
 (.reg none
 [m1 31 0, m1 32 6, i1 33 (.iad 11) [.t 31, .t 32], i1 34 (.fad 10) [.t 33], i1 35 ld [.t 34],
 m1 36 8, i1 37 (.iad 11) [.t 35, .t 36], i1 38 (.fad 0) [.t 37], i1 39 ld [.t 38],
 i1 40 (bi .eql) [.t 39, k1 2]])
 (.cond (.t 40)
 (.reg none
 [m1 41 7, m1 42 0, m1 43 6, i1 44 (.iad 11) [.t 42, .t 43], i1 45 (.load (some 11)) [.t 44],
 m1 46 1, i1 47 (.call false) [fp 19, .t 45, .t 46], i1 48 (bi .add) [.t 41, .t 47],
 m1 7 48])
 .skip)))
 (.seq (.fgt [0, 1, 4, 5, 6, 7, 8]) (.reg none [m1 29 8, i1 30 (bi .add) [.t 29, k1 1], m1 8 30]))))))))
 (.seq (.fgt [0, 1, 4, 5, 6, 7])
 (.reg none
 [m1 49 5, m1 50 7, i1 51 (bi .add) [.t 49, .t 50], i1 52 .min [k1 10001, .t 51],
 m1 5 52])))))))
 (.seq (.fgt [0, 1, 4, 5, 6]) (.reg none [m1 13 6, i1 14 (bi .add) [.t 13, k1 1], m1 6 14]))))))))
 (.seq (.fgt [4, 5]) (.seq (.reg none [m1 53 5, m1 4 53]) .ret)))))
 [.tmp 4]
theorem code17_ok : F0 17 = some (.code code17) := by kernel_rfl
def code19 : CFn :=
 .mk
 (.seq (.reg none [i1 2 (.box 43) [.t 0], i1 4 .mv [k1 0]])
 (.seq
 (.seq (.reg none [i1 5 (.fad 0) [.t 2], i1 6 ld [.t 5], i1 7 (bi .eql) [.t 6, k1 3]])
 (.cond (.t 7) (.seq (.reg none [i1 8 (.fad 9) [.t 2], i1 9 ld [.t 8], m1 4 9]) .ret) .skip))
 (.seq (.fgt [1, 4]) (.seq (.reg none [m1 10 1, m1 4 10]) .ret))))
 [.tmp 4]
theorem code19_ok : F0 19 = some (.code code19) := by kernel_rfl
def code38 : CFn :=
 .mk
 (.seq (.reg none [i1 8 .mv [k1 0], i1 9 .mv [k1 0], i1 10 .mv [k1 0]])
 (.seq (.reg none [i1 11 .mv [k1 0]])
 (.seq (.reg none [i1 12 .mv [k1 0]])
 (.seq
 (.seq (.reg none [i1 13 .mv [k1 0]])
 (.block 0
 (.loop [0, 1, 2, 3, 8, 9, 10, 11, 12, 13]
 (.seq (.seq (.reg none [m1 19 13, m1 20 0, i1 21 .len [.t 20], i1 22 (bi .lss) [.t 19, .t 21]]) (.cond (.t 22) .skip (.exit 0)))
 (.seq (.fgt [0, 1, 2, 3, 8, 9, 10, 11, 12, 13])
 (.seq
 (.block 1
 (.seq
 (.reg none
 [m1 25 0, m1 26 13, i1 27 (.iad 11) [.t 25, .t 26], i1 28 (.load (some 11)) [.t 27],
 .mk (some 29) none
 (.bslT 43 11
 [.int .i64 (.ofNat 0), .nilsl, .int .i64 (.ofNat 0), .int .i64 (.ofNat 0), .int .i64 (.ofNat 0), .int .i64 (.ofNat 0), .bool false, .int .i64 (.ofNat 0), .int .i64 (.ofNat 0),
 .int .i64 (.ofNat 0), .nilsl]
 1 [0])
 [.t 28],
 m1 14 29])
 (.seq (.reg none [i1 15 .mv [k1 1]])
 (.seq
 (.seq
 (.reg none
 [m1 30 0, m1 31 13, i1 32 (.iad 11) [.t 30, .t 31], i1 33 (.fad 0) [.t 32], i1 34 ld [.t 33],
 i1 35 (bi .geq) [.t 34, k1 3]])
 (.cond (.t 35)
 (.seq
 (.reg none
 [m1 36 0, m1 37 13, i1 38 (.iad 11) [.t 36, .t 37], i1 39 (.fad 10) [.t 38], i1 40 ld [.t 39],
 m1 14 40])
 (.reg none
 [m1 41 0, m1 42 13, i1 43 (.iad 11) [.t 41, .t 42], i1 44 (.load (some 11)) [.t 43], m1 45 1,
 i1 46 (.call false) [fp 19, .t 44, .t 45], m1 15 46]))
 .skip))
 (.seq (.fgt [0, 1, 2, 3, 8, 9, 10, 11, 12, 13, 14, 15])
 (.seq (.reg none [i1 16 .mv [k1 0]])
 (.block 2
 (.loop [0, 1, 2, 3, 8, 9, 10, 11, 12, 13, 14, 15, 16]
 (.seq
 (.seq (.reg none [m1 47 16, m1 48 14, i1 49 .len [.t 48], i1 50 (bi .lss) [.t 47, .t 49]])
 (.cond (.t 50) .skip (.exit 2)))
 (.seq (.fgt [0, 1, 2, 3, 8, 9, 10, 11, 12, 13, 14, 15, 16])
 (.seq
 (.block 3
 (.seq
 (.seq
 (.reg none
 [m1 53 14, m1 54 16, i1 55 (.iad 11) [.t 53, .t 54], i1 56 (.fad 0) [.t 55], i1 57 ld [.t 56],
 i1 58 (bi .neq) [.t 57, k1 2]])
 (.cond (.t 58) (.exit 3) .skip))
 (.seq (.fgt [0, 1, 2, 3, 8, 9, 10, 11, 12, 13, 14, 15, 16])
 (.seq
 (.reg none
 [m1 60 14, m1 61 16, i1 62 (.iad 11) [.t 60, .t 61], i1 63 (.fad 2) [.t 62], i1 64 (.load (some 7)) [.t 63],
 m1 65 2, i1 66 (.call false) [fp 67, .t 64, .t 65], m1 59 66, i1 67 (.ext 0) [.t 59],
 i1 68 (.ext 1) [.t 59], m1 17 67, m1 18 68])
 (.seq
 (.seq (.reg none [m1 69 18, i1 70 (bi .neq) [.t 69, k1 0]])
 (.cond (.t 70)
 (.seq
 (.reg none
 [m1 71 18, i1 8 .mv [k1 0], i1 9 .mv [k1 0],
 m1 10 71])
 .ret)
 .skip))
 (.seq (.fgt [0, 1, 2, 3, 8, 9, 10, 11, 12, 13, 14, 15, 16, 17])
 (.seq
 (.reg none
 [m1 72 11, m1 73 15, m1 74 17, i1 75 (bi .mul) [.t 73, .t 74],
 i1 76 (bi .add) [.t 72, .t 75], m1 11 76])
 (.reg none [m1 77 12, m1 78 15, i1 79 (bi .add) [.t 77, .t 78], m1 12 79]))))))))
 (.seq (.fgt [0, 1, 2, 3, 8, 9, 10, 11, 12, 13, 14, 15, 16])
 (.reg none [m1 51 16, i1 52 (bi .add) [.t 51, k1 1], m1 16 52])))))))))))))
 (.seq (.fgt [0, 1, 2, 3, 8, 9, 10, 11, 12, 13]) (.reg none [m1 23 13, i1 24 (bi .add) [.t 23, k1 1], m1 13 24]))))))))
 (.seq (.fgt [3, 8, 9, 10, 11, 12])
 (.seq
 (.reg none
 [m1 80 11, m1 81 12, i1 82 (bi .sub) [.t 81, k1 1], m1 83 3,
 i1 84 (bi .mul) [.t 82, .t 83], i1 85 (bi .add) [.t 80, .t 84], m1 86 12, m1 8 85, m1 9 86,
 i1 10 .mv [k1 0]])
 .ret))))))
 [.tmp 8, .tmp 9, .tmp 10]
theorem code38_ok : F0 38 = some (.code code38) := by kernel_rfl
def code36 : CFn :=
 .mk
 (.seq (.reg none [i1 2 .mv [kf]])
 (.seq
 (.reg none
 [m1 3 0, i1 4 (bi .geq) [.t 3, k1 0], m1 5 4, g1 6 5 .mv [.t 0],
 g1 7 5 (bi .leq) [.t 6, k1 68719476736], i1 8 .pick [.t 5, .t 7, kf], m1 2 8])
 .ret))
 [.tmp 2]
theorem code36_ok : F0 36 = some (.code code36) := by kernel_rfl
def code61 : CFn :=
 .mk
 (.seq (.reg none [i1 1 (.box 41) [.t 0], i1 2 .mv [kf]])
 (.seq
 (.reg none
 [i1 3 (.fad 4) [.t 1], i1 4 ld [.t 3], i1 5 (.un .not) [.t 4], m1 6 5, g1 7 6 (.fad 0) [.t 1],
 g1 8 6 (.load (some 2)) [.t 7], g1 9 6 (.call false) [fp 40, .t 8], g1 10 6 .mv [.t 9], g0 11 10 (.fad 2) [.t 1],
 g0 12 10 (.load (some 2)) [.t 11], g0 13 10 (.call false) [fp 40, .t 12], g1 14 6 .pick [.t 10, kt, .t 13],
 i1 15 .pick [.t 6, .t 14, kf], m1 2 15])
 .ret))
 [.tmp 2]
theorem code61_ok : F0 61 = some (.code code61) := by kernel_rfl
def code27 : CFn :=
 .mk
 (.seq (.reg none [i1 2 .mv [kf]])
 (.seq
 (.seq (.reg none [m1 7 0, i1 8 .len [.t 7], i1 9 (bi .eql) [.t 8, k1 0]])
 (.cond (.t 9) (.seq (.reg none [i1 2 .mv [kt]]) .ret) .skip))
 (.seq (.fgt [0, 2])
 (.seq
 (.seq (.reg none [m1 10 0, i1 11 (.call false) [fp 55, .t 10, kf], i1 12 (.un .not) [.t 11]])
 (.cond (.t 12) (.seq (.reg none [i1 2 .mv [kf]]) .ret) .skip))
 (.seq (.fgt [0, 2])
 (.seq (.reg none [m1 13 0, i1 14 .len [.t 13], m1 3 14, i1 4 .mv [k1 0]])
 (.seq
 (.seq (.reg none [m1 15 0, i1 16 .len [.t 15], i1 17 .mv [k1 0]])
 (.block 0
 (.loop [0, 2, 3, 4, 15, 16, 17]
 (.seq (.reg none [i1 18 (bi .lss) [.t 17, .t 16]])
 (.seq (.cond (.t 18) .skip (.exit 0))
 (.seq (.fgt [0, 2, 3, 4, 15, 16, 17])
 (.seq
 (.block 1
 (.seq
 (.reg none
 [i1 19 (.iad 11) [.t 15, .t 17], i1 20 (.load (some 11)) [.t 19],
 .mk (some 6) none
 (.new 43
 [.d (.int .i64 (.ofNat 0)), .d .nilsl, .d (.int .i64 (.ofNat 0)), .d (.int .i64 (.ofNat 0)), .d (.int .i64 (.ofNat 0)), .d (.int .i64 (.ofNat 0)), .d (.bool false),
 .d (.int .i64 (.ofNat 0)), .d (.int .i64 (.ofNat 0)), .d (.int .i64 (.ofNat 0)), .d .nilsl])
 [],
 .mk none none (.storeT 11) [.t 6, .t 20]])
 (.seq
 (.seq (.reg none [i1 21 (.fad 0) [.t 6], i1 22 ld [.t 21], i1 23 (.call false) [fp 56, .t 22], i1 24 (.un .not) [.t 23]])
 (.cond (.t 24) (.exit 1) .skip))
 (.seq (.fgt [0, 2, 3, 4, 6, 15, 16, 17])
 (.seq
 (.seq (.reg none [i1 25 (.fad 0) [.t 6], i1 26 ld [.t 25], i1 27 (.call false) [fp 57, .t 26]])
 (.cond (.t 27) (.reg none [m1 28 4, i1 29 (bi .add) [.t 28, k1 1], m1 4 29]) .skip))
 (.seq (.fgt [0, 2, 3, 4, 6, 15, 16, 17])
 (.seq
 (.reg none
 [m1 30 3, i1 31 (.fad 10) [.t 6], i1 32 ld [.t 31], i1 33 .len [.t 32],
 i1 34 (bi .add) [.t 30, .t 33], m1 3 34])
 (.seq
 (.reg none
 [m1 35 3, i1 36 (bi .gtr) [.t 35, k1 256], m1 37 36,
 g0 38 37 (.fad 10) [.t 6], g0 39 37 ld [.t 38],
 g0 40 37 (.call false) [fp 55, .t 39, kt], g0 41 37 (.un .not) [.t 40],
 i1 42 .pick [.t 37, kt, .t 41]])
 (.cond (.t 42) (.seq (.reg none [i1 2 .mv [kf]]) .ret) .skip)))))))))
 (.seq (.fgt [0, 2, 3, 4, 15, 16, 17]) (.reg none [i1 43 (bi .add) [.t 17, k1 1], m1 17 43])))))))))
 (.seq (.fgt [0, 2, 4])
 (.seq
 (.reg none
 [m1 44 4, i1 45 (bi .leq) [.t 44, k1 1], m1 46 45, g1 47 46 .mv [.t 0],
 g1 48 46 (.call false) [fp 53, .t 47], g1 49 46 (.un .not) [.t 48], i1 50 .pick [.t 46, .t 49, kf],
 m1 2 50])
 .ret)))))))))
 [.tmp 2]
theorem code27_ok : F0 27 = some (.code code27) := by kernel_rfl
def code22 : CFn :=
 .mk
 (.seq (.reg none [i1 1 (.box 41) [.t 0], i1 2 .mv [kf]])
 (.seq
 (.seq (.reg none [i1 3 (.fad 4) [.t 1], i1 4 ld [.t 3]])
 (.cond (.t 4)
 (.seq
 (.reg (some [])
 [i1 5 (.load (some 7)) [.t 1], i1 6 (.fad 5) [.t 1], i1 7 (.load (some 2)) [.t 6], i1 8 (.call true) [fp 39, .t 7],
 i1 9 (.bin .eql (.cells 7 [(0, 1), (1, 1), (2, 1), (3, 1), (4, 0), (5, 1), (6, 1)])) [.t 5, .t 8], m1 10 9, g1 11 10 (.fad 5) [.t 1],
 g1 12 10 (.load (some 2)) [.t 11], g1 13 10 (.call true) [fp 40, .t 12], i1 14 .pick [.t 10, .t 13, kf],
 m1 15 14, g1 16 15 (.fad 5) [.t 1], g1 17 15 (.load (some 2)) [.t 16],
 g1 18 15 (.call true) [fp 41, .t 17, k1 1], i1 19 .pick [.t 15, .t 18, kf], m1 2 19])
 .ret)
 .skip))
 (.seq (.fgt [1, 2])
 (.seq
 (.reg none
 [i1 20 (.fad 5) [.t 1], i1 21 (.load (some 2)) [.t 20], i1 22 (.build [.d (.int .i64 (.ofNat 0)), .d (.int .i64 (.ofNat 0))] []) [],
 i1 23 (.bin .eql (.cells 2 [(0, 1), (1, 1)])) [.t 21, .t 22], m1 24 23, g1 25 24 (.fad 0) [.t 1], g1 26 24 (.load (some 2)) [.t 25],
 g1 27 24 (.call false) [fp 41, .t 26, k1 13], i1 28 .pick [.t 24, .t 27, kf], m1 29 28,
 g1 30 29 (.fad 2) [.t 1], g1 31 29 (.load (some 2)) [.t 30], g1 32 29 (.call false) [fp 41, .t 31, k1 29],
 i1 33 .pick [.t 29, .t 32, kf], m1 2 33])
 .ret))))
 [.tmp 2]
theorem code22_ok : F0 22 = some (.code code22) := by kernel_rfl
def code94 : CFn :=
 .mk (.seq (.reg none [i1 1 (.box 22) [.t 0], i1 2 .mv [.k (.d .nilf)]]) (.seq (.reg none [i1 3 (.mkf .drop 121 0) [.t 1], m1 2 3]) .ret)) [.tmp 2]
theorem code94_ok : F0 94 = some (.code code94) := by kernel_rfl
def code121 : CFn :=
 .mk
 (.seq (.reg none [i1 7 ld [.t 1], i1 8 .len [.t 7], i1 9 .mv [k1 0]])
 (.block 0
 (.loop [0, 7, 8, 9]
 (.seq (.reg none [i1 10 (bi .lss) [.t 9, .t 8]])
 (.seq (.cond (.t 10) .skip (.exit 0))
 (.seq (.fgt [0, 7, 8, 9])
 (.seq
 (.block 1
 (.seq
 (.reg none
 [i1 11 (.iad 11) [.t 7, .t 9], i1 12 (.load (some 11)) [.t 11],
 .mk (some 4) none
 (.new 43
 [.d (.int .i64 (.ofNat 0)), .d .nilsl, .d (.int .i64 (.ofNat 0)), .d (.int .i64 (.ofNat 0)), .d (.int .i64 (.ofNat 0)), .d (.int .i64 (.ofNat 0)), .d (.bool false),
 .d (.int .i64 (.ofNat 0)), .d (.int .i64 (.ofNat 0)), .d (.int .i64 (.ofNat 0)), .d .nilsl])
 [],
 .mk none none (.storeT 11) [.t 4, .t 12]])
 (.seq (.seq (.reg none [m1 13 0, i1 14 (.load (some 11)) [.t 4], i1 15 (.call false) [.t 13, .t 14], i1 16 (.un .not) [.t 15]]) (.cond (.t 16) .ret .skip))
 (.seq (.fgt [0, 4, 7, 8, 9])
 (.seq (.reg none [i1 17 (.fad 10) [.t 4], i1 18 ld [.t 17], i1 19 .len [.t 18], i1 20 .mv [k1 0]])
 (.block 2
 (.loop [0, 7, 8, 9, 18, 19, 20]
 (.seq (.reg none [i1 21 (bi .lss) [.t 20, .t 19]])
 (.seq (.cond (.t 21) .skip (.exit 2))
 (.seq (.fgt [0, 7, 8, 9, 18, 19, 20])
 (.seq
 (.block 3
 (.seq
 (.reg none
 [i1 22 (.iad 11) [.t 18, .t 20], i1 23 (.load (some 11)) [.t 22],
 .mk (some 6) none
 (.new 43
 [.d (.int .i64 (.ofNat 0)), .d .nilsl, .d (.int .i64 (.ofNat 0)), .d (.int .i64 (.ofNat 0)), .d (.int .i64 (.ofNat 0)), .d (.int .i64 (.ofNat 0)), .d (.bool false),
 .d (.int .i64 (.ofNat 0)), .d (.int .i64 (.ofNat 0)), .d (.int .i64 (.ofNat 0)), .d .nilsl])
 [],
 .mk none none (.storeT 11) [.t 6, .t 23]])
 (.seq (.reg none [m1 24 0, i1 25 (.load (some 11)) [.t 6], i1 26 (.call false) [.t 24, .t 25], i1 27 (.un .not) [.t 26]])
 (.cond (.t 27) .ret .skip))))
 (.seq (.fgt [0, 7, 8, 9, 18, 19, 20]) (.reg none [i1 28 (bi .add) [.t 20, k1 1], m1 20 28])))))))))))))
 (.seq (.fgt [0, 7, 8, 9]) (.reg none [i1 29 (bi .add) [.t 9, k1 1], m1 9 29])))))))))
 []
theorem code121_ok : F0 121 = some (.code code121) := by kernel_rfl
def code95 : CFn :=
 .mk
 (.seq (.reg none [i1 1 (.box 43) [.t 0], i1 2 .mv [kf]])
 (.seq
 (.seq (.reg none [i1 5 (.fad 0) [.t 1], i1 6 ld [.t 5]])
 (.block 0
 (.seq (.reg none [i1 8 (bi .eql) [.t 6, k1 1], m1 7 8])
 (.cond (.t 7)
 (.seq
 (.seq
 (.reg none
 [i1 9 (.fad 1) [.t 1], i1 10 ld [.t 9], i1 11 .len [.t 10], i1 12 (bi .lss) [.t 11, k1 1],
 m1 13 12, g0 14 13 (.fad 1) [.t 1], g0 15 13 ld [.t 14], g0 16 13 .len [.t 15],
 g0 17 13 (bi .gtr) [.t 16, k1 16], i1 18 .pick [.t 13, kt, .t 17], m1 19 18,
 g0 20 19 (.fad 10) [.t 1], g0 21 19 ld [.t 20], g0 22 19 .len [.t 21],
 g0 23 19 (bi .gtr) [.t 22, k1 0], i1 24 .pick [.t 19, kt, .t 23]])
 (.cond (.t 24) (.seq (.reg none [i1 2 .mv [kf]]) .ret) .skip))
 (.seq (.fgt [1, 2])
 (.seq
 (.seq (.reg none [i1 25 (.fad 1) [.t 1], i1 26 ld [.t 25], i1 27 .len [.t 26], i1 28 .mv [k1 0]])
 (.block 1
 (.loop [1, 2, 26, 27, 28]
 (.seq (.reg none [i1 29 (bi .lss) [.t 28, .t 27]])
 (.seq (.cond (.t 29) .skip (.exit 1))
 (.seq (.fgt [1, 2, 26, 27, 28])
 (.seq
 (.block 2
 (.seq (.reg none [i1 30 (.iad 1) [.t 26, .t 28], i1 31 ld [.t 30], m1 4 31])
 (.seq (.reg none [m1 32 4, i1 33 (.call false) [fp 117, .t 32], i1 34 (.un .not) [.t 33]])
 (.cond (.t 34) (.seq (.reg none [i1 2 .mv [kf]]) .ret) .skip))))
 (.seq (.fgt [1, 2, 26, 27, 28]) (.reg none [i1 35 (bi .add) [.t 28, k1 1], m1 28 35])))))))))
 (.seq (.fgt [1, 2])
 (.seq
 (.reg none
 [i1 36 (.fad 2) [.t 1], i1 37 (.load (some 7)) [.t 36],
 .mk (some 38) none
 (.build
 [.d (.int .i64 (.ofNat 0)), .d (.int .i64 (.ofNat 0)), .d (.int .i64 (.ofNat 0)), .d (.int .i64 (.ofNat 0)), .d (.bool false), .d (.int .i64 (.ofNat 0)), .d (.int .i64 (.ofNat 0))]
 [])
 [],
 i1 39 (.bin .eql (.cells 7 [(0, 1), (1, 1), (2, 1), (3, 1), (4, 0), (5, 1), (6, 1)])) [.t 37, .t 38], m1 40 39, g1 41 40 (.fad 9) [.t 1],
 g1 42 40 ld [.t 41], g1 43 40 (bi .eql) [.t 42, k1 0],
 i1 44 .pick [.t 40, .t 43, kf], m1 2 44])
 .ret)))))
 (.seq (.reg none [i1 46 (bi .eql) [.t 6, k1 2], m1 45 46])
 (.cond (.t 45)
 (.seq
 (.reg none
 [i1 47 (.fad 2) [.t 1], i1 48 (.load (some 7)) [.t 47], i1 49 (.call false) [fp 22, .t 48], m1 50 49,
 g1 51 50 (.fad 1) [.t 1], g1 52 50 ld [.t 51], g1 53 50 .len [.t 52], g1 54 50 (.fad 10) [.t 1],
 g1 55 50 ld [.t 54], g1 56 50 .len [.t 55], g1 57 50 (bi .add) [.t 53, .t 56],
 g1 58 50 (bi .eql) [.t 57, k1 0], i1 59 .pick [.t 50, .t 58, kf], m1 60 59,
 g1 61 60 (.fad 9) [.t 1], g1 62 60 ld [.t 61], g1 63 60 (bi .eql) [.t 62, k1 0],
 i1 64 .pick [.t 60, .t 63, kf], m1 2 64])
 .ret)
 (.seq (.reg none [i1 66 (bi .eql) [.t 6, k1 3], m1 65 66])
 (.cond (.t 65)
 (.seq
 (.reg none
 [i1 67 (.fad 9) [.t 1], i1 68 ld [.t 67], i1 69 (bi .geq) [.t 68, k1 1], m1 70 69,
 g1 71 70 (.fad 9) [.t 1], g1 72 70 ld [.t 71], g1 73 70 (bi .leq) [.t 72, k1 10000],
 i1 74 .pick [.t 70, .t 73, kf], m1 75 74, g1 76 75 (.fad 1) [.t 1], g1 77 75 ld [.t 76],
 g1 78 75 .len [.t 77], g1 79 75 (bi .eql) [.t 78, k1 0], i1 80 .pick [.t 75, .t 79, kf],
 m1 81 80, g1 82 81 (.fad 2) [.t 1], g1 83 81 (.load (some 7)) [.t 82],
 .mk (some 84) (some (81, true))
 (.build
 [.d (.int .i64 (.ofNat 0)), .d (.int .i64 (.ofNat 0)), .d (.int .i64 (.ofNat 0)), .d (.int .i64 (.ofNat 0)), .d (.bool false), .d (.int .i64 (.ofNat 0)), .d (.int .i64 (.ofNat 0))]
 [])
 [],
 g1 85 81 (.bin .eql (.cells 7 [(0, 1), (1, 1), (2, 1), (3, 1), (4, 0), (5, 1), (6, 1)])) [.t 83, .t 84], i1 86 .pick [.t 81, .t 85, kf], m1 2 86])
 .ret)
 .skip))))))))
 (.seq (.fgt [1, 2])
 (.seq
 (.reg none
 [i1 87 (.fad 0) [.t 1], i1 88 ld [.t 87], i1 89 (.call false) [fp 57, .t 88], m1 90 89, g1 91 90 (.fad 1) [.t 1],
 g1 92 90 ld [.t 91], g1 93 90 .len [.t 92], g1 94 90 (bi .eql) [.t 93, k1 0],
 i1 95 .pick [.t 90, .t 94, kf], m1 96 95, g1 97 96 (.fad 2) [.t 1], g1 98 96 (.load (some 7)) [.t 97],
 .mk (some 99) (some (96, true))
 (.build [.d (.int .i64 (.ofNat 0)), .d (.int .i64 (.ofNat 0)), .d (.int .i64 (.ofNat 0)), .d (.int .i64 (.ofNat 0)), .d (.bool false), .d (.int .i64 (.ofNat 0)), .d (.int .i64 (.ofNat 0))] [])
 [],
 g1 100 96 (.bin .eql (.cells 7 [(0, 1), (1, 1), (2, 1), (3, 1), (4, 0), (5, 1), (6, 1)])) [.t 98, .t 99], i1 101 .pick [.t 96, .t 100, kf], m1 102 101,
 g1 103 102 (.fad 9) [.t 1], g1 104 102 ld [.t 103], g1 105 102 (bi .eql) [.t 104, k1 0],
 i1 106 .pick [.t 102, .t 105, kf], m1 2 106])
 .ret))))
 [.tmp 2]
theorem code95_ok : F0 95 = some (.code code95) := by kernel_rfl
def code68 : CFn :=
 .mk
 (.seq (.reg none [i1 0 (.new 39 [.d (.int .i64 (.ofNat 0)), .d (.int .i64 (.ofNat 0))]) []])
 (.seq (.reg none [i1 1 (.build [.d (.int .i64 (.ofNat 0)), .d (.int .i64 (.ofNat 0))] [(0, 1)]) [k1 1], .mk none none (.storeT 2) [.t 0, .t 1]]) .ret))
 [.cell 0 (some 2)]
theorem code68_ok : F0 68 = some (.code code68) := by kernel_rfl
def code39 : CFn :=
 .mk
 (.seq
 (.reg none
 [i1 1 (.box 39) [.t 0],
 .mk (some 2) none
 (.new 41 [.d (.int .i64 (.ofNat 0)), .d (.int .i64 (.ofNat 0)), .d (.int .i64 (.ofNat 0)), .d (.int .i64 (.ofNat 0)), .d (.bool false), .d (.int .i64 (.ofNat 0)), .d (.int .i64 (.ofNat 0))]) []])
 (.seq
 (.reg (some [])
 [i1 3 (.call true) [fp 68], i1 4 (.build [.d (.int .i64 (.ofNat 0)), .d (.int .i64 (.ofNat 0))] [(0, 1)]) [k1 5],
 i1 5 (.load (some 2)) [.t 1],
 .mk (some 6) none
 (.build [.d (.int .i64 (.ofNat 0)), .d (.int .i64 (.ofNat 0)), .d (.int .i64 (.ofNat 0)), .d (.int .i64 (.ofNat 0)), .d (.bool false), .d (.int .i64 (.ofNat 0)), .d (.int .i64 (.ofNat 0))]
 [(0, 2), (2, 2), (4, 1), (5, 2)])
 [.t 3, .t 4, kt, .t 5],
 .mk none none (.store 7) [.t 2, .t 6]])
 .ret))
 [.cell 2 (some 7)]
theorem code39_ok : F0 39 = some (.code code39) := by kernel_rfl
def code57 : CFn :=
 .mk
 (.seq (.reg none [i1 2 .mv [kf]])
 (.seq
 (.reg none
 [m1 3 0, i1 4 (bi .eql) [.t 3, k1 4], m1 5 4, g0 6 5 .mv [.t 0],
 g0 7 5 (bi .eql) [.t 6, k1 5], i1 8 .pick [.t 5, kt, .t 7], m1 2 8])
 .ret))
 [.tmp 2]
theorem code57_ok : F0 57 = some (.code code57) := by kernel_rfl
def code40 : CFn :=
 .mk
 (.seq (.reg none [i1 1 (.box 39) [.t 0], i1 2 .mv [kf]])
 (.seq
 (.reg none
 [i1 3 (.fad 0) [.t 1], i1 4 ld [.t 3], i1 5 (bi .eql) [.t 4, k1 2], m1 6 5,
 g0 7 6 (.fad 0) [.t 1], g0 8 6 ld [.t 7], g0 9 6 (bi .eql) [.t 8, k1 3],
 i1 10 .pick [.t 6, kt, .t 9], m1 2 10])
 .ret))
 [.tmp 2]
theorem code40_ok : F0 40 = some (.code code40) := by kernel_rfl
def code56 : CFn :=
 .mk
 (.seq (.reg none [i1 2 .mv [kf]])
 (.seq
 (.reg none
 [m1 3 0, i1 4 (bi .eql) [.t 3, k1 3], m1 5 4, g0 6 5 .mv [.t 0],
 g0 7 5 (.call false) [fp 57, .t 6], i1 8 .pick [.t 5, kt, .t 7], m1 2 8])
 .ret))
 [.tmp 2]
theorem code56_ok : F0 56 = some (.code code56) := by kernel_rfl
def code55 : CFn :=
 .mk
 (.seq (.reg none [i1 4 .mv [kf]])
 (.seq (.reg none [i1 5 .mv [k1 0]])
 (.seq
 (.seq (.reg none [m1 8 0, i1 9 .len [.t 8], i1 10 .mv [k1 0]])
 (.block 0
 (.loop [0, 1, 4, 5, 8, 9, 10]
 (.seq (.reg none [i1 11 (bi .lss) [.t 10, .t 9]])
 (.seq (.cond (.t 11) .skip (.exit 0))
 (.seq (.fgt [0, 1, 4, 5, 8, 9, 10])
 (.seq
 (.block 1
 (.seq
 (.reg none
 [m1 12 10, i1 13 (.iad 11) [.t 8, .t 10], i1 14 (.load (some 11)) [.t 13],
 .mk (some 7) none
 (.new 43
 [.d (.int .i64 (.ofNat 0)), .d .nilsl, .d (.int .i64 (.ofNat 0)), .d (.int .i64 (.ofNat 0)), .d (.int .i64 (.ofNat 0)), .d (.int .i64 (.ofNat 0)), .d (.bool false),
 .d (.int .i64 (.ofNat 0)), .d (.int .i64 (.ofNat 0)), .d (.int .i64 (.ofNat 0)), .d .nilsl])
 [],
 m1 6 12, .mk none none (.storeT 11) [.t 7, .t 14]])
 (.seq
 (.seq
 (.reg none
 [i1 15 (.load (some 11)) [.t 7], i1 16 (.call false) [fp 95, .t 15], i1 17 (.un .not) [.t 16], m1 18 17,
 g0 19 18 .mv [.t 1], g0 20 18 .mv [.t 19], g1 21 20 (.fad 0) [.t 7], g1 22 20 ld [.t 21],
 g1 23 20 (.call false) [fp 56, .t 22], g0 24 18 .pick [.t 20, .t 23, kf],
 i1 25 .pick [.t 18, kt, .t 24], m1 26 25, g0 27 26 .mv [.t 6],
 g0 28 26 (bi .gtr) [.t 27, k1 0], g0 29 26 .mv [.t 28], g1 30 29 (.fad 0) [.t 7],
 g1 31 29 ld [.t 30], g1 32 29 (bi .eql) [.t 31, k1 1],
 g0 33 26 .pick [.t 29, .t 32, kf], g0 34 26 .mv [.t 33], g1 35 34 .mv [.t 0], g1 36 34 .mv [.t 6],
 g1 37 34 (bi .sub) [.t 36, k1 1], g1 38 34 (.iad 11) [.t 35, .t 37], g1 39 34 (.fad 0) [.t 38],
 g1 40 34 ld [.t 39], g1 41 34 (bi .eql) [.t 40, k1 1],
 g0 42 26 .pick [.t 34, .t 41, kf], i1 43 .pick [.t 26, kt, .t 42]])
 (.cond (.t 43) (.seq (.reg none [i1 4 .mv [kf]]) .ret) .skip))
 (.seq (.fgt [0, 1, 4, 5, 7, 8, 9, 10])
 (.seq (.reg none [i1 44 (.fad 0) [.t 7], i1 45 ld [.t 44], i1 46 (bi .neq) [.t 45, k1 1]])
 (.cond (.t 46) (.reg none [m1 47 5, i1 48 (bi .add) [.t 47, k1 1], m1 5 48]) .skip))))))
 (.seq (.fgt [0, 1, 4, 5, 8, 9, 10]) (.reg none [i1 49 (bi .add) [.t 10, k1 1], m1 10 49])))))))))
 (.seq (.fgt [0, 4, 5])
 (.seq
 (.reg none
 [m1 50 5, i1 51 (bi .gtr) [.t 50, k1 0], m1 52 51, g1 53 52 .mv [.t 0],
 g1 54 52 .len [.t 53], g1 55 52 (bi .leq) [.t 54, k1 256], i1 56 .pick [.t 52, .t 55, kf],
 m1 4 56])
 .ret)))))
 [.tmp 4]
theorem code55_ok : F0 55 = some (.code code55) := by kernel_rfl
def code53 : CFn :=
 .mk
 (.seq (.reg none [i1 2 .mv [kf]])
 (.seq (.reg none [i1 3 (.new 4 [.d (.bool false)]) [], i1 4 (.new 4 [.d (.bool false)]) [], .mk none none (.storeT 1) [.t 3, kf], .mk none none (.storeT 1) [.t 4, kt]])
 (.seq (.seq (.reg none [m1 6 0, i1 7 (.call false) [.k (.fn .opn 94 [] []), .t 6]]) (.block 0 (.rng 53 [3, 4] (.t 7))))
 (.seq (.fgt [2, 3, 4])
 (.seq
 (.reg none
 [i1 26 ld [.t 3], m1 27 26, g1 28 27 ld [.t 4], g1 29 27 (.un .not) [.t 28],
 i1 30 .pick [.t 27, .t 29, kf], m1 2 30])
 .ret)))))
 [.tmp 2]
theorem code53_ok : F0 53 = some (.code code53) := by kernel_rfl
def code62 : CFn :=
 .mk
 (.seq (.reg none [i1 3 (.box 39) [.t 0], i1 6 .mv [k1 0], i1 7 .mv [kf], i1 8 .mv [k1 0]])
 (.seq
 (.block 0
 (.seq
 (.reg none
 [i1 12 (.load (some 2)) [.t 3], i1 13 (.fad 1) [.t 3], i1 14 ld [.t 13],
 i1 15 (.build [.d (.int .i64 (.ofNat 0)), .d (.int .i64 (.ofNat 0))] [(0, 1), (1, 1)]) [k1 2, .t 14],
 i1 16 (.bin .eql (.cells 2 [(0, 1), (1, 1)])) [.t 12, .t 15], m1 11 16])
 (.cond (.t 11)
 (.seq
 (.reg none
 [i1 17 (.fad 1) [.t 3], i1 18 ld [.t 17], m1 6 18, i1 7 .mv [kt], i1 8 .mv [k1 0]])
 .ret)
 (.seq
 (.reg none
 [i1 20 (.fad 0) [.t 3], i1 21 ld [.t 20], i1 22 (bi .eql) [.t 21, k1 3], m1 23 22,
 g1 24 23 .mv [.t 2], i1 25 .pick [.t 23, .t 24, kf], m1 19 25])
 (.cond (.t 19)
 (.seq
 (.reg none
 [i1 27 (.fad 1) [.t 3], i1 28 ld [.t 27], m1 29 1, i1 30 (.call false) [fp 96, .t 28, .t 29], m1 26 30,
 i1 31 (.ext 0) [.t 26], i1 32 (.ext 1) [.t 26], m1 9 31, m1 10 32])
 (.seq
 (.reg none
 [m1 33 9, m1 34 10, i1 35 (bi .eql) [.t 34, k1 0], m1 36 10, m1 6 33,
 m1 7 35, m1 8 36])
 .ret))
 .skip)))))
 (.seq (.fgt [6, 7, 8]) (.seq (.reg none [i1 6 .mv [k1 0], i1 7 .mv [kf], i1 8 .mv [k1 0]]) .ret))))
 [.tmp 6, .tmp 7, .tmp 8]
theorem code62_ok : F0 62 = some (.code code62) := by kernel_rfl
def code14 : CFn :=
 .mk
 (.seq (.reg none [i1 2 .mv [.k (.d .nilsl)]])
 (.seq (.reg none [i1 3 .mv [k1 0]])
 (.seq
 (.seq (.reg none [m1 9 0, i1 10 .len [.t 9], i1 11 .mv [k1 0]])
 (.block 0
 (.loop [0, 2, 3, 9, 10, 11]
 (.seq (.reg none [i1 12 (bi .lss) [.t 11, .t 10]])
 (.seq (.cond (.t 12) .skip (.exit 0))
 (.seq (.fgt [0, 2, 3, 9, 10, 11])
 (.seq
 (.block 1
 (.seq (.reg none [i1 13 (.iad 1) [.t 9, .t 11], i1 14 ld [.t 13], m1 5 14])
 (.seq (.reg none [m1 15 3, m1 16 5, i1 17 .len [.t 16], i1 18 (bi .add) [.t 15, .t 17], m1 3 18])
 (.seq (.reg none [m1 19 3, i1 20 (bi .lss) [.t 19, k1 0]])
 (.cond (.t 20)
 (.reg none
 [i1 21 (.mki 9)
 [.k
 (.d
 (.str
 [.ofNat 108, .ofNat 101, .ofNat 110, .ofNat 32, .ofNat 111, .ofNat 117, .ofNat 116, .ofNat 32, .ofNat 111, .ofNat 102, .ofNat 32, .ofNat 114, .ofNat 97, .ofNat 110, .ofNat 103,
 .ofNat 101]))],
 .mk none none .panic [.t 21]])
 .skip)))))
 (.seq (.fgt [0, 2, 3, 9, 10, 11]) (.reg none [i1 22 (bi .add) [.t 11, k1 1], m1 11 22])))))))))
 (.seq (.fgt [0, 2, 3])
 (.seq (.reg none [m1 23 3, i1 24 (.call false) [.k (.fn .opn 34 [] []), .k (.d .nilsl), .t 23], m1 6 24])
 (.seq
 (.seq (.reg none [m1 25 0, i1 26 .len [.t 25], i1 27 .mv [k1 0]])
 (.block 2
 (.loop [2, 6, 25, 26, 27]
 (.seq (.reg none [i1 28 (bi .lss) [.t 27, .t 26]])
 (.seq (.cond (.t 28) .skip (.exit 2))
 (.seq (.fgt [2, 6, 25, 26, 27])
 (.seq
 (.block 3
 (.seq (.reg none [i1 29 (.iad 1) [.t 25, .t 27], i1 30 ld [.t 29], m1 8 30])
 (.reg none [m1 31 6, m1 32 8, i1 33 (.appT 9 1 16) [.t 31, .t 32], m1 6 33])))
 (.seq (.fgt [2, 6, 25, 26, 27]) (.reg none [i1 34 (bi .add) [.t 27, k1 1], m1 27 34])))))))))
 (.seq (.fgt [2, 6]) (.seq (.reg none [m1 35 6, m1 2 35]) .ret))))))))
 [.tmp 2]
theorem code14_ok : F0 14 = some (.code code14) := by kernel_rfl
def code29 : CFn :=
 .mk
 (.seq (.reg none [i1 4 .mv [kf]])
 (.seq
 (.reg none
 [m1 5 0, m1 6 1, i1 7 (.call false) [.k (.fn .drop 59 [] []), .t 5, .t 6], i1 8 (bi .geq) [.t 7, k1 0],
 m1 4 8])
 .ret))
 [.tmp 4]
theorem code29_ok : F0 29 = some (.code code29) := by kernel_rfl
def code23 : CFn :=
 .mk
 (.seq (.reg none [i1 4 .mv [kf]])
 (.seq
 (.reg none
 [m1 5 0, m1 6 1, i1 7 (.call false) [.k (.fn .drop 42 [] []), .t 5, .t 6], i1 8 (bi .geq) [.t 7, k1 0],
 m1 4 8])
 .ret))
 [.tmp 4]
theorem code23_ok : F0 23 = some (.code code23) := by kernel_rfl
def code34 : CFn :=
 .mk
 (.seq (.reg none [i1 4 .mv [.k (.d .nilsl)]])
 (.seq
 (.seq (.reg none [m1 5 1, i1 6 (bi .lss) [.t 5, k1 0]])
 (.cond (.t 6)
 (.reg none
 [i1 7 (.mki 9)
 [.k
 (.d
 (.str
 [.ofNat 99, .ofNat 97, .ofNat 110, .ofNat 110, .ofNat 111, .ofNat 116, .ofNat 32, .ofNat 98, .ofNat 101, .ofNat 32, .ofNat 110, .ofNat 101, .ofNat 103, .ofNat 97, .ofNat 116, .ofNat 105,
 .ofNat 118, .ofNat 101]))],
 .mk none none .panic [.t 7]])
 .skip))
 (.seq (.fgt [0, 1, 4])
 (.seq
 (.seq
 (.reg none
 [m1 8 1, m1 9 0, i1 10 .capn [.t 9], m1 11 0, i1 12 .len [.t 11], i1 13 (bi .sub) [.t 10, .t 12],
 i1 14 (bi .sub) [.t 8, .t 13], m1 1 14])
 (.seq (.reg none [m1 15 1, i1 16 (bi .gtr) [.t 15, k1 0]])
 (.cond (.t 16)
 (.reg none
 [m1 17 0, m1 18 0, i1 19 .capn [.t 18], i1 20 (.cutr 1 false true) [.t 17, .t 19], m1 21 1,
 i1 22 (.appZ 9 1 16 [.str []]) [.t 20, .t 21], m1 23 0, i1 24 .len [.t 23], i1 25 (.cutr 1 false true) [.t 22, .t 24], m1 0 25])
 .skip)))
 (.seq (.fgt [0, 4]) (.seq (.reg none [m1 26 0, m1 4 26]) .ret))))))
 [.tmp 4]
theorem code34_ok : F0 34 = some (.code code34) := by kernel_rfl
def code59 : CFn :=
 .mk
 (.seq (.reg none [i1 4 .mv [k1 0]])
 (.seq
 (.seq (.reg none [m1 6 0, i1 7 .len [.t 6], i1 8 .mv [k1 0]])
 (.block 0
 (.loop [0, 1, 4, 7, 8]
 (.seq (.reg none [i1 9 (bi .lss) [.t 8, .t 7]])
 (.seq (.cond (.t 9) .skip (.exit 0))
 (.seq (.fgt [0, 1, 4, 7, 8])
 (.seq
 (.block 1
 (.seq (.reg none [m1 10 8, m1 5 10])
 (.seq
 (.reg none
 [m1 11 1, m1 12 0, m1 13 5, i1 14 (.iad 11) [.t 12, .t 13], i1 15 (.load (some 11)) [.t 14],
 i1 16 (.call false) [.t 11, .t 15]])
 (.cond (.t 16) (.seq (.reg none [m1 17 5, m1 4 17]) .ret) .skip))))
 (.seq (.fgt [0, 1, 4, 7, 8]) (.reg none [i1 18 (bi .add) [.t 8, k1 1], m1 8 18])))))))))
 (.seq (.fgt [4]) (.seq (.reg none [i1 4 .mv [.k (.d (.int .i64 (.negSucc 0)))]]) .ret))))
 [.tmp 4]
theorem code59_ok : F0 59 = some (.code code59) := by kernel_rfl
def code42 : CFn :=
 .mk
 (.seq (.reg none [i1 4 .mv [k1 0]])
 (.seq
 (.seq (.reg none [m1 6 0, i1 7 .len [.t 6], i1 8 .mv [k1 0]])
 (.block 0
 (.loop [0, 1, 4, 7, 8]
 (.seq (.reg none [i1 9 (bi .lss) [.t 8, .t 7]])
 (.seq (.cond (.t 9) .skip (.exit 0))
 (.seq (.fgt [0, 1, 4, 7, 8])
 (.seq
 (.block 1
 (.seq (.reg none [m1 10 8, m1 5 10])
 (.seq
 (.reg none
 [m1 11 1, m1 12 0, m1 13 5, i1 14 (.iad 7) [.t 12, .t 13], i1 15 (.load (some 7)) [.t 14],
 i1 16 (.call false) [.t 11, .t 15]])
 (.cond (.t 16) (.seq (.reg none [m1 17 5, m1 4 17]) .ret) .skip))))
 (.seq (.fgt [0, 1, 4, 7, 8]) (.reg none [i1 18 (bi .add) [.t 8, k1 1], m1 8 18])))))))))
 (.seq (.fgt [4]) (.seq (.reg none [i1 4 .mv [.k (.d (.int .i64 (.negSucc 0)))]]) .ret))))
 [.tmp 4]
theorem code42_ok : F0 42 = some (.code code42) := by kernel_rfl
def round12 : RFn :=
 .mk [5, 8, 9, 10, 7, 11] [41, 42]
 (.seq
 (.reg none
 [.mk (some 12) none
 (.new 43
 [.d (.int .i64 (.ofNat 0)), .d .nilsl, .d (.int .i64 (.ofNat 0)), .d (.int .i64 (.ofNat 0)), .d (.int .i64 (.ofNat 0)), .d (.int .i64 (.ofNat 0)), .d (.bool false), .d (.int .i64 (.ofNat 0)),
 .d (.int .i64 (.ofNat 0)), .d (.int .i64 (.ofNat 0)), .d .nilsl])
 [],
 .mk none none (.storeT 11) [.t 12, .t 41]])
 (.reg none [m1 13 42]))
 (.block 2
 (.seq (.seq (.reg none [i1 43 (.fad 0) [.t 12], i1 44 ld [.t 43], i1 45 (bi .neq) [.t 44, k1 2]]) (.cond (.t 45) (.exit 2) .skip))
 (.seq (.fgt [5, 7, 8, 9, 10, 11, 12, 13])
 (.seq
 (.reg none
 [i1 47 (.fad 2) [.t 12], i1 48 (.load (some 7)) [.t 47], i1 49 ld [.t 5], i1 50 (.call false) [fp 32, .t 48, .t 49], m1 46 50,
 i1 51 (.ext 0) [.t 46], i1 52 (.ext 1) [.t 46], m1 14 51, m1 15 52])
 (.seq
 (.seq (.reg none [m1 53 15, i1 54 (bi .neq) [.t 53, k1 0]])
 (.cond (.t 54) (.seq (.reg none [m1 55 15, .mk none none (.storeT 1) [.t 8, k1 0], .mk none none (.storeT 1) [.t 9, .t 55]]) .ret) .skip))
 (.seq (.fgt [7, 10, 11, 13, 14])
 (.seq (.reg none [i1 16 .mv [k1 0]])
 (.seq
 (.seq (.reg none [m1 56 13, i1 57 (bi .eql) [.t 56, k1 0]])
 (.cond (.t 57) (.reg none [i1 16 .mv [k1 1], i1 13 .mv [k1 1]]) .skip))
 (.seq (.fgt [7, 10, 11, 13, 14, 16])
 (.seq
 (.reg (some [])
 [m1 58 16, i1 59 (.iadA 2 1) [.t 10, .t 58], i1 60 ld [.t 59], m1 61 13, m1 62 14,
 i1 63 ld [.t 7], i1 64 (bi .add) [.t 62, .t 63], i1 65 (bi .mul) [.t 61, .t 64],
 i1 66 (bi .add) [.t 60, .t 65], i1 67 (.iadA 2 1) [.t 10, .t 58], .mk none none (.store 1) [.t 67, .t 66]])
 (.reg none
 [m1 68 16, i1 69 (.iadA 2 1) [.t 11, .t 68], i1 70 ld [.t 69], m1 71 13, i1 72 (bi .add) [.t 70, .t 71],
 i1 73 (.iadA 2 1) [.t 11, .t 68], .mk none none (.storeT 1) [.t 73, .t 72]])))))))))))
theorem round12_ok : F0 (1048576 + 12) = some (.round round12) := by kernel_rfl
def round53 : RFn :=
 .mk [3, 4] [8]
 (.reg none
 [.mk (some 5) none
 (.new 43
 [.d (.int .i64 (.ofNat 0)), .d .nilsl, .d (.int .i64 (.ofNat 0)), .d (.int .i64 (.ofNat 0)), .d (.int .i64 (.ofNat 0)), .d (.int .i64 (.ofNat 0)), .d (.bool false), .d (.int .i64 (.ofNat 0)),
 .d (.int .i64 (.ofNat 0)), .d (.int .i64 (.ofNat 0)), .d .nilsl])
 [],
 .mk none none (.storeT 11) [.t 5, .t 8]])
 (.block 1
 (.seq
 (.reg none
 [i1 9 ld [.t 3], m1 10 9, g0 11 10 (.fad 0) [.t 5], g0 12 10 ld [.t 11],
 g0 13 10 (.call false) [fp 57, .t 12], i1 14 .pick [.t 10, kt, .t 13], .mk none none (.storeT 1) [.t 3, .t 14]])
 (.reg none
 [i1 15 ld [.t 4], m1 16 15, g1 17 16 (.fad 0) [.t 5], g1 18 16 ld [.t 17],
 g1 19 16 (bi .neq) [.t 18, k1 2], g1 20 16 .mv [.t 19], g0 21 20 (.fad 2) [.t 5],
 g0 22 20 (.load (some 7)) [.t 21], g0 23 20 (.call false) [fp 61, .t 22], g1 24 16 .pick [.t 20, kt, .t 23],
 i1 25 .pick [.t 16, .t 24, kf], .mk none none (.storeT 1) [.t 4, .t 25]])))
theorem round53_ok : F0 (1048576 + 53) = some (.round round53) := by kernel_rfl
end Go.Proofs.YtkljckbaenbjeaaGreatDoor.Ab
