/- The code of some functions, compiled (printed by a program for this seat; each is held against the compiler by the kernel). -/
import Derived.Test.YtjeblkicgmmhiaaGreatDoorAbCfg
namespace Go.Proofs.YtjeblkicgmmhiaaGreatDoor.Ab
open Go
set_option maxRecDepth 100000
def code44 : CFn :=
  .mk
  (.seq (.reg none [.mk (some 2) none .mv [.k (.d (.bool false))]])
  (.seq
  (.reg (some [])
  [.mk (some 7) none .mv [.t 0], .mk (some 8) none .nilck [.t 7], .mk (some 9) none (.fad 0) [.t 8], .mk (some 10) none (.load none) [.t 9], .mk (some 11) none .mv [.t 0], .mk (some 12) none .nilck [.t 11],
  .mk (some 13) none (.fad 1) [.t 12], .mk (some 14) none (.load none) [.t 13], .mk (some 15) none (.call true) [.k (.fn .pure 91 [] []), .t 10, .t 14, .k (.d (.int .i64 (.ofNat 29)))], .mk (some 6) none .mv [.t 15],
  .mk (some 16) none (.ext 0) [.t 6], .mk (some 17) none (.ext 1) [.t 6], .mk (some 18) none (.ext 2) [.t 6], .mk (some 3) none (.new 26 [.d (.int .i64 (.ofNat 0)), .d (.int .i64 (.ofNat 0))]) [],
  .mk none none (.store 2) [.t 3, .t 16], .mk (some 4) none .mv [.t 17], .mk (some 5) none .mv [.t 18]])
  (.seq
  (.reg none
  [.mk (some 19) none .mv [.t 5], .mk (some 20) none (.bin .eql (.nil 10)) [.t 19, .k (.d (.int .i64 (.ofNat 0)))], .mk (some 21) none .mv [.t 20], .mk (some 22) (some (21, false)) .mv [.t 0],
  .mk (some 23) (some (21, false)) (.call false) [.k (.fn .drop 77 [] []), .t 22, .k (.d (.str [.ofNat 109, .ofNat 105, .ofNat 110, .ofNat 109, .ofNat 97, .ofNat 120]))],
  .mk (some 24) none .pick [.t 21, .k (.d (.bool true)), .t 23], .mk (some 25) none .mv [.t 24], .mk (some 26) (some (25, false)) .mv [.t 0],
  .mk (some 27) (some (25, false)) (.call false)
  [.k (.fn .drop 77 [] []), .t 26, .k (.d (.str [.ofNat 102, .ofNat 105, .ofNat 116, .ofNat 45, .ofNat 99, .ofNat 111, .ofNat 110, .ofNat 116, .ofNat 101, .ofNat 110, .ofNat 116]))],
  .mk (some 28) none .pick [.t 25, .k (.d (.bool true)), .t 27], .mk (some 2) none .mv [.t 28]])
  .ret)))
  [.tmp 2]
theorem code44_ok : F0 44 = some (.code code44) := by kernel_rfl
def code45 : CFn :=
  .mk
  (.seq
  (.seq
  (.reg none
  [.mk (some 4) none .mv [.t 0], .mk (some 5) none .nilck [.t 4], .mk (some 6) none (.fad 2) [.t 5], .mk (some 7) none (.load none) [.t 6], .mk (some 8) none (.bin .geq (.nil 10)) [.t 7, .k (.d (.int .i64 (.ofNat 256)))]])
  (.cond (.t 8) (.reg none [.mk (some 9) none .mv [.t 0], .mk (some 10) none .mv [.t 1], .mk (some 11) none (.call false) [.k (.fn .drop 75 [] []), .t 9, .t 10, .k (.d (.int .i64 (.ofNat 52)))]]) .skip))
  (.seq (.fgt [0])
  (.reg none
  [.mk (some 12) none .mv [.t 0], .mk (some 13) none .nilck [.t 12], .mk (some 14) none (.fad 2) [.t 13], .mk (some 15) none (.load none) [.t 14],
  .mk (some 16) none (.bin .add (.nil 10)) [.t 15, .k (.d (.int .i64 (.ofNat 1)))], .mk (some 17) none .nilck [.t 12], .mk (some 18) none (.fad 2) [.t 17], .mk none none (.storeT 1) [.t 18, .t 16]])))
  []
theorem code45_ok : F0 45 = some (.code code45) := by kernel_rfl
def code75 : CFn :=
  .mk
  (.reg none
  [.mk (some 6) none .mv [.t 1], .mk (some 7) none .mv [.t 2], .mk (some 8) none (.build [.d (.int .i64 (.ofNat 0)), .d (.int .i64 (.ofNat 0))] [(0, 1), (1, 1)]) [.t 6, .t 7], .mk (some 9) none (.mki 119) [.t 8],
  .mk none none .panic [.t 9]])
  []
theorem code75_ok : F0 75 = some (.code code75) := by kernel_rfl
def code77 : CFn :=
  .mk
  (.seq (.reg none [.mk (some 4) none .mv [.k (.d (.bool false))]])
  (.seq
  (.seq
  (.reg (some [])
  [.mk (some 6) none .mv [.t 0], .mk (some 7) none .nilck [.t 6], .mk (some 8) none (.fad 1) [.t 7], .mk (some 9) none (.load none) [.t 8], .mk (some 10) none (.bin .lss (.nil 10)) [.t 9, .k (.d (.int .i64 (.ofNat 0)))],
  .mk (some 11) none .mv [.t 10], .mk (some 12) (some (11, false)) .mv [.t 0], .mk (some 13) (some (11, false)) .nilck [.t 12], .mk (some 14) (some (11, false)) (.fad 1) [.t 13], .mk (some 15) (some (11, false)) (.load none) [.t 14],
  .mk (some 16) (some (11, false)) .mv [.t 0], .mk (some 17) (some (11, false)) .nilck [.t 16], .mk (some 18) (some (11, false)) (.fad 0) [.t 17], .mk (some 19) (some (11, false)) (.load none) [.t 18],
  .mk (some 20) (some (11, false)) .len [.t 19], .mk (some 21) (some (11, false)) (.bin .geq (.nil 10)) [.t 15, .t 20], .mk (some 22) none .pick [.t 11, .k (.d (.bool true)), .t 21]])
  (.cond (.t 22) (.seq (.reg none [.mk (some 4) none .mv [.k (.d (.bool false))]]) .ret) .skip))
  (.seq (.fgt [0, 1, 4])
  (.seq
  (.reg (some [])
  [.mk (some 23) none .mv [.t 0], .mk (some 24) none .nilck [.t 23], .mk (some 25) none (.fad 0) [.t 24], .mk (some 26) none (.load none) [.t 25], .mk (some 27) none .mv [.t 0], .mk (some 28) none .nilck [.t 27],
  .mk (some 29) none (.fad 1) [.t 28], .mk (some 30) none (.load none) [.t 29], .mk (some 31) none (.iad 4) [.t 26, .t 30], .mk (some 32) none (.load (some 4)) [.t 31],
  .mk (some 5) none (.new 72 [.d (.int .i64 (.ofNat 0)), .d (.int .i64 (.ofNat 0)), .d (.str []), .d (.str [])]) [], .mk none none (.store 4) [.t 5, .t 32]])
  (.seq
  (.reg none
  [.mk (some 33) none (.fad 0) [.t 5], .mk (some 34) none (.load none) [.t 33], .mk (some 35) none (.bin .eql (.nil 10)) [.t 34, .k (.d (.int .i64 (.ofNat 2)))], .mk (some 36) none .mv [.t 35],
  .mk (some 37) (some (36, true)) (.fad 2) [.t 5], .mk (some 38) (some (36, true)) (.load none) [.t 37], .mk (some 39) (some (36, true)) .mv [.t 1], .mk (some 40) (some (36, true)) (.call false) [.k (.fn .pure 110 [] []), .t 38, .t 39],
  .mk (some 41) none .pick [.t 36, .t 40, .k (.d (.bool false))], .mk (some 4) none .mv [.t 41]])
  .ret)))))
  [.tmp 4]
theorem code77_ok : F0 77 = some (.code code77) := by kernel_rfl
def code78 : CFn :=
  .mk
  (.seq (.reg none [.mk (some 4) none (.new 26 [.d (.int .i64 (.ofNat 0)), .d (.int .i64 (.ofNat 0))]) []])
  (.seq
  (.reg (some [])
  [.mk (some 9) none .mv [.t 0], .mk (some 10) none .nilck [.t 9], .mk (some 11) none (.fad 0) [.t 10], .mk (some 12) none (.load none) [.t 11], .mk (some 13) none .mv [.t 0], .mk (some 14) none .nilck [.t 13],
  .mk (some 15) none (.fad 1) [.t 14], .mk (some 16) none (.load none) [.t 15], .mk (some 17) none .mv [.t 1], .mk (some 18) none (.call true) [.k (.fn .pure 91 [] []), .t 12, .t 16, .t 17], .mk (some 8) none .mv [.t 18],
  .mk (some 19) none (.ext 0) [.t 8], .mk (some 20) none (.ext 1) [.t 8], .mk (some 21) none (.ext 2) [.t 8], .mk (some 5) none (.new 26 [.d (.int .i64 (.ofNat 0)), .d (.int .i64 (.ofNat 0))]) [],
  .mk none none (.store 2) [.t 5, .t 19], .mk (some 6) none .mv [.t 20], .mk (some 7) none .mv [.t 21]])
  (.seq
  (.seq (.reg none [.mk (some 22) none .mv [.t 7], .mk (some 23) none (.bin .neq (.nil 10)) [.t 22, .k (.d (.int .i64 (.ofNat 0)))]])
  (.cond (.t 23) (.reg none [.mk (some 24) none .mv [.t 0], .mk (some 25) none .mv [.t 6], .mk (some 26) none .mv [.t 7], .mk (some 27) none (.call false) [.k (.fn .drop 75 [] []), .t 24, .t 25, .t 26]]) .skip))
  (.seq (.fgt [0, 4, 5, 6])
  (.seq (.reg none [.mk (some 28) none .mv [.t 0], .mk (some 29) none .mv [.t 6], .mk (some 30) none .nilck [.t 28], .mk (some 31) none (.fad 1) [.t 30], .mk none none (.storeT 1) [.t 31, .t 29]])
  (.seq (.reg none [.mk (some 32) none (.load (some 2)) [.t 5], .mk none none (.storeT 2) [.t 4, .t 32]]) .ret))))))
  [.cell 4 (some 2)]
theorem code78_ok : F0 78 = some (.code code78) := by kernel_rfl
def code41 : CFn :=
  .mk
  (.seq (.reg none [.mk (some 4) none .mv [.k (.d .nilsl)]])
  (.seq (.reg none [.mk (some 7) none .mv [.t 0], .mk (some 8) none .nilck [.t 7], .mk (some 9) none (.fad 1) [.t 8], .mk (some 10) none (.load none) [.t 9], .mk (some 5) none .mv [.t 10]])
  (.seq (.reg none [.mk (some 11) none .mv [.t 0], .mk (some 12) none (.call false) [.k (.fn .drop 79 [] []), .t 11, .k (.d (.str [.ofNat 91]))]])
  (.seq (.reg none [.mk (some 6) none .mv [.k (.d .nilsl)]])
  (.seq
  (.block 0
  (.loop [0, 1, 4, 5, 6]
  (.seq
  (.seq
  (.reg (some [])
  [.mk (some 13) none .mv [.t 0], .mk (some 14) none .nilck [.t 13], .mk (some 15) none (.fad 0) [.t 14], .mk (some 16) none (.load none) [.t 15], .mk (some 17) none .mv [.t 0], .mk (some 18) none .nilck [.t 17],
  .mk (some 19) none (.fad 1) [.t 18], .mk (some 20) none (.load none) [.t 19], .mk (some 21) none (.call true) [.k (.fn .pure 88 [] []), .t 16, .t 20, .k (.d (.str [.ofNat 93]))],
  .mk (some 22) none (.un .not) [.t 21]])
  (.cond (.t 22) .skip (.exit 0)))
  (.seq (.fgt [0, 1, 4, 5, 6])
  (.block 1
  (.seq
  (.seq
  (.reg (some [])
  [.mk (some 23) none .mv [.t 0], .mk (some 24) none .nilck [.t 23], .mk (some 25) none (.fad 1) [.t 24], .mk (some 26) none (.load none) [.t 25], .mk (some 27) none .mv [.t 0], .mk (some 28) none .nilck [.t 27],
  .mk (some 29) none (.fad 0) [.t 28], .mk (some 30) none (.load none) [.t 29], .mk (some 31) none .len [.t 30], .mk (some 32) none (.bin .geq (.nil 10)) [.t 26, .t 31], .mk (some 33) none .mv [.t 32],
  .mk (some 34) (some (33, false)) .mv [.t 0], .mk (some 35) (some (33, false)) .nilck [.t 34], .mk (some 36) (some (33, false)) (.fad 0) [.t 35], .mk (some 37) (some (33, false)) (.load none) [.t 36],
  .mk (some 38) (some (33, false)) .mv [.t 0], .mk (some 39) (some (33, false)) .nilck [.t 38], .mk (some 40) (some (33, false)) (.fad 1) [.t 39], .mk (some 41) (some (33, false)) (.load none) [.t 40],
  .mk (some 42) (some (33, false)) (.iad 4) [.t 37, .t 41], .mk (some 43) (some (33, false)) (.fad 0) [.t 42], .mk (some 44) (some (33, false)) (.load none) [.t 43],
  .mk (some 45) (some (33, false)) (.bin .neq (.nil 10)) [.t 44, .k (.d (.int .i64 (.ofNat 1)))], .mk (some 46) none .pick [.t 33, .k (.d (.bool true)), .t 45], .mk (some 47) none .mv [.t 46],
  .mk (some 48) (some (47, false)) .mv [.t 0], .mk (some 49) (some (47, false)) .nilck [.t 48], .mk (some 50) (some (47, false)) (.fad 0) [.t 49], .mk (some 51) (some (47, false)) (.load none) [.t 50],
  .mk (some 52) (some (47, false)) .mv [.t 0], .mk (some 53) (some (47, false)) .nilck [.t 52], .mk (some 54) (some (47, false)) (.fad 1) [.t 53], .mk (some 55) (some (47, false)) (.load none) [.t 54],
  .mk (some 56) (some (47, false)) (.iad 4) [.t 51, .t 55], .mk (some 57) (some (47, false)) (.fad 2) [.t 56], .mk (some 58) (some (47, false)) (.load none) [.t 57],
  .mk (some 59) (some (47, false)) (.call true) [.k (.fn .pure 89 [] []), .t 58], .mk (some 60) (some (47, false)) (.un .not) [.t 59], .mk (some 61) none .pick [.t 47, .k (.d (.bool true)), .t 60]])
  (.cond (.t 61)
  (.reg none
  [.mk (some 62) none .mv [.t 0], .mk (some 63) none .mv [.t 0], .mk (some 64) none .nilck [.t 63], .mk (some 65) none (.fad 1) [.t 64], .mk (some 66) none (.load none) [.t 65],
  .mk (some 67) none (.call false) [.k (.fn .drop 75 [] []), .t 62, .t 66, .k (.d (.int .i64 (.ofNat 50)))]])
  .skip))
  (.seq (.fgt [0, 1, 4, 5, 6])
  (.seq
  (.seq (.reg none [.mk (some 68) none .mv [.t 6], .mk (some 69) none .len [.t 68], .mk (some 70) none (.bin .geq (.nil 10)) [.t 69, .k (.d (.int .i64 (.ofNat 16)))]])
  (.cond (.t 70)
  (.reg none
  [.mk (some 71) none .mv [.t 0], .mk (some 72) none .mv [.t 0], .mk (some 73) none .nilck [.t 72], .mk (some 74) none (.fad 1) [.t 73], .mk (some 75) none (.load none) [.t 74],
  .mk (some 76) none (.call false) [.k (.fn .drop 75 [] []), .t 71, .t 75, .k (.d (.int .i64 (.ofNat 52)))]])
  .skip))
  (.seq (.fgt [0, 1, 4, 5, 6])
  (.seq
  (.reg (some [(80, 1, 77, 0), (84, 1, 77, 0)])
  [.mk (some 77) none .mv [.t 6], .mk (some 78) none .mv [.t 0], .mk (some 79) none .nilck [.t 78], .mk (some 80) none (.fad 0) [.t 79], .mk (some 81) none (.load none) [.t 80], .mk (some 82) none .mv [.t 0],
  .mk (some 83) none .nilck [.t 82], .mk (some 84) none (.fad 1) [.t 83], .mk (some 85) none (.load none) [.t 84], .mk (some 86) none (.iad 4) [.t 81, .t 85], .mk (some 87) none (.fad 2) [.t 86],
  .mk (some 88) none (.load none) [.t 87], .mk (some 89) none (.bsl 9 1 [.str []] 1 [0]) [.t 88], .mk (some 90) none (.app 9 1 16) [.t 77, .t 89], .mk (some 6) none .mv [.t 90]])
  (.reg none
  [.mk (some 91) none .mv [.t 0], .mk (some 92) none .nilck [.t 91], .mk (some 93) none (.fad 1) [.t 92], .mk (some 94) none (.load none) [.t 93],
  .mk (some 95) none (.bin .add (.nil 10)) [.t 94, .k (.d (.int .i64 (.ofNat 1)))], .mk (some 96) none .nilck [.t 91], .mk (some 97) none (.fad 1) [.t 96],
  .mk none none (.storeT 1) [.t 97, .t 95]])))))))))))
  (.seq (.fgt [0, 1, 4, 5, 6])
  (.seq
  (.reg none
  [.mk (some 98) none .mv [.t 0], .mk (some 99) none .nilck [.t 98], .mk (some 100) none (.fad 1) [.t 99], .mk (some 101) none (.load none) [.t 100],
  .mk (some 102) none (.bin .add (.nil 10)) [.t 101, .k (.d (.int .i64 (.ofNat 1)))], .mk (some 103) none .nilck [.t 98], .mk (some 104) none (.fad 1) [.t 103], .mk none none (.storeT 1) [.t 104, .t 102]])
  (.seq
  (.seq (.reg none [.mk (some 105) none .mv [.t 6], .mk (some 106) none .len [.t 105], .mk (some 107) none (.bin .eql (.nil 10)) [.t 106, .k (.d (.int .i64 (.ofNat 0)))]])
  (.cond (.t 107) (.seq (.reg none [.mk (some 108) none .mv [.t 1], .mk (some 4) none .mv [.t 108]]) .ret) .skip))
  (.seq (.fgt [0, 1, 4, 5, 6])
  (.seq (.reg none [.mk (some 109) none .mv [.t 0], .mk (some 110) none .mv [.t 5], .mk (some 111) none (.call false) [.k (.fn .drop 45 [] []), .t 109, .t 110]])
  (.seq
  (.reg none
  [.mk (some 112) none .mv [.t 1], .mk (some 113) none .mv [.t 6],
  .mk (some 114) none
  (.build
  [.d (.int .i64 (.ofNat 0)), .d .nilsl, .d (.int .i64 (.ofNat 0)), .d (.int .i64 (.ofNat 0)), .d (.int .i64 (.ofNat 0)), .d (.int .i64 (.ofNat 0)), .d (.bool false),
  .d (.int .i64 (.ofNat 0)), .d (.int .i64 (.ofNat 0)), .d (.int .i64 (.ofNat 0)), .d .nilsl]
  [(0, 1), (1, 1)])
  [.k (.d (.int .i64 (.ofNat 1))), .t 113],
  .mk (some 115) none
  (.bslT 69 11
  [.int .i64 (.ofNat 0), .nilsl, .int .i64 (.ofNat 0), .int .i64 (.ofNat 0), .int .i64 (.ofNat 0), .int .i64 (.ofNat 0), .bool false, .int .i64 (.ofNat 0), .int .i64 (.ofNat 0),
  .int .i64 (.ofNat 0), .nilsl]
  1 [0])
  [.t 114],
  .mk (some 116) none (.appT 69 11 120) [.t 112, .t 115], .mk (some 4) none .mv [.t 116]])
  .ret)))))))))))
  [.tmp 4]
theorem code41_ok : F0 41 = some (.code code41) := by kernel_rfl
def code79 : CFn :=
  .mk
  (.seq
  (.seq
  (.reg (some [])
  [.mk (some 4) none .mv [.t 0], .mk (some 5) none .nilck [.t 4], .mk (some 6) none (.fad 0) [.t 5], .mk (some 7) none (.load none) [.t 6], .mk (some 8) none .mv [.t 0], .mk (some 9) none .nilck [.t 8],
  .mk (some 10) none (.fad 1) [.t 9], .mk (some 11) none (.load none) [.t 10], .mk (some 12) none .mv [.t 1], .mk (some 13) none (.call true) [.k (.fn .pure 88 [] []), .t 7, .t 11, .t 12], .mk (some 14) none (.un .not) [.t 13]])
  (.cond (.t 14)
  (.reg none
  [.mk (some 15) none .mv [.t 0], .mk (some 16) none .mv [.t 0], .mk (some 17) none .nilck [.t 16], .mk (some 18) none (.fad 1) [.t 17], .mk (some 19) none (.load none) [.t 18],
  .mk (some 20) none (.call false) [.k (.fn .drop 75 [] []), .t 15, .t 19, .k (.d (.int .i64 (.ofNat 50)))]])
  .skip))
  (.seq (.fgt [0])
  (.reg none
  [.mk (some 21) none .mv [.t 0], .mk (some 22) none .nilck [.t 21], .mk (some 23) none (.fad 1) [.t 22], .mk (some 24) none (.load none) [.t 23],
  .mk (some 25) none (.bin .add (.nil 10)) [.t 24, .k (.d (.int .i64 (.ofNat 1)))], .mk (some 26) none .nilck [.t 21], .mk (some 27) none (.fad 1) [.t 26], .mk none none (.storeT 1) [.t 27, .t 25]])))
  []
theorem code79_ok : F0 79 = some (.code code79) := by kernel_rfl
def code35 : CFn :=
  .mk
  (.seq
  (.reg none
  [.mk (some 2) none
  (.new 28 [.d (.int .i64 (.ofNat 0)), .d (.int .i64 (.ofNat 0)), .d (.int .i64 (.ofNat 0)), .d (.int .i64 (.ofNat 0)), .d (.bool false), .d (.int .i64 (.ofNat 0)), .d (.int .i64 (.ofNat 0))]) []])
  (.seq
  (.block 0
  (.seq
  (.reg none
  [.mk (some 7) none .mv [.t 0],
  .mk (some 8) none (.call false)
  [.k (.fn .drop 77 [] []), .t 7, .k (.d (.str [.ofNat 102, .ofNat 105, .ofNat 116, .ofNat 45, .ofNat 99, .ofNat 111, .ofNat 110, .ofNat 116, .ofNat 101, .ofNat 110, .ofNat 116]))],
  .mk (some 6) none .mv [.t 8]])
  (.cond (.t 6)
  (.seq
  (.reg none
  [.mk (some 9) none .mv [.t 0], .mk (some 10) none .nilck [.t 9], .mk (some 11) none (.fad 1) [.t 10], .mk (some 12) none (.load none) [.t 11],
  .mk (some 13) none (.bin .add (.nil 10)) [.t 12, .k (.d (.int .i64 (.ofNat 1)))], .mk (some 14) none .nilck [.t 9], .mk (some 15) none (.fad 1) [.t 14], .mk none none (.storeT 1) [.t 15, .t 13]])
  (.seq
  (.reg none
  [.mk (some 16) none .mv [.t 0], .mk (some 17) none (.call false) [.k (.fn .drop 78 [] []), .t 16, .k (.d (.int .i64 (.ofNat 1)))],
  .mk (some 3) none (.new 26 [.d (.int .i64 (.ofNat 0)), .d (.int .i64 (.ofNat 0))]) [], .mk none none (.storeT 2) [.t 3, .t 17]])
  (.seq (.reg none [.mk (some 18) none .mv [.t 0], .mk (some 19) none (.call false) [.k (.fn .drop 79 [] []), .t 18, .k (.d (.str [.ofNat 41]))]])
  (.seq (.reg none [.mk (some 20) none (.load (some 2)) [.t 3], .mk (some 21) none (.call false) [.k (.fn .pure 80 [] []), .t 20], .mk none none (.storeT 7) [.t 2, .t 21]]) .ret))))
  (.seq
  (.reg none
  [.mk (some 23) none .mv [.t 0], .mk (some 24) none (.call false) [.k (.fn .drop 77 [] []), .t 23, .k (.d (.str [.ofNat 109, .ofNat 105, .ofNat 110, .ofNat 109, .ofNat 97, .ofNat 120]))],
  .mk (some 22) none .mv [.t 24]])
  (.cond (.t 22)
  (.seq
  (.reg none
  [.mk (some 25) none .mv [.t 0], .mk (some 26) none .nilck [.t 25], .mk (some 27) none (.fad 1) [.t 26], .mk (some 28) none (.load none) [.t 27],
  .mk (some 29) none (.bin .add (.nil 10)) [.t 28, .k (.d (.int .i64 (.ofNat 1)))], .mk (some 30) none .nilck [.t 25], .mk (some 31) none (.fad 1) [.t 30], .mk none none (.storeT 1) [.t 31, .t 29]])
  (.seq
  (.reg none
  [.mk (some 32) none .mv [.t 0], .mk (some 33) none (.call false) [.k (.fn .drop 78 [] []), .t 32, .k (.d (.int .i64 (.ofNat 13)))],
  .mk (some 4) none (.new 26 [.d (.int .i64 (.ofNat 0)), .d (.int .i64 (.ofNat 0))]) [], .mk none none (.storeT 2) [.t 4, .t 33]])
  (.seq (.reg none [.mk (some 34) none .mv [.t 0], .mk (some 35) none (.call false) [.k (.fn .drop 79 [] []), .t 34, .k (.d (.str [.ofNat 44]))]])
  (.seq
  (.reg none
  [.mk (some 36) none .mv [.t 0], .mk (some 37) none (.call false) [.k (.fn .drop 78 [] []), .t 36, .k (.d (.int .i64 (.ofNat 29)))],
  .mk (some 5) none (.new 26 [.d (.int .i64 (.ofNat 0)), .d (.int .i64 (.ofNat 0))]) [], .mk none none (.storeT 2) [.t 5, .t 37]])
  (.seq (.reg none [.mk (some 38) none .mv [.t 0], .mk (some 39) none (.call false) [.k (.fn .drop 79 [] []), .t 38, .k (.d (.str [.ofNat 41]))]])
  (.seq
  (.reg none
  [.mk (some 40) none (.load (some 2)) [.t 4], .mk (some 41) none (.load (some 2)) [.t 5],
  .mk (some 42) none
  (.build
  [.d (.int .i64 (.ofNat 0)), .d (.int .i64 (.ofNat 0)), .d (.int .i64 (.ofNat 0)), .d (.int .i64 (.ofNat 0)), .d (.bool false), .d (.int .i64 (.ofNat 0)),
  .d (.int .i64 (.ofNat 0))]
  [(0, 2), (2, 2)])
  [.t 40, .t 41],
  .mk none none (.storeT 7) [.t 2, .t 42]])
  .ret))))))
  .skip)))))
  (.seq (.fgt [0, 2])
  (.seq
  (.reg none
  [.mk (some 43) none .mv [.t 0], .mk (some 44) none (.call false) [.k (.fn .drop 78 [] []), .t 43, .k (.d (.int .i64 (.ofNat 29)))], .mk (some 45) none (.call false) [.k (.fn .pure 81 [] []), .t 44],
  .mk none none (.storeT 7) [.t 2, .t 45]])
  .ret))))
  [.cell 2 (some 7)]
theorem code35_ok : F0 35 = some (.code code35) := by kernel_rfl
def code195 : CFn :=
  .mk
  (.seq (.reg none [.mk (some 1) none (.box 192) [.t 0], .mk (some 2) none .mv [.k (.d (.int .i64 (.ofNat 0)))]])
  (.seq (.reg none [.mk (some 3) none .mv [.k (.d (.int .i64 (.ofNat 0)))]])
  (.seq
  (.seq (.reg none [.mk (some 5) none (.fad 3) [.t 1], .mk (some 6) none (.load none) [.t 5], .mk (some 7) none .lens [.t 6], .mk (some 8) none .mv [.k (.d (.int .i64 (.ofNat 0)))]])
  (.block 0
  (.loop [1, 2, 3, 7, 8]
  (.seq (.reg none [.mk (some 9) none (.bin .lss (.nil 10)) [.t 8, .t 7]])
  (.seq (.cond (.t 9) .skip (.exit 0))
  (.seq (.fgt [1, 2, 3, 7, 8])
  (.seq
  (.block 1
  (.seq (.reg none [.mk (some 10) none .mv [.t 8], .mk (some 4) none .mv [.t 10]])
  (.seq
  (.reg none
  [.mk (some 11) none (.fad 3) [.t 1], .mk (some 12) none (.load none) [.t 11], .mk (some 13) none .mv [.t 4], .mk (some 14) none .idxs [.t 12, .t 13],
  .mk (some 15) none (.call false) [.k (.fn .pure 203 [] []), .t 14]])
  (.cond (.t 15)
  (.reg none
  [.mk (some 16) none .mv [.t 3], .mk (some 17) none (.bin .mul (.nil 10)) [.k (.d (.int .i64 (.ofNat 10))), .t 16], .mk (some 18) none (.fad 3) [.t 1], .mk (some 19) none (.load none) [.t 18],
  .mk (some 20) none .mv [.t 4], .mk (some 21) none .idxs [.t 19, .t 20], .mk (some 22) none (.bin .sub (.nil 10)) [.t 21, .k (.d (.int .u8 (.ofNat 48)))], .mk (some 23) none (.cvi .i64) [.t 22],
  .mk (some 24) none (.bin .add (.nil 10)) [.t 17, .t 23], .mk (some 25) none .min [.k (.d (.int .i64 (.ofNat 1000))), .t 24], .mk (some 3) none .mv [.t 25]])
  .skip))))
  (.seq (.fgt [1, 2, 3, 7, 8]) (.reg none [.mk (some 26) none (.bin .add (.nil 10)) [.t 8, .k (.d (.int .i64 (.ofNat 1)))], .mk (some 8) none .mv [.t 26]])))))))))
  (.seq (.fgt [1, 2, 3])
  (.seq
  (.seq
  (.reg none
  [.mk (some 27) none (.fad 3) [.t 1], .mk (some 28) none (.load none) [.t 27], .mk (some 29) none (.bin .neq (.nil 10)) [.t 28, .k (.d (.str []))], .mk (some 30) none .mv [.t 29],
  .mk (some 31) (some (30, true)) (.fad 3) [.t 1], .mk (some 32) (some (30, true)) (.load none) [.t 31], .mk (some 33) (some (30, true)) .idxs [.t 32, .k (.d (.int .i64 (.ofNat 0)))],
  .mk (some 34) (some (30, true)) (.bin .eql (.nil 10)) [.t 33, .k (.d (.int .u8 (.ofNat 45)))], .mk (some 35) none .pick [.t 30, .t 34, .k (.d (.bool false))]])
  (.cond (.t 35) (.seq (.reg none [.mk (some 36) none .mv [.t 3], .mk (some 37) none (.un .neg) [.t 36], .mk (some 2) none .mv [.t 37]]) .ret) .skip))
  (.seq (.fgt [2, 3]) (.seq (.reg none [.mk (some 38) none .mv [.t 3], .mk (some 2) none .mv [.t 38]]) .ret)))))))
  [.tmp 2]
theorem code195_ok : F0 195 = some (.code code195) := by kernel_rfl
def code89 : CFn :=
  .mk
  (.seq (.reg none [.mk (some 2) none .mv [.k (.d (.bool false))]])
  (.seq
  (.seq (.reg none [.mk (some 3) none .mv [.t 0], .mk (some 4) none (.call false) [.k (.fn .pure 128 [] []), .t 3]])
  (.block 0
  (.seq
  (.seq (.reg none [.mk (some 6) none (.bin .eql (.nil 10)) [.t 4, .k (.d (.str [.ofNat 115, .ofNat 112, .ofNat 97, .ofNat 110]))], .mk (some 5) none .mv [.t 6]])
  (.cond (.t 5) .skip
  (.seq (.reg none [.mk (some 7) none (.bin .eql (.nil 10)) [.t 4, .k (.d (.str [.ofNat 97, .ofNat 117, .ofNat 116, .ofNat 111]))], .mk (some 5) none .mv [.t 7]])
  (.cond (.t 5) .skip
  (.seq (.reg none [.mk (some 8) none (.bin .eql (.nil 10)) [.t 4, .k (.d (.str [.ofNat 105, .ofNat 110, .ofNat 105, .ofNat 116, .ofNat 105, .ofNat 97, .ofNat 108]))], .mk (some 5) none .mv [.t 8]])
  (.cond (.t 5) .skip
  (.seq (.reg none [.mk (some 9) none (.bin .eql (.nil 10)) [.t 4, .k (.d (.str [.ofNat 105, .ofNat 110, .ofNat 104, .ofNat 101, .ofNat 114, .ofNat 105, .ofNat 116]))], .mk (some 5) none .mv [.t 9]])
  (.cond (.t 5) .skip
  (.seq (.reg none [.mk (some 10) none (.bin .eql (.nil 10)) [.t 4, .k (.d (.str [.ofNat 117, .ofNat 110, .ofNat 115, .ofNat 101, .ofNat 116]))], .mk (some 5) none .mv [.t 10]])
  (.cond (.t 5) .skip
  (.seq
  (.reg none [.mk (some 11) none (.bin .eql (.nil 10)) [.t 4, .k (.d (.str [.ofNat 100, .ofNat 101, .ofNat 102, .ofNat 97, .ofNat 117, .ofNat 108, .ofNat 116]))], .mk (some 5) none .mv [.t 11]])
  (.cond (.t 5) .skip
  (.reg none [.mk (some 12) none (.bin .eql (.nil 10)) [.t 4, .k (.d (.str [.ofNat 114, .ofNat 101, .ofNat 118, .ofNat 101, .ofNat 114, .ofNat 116]))], .mk (some 5) none .mv [.t 12]])))))))))))))
  (.seq (.fgt [0, 2, 5]) (.cond (.t 5) (.seq (.reg none [.mk (some 2) none .mv [.k (.d (.bool false))]]) .ret) .skip)))))
  (.seq (.fgt [0, 2]) (.seq (.reg none [.mk (some 13) none .mv [.t 0], .mk (some 14) none (.call false) [.k (.fn .pure 129 [] []), .t 13], .mk (some 2) none .mv [.t 14]]) .ret))))
  [.tmp 2]
theorem code89_ok : F0 89 = some (.code code89) := by kernel_rfl
def code129 : CFn :=
  .mk
  (.seq (.reg none [.mk (some 2) none .mv [.k (.d (.bool false))]])
  (.seq
  (.reg none
  [.mk (some 3) none .mv [.t 0], .mk (some 4) none (.bin .neq (.nil 10)) [.t 3, .k (.d (.str []))], .mk (some 5) none .mv [.t 4], .mk (some 6) (some (5, true)) .mv [.t 0], .mk (some 7) (some (5, true)) .lens [.t 6],
  .mk (some 8) (some (5, true)) (.bin .leq (.nil 10)) [.t 7, .k (.d (.int .i64 (.ofNat 64)))], .mk (some 9) none .pick [.t 5, .t 8, .k (.d (.bool false))], .mk (some 10) none .mv [.t 9],
  .mk (some 11) (some (10, true)) .mv [.t 0], .mk (some 12) (some (10, true)) (.call false) [.k (.fn .pure 154 [] []), .t 11, .k (.d (.int .u8 (.ofNat 0)))],
  .mk (some 13) (some (10, true)) (.bin .lss (.nil 10)) [.t 12, .k (.d (.int .i64 (.ofNat 0)))], .mk (some 14) none .pick [.t 10, .t 13, .k (.d (.bool false))], .mk (some 2) none .mv [.t 14]])
  .ret))
  [.tmp 2]
theorem code129_ok : F0 129 = some (.code code129) := by kernel_rfl
def code161 : CFn :=
  .mk
  (.seq (.reg none [.mk (some 4) none .mv [.k (.d (.int .i64 (.ofNat 0)))], .mk (some 5) none .mv [.k (.d (.int .i64 (.ofNat 0)))]])
  (.seq
  (.seq (.reg none [.mk (some 11) none .mv [.t 1], .mk (some 12) none (.call false) [.k (.fn .pure 193 [] []), .t 11], .mk (some 13) none (.un .not) [.t 12]])
  (.cond (.t 13) (.seq (.reg none [.mk (some 4) none .mv [.k (.d (.int .i64 (.ofNat 0)))], .mk (some 5) none .mv [.k (.d (.int .i64 (.ofNat 2)))]]) .ret) .skip))
  (.seq (.fgt [0, 1, 4, 5])
  (.seq
  (.reg none
  [.mk (some 14) none .mv [.t 0], .mk (some 15) none (.call false) [.k (.fn .pure 173 [] []), .t 14], .mk (some 6) none (.new 192 [.d (.bool false), .d (.str []), .d (.str []), .d (.str []), .d (.int .i64 (.ofNat 0))]) [],
  .mk none none (.storeT 5) [.t 6, .t 15]])
  (.seq
  (.seq
  (.reg none
  [.mk (some 16) none (.fad 4) [.t 6], .mk (some 17) none (.load none) [.t 16], .mk (some 18) none (.bin .eql (.nil 10)) [.t 17, .k (.d (.int .i64 (.ofNat 0)))], .mk (some 19) none .mv [.t 18],
  .mk (some 20) (some (19, false)) (.fad 4) [.t 6], .mk (some 21) (some (19, false)) (.load none) [.t 20], .mk (some 22) (some (19, false)) .mv [.t 0], .mk (some 23) (some (19, false)) .lens [.t 22],
  .mk (some 24) (some (19, false)) (.bin .neq (.nil 10)) [.t 21, .t 23], .mk (some 25) none .pick [.t 19, .k (.d (.bool true)), .t 24], .mk (some 26) none .mv [.t 25], .mk (some 27) (some (26, false)) .mv [.t 0],
  .mk (some 28) (some (26, false)) .lens [.t 27], .mk (some 29) (some (26, false)) (.bin .gtr (.nil 10)) [.t 28, .k (.d (.int .i64 (.ofNat 300)))], .mk (some 30) none .pick [.t 26, .k (.d (.bool true)), .t 29]])
  (.cond (.t 30) (.seq (.reg none [.mk (some 4) none .mv [.k (.d (.int .i64 (.ofNat 0)))], .mk (some 5) none .mv [.k (.d (.int .i64 (.ofNat 21)))]]) .ret) .skip))
  (.seq (.fgt [1, 4, 5, 6])
  (.seq
  (.reg none
  [.mk (some 31) none (.fad 1) [.t 6], .mk (some 32) none (.load none) [.t 31], .mk (some 33) none (.fad 2) [.t 6], .mk (some 34) none (.load none) [.t 33], .mk (some 35) none (.bin .add (.nil 10)) [.t 32, .t 34],
  .mk (some 36) none (.s2b 5) [.t 35], .mk (some 7) none .mv [.t 36]])
  (.seq
  (.seq (.reg none [.mk (some 37) none .mv [.t 7], .mk (some 38) none .len [.t 37], .mk (some 39) none .mv [.k (.d (.int .i64 (.ofNat 0)))]])
  (.block 0
  (.loop [1, 4, 5, 6, 7, 38, 39]
  (.seq (.reg none [.mk (some 40) none (.bin .lss (.nil 10)) [.t 39, .t 38]])
  (.seq (.cond (.t 40) .skip (.exit 0))
  (.seq (.fgt [1, 4, 5, 6, 7, 38, 39])
  (.seq
  (.block 1
  (.seq (.reg none [.mk (some 41) none .mv [.t 39], .mk (some 8) none .mv [.t 41]])
  (.reg none
  [.mk (some 42) none .mv [.t 7], .mk (some 43) none .mv [.t 8], .mk (some 44) none (.iad 1) [.t 42, .t 43], .mk (some 45) none (.load none) [.t 44],
  .mk (some 46) none (.bin .sub (.nil 10)) [.t 45, .k (.d (.int .u8 (.ofNat 48)))], .mk (some 47) none (.iad 1) [.t 42, .t 43], .mk none none (.storeT 1) [.t 47, .t 46]])))
  (.seq (.fgt [1, 4, 5, 6, 7, 38, 39]) (.reg none [.mk (some 48) none (.bin .add (.nil 10)) [.t 39, .k (.d (.int .i64 (.ofNat 1)))], .mk (some 39) none .mv [.t 48]])))))))))
  (.seq (.fgt [1, 4, 5, 6, 7])
  (.seq
  (.reg (some [])
  [.mk (some 50) none .mv [.t 7], .mk (some 51) none (.fad 1) [.t 6], .mk (some 52) none (.load none) [.t 51], .mk (some 53) none .lens [.t 52], .mk (some 54) none (.load (some 5)) [.t 6],
  .mk (some 55) none (.call true) [.k (.fn .pure 195 [] []), .t 54], .mk (some 56) none (.bin .add (.nil 10)) [.t 53, .t 55], .mk (some 57) none .mv [.t 1],
  .mk (some 58) none (.call true) [.k (.fn .pure 194 [] []), .t 50, .t 56, .t 57], .mk (some 49) none .mv [.t 58], .mk (some 59) none (.ext 0) [.t 49], .mk (some 60) none (.ext 1) [.t 49],
  .mk (some 9) none .mv [.t 59], .mk (some 10) none .mv [.t 60]])
  (.seq
  (.seq (.reg none [.mk (some 61) none .mv [.t 10], .mk (some 62) none (.un .not) [.t 61]])
  (.cond (.t 62) (.seq (.reg none [.mk (some 4) none .mv [.k (.d (.int .i64 (.ofNat 0)))], .mk (some 5) none .mv [.k (.d (.int .i64 (.ofNat 10)))]]) .ret) .skip))
  (.seq (.fgt [4, 5, 6, 9])
  (.seq
  (.seq (.reg none [.mk (some 63) none (.fad 0) [.t 6], .mk (some 64) none (.load none) [.t 63]])
  (.cond (.t 64) (.seq (.reg none [.mk (some 65) none .mv [.t 9], .mk (some 66) none (.un .neg) [.t 65], .mk (some 4) none .mv [.t 66], .mk (some 5) none .mv [.k (.d (.int .i64 (.ofNat 0)))]]) .ret)
  .skip))
  (.seq (.fgt [4, 5, 9]) (.seq (.reg none [.mk (some 67) none .mv [.t 9], .mk (some 4) none .mv [.t 67], .mk (some 5) none .mv [.k (.d (.int .i64 (.ofNat 0)))]]) .ret)))))))))))))))
  [.tmp 4, .tmp 5]
theorem code161_ok : F0 161 = some (.code code161) := by kernel_rfl
def code194 : CFn :=
  .mk
  (.seq (.reg none [.mk (some 6) none .mv [.k (.d (.int .i64 (.ofNat 0)))], .mk (some 7) none .mv [.k (.d (.bool false))]])
  (.seq
  (.block 0
  (.loop [0, 1, 2, 6, 7]
  (.seq
  (.seq
  (.reg none
  [.mk (some 15) none .mv [.t 0], .mk (some 16) none .len [.t 15], .mk (some 17) none (.bin .gtr (.nil 10)) [.t 16, .k (.d (.int .i64 (.ofNat 0)))], .mk (some 18) none .mv [.t 17],
  .mk (some 19) (some (18, true)) .mv [.t 0], .mk (some 20) (some (18, true)) (.iad 1) [.t 19, .k (.d (.int .i64 (.ofNat 0)))], .mk (some 21) (some (18, true)) (.load none) [.t 20],
  .mk (some 22) (some (18, true)) (.bin .eql (.nil 10)) [.t 21, .k (.d (.int .u8 (.ofNat 0)))], .mk (some 23) none .pick [.t 18, .t 22, .k (.d (.bool false))]])
  (.cond (.t 23) .skip (.exit 0)))
  (.seq (.fgt [0, 1, 2, 6, 7])
  (.block 1
  (.seq (.reg none [.mk (some 24) none .mv [.t 0], .mk (some 25) none (.cutr 1 true false) [.t 24, .k (.d (.int .i64 (.ofNat 1)))], .mk (some 0) none .mv [.t 25]])
  (.reg none [.mk (some 26) none .mv [.t 1], .mk (some 27) none (.bin .sub (.nil 10)) [.t 26, .k (.d (.int .i64 (.ofNat 1)))], .mk (some 1) none .mv [.t 27]])))))))
  (.seq (.fgt [0, 1, 2, 6, 7])
  (.seq
  (.block 2
  (.seq
  (.reg none
  [.mk (some 29) none .mv [.t 0], .mk (some 30) none .len [.t 29], .mk (some 31) none (.bin .eql (.nil 10)) [.t 30, .k (.d (.int .i64 (.ofNat 0)))], .mk (some 32) none .mv [.t 31],
  .mk (some 33) (some (32, false)) .mv [.t 1], .mk (some 34) (some (32, false)) (.bin .lss (.nil 10)) [.t 33, .k (.d (.int .i64 (.negSucc 4)))], .mk (some 35) none .pick [.t 32, .k (.d (.bool true)), .t 34],
  .mk (some 28) none .mv [.t 35]])
  (.cond (.t 28) (.seq (.reg none [.mk (some 6) none .mv [.k (.d (.int .i64 (.ofNat 0)))], .mk (some 7) none .mv [.k (.d (.bool true))]]) .ret)
  (.seq (.reg none [.mk (some 37) none .mv [.t 1], .mk (some 38) none (.bin .gtr (.nil 10)) [.t 37, .k (.d (.int .i64 (.ofNat 13)))], .mk (some 36) none .mv [.t 38]])
  (.cond (.t 36) (.seq (.reg none [.mk (some 6) none .mv [.k (.d (.int .i64 (.ofNat 0)))], .mk (some 7) none .mv [.k (.d (.bool false))]]) .ret) .skip)))))
  (.seq (.fgt [0, 1, 2, 6, 7])
  (.seq (.reg none [.mk (some 8) none .mv [.k (.d (.int .i64 (.ofNat 0)))]])
  (.seq
  (.seq (.reg none [.mk (some 39) none .mv [.t 1], .mk (some 40) none .max [.k (.d (.int .i64 (.ofNat 0))), .t 39], .mk (some 41) none .mv [.k (.d (.int .i64 (.ofNat 0)))]])
  (.block 3
  (.loop [0, 1, 2, 6, 7, 8, 40, 41]
  (.seq (.reg none [.mk (some 42) none (.bin .lss (.nil 10)) [.t 41, .t 40]])
  (.seq (.cond (.t 42) .skip (.exit 3))
  (.seq (.fgt [0, 1, 2, 6, 7, 8, 40, 41])
  (.seq
  (.block 4
  (.seq (.reg none [.mk (some 43) none .mv [.t 41], .mk (some 9) none .mv [.t 43]])
  (.seq (.reg none [.mk (some 44) none .mv [.t 8], .mk (some 45) none (.bin .mul (.nil 10)) [.t 44, .k (.d (.int .i64 (.ofNat 10)))], .mk (some 8) none .mv [.t 45]])
  (.seq (.reg none [.mk (some 46) none .mv [.t 9], .mk (some 47) none .mv [.t 0], .mk (some 48) none .len [.t 47], .mk (some 49) none (.bin .lss (.nil 10)) [.t 46, .t 48]])
  (.cond (.t 49)
  (.reg none
  [.mk (some 50) none .mv [.t 8], .mk (some 51) none .mv [.t 0], .mk (some 52) none .mv [.t 9], .mk (some 53) none (.iad 1) [.t 51, .t 52], .mk (some 54) none (.load none) [.t 53],
  .mk (some 55) none (.cvi .i64) [.t 54], .mk (some 56) none (.bin .add (.nil 10)) [.t 50, .t 55], .mk (some 8) none .mv [.t 56]])
  .skip)))))
  (.seq (.fgt [0, 1, 2, 6, 7, 8, 40, 41]) (.reg none [.mk (some 57) none (.bin .add (.nil 10)) [.t 41, .k (.d (.int .i64 (.ofNat 1)))], .mk (some 41) none .mv [.t 57]])))))))))
  (.seq (.fgt [0, 1, 2, 6, 7, 8])
  (.seq (.reg none [.mk (some 10) none .mv [.k (.d .nilsl)]])
  (.seq
  (.seq
  (.reg none
  [.mk (some 58) none .mv [.t 1], .mk (some 59) none (.un .neg) [.t 58], .mk (some 60) none .max [.k (.d (.int .i64 (.ofNat 0))), .t 59], .mk (some 61) none .mv [.k (.d (.int .i64 (.ofNat 0)))]])
  (.block 5
  (.loop [0, 1, 2, 6, 7, 8, 10, 60, 61]
  (.seq (.reg none [.mk (some 62) none (.bin .lss (.nil 10)) [.t 61, .t 60]])
  (.seq (.cond (.t 62) .skip (.exit 5))
  (.seq (.fgt [0, 1, 2, 6, 7, 8, 10, 60, 61])
  (.seq
  (.block 6
  (.reg none
  [.mk (some 63) none .mv [.t 10], .mk (some 64) none (.bslT 5 1 [.int .u8 (.ofNat 0)] 1 [0]) [.k (.d (.int .u8 (.ofNat 0)))], .mk (some 65) none (.appT 5 1 1) [.t 63, .t 64],
  .mk (some 10) none .mv [.t 65]]))
  (.seq (.fgt [0, 1, 2, 6, 7, 8, 10, 60, 61]) (.reg none [.mk (some 66) none (.bin .add (.nil 10)) [.t 61, .k (.d (.int .i64 (.ofNat 1)))], .mk (some 61) none .mv [.t 66]])))))))))
  (.seq (.fgt [0, 1, 2, 6, 7, 8, 10])
  (.seq
  (.reg none
  [.mk (some 67) none .mv [.t 10], .mk (some 68) none .mv [.t 0], .mk (some 69) none .mv [.t 0], .mk (some 70) none .len [.t 69], .mk (some 71) none .mv [.t 1],
  .mk (some 72) none .max [.k (.d (.int .i64 (.ofNat 0))), .t 71], .mk (some 73) none .min [.t 70, .t 72], .mk (some 74) none (.cutr 1 true false) [.t 68, .t 73],
  .mk (some 75) none (.appT 5 1 1) [.t 67, .t 74], .mk (some 10) none .mv [.t 75]])
  (.seq (.reg none [.mk (some 11) none .mv [.k (.d (.int .i64 (.ofNat 0)))]])
  (.seq
  (.seq (.reg none [.mk (some 76) none .mv [.t 10], .mk (some 77) none .len [.t 76], .mk (some 78) none (.bin .sub (.nil 10)) [.t 77, .k (.d (.int .i64 (.ofNat 1)))], .mk (some 12) none .mv [.t 78]])
  (.block 7
  (.loop [2, 6, 7, 8, 10, 11, 12]
  (.seq (.seq (.reg none [.mk (some 79) none .mv [.t 12], .mk (some 80) none (.bin .geq (.nil 10)) [.t 79, .k (.d (.int .i64 (.ofNat 0)))]]) (.cond (.t 80) .skip (.exit 7)))
  (.seq (.fgt [2, 6, 7, 8, 10, 11, 12])
  (.seq
  (.block 8
  (.seq
  (.reg none
  [.mk (some 83) none .mv [.t 10], .mk (some 84) none .mv [.t 12], .mk (some 85) none (.iad 1) [.t 83, .t 84], .mk (some 86) none (.load none) [.t 85], .mk (some 87) none (.cvi .i64) [.t 86],
  .mk (some 88) none .mv [.t 2], .mk (some 89) none (.bin .mul (.nil 10)) [.t 87, .t 88], .mk (some 90) none .mv [.t 11], .mk (some 91) none (.bin .add (.nil 10)) [.t 89, .t 90],
  .mk (some 13) none .mv [.t 91]])
  (.reg none
  [.mk (some 92) none .mv [.t 10], .mk (some 93) none .mv [.t 12], .mk (some 94) none .mv [.t 13], .mk (some 95) none (.bin .rem (.nil 10)) [.t 94, .k (.d (.int .i64 (.ofNat 10)))],
  .mk (some 96) none (.cvi .u8) [.t 95], .mk (some 97) none .mv [.t 13], .mk (some 98) none (.bin .quo (.nil 10)) [.t 97, .k (.d (.int .i64 (.ofNat 10)))],
  .mk (some 99) none (.iad 1) [.t 92, .t 93], .mk none none (.storeT 1) [.t 99, .t 96], .mk (some 11) none .mv [.t 98]])))
  (.seq (.fgt [2, 6, 7, 8, 10, 11, 12])
  (.reg none [.mk (some 81) none .mv [.t 12], .mk (some 82) none (.bin .sub (.nil 10)) [.t 81, .k (.d (.int .i64 (.ofNat 1)))], .mk (some 12) none .mv [.t 82]]))))))))
  (.seq (.fgt [2, 6, 7, 8, 10, 11])
  (.seq
  (.reg none
  [.mk (some 100) none .mv [.t 8], .mk (some 101) none .mv [.t 2], .mk (some 102) none (.bin .mul (.nil 10)) [.t 100, .t 101], .mk (some 103) none .mv [.t 11],
  .mk (some 104) none (.bin .add (.nil 10)) [.t 102, .t 103], .mk (some 14) none .mv [.t 104]])
  (.seq
  (.seq
  (.reg none
  [.mk (some 105) none .mv [.t 10], .mk (some 106) none .len [.t 105], .mk (some 107) none (.bin .gtr (.nil 10)) [.t 106, .k (.d (.int .i64 (.ofNat 0)))], .mk (some 108) none .mv [.t 107],
  .mk (some 109) (some (108, true)) .mv [.t 10], .mk (some 110) (some (108, true)) (.iad 1) [.t 109, .k (.d (.int .i64 (.ofNat 0)))], .mk (some 111) (some (108, true)) (.load none) [.t 110],
  .mk (some 112) (some (108, true)) (.bin .geq (.nil 10)) [.t 111, .k (.d (.int .u8 (.ofNat 5)))], .mk (some 113) none .pick [.t 108, .t 112, .k (.d (.bool false))]])
  (.cond (.t 113) (.reg none [.mk (some 114) none .mv [.t 14], .mk (some 115) none (.bin .add (.nil 10)) [.t 114, .k (.d (.int .i64 (.ofNat 1)))], .mk (some 14) none .mv [.t 115]]) .skip))
  (.seq (.fgt [6, 7, 14])
  (.seq
  (.reg none
  [.mk (some 116) none .mv [.t 14], .mk (some 117) none .mv [.t 14], .mk (some 118) none (.bin .leq (.nil 10)) [.t 117, .k (.d (.int .i64 (.ofNat 68719476736)))], .mk (some 6) none .mv [.t 116],
  .mk (some 7) none .mv [.t 118]])
  .ret)))))))))))))))))))
  [.tmp 6, .tmp 7]
theorem code194_ok : F0 194 = some (.code code194) := by kernel_rfl
def code3 : CFn :=
  .mk
  (.seq (.reg none [.mk (some 4) none .mv [.k (.d (.bool false))]])
  (.seq
  (.seq (.reg none [.mk (some 24) none .mv [.t 0], .mk (some 25) none (.call false) [.k (.fn .pure 9 [] []), .t 24], .mk (some 26) none (.un .not) [.t 25]])
  (.cond (.t 26) (.seq (.reg none [.mk (some 27) none (.call false) [.k (.fn .pure 10 [] [])], .mk (some 4) none .mv [.t 27]]) .ret) .skip))
  (.seq (.fgt [0, 1, 4])
  (.seq
  (.reg none
  [.mk (some 29) none .mv [.t 0], .mk (some 30) none .mv [.t 1], .mk (some 31) none (.call false) [.k (.fn .pure 11 [] []), .t 29, .t 30], .mk (some 28) none .mv [.t 31], .mk (some 32) none (.ext 0) [.t 28],
  .mk (some 33) none (.ext 1) [.t 28], .mk (some 34) none (.ext 2) [.t 28],
  .mk (some 5) none
  (.new 28 [.d (.int .i64 (.ofNat 0)), .d (.int .i64 (.ofNat 0)), .d (.int .i64 (.ofNat 0)), .d (.int .i64 (.ofNat 0)), .d (.bool false), .d (.int .i64 (.ofNat 0)), .d (.int .i64 (.ofNat 0))])
  [],
  .mk none none (.storeT 7) [.t 5, .t 32], .mk (some 6) none .mv [.t 33], .mk (some 7) none .mv [.t 34]])
  (.seq
  (.reg none
  [.mk (some 36) none .mv [.t 0], .mk (some 37) none .mv [.t 1], .mk (some 38) none (.call false) [.k (.fn .pure 12 [] []), .t 36, .t 37], .mk (some 35) none .mv [.t 38], .mk (some 39) none (.ext 0) [.t 35],
  .mk (some 40) none (.ext 1) [.t 35], .mk (some 41) none (.ext 2) [.t 35],
  .mk (some 8) none
  (.new 28 [.d (.int .i64 (.ofNat 0)), .d (.int .i64 (.ofNat 0)), .d (.int .i64 (.ofNat 0)), .d (.int .i64 (.ofNat 0)), .d (.bool false), .d (.int .i64 (.ofNat 0)), .d (.int .i64 (.ofNat 0))])
  [],
  .mk none none (.storeT 7) [.t 8, .t 39], .mk (some 9) none .mv [.t 40], .mk (some 10) none .mv [.t 41]])
  (.seq
  (.seq
  (.reg none
  [.mk (some 42) none (.load (some 7)) [.t 5], .mk (some 43) none (.load (some 7)) [.t 8], .mk (some 44) none (.bin .neq (.cells 7 [(0, 1), (1, 1), (2, 1), (3, 1), (4, 0), (5, 1), (6, 1)])) [.t 42, .t 43], .mk (some 45) none .mv [.t 44],
  .mk (some 46) (some (45, false)) .mv [.t 6], .mk (some 47) (some (45, false)) .mv [.t 9], .mk (some 48) (some (45, false)) (.bin .neq (.nil 10)) [.t 46, .t 47], .mk (some 49) none .pick [.t 45, .k (.d (.bool true)), .t 48],
  .mk (some 50) none .mv [.t 49], .mk (some 51) (some (50, false)) .mv [.t 7], .mk (some 52) (some (50, false)) .mv [.t 10], .mk (some 53) (some (50, false)) (.bin .neq (.nil 10)) [.t 51, .t 52],
  .mk (some 54) none .pick [.t 50, .k (.d (.bool true)), .t 53]])
  (.cond (.t 54) (.seq (.reg none [.mk (some 4) none .mv [.k (.d (.bool false))]]) .ret) .skip))
  (.seq (.fgt [0, 1, 4])
  (.seq
  (.reg none
  [.mk (some 56) none .mv [.t 0], .mk (some 57) none .mv [.t 1], .mk (some 58) none (.call false) [.k (.fn .pure 13 [] []), .t 56, .t 57], .mk (some 55) none .mv [.t 58], .mk (some 59) none (.ext 0) [.t 55],
  .mk (some 60) none (.ext 1) [.t 55], .mk (some 61) none (.ext 2) [.t 55], .mk (some 11) none .mv [.t 59], .mk (some 12) none .mv [.t 60], .mk (some 13) none .mv [.t 61]])
  (.seq
  (.reg none
  [.mk (some 63) none .mv [.t 0], .mk (some 64) none .mv [.t 1], .mk (some 65) none (.call false) [.k (.fn .pure 14 [] []), .t 63, .t 64], .mk (some 62) none .mv [.t 65], .mk (some 66) none (.ext 0) [.t 62],
  .mk (some 67) none (.ext 1) [.t 62], .mk (some 68) none (.ext 2) [.t 62], .mk (some 14) none .mv [.t 66], .mk (some 15) none .mv [.t 67], .mk (some 16) none .mv [.t 68]])
  (.seq
  (.seq
  (.reg none
  [.mk (some 69) none .mv [.t 11], .mk (some 70) none .mv [.t 14], .mk (some 71) none (.call false) [.k (.fn .pure 15 [] []), .t 69, .t 70], .mk (some 72) none (.un .not) [.t 71], .mk (some 73) none .mv [.t 72],
  .mk (some 74) (some (73, false)) .mv [.t 12], .mk (some 75) (some (73, false)) .mv [.t 15], .mk (some 76) (some (73, false)) (.bin .neq (.nil 10)) [.t 74, .t 75],
  .mk (some 77) none .pick [.t 73, .k (.d (.bool true)), .t 76], .mk (some 78) none .mv [.t 77], .mk (some 79) (some (78, false)) .mv [.t 13], .mk (some 80) (some (78, false)) .mv [.t 16],
  .mk (some 81) (some (78, false)) (.bin .neq (.nil 10)) [.t 79, .t 80], .mk (some 82) none .pick [.t 78, .k (.d (.bool true)), .t 81]])
  (.cond (.t 82) (.seq (.reg none [.mk (some 4) none .mv [.k (.d (.bool false))]]) .ret) .skip))
  (.seq (.fgt [0, 1, 4])
  (.seq
  (.reg none
  [.mk (some 84) none .mv [.t 0], .mk (some 85) none .mv [.t 1], .mk (some 86) none (.call false) [.k (.fn .pure 16 [] []), .t 84, .t 85], .mk (some 83) none .mv [.t 86], .mk (some 87) none (.ext 0) [.t 83],
  .mk (some 88) none (.ext 1) [.t 83], .mk (some 89) none (.ext 2) [.t 83], .mk (some 17) none .mv [.t 87], .mk (some 18) none .mv [.t 88], .mk (some 19) none .mv [.t 89]])
  (.seq
  (.reg none
  [.mk (some 91) none .mv [.t 0], .mk (some 92) none .mv [.t 1], .mk (some 93) none (.call false) [.k (.fn .pure 17 [] []), .t 91, .t 92], .mk (some 90) none .mv [.t 93], .mk (some 94) none (.ext 0) [.t 90],
  .mk (some 95) none (.ext 1) [.t 90], .mk (some 96) none (.ext 2) [.t 90], .mk (some 20) none .mv [.t 94], .mk (some 21) none .mv [.t 95], .mk (some 22) none .mv [.t 96]])
  (.seq
  (.seq
  (.reg none
  [.mk (some 97) none .mv [.t 17], .mk (some 98) none .len [.t 97], .mk (some 99) none .mv [.t 20], .mk (some 100) none .len [.t 99], .mk (some 101) none (.bin .neq (.nil 10)) [.t 98, .t 100],
  .mk (some 102) none .mv [.t 101], .mk (some 103) (some (102, false)) .mv [.t 18], .mk (some 104) (some (102, false)) .mv [.t 21], .mk (some 105) (some (102, false)) (.bin .neq (.nil 10)) [.t 103, .t 104],
  .mk (some 106) none .pick [.t 102, .k (.d (.bool true)), .t 105], .mk (some 107) none .mv [.t 106], .mk (some 108) (some (107, false)) .mv [.t 19], .mk (some 109) (some (107, false)) .mv [.t 22],
  .mk (some 110) (some (107, false)) (.bin .neq (.nil 10)) [.t 108, .t 109], .mk (some 111) none .pick [.t 107, .k (.d (.bool true)), .t 110]])
  (.cond (.t 111) (.seq (.reg none [.mk (some 4) none .mv [.k (.d (.bool false))]]) .ret) .skip))
  (.seq (.fgt [4, 17, 20])
  (.seq
  (.seq (.reg none [.mk (some 112) none .mv [.t 17], .mk (some 113) none .len [.t 112], .mk (some 114) none .mv [.k (.d (.int .i64 (.ofNat 0)))]])
  (.block 0
  (.loop [4, 17, 20, 113, 114]
  (.seq (.reg none [.mk (some 115) none (.bin .lss (.nil 10)) [.t 114, .t 113]])
  (.seq (.cond (.t 115) .skip (.exit 0))
  (.seq (.fgt [4, 17, 20, 113, 114])
  (.seq
  (.block 1
  (.seq (.reg none [.mk (some 116) none .mv [.t 114], .mk (some 23) none .mv [.t 116]])
  (.seq
  (.reg (some [])
  [.mk (some 117) none .mv [.t 17], .mk (some 118) none .mv [.t 23], .mk (some 119) none (.iad 7) [.t 117, .t 118], .mk (some 120) none (.load (some 7)) [.t 119], .mk (some 121) none .mv [.t 20],
  .mk (some 122) none .mv [.t 23], .mk (some 123) none (.iad 7) [.t 121, .t 122], .mk (some 124) none (.load (some 7)) [.t 123],
  .mk (some 125) none (.bin .neq (.cells 7 [(0, 1), (1, 1), (2, 1), (3, 1), (4, 0), (5, 1), (6, 1)])) [.t 120, .t 124]])
  (.cond (.t 125) (.seq (.reg none [.mk (some 4) none .mv [.k (.d (.bool false))]]) .ret) .skip))))
  (.seq (.fgt [4, 17, 20, 113, 114]) (.reg none [.mk (some 126) none (.bin .add (.nil 10)) [.t 114, .k (.d (.int .i64 (.ofNat 1)))], .mk (some 114) none .mv [.t 126]])))))))))
  (.seq (.fgt [4]) (.seq (.reg none [.mk (some 127) none (.call false) [.k (.fn .pure 10 [] [])], .mk (some 4) none .mv [.t 127]]) .ret))))))))))))))))))
  [.tmp 4]
theorem code3_ok : F0 3 = some (.code code3) := by kernel_rfl
def code9 : CFn :=
  .mk
  (.seq (.reg none [.mk (some 2) none .mv [.k (.d (.bool false))]])
  (.seq
  (.seq (.reg none [.mk (some 5) none .mv [.t 0], .mk (some 6) none .len [.t 5], .mk (some 7) none (.bin .gtr (.nil 10)) [.t 6, .k (.d (.int .i64 (.ofNat 700)))]])
  (.cond (.t 7) (.seq (.reg none [.mk (some 2) none .mv [.k (.d (.bool false))]]) .ret) .skip))
  (.seq (.fgt [0, 2])
  (.seq
  (.seq (.reg none [.mk (some 8) none .mv [.t 0], .mk (some 9) none .len [.t 8], .mk (some 10) none .mv [.k (.d (.int .i64 (.ofNat 0)))]])
  (.block 0
  (.loop [2, 8, 9, 10]
  (.seq (.reg none [.mk (some 11) none (.bin .lss (.nil 10)) [.t 10, .t 9]])
  (.seq (.cond (.t 11) .skip (.exit 0))
  (.seq (.fgt [2, 8, 9, 10])
  (.seq
  (.block 1
  (.seq
  (.reg none
  [.mk (some 12) none (.iad 4) [.t 8, .t 10], .mk (some 13) none (.load (some 4)) [.t 12], .mk (some 4) none (.new 72 [.d (.int .i64 (.ofNat 0)), .d (.int .i64 (.ofNat 0)), .d (.str []), .d (.str [])]) [],
  .mk none none (.storeT 4) [.t 4, .t 13]])
  (.seq
  (.reg none
  [.mk (some 14) none (.fad 3) [.t 4], .mk (some 15) none (.load none) [.t 14], .mk (some 16) none .lens [.t 15], .mk (some 17) none (.bin .gtr (.nil 10)) [.t 16, .k (.d (.int .i64 (.ofNat 400)))],
  .mk (some 18) none .mv [.t 17], .mk (some 19) (some (18, false)) (.fad 2) [.t 4], .mk (some 20) (some (18, false)) (.load none) [.t 19], .mk (some 21) (some (18, false)) .lens [.t 20],
  .mk (some 22) (some (18, false)) (.bin .gtr (.nil 10)) [.t 21, .k (.d (.int .i64 (.ofNat 400)))], .mk (some 23) none .pick [.t 18, .k (.d (.bool true)), .t 22]])
  (.cond (.t 23) (.seq (.reg none [.mk (some 2) none .mv [.k (.d (.bool false))]]) .ret) .skip))))
  (.seq (.fgt [2, 8, 9, 10]) (.reg none [.mk (some 24) none (.bin .add (.nil 10)) [.t 10, .k (.d (.int .i64 (.ofNat 1)))], .mk (some 10) none .mv [.t 24]])))))))))
  (.seq (.fgt [2]) (.seq (.reg none [.mk (some 2) none .mv [.k (.d (.bool true))]]) .ret))))))
  [.tmp 2]
theorem code9_ok : F0 9 = some (.code code9) := by kernel_rfl
def code123 : CFn :=
  .mk
  (.seq
  (.reg none
  [.mk (some 2) none .mv [.k (.d (.int .i64 (.ofNat 0)))], .mk (some 3) none .mv [.k (.d (.int .i64 (.ofNat 0)))], .mk (some 4) none .mv [.k (.d (.int .i64 (.ofNat 0)))],
  .mk (some 5) none .mv [.k (.d (.int .i64 (.ofNat 0)))], .mk (some 6) none .mv [.k (.d (.int .i64 (.ofNat 0)))]])
  (.seq (.reg none [.mk (some 13) none .mv [.t 0], .mk (some 14) none (.call false) [.k (.fn .pure 155 [] []), .t 13, .k (.d (.int .i64 (.ofNat 0)))], .mk (some 7) none .mv [.t 14]])
  (.seq (.reg none [.mk (some 15) none .mv [.t 0], .mk (some 16) none .mv [.t 7], .mk (some 17) none (.call false) [.k (.fn .pure 156 [] []), .t 15, .t 16], .mk (some 8) none .mv [.t 17]])
  (.seq (.reg none [.mk (some 18) none .mv [.t 7], .mk (some 19) none .mv [.t 8], .mk (some 20) none (.bin .add (.nil 10)) [.t 18, .t 19], .mk (some 9) none .mv [.t 20]])
  (.seq (.reg none [.mk (some 10) none .mv [.k (.d (.int .i64 (.ofNat 0)))]])
  (.seq
  (.seq
  (.reg none
  [.mk (some 21) none .mv [.t 9], .mk (some 22) none .mv [.t 0], .mk (some 23) none .lens [.t 22], .mk (some 24) none (.bin .lss (.nil 10)) [.t 21, .t 23], .mk (some 25) none .mv [.t 24],
  .mk (some 26) (some (25, true)) .mv [.t 0], .mk (some 27) (some (25, true)) .mv [.t 9], .mk (some 28) (some (25, true)) .idxs [.t 26, .t 27],
  .mk (some 29) (some (25, true)) (.bin .eql (.nil 10)) [.t 28, .k (.d (.int .u8 (.ofNat 46)))], .mk (some 30) none .pick [.t 25, .t 29, .k (.d (.bool false))]])
  (.cond (.t 30)
  (.seq
  (.reg none
  [.mk (some 31) none .mv [.t 0], .mk (some 32) none .mv [.t 9], .mk (some 33) none (.bin .add (.nil 10)) [.t 32, .k (.d (.int .i64 (.ofNat 1)))],
  .mk (some 34) none (.call false) [.k (.fn .pure 156 [] []), .t 31, .t 33], .mk (some 10) none .mv [.t 34]])
  (.seq (.reg none [.mk (some 35) none .mv [.t 10], .mk (some 36) none (.bin .gtr (.nil 10)) [.t 35, .k (.d (.int .i64 (.ofNat 0)))]])
  (.cond (.t 36)
  (.reg none
  [.mk (some 37) none .mv [.t 9], .mk (some 38) none (.bin .add (.nil 10)) [.t 37, .k (.d (.int .i64 (.ofNat 1)))], .mk (some 39) none .mv [.t 10], .mk (some 40) none (.bin .add (.nil 10)) [.t 38, .t 39],
  .mk (some 9) none .mv [.t 40]])
  .skip)))
  .skip))
  (.seq (.fgt [0, 2, 3, 4, 5, 6, 7, 8, 9, 10])
  (.seq
  (.seq
  (.reg none
  [.mk (some 41) none .mv [.t 8], .mk (some 42) none .mv [.t 10], .mk (some 43) none (.bin .add (.nil 10)) [.t 41, .t 42], .mk (some 44) none (.bin .eql (.nil 10)) [.t 43, .k (.d (.int .i64 (.ofNat 0)))]])
  (.cond (.t 44)
  (.seq
  (.reg none
  [.mk (some 2) none .mv [.k (.d (.int .i64 (.ofNat 0)))], .mk (some 3) none .mv [.k (.d (.int .i64 (.ofNat 0)))], .mk (some 4) none .mv [.k (.d (.int .i64 (.ofNat 0)))],
  .mk (some 5) none .mv [.k (.d (.int .i64 (.ofNat 0)))], .mk (some 6) none .mv [.k (.d (.int .i64 (.ofNat 0)))]])
  .ret)
  .skip))
  (.seq (.fgt [0, 2, 3, 4, 5, 6, 7, 8, 9, 10])
  (.seq
  (.seq
  (.reg none
  [.mk (some 45) none .mv [.t 9], .mk (some 46) none .mv [.t 0], .mk (some 47) none .lens [.t 46], .mk (some 48) none (.bin .lss (.nil 10)) [.t 45, .t 47], .mk (some 49) none .mv [.t 48],
  .mk (some 50) (some (49, true)) .mv [.t 0], .mk (some 51) (some (49, true)) .mv [.t 9], .mk (some 52) (some (49, true)) .idxs [.t 50, .t 51],
  .mk (some 53) (some (49, true)) (.bin .eql (.nil 10)) [.t 52, .k (.d (.int .u8 (.ofNat 101)))], .mk (some 54) (some (49, true)) .mv [.t 53], .mk (some 55) (some (54, false)) .mv [.t 0],
  .mk (some 56) (some (54, false)) .mv [.t 9], .mk (some 57) (some (54, false)) .idxs [.t 55, .t 56], .mk (some 58) (some (54, false)) (.bin .eql (.nil 10)) [.t 57, .k (.d (.int .u8 (.ofNat 69)))],
  .mk (some 59) (some (49, true)) .pick [.t 54, .k (.d (.bool true)), .t 58], .mk (some 60) none .pick [.t 49, .t 59, .k (.d (.bool false))]])
  (.cond (.t 60)
  (.seq
  (.reg none
  [.mk (some 61) none .mv [.t 0], .mk (some 62) none .mv [.t 9], .mk (some 63) none (.bin .add (.nil 10)) [.t 62, .k (.d (.int .i64 (.ofNat 1)))],
  .mk (some 64) none (.call false) [.k (.fn .pure 155 [] []), .t 61, .t 63], .mk (some 11) none .mv [.t 64]])
  (.seq
  (.reg none
  [.mk (some 65) none .mv [.t 0], .mk (some 66) none .mv [.t 9], .mk (some 67) none (.bin .add (.nil 10)) [.t 66, .k (.d (.int .i64 (.ofNat 1)))], .mk (some 68) none .mv [.t 11],
  .mk (some 69) none (.bin .add (.nil 10)) [.t 67, .t 68], .mk (some 70) none (.call false) [.k (.fn .pure 156 [] []), .t 65, .t 69], .mk (some 12) none .mv [.t 70]])
  (.seq (.reg none [.mk (some 71) none .mv [.t 12], .mk (some 72) none (.bin .gtr (.nil 10)) [.t 71, .k (.d (.int .i64 (.ofNat 0)))]])
  (.cond (.t 72)
  (.seq
  (.reg none
  [.mk (some 73) none .mv [.t 7], .mk (some 74) none .mv [.t 8], .mk (some 75) none .mv [.t 10], .mk (some 76) none .mv [.t 9],
  .mk (some 77) none (.bin .add (.nil 10)) [.t 76, .k (.d (.int .i64 (.ofNat 1)))], .mk (some 78) none .mv [.t 9],
  .mk (some 79) none (.bin .add (.nil 10)) [.t 78, .k (.d (.int .i64 (.ofNat 1)))], .mk (some 80) none .mv [.t 11], .mk (some 81) none (.bin .add (.nil 10)) [.t 79, .t 80],
  .mk (some 82) none .mv [.t 12], .mk (some 83) none (.bin .add (.nil 10)) [.t 81, .t 82], .mk (some 2) none .mv [.t 73], .mk (some 3) none .mv [.t 74], .mk (some 4) none .mv [.t 75],
  .mk (some 5) none .mv [.t 77], .mk (some 6) none .mv [.t 83]])
  .ret)
  .skip))))
  .skip))
  (.seq (.fgt [2, 3, 4, 5, 6, 7, 8, 9, 10])
  (.seq
  (.reg none
  [.mk (some 84) none .mv [.t 7], .mk (some 85) none .mv [.t 8], .mk (some 86) none .mv [.t 10], .mk (some 87) none .mv [.t 9], .mk (some 2) none .mv [.t 84], .mk (some 3) none .mv [.t 85],
  .mk (some 4) none .mv [.t 86], .mk (some 5) none .mv [.k (.d (.int .i64 (.ofNat 0)))], .mk (some 6) none .mv [.t 87]])
  .ret))))))))))))
  [.tmp 2, .tmp 3, .tmp 4, .tmp 5, .tmp 6]
theorem code123_ok : F0 123 = some (.code code123) := by kernel_rfl
def code87 : CFn :=
  .mk
  (.seq (.reg none [.mk (some 4) none .mv [.k (.d (.int .i64 (.ofNat 0)))], .mk (some 5) none .mv [.k (.d (.int .i64 (.ofNat 0)))]])
  (.seq
  (.seq
  (.reg none
  [.mk (some 14) none .mv [.t 1], .mk (some 15) none (.bin .neq (.nil 10)) [.t 14, .k (.d (.int .i64 (.ofNat 1)))], .mk (some 16) none .mv [.t 15], .mk (some 17) (some (16, true)) .mv [.t 1],
  .mk (some 18) (some (16, true)) (.bin .neq (.nil 10)) [.t 17, .k (.d (.int .i64 (.ofNat 64)))], .mk (some 19) none .pick [.t 16, .t 18, .k (.d (.bool false))], .mk (some 20) none .mv [.t 19],
  .mk (some 21) (some (20, true)) .mv [.t 1], .mk (some 22) (some (20, true)) (.bin .neq (.nil 10)) [.t 21, .k (.d (.int .i64 (.ofNat 1000)))], .mk (some 23) none .pick [.t 20, .t 22, .k (.d (.bool false))]])
  (.cond (.t 23) (.seq (.reg none [.mk (some 4) none .mv [.k (.d (.int .i64 (.ofNat 0)))], .mk (some 5) none .mv [.k (.d (.int .i64 (.ofNat 2)))]]) .ret) .skip))
  (.seq (.fgt [0, 1, 4, 5])
  (.seq
  (.reg none
  [.mk (some 25) none .mv [.t 0], .mk (some 26) none (.call false) [.k (.fn .pure 123 [] []), .t 25], .mk (some 24) none .mv [.t 26], .mk (some 27) none (.ext 0) [.t 24], .mk (some 28) none (.ext 1) [.t 24],
  .mk (some 29) none (.ext 2) [.t 24], .mk (some 30) none (.ext 3) [.t 24], .mk (some 31) none (.ext 4) [.t 24], .mk (some 6) none .mv [.t 27], .mk (some 7) none .mv [.t 28], .mk (some 8) none .mv [.t 29],
  .mk (some 9) none .mv [.t 30], .mk (some 10) none .mv [.t 31]])
  (.seq
  (.seq
  (.reg none
  [.mk (some 32) none .mv [.t 10], .mk (some 33) none (.bin .eql (.nil 10)) [.t 32, .k (.d (.int .i64 (.ofNat 0)))], .mk (some 34) none .mv [.t 33], .mk (some 35) (some (34, false)) .mv [.t 10],
  .mk (some 36) (some (34, false)) .mv [.t 0], .mk (some 37) (some (34, false)) .lens [.t 36], .mk (some 38) (some (34, false)) (.bin .neq (.nil 10)) [.t 35, .t 37],
  .mk (some 39) none .pick [.t 34, .k (.d (.bool true)), .t 38], .mk (some 40) none .mv [.t 39], .mk (some 41) (some (40, false)) .mv [.t 0], .mk (some 42) (some (40, false)) .lens [.t 41],
  .mk (some 43) (some (40, false)) (.bin .gtr (.nil 10)) [.t 42, .k (.d (.int .i64 (.ofNat 300)))], .mk (some 44) none .pick [.t 40, .k (.d (.bool true)), .t 43]])
  (.cond (.t 44) (.seq (.reg none [.mk (some 4) none .mv [.k (.d (.int .i64 (.ofNat 0)))], .mk (some 5) none .mv [.k (.d (.int .i64 (.ofNat 21)))]]) .ret) .skip))
  (.seq (.fgt [0, 1, 4, 5, 6, 7, 8, 9])
  (.seq (.reg none [.mk (some 11) none .mv [.k (.d .nilsl)]])
  (.seq
  (.seq
  (.reg none
  [.mk (some 45) none .mv [.t 6], .mk (some 46) none .mv [.t 7], .mk (some 47) none (.bin .add (.nil 10)) [.t 45, .t 46], .mk (some 48) none .mv [.t 8], .mk (some 49) none (.bin .add (.nil 10)) [.t 47, .t 48],
  .mk (some 12) none .mv [.t 49]])
  (.block 0
  (.loop [0, 1, 4, 5, 6, 7, 8, 9, 11, 12]
  (.seq (.seq (.reg none [.mk (some 50) none .mv [.t 12], .mk (some 51) none .mv [.t 6], .mk (some 52) none (.bin .geq (.nil 10)) [.t 50, .t 51]]) (.cond (.t 52) .skip (.exit 0)))
  (.seq (.fgt [0, 1, 4, 5, 6, 7, 8, 9, 11, 12])
  (.seq
  (.block 1
  (.seq
  (.reg none
  [.mk (some 55) none .mv [.t 12], .mk (some 56) none .mv [.t 0], .mk (some 57) none .lens [.t 56], .mk (some 58) none (.bin .lss (.nil 10)) [.t 55, .t 57], .mk (some 59) none .mv [.t 58],
  .mk (some 60) (some (59, true)) .mv [.t 0], .mk (some 61) (some (59, true)) .mv [.t 12], .mk (some 62) (some (59, true)) .idxs [.t 60, .t 61],
  .mk (some 63) (some (59, true)) (.call false) [.k (.fn .pure 124 [] []), .t 62], .mk (some 64) none .pick [.t 59, .t 63, .k (.d (.bool false))], .mk (some 65) none .mv [.t 64],
  .mk (some 66) (some (65, true)) .mv [.t 12], .mk (some 67) (some (65, true)) .mv [.t 6], .mk (some 68) (some (65, true)) .mv [.t 7], .mk (some 69) (some (65, true)) (.bin .add (.nil 10)) [.t 67, .t 68],
  .mk (some 70) (some (65, true)) (.bin .lss (.nil 10)) [.t 66, .t 69], .mk (some 71) (some (65, true)) .mv [.t 70], .mk (some 72) (some (71, false)) .mv [.t 12], .mk (some 73) (some (71, false)) .mv [.t 6],
  .mk (some 74) (some (71, false)) .mv [.t 7], .mk (some 75) (some (71, false)) (.bin .add (.nil 10)) [.t 73, .t 74], .mk (some 76) (some (71, false)) (.bin .gtr (.nil 10)) [.t 72, .t 75],
  .mk (some 77) (some (71, false)) .mv [.t 76], .mk (some 78) (some (77, true)) .mv [.t 12], .mk (some 79) (some (77, true)) .mv [.t 6], .mk (some 80) (some (77, true)) .mv [.t 7],
  .mk (some 81) (some (77, true)) (.bin .add (.nil 10)) [.t 79, .t 80], .mk (some 82) (some (77, true)) .mv [.t 8], .mk (some 83) (some (77, true)) (.bin .add (.nil 10)) [.t 81, .t 82],
  .mk (some 84) (some (77, true)) (.bin .leq (.nil 10)) [.t 78, .t 83], .mk (some 85) (some (71, false)) .pick [.t 77, .t 84, .k (.d (.bool false))],
  .mk (some 86) (some (65, true)) .pick [.t 71, .k (.d (.bool true)), .t 85], .mk (some 87) none .pick [.t 65, .t 86, .k (.d (.bool false))]])
  (.cond (.t 87)
  (.reg none
  [.mk (some 88) none .mv [.t 11], .mk (some 89) none .mv [.t 0], .mk (some 90) none .mv [.t 12], .mk (some 91) none .idxs [.t 89, .t 90],
  .mk (some 92) none (.bin .sub (.nil 10)) [.t 91, .k (.d (.int .u8 (.ofNat 48)))], .mk (some 93) none (.cvi .i64) [.t 92],
  .mk (some 94) none (.bslT 3 1 [.int .i64 (.ofNat 0)] 1 [0]) [.t 93], .mk (some 95) none (.appT 3 1 8) [.t 88, .t 94], .mk (some 11) none .mv [.t 95]])
  .skip)))
  (.seq (.fgt [0, 1, 4, 5, 6, 7, 8, 9, 11, 12]) (.reg none [.mk (some 53) none .mv [.t 12], .mk (some 54) none (.bin .sub (.nil 10)) [.t 53, .k (.d (.int .i64 (.ofNat 1)))], .mk (some 12) none .mv [.t 54]]))))))))
  (.seq (.fgt [0, 1, 4, 5, 8, 9, 11])
  (.seq
  (.reg none
  [.mk (some 96) none .mv [.t 11], .mk (some 97) none .mv [.t 1], .mk (some 98) none (.call false) [.k (.fn .pure 126 [] []), .t 96, .t 97], .mk (some 99) none .mv [.t 8], .mk (some 100) none .mv [.t 0],
  .mk (some 101) none .mv [.t 9], .mk (some 102) none (.call false) [.k (.fn .pure 127 [] []), .t 100, .t 101], .mk (some 103) none (.bin .sub (.nil 10)) [.t 99, .t 102],
  .mk (some 104) none (.call false) [.k (.fn .pure 125 [] []), .t 98, .t 103], .mk (some 13) none .mv [.t 104]])
  (.seq
  (.seq (.reg none [.mk (some 105) none .mv [.t 13], .mk (some 106) none (.bin .gtr (.nil 10)) [.t 105, .k (.d (.int .i64 (.ofNat 68719476736)))]])
  (.cond (.t 106) (.seq (.reg none [.mk (some 4) none .mv [.k (.d (.int .i64 (.ofNat 0)))], .mk (some 5) none .mv [.k (.d (.int .i64 (.ofNat 10)))]]) .ret) .skip))
  (.seq (.fgt [0, 4, 5, 13])
  (.seq
  (.seq
  (.reg none [.mk (some 107) none .mv [.t 0], .mk (some 108) none .idxs [.t 107, .k (.d (.int .i64 (.ofNat 0)))], .mk (some 109) none (.bin .eql (.nil 10)) [.t 108, .k (.d (.int .u8 (.ofNat 45)))]])
  (.cond (.t 109)
  (.seq
  (.reg none
  [.mk (some 110) none .mv [.t 13], .mk (some 111) none (.bin .sub (.nil 10)) [.k (.d (.int .i64 (.ofNat 0))), .t 110], .mk (some 4) none .mv [.t 111],
  .mk (some 5) none .mv [.k (.d (.int .i64 (.ofNat 0)))]])
  .ret)
  .skip))
  (.seq (.fgt [4, 5, 13]) (.seq (.reg none [.mk (some 112) none .mv [.t 13], .mk (some 4) none .mv [.t 112], .mk (some 5) none .mv [.k (.d (.int .i64 (.ofNat 0)))]]) .ret)))))))))))))))
  [.tmp 4, .tmp 5]
theorem code87_ok : F0 87 = some (.code code87) := by kernel_rfl
def code124 : CFn :=
  .mk
  (.seq (.reg none [.mk (some 2) none .mv [.k (.d (.bool false))]])
  (.seq
  (.reg none
  [.mk (some 3) none .mv [.t 0], .mk (some 4) none (.bin .geq (.nil 10)) [.t 3, .k (.d (.int .u8 (.ofNat 48)))], .mk (some 5) none .mv [.t 4], .mk (some 6) (some (5, true)) .mv [.t 0],
  .mk (some 7) (some (5, true)) (.bin .leq (.nil 10)) [.t 6, .k (.d (.int .u8 (.ofNat 57)))], .mk (some 8) none .pick [.t 5, .t 7, .k (.d (.bool false))], .mk (some 2) none .mv [.t 8]])
  .ret))
  [.tmp 2]
theorem code124_ok : F0 124 = some (.code code124) := by kernel_rfl
def code156 : CFn :=
  .mk
  (.seq (.reg none [.mk (some 4) none .mv [.k (.d (.int .i64 (.ofNat 0)))]])
  (.seq (.reg none [.mk (some 5) none .mv [.k (.d (.int .i64 (.ofNat 0)))]])
  (.seq
  (.block 0
  (.loop [0, 1, 4, 5]
  (.seq
  (.seq
  (.reg none
  [.mk (some 6) none .mv [.t 1], .mk (some 7) none .mv [.t 5], .mk (some 8) none (.bin .add (.nil 10)) [.t 6, .t 7], .mk (some 9) none .mv [.t 0], .mk (some 10) none .lens [.t 9],
  .mk (some 11) none (.bin .lss (.nil 10)) [.t 8, .t 10], .mk (some 12) none .mv [.t 11], .mk (some 13) (some (12, true)) .mv [.t 0], .mk (some 14) (some (12, true)) .mv [.t 1], .mk (some 15) (some (12, true)) .mv [.t 5],
  .mk (some 16) (some (12, true)) (.bin .add (.nil 10)) [.t 14, .t 15], .mk (some 17) (some (12, true)) .idxs [.t 13, .t 16], .mk (some 18) (some (12, true)) (.call false) [.k (.fn .pure 124 [] []), .t 17],
  .mk (some 19) none .pick [.t 12, .t 18, .k (.d (.bool false))]])
  (.cond (.t 19) .skip (.exit 0)))
  (.seq (.fgt [0, 1, 4, 5]) (.block 1 (.reg none [.mk (some 20) none .mv [.t 5], .mk (some 21) none (.bin .add (.nil 10)) [.t 20, .k (.d (.int .i64 (.ofNat 1)))], .mk (some 5) none .mv [.t 21]]))))))
  (.seq (.fgt [4, 5]) (.seq (.reg none [.mk (some 22) none .mv [.t 5], .mk (some 4) none .mv [.t 22]]) .ret)))))
  [.tmp 4]
theorem code156_ok : F0 156 = some (.code code156) := by kernel_rfl
def code127 : CFn :=
  .mk
  (.seq (.reg none [.mk (some 4) none .mv [.k (.d (.int .i64 (.ofNat 0)))]])
  (.seq
  (.seq (.reg none [.mk (some 7) none .mv [.t 1], .mk (some 8) none (.bin .eql (.nil 10)) [.t 7, .k (.d (.int .i64 (.ofNat 0)))]])
  (.cond (.t 8) (.seq (.reg none [.mk (some 4) none .mv [.k (.d (.int .i64 (.ofNat 0)))]]) .ret) .skip))
  (.seq (.fgt [0, 1, 4])
  (.seq (.reg none [.mk (some 5) none .mv [.k (.d (.int .i64 (.ofNat 0)))]])
  (.seq
  (.seq
  (.reg none
  [.mk (some 9) none .mv [.t 1], .mk (some 10) none .mv [.t 0], .mk (some 11) none .mv [.t 1], .mk (some 12) none (.call false) [.k (.fn .pure 155 [] []), .t 10, .t 11],
  .mk (some 13) none (.bin .add (.nil 10)) [.t 9, .t 12], .mk (some 6) none .mv [.t 13]])
  (.block 0
  (.loop [0, 1, 4, 5, 6]
  (.seq (.seq (.reg none [.mk (some 14) none .mv [.t 6], .mk (some 15) none .mv [.t 0], .mk (some 16) none .lens [.t 15], .mk (some 17) none (.bin .lss (.nil 10)) [.t 14, .t 16]]) (.cond (.t 17) .skip (.exit 0)))
  (.seq (.fgt [0, 1, 4, 5, 6])
  (.seq
  (.block 1
  (.reg none
  [.mk (some 20) none .mv [.t 5], .mk (some 21) none (.bin .mul (.nil 10)) [.k (.d (.int .i64 (.ofNat 10))), .t 20], .mk (some 22) none .mv [.t 0], .mk (some 23) none .mv [.t 6],
  .mk (some 24) none .idxs [.t 22, .t 23], .mk (some 25) none (.bin .sub (.nil 10)) [.t 24, .k (.d (.int .u8 (.ofNat 48)))], .mk (some 26) none (.cvi .i64) [.t 25],
  .mk (some 27) none (.bin .add (.nil 10)) [.t 21, .t 26], .mk (some 28) none .min [.k (.d (.int .i64 (.ofNat 1000))), .t 27], .mk (some 5) none .mv [.t 28]]))
  (.seq (.fgt [0, 1, 4, 5, 6]) (.reg none [.mk (some 18) none .mv [.t 6], .mk (some 19) none (.bin .add (.nil 10)) [.t 18, .k (.d (.int .i64 (.ofNat 1)))], .mk (some 6) none .mv [.t 19]]))))))))
  (.seq (.fgt [0, 1, 4, 5])
  (.seq
  (.seq (.reg none [.mk (some 29) none .mv [.t 0], .mk (some 30) none .mv [.t 1], .mk (some 31) none .idxs [.t 29, .t 30], .mk (some 32) none (.bin .eql (.nil 10)) [.t 31, .k (.d (.int .u8 (.ofNat 45)))]])
  (.cond (.t 32) (.seq (.reg none [.mk (some 33) none .mv [.t 5], .mk (some 34) none (.bin .sub (.nil 10)) [.k (.d (.int .i64 (.ofNat 0))), .t 33], .mk (some 4) none .mv [.t 34]]) .ret) .skip))
  (.seq (.fgt [4, 5]) (.seq (.reg none [.mk (some 35) none .mv [.t 5], .mk (some 4) none .mv [.t 35]]) .ret)))))))))
  [.tmp 4]
theorem code127_ok : F0 127 = some (.code code127) := by kernel_rfl
def code125 : CFn :=
  .mk
  (.seq (.reg none [.mk (some 4) none .mv [.k (.d (.int .i64 (.ofNat 0)))]])
  (.seq (.reg none [.mk (some 5) none .mv [.k (.d (.int .i64 (.ofNat 0)))]])
  (.seq
  (.seq (.reg none [.mk (some 8) none .mv [.t 0], .mk (some 9) none .len [.t 8], .mk (some 10) none (.bin .sub (.nil 10)) [.t 9, .k (.d (.int .i64 (.ofNat 1)))], .mk (some 6) none .mv [.t 10]])
  (.block 0
  (.loop [0, 1, 4, 5, 6]
  (.seq
  (.seq
  (.reg none
  [.mk (some 11) none .mv [.t 6], .mk (some 12) none (.bin .geq (.nil 10)) [.t 11, .k (.d (.int .i64 (.ofNat 0)))], .mk (some 13) none .mv [.t 12], .mk (some 14) (some (13, true)) .mv [.t 6],
  .mk (some 15) (some (13, true)) .mv [.t 1], .mk (some 16) (some (13, true)) (.bin .geq (.nil 10)) [.t 14, .t 15], .mk (some 17) none .pick [.t 13, .t 16, .k (.d (.bool false))]])
  (.cond (.t 17) .skip (.exit 0)))
  (.seq (.fgt [0, 1, 4, 5, 6])
  (.seq
  (.block 1
  (.reg none
  [.mk (some 20) none .mv [.t 5], .mk (some 21) none (.bin .mul (.nil 10)) [.k (.d (.int .i64 (.ofNat 10))), .t 20], .mk (some 22) none .mv [.t 0], .mk (some 23) none .mv [.t 6],
  .mk (some 24) none (.iad 1) [.t 22, .t 23], .mk (some 25) none (.load none) [.t 24], .mk (some 26) none (.bin .add (.nil 10)) [.t 21, .t 25],
  .mk (some 27) none .min [.k (.d (.int .i64 (.ofNat 68719476737))), .t 26], .mk (some 5) none .mv [.t 27]]))
  (.seq (.fgt [0, 1, 4, 5, 6]) (.reg none [.mk (some 18) none .mv [.t 6], .mk (some 19) none (.bin .sub (.nil 10)) [.t 18, .k (.d (.int .i64 (.ofNat 1)))], .mk (some 6) none .mv [.t 19]]))))))))
  (.seq (.fgt [0, 1, 4, 5])
  (.seq
  (.seq (.reg none [.mk (some 28) none .mv [.t 1], .mk (some 7) none .mv [.t 28]])
  (.block 2
  (.loop [0, 1, 4, 5, 7]
  (.seq (.seq (.reg none [.mk (some 29) none .mv [.t 7], .mk (some 30) none (.bin .lss (.nil 10)) [.t 29, .k (.d (.int .i64 (.ofNat 0)))]]) (.cond (.t 30) .skip (.exit 2)))
  (.seq (.fgt [0, 1, 4, 5, 7])
  (.seq
  (.block 3
  (.reg none
  [.mk (some 33) none .mv [.t 5], .mk (some 34) none (.bin .mul (.nil 10)) [.k (.d (.int .i64 (.ofNat 10))), .t 33], .mk (some 35) none .min [.k (.d (.int .i64 (.ofNat 68719476737))), .t 34],
  .mk (some 5) none .mv [.t 35]]))
  (.seq (.fgt [0, 1, 4, 5, 7]) (.reg none [.mk (some 31) none .mv [.t 7], .mk (some 32) none (.bin .add (.nil 10)) [.t 31, .k (.d (.int .i64 (.ofNat 1)))], .mk (some 7) none .mv [.t 32]]))))))))
  (.seq (.fgt [0, 1, 4, 5])
  (.seq
  (.seq
  (.reg none
  [.mk (some 36) none .mv [.t 1], .mk (some 37) none (.bin .gtr (.nil 10)) [.t 36, .k (.d (.int .i64 (.ofNat 0)))], .mk (some 38) none .mv [.t 37], .mk (some 39) (some (38, true)) .mv [.t 1],
  .mk (some 40) (some (38, true)) .mv [.t 0], .mk (some 41) (some (38, true)) .len [.t 40], .mk (some 42) (some (38, true)) (.bin .leq (.nil 10)) [.t 39, .t 41],
  .mk (some 43) none .pick [.t 38, .t 42, .k (.d (.bool false))], .mk (some 44) none .mv [.t 43], .mk (some 45) (some (44, true)) .mv [.t 0], .mk (some 46) (some (44, true)) .mv [.t 1],
  .mk (some 47) (some (44, true)) (.bin .sub (.nil 10)) [.t 46, .k (.d (.int .i64 (.ofNat 1)))], .mk (some 48) (some (44, true)) (.iad 1) [.t 45, .t 47], .mk (some 49) (some (44, true)) (.load none) [.t 48],
  .mk (some 50) (some (44, true)) (.bin .geq (.nil 10)) [.t 49, .k (.d (.int .i64 (.ofNat 5)))], .mk (some 51) none .pick [.t 44, .t 50, .k (.d (.bool false))]])
  (.cond (.t 51) (.reg none [.mk (some 52) none .mv [.t 5], .mk (some 53) none (.bin .add (.nil 10)) [.t 52, .k (.d (.int .i64 (.ofNat 1)))], .mk (some 5) none .mv [.t 53]]) .skip))
  (.seq (.fgt [4, 5]) (.seq (.reg none [.mk (some 54) none .mv [.t 5], .mk (some 4) none .mv [.t 54]]) .ret)))))))))
  [.tmp 4]
theorem code125_ok : F0 125 = some (.code code125) := by kernel_rfl
def code126 : CFn :=
  .mk
  (.seq (.reg none [.mk (some 4) none .mv [.k (.d .nilsl)]])
  (.seq (.reg none [.mk (some 5) none .mv [.k (.d .nilsl)]])
  (.seq (.reg none [.mk (some 6) none .mv [.k (.d (.int .i64 (.ofNat 0)))]])
  (.seq
  (.seq (.reg none [.mk (some 7) none .mv [.k (.d (.int .i64 (.ofNat 0)))]])
  (.block 0
  (.loop [0, 1, 4, 5, 6, 7]
  (.seq (.seq (.reg none [.mk (some 9) none .mv [.t 7], .mk (some 10) none .mv [.t 0], .mk (some 11) none .len [.t 10], .mk (some 12) none (.bin .lss (.nil 10)) [.t 9, .t 11]]) (.cond (.t 12) .skip (.exit 0)))
  (.seq (.fgt [0, 1, 4, 5, 6, 7])
  (.seq
  (.block 1
  (.seq
  (.reg none
  [.mk (some 15) none .mv [.t 0], .mk (some 16) none .mv [.t 7], .mk (some 17) none (.iad 1) [.t 15, .t 16], .mk (some 18) none (.load none) [.t 17], .mk (some 19) none .mv [.t 1],
  .mk (some 20) none (.bin .mul (.nil 10)) [.t 18, .t 19], .mk (some 21) none .mv [.t 6], .mk (some 22) none (.bin .add (.nil 10)) [.t 20, .t 21], .mk (some 8) none .mv [.t 22]])
  (.seq
  (.reg none
  [.mk (some 23) none .mv [.t 5], .mk (some 24) none .mv [.t 8], .mk (some 25) none (.bin .rem (.nil 10)) [.t 24, .k (.d (.int .i64 (.ofNat 10)))],
  .mk (some 26) none (.bslT 3 1 [.int .i64 (.ofNat 0)] 1 [0]) [.t 25], .mk (some 27) none (.appT 3 1 8) [.t 23, .t 26], .mk (some 5) none .mv [.t 27]])
  (.reg none [.mk (some 28) none .mv [.t 8], .mk (some 29) none (.bin .quo (.nil 10)) [.t 28, .k (.d (.int .i64 (.ofNat 10)))], .mk (some 6) none .mv [.t 29]]))))
  (.seq (.fgt [0, 1, 4, 5, 6, 7]) (.reg none [.mk (some 13) none .mv [.t 7], .mk (some 14) none (.bin .add (.nil 10)) [.t 13, .k (.d (.int .i64 (.ofNat 1)))], .mk (some 7) none .mv [.t 14]]))))))))
  (.seq (.fgt [4, 5, 6])
  (.seq
  (.block 2
  (.loop [4, 5, 6]
  (.seq (.seq (.reg none [.mk (some 30) none .mv [.t 6], .mk (some 31) none (.bin .gtr (.nil 10)) [.t 30, .k (.d (.int .i64 (.ofNat 0)))]]) (.cond (.t 31) .skip (.exit 2)))
  (.seq (.fgt [4, 5, 6])
  (.block 3
  (.seq
  (.reg none
  [.mk (some 32) none .mv [.t 5], .mk (some 33) none .mv [.t 6], .mk (some 34) none (.bin .rem (.nil 10)) [.t 33, .k (.d (.int .i64 (.ofNat 10)))],
  .mk (some 35) none (.bslT 3 1 [.int .i64 (.ofNat 0)] 1 [0]) [.t 34], .mk (some 36) none (.appT 3 1 8) [.t 32, .t 35], .mk (some 5) none .mv [.t 36]])
  (.reg none [.mk (some 37) none .mv [.t 6], .mk (some 38) none (.bin .quo (.nil 10)) [.t 37, .k (.d (.int .i64 (.ofNat 10)))], .mk (some 6) none .mv [.t 38]])))))))
  (.seq (.fgt [4, 5]) (.seq (.reg none [.mk (some 39) none .mv [.t 5], .mk (some 4) none .mv [.t 39]]) .ret))))))))
  [.tmp 4]
theorem code126_ok : F0 126 = some (.code code126) := by kernel_rfl
def code155 : CFn :=
  .mk
  (.seq (.reg none [.mk (some 4) none .mv [.k (.d (.int .i64 (.ofNat 0)))]])
  (.seq
  (.seq
  (.reg none
  [.mk (some 5) none .mv [.t 1], .mk (some 6) none .mv [.t 0], .mk (some 7) none .lens [.t 6], .mk (some 8) none (.bin .lss (.nil 10)) [.t 5, .t 7], .mk (some 9) none .mv [.t 8], .mk (some 10) (some (9, true)) .mv [.t 0],
  .mk (some 11) (some (9, true)) .mv [.t 1], .mk (some 12) (some (9, true)) .idxs [.t 10, .t 11], .mk (some 13) (some (9, true)) (.bin .eql (.nil 10)) [.t 12, .k (.d (.int .u8 (.ofNat 43)))],
  .mk (some 14) (some (9, true)) .mv [.t 13], .mk (some 15) (some (14, false)) .mv [.t 0], .mk (some 16) (some (14, false)) .mv [.t 1], .mk (some 17) (some (14, false)) .idxs [.t 15, .t 16],
  .mk (some 18) (some (14, false)) (.bin .eql (.nil 10)) [.t 17, .k (.d (.int .u8 (.ofNat 45)))], .mk (some 19) (some (9, true)) .pick [.t 14, .k (.d (.bool true)), .t 18],
  .mk (some 20) none .pick [.t 9, .t 19, .k (.d (.bool false))]])
  (.cond (.t 20) (.seq (.reg none [.mk (some 4) none .mv [.k (.d (.int .i64 (.ofNat 1)))]]) .ret) .skip))
  (.seq (.fgt [4]) (.seq (.reg none [.mk (some 4) none .mv [.k (.d (.int .i64 (.ofNat 0)))]]) .ret))))
  [.tmp 4]
theorem code155_ok : F0 155 = some (.code code155) := by kernel_rfl
def code90 : CFn :=
  .mk
  (.seq (.reg none [.mk (some 2) none .mv [.k (.d (.bool false))]])
  (.seq
  (.reg none
  [.mk (some 5) none (.bslT 9 1 [.str []] 7 [0, 1, 2, 3, 4, 5, 6])
  [.k (.d (.str [.ofNat 115, .ofNat 112, .ofNat 97, .ofNat 110])), .k (.d (.str [.ofNat 97, .ofNat 117, .ofNat 116, .ofNat 111])),
  .k (.d (.str [.ofNat 105, .ofNat 110, .ofNat 105, .ofNat 116, .ofNat 105, .ofNat 97, .ofNat 108])), .k (.d (.str [.ofNat 105, .ofNat 110, .ofNat 104, .ofNat 101, .ofNat 114, .ofNat 105, .ofNat 116])),
  .k (.d (.str [.ofNat 117, .ofNat 110, .ofNat 115, .ofNat 101, .ofNat 116])), .k (.d (.str [.ofNat 100, .ofNat 101, .ofNat 102, .ofNat 97, .ofNat 117, .ofNat 108, .ofNat 116])),
  .k (.d (.str [.ofNat 114, .ofNat 101, .ofNat 118, .ofNat 101, .ofNat 114, .ofNat 116]))],
  .mk (some 3) none .mv [.t 5]])
  (.seq
  (.seq (.reg none [.mk (some 4) none .mv [.k (.d (.int .i64 (.ofNat 0)))]])
  (.block 0
  (.loop [0, 2, 3, 4]
  (.seq (.seq (.reg none [.mk (some 6) none .mv [.t 4], .mk (some 7) none .mv [.t 3], .mk (some 8) none .len [.t 7], .mk (some 9) none (.bin .lss (.nil 10)) [.t 6, .t 8]]) (.cond (.t 9) .skip (.exit 0)))
  (.seq (.fgt [0, 2, 3, 4])
  (.seq
  (.block 1
  (.seq
  (.reg none
  [.mk (some 12) none .mv [.t 0], .mk (some 13) none .mv [.t 3], .mk (some 14) none .mv [.t 4], .mk (some 15) none (.iad 1) [.t 13, .t 14], .mk (some 16) none (.load none) [.t 15],
  .mk (some 17) none (.call false) [.k (.fn .pure 83 [] []), .t 12, .t 16]])
  (.cond (.t 17) (.seq (.reg none [.mk (some 2) none .mv [.k (.d (.bool false))]]) .ret) .skip)))
  (.seq (.fgt [0, 2, 3, 4]) (.reg none [.mk (some 10) none .mv [.t 4], .mk (some 11) none (.bin .add (.nil 10)) [.t 10, .k (.d (.int .i64 (.ofNat 1)))], .mk (some 4) none .mv [.t 11]]))))))))
  (.seq (.fgt [0, 2]) (.seq (.reg none [.mk (some 18) none .mv [.t 0], .mk (some 19) none (.call false) [.k (.fn .pure 130 [] []), .t 18], .mk (some 2) none .mv [.t 19]]) .ret)))))
  [.tmp 2]
theorem code90_ok : F0 90 = some (.code code90) := by kernel_rfl
def code83 : CFn :=
  .mk
  (.seq (.reg none [.mk (some 4) none .mv [.k (.d (.bool false))]])
  (.seq
  (.reg none
  [.mk (some 5) none .mv [.t 0], .mk (some 6) none (.call false) [.k (.fn .pure 118 [] []), .t 5], .mk (some 7) none .mv [.t 1], .mk (some 8) none (.call false) [.k (.fn .pure 118 [] []), .t 7],
  .mk (some 9) none (.bin .eql (.nil 10)) [.t 6, .t 8], .mk (some 4) none .mv [.t 9]])
  .ret))
  [.tmp 4]
theorem code83_ok : F0 83 = some (.code code83) := by kernel_rfl
def code118 : CFn :=
  .mk
  (.seq (.reg none [.mk (some 2) none .mv [.k (.d (.str []))]])
  (.seq (.reg none [.mk (some 3) none .mv [.k (.d (.str []))]])
  (.seq
  (.seq (.reg none [.mk (some 4) none .mv [.k (.d (.int .i64 (.ofNat 0)))]])
  (.block 0
  (.loop [0, 2, 3, 4]
  (.seq (.seq (.reg none [.mk (some 6) none .mv [.t 4], .mk (some 7) none .mv [.t 0], .mk (some 8) none .lens [.t 7], .mk (some 9) none (.bin .lss (.nil 10)) [.t 6, .t 8]]) (.cond (.t 9) .skip (.exit 0)))
  (.seq (.fgt [0, 2, 3, 4])
  (.seq
  (.block 1
  (.seq (.reg none [.mk (some 12) none .mv [.t 0], .mk (some 13) none .mv [.t 4], .mk (some 14) none .idxs [.t 12, .t 13], .mk (some 5) none .mv [.t 14]])
  (.seq
  (.seq
  (.reg none
  [.mk (some 15) none .mv [.t 5], .mk (some 16) none (.bin .geq (.nil 10)) [.t 15, .k (.d (.int .u8 (.ofNat 65)))], .mk (some 17) none .mv [.t 16], .mk (some 18) (some (17, true)) .mv [.t 5],
  .mk (some 19) (some (17, true)) (.bin .leq (.nil 10)) [.t 18, .k (.d (.int .u8 (.ofNat 90)))], .mk (some 20) none .pick [.t 17, .t 19, .k (.d (.bool false))]])
  (.cond (.t 20)
  (.reg none
  [.mk (some 21) none .mv [.t 5], .mk (some 22) none (.bin .sub (.nil 10)) [.t 21, .k (.d (.int .u8 (.ofNat 65)))],
  .mk (some 23) none (.bin .add (.nil 10)) [.t 22, .k (.d (.int .u8 (.ofNat 97)))], .mk (some 5) none .mv [.t 23]])
  .skip))
  (.seq (.fgt [0, 2, 3, 4, 5])
  (.reg none
  [.mk (some 24) none .mv [.t 3], .mk (some 25) none .mv [.t 5], .mk (some 26) none (.bslT 5 1 [.int .u8 (.ofNat 0)] 1 [0]) [.t 25], .mk (some 27) none .b2s [.t 26],
  .mk (some 28) none (.bin .add (.nil 10)) [.t 24, .t 27], .mk (some 3) none .mv [.t 28]])))))
  (.seq (.fgt [0, 2, 3, 4]) (.reg none [.mk (some 10) none .mv [.t 4], .mk (some 11) none (.bin .add (.nil 10)) [.t 10, .k (.d (.int .i64 (.ofNat 1)))], .mk (some 4) none .mv [.t 11]]))))))))
  (.seq (.fgt [2, 3]) (.seq (.reg none [.mk (some 29) none .mv [.t 3], .mk (some 2) none .mv [.t 29]]) .ret)))))
  [.tmp 2]
theorem code118_ok : F0 118 = some (.code code118) := by kernel_rfl
def code130 : CFn :=
  .mk
  (.seq (.reg none [.mk (some 2) none .mv [.k (.d (.bool false))]])
  (.seq
  (.reg none
  [.mk (some 3) none .mv [.t 0], .mk (some 4) none (.bin .neq (.nil 10)) [.t 3, .k (.d (.str []))], .mk (some 5) none .mv [.t 4], .mk (some 6) (some (5, true)) .mv [.t 0], .mk (some 7) (some (5, true)) .lens [.t 6],
  .mk (some 8) (some (5, true)) (.bin .leq (.nil 10)) [.t 7, .k (.d (.int .i64 (.ofNat 64)))], .mk (some 9) none .pick [.t 5, .t 8, .k (.d (.bool false))], .mk (some 10) none .mv [.t 9],
  .mk (some 11) (some (10, true)) .mv [.t 0], .mk (some 12) (some (10, true)) (.call false) [.k (.fn .pure 157 [] []), .t 11], .mk (some 13) (some (10, true)) (.un .not) [.t 12],
  .mk (some 14) none .pick [.t 10, .t 13, .k (.d (.bool false))], .mk (some 2) none .mv [.t 14]])
  .ret))
  [.tmp 2]
theorem code130_ok : F0 130 = some (.code code130) := by kernel_rfl
def code157 : CFn :=
  .mk
  (.seq (.reg none [.mk (some 2) none .mv [.k (.d (.bool false))]])
  (.seq
  (.seq (.reg none [.mk (some 3) none .mv [.k (.d (.int .i64 (.ofNat 0)))]])
  (.block 0
  (.loop [0, 2, 3]
  (.seq (.seq (.reg none [.mk (some 4) none .mv [.t 3], .mk (some 5) none .mv [.t 0], .mk (some 6) none .lens [.t 5], .mk (some 7) none (.bin .lss (.nil 10)) [.t 4, .t 6]]) (.cond (.t 7) .skip (.exit 0)))
  (.seq (.fgt [0, 2, 3])
  (.seq
  (.block 1
  (.seq (.reg none [.mk (some 10) none .mv [.t 0], .mk (some 11) none .mv [.t 3], .mk (some 12) none .idxs [.t 10, .t 11], .mk (some 13) none (.bin .eql (.nil 10)) [.t 12, .k (.d (.int .u8 (.ofNat 0)))]])
  (.cond (.t 13) (.seq (.reg none [.mk (some 2) none .mv [.k (.d (.bool true))]]) .ret) .skip)))
  (.seq (.fgt [0, 2, 3]) (.reg none [.mk (some 8) none .mv [.t 3], .mk (some 9) none (.bin .add (.nil 10)) [.t 8, .k (.d (.int .i64 (.ofNat 1)))], .mk (some 3) none .mv [.t 9]]))))))))
  (.seq (.fgt [2]) (.seq (.reg none [.mk (some 2) none .mv [.k (.d (.bool false))]]) .ret))))
  [.tmp 2]
theorem code157_ok : F0 157 = some (.code code157) := by kernel_rfl
def code119 : CFn :=
  .mk
  (.seq (.reg none [.mk (some 4) none .mv [.k (.d (.bool false))]])
  (.seq
  (.seq (.reg none [.mk (some 5) none .mv [.k (.d (.int .i64 (.ofNat 0)))]])
  (.block 0
  (.loop [0, 1, 4, 5]
  (.seq (.seq (.reg none [.mk (some 6) none .mv [.t 5], .mk (some 7) none .mv [.t 1], .mk (some 8) none .len [.t 7], .mk (some 9) none (.bin .lss (.nil 10)) [.t 6, .t 8]]) (.cond (.t 9) .skip (.exit 0)))
  (.seq (.fgt [0, 1, 4, 5])
  (.seq
  (.block 1
  (.seq
  (.reg none
  [.mk (some 12) none .mv [.t 0], .mk (some 13) none .mv [.t 1], .mk (some 14) none .mv [.t 5], .mk (some 15) none (.iad 1) [.t 13, .t 14], .mk (some 16) none (.load none) [.t 15],
  .mk (some 17) none (.call false) [.k (.fn .pure 83 [] []), .t 12, .t 16]])
  (.cond (.t 17) (.seq (.reg none [.mk (some 4) none .mv [.k (.d (.bool true))]]) .ret) .skip)))
  (.seq (.fgt [0, 1, 4, 5]) (.reg none [.mk (some 10) none .mv [.t 5], .mk (some 11) none (.bin .add (.nil 10)) [.t 10, .k (.d (.int .i64 (.ofNat 1)))], .mk (some 5) none .mv [.t 11]]))))))))
  (.seq (.fgt [4]) (.seq (.reg none [.mk (some 4) none .mv [.k (.d (.bool false))]]) .ret))))
  [.tmp 4]
theorem code119_ok : F0 119 = some (.code code119) := by kernel_rfl
def code37 : CFn :=
  .mk
  (.seq
  (.reg none [.mk (some 6) none (.new 26 [.d (.int .i64 (.ofNat 0)), .d (.int .i64 (.ofNat 0))]) [], .mk (some 7) none .mv [.k (.d (.int .i64 (.ofNat 0)))], .mk (some 8) none .mv [.k (.d (.int .i64 (.ofNat 0)))]])
  (.seq
  (.reg none
  [.mk (some 15) none .mv [.t 0], .mk (some 16) none .mv [.t 1], .mk (some 17) none (.call false) [.k (.fn .pure 82 [] []), .t 15, .t 16],
  .mk (some 9) none (.new 72 [.d (.int .i64 (.ofNat 0)), .d (.int .i64 (.ofNat 0)), .d (.str []), .d (.str [])]) [], .mk none none (.storeT 4) [.t 9, .t 17]])
  (.seq
  (.seq (.reg none [.mk (some 18) none (.load (some 4)) [.t 9], .mk (some 19) none (.call false) [.k (.fn .pure 84 [] []), .t 18]])
  (.cond (.t 19)
  (.seq
  (.reg none
  [.mk (some 20) none (.build [.d (.int .i64 (.ofNat 0)), .d (.int .i64 (.ofNat 0))] []) [], .mk (some 21) none .mv [.t 1], .mk none none (.storeT 2) [.t 6, .t 20], .mk (some 7) none .mv [.t 21],
  .mk (some 8) none .mv [.k (.d (.int .i64 (.ofNat 51)))]])
  .ret)
  .skip))
  (.seq (.fgt [1, 2, 6, 7, 8, 9])
  (.seq
  (.reg none
  [.mk (some 23) none (.load (some 4)) [.t 9], .mk (some 24) none (.call false) [.k (.fn .pure 85 [] []), .t 23], .mk (some 22) none .mv [.t 24], .mk (some 25) none (.ext 0) [.t 22], .mk (some 26) none (.ext 1) [.t 22],
  .mk (some 10) none .mv [.t 25], .mk (some 11) none .mv [.t 26]])
  (.seq
  (.reg none
  [.mk (some 27) none .mv [.t 10], .mk (some 28) none (.build [.d (.int .i64 (.ofNat 0)), .d (.int .i64 (.ofNat 0))] [(0, 1)]) [.t 27],
  .mk (some 12) none (.new 26 [.d (.int .i64 (.ofNat 0)), .d (.int .i64 (.ofNat 0))]) [], .mk none none (.storeT 2) [.t 12, .t 28]])
  (.seq
  (.seq
  (.reg none
  [.mk (some 29) none .mv [.t 10], .mk (some 30) none (.bin .eql (.nil 10)) [.t 29, .k (.d (.int .i64 (.ofNat 0)))], .mk (some 31) none .mv [.t 30], .mk (some 32) (some (31, false)) (.load (some 2)) [.t 12],
  .mk (some 33) (some (31, false)) .mv [.t 2], .mk (some 34) (some (31, false)) (.call false) [.k (.fn .pure 86 [] []), .t 32, .t 33], .mk (some 35) (some (31, false)) (.un .not) [.t 34],
  .mk (some 36) none .pick [.t 31, .k (.d (.bool true)), .t 35]])
  (.cond (.t 36)
  (.seq
  (.reg none
  [.mk (some 37) none (.build [.d (.int .i64 (.ofNat 0)), .d (.int .i64 (.ofNat 0))] []) [], .mk (some 38) none .mv [.t 1], .mk none none (.storeT 2) [.t 6, .t 37], .mk (some 7) none .mv [.t 38],
  .mk (some 8) none .mv [.k (.d (.int .i64 (.ofNat 50)))]])
  .ret)
  .skip))
  (.seq (.fgt [1, 2, 6, 7, 8, 9, 10, 11, 12])
  (.seq
  (.seq (.reg none [.mk (some 39) none .mv [.t 11], .mk (some 40) none (.bin .eql (.nil 10)) [.t 39, .k (.d (.int .i64 (.ofNat 0)))]])
  (.cond (.t 40)
  (.seq
  (.reg none
  [.mk (some 41) none (.load (some 2)) [.t 12], .mk (some 42) none .mv [.t 1], .mk (some 43) none (.bin .add (.nil 10)) [.t 42, .k (.d (.int .i64 (.ofNat 1)))], .mk none none (.storeT 2) [.t 6, .t 41],
  .mk (some 7) none .mv [.t 43], .mk (some 8) none .mv [.k (.d (.int .i64 (.ofNat 0)))]])
  .ret)
  .skip))
  (.seq (.fgt [1, 2, 6, 7, 8, 9, 10, 11, 12])
  (.seq
  (.reg none
  [.mk (some 45) none (.fad 3) [.t 9], .mk (some 46) none (.load none) [.t 45], .mk (some 47) none .mv [.t 11], .mk (some 48) none (.call false) [.k (.fn .pure 87 [] []), .t 46, .t 47], .mk (some 44) none .mv [.t 48],
  .mk (some 49) none (.ext 0) [.t 44], .mk (some 50) none (.ext 1) [.t 44], .mk (some 13) none .mv [.t 49], .mk (some 14) none .mv [.t 50]])
  (.seq
  (.seq (.reg none [.mk (some 51) none .mv [.t 14], .mk (some 52) none (.bin .eql (.nil 10)) [.t 51, .k (.d (.int .i64 (.ofNat 10)))]])
  (.cond (.t 52)
  (.seq
  (.reg none
  [.mk (some 53) none (.build [.d (.int .i64 (.ofNat 0)), .d (.int .i64 (.ofNat 0))] []) [], .mk (some 54) none .mv [.t 1], .mk none none (.storeT 2) [.t 6, .t 53], .mk (some 7) none .mv [.t 54],
  .mk (some 8) none .mv [.k (.d (.int .i64 (.ofNat 10)))]])
  .ret)
  .skip))
  (.seq (.fgt [1, 2, 6, 7, 8, 10, 12, 13, 14])
  (.seq
  (.seq (.reg none [.mk (some 55) none .mv [.t 14], .mk (some 56) none (.bin .neq (.nil 10)) [.t 55, .k (.d (.int .i64 (.ofNat 0)))]])
  (.cond (.t 56)
  (.seq
  (.reg none
  [.mk (some 57) none (.build [.d (.int .i64 (.ofNat 0)), .d (.int .i64 (.ofNat 0))] []) [], .mk (some 58) none .mv [.t 1], .mk none none (.storeT 2) [.t 6, .t 57], .mk (some 7) none .mv [.t 58],
  .mk (some 8) none .mv [.k (.d (.int .i64 (.ofNat 50)))]])
  .ret)
  .skip))
  (.seq (.fgt [1, 2, 6, 7, 8, 10, 12, 13])
  (.seq (.reg none [.mk (some 59) none .mv [.t 13], .mk (some 60) none (.fad 1) [.t 12], .mk none none (.storeT 1) [.t 60, .t 59]])
  (.seq
  (.seq (.reg none [.mk (some 61) none (.load (some 2)) [.t 12], .mk (some 62) none .mv [.t 2], .mk (some 63) none (.call false) [.k (.fn .pure 86 [] []), .t 61, .t 62]])
  (.cond (.t 63)
  (.seq
  (.reg none
  [.mk (some 64) none (.load (some 2)) [.t 12], .mk (some 65) none .mv [.t 1], .mk (some 66) none (.bin .add (.nil 10)) [.t 65, .k (.d (.int .i64 (.ofNat 1)))],
  .mk none none (.storeT 2) [.t 6, .t 64], .mk (some 7) none .mv [.t 66], .mk (some 8) none .mv [.k (.d (.int .i64 (.ofNat 0)))]])
  .ret)
  .skip))
  (.seq (.fgt [1, 2, 6, 7, 8, 10, 13])
  (.seq
  (.seq
  (.reg none
  [.mk (some 67) none .mv [.t 13], .mk (some 68) none (.bin .gtr (.nil 10)) [.t 67, .k (.d (.int .i64 (.ofNat 0)))], .mk (some 69) none .mv [.t 68], .mk (some 70) (some (69, false)) .mv [.t 10],
  .mk (some 71) (some (69, false)) (.build [.d (.int .i64 (.ofNat 0)), .d (.int .i64 (.ofNat 0))] [(0, 1), (1, 1)]) [.t 70, .k (.d (.int .i64 (.negSucc 0)))],
  .mk (some 72) (some (69, false)) .mv [.t 2], .mk (some 73) (some (69, false)) (.call false) [.k (.fn .pure 86 [] []), .t 71, .t 72], .mk (some 74) none .pick [.t 69, .k (.d (.bool true)), .t 73]])
  (.cond (.t 74)
  (.seq
  (.reg none
  [.mk (some 75) none (.build [.d (.int .i64 (.ofNat 0)), .d (.int .i64 (.ofNat 0))] []) [], .mk (some 76) none .mv [.t 1], .mk none none (.storeT 2) [.t 6, .t 75],
  .mk (some 7) none .mv [.t 76], .mk (some 8) none .mv [.k (.d (.int .i64 (.ofNat 10)))]])
  .ret)
  .skip))
  (.seq (.fgt [1, 6, 7, 8])
  (.seq
  (.reg none
  [.mk (some 77) none (.build [.d (.int .i64 (.ofNat 0)), .d (.int .i64 (.ofNat 0))] []) [], .mk (some 78) none .mv [.t 1], .mk none none (.storeT 2) [.t 6, .t 77],
  .mk (some 7) none .mv [.t 78], .mk (some 8) none .mv [.k (.d (.int .i64 (.ofNat 50)))]])
  .ret)))))))))))))))))))))
  [.cell 6 (some 2), .tmp 7, .tmp 8]
theorem code37_ok : F0 37 = some (.code code37) := by kernel_rfl
def code38 : CFn :=
  .mk
  (.seq (.reg none [.mk (some 6) none .mv [.k (.d (.bool false))]])
  (.seq
  (.reg none
  [.mk (some 8) none .mv [.t 0], .mk (some 9) none .mv [.t 1], .mk (some 10) none (.call false) [.k (.fn .pure 82 [] []), .t 8, .t 9],
  .mk (some 7) none (.new 72 [.d (.int .i64 (.ofNat 0)), .d (.int .i64 (.ofNat 0)), .d (.str []), .d (.str [])]) [], .mk none none (.storeT 4) [.t 7, .t 10]])
  (.seq
  (.reg none
  [.mk (some 11) none (.fad 0) [.t 7], .mk (some 12) none (.load none) [.t 11], .mk (some 13) none (.bin .eql (.nil 10)) [.t 12, .k (.d (.int .i64 (.ofNat 7)))], .mk (some 14) none .mv [.t 13],
  .mk (some 15) (some (14, true)) (.fad 2) [.t 7], .mk (some 16) (some (14, true)) (.load none) [.t 15], .mk (some 17) (some (14, true)) .mv [.t 2], .mk (some 18) (some (14, true)) (.bin .eql (.nil 10)) [.t 16, .t 17],
  .mk (some 19) none .pick [.t 14, .t 18, .k (.d (.bool false))], .mk (some 6) none .mv [.t 19]])
  .ret)))
  [.tmp 6]
theorem code38_ok : F0 38 = some (.code code38) := by kernel_rfl
def code82 : CFn :=
  .mk
  (.seq (.reg none [.mk (some 4) none (.new 72 [.d (.int .i64 (.ofNat 0)), .d (.int .i64 (.ofNat 0)), .d (.str []), .d (.str [])]) []])
  (.seq
  (.seq
  (.reg none
  [.mk (some 5) none .mv [.t 1], .mk (some 6) none (.bin .lss (.nil 10)) [.t 5, .k (.d (.int .i64 (.ofNat 0)))], .mk (some 7) none .mv [.t 6], .mk (some 8) (some (7, false)) .mv [.t 1],
  .mk (some 9) (some (7, false)) .mv [.t 0], .mk (some 10) (some (7, false)) .len [.t 9], .mk (some 11) (some (7, false)) (.bin .geq (.nil 10)) [.t 8, .t 10], .mk (some 12) none .pick [.t 7, .k (.d (.bool true)), .t 11]])
  (.cond (.t 12)
  (.seq (.reg none [.mk (some 13) none (.build [.d (.int .i64 (.ofNat 0)), .d (.int .i64 (.ofNat 0)), .d (.str []), .d (.str [])] [(0, 1)]) [.k (.d (.int .i64 (.ofNat 8)))], .mk none none (.storeT 4) [.t 4, .t 13]])
  .ret)
  .skip))
  (.seq (.fgt [0, 1, 4])
  (.seq (.reg none [.mk (some 14) none .mv [.t 0], .mk (some 15) none .mv [.t 1], .mk (some 16) none (.iad 4) [.t 14, .t 15], .mk (some 17) none (.load (some 4)) [.t 16], .mk none none (.storeT 4) [.t 4, .t 17]]) .ret))))
  [.cell 4 (some 4)]
theorem code82_ok : F0 82 = some (.code code82) := by kernel_rfl
def code84 : CFn :=
  .mk
  (.seq (.reg none [.mk (some 1) none (.box 72) [.t 0], .mk (some 2) none .mv [.k (.d (.bool false))]])
  (.seq
  (.seq (.reg none [.mk (some 3) none (.fad 0) [.t 1], .mk (some 4) none (.load none) [.t 3]])
  (.block 0
  (.seq (.reg none [.mk (some 6) none (.bin .eql (.nil 10)) [.t 4, .k (.d (.int .i64 (.ofNat 5)))], .mk (some 5) none .mv [.t 6]])
  (.cond (.t 5)
  (.seq
  (.reg none
  [.mk (some 7) none (.fad 2) [.t 1], .mk (some 8) none (.load none) [.t 7],
  .mk (some 9) none (.bslT 9 1 [.str []] 14 [0, 1, 2, 3, 4, 5, 6, 7, 8, 9, 10, 11, 12, 13])
  [.k (.d (.str [.ofNat 101, .ofNat 109])), .k (.d (.str [.ofNat 114, .ofNat 101, .ofNat 109])), .k (.d (.str [.ofNat 101, .ofNat 120])), .k (.d (.str [.ofNat 99, .ofNat 104])),
  .k (.d (.str [.ofNat 118, .ofNat 119])), .k (.d (.str [.ofNat 118, .ofNat 104])), .k (.d (.str [.ofNat 118, .ofNat 109, .ofNat 105, .ofNat 110])),
  .k (.d (.str [.ofNat 118, .ofNat 109, .ofNat 97, .ofNat 120])), .k (.d (.str [.ofNat 99, .ofNat 109])), .k (.d (.str [.ofNat 109, .ofNat 109])), .k (.d (.str [.ofNat 113])),
  .k (.d (.str [.ofNat 105, .ofNat 110])), .k (.d (.str [.ofNat 112, .ofNat 99])), .k (.d (.str [.ofNat 112, .ofNat 116]))],
  .mk (some 10) none (.call false) [.k (.fn .pure 119 [] []), .t 8, .t 9], .mk (some 2) none .mv [.t 10]])
  .ret)
  (.seq (.reg none [.mk (some 12) none (.bin .eql (.nil 10)) [.t 4, .k (.d (.int .i64 (.ofNat 2)))], .mk (some 11) none .mv [.t 12]])
  (.cond (.t 11)
  (.seq
  (.reg none
  [.mk (some 13) none (.fad 2) [.t 1], .mk (some 14) none (.load none) [.t 13],
  .mk (some 15) none (.bslT 9 1 [.str []] 6 [0, 1, 2, 3, 4, 5])
  [.k (.d (.str [.ofNat 99, .ofNat 97, .ofNat 108, .ofNat 99])), .k (.d (.str [.ofNat 109, .ofNat 105, .ofNat 110])), .k (.d (.str [.ofNat 109, .ofNat 97, .ofNat 120])),
  .k (.d (.str [.ofNat 99, .ofNat 108, .ofNat 97, .ofNat 109, .ofNat 112])), .k (.d (.str [.ofNat 101, .ofNat 110, .ofNat 118])), .k (.d (.str [.ofNat 118, .ofNat 97, .ofNat 114]))],
  .mk (some 16) none (.call false) [.k (.fn .pure 119 [] []), .t 14, .t 15], .mk (some 2) none .mv [.t 16]])
  .ret)
  (.seq (.reg none [.mk (some 18) none (.bin .eql (.nil 10)) [.t 4, .k (.d (.int .i64 (.ofNat 1)))], .mk (some 17) none .mv [.t 18]])
  (.cond (.t 17)
  (.seq
  (.reg none
  [.mk (some 19) none (.fad 2) [.t 1], .mk (some 20) none (.load none) [.t 19],
  .mk (some 21) none (.bslT 9 1 [.str []] 4 [0, 1, 2, 3])
  [.k (.d (.str [.ofNat 105, .ofNat 110, .ofNat 104, .ofNat 101, .ofNat 114, .ofNat 105, .ofNat 116])),
  .k (.d (.str [.ofNat 105, .ofNat 110, .ofNat 105, .ofNat 116, .ofNat 105, .ofNat 97, .ofNat 108])), .k (.d (.str [.ofNat 117, .ofNat 110, .ofNat 115, .ofNat 101, .ofNat 116])),
  .k (.d (.str [.ofNat 114, .ofNat 101, .ofNat 118, .ofNat 101, .ofNat 114, .ofNat 116]))],
  .mk (some 22) none (.call false) [.k (.fn .pure 119 [] []), .t 20, .t 21], .mk (some 2) none .mv [.t 22]])
  .ret)
  .skip))))))))
  (.seq (.fgt [2]) (.seq (.reg none [.mk (some 2) none .mv [.k (.d (.bool false))]]) .ret))))
  [.tmp 2]
theorem code84_ok : F0 84 = some (.code code84) := by kernel_rfl
def code85 : CFn :=
  .mk
  (.seq (.reg none [.mk (some 1) none (.box 72) [.t 0], .mk (some 2) none .mv [.k (.d (.int .i64 (.ofNat 0)))], .mk (some 3) none .mv [.k (.d (.int .i64 (.ofNat 0)))]])
  (.seq
  (.seq (.reg none [.mk (some 6) none (.fad 0) [.t 1], .mk (some 7) none (.load none) [.t 6]])
  (.block 0
  (.seq (.reg none [.mk (some 9) none (.bin .eql (.nil 10)) [.t 7, .k (.d (.int .i64 (.ofNat 5)))], .mk (some 8) none .mv [.t 9]])
  (.cond (.t 8)
  (.seq
  (.seq (.reg none [.mk (some 10) none (.fad 2) [.t 1], .mk (some 11) none (.load none) [.t 10], .mk (some 12) none (.call false) [.k (.fn .pure 83 [] []), .t 11, .k (.d (.str [.ofNat 112, .ofNat 120]))]])
  (.cond (.t 12) (.seq (.reg none [.mk (some 2) none .mv [.k (.d (.int .i64 (.ofNat 2)))], .mk (some 3) none .mv [.k (.d (.int .i64 (.ofNat 64)))]]) .ret) .skip))
  (.seq (.fgt [1, 2, 3])
  (.seq (.reg none [.mk (some 13) none (.fad 2) [.t 1], .mk (some 14) none (.load none) [.t 13], .mk (some 15) none (.call false) [.k (.fn .pure 83 [] []), .t 14, .k (.d (.str [.ofNat 102, .ofNat 114]))]])
  (.cond (.t 15) (.seq (.reg none [.mk (some 2) none .mv [.k (.d (.int .i64 (.ofNat 6)))], .mk (some 3) none .mv [.k (.d (.int .i64 (.ofNat 1000)))]]) .ret) .skip))))
  (.seq (.reg none [.mk (some 17) none (.bin .eql (.nil 10)) [.t 7, .k (.d (.int .i64 (.ofNat 4)))], .mk (some 16) none .mv [.t 17]])
  (.cond (.t 16) (.seq (.reg none [.mk (some 2) none .mv [.k (.d (.int .i64 (.ofNat 3)))], .mk (some 3) none .mv [.k (.d (.int .i64 (.ofNat 1000)))]]) .ret)
  (.seq (.reg none [.mk (some 19) none (.bin .eql (.nil 10)) [.t 7, .k (.d (.int .i64 (.ofNat 3)))], .mk (some 18) none .mv [.t 19]])
  (.cond (.t 18)
  (.seq (.reg none [.mk (some 20) none (.fad 3) [.t 1], .mk (some 21) none (.load none) [.t 20], .mk (some 22) none (.call false) [.k (.fn .pure 120 [] []), .t 21]])
  (.cond (.t 22) (.seq (.reg none [.mk (some 2) none .mv [.k (.d (.int .i64 (.ofNat 2)))], .mk (some 3) none .mv [.k (.d (.int .i64 (.ofNat 0)))]]) .ret) .skip))
  (.seq (.reg none [.mk (some 24) none (.bin .eql (.nil 10)) [.t 7, .k (.d (.int .i64 (.ofNat 1)))], .mk (some 23) none .mv [.t 24]])
  (.cond (.t 23)
  (.seq
  (.reg none
  [.mk (some 25) none (.bslT 9 1 [.str []] 7 [0, 1, 2, 3, 4, 5, 6])
  [.k (.d (.str [.ofNat 97, .ofNat 117, .ofNat 116, .ofNat 111])), .k (.d (.str [])), .k (.d (.str [])),
  .k (.d (.str [.ofNat 109, .ofNat 105, .ofNat 110, .ofNat 45, .ofNat 99, .ofNat 111, .ofNat 110, .ofNat 116, .ofNat 101, .ofNat 110, .ofNat 116])),
  .k (.d (.str [.ofNat 109, .ofNat 97, .ofNat 120, .ofNat 45, .ofNat 99, .ofNat 111, .ofNat 110, .ofNat 116, .ofNat 101, .ofNat 110, .ofNat 116])), .k (.d (.str [])),
  .k (.d (.str [.ofNat 110, .ofNat 111, .ofNat 110, .ofNat 101]))],
  .mk (some 4) none .mv [.t 25]])
  (.seq (.reg none [.mk (some 5) none .mv [.k (.d (.int .i64 (.ofNat 0)))]])
  (.block 1
  (.loop [1, 2, 3, 4, 5]
  (.seq
  (.seq (.reg none [.mk (some 26) none .mv [.t 5], .mk (some 27) none .mv [.t 4], .mk (some 28) none .len [.t 27], .mk (some 29) none (.bin .lss (.nil 10)) [.t 26, .t 28]]) (.cond (.t 29) .skip (.exit 1)))
  (.seq (.fgt [1, 2, 3, 4, 5])
  (.seq
  (.block 2
  (.seq
  (.reg (some [])
  [.mk (some 32) none .mv [.t 4], .mk (some 33) none .mv [.t 5], .mk (some 34) none (.iad 1) [.t 32, .t 33], .mk (some 35) none (.load none) [.t 34],
  .mk (some 36) none (.bin .neq (.nil 10)) [.t 35, .k (.d (.str []))], .mk (some 37) none .mv [.t 36], .mk (some 38) (some (37, true)) (.fad 2) [.t 1],
  .mk (some 39) (some (37, true)) (.load none) [.t 38], .mk (some 40) (some (37, true)) .mv [.t 4], .mk (some 41) (some (37, true)) .mv [.t 5], .mk (some 42) (some (37, true)) (.iad 1) [.t 40, .t 41],
  .mk (some 43) (some (37, true)) (.load none) [.t 42], .mk (some 44) (some (37, true)) (.call true) [.k (.fn .pure 83 [] []), .t 39, .t 43],
  .mk (some 45) none .pick [.t 37, .t 44, .k (.d (.bool false))]])
  (.cond (.t 45)
  (.seq
  (.reg none
  [.mk (some 46) none .mv [.t 5], .mk (some 47) none (.bin .add (.nil 10)) [.t 46, .k (.d (.int .i64 (.ofNat 1)))], .mk (some 2) none .mv [.t 47],
  .mk (some 3) none .mv [.k (.d (.int .i64 (.ofNat 0)))]])
  .ret)
  .skip)))
  (.seq (.fgt [1, 2, 3, 4, 5]) (.reg none [.mk (some 30) none .mv [.t 5], .mk (some 31) none (.bin .add (.nil 10)) [.t 30, .k (.d (.int .i64 (.ofNat 1)))], .mk (some 5) none .mv [.t 31]])))))))))
  .skip))))))))))
  (.seq (.fgt [2, 3]) (.seq (.reg none [.mk (some 2) none .mv [.k (.d (.int .i64 (.ofNat 0)))], .mk (some 3) none .mv [.k (.d (.int .i64 (.ofNat 0)))]]) .ret))))
  [.tmp 2, .tmp 3]
theorem code85_ok : F0 85 = some (.code code85) := by kernel_rfl
def code120 : CFn :=
  .mk
  (.seq (.reg none [.mk (some 2) none .mv [.k (.d (.bool false))]])
  (.seq
  (.seq (.reg none [.mk (some 3) none .mv [.k (.d (.int .i64 (.ofNat 0)))]])
  (.block 0
  (.loop [0, 2, 3]
  (.seq (.seq (.reg none [.mk (some 4) none .mv [.t 3], .mk (some 5) none .mv [.t 0], .mk (some 6) none .lens [.t 5], .mk (some 7) none (.bin .lss (.nil 10)) [.t 4, .t 6]]) (.cond (.t 7) .skip (.exit 0)))
  (.seq (.fgt [0, 2, 3])
  (.seq
  (.block 1
  (.seq
  (.seq
  (.reg none
  [.mk (some 10) none .mv [.t 0], .mk (some 11) none .mv [.t 3], .mk (some 12) none .idxs [.t 10, .t 11], .mk (some 13) none (.bin .eql (.nil 10)) [.t 12, .k (.d (.int .u8 (.ofNat 101)))],
  .mk (some 14) none .mv [.t 13], .mk (some 15) (some (14, false)) .mv [.t 0], .mk (some 16) (some (14, false)) .mv [.t 3], .mk (some 17) (some (14, false)) .idxs [.t 15, .t 16],
  .mk (some 18) (some (14, false)) (.bin .eql (.nil 10)) [.t 17, .k (.d (.int .u8 (.ofNat 69)))], .mk (some 19) none .pick [.t 14, .k (.d (.bool true)), .t 18]])
  (.cond (.t 19) (.seq (.reg none [.mk (some 2) none .mv [.k (.d (.bool true))]]) .ret) .skip))
  (.seq (.fgt [0, 2, 3])
  (.seq
  (.reg none
  [.mk (some 20) none .mv [.t 0], .mk (some 21) none .mv [.t 3], .mk (some 22) none .idxs [.t 20, .t 21], .mk (some 23) none (.bin .neq (.nil 10)) [.t 22, .k (.d (.int .u8 (.ofNat 43)))],
  .mk (some 24) none .mv [.t 23], .mk (some 25) (some (24, true)) .mv [.t 0], .mk (some 26) (some (24, true)) .mv [.t 3], .mk (some 27) (some (24, true)) .idxs [.t 25, .t 26],
  .mk (some 28) (some (24, true)) (.bin .neq (.nil 10)) [.t 27, .k (.d (.int .u8 (.ofNat 45)))], .mk (some 29) none .pick [.t 24, .t 28, .k (.d (.bool false))], .mk (some 30) none .mv [.t 29],
  .mk (some 31) (some (30, true)) .mv [.t 0], .mk (some 32) (some (30, true)) .mv [.t 3], .mk (some 33) (some (30, true)) .idxs [.t 31, .t 32],
  .mk (some 34) (some (30, true)) (.bin .neq (.nil 10)) [.t 33, .k (.d (.int .u8 (.ofNat 46)))], .mk (some 35) none .pick [.t 30, .t 34, .k (.d (.bool false))], .mk (some 36) none .mv [.t 35],
  .mk (some 37) (some (36, true)) .mv [.t 0], .mk (some 38) (some (36, true)) .mv [.t 3], .mk (some 39) (some (36, true)) .idxs [.t 37, .t 38],
  .mk (some 40) (some (36, true)) (.bin .neq (.nil 10)) [.t 39, .k (.d (.int .u8 (.ofNat 48)))], .mk (some 41) none .pick [.t 36, .t 40, .k (.d (.bool false))]])
  (.cond (.t 41) (.seq (.reg none [.mk (some 2) none .mv [.k (.d (.bool false))]]) .ret) .skip)))))
  (.seq (.fgt [0, 2, 3]) (.reg none [.mk (some 8) none .mv [.t 3], .mk (some 9) none (.bin .add (.nil 10)) [.t 8, .k (.d (.int .i64 (.ofNat 1)))], .mk (some 3) none .mv [.t 9]]))))))))
  (.seq (.fgt [2]) (.seq (.reg none [.mk (some 2) none .mv [.k (.d (.bool true))]]) .ret))))
  [.tmp 2]
theorem code120_ok : F0 120 = some (.code code120) := by kernel_rfl
def code46 : CFn :=
  .mk
  (.seq (.reg none [.mk (some 4) none .mv [.k (.d (.bool false))]])
  (.seq
  (.reg none
  [.mk (some 9) none .mv [.t 0], .mk (some 10) none .mv [.t 1], .mk (some 11) none (.call false) [.k (.fn .pure 37 [] []), .t 9, .t 10, .k (.d (.int .i64 (.ofNat 29)))], .mk (some 8) none .mv [.t 11],
  .mk (some 12) none (.ext 0) [.t 8], .mk (some 13) none (.ext 1) [.t 8], .mk (some 14) none (.ext 2) [.t 8], .mk (some 5) none (.new 26 [.d (.int .i64 (.ofNat 0)), .d (.int .i64 (.ofNat 0))]) [],
  .mk none none (.storeT 2) [.t 5, .t 12], .mk (some 6) none .mv [.t 13], .mk (some 7) none .mv [.t 14]])
  (.seq
  (.reg none
  [.mk (some 15) none .mv [.t 7], .mk (some 16) none (.bin .eql (.nil 10)) [.t 15, .k (.d (.int .i64 (.ofNat 0)))], .mk (some 17) none .mv [.t 16], .mk (some 18) (some (17, false)) .mv [.t 0],
  .mk (some 19) (some (17, false)) .mv [.t 1], .mk (some 20) (some (17, false)) (.call false) [.k (.fn .pure 36 [] []), .t 18, .t 19, .k (.d (.str [.ofNat 109, .ofNat 105, .ofNat 110, .ofNat 109, .ofNat 97, .ofNat 120]))],
  .mk (some 21) none .pick [.t 17, .k (.d (.bool true)), .t 20], .mk (some 22) none .mv [.t 21], .mk (some 23) (some (22, false)) .mv [.t 0], .mk (some 24) (some (22, false)) .mv [.t 1],
  .mk (some 25) (some (22, false)) (.call false)
  [.k (.fn .pure 36 [] []), .t 23, .t 24, .k (.d (.str [.ofNat 102, .ofNat 105, .ofNat 116, .ofNat 45, .ofNat 99, .ofNat 111, .ofNat 110, .ofNat 116, .ofNat 101, .ofNat 110, .ofNat 116]))],
  .mk (some 26) none .pick [.t 22, .k (.d (.bool true)), .t 25], .mk (some 4) none .mv [.t 26]])
  .ret)))
  [.tmp 4]
theorem code46_ok : F0 46 = some (.code code46) := by kernel_rfl
def code14 : CFn :=
  .mk
  (.seq (.reg none [.mk (some 4) none .mv [.k (.d .nilsl)], .mk (some 5) none .mv [.k (.d (.int .i64 (.ofNat 0)))], .mk (some 6) none .mv [.k (.d (.int .i64 (.ofNat 0)))]])
  (.seq
  (.seq (.reg none [.mk (some 7) none .mv [.t 0], .mk (some 8) none .mv [.t 1], .mk (some 9) none (.call false) [.k (.fn .pure 38 [] []), .t 7, .t 8, .k (.d (.str [.ofNat 91]))], .mk (some 10) none (.un .not) [.t 9]])
  (.cond (.t 10) (.seq (.reg none [.mk (some 11) none .mv [.t 1], .mk (some 4) none .mv [.k (.d .nilsl)], .mk (some 5) none .mv [.t 11], .mk (some 6) none .mv [.k (.d (.int .i64 (.ofNat 50)))]]) .ret) .skip))
  (.seq (.fgt [0, 1, 4, 5, 6])
  (.seq
  (.reg none
  [.mk (some 12) none .mv [.t 0], .mk (some 13) none .mv [.t 1], .mk (some 14) none (.call false) [.k (.fn .pure 42 [] []), .t 12, .t 13], .mk (some 15) none (.ext 0) [.t 14], .mk (some 16) none (.ext 1) [.t 14],
  .mk (some 17) none (.ext 2) [.t 14], .mk (some 4) none .mv [.t 15], .mk (some 5) none .mv [.t 16], .mk (some 6) none .mv [.t 17]])
  .ret))))
  [.tmp 4, .tmp 5, .tmp 6]
theorem code14_ok : F0 14 = some (.code code14) := by kernel_rfl
def code39 : CFn :=
  .mk
  (.seq
  (.reg none
  [.mk (some 1) none (.box 26) [.t 0],
  .mk (some 2) none
  (.new 28 [.d (.int .i64 (.ofNat 0)), .d (.int .i64 (.ofNat 0)), .d (.int .i64 (.ofNat 0)), .d (.int .i64 (.ofNat 0)), .d (.bool false), .d (.int .i64 (.ofNat 0)), .d (.int .i64 (.ofNat 0))]) []])
  (.seq
  (.seq (.reg none [.mk (some 3) none (.fad 0) [.t 1], .mk (some 4) none (.load none) [.t 3], .mk (some 5) none (.bin .eql (.nil 10)) [.t 4, .k (.d (.int .i64 (.ofNat 6)))]])
  (.cond (.t 5)
  (.seq
  (.reg none
  [.mk (some 6) none (.build [.d (.int .i64 (.ofNat 0)), .d (.int .i64 (.ofNat 0))] [(0, 1)]) [.k (.d (.int .i64 (.ofNat 1)))], .mk (some 7) none (.load (some 2)) [.t 1],
  .mk (some 8) none
  (.build [.d (.int .i64 (.ofNat 0)), .d (.int .i64 (.ofNat 0)), .d (.int .i64 (.ofNat 0)), .d (.int .i64 (.ofNat 0)), .d (.bool false), .d (.int .i64 (.ofNat 0)), .d (.int .i64 (.ofNat 0))]
  [(0, 2), (2, 2)])
  [.t 6, .t 7],
  .mk none none (.storeT 7) [.t 2, .t 8]])
  .ret)
  .skip))
  (.seq (.fgt [1, 2])
  (.seq
  (.reg none
  [.mk (some 9) none (.load (some 2)) [.t 1], .mk (some 10) none (.load (some 2)) [.t 1],
  .mk (some 11) none
  (.build [.d (.int .i64 (.ofNat 0)), .d (.int .i64 (.ofNat 0)), .d (.int .i64 (.ofNat 0)), .d (.int .i64 (.ofNat 0)), .d (.bool false), .d (.int .i64 (.ofNat 0)), .d (.int .i64 (.ofNat 0))]
  [(0, 2), (2, 2)])
  [.t 9, .t 10],
  .mk none none (.storeT 7) [.t 2, .t 11]])
  .ret))))
  [.cell 2 (some 7)]
theorem code39_ok : F0 39 = some (.code code39) := by kernel_rfl
def code12 : CFn :=
  .mk
  (.seq
  (.reg none
  [.mk (some 4) none
  (.new 28 [.d (.int .i64 (.ofNat 0)), .d (.int .i64 (.ofNat 0)), .d (.int .i64 (.ofNat 0)), .d (.int .i64 (.ofNat 0)), .d (.bool false), .d (.int .i64 (.ofNat 0)), .d (.int .i64 (.ofNat 0))]) [],
  .mk (some 5) none .mv [.k (.d (.int .i64 (.ofNat 0)))], .mk (some 6) none .mv [.k (.d (.int .i64 (.ofNat 0)))]])
  (.seq
  (.reg none
  [.mk (some 20) none
  (.build [.d (.int .i64 (.ofNat 0)), .d (.int .i64 (.ofNat 0)), .d (.int .i64 (.ofNat 0)), .d (.int .i64 (.ofNat 0)), .d (.bool false), .d (.int .i64 (.ofNat 0)), .d (.int .i64 (.ofNat 0))] []) [],
  .mk (some 7) none
  (.new 28 [.d (.int .i64 (.ofNat 0)), .d (.int .i64 (.ofNat 0)), .d (.int .i64 (.ofNat 0)), .d (.int .i64 (.ofNat 0)), .d (.bool false), .d (.int .i64 (.ofNat 0)), .d (.int .i64 (.ofNat 0))]) [],
  .mk none none (.storeT 7) [.t 7, .t 20]])
  (.seq
  (.seq
  (.reg none
  [.mk (some 21) none .mv [.t 0], .mk (some 22) none .mv [.t 1],
  .mk (some 23) none (.call false)
  [.k (.fn .pure 36 [] []), .t 21, .t 22, .k (.d (.str [.ofNat 102, .ofNat 105, .ofNat 116, .ofNat 45, .ofNat 99, .ofNat 111, .ofNat 110, .ofNat 116, .ofNat 101, .ofNat 110, .ofNat 116]))]])
  (.cond (.t 23)
  (.seq
  (.reg none
  [.mk (some 25) none .mv [.t 0], .mk (some 26) none .mv [.t 1], .mk (some 27) none (.bin .add (.nil 10)) [.t 26, .k (.d (.int .i64 (.ofNat 1)))],
  .mk (some 28) none (.call false) [.k (.fn .pure 37 [] []), .t 25, .t 27, .k (.d (.int .i64 (.ofNat 1)))], .mk (some 24) none .mv [.t 28], .mk (some 29) none (.ext 0) [.t 24], .mk (some 30) none (.ext 1) [.t 24],
  .mk (some 31) none (.ext 2) [.t 24], .mk (some 8) none (.new 26 [.d (.int .i64 (.ofNat 0)), .d (.int .i64 (.ofNat 0))]) [], .mk none none (.storeT 2) [.t 8, .t 29], .mk (some 9) none .mv [.t 30],
  .mk (some 10) none .mv [.t 31]])
  (.seq
  (.seq (.reg none [.mk (some 32) none .mv [.t 10], .mk (some 33) none (.bin .neq (.nil 10)) [.t 32, .k (.d (.int .i64 (.ofNat 0)))]])
  (.cond (.t 33)
  (.seq
  (.reg none
  [.mk (some 34) none (.load (some 7)) [.t 7], .mk (some 35) none .mv [.t 9], .mk (some 36) none .mv [.t 10], .mk none none (.storeT 7) [.t 4, .t 34], .mk (some 5) none .mv [.t 35], .mk (some 6) none .mv [.t 36]])
  .ret)
  .skip))
  (.seq (.fgt [0, 4, 5, 6, 7, 8, 9])
  (.seq
  (.seq
  (.reg none
  [.mk (some 37) none .mv [.t 0], .mk (some 38) none .mv [.t 9], .mk (some 39) none (.call false) [.k (.fn .pure 38 [] []), .t 37, .t 38, .k (.d (.str [.ofNat 41]))], .mk (some 40) none (.un .not) [.t 39]])
  (.cond (.t 40)
  (.seq
  (.reg none
  [.mk (some 41) none (.load (some 7)) [.t 7], .mk (some 42) none .mv [.t 9], .mk none none (.storeT 7) [.t 4, .t 41], .mk (some 5) none .mv [.t 42], .mk (some 6) none .mv [.k (.d (.int .i64 (.ofNat 50)))]])
  .ret)
  .skip))
  (.seq (.fgt [4, 5, 6, 8, 9])
  (.seq
  (.reg none
  [.mk (some 43) none (.build [.d (.int .i64 (.ofNat 0)), .d (.int .i64 (.ofNat 0))] [(0, 1)]) [.k (.d (.int .i64 (.ofNat 1)))],
  .mk (some 44) none (.build [.d (.int .i64 (.ofNat 0)), .d (.int .i64 (.ofNat 0))] [(0, 1)]) [.k (.d (.int .i64 (.ofNat 5)))], .mk (some 45) none (.load (some 2)) [.t 8],
  .mk (some 46) none
  (.build
  [.d (.int .i64 (.ofNat 0)), .d (.int .i64 (.ofNat 0)), .d (.int .i64 (.ofNat 0)), .d (.int .i64 (.ofNat 0)), .d (.bool false), .d (.int .i64 (.ofNat 0)), .d (.int .i64 (.ofNat 0))]
  [(0, 2), (2, 2), (4, 1), (5, 2)])
  [.t 43, .t 44, .k (.d (.bool true)), .t 45],
  .mk (some 47) none .mv [.t 9], .mk (some 48) none (.bin .add (.nil 10)) [.t 47, .k (.d (.int .i64 (.ofNat 1)))], .mk none none (.storeT 7) [.t 4, .t 46], .mk (some 5) none .mv [.t 48],
  .mk (some 6) none .mv [.k (.d (.int .i64 (.ofNat 0)))]])
  .ret))))))
  .skip))
  (.seq (.fgt [0, 1, 4, 5, 6, 7])
  (.seq
  (.seq
  (.reg none
  [.mk (some 49) none .mv [.t 0], .mk (some 50) none .mv [.t 1],
  .mk (some 51) none (.call false) [.k (.fn .pure 36 [] []), .t 49, .t 50, .k (.d (.str [.ofNat 109, .ofNat 105, .ofNat 110, .ofNat 109, .ofNat 97, .ofNat 120]))], .mk (some 52) none (.un .not) [.t 51]])
  (.cond (.t 52)
  (.seq
  (.reg none
  [.mk (some 54) none .mv [.t 0], .mk (some 55) none .mv [.t 1], .mk (some 56) none (.call false) [.k (.fn .pure 37 [] []), .t 54, .t 55, .k (.d (.int .i64 (.ofNat 29)))], .mk (some 53) none .mv [.t 56],
  .mk (some 57) none (.ext 0) [.t 53], .mk (some 58) none (.ext 1) [.t 53], .mk (some 59) none (.ext 2) [.t 53], .mk (some 11) none (.new 26 [.d (.int .i64 (.ofNat 0)), .d (.int .i64 (.ofNat 0))]) [],
  .mk none none (.storeT 2) [.t 11, .t 57], .mk (some 12) none .mv [.t 58], .mk (some 13) none .mv [.t 59]])
  (.seq
  (.seq (.reg none [.mk (some 60) none .mv [.t 13], .mk (some 61) none (.bin .neq (.nil 10)) [.t 60, .k (.d (.int .i64 (.ofNat 0)))]])
  (.cond (.t 61)
  (.seq
  (.reg none
  [.mk (some 62) none (.load (some 7)) [.t 7], .mk (some 63) none .mv [.t 12], .mk (some 64) none .mv [.t 13], .mk none none (.storeT 7) [.t 4, .t 62], .mk (some 5) none .mv [.t 63], .mk (some 6) none .mv [.t 64]])
  .ret)
  .skip))
  (.seq (.fgt [4, 5, 6, 11, 12])
  (.seq
  (.reg none
  [.mk (some 65) none (.load (some 2)) [.t 11], .mk (some 66) none (.call false) [.k (.fn .pure 39 [] []), .t 65], .mk (some 67) none .mv [.t 12], .mk none none (.storeT 7) [.t 4, .t 66], .mk (some 5) none .mv [.t 67],
  .mk (some 6) none .mv [.k (.d (.int .i64 (.ofNat 0)))]])
  .ret))))
  .skip))
  (.seq (.fgt [0, 1, 4, 5, 6, 7])
  (.seq
  (.reg none
  [.mk (some 69) none .mv [.t 0], .mk (some 70) none .mv [.t 1], .mk (some 71) none (.bin .add (.nil 10)) [.t 70, .k (.d (.int .i64 (.ofNat 1)))],
  .mk (some 72) none (.call false) [.k (.fn .pure 37 [] []), .t 69, .t 71, .k (.d (.int .i64 (.ofNat 13)))], .mk (some 68) none .mv [.t 72], .mk (some 73) none (.ext 0) [.t 68], .mk (some 74) none (.ext 1) [.t 68],
  .mk (some 75) none (.ext 2) [.t 68], .mk (some 14) none (.new 26 [.d (.int .i64 (.ofNat 0)), .d (.int .i64 (.ofNat 0))]) [], .mk none none (.storeT 2) [.t 14, .t 73], .mk (some 15) none .mv [.t 74],
  .mk (some 16) none .mv [.t 75]])
  (.seq
  (.seq (.reg none [.mk (some 76) none .mv [.t 16], .mk (some 77) none (.bin .neq (.nil 10)) [.t 76, .k (.d (.int .i64 (.ofNat 0)))]])
  (.cond (.t 77)
  (.seq
  (.reg none
  [.mk (some 78) none (.load (some 7)) [.t 7], .mk (some 79) none .mv [.t 15], .mk (some 80) none .mv [.t 16], .mk none none (.storeT 7) [.t 4, .t 78], .mk (some 5) none .mv [.t 79], .mk (some 6) none .mv [.t 80]])
  .ret)
  .skip))
  (.seq (.fgt [0, 4, 5, 6, 7, 14, 15])
  (.seq
  (.seq
  (.reg none
  [.mk (some 81) none .mv [.t 0], .mk (some 82) none .mv [.t 15], .mk (some 83) none (.call false) [.k (.fn .pure 38 [] []), .t 81, .t 82, .k (.d (.str [.ofNat 44]))], .mk (some 84) none (.un .not) [.t 83]])
  (.cond (.t 84)
  (.seq
  (.reg none
  [.mk (some 85) none (.load (some 7)) [.t 7], .mk (some 86) none .mv [.t 15], .mk none none (.storeT 7) [.t 4, .t 85], .mk (some 5) none .mv [.t 86], .mk (some 6) none .mv [.k (.d (.int .i64 (.ofNat 50)))]])
  .ret)
  .skip))
  (.seq (.fgt [0, 4, 5, 6, 7, 14, 15])
  (.seq
  (.reg none
  [.mk (some 88) none .mv [.t 0], .mk (some 89) none .mv [.t 15], .mk (some 90) none (.bin .add (.nil 10)) [.t 89, .k (.d (.int .i64 (.ofNat 1)))],
  .mk (some 91) none (.call false) [.k (.fn .pure 37 [] []), .t 88, .t 90, .k (.d (.int .i64 (.ofNat 29)))], .mk (some 87) none .mv [.t 91], .mk (some 92) none (.ext 0) [.t 87],
  .mk (some 93) none (.ext 1) [.t 87], .mk (some 94) none (.ext 2) [.t 87], .mk (some 17) none (.new 26 [.d (.int .i64 (.ofNat 0)), .d (.int .i64 (.ofNat 0))]) [], .mk none none (.storeT 2) [.t 17, .t 92],
  .mk (some 18) none .mv [.t 93], .mk (some 19) none .mv [.t 94]])
  (.seq
  (.seq (.reg none [.mk (some 95) none .mv [.t 19], .mk (some 96) none (.bin .neq (.nil 10)) [.t 95, .k (.d (.int .i64 (.ofNat 0)))]])
  (.cond (.t 96)
  (.seq
  (.reg none
  [.mk (some 97) none (.load (some 7)) [.t 7], .mk (some 98) none .mv [.t 18], .mk (some 99) none .mv [.t 19], .mk none none (.storeT 7) [.t 4, .t 97], .mk (some 5) none .mv [.t 98],
  .mk (some 6) none .mv [.t 99]])
  .ret)
  .skip))
  (.seq (.fgt [0, 4, 5, 6, 7, 14, 17, 18])
  (.seq
  (.seq
  (.reg none
  [.mk (some 100) none .mv [.t 0], .mk (some 101) none .mv [.t 18], .mk (some 102) none (.call false) [.k (.fn .pure 38 [] []), .t 100, .t 101, .k (.d (.str [.ofNat 41]))],
  .mk (some 103) none (.un .not) [.t 102]])
  (.cond (.t 103)
  (.seq
  (.reg none
  [.mk (some 104) none (.load (some 7)) [.t 7], .mk (some 105) none .mv [.t 18], .mk none none (.storeT 7) [.t 4, .t 104], .mk (some 5) none .mv [.t 105],
  .mk (some 6) none .mv [.k (.d (.int .i64 (.ofNat 50)))]])
  .ret)
  .skip))
  (.seq (.fgt [4, 5, 6, 14, 17, 18])
  (.seq
  (.reg none
  [.mk (some 106) none (.load (some 2)) [.t 14], .mk (some 107) none (.load (some 2)) [.t 17],
  .mk (some 108) none
  (.build
  [.d (.int .i64 (.ofNat 0)), .d (.int .i64 (.ofNat 0)), .d (.int .i64 (.ofNat 0)), .d (.int .i64 (.ofNat 0)), .d (.bool false), .d (.int .i64 (.ofNat 0)),
  .d (.int .i64 (.ofNat 0))]
  [(0, 2), (2, 2)])
  [.t 106, .t 107],
  .mk (some 109) none .mv [.t 18], .mk (some 110) none (.bin .add (.nil 10)) [.t 109, .k (.d (.int .i64 (.ofNat 1)))], .mk none none (.storeT 7) [.t 4, .t 108], .mk (some 5) none .mv [.t 110],
  .mk (some 6) none .mv [.k (.d (.int .i64 (.ofNat 0)))]])
  .ret)))))))))))))))))
  [.cell 4 (some 7), .tmp 5, .tmp 6]
theorem code12_ok : F0 12 = some (.code code12) := by kernel_rfl
def code17 : CFn :=
  .mk
  (.seq (.reg none [.mk (some 4) none .mv [.k (.d .nilsl)], .mk (some 5) none .mv [.k (.d (.int .i64 (.ofNat 0)))], .mk (some 6) none .mv [.k (.d (.int .i64 (.ofNat 0)))]])
  (.seq
  (.reg none
  [.mk (some 15) none .mv [.t 0], .mk (some 16) none .mv [.t 1], .mk (some 17) none (.call false) [.k (.fn .pure 12 [] []), .t 15, .t 16], .mk (some 14) none .mv [.t 17], .mk (some 18) none (.ext 0) [.t 14],
  .mk (some 19) none (.ext 1) [.t 14], .mk (some 20) none (.ext 2) [.t 14],
  .mk (some 7) none
  (.new 28 [.d (.int .i64 (.ofNat 0)), .d (.int .i64 (.ofNat 0)), .d (.int .i64 (.ofNat 0)), .d (.int .i64 (.ofNat 0)), .d (.bool false), .d (.int .i64 (.ofNat 0)), .d (.int .i64 (.ofNat 0))]) [],
  .mk none none (.storeT 7) [.t 7, .t 18], .mk (some 8) none .mv [.t 19], .mk (some 9) none .mv [.t 20]])
  (.seq
  (.seq (.reg none [.mk (some 21) none .mv [.t 9], .mk (some 22) none (.bin .neq (.nil 10)) [.t 21, .k (.d (.int .i64 (.ofNat 0)))]])
  (.cond (.t 22) (.seq (.reg none [.mk (some 23) none .mv [.t 8], .mk (some 24) none .mv [.t 9], .mk (some 4) none .mv [.k (.d .nilsl)], .mk (some 5) none .mv [.t 23], .mk (some 6) none .mv [.t 24]]) .ret) .skip))
  (.seq (.fgt [0, 4, 5, 6, 7, 8])
  (.seq
  (.reg none
  [.mk (some 25) none (.load (some 7)) [.t 7],
  .mk (some 26) none (.bslT 28 7 [.int .i64 (.ofNat 0), .int .i64 (.ofNat 0), .int .i64 (.ofNat 0), .int .i64 (.ofNat 0), .bool false, .int .i64 (.ofNat 0), .int .i64 (.ofNat 0)] 1 [0]) [.t 25],
  .mk (some 10) none .mv [.t 26]])
  (.seq
  (.block 0
  (.loop [0, 4, 5, 6, 8, 10]
  (.seq (.seq (.reg none [.mk (some 27) none .mv [.t 0], .mk (some 28) none .mv [.t 8], .mk (some 29) none (.call false) [.k (.fn .pure 46 [] []), .t 27, .t 28]]) (.cond (.t 29) .skip (.exit 0)))
  (.seq (.fgt [0, 4, 5, 6, 8, 10])
  (.block 1
  (.seq
  (.seq (.reg none [.mk (some 30) none .mv [.t 10], .mk (some 31) none .len [.t 30], .mk (some 32) none (.bin .geq (.nil 10)) [.t 31, .k (.d (.int .i64 (.ofNat 256)))]])
  (.cond (.t 32) (.seq (.reg none [.mk (some 33) none .mv [.t 8], .mk (some 4) none .mv [.k (.d .nilsl)], .mk (some 5) none .mv [.t 33], .mk (some 6) none .mv [.k (.d (.int .i64 (.ofNat 52)))]]) .ret)
  .skip))
  (.seq (.fgt [0, 4, 5, 6, 8, 10])
  (.seq
  (.reg none
  [.mk (some 35) none .mv [.t 0], .mk (some 36) none .mv [.t 8], .mk (some 37) none (.call false) [.k (.fn .pure 12 [] []), .t 35, .t 36], .mk (some 34) none .mv [.t 37], .mk (some 38) none (.ext 0) [.t 34],
  .mk (some 39) none (.ext 1) [.t 34], .mk (some 40) none (.ext 2) [.t 34],
  .mk (some 11) none
  (.new 28
  [.d (.int .i64 (.ofNat 0)), .d (.int .i64 (.ofNat 0)), .d (.int .i64 (.ofNat 0)), .d (.int .i64 (.ofNat 0)), .d (.bool false), .d (.int .i64 (.ofNat 0)),
  .d (.int .i64 (.ofNat 0))])
  [],
  .mk none none (.storeT 7) [.t 11, .t 38], .mk (some 12) none .mv [.t 39], .mk (some 13) none .mv [.t 40]])
  (.seq
  (.seq (.reg none [.mk (some 41) none .mv [.t 13], .mk (some 42) none (.bin .neq (.nil 10)) [.t 41, .k (.d (.int .i64 (.ofNat 0)))]])
  (.cond (.t 42) (.seq (.reg none [.mk (some 43) none .mv [.t 12], .mk (some 44) none .mv [.t 13], .mk (some 4) none .mv [.k (.d .nilsl)], .mk (some 5) none .mv [.t 43], .mk (some 6) none .mv [.t 44]]) .ret)
  .skip))
  (.seq (.fgt [0, 4, 5, 6, 10, 11, 12])
  (.seq
  (.reg none
  [.mk (some 45) none .mv [.t 10], .mk (some 46) none (.load (some 7)) [.t 11],
  .mk (some 47) none
  (.bslT 28 7 [.int .i64 (.ofNat 0), .int .i64 (.ofNat 0), .int .i64 (.ofNat 0), .int .i64 (.ofNat 0), .bool false, .int .i64 (.ofNat 0), .int .i64 (.ofNat 0)] 1 [0]) [.t 46],
  .mk (some 48) none (.appT 28 7 56) [.t 45, .t 47], .mk (some 10) none .mv [.t 48]])
  (.reg none [.mk (some 49) none .mv [.t 12], .mk (some 8) none .mv [.t 49]]))))))))))))
  (.seq (.fgt [4, 5, 6, 8, 10])
  (.seq (.reg none [.mk (some 50) none .mv [.t 10], .mk (some 51) none .mv [.t 8], .mk (some 4) none .mv [.t 50], .mk (some 5) none .mv [.t 51], .mk (some 6) none .mv [.k (.d (.int .i64 (.ofNat 0)))]]) .ret))))))))
  [.tmp 4, .tmp 5, .tmp 6]
theorem code17_ok : F0 17 = some (.code code17) := by kernel_rfl
def code15 : CFn :=
  .mk
  (.seq (.reg none [.mk (some 4) none .mv [.k (.d (.bool false))]])
  (.seq
  (.seq (.reg none [.mk (some 6) none .mv [.t 0], .mk (some 7) none .len [.t 6], .mk (some 8) none .mv [.t 1], .mk (some 9) none .len [.t 8], .mk (some 10) none (.bin .neq (.nil 10)) [.t 7, .t 9]])
  (.cond (.t 10) (.seq (.reg none [.mk (some 4) none .mv [.k (.d (.bool false))]]) .ret) .skip))
  (.seq (.fgt [0, 1, 4])
  (.seq
  (.seq (.reg none [.mk (some 5) none .mv [.k (.d (.int .i64 (.ofNat 0)))]])
  (.block 0
  (.loop [0, 1, 4, 5]
  (.seq (.seq (.reg none [.mk (some 11) none .mv [.t 5], .mk (some 12) none .mv [.t 0], .mk (some 13) none .len [.t 12], .mk (some 14) none (.bin .lss (.nil 10)) [.t 11, .t 13]]) (.cond (.t 14) .skip (.exit 0)))
  (.seq (.fgt [0, 1, 4, 5])
  (.seq
  (.block 1
  (.seq
  (.reg (some [])
  [.mk (some 17) none .mv [.t 0], .mk (some 18) none .mv [.t 5], .mk (some 19) none (.iad 1) [.t 17, .t 18], .mk (some 20) none (.load none) [.t 19], .mk (some 21) none .mv [.t 1], .mk (some 22) none .mv [.t 5],
  .mk (some 23) none (.iad 1) [.t 21, .t 22], .mk (some 24) none (.load none) [.t 23], .mk (some 25) none (.bin .neq (.nil 10)) [.t 20, .t 24]])
  (.cond (.t 25) (.seq (.reg none [.mk (some 4) none .mv [.k (.d (.bool false))]]) .ret) .skip)))
  (.seq (.fgt [0, 1, 4, 5]) (.reg none [.mk (some 15) none .mv [.t 5], .mk (some 16) none (.bin .add (.nil 10)) [.t 15, .k (.d (.int .i64 (.ofNat 1)))], .mk (some 5) none .mv [.t 16]]))))))))
  (.seq (.fgt [4]) (.seq (.reg none [.mk (some 4) none .mv [.k (.d (.bool true))]]) .ret))))))
  [.tmp 4]
theorem code15_ok : F0 15 = some (.code code15) := by kernel_rfl
def code42 : CFn :=
  .mk
  (.seq (.reg none [.mk (some 4) none .mv [.k (.d .nilsl)], .mk (some 5) none .mv [.k (.d (.int .i64 (.ofNat 0)))], .mk (some 6) none .mv [.k (.d (.int .i64 (.ofNat 0)))]])
  (.seq (.reg none [.mk (some 7) none .mv [.k (.d .nilsl)]])
  (.seq (.reg none [.mk (some 10) none .mv [.t 1], .mk (some 11) none (.bin .add (.nil 10)) [.t 10, .k (.d (.int .i64 (.ofNat 1)))], .mk (some 8) none .mv [.t 11]])
  (.seq
  (.block 0
  (.loop [0, 4, 5, 6, 7, 8]
  (.seq
  (.seq
  (.reg none [.mk (some 12) none .mv [.t 0], .mk (some 13) none .mv [.t 8], .mk (some 14) none (.call false) [.k (.fn .pure 38 [] []), .t 12, .t 13, .k (.d (.str [.ofNat 93]))], .mk (some 15) none (.un .not) [.t 14]])
  (.cond (.t 15) .skip (.exit 0)))
  (.seq (.fgt [0, 4, 5, 6, 7, 8])
  (.block 1
  (.seq
  (.reg none
  [.mk (some 16) none .mv [.t 0], .mk (some 17) none .mv [.t 8], .mk (some 18) none (.call false) [.k (.fn .pure 82 [] []), .t 16, .t 17],
  .mk (some 9) none (.new 72 [.d (.int .i64 (.ofNat 0)), .d (.int .i64 (.ofNat 0)), .d (.str []), .d (.str [])]) [], .mk none none (.storeT 4) [.t 9, .t 18]])
  (.seq
  (.seq
  (.reg none
  [.mk (some 19) none (.fad 0) [.t 9], .mk (some 20) none (.load none) [.t 19], .mk (some 21) none (.bin .neq (.nil 10)) [.t 20, .k (.d (.int .i64 (.ofNat 1)))], .mk (some 22) none .mv [.t 21],
  .mk (some 23) (some (22, false)) (.fad 2) [.t 9], .mk (some 24) (some (22, false)) (.load none) [.t 23], .mk (some 25) (some (22, false)) (.call false) [.k (.fn .pure 90 [] []), .t 24],
  .mk (some 26) (some (22, false)) (.un .not) [.t 25], .mk (some 27) none .pick [.t 22, .k (.d (.bool true)), .t 26]])
  (.cond (.t 27) (.seq (.reg none [.mk (some 28) none .mv [.t 8], .mk (some 4) none .mv [.k (.d .nilsl)], .mk (some 5) none .mv [.t 28], .mk (some 6) none .mv [.k (.d (.int .i64 (.ofNat 50)))]]) .ret) .skip))
  (.seq (.fgt [0, 4, 5, 6, 7, 8, 9])
  (.seq
  (.seq (.reg none [.mk (some 29) none .mv [.t 7], .mk (some 30) none .len [.t 29], .mk (some 31) none (.bin .geq (.nil 10)) [.t 30, .k (.d (.int .i64 (.ofNat 16)))]])
  (.cond (.t 31) (.seq (.reg none [.mk (some 32) none .mv [.t 8], .mk (some 4) none .mv [.k (.d .nilsl)], .mk (some 5) none .mv [.t 32], .mk (some 6) none .mv [.k (.d (.int .i64 (.ofNat 52)))]]) .ret)
  .skip))
  (.seq (.fgt [0, 4, 5, 6, 7, 8, 9])
  (.seq
  (.reg none
  [.mk (some 33) none .mv [.t 7], .mk (some 34) none (.fad 2) [.t 9], .mk (some 35) none (.load none) [.t 34], .mk (some 36) none (.bslT 9 1 [.str []] 1 [0]) [.t 35], .mk (some 37) none (.appT 9 1 16) [.t 33, .t 36],
  .mk (some 7) none .mv [.t 37]])
  (.reg none [.mk (some 38) none .mv [.t 8], .mk (some 39) none (.bin .add (.nil 10)) [.t 38, .k (.d (.int .i64 (.ofNat 1)))], .mk (some 8) none .mv [.t 39]]))))))))))))
  (.seq (.fgt [4, 5, 6, 7, 8])
  (.seq
  (.reg none
  [.mk (some 40) none .mv [.t 7], .mk (some 41) none .mv [.t 8], .mk (some 42) none (.bin .add (.nil 10)) [.t 41, .k (.d (.int .i64 (.ofNat 1)))], .mk (some 4) none .mv [.t 40], .mk (some 5) none .mv [.t 42],
  .mk (some 6) none .mv [.k (.d (.int .i64 (.ofNat 0)))]])
  .ret))))))
  [.tmp 4, .tmp 5, .tmp 6]
theorem code42_ok : F0 42 = some (.code code42) := by kernel_rfl
def code36 : CFn :=
  .mk
  (.seq (.reg none [.mk (some 6) none .mv [.k (.d (.bool false))]])
  (.seq
  (.reg none
  [.mk (some 8) none .mv [.t 0], .mk (some 9) none .mv [.t 1], .mk (some 10) none (.call false) [.k (.fn .pure 82 [] []), .t 8, .t 9],
  .mk (some 7) none (.new 72 [.d (.int .i64 (.ofNat 0)), .d (.int .i64 (.ofNat 0)), .d (.str []), .d (.str [])]) [], .mk none none (.storeT 4) [.t 7, .t 10]])
  (.seq
  (.reg none
  [.mk (some 11) none (.fad 0) [.t 7], .mk (some 12) none (.load none) [.t 11], .mk (some 13) none (.bin .eql (.nil 10)) [.t 12, .k (.d (.int .i64 (.ofNat 2)))], .mk (some 14) none .mv [.t 13],
  .mk (some 15) (some (14, true)) (.fad 2) [.t 7], .mk (some 16) (some (14, true)) (.load none) [.t 15], .mk (some 17) (some (14, true)) .mv [.t 2], .mk (some 18) (some (14, true)) (.call false) [.k (.fn .pure 83 [] []), .t 16, .t 17],
  .mk (some 19) none .pick [.t 14, .t 18, .k (.d (.bool false))], .mk (some 6) none .mv [.t 19]])
  .ret)))
  [.tmp 6]
theorem code36_ok : F0 36 = some (.code code36) := by kernel_rfl
def code13 : CFn :=
  .mk
  (.seq (.reg none [.mk (some 4) none (.new 34 [.d .nilsl]) [], .mk (some 5) none (.new 3 [.d (.int .i64 (.ofNat 0))]) [], .mk (some 6) none (.new 29 [.d (.int .i64 (.ofNat 0))]) []])
  (.seq
  (.reg none
  [.mk (some 10) none .mv [.t 0], .mk (some 11) none .mv [.t 1], .mk (some 12) none (.build [.d .nilsl, .d (.int .i64 (.ofNat 0)), .d (.int .i64 (.ofNat 0))] [(0, 1), (1, 1)]) [.t 10, .t 11],
  .mk (some 13) none (.box 78) [.t 12], .mk (some 7) none .mv [.t 13]])
  (.seq (.reg none [.mk (some 14) none (.mkf .drop 40 0) [.t 4], .mk none none .dfr [.k (.fn .drop 33 [] []), .t 5, .t 6, .t 14]])
  (.seq
  (.seq
  (.reg none [.mk (some 15) none .mv [.t 7], .mk (some 16) none (.call false) [.k (.fn .opn 41 [] []), .t 15, .k (.d .nilsl)], .mk (some 17) none .len [.t 16], .mk (some 18) none .mv [.k (.d (.int .i64 (.ofNat 0)))]])
  (.block 0
  (.loop [4, 5, 6, 7, 16, 17, 18]
  (.seq (.reg none [.mk (some 19) none (.bin .lss (.nil 10)) [.t 18, .t 17]])
  (.seq (.cond (.t 19) .skip (.exit 0))
  (.seq (.fgt [4, 5, 6, 7, 16, 17, 18])
  (.seq
  (.block 1
  (.seq
  (.reg none
  [.mk (some 20) none (.iad 11) [.t 16, .t 18], .mk (some 21) none (.load (some 11)) [.t 20],
  .mk (some 9) none
  (.new 69
  [.d (.int .i64 (.ofNat 0)), .d .nilsl, .d (.int .i64 (.ofNat 0)), .d (.int .i64 (.ofNat 0)), .d (.int .i64 (.ofNat 0)), .d (.int .i64 (.ofNat 0)), .d (.bool false),
  .d (.int .i64 (.ofNat 0)), .d (.int .i64 (.ofNat 0)), .d (.int .i64 (.ofNat 0)), .d .nilsl])
  [],
  .mk none none (.storeT 11) [.t 9, .t 21]])
  (.reg none [.mk (some 22) none (.fad 1) [.t 9], .mk (some 23) none (.load none) [.t 22], .mk none none (.storeT 1) [.t 4, .t 23]])))
  (.seq (.fgt [4, 5, 6, 7, 16, 17, 18]) (.reg none [.mk (some 24) none (.bin .add (.nil 10)) [.t 18, .k (.d (.int .i64 (.ofNat 1)))], .mk (some 18) none .mv [.t 24]])))))))))
  (.seq (.fgt [4, 5, 6, 7])
  (.seq
  (.reg (some [(28, 1, 4, 1)])
  [.mk (some 25) none (.load none) [.t 4], .mk (some 26) none .mv [.t 7], .mk (some 27) none .nilck [.t 26], .mk (some 28) none (.fad 1) [.t 27], .mk (some 29) none (.load none) [.t 28], .mk none none (.store 1) [.t 4, .t 25],
  .mk none none (.store 1) [.t 5, .t 29], .mk none none (.store 1) [.t 6, .k (.d (.int .i64 (.ofNat 0)))]])
  .ret))))))
  [.cell 4 none, .cell 5 none, .cell 6 none]
theorem code13_ok : F0 13 = some (.code code13) := by kernel_rfl
def code40 : CFn :=
  .mk (.reg none [.mk none none (.storeT 1) [.t 0, .k (.d .nilsl)]]) []
theorem code40_ok : F0 40 = some (.code code40) := by kernel_rfl
def code11 : CFn :=
  .mk
  (.seq
  (.reg none
  [.mk (some 4) none
  (.new 28 [.d (.int .i64 (.ofNat 0)), .d (.int .i64 (.ofNat 0)), .d (.int .i64 (.ofNat 0)), .d (.int .i64 (.ofNat 0)), .d (.bool false), .d (.int .i64 (.ofNat 0)), .d (.int .i64 (.ofNat 0))]) [],
  .mk (some 5) none (.new 3 [.d (.int .i64 (.ofNat 0))]) [], .mk (some 6) none (.new 29 [.d (.int .i64 (.ofNat 0))]) []])
  (.seq
  (.reg none
  [.mk (some 8) none .mv [.t 0], .mk (some 9) none .mv [.t 1], .mk (some 10) none (.build [.d .nilsl, .d (.int .i64 (.ofNat 0)), .d (.int .i64 (.ofNat 0))] [(0, 1), (1, 1)]) [.t 8, .t 9],
  .mk (some 11) none (.box 78) [.t 10], .mk (some 7) none .mv [.t 11]])
  (.seq (.reg none [.mk (some 12) none (.mkf .drop 34 0) [.t 4], .mk none none .dfr [.k (.fn .drop 33 [] []), .t 5, .t 6, .t 12]])
  (.seq (.reg none [.mk (some 13) none .mv [.t 7], .mk (some 14) none (.call false) [.k (.fn .drop 35 [] []), .t 13], .mk none none (.storeT 7) [.t 4, .t 14]])
  (.seq
  (.reg (some [(18, 1, 4, 7)])
  [.mk (some 15) none (.load (some 7)) [.t 4], .mk (some 16) none .mv [.t 7], .mk (some 17) none .nilck [.t 16], .mk (some 18) none (.fad 1) [.t 17], .mk (some 19) none (.load none) [.t 18], .mk none none (.store 7) [.t 4, .t 15],
  .mk none none (.store 1) [.t 5, .t 19], .mk none none (.store 1) [.t 6, .k (.d (.int .i64 (.ofNat 0)))]])
  .ret)))))
  [.cell 4 (some 7), .cell 5 none, .cell 6 none]
theorem code11_ok : F0 11 = some (.code code11) := by kernel_rfl
def code34 : CFn :=
  .mk
  (.reg none
  [.mk (some 1) none
  (.build [.d (.int .i64 (.ofNat 0)), .d (.int .i64 (.ofNat 0)), .d (.int .i64 (.ofNat 0)), .d (.int .i64 (.ofNat 0)), .d (.bool false), .d (.int .i64 (.ofNat 0)), .d (.int .i64 (.ofNat 0))] []) [],
  .mk none none (.storeT 7) [.t 0, .t 1]])
  []
theorem code34_ok : F0 34 = some (.code code34) := by kernel_rfl
def code16 : CFn :=
  .mk
  (.seq (.reg none [.mk (some 4) none (.new 40 [.d .nilsl]) [], .mk (some 5) none (.new 3 [.d (.int .i64 (.ofNat 0))]) [], .mk (some 6) none (.new 29 [.d (.int .i64 (.ofNat 0))]) []])
  (.seq
  (.reg none
  [.mk (some 8) none .mv [.t 0], .mk (some 9) none .mv [.t 1], .mk (some 10) none (.build [.d .nilsl, .d (.int .i64 (.ofNat 0)), .d (.int .i64 (.ofNat 0))] [(0, 1), (1, 1)]) [.t 8, .t 9],
  .mk (some 11) none (.box 78) [.t 10], .mk (some 7) none .mv [.t 11]])
  (.seq (.reg none [.mk (some 12) none (.mkf .drop 43 0) [.t 4], .mk none none .dfr [.k (.fn .drop 33 [] []), .t 5, .t 6, .t 12]])
  (.seq
  (.reg (some [])
  [.mk (some 13) none (.load none) [.t 4], .mk (some 14) none .mv [.t 7], .mk (some 15) none (.callD [4]) [.k (.fn .drop 35 [] []), .t 14],
  .mk (some 16) none (.bsl 28 7 [.int .i64 (.ofNat 0), .int .i64 (.ofNat 0), .int .i64 (.ofNat 0), .int .i64 (.ofNat 0), .bool false, .int .i64 (.ofNat 0), .int .i64 (.ofNat 0)] 1 [0]) [.t 15],
  .mk (some 17) none (.app 28 7 56) [.t 13, .t 16], .mk none none (.store 1) [.t 4, .t 17]])
  (.seq
  (.block 0
  (.loop [4, 5, 6, 7]
  (.seq (.seq (.reg none [.mk (some 18) none .mv [.t 7], .mk (some 19) none (.call false) [.k (.fn .drop 44 [] []), .t 18]]) (.cond (.t 19) .skip (.exit 0)))
  (.seq (.fgt [4, 5, 6, 7])
  (.block 1
  (.seq
  (.reg none
  [.mk (some 20) none .mv [.t 7], .mk (some 21) none (.load none) [.t 4], .mk (some 22) none .len [.t 21], .mk (some 23) none .nilck [.t 20], .mk (some 24) none (.fad 2) [.t 23],
  .mk none none (.storeT 1) [.t 24, .t 22]])
  (.seq
  (.reg none
  [.mk (some 25) none .mv [.t 7], .mk (some 26) none .mv [.t 7], .mk (some 27) none .nilck [.t 26], .mk (some 28) none (.fad 1) [.t 27], .mk (some 29) none (.load none) [.t 28],
  .mk (some 30) none (.call false) [.k (.fn .drop 45 [] []), .t 25, .t 29]])
  (.reg (some [])
  [.mk (some 31) none (.load none) [.t 4], .mk (some 32) none .mv [.t 7], .mk (some 33) none (.callD [4]) [.k (.fn .drop 35 [] []), .t 32],
  .mk (some 34) none (.bsl 28 7 [.int .i64 (.ofNat 0), .int .i64 (.ofNat 0), .int .i64 (.ofNat 0), .int .i64 (.ofNat 0), .bool false, .int .i64 (.ofNat 0), .int .i64 (.ofNat 0)] 1 [0])
  [.t 33],
  .mk (some 35) none (.app 28 7 56) [.t 31, .t 34], .mk none none (.store 1) [.t 4, .t 35]]))))))))
  (.seq (.fgt [4, 5, 6, 7])
  (.seq
  (.reg (some [(39, 1, 4, 1)])
  [.mk (some 36) none (.load none) [.t 4], .mk (some 37) none .mv [.t 7], .mk (some 38) none .nilck [.t 37], .mk (some 39) none (.fad 1) [.t 38], .mk (some 40) none (.load none) [.t 39], .mk none none (.store 1) [.t 4, .t 36],
  .mk none none (.store 1) [.t 5, .t 40], .mk none none (.store 1) [.t 6, .k (.d (.int .i64 (.ofNat 0)))]])
  .ret)))))))
  [.cell 4 none, .cell 5 none, .cell 6 none]
theorem code16_ok : F0 16 = some (.code code16) := by kernel_rfl
def code43 : CFn :=
  .mk (.reg none [.mk none none (.storeT 1) [.t 0, .k (.d .nilsl)]]) []
theorem code43_ok : F0 43 = some (.code code43) := by kernel_rfl
def code117 : CFn :=
  .mk
  (.seq (.reg none [.mk (some 0) none (.new 26 [.d (.int .i64 (.ofNat 0)), .d (.int .i64 (.ofNat 0))]) []])
  (.seq (.reg none [.mk (some 1) none (.build [.d (.int .i64 (.ofNat 0)), .d (.int .i64 (.ofNat 0))] [(0, 1)]) [.k (.d (.int .i64 (.ofNat 1)))], .mk none none (.storeT 2) [.t 0, .t 1]]) .ret))
  [.cell 0 (some 2)]
theorem code117_ok : F0 117 = some (.code code117) := by kernel_rfl
def code33 : CFn :=
  .mk
  (.seq (.reg none [.mk (some 9) none .recov [], .mk (some 6) none .mv [.t 9]])
  (.seq (.reg none [.mk (some 10) none .mv [.t 6], .mk (some 11) none (.bin .neq (.nil 4)) [.t 10, .k (.d .nili)]])
  (.cond (.t 11)
  (.seq
  (.reg none
  [.mk (some 13) none .mv [.t 6], .mk (some 14) none (.tas 119 true (.agg [.d (.int .i64 (.ofNat 0)), .d (.int .i64 (.ofNat 0))])) [.t 13], .mk (some 12) none .mv [.t 14], .mk (some 15) none (.ext 0) [.t 12],
  .mk (some 16) none (.ext 1) [.t 12], .mk (some 7) none (.new 119 [.d (.int .i64 (.ofNat 0)), .d (.int .i64 (.ofNat 0))]) [], .mk none none (.storeT 2) [.t 7, .t 15], .mk (some 8) none .mv [.t 16]])
  (.seq (.seq (.reg none [.mk (some 17) none .mv [.t 8], .mk (some 18) none (.un .not) [.t 17]]) (.cond (.t 18) (.reg none [.mk (some 19) none .mv [.t 6], .mk none none .panic [.t 19]]) .skip))
  (.seq (.fgt [0, 1, 2, 7])
  (.seq (.reg none [.mk (some 20) none .mv [.t 2], .mk (some 21) none (.call false) [.t 20]])
  (.reg (some [(26, 1, 28, 1)])
  [.mk (some 22) none .mv [.t 0], .mk (some 23) none .mv [.t 1], .mk (some 24) none (.fad 0) [.t 7], .mk (some 25) none (.load none) [.t 24], .mk (some 26) none (.fad 1) [.t 7], .mk (some 27) none (.load none) [.t 26],
  .mk (some 28) none .nilck [.t 22], .mk none none (.store 1) [.t 28, .t 25], .mk (some 29) none .nilck [.t 23], .mk none none (.store 1) [.t 29, .t 27]])))))
  .skip)))
  []
theorem code33_ok : F0 33 = some (.code code33) := by kernel_rfl
def code80 : CFn :=
  .mk
  (.seq
  (.reg none
  [.mk (some 1) none (.box 26) [.t 0],
  .mk (some 2) none
  (.new 28 [.d (.int .i64 (.ofNat 0)), .d (.int .i64 (.ofNat 0)), .d (.int .i64 (.ofNat 0)), .d (.int .i64 (.ofNat 0)), .d (.bool false), .d (.int .i64 (.ofNat 0)), .d (.int .i64 (.ofNat 0))]) []])
  (.seq
  (.reg (some [])
  [.mk (some 3) none (.call true) [.k (.fn .pure 117 [] [])], .mk (some 4) none (.build [.d (.int .i64 (.ofNat 0)), .d (.int .i64 (.ofNat 0))] [(0, 1)]) [.k (.d (.int .i64 (.ofNat 5)))],
  .mk (some 5) none (.load (some 2)) [.t 1],
  .mk (some 6) none
  (.build [.d (.int .i64 (.ofNat 0)), .d (.int .i64 (.ofNat 0)), .d (.int .i64 (.ofNat 0)), .d (.int .i64 (.ofNat 0)), .d (.bool false), .d (.int .i64 (.ofNat 0)), .d (.int .i64 (.ofNat 0))]
  [(0, 2), (2, 2), (4, 1), (5, 2)])
  [.t 3, .t 4, .k (.d (.bool true)), .t 5],
  .mk none none (.store 7) [.t 2, .t 6]])
  .ret))
  [.cell 2 (some 7)]
theorem code80_ok : F0 80 = some (.code code80) := by kernel_rfl
def code81 : CFn :=
  .mk
  (.seq
  (.reg none
  [.mk (some 1) none (.box 26) [.t 0],
  .mk (some 2) none
  (.new 28 [.d (.int .i64 (.ofNat 0)), .d (.int .i64 (.ofNat 0)), .d (.int .i64 (.ofNat 0)), .d (.int .i64 (.ofNat 0)), .d (.bool false), .d (.int .i64 (.ofNat 0)), .d (.int .i64 (.ofNat 0))]) []])
  (.seq
  (.seq (.reg none [.mk (some 3) none (.fad 0) [.t 1], .mk (some 4) none (.load none) [.t 3], .mk (some 5) none (.bin .eql (.nil 10)) [.t 4, .k (.d (.int .i64 (.ofNat 6)))]])
  (.cond (.t 5)
  (.seq
  (.reg (some [])
  [.mk (some 6) none (.call true) [.k (.fn .pure 117 [] [])], .mk (some 7) none (.load (some 2)) [.t 1],
  .mk (some 8) none
  (.build [.d (.int .i64 (.ofNat 0)), .d (.int .i64 (.ofNat 0)), .d (.int .i64 (.ofNat 0)), .d (.int .i64 (.ofNat 0)), .d (.bool false), .d (.int .i64 (.ofNat 0)), .d (.int .i64 (.ofNat 0))]
  [(0, 2), (2, 2)])
  [.t 6, .t 7],
  .mk none none (.store 7) [.t 2, .t 8]])
  .ret)
  .skip))
  (.seq (.fgt [1, 2])
  (.seq
  (.reg none
  [.mk (some 9) none (.load (some 2)) [.t 1], .mk (some 10) none (.load (some 2)) [.t 1],
  .mk (some 11) none
  (.build [.d (.int .i64 (.ofNat 0)), .d (.int .i64 (.ofNat 0)), .d (.int .i64 (.ofNat 0)), .d (.int .i64 (.ofNat 0)), .d (.bool false), .d (.int .i64 (.ofNat 0)), .d (.int .i64 (.ofNat 0))]
  [(0, 2), (2, 2)])
  [.t 9, .t 10],
  .mk none none (.storeT 7) [.t 2, .t 11]])
  .ret))))
  [.cell 2 (some 7)]
theorem code81_ok : F0 81 = some (.code code81) := by kernel_rfl
def code88 : CFn :=
  .mk
  (.seq (.reg none [.mk (some 6) none .mv [.k (.d (.bool false))]])
  (.seq
  (.reg none
  [.mk (some 8) none .mv [.t 0], .mk (some 9) none .mv [.t 1], .mk (some 10) none (.call false) [.k (.fn .pure 109 [] []), .t 8, .t 9],
  .mk (some 7) none (.new 72 [.d (.int .i64 (.ofNat 0)), .d (.int .i64 (.ofNat 0)), .d (.str []), .d (.str [])]) [], .mk none none (.storeT 4) [.t 7, .t 10]])
  (.seq
  (.reg none
  [.mk (some 11) none (.fad 0) [.t 7], .mk (some 12) none (.load none) [.t 11], .mk (some 13) none (.bin .eql (.nil 10)) [.t 12, .k (.d (.int .i64 (.ofNat 7)))], .mk (some 14) none .mv [.t 13],
  .mk (some 15) (some (14, true)) (.fad 2) [.t 7], .mk (some 16) (some (14, true)) (.load none) [.t 15], .mk (some 17) (some (14, true)) .mv [.t 2], .mk (some 18) (some (14, true)) (.bin .eql (.nil 10)) [.t 16, .t 17],
  .mk (some 19) none .pick [.t 14, .t 18, .k (.d (.bool false))], .mk (some 6) none .mv [.t 19]])
  .ret)))
  [.tmp 6]
theorem code88_ok : F0 88 = some (.code code88) := by kernel_rfl
end Go.Proofs.YtjeblkicgmmhiaaGreatDoor.Ab
