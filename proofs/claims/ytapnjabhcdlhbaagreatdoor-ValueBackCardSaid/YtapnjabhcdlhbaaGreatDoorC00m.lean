/- The code of some functions, compiled (printed by a program for this seat; each is held against the compiler by the kernel). -/
import Derived.Test.YtapnjabhcdlhbaaGreatDoorAbCfg
namespace Go.Proofs.YtapnjabhcdlhbaaGreatDoor.Ab
open Go
set_option maxRecDepth 100000
def code172 : CFn :=
  CFn.mk
    (CC.seq (CC.reg none [Ins.mk (some 6) none Act.mv [Opd.k (AV.d (DV.int IntKind.i64 (Int.ofNat 0)))], Ins.mk (some 7) none Act.mv [Opd.k (AV.d (DV.bool false))]])
      (CC.seq
        (CC.block 0
          (CC.loop [0, 1, 2, 6, 7]
            (CC.seq
              (CC.seq
                (CC.reg none
                  [Ins.mk (some 15) none Act.mv [Opd.t 0], Ins.mk (some 16) none Act.len [Opd.t 15], Ins.mk (some 17) none (Act.bin BinOp.gtr (EqK.nil 10)) [Opd.t 16, Opd.k (AV.d (DV.int IntKind.i64 (Int.ofNat 0)))], Ins.mk (some 18) none Act.mv [Opd.t 17],
                    Ins.mk (some 19) (some (18, true)) Act.mv [Opd.t 0], Ins.mk (some 20) (some (18, true)) (Act.iad 1) [Opd.t 19, Opd.k (AV.d (DV.int IntKind.i64 (Int.ofNat 0)))], Ins.mk (some 21) (some (18, true)) (Act.load none) [Opd.t 20],
                    Ins.mk (some 22) (some (18, true)) (Act.bin BinOp.eql (EqK.nil 10)) [Opd.t 21, Opd.k (AV.d (DV.int IntKind.u8 (Int.ofNat 0)))], Ins.mk (some 23) none Act.pick [Opd.t 18, Opd.t 22, Opd.k (AV.d (DV.bool false))]])
                (CC.cond (Opd.t 23) CC.skip (CC.exit 0)))
              (CC.seq (CC.fgt [0, 1, 2, 6, 7])
                (CC.block 1
                  (CC.seq (CC.reg none [Ins.mk (some 24) none Act.mv [Opd.t 0], Ins.mk (some 25) none (Act.cutr 1 true false) [Opd.t 24, Opd.k (AV.d (DV.int IntKind.i64 (Int.ofNat 1)))], Ins.mk (some 0) none Act.mv [Opd.t 25]])
                    (CC.reg none [Ins.mk (some 26) none Act.mv [Opd.t 1], Ins.mk (some 27) none (Act.bin BinOp.sub (EqK.nil 10)) [Opd.t 26, Opd.k (AV.d (DV.int IntKind.i64 (Int.ofNat 1)))], Ins.mk (some 1) none Act.mv [Opd.t 27]])))))))
        (CC.seq (CC.fgt [0, 1, 2, 6, 7])
          (CC.seq
            (CC.block 2
              (CC.seq
                (CC.reg none
                  [Ins.mk (some 29) none Act.mv [Opd.t 0], Ins.mk (some 30) none Act.len [Opd.t 29], Ins.mk (some 31) none (Act.bin BinOp.eql (EqK.nil 10)) [Opd.t 30, Opd.k (AV.d (DV.int IntKind.i64 (Int.ofNat 0)))], Ins.mk (some 32) none Act.mv [Opd.t 31],
                    Ins.mk (some 33) (some (32, false)) Act.mv [Opd.t 1], Ins.mk (some 34) (some (32, false)) (Act.bin BinOp.lss (EqK.nil 10)) [Opd.t 33, Opd.k (AV.d (DV.int IntKind.i64 (Int.negSucc 4)))], Ins.mk (some 35) none Act.pick [Opd.t 32, Opd.k (AV.d (DV.bool true)), Opd.t 34],
                    Ins.mk (some 28) none Act.mv [Opd.t 35]])
                (CC.cond (Opd.t 28) (CC.seq (CC.reg none [Ins.mk (some 6) none Act.mv [Opd.k (AV.d (DV.int IntKind.i64 (Int.ofNat 0)))], Ins.mk (some 7) none Act.mv [Opd.k (AV.d (DV.bool true))]]) CC.ret)
                  (CC.seq (CC.reg none [Ins.mk (some 37) none Act.mv [Opd.t 1], Ins.mk (some 38) none (Act.bin BinOp.gtr (EqK.nil 10)) [Opd.t 37, Opd.k (AV.d (DV.int IntKind.i64 (Int.ofNat 13)))], Ins.mk (some 36) none Act.mv [Opd.t 38]])
                    (CC.cond (Opd.t 36) (CC.seq (CC.reg none [Ins.mk (some 6) none Act.mv [Opd.k (AV.d (DV.int IntKind.i64 (Int.ofNat 0)))], Ins.mk (some 7) none Act.mv [Opd.k (AV.d (DV.bool false))]]) CC.ret) CC.skip)))))
            (CC.seq (CC.fgt [0, 1, 2, 6, 7])
              (CC.seq (CC.reg none [Ins.mk (some 8) none Act.mv [Opd.k (AV.d (DV.int IntKind.i64 (Int.ofNat 0)))]])
                (CC.seq
                  (CC.seq (CC.reg none [Ins.mk (some 39) none Act.mv [Opd.t 1], Ins.mk (some 40) none Act.max [Opd.k (AV.d (DV.int IntKind.i64 (Int.ofNat 0))), Opd.t 39], Ins.mk (some 41) none Act.mv [Opd.k (AV.d (DV.int IntKind.i64 (Int.ofNat 0)))]])
                    (CC.block 3
                      (CC.loop [0, 1, 2, 6, 7, 8, 40, 41]
                        (CC.seq (CC.reg none [Ins.mk (some 42) none (Act.bin BinOp.lss (EqK.nil 10)) [Opd.t 41, Opd.t 40]])
                          (CC.seq (CC.cond (Opd.t 42) CC.skip (CC.exit 3))
                            (CC.seq (CC.fgt [0, 1, 2, 6, 7, 8, 40, 41])
                              (CC.seq
                                (CC.block 4
                                  (CC.seq (CC.reg none [Ins.mk (some 43) none Act.mv [Opd.t 41], Ins.mk (some 9) none Act.mv [Opd.t 43]])
                                    (CC.seq (CC.reg none [Ins.mk (some 44) none Act.mv [Opd.t 8], Ins.mk (some 45) none (Act.bin BinOp.mul (EqK.nil 10)) [Opd.t 44, Opd.k (AV.d (DV.int IntKind.i64 (Int.ofNat 10)))], Ins.mk (some 8) none Act.mv [Opd.t 45]])
                                      (CC.seq (CC.reg none [Ins.mk (some 46) none Act.mv [Opd.t 9], Ins.mk (some 47) none Act.mv [Opd.t 0], Ins.mk (some 48) none Act.len [Opd.t 47], Ins.mk (some 49) none (Act.bin BinOp.lss (EqK.nil 10)) [Opd.t 46, Opd.t 48]])
                                        (CC.cond (Opd.t 49)
                                          (CC.reg none
                                            [Ins.mk (some 50) none Act.mv [Opd.t 8], Ins.mk (some 51) none Act.mv [Opd.t 0], Ins.mk (some 52) none Act.mv [Opd.t 9], Ins.mk (some 53) none (Act.iad 1) [Opd.t 51, Opd.t 52], Ins.mk (some 54) none (Act.load none) [Opd.t 53],
                                              Ins.mk (some 55) none (Act.cvi IntKind.i64) [Opd.t 54], Ins.mk (some 56) none (Act.bin BinOp.add (EqK.nil 10)) [Opd.t 50, Opd.t 55], Ins.mk (some 8) none Act.mv [Opd.t 56]])
                                          CC.skip)))))
                                (CC.seq (CC.fgt [0, 1, 2, 6, 7, 8, 40, 41]) (CC.reg none [Ins.mk (some 57) none (Act.bin BinOp.add (EqK.nil 10)) [Opd.t 41, Opd.k (AV.d (DV.int IntKind.i64 (Int.ofNat 1)))], Ins.mk (some 41) none Act.mv [Opd.t 57]])))))))))
                  (CC.seq (CC.fgt [0, 1, 2, 6, 7, 8])
                    (CC.seq (CC.reg none [Ins.mk (some 10) none Act.mv [Opd.k (AV.d DV.nilsl)]])
                      (CC.seq
                        (CC.seq
                          (CC.reg none
                            [Ins.mk (some 58) none Act.mv [Opd.t 1], Ins.mk (some 59) none (Act.un UnOp.neg) [Opd.t 58], Ins.mk (some 60) none Act.max [Opd.k (AV.d (DV.int IntKind.i64 (Int.ofNat 0))), Opd.t 59], Ins.mk (some 61) none Act.mv [Opd.k (AV.d (DV.int IntKind.i64 (Int.ofNat 0)))]])
                          (CC.block 5
                            (CC.loop [0, 1, 2, 6, 7, 8, 10, 60, 61]
                              (CC.seq (CC.reg none [Ins.mk (some 62) none (Act.bin BinOp.lss (EqK.nil 10)) [Opd.t 61, Opd.t 60]])
                                (CC.seq (CC.cond (Opd.t 62) CC.skip (CC.exit 5))
                                  (CC.seq (CC.fgt [0, 1, 2, 6, 7, 8, 10, 60, 61])
                                    (CC.seq
                                      (CC.block 6
                                        (CC.reg none
                                          [Ins.mk (some 63) none Act.mv [Opd.t 10], Ins.mk (some 64) none (Act.bslT 5 1 [DV.int IntKind.u8 (Int.ofNat 0)] 1 [0]) [Opd.k (AV.d (DV.int IntKind.u8 (Int.ofNat 0)))], Ins.mk (some 65) none (Act.app 5 1 1) [Opd.t 63, Opd.t 64],
                                            Ins.mk (some 10) none Act.mv [Opd.t 65]]))
                                      (CC.seq (CC.fgt [0, 1, 2, 6, 7, 8, 10, 60, 61]) (CC.reg none [Ins.mk (some 66) none (Act.bin BinOp.add (EqK.nil 10)) [Opd.t 61, Opd.k (AV.d (DV.int IntKind.i64 (Int.ofNat 1)))], Ins.mk (some 61) none Act.mv [Opd.t 66]])))))))))
                        (CC.seq (CC.fgt [0, 1, 2, 6, 7, 8, 10])
                          (CC.seq
                            (CC.reg none
                              [Ins.mk (some 67) none Act.mv [Opd.t 10], Ins.mk (some 68) none Act.mv [Opd.t 0], Ins.mk (some 69) none Act.mv [Opd.t 0], Ins.mk (some 70) none Act.len [Opd.t 69], Ins.mk (some 71) none Act.mv [Opd.t 1],
                                Ins.mk (some 72) none Act.max [Opd.k (AV.d (DV.int IntKind.i64 (Int.ofNat 0))), Opd.t 71], Ins.mk (some 73) none Act.min [Opd.t 70, Opd.t 72], Ins.mk (some 74) none (Act.cutr 1 true false) [Opd.t 68, Opd.t 73], Ins.mk (some 75) none (Act.app 5 1 1) [Opd.t 67, Opd.t 74],
                                Ins.mk (some 10) none Act.mv [Opd.t 75]])
                            (CC.seq (CC.reg none [Ins.mk (some 11) none Act.mv [Opd.k (AV.d (DV.int IntKind.i64 (Int.ofNat 0)))]])
                              (CC.seq
                                (CC.seq (CC.reg none [Ins.mk (some 76) none Act.mv [Opd.t 10], Ins.mk (some 77) none Act.len [Opd.t 76], Ins.mk (some 78) none (Act.bin BinOp.sub (EqK.nil 10)) [Opd.t 77, Opd.k (AV.d (DV.int IntKind.i64 (Int.ofNat 1)))], Ins.mk (some 12) none Act.mv [Opd.t 78]])
                                  (CC.block 7
                                    (CC.loop [2, 6, 7, 8, 10, 11, 12]
                                      (CC.seq (CC.seq (CC.reg none [Ins.mk (some 79) none Act.mv [Opd.t 12], Ins.mk (some 80) none (Act.bin BinOp.geq (EqK.nil 10)) [Opd.t 79, Opd.k (AV.d (DV.int IntKind.i64 (Int.ofNat 0)))]]) (CC.cond (Opd.t 80) CC.skip (CC.exit 7)))
                                        (CC.seq (CC.fgt [2, 6, 7, 8, 10, 11, 12])
                                          (CC.seq
                                            (CC.block 8
                                              (CC.seq
                                                (CC.reg none
                                                  [Ins.mk (some 83) none Act.mv [Opd.t 10], Ins.mk (some 84) none Act.mv [Opd.t 12], Ins.mk (some 85) none (Act.iad 1) [Opd.t 83, Opd.t 84], Ins.mk (some 86) none (Act.load none) [Opd.t 85], Ins.mk (some 87) none (Act.cvi IntKind.i64) [Opd.t 86],
                                                    Ins.mk (some 88) none Act.mv [Opd.t 2], Ins.mk (some 89) none (Act.bin BinOp.mul (EqK.nil 10)) [Opd.t 87, Opd.t 88], Ins.mk (some 90) none Act.mv [Opd.t 11], Ins.mk (some 91) none (Act.bin BinOp.add (EqK.nil 10)) [Opd.t 89, Opd.t 90],
                                                    Ins.mk (some 13) none Act.mv [Opd.t 91]])
                                                (CC.reg none
                                                  [Ins.mk (some 92) none Act.mv [Opd.t 10], Ins.mk (some 93) none Act.mv [Opd.t 12], Ins.mk (some 94) none Act.mv [Opd.t 13], Ins.mk (some 95) none (Act.bin BinOp.rem (EqK.nil 10)) [Opd.t 94, Opd.k (AV.d (DV.int IntKind.i64 (Int.ofNat 10)))],
                                                    Ins.mk (some 96) none (Act.cvi IntKind.u8) [Opd.t 95], Ins.mk (some 97) none Act.mv [Opd.t 13], Ins.mk (some 98) none (Act.bin BinOp.quo (EqK.nil 10)) [Opd.t 97, Opd.k (AV.d (DV.int IntKind.i64 (Int.ofNat 10)))],
                                                    Ins.mk (some 99) none (Act.iad 1) [Opd.t 92, Opd.t 93], Ins.mk none none (Act.storeT 1) [Opd.t 99, Opd.t 96], Ins.mk (some 11) none Act.mv [Opd.t 98]])))
                                            (CC.seq (CC.fgt [2, 6, 7, 8, 10, 11, 12])
                                              (CC.reg none [Ins.mk (some 81) none Act.mv [Opd.t 12], Ins.mk (some 82) none (Act.bin BinOp.sub (EqK.nil 10)) [Opd.t 81, Opd.k (AV.d (DV.int IntKind.i64 (Int.ofNat 1)))], Ins.mk (some 12) none Act.mv [Opd.t 82]]))))))))
                                (CC.seq (CC.fgt [2, 6, 7, 8, 10, 11])
                                  (CC.seq
                                    (CC.reg none
                                      [Ins.mk (some 100) none Act.mv [Opd.t 8], Ins.mk (some 101) none Act.mv [Opd.t 2], Ins.mk (some 102) none (Act.bin BinOp.mul (EqK.nil 10)) [Opd.t 100, Opd.t 101], Ins.mk (some 103) none Act.mv [Opd.t 11],
                                        Ins.mk (some 104) none (Act.bin BinOp.add (EqK.nil 10)) [Opd.t 102, Opd.t 103], Ins.mk (some 14) none Act.mv [Opd.t 104]])
                                    (CC.seq
                                      (CC.seq
                                        (CC.reg none
                                          [Ins.mk (some 105) none Act.mv [Opd.t 10], Ins.mk (some 106) none Act.len [Opd.t 105], Ins.mk (some 107) none (Act.bin BinOp.gtr (EqK.nil 10)) [Opd.t 106, Opd.k (AV.d (DV.int IntKind.i64 (Int.ofNat 0)))], Ins.mk (some 108) none Act.mv [Opd.t 107],
                                            Ins.mk (some 109) (some (108, true)) Act.mv [Opd.t 10], Ins.mk (some 110) (some (108, true)) (Act.iad 1) [Opd.t 109, Opd.k (AV.d (DV.int IntKind.i64 (Int.ofNat 0)))], Ins.mk (some 111) (some (108, true)) (Act.load none) [Opd.t 110],
                                            Ins.mk (some 112) (some (108, true)) (Act.bin BinOp.geq (EqK.nil 10)) [Opd.t 111, Opd.k (AV.d (DV.int IntKind.u8 (Int.ofNat 5)))], Ins.mk (some 113) none Act.pick [Opd.t 108, Opd.t 112, Opd.k (AV.d (DV.bool false))]])
                                        (CC.cond (Opd.t 113) (CC.reg none [Ins.mk (some 114) none Act.mv [Opd.t 14], Ins.mk (some 115) none (Act.bin BinOp.add (EqK.nil 10)) [Opd.t 114, Opd.k (AV.d (DV.int IntKind.i64 (Int.ofNat 1)))], Ins.mk (some 14) none Act.mv [Opd.t 115]]) CC.skip))
                                      (CC.seq (CC.fgt [6, 7, 14])
                                        (CC.seq
                                          (CC.reg none
                                            [Ins.mk (some 116) none Act.mv [Opd.t 14], Ins.mk (some 117) none Act.mv [Opd.t 14], Ins.mk (some 118) none (Act.bin BinOp.leq (EqK.nil 10)) [Opd.t 117, Opd.k (AV.d (DV.int IntKind.i64 (Int.ofNat 68719476736)))], Ins.mk (some 6) none Act.mv [Opd.t 116],
                                              Ins.mk (some 7) none Act.mv [Opd.t 118]])
                                          CC.ret)))))))))))))))))))
    [RV.tmp 6, RV.tmp 7]
theorem code172_ok : F0 172 = some (.code code172) := by kernel_rfl
def code173 : CFn :=
  CFn.mk
    (CC.seq (CC.reg none [Ins.mk (some 1) none (Act.box 192) [Opd.t 0], Ins.mk (some 2) none Act.mv [Opd.k (AV.d (DV.int IntKind.i64 (Int.ofNat 0)))]])
      (CC.seq (CC.reg none [Ins.mk (some 3) none Act.mv [Opd.k (AV.d (DV.int IntKind.i64 (Int.ofNat 0)))]])
        (CC.seq
          (CC.seq (CC.reg none [Ins.mk (some 5) none (Act.fad 3) [Opd.t 1], Ins.mk (some 6) none (Act.load none) [Opd.t 5], Ins.mk (some 7) none Act.lens [Opd.t 6], Ins.mk (some 8) none Act.mv [Opd.k (AV.d (DV.int IntKind.i64 (Int.ofNat 0)))]])
            (CC.block 0
              (CC.loop [1, 2, 3, 7, 8]
                (CC.seq (CC.reg none [Ins.mk (some 9) none (Act.bin BinOp.lss (EqK.nil 10)) [Opd.t 8, Opd.t 7]])
                  (CC.seq (CC.cond (Opd.t 9) CC.skip (CC.exit 0))
                    (CC.seq (CC.fgt [1, 2, 3, 7, 8])
                      (CC.seq
                        (CC.block 1
                          (CC.seq (CC.reg none [Ins.mk (some 10) none Act.mv [Opd.t 8], Ins.mk (some 4) none Act.mv [Opd.t 10]])
                            (CC.seq
                              (CC.reg none
                                [Ins.mk (some 11) none (Act.fad 3) [Opd.t 1], Ins.mk (some 12) none (Act.load none) [Opd.t 11], Ins.mk (some 13) none Act.mv [Opd.t 4], Ins.mk (some 14) none Act.idxs [Opd.t 12, Opd.t 13],
                                  Ins.mk (some 15) none (Act.call false) [Opd.k (AV.fn Mode.pure 213 [] []), Opd.t 14]])
                              (CC.cond (Opd.t 15)
                                (CC.reg none
                                  [Ins.mk (some 16) none Act.mv [Opd.t 3], Ins.mk (some 17) none (Act.bin BinOp.mul (EqK.nil 10)) [Opd.k (AV.d (DV.int IntKind.i64 (Int.ofNat 10))), Opd.t 16], Ins.mk (some 18) none (Act.fad 3) [Opd.t 1], Ins.mk (some 19) none (Act.load none) [Opd.t 18],
                                    Ins.mk (some 20) none Act.mv [Opd.t 4], Ins.mk (some 21) none Act.idxs [Opd.t 19, Opd.t 20], Ins.mk (some 22) none (Act.bin BinOp.sub (EqK.nil 10)) [Opd.t 21, Opd.k (AV.d (DV.int IntKind.u8 (Int.ofNat 48)))], Ins.mk (some 23) none (Act.cvi IntKind.i64) [Opd.t 22],
                                    Ins.mk (some 24) none (Act.bin BinOp.add (EqK.nil 10)) [Opd.t 17, Opd.t 23], Ins.mk (some 25) none Act.min [Opd.k (AV.d (DV.int IntKind.i64 (Int.ofNat 1000))), Opd.t 24], Ins.mk (some 3) none Act.mv [Opd.t 25]])
                                CC.skip))))
                        (CC.seq (CC.fgt [1, 2, 3, 7, 8]) (CC.reg none [Ins.mk (some 26) none (Act.bin BinOp.add (EqK.nil 10)) [Opd.t 8, Opd.k (AV.d (DV.int IntKind.i64 (Int.ofNat 1)))], Ins.mk (some 8) none Act.mv [Opd.t 26]])))))))))
          (CC.seq (CC.fgt [1, 2, 3])
            (CC.seq
              (CC.seq
                (CC.reg none
                  [Ins.mk (some 27) none (Act.fad 3) [Opd.t 1], Ins.mk (some 28) none (Act.load none) [Opd.t 27], Ins.mk (some 29) none (Act.bin BinOp.neq (EqK.nil 10)) [Opd.t 28, Opd.k (AV.d (DV.str []))], Ins.mk (some 30) none Act.mv [Opd.t 29],
                    Ins.mk (some 31) (some (30, true)) (Act.fad 3) [Opd.t 1], Ins.mk (some 32) (some (30, true)) (Act.load none) [Opd.t 31], Ins.mk (some 33) (some (30, true)) Act.idxs [Opd.t 32, Opd.k (AV.d (DV.int IntKind.i64 (Int.ofNat 0)))],
                    Ins.mk (some 34) (some (30, true)) (Act.bin BinOp.eql (EqK.nil 10)) [Opd.t 33, Opd.k (AV.d (DV.int IntKind.u8 (Int.ofNat 45)))], Ins.mk (some 35) none Act.pick [Opd.t 30, Opd.t 34, Opd.k (AV.d (DV.bool false))]])
                (CC.cond (Opd.t 35) (CC.seq (CC.reg none [Ins.mk (some 36) none Act.mv [Opd.t 3], Ins.mk (some 37) none (Act.un UnOp.neg) [Opd.t 36], Ins.mk (some 2) none Act.mv [Opd.t 37]]) CC.ret) CC.skip))
              (CC.seq (CC.fgt [2, 3]) (CC.seq (CC.reg none [Ins.mk (some 38) none Act.mv [Opd.t 3], Ins.mk (some 2) none Act.mv [Opd.t 38]]) CC.ret)))))))
    [RV.tmp 2]
theorem code173_ok : F0 173 = some (.code code173) := by kernel_rfl
def code124 : CFn :=
  CFn.mk
    (CC.seq (CC.reg none [Ins.mk (some 4) none Act.mv [Opd.k (AV.d (DV.int IntKind.i64 (Int.ofNat 0)))], Ins.mk (some 5) none Act.mv [Opd.k (AV.d (DV.int IntKind.i64 (Int.ofNat 0)))]])
      (CC.seq
        (CC.seq (CC.reg none [Ins.mk (some 11) none Act.mv [Opd.t 1], Ins.mk (some 12) none (Act.call false) [Opd.k (AV.fn Mode.pure 116 [] []), Opd.t 11], Ins.mk (some 13) none (Act.un UnOp.not) [Opd.t 12]])
          (CC.cond (Opd.t 13) (CC.seq (CC.reg none [Ins.mk (some 4) none Act.mv [Opd.k (AV.d (DV.int IntKind.i64 (Int.ofNat 0)))], Ins.mk (some 5) none Act.mv [Opd.k (AV.d (DV.int IntKind.i64 (Int.ofNat 2)))]]) CC.ret) CC.skip))
        (CC.seq (CC.fgt [0, 1, 4, 5])
          (CC.seq
            (CC.reg none
              [Ins.mk (some 14) none Act.mv [Opd.t 0], Ins.mk (some 15) none (Act.call false) [Opd.k (AV.fn Mode.pure 171 [] []), Opd.t 14], Ins.mk (some 6) none (Act.new 192 [AV.d (DV.bool false), AV.d (DV.str []), AV.d (DV.str []), AV.d (DV.str []), AV.d (DV.int IntKind.i64 (Int.ofNat 0))]) [],
                Ins.mk none none (Act.storeT 5) [Opd.t 6, Opd.t 15]])
            (CC.seq
              (CC.seq
                (CC.reg none
                  [Ins.mk (some 16) none (Act.fad 4) [Opd.t 6], Ins.mk (some 17) none (Act.load none) [Opd.t 16], Ins.mk (some 18) none (Act.bin BinOp.eql (EqK.nil 10)) [Opd.t 17, Opd.k (AV.d (DV.int IntKind.i64 (Int.ofNat 0)))], Ins.mk (some 19) none Act.mv [Opd.t 18],
                    Ins.mk (some 20) (some (19, false)) (Act.fad 4) [Opd.t 6], Ins.mk (some 21) (some (19, false)) (Act.load none) [Opd.t 20], Ins.mk (some 22) (some (19, false)) Act.mv [Opd.t 0], Ins.mk (some 23) (some (19, false)) Act.lens [Opd.t 22],
                    Ins.mk (some 24) (some (19, false)) (Act.bin BinOp.neq (EqK.nil 10)) [Opd.t 21, Opd.t 23], Ins.mk (some 25) none Act.pick [Opd.t 19, Opd.k (AV.d (DV.bool true)), Opd.t 24], Ins.mk (some 26) none Act.mv [Opd.t 25], Ins.mk (some 27) (some (26, false)) Act.mv [Opd.t 0],
                    Ins.mk (some 28) (some (26, false)) Act.lens [Opd.t 27], Ins.mk (some 29) (some (26, false)) (Act.bin BinOp.gtr (EqK.nil 10)) [Opd.t 28, Opd.k (AV.d (DV.int IntKind.i64 (Int.ofNat 300)))], Ins.mk (some 30) none Act.pick [Opd.t 26, Opd.k (AV.d (DV.bool true)), Opd.t 29]])
                (CC.cond (Opd.t 30) (CC.seq (CC.reg none [Ins.mk (some 4) none Act.mv [Opd.k (AV.d (DV.int IntKind.i64 (Int.ofNat 0)))], Ins.mk (some 5) none Act.mv [Opd.k (AV.d (DV.int IntKind.i64 (Int.ofNat 21)))]]) CC.ret) CC.skip))
              (CC.seq (CC.fgt [1, 4, 5, 6])
                (CC.seq
                  (CC.reg none
                    [Ins.mk (some 31) none (Act.fad 1) [Opd.t 6], Ins.mk (some 32) none (Act.load none) [Opd.t 31], Ins.mk (some 33) none (Act.fad 2) [Opd.t 6], Ins.mk (some 34) none (Act.load none) [Opd.t 33], Ins.mk (some 35) none (Act.bin BinOp.add (EqK.nil 10)) [Opd.t 32, Opd.t 34],
                      Ins.mk (some 36) none (Act.s2b 5) [Opd.t 35], Ins.mk (some 7) none Act.mv [Opd.t 36]])
                  (CC.seq
                    (CC.seq (CC.reg none [Ins.mk (some 37) none Act.mv [Opd.t 7], Ins.mk (some 38) none Act.len [Opd.t 37], Ins.mk (some 39) none Act.mv [Opd.k (AV.d (DV.int IntKind.i64 (Int.ofNat 0)))]])
                      (CC.block 0
                        (CC.loop [1, 4, 5, 6, 7, 38, 39]
                          (CC.seq (CC.reg none [Ins.mk (some 40) none (Act.bin BinOp.lss (EqK.nil 10)) [Opd.t 39, Opd.t 38]])
                            (CC.seq (CC.cond (Opd.t 40) CC.skip (CC.exit 0))
                              (CC.seq (CC.fgt [1, 4, 5, 6, 7, 38, 39])
                                (CC.seq
                                  (CC.block 1
                                    (CC.seq (CC.reg none [Ins.mk (some 41) none Act.mv [Opd.t 39], Ins.mk (some 8) none Act.mv [Opd.t 41]])
                                      (CC.reg none
                                        [Ins.mk (some 42) none Act.mv [Opd.t 7], Ins.mk (some 43) none Act.mv [Opd.t 8], Ins.mk (some 44) none (Act.iad 1) [Opd.t 42, Opd.t 43], Ins.mk (some 45) none (Act.load none) [Opd.t 44],
                                          Ins.mk (some 46) none (Act.bin BinOp.sub (EqK.nil 10)) [Opd.t 45, Opd.k (AV.d (DV.int IntKind.u8 (Int.ofNat 48)))], Ins.mk (some 47) none (Act.iad 1) [Opd.t 42, Opd.t 43], Ins.mk none none (Act.storeT 1) [Opd.t 47, Opd.t 46]])))
                                  (CC.seq (CC.fgt [1, 4, 5, 6, 7, 38, 39]) (CC.reg none [Ins.mk (some 48) none (Act.bin BinOp.add (EqK.nil 10)) [Opd.t 39, Opd.k (AV.d (DV.int IntKind.i64 (Int.ofNat 1)))], Ins.mk (some 39) none Act.mv [Opd.t 48]])))))))))
                    (CC.seq (CC.fgt [1, 4, 5, 6, 7])
                      (CC.seq
                        (CC.reg (some [])
                          [Ins.mk (some 50) none Act.mv [Opd.t 7], Ins.mk (some 51) none (Act.fad 1) [Opd.t 6], Ins.mk (some 52) none (Act.load none) [Opd.t 51], Ins.mk (some 53) none Act.lens [Opd.t 52], Ins.mk (some 54) none (Act.load (some 5)) [Opd.t 6],
                            Ins.mk (some 55) none (Act.call true) [Opd.k (AV.fn Mode.pure 173 [] []), Opd.t 54], Ins.mk (some 56) none (Act.bin BinOp.add (EqK.nil 10)) [Opd.t 53, Opd.t 55], Ins.mk (some 57) none Act.mv [Opd.t 1],
                            Ins.mk (some 58) none (Act.call true) [Opd.k (AV.fn Mode.pure 172 [] []), Opd.t 50, Opd.t 56, Opd.t 57], Ins.mk (some 49) none Act.mv [Opd.t 58], Ins.mk (some 59) none (Act.ext 0) [Opd.t 49], Ins.mk (some 60) none (Act.ext 1) [Opd.t 49],
                            Ins.mk (some 9) none Act.mv [Opd.t 59], Ins.mk (some 10) none Act.mv [Opd.t 60]])
                        (CC.seq
                          (CC.seq (CC.reg none [Ins.mk (some 61) none Act.mv [Opd.t 10], Ins.mk (some 62) none (Act.un UnOp.not) [Opd.t 61]])
                            (CC.cond (Opd.t 62) (CC.seq (CC.reg none [Ins.mk (some 4) none Act.mv [Opd.k (AV.d (DV.int IntKind.i64 (Int.ofNat 0)))], Ins.mk (some 5) none Act.mv [Opd.k (AV.d (DV.int IntKind.i64 (Int.ofNat 10)))]]) CC.ret) CC.skip))
                          (CC.seq (CC.fgt [4, 5, 6, 9])
                            (CC.seq
                              (CC.seq (CC.reg none [Ins.mk (some 63) none (Act.fad 0) [Opd.t 6], Ins.mk (some 64) none (Act.load none) [Opd.t 63]])
                                (CC.cond (Opd.t 64) (CC.seq (CC.reg none [Ins.mk (some 65) none Act.mv [Opd.t 9], Ins.mk (some 66) none (Act.un UnOp.neg) [Opd.t 65], Ins.mk (some 4) none Act.mv [Opd.t 66], Ins.mk (some 5) none Act.mv [Opd.k (AV.d (DV.int IntKind.i64 (Int.ofNat 0)))]]) CC.ret)
                                  CC.skip))
                              (CC.seq (CC.fgt [4, 5, 9]) (CC.seq (CC.reg none [Ins.mk (some 67) none Act.mv [Opd.t 9], Ins.mk (some 4) none Act.mv [Opd.t 67], Ins.mk (some 5) none Act.mv [Opd.k (AV.d (DV.int IntKind.i64 (Int.ofNat 0)))]]) CC.ret)))))))))))))))
    [RV.tmp 4, RV.tmp 5]
theorem code124_ok : F0 124 = some (.code code124) := by kernel_rfl
def code148 : CFn :=
  CFn.mk
    (CC.seq (CC.reg none [Ins.mk (some 2) none Act.mv [Opd.k (AV.d (DV.bool false))]])
      (CC.seq
        (CC.reg none
          [Ins.mk (some 3) none Act.mv [Opd.t 0], Ins.mk (some 4) none (Act.bin BinOp.geq (EqK.nil 10)) [Opd.t 3, Opd.k (AV.d (DV.int IntKind.u8 (Int.ofNat 48)))], Ins.mk (some 5) none Act.mv [Opd.t 4], Ins.mk (some 6) (some (5, true)) Act.mv [Opd.t 0],
            Ins.mk (some 7) (some (5, true)) (Act.bin BinOp.leq (EqK.nil 10)) [Opd.t 6, Opd.k (AV.d (DV.int IntKind.u8 (Int.ofNat 57)))], Ins.mk (some 8) none Act.pick [Opd.t 5, Opd.t 7, Opd.k (AV.d (DV.bool false))], Ins.mk (some 2) none Act.mv [Opd.t 8]])
        CC.ret))
    [RV.tmp 2]
theorem code148_ok : F0 148 = some (.code code148) := by kernel_rfl
def code194 : CFn :=
  CFn.mk
    (CC.seq (CC.reg none [Ins.mk (some 4) none Act.mv [Opd.k (AV.d (DV.int IntKind.i64 (Int.ofNat 0)))]])
      (CC.seq (CC.reg none [Ins.mk (some 5) none Act.mv [Opd.k (AV.d (DV.int IntKind.i64 (Int.ofNat 0)))]])
        (CC.seq
          (CC.block 0
            (CC.loop [0, 1, 4, 5]
              (CC.seq
                (CC.seq
                  (CC.reg none
                    [Ins.mk (some 6) none Act.mv [Opd.t 1], Ins.mk (some 7) none Act.mv [Opd.t 5], Ins.mk (some 8) none (Act.bin BinOp.add (EqK.nil 10)) [Opd.t 6, Opd.t 7], Ins.mk (some 9) none Act.mv [Opd.t 0], Ins.mk (some 10) none Act.lens [Opd.t 9],
                      Ins.mk (some 11) none (Act.bin BinOp.lss (EqK.nil 10)) [Opd.t 8, Opd.t 10], Ins.mk (some 12) none Act.mv [Opd.t 11], Ins.mk (some 13) (some (12, true)) Act.mv [Opd.t 0], Ins.mk (some 14) (some (12, true)) Act.mv [Opd.t 1], Ins.mk (some 15) (some (12, true)) Act.mv [Opd.t 5],
                      Ins.mk (some 16) (some (12, true)) (Act.bin BinOp.add (EqK.nil 10)) [Opd.t 14, Opd.t 15], Ins.mk (some 17) (some (12, true)) Act.idxs [Opd.t 13, Opd.t 16], Ins.mk (some 18) (some (12, true)) (Act.call false) [Opd.k (AV.fn Mode.pure 148 [] []), Opd.t 17],
                      Ins.mk (some 19) none Act.pick [Opd.t 12, Opd.t 18, Opd.k (AV.d (DV.bool false))]])
                  (CC.cond (Opd.t 19) CC.skip (CC.exit 0)))
                (CC.seq (CC.fgt [0, 1, 4, 5]) (CC.block 1 (CC.reg none [Ins.mk (some 20) none Act.mv [Opd.t 5], Ins.mk (some 21) none (Act.bin BinOp.add (EqK.nil 10)) [Opd.t 20, Opd.k (AV.d (DV.int IntKind.i64 (Int.ofNat 1)))], Ins.mk (some 5) none Act.mv [Opd.t 21]]))))))
          (CC.seq (CC.fgt [4, 5]) (CC.seq (CC.reg none [Ins.mk (some 22) none Act.mv [Opd.t 5], Ins.mk (some 4) none Act.mv [Opd.t 22]]) CC.ret)))))
    [RV.tmp 4]
theorem code194_ok : F0 194 = some (.code code194) := by kernel_rfl
def code193 : CFn :=
  CFn.mk
    (CC.seq (CC.reg none [Ins.mk (some 4) none Act.mv [Opd.k (AV.d (DV.int IntKind.i64 (Int.ofNat 0)))]])
      (CC.seq
        (CC.seq
          (CC.reg none
            [Ins.mk (some 5) none Act.mv [Opd.t 1], Ins.mk (some 6) none Act.mv [Opd.t 0], Ins.mk (some 7) none Act.lens [Opd.t 6], Ins.mk (some 8) none (Act.bin BinOp.lss (EqK.nil 10)) [Opd.t 5, Opd.t 7], Ins.mk (some 9) none Act.mv [Opd.t 8], Ins.mk (some 10) (some (9, true)) Act.mv [Opd.t 0],
              Ins.mk (some 11) (some (9, true)) Act.mv [Opd.t 1], Ins.mk (some 12) (some (9, true)) Act.idxs [Opd.t 10, Opd.t 11], Ins.mk (some 13) (some (9, true)) (Act.bin BinOp.eql (EqK.nil 10)) [Opd.t 12, Opd.k (AV.d (DV.int IntKind.u8 (Int.ofNat 43)))],
              Ins.mk (some 14) (some (9, true)) Act.mv [Opd.t 13], Ins.mk (some 15) (some (14, false)) Act.mv [Opd.t 0], Ins.mk (some 16) (some (14, false)) Act.mv [Opd.t 1], Ins.mk (some 17) (some (14, false)) Act.idxs [Opd.t 15, Opd.t 16],
              Ins.mk (some 18) (some (14, false)) (Act.bin BinOp.eql (EqK.nil 10)) [Opd.t 17, Opd.k (AV.d (DV.int IntKind.u8 (Int.ofNat 45)))], Ins.mk (some 19) (some (9, true)) Act.pick [Opd.t 14, Opd.k (AV.d (DV.bool true)), Opd.t 18],
              Ins.mk (some 20) none Act.pick [Opd.t 9, Opd.t 19, Opd.k (AV.d (DV.bool false))]])
          (CC.cond (Opd.t 20) (CC.seq (CC.reg none [Ins.mk (some 4) none Act.mv [Opd.k (AV.d (DV.int IntKind.i64 (Int.ofNat 1)))]]) CC.ret) CC.skip))
        (CC.seq (CC.fgt [4]) (CC.seq (CC.reg none [Ins.mk (some 4) none Act.mv [Opd.k (AV.d (DV.int IntKind.i64 (Int.ofNat 0)))]]) CC.ret))))
    [RV.tmp 4]
theorem code193_ok : F0 193 = some (.code code193) := by kernel_rfl
def code147 : CFn :=
  CFn.mk
    (CC.seq
      (CC.reg none
        [Ins.mk (some 2) none Act.mv [Opd.k (AV.d (DV.int IntKind.i64 (Int.ofNat 0)))], Ins.mk (some 3) none Act.mv [Opd.k (AV.d (DV.int IntKind.i64 (Int.ofNat 0)))], Ins.mk (some 4) none Act.mv [Opd.k (AV.d (DV.int IntKind.i64 (Int.ofNat 0)))],
          Ins.mk (some 5) none Act.mv [Opd.k (AV.d (DV.int IntKind.i64 (Int.ofNat 0)))], Ins.mk (some 6) none Act.mv [Opd.k (AV.d (DV.int IntKind.i64 (Int.ofNat 0)))]])
      (CC.seq (CC.reg none [Ins.mk (some 13) none Act.mv [Opd.t 0], Ins.mk (some 14) none (Act.call false) [Opd.k (AV.fn Mode.pure 193 [] []), Opd.t 13, Opd.k (AV.d (DV.int IntKind.i64 (Int.ofNat 0)))], Ins.mk (some 7) none Act.mv [Opd.t 14]])
        (CC.seq (CC.reg none [Ins.mk (some 15) none Act.mv [Opd.t 0], Ins.mk (some 16) none Act.mv [Opd.t 7], Ins.mk (some 17) none (Act.call false) [Opd.k (AV.fn Mode.pure 194 [] []), Opd.t 15, Opd.t 16], Ins.mk (some 8) none Act.mv [Opd.t 17]])
          (CC.seq (CC.reg none [Ins.mk (some 18) none Act.mv [Opd.t 7], Ins.mk (some 19) none Act.mv [Opd.t 8], Ins.mk (some 20) none (Act.bin BinOp.add (EqK.nil 10)) [Opd.t 18, Opd.t 19], Ins.mk (some 9) none Act.mv [Opd.t 20]])
            (CC.seq (CC.reg none [Ins.mk (some 10) none Act.mv [Opd.k (AV.d (DV.int IntKind.i64 (Int.ofNat 0)))]])
              (CC.seq
                (CC.seq
                  (CC.reg none
                    [Ins.mk (some 21) none Act.mv [Opd.t 9], Ins.mk (some 22) none Act.mv [Opd.t 0], Ins.mk (some 23) none Act.lens [Opd.t 22], Ins.mk (some 24) none (Act.bin BinOp.lss (EqK.nil 10)) [Opd.t 21, Opd.t 23], Ins.mk (some 25) none Act.mv [Opd.t 24],
                      Ins.mk (some 26) (some (25, true)) Act.mv [Opd.t 0], Ins.mk (some 27) (some (25, true)) Act.mv [Opd.t 9], Ins.mk (some 28) (some (25, true)) Act.idxs [Opd.t 26, Opd.t 27],
                      Ins.mk (some 29) (some (25, true)) (Act.bin BinOp.eql (EqK.nil 10)) [Opd.t 28, Opd.k (AV.d (DV.int IntKind.u8 (Int.ofNat 46)))], Ins.mk (some 30) none Act.pick [Opd.t 25, Opd.t 29, Opd.k (AV.d (DV.bool false))]])
                  (CC.cond (Opd.t 30)
                    (CC.seq
                      (CC.reg none
                        [Ins.mk (some 31) none Act.mv [Opd.t 0], Ins.mk (some 32) none Act.mv [Opd.t 9], Ins.mk (some 33) none (Act.bin BinOp.add (EqK.nil 10)) [Opd.t 32, Opd.k (AV.d (DV.int IntKind.i64 (Int.ofNat 1)))],
                          Ins.mk (some 34) none (Act.call false) [Opd.k (AV.fn Mode.pure 194 [] []), Opd.t 31, Opd.t 33], Ins.mk (some 10) none Act.mv [Opd.t 34]])
                      (CC.seq (CC.reg none [Ins.mk (some 35) none Act.mv [Opd.t 10], Ins.mk (some 36) none (Act.bin BinOp.gtr (EqK.nil 10)) [Opd.t 35, Opd.k (AV.d (DV.int IntKind.i64 (Int.ofNat 0)))]])
                        (CC.cond (Opd.t 36)
                          (CC.reg none
                            [Ins.mk (some 37) none Act.mv [Opd.t 9], Ins.mk (some 38) none (Act.bin BinOp.add (EqK.nil 10)) [Opd.t 37, Opd.k (AV.d (DV.int IntKind.i64 (Int.ofNat 1)))], Ins.mk (some 39) none Act.mv [Opd.t 10], Ins.mk (some 40) none (Act.bin BinOp.add (EqK.nil 10)) [Opd.t 38, Opd.t 39],
                              Ins.mk (some 9) none Act.mv [Opd.t 40]])
                          CC.skip)))
                    CC.skip))
                (CC.seq (CC.fgt [0, 2, 3, 4, 5, 6, 7, 8, 9, 10])
                  (CC.seq
                    (CC.seq
                      (CC.reg none
                        [Ins.mk (some 41) none Act.mv [Opd.t 8], Ins.mk (some 42) none Act.mv [Opd.t 10], Ins.mk (some 43) none (Act.bin BinOp.add (EqK.nil 10)) [Opd.t 41, Opd.t 42], Ins.mk (some 44) none (Act.bin BinOp.eql (EqK.nil 10)) [Opd.t 43, Opd.k (AV.d (DV.int IntKind.i64 (Int.ofNat 0)))]])
                      (CC.cond (Opd.t 44)
                        (CC.seq
                          (CC.reg none
                            [Ins.mk (some 2) none Act.mv [Opd.k (AV.d (DV.int IntKind.i64 (Int.ofNat 0)))], Ins.mk (some 3) none Act.mv [Opd.k (AV.d (DV.int IntKind.i64 (Int.ofNat 0)))], Ins.mk (some 4) none Act.mv [Opd.k (AV.d (DV.int IntKind.i64 (Int.ofNat 0)))],
                              Ins.mk (some 5) none Act.mv [Opd.k (AV.d (DV.int IntKind.i64 (Int.ofNat 0)))], Ins.mk (some 6) none Act.mv [Opd.k (AV.d (DV.int IntKind.i64 (Int.ofNat 0)))]])
                          CC.ret)
                        CC.skip))
                    (CC.seq (CC.fgt [0, 2, 3, 4, 5, 6, 7, 8, 9, 10])
                      (CC.seq
                        (CC.seq
                          (CC.reg none
                            [Ins.mk (some 45) none Act.mv [Opd.t 9], Ins.mk (some 46) none Act.mv [Opd.t 0], Ins.mk (some 47) none Act.lens [Opd.t 46], Ins.mk (some 48) none (Act.bin BinOp.lss (EqK.nil 10)) [Opd.t 45, Opd.t 47], Ins.mk (some 49) none Act.mv [Opd.t 48],
                              Ins.mk (some 50) (some (49, true)) Act.mv [Opd.t 0], Ins.mk (some 51) (some (49, true)) Act.mv [Opd.t 9], Ins.mk (some 52) (some (49, true)) Act.idxs [Opd.t 50, Opd.t 51],
                              Ins.mk (some 53) (some (49, true)) (Act.bin BinOp.eql (EqK.nil 10)) [Opd.t 52, Opd.k (AV.d (DV.int IntKind.u8 (Int.ofNat 101)))], Ins.mk (some 54) (some (49, true)) Act.mv [Opd.t 53], Ins.mk (some 55) (some (54, false)) Act.mv [Opd.t 0],
                              Ins.mk (some 56) (some (54, false)) Act.mv [Opd.t 9], Ins.mk (some 57) (some (54, false)) Act.idxs [Opd.t 55, Opd.t 56], Ins.mk (some 58) (some (54, false)) (Act.bin BinOp.eql (EqK.nil 10)) [Opd.t 57, Opd.k (AV.d (DV.int IntKind.u8 (Int.ofNat 69)))],
                              Ins.mk (some 59) (some (49, true)) Act.pick [Opd.t 54, Opd.k (AV.d (DV.bool true)), Opd.t 58], Ins.mk (some 60) none Act.pick [Opd.t 49, Opd.t 59, Opd.k (AV.d (DV.bool false))]])
                          (CC.cond (Opd.t 60)
                            (CC.seq
                              (CC.reg none
                                [Ins.mk (some 61) none Act.mv [Opd.t 0], Ins.mk (some 62) none Act.mv [Opd.t 9], Ins.mk (some 63) none (Act.bin BinOp.add (EqK.nil 10)) [Opd.t 62, Opd.k (AV.d (DV.int IntKind.i64 (Int.ofNat 1)))],
                                  Ins.mk (some 64) none (Act.call false) [Opd.k (AV.fn Mode.pure 193 [] []), Opd.t 61, Opd.t 63], Ins.mk (some 11) none Act.mv [Opd.t 64]])
                              (CC.seq
                                (CC.reg none
                                  [Ins.mk (some 65) none Act.mv [Opd.t 0], Ins.mk (some 66) none Act.mv [Opd.t 9], Ins.mk (some 67) none (Act.bin BinOp.add (EqK.nil 10)) [Opd.t 66, Opd.k (AV.d (DV.int IntKind.i64 (Int.ofNat 1)))], Ins.mk (some 68) none Act.mv [Opd.t 11],
                                    Ins.mk (some 69) none (Act.bin BinOp.add (EqK.nil 10)) [Opd.t 67, Opd.t 68], Ins.mk (some 70) none (Act.call false) [Opd.k (AV.fn Mode.pure 194 [] []), Opd.t 65, Opd.t 69], Ins.mk (some 12) none Act.mv [Opd.t 70]])
                                (CC.seq (CC.reg none [Ins.mk (some 71) none Act.mv [Opd.t 12], Ins.mk (some 72) none (Act.bin BinOp.gtr (EqK.nil 10)) [Opd.t 71, Opd.k (AV.d (DV.int IntKind.i64 (Int.ofNat 0)))]])
                                  (CC.cond (Opd.t 72)
                                    (CC.seq
                                      (CC.reg none
                                        [Ins.mk (some 73) none Act.mv [Opd.t 7], Ins.mk (some 74) none Act.mv [Opd.t 8], Ins.mk (some 75) none Act.mv [Opd.t 10], Ins.mk (some 76) none Act.mv [Opd.t 9],
                                          Ins.mk (some 77) none (Act.bin BinOp.add (EqK.nil 10)) [Opd.t 76, Opd.k (AV.d (DV.int IntKind.i64 (Int.ofNat 1)))], Ins.mk (some 78) none Act.mv [Opd.t 9],
                                          Ins.mk (some 79) none (Act.bin BinOp.add (EqK.nil 10)) [Opd.t 78, Opd.k (AV.d (DV.int IntKind.i64 (Int.ofNat 1)))], Ins.mk (some 80) none Act.mv [Opd.t 11], Ins.mk (some 81) none (Act.bin BinOp.add (EqK.nil 10)) [Opd.t 79, Opd.t 80],
                                          Ins.mk (some 82) none Act.mv [Opd.t 12], Ins.mk (some 83) none (Act.bin BinOp.add (EqK.nil 10)) [Opd.t 81, Opd.t 82], Ins.mk (some 2) none Act.mv [Opd.t 73], Ins.mk (some 3) none Act.mv [Opd.t 74], Ins.mk (some 4) none Act.mv [Opd.t 75],
                                          Ins.mk (some 5) none Act.mv [Opd.t 77], Ins.mk (some 6) none Act.mv [Opd.t 83]])
                                      CC.ret)
                                    CC.skip))))
                            CC.skip))
                        (CC.seq (CC.fgt [2, 3, 4, 5, 6, 7, 8, 9, 10])
                          (CC.seq
                            (CC.reg none
                              [Ins.mk (some 84) none Act.mv [Opd.t 7], Ins.mk (some 85) none Act.mv [Opd.t 8], Ins.mk (some 86) none Act.mv [Opd.t 10], Ins.mk (some 87) none Act.mv [Opd.t 9], Ins.mk (some 2) none Act.mv [Opd.t 84], Ins.mk (some 3) none Act.mv [Opd.t 85],
                                Ins.mk (some 4) none Act.mv [Opd.t 86], Ins.mk (some 5) none Act.mv [Opd.k (AV.d (DV.int IntKind.i64 (Int.ofNat 0)))], Ins.mk (some 6) none Act.mv [Opd.t 87]])
                            CC.ret))))))))))))
    [RV.tmp 2, RV.tmp 3, RV.tmp 4, RV.tmp 5, RV.tmp 6]
theorem code147_ok : F0 147 = some (.code code147) := by kernel_rfl
def code151 : CFn :=
  CFn.mk
    (CC.seq (CC.reg none [Ins.mk (some 4) none Act.mv [Opd.k (AV.d (DV.int IntKind.i64 (Int.ofNat 0)))]])
      (CC.seq
        (CC.seq (CC.reg none [Ins.mk (some 7) none Act.mv [Opd.t 1], Ins.mk (some 8) none (Act.bin BinOp.eql (EqK.nil 10)) [Opd.t 7, Opd.k (AV.d (DV.int IntKind.i64 (Int.ofNat 0)))]])
          (CC.cond (Opd.t 8) (CC.seq (CC.reg none [Ins.mk (some 4) none Act.mv [Opd.k (AV.d (DV.int IntKind.i64 (Int.ofNat 0)))]]) CC.ret) CC.skip))
        (CC.seq (CC.fgt [0, 1, 4])
          (CC.seq (CC.reg none [Ins.mk (some 5) none Act.mv [Opd.k (AV.d (DV.int IntKind.i64 (Int.ofNat 0)))]])
            (CC.seq
              (CC.seq
                (CC.reg none
                  [Ins.mk (some 9) none Act.mv [Opd.t 1], Ins.mk (some 10) none Act.mv [Opd.t 0], Ins.mk (some 11) none Act.mv [Opd.t 1], Ins.mk (some 12) none (Act.call false) [Opd.k (AV.fn Mode.pure 193 [] []), Opd.t 10, Opd.t 11],
                    Ins.mk (some 13) none (Act.bin BinOp.add (EqK.nil 10)) [Opd.t 9, Opd.t 12], Ins.mk (some 6) none Act.mv [Opd.t 13]])
                (CC.block 0
                  (CC.loop [0, 1, 4, 5, 6]
                    (CC.seq (CC.seq (CC.reg none [Ins.mk (some 14) none Act.mv [Opd.t 6], Ins.mk (some 15) none Act.mv [Opd.t 0], Ins.mk (some 16) none Act.lens [Opd.t 15], Ins.mk (some 17) none (Act.bin BinOp.lss (EqK.nil 10)) [Opd.t 14, Opd.t 16]]) (CC.cond (Opd.t 17) CC.skip (CC.exit 0)))
                      (CC.seq (CC.fgt [0, 1, 4, 5, 6])
                        (CC.seq
                          (CC.block 1
                            (CC.reg none
                              [Ins.mk (some 20) none Act.mv [Opd.t 5], Ins.mk (some 21) none (Act.bin BinOp.mul (EqK.nil 10)) [Opd.k (AV.d (DV.int IntKind.i64 (Int.ofNat 10))), Opd.t 20], Ins.mk (some 22) none Act.mv [Opd.t 0], Ins.mk (some 23) none Act.mv [Opd.t 6],
                                Ins.mk (some 24) none Act.idxs [Opd.t 22, Opd.t 23], Ins.mk (some 25) none (Act.bin BinOp.sub (EqK.nil 10)) [Opd.t 24, Opd.k (AV.d (DV.int IntKind.u8 (Int.ofNat 48)))], Ins.mk (some 26) none (Act.cvi IntKind.i64) [Opd.t 25],
                                Ins.mk (some 27) none (Act.bin BinOp.add (EqK.nil 10)) [Opd.t 21, Opd.t 26], Ins.mk (some 28) none Act.min [Opd.k (AV.d (DV.int IntKind.i64 (Int.ofNat 1000))), Opd.t 27], Ins.mk (some 5) none Act.mv [Opd.t 28]]))
                          (CC.seq (CC.fgt [0, 1, 4, 5, 6]) (CC.reg none [Ins.mk (some 18) none Act.mv [Opd.t 6], Ins.mk (some 19) none (Act.bin BinOp.add (EqK.nil 10)) [Opd.t 18, Opd.k (AV.d (DV.int IntKind.i64 (Int.ofNat 1)))], Ins.mk (some 6) none Act.mv [Opd.t 19]]))))))))
              (CC.seq (CC.fgt [0, 1, 4, 5])
                (CC.seq
                  (CC.seq (CC.reg none [Ins.mk (some 29) none Act.mv [Opd.t 0], Ins.mk (some 30) none Act.mv [Opd.t 1], Ins.mk (some 31) none Act.idxs [Opd.t 29, Opd.t 30], Ins.mk (some 32) none (Act.bin BinOp.eql (EqK.nil 10)) [Opd.t 31, Opd.k (AV.d (DV.int IntKind.u8 (Int.ofNat 45)))]])
                    (CC.cond (Opd.t 32) (CC.seq (CC.reg none [Ins.mk (some 33) none Act.mv [Opd.t 5], Ins.mk (some 34) none (Act.bin BinOp.sub (EqK.nil 10)) [Opd.k (AV.d (DV.int IntKind.i64 (Int.ofNat 0))), Opd.t 33], Ins.mk (some 4) none Act.mv [Opd.t 34]]) CC.ret) CC.skip))
                  (CC.seq (CC.fgt [4, 5]) (CC.seq (CC.reg none [Ins.mk (some 35) none Act.mv [Opd.t 5], Ins.mk (some 4) none Act.mv [Opd.t 35]]) CC.ret)))))))))
    [RV.tmp 4]
theorem code151_ok : F0 151 = some (.code code151) := by kernel_rfl
def code150 : CFn :=
  CFn.mk
    (CC.seq (CC.reg none [Ins.mk (some 4) none Act.mv [Opd.k (AV.d DV.nilsl)]])
      (CC.seq (CC.reg none [Ins.mk (some 5) none Act.mv [Opd.k (AV.d DV.nilsl)]])
        (CC.seq (CC.reg none [Ins.mk (some 6) none Act.mv [Opd.k (AV.d (DV.int IntKind.i64 (Int.ofNat 0)))]])
          (CC.seq
            (CC.seq (CC.reg none [Ins.mk (some 7) none Act.mv [Opd.k (AV.d (DV.int IntKind.i64 (Int.ofNat 0)))]])
              (CC.block 0
                (CC.loop [0, 1, 4, 5, 6, 7]
                  (CC.seq (CC.seq (CC.reg none [Ins.mk (some 9) none Act.mv [Opd.t 7], Ins.mk (some 10) none Act.mv [Opd.t 0], Ins.mk (some 11) none Act.len [Opd.t 10], Ins.mk (some 12) none (Act.bin BinOp.lss (EqK.nil 10)) [Opd.t 9, Opd.t 11]]) (CC.cond (Opd.t 12) CC.skip (CC.exit 0)))
                    (CC.seq (CC.fgt [0, 1, 4, 5, 6, 7])
                      (CC.seq
                        (CC.block 1
                          (CC.seq
                            (CC.reg none
                              [Ins.mk (some 15) none Act.mv [Opd.t 0], Ins.mk (some 16) none Act.mv [Opd.t 7], Ins.mk (some 17) none (Act.iad 1) [Opd.t 15, Opd.t 16], Ins.mk (some 18) none (Act.load none) [Opd.t 17], Ins.mk (some 19) none Act.mv [Opd.t 1],
                                Ins.mk (some 20) none (Act.bin BinOp.mul (EqK.nil 10)) [Opd.t 18, Opd.t 19], Ins.mk (some 21) none Act.mv [Opd.t 6], Ins.mk (some 22) none (Act.bin BinOp.add (EqK.nil 10)) [Opd.t 20, Opd.t 21], Ins.mk (some 8) none Act.mv [Opd.t 22]])
                            (CC.seq
                              (CC.reg none
                                [Ins.mk (some 23) none Act.mv [Opd.t 5], Ins.mk (some 24) none Act.mv [Opd.t 8], Ins.mk (some 25) none (Act.bin BinOp.rem (EqK.nil 10)) [Opd.t 24, Opd.k (AV.d (DV.int IntKind.i64 (Int.ofNat 10)))],
                                  Ins.mk (some 26) none (Act.bslT 3 1 [DV.int IntKind.i64 (Int.ofNat 0)] 1 [0]) [Opd.t 25], Ins.mk (some 27) none (Act.app 3 1 8) [Opd.t 23, Opd.t 26], Ins.mk (some 5) none Act.mv [Opd.t 27]])
                              (CC.reg none [Ins.mk (some 28) none Act.mv [Opd.t 8], Ins.mk (some 29) none (Act.bin BinOp.quo (EqK.nil 10)) [Opd.t 28, Opd.k (AV.d (DV.int IntKind.i64 (Int.ofNat 10)))], Ins.mk (some 6) none Act.mv [Opd.t 29]]))))
                        (CC.seq (CC.fgt [0, 1, 4, 5, 6, 7]) (CC.reg none [Ins.mk (some 13) none Act.mv [Opd.t 7], Ins.mk (some 14) none (Act.bin BinOp.add (EqK.nil 10)) [Opd.t 13, Opd.k (AV.d (DV.int IntKind.i64 (Int.ofNat 1)))], Ins.mk (some 7) none Act.mv [Opd.t 14]]))))))))
            (CC.seq (CC.fgt [4, 5, 6])
              (CC.seq
                (CC.block 2
                  (CC.loop [4, 5, 6]
                    (CC.seq (CC.seq (CC.reg none [Ins.mk (some 30) none Act.mv [Opd.t 6], Ins.mk (some 31) none (Act.bin BinOp.gtr (EqK.nil 10)) [Opd.t 30, Opd.k (AV.d (DV.int IntKind.i64 (Int.ofNat 0)))]]) (CC.cond (Opd.t 31) CC.skip (CC.exit 2)))
                      (CC.seq (CC.fgt [4, 5, 6])
                        (CC.block 3
                          (CC.seq
                            (CC.reg none
                              [Ins.mk (some 32) none Act.mv [Opd.t 5], Ins.mk (some 33) none Act.mv [Opd.t 6], Ins.mk (some 34) none (Act.bin BinOp.rem (EqK.nil 10)) [Opd.t 33, Opd.k (AV.d (DV.int IntKind.i64 (Int.ofNat 10)))],
                                Ins.mk (some 35) none (Act.bslT 3 1 [DV.int IntKind.i64 (Int.ofNat 0)] 1 [0]) [Opd.t 34], Ins.mk (some 36) none (Act.app 3 1 8) [Opd.t 32, Opd.t 35], Ins.mk (some 5) none Act.mv [Opd.t 36]])
                            (CC.reg none [Ins.mk (some 37) none Act.mv [Opd.t 6], Ins.mk (some 38) none (Act.bin BinOp.quo (EqK.nil 10)) [Opd.t 37, Opd.k (AV.d (DV.int IntKind.i64 (Int.ofNat 10)))], Ins.mk (some 6) none Act.mv [Opd.t 38]])))))))
                (CC.seq (CC.fgt [4, 5]) (CC.seq (CC.reg none [Ins.mk (some 39) none Act.mv [Opd.t 5], Ins.mk (some 4) none Act.mv [Opd.t 39]]) CC.ret))))))))
    [RV.tmp 4]
theorem code150_ok : F0 150 = some (.code code150) := by kernel_rfl
def code149 : CFn :=
  CFn.mk
    (CC.seq (CC.reg none [Ins.mk (some 4) none Act.mv [Opd.k (AV.d (DV.int IntKind.i64 (Int.ofNat 0)))]])
      (CC.seq (CC.reg none [Ins.mk (some 5) none Act.mv [Opd.k (AV.d (DV.int IntKind.i64 (Int.ofNat 0)))]])
        (CC.seq
          (CC.seq (CC.reg none [Ins.mk (some 8) none Act.mv [Opd.t 0], Ins.mk (some 9) none Act.len [Opd.t 8], Ins.mk (some 10) none (Act.bin BinOp.sub (EqK.nil 10)) [Opd.t 9, Opd.k (AV.d (DV.int IntKind.i64 (Int.ofNat 1)))], Ins.mk (some 6) none Act.mv [Opd.t 10]])
            (CC.block 0
              (CC.loop [0, 1, 4, 5, 6]
                (CC.seq
                  (CC.seq
                    (CC.reg none
                      [Ins.mk (some 11) none Act.mv [Opd.t 6], Ins.mk (some 12) none (Act.bin BinOp.geq (EqK.nil 10)) [Opd.t 11, Opd.k (AV.d (DV.int IntKind.i64 (Int.ofNat 0)))], Ins.mk (some 13) none Act.mv [Opd.t 12], Ins.mk (some 14) (some (13, true)) Act.mv [Opd.t 6],
                        Ins.mk (some 15) (some (13, true)) Act.mv [Opd.t 1], Ins.mk (some 16) (some (13, true)) (Act.bin BinOp.geq (EqK.nil 10)) [Opd.t 14, Opd.t 15], Ins.mk (some 17) none Act.pick [Opd.t 13, Opd.t 16, Opd.k (AV.d (DV.bool false))]])
                    (CC.cond (Opd.t 17) CC.skip (CC.exit 0)))
                  (CC.seq (CC.fgt [0, 1, 4, 5, 6])
                    (CC.seq
                      (CC.block 1
                        (CC.reg none
                          [Ins.mk (some 20) none Act.mv [Opd.t 5], Ins.mk (some 21) none (Act.bin BinOp.mul (EqK.nil 10)) [Opd.k (AV.d (DV.int IntKind.i64 (Int.ofNat 10))), Opd.t 20], Ins.mk (some 22) none Act.mv [Opd.t 0], Ins.mk (some 23) none Act.mv [Opd.t 6],
                            Ins.mk (some 24) none (Act.iad 1) [Opd.t 22, Opd.t 23], Ins.mk (some 25) none (Act.load none) [Opd.t 24], Ins.mk (some 26) none (Act.bin BinOp.add (EqK.nil 10)) [Opd.t 21, Opd.t 25],
                            Ins.mk (some 27) none Act.min [Opd.k (AV.d (DV.int IntKind.i64 (Int.ofNat 68719476737))), Opd.t 26], Ins.mk (some 5) none Act.mv [Opd.t 27]]))
                      (CC.seq (CC.fgt [0, 1, 4, 5, 6]) (CC.reg none [Ins.mk (some 18) none Act.mv [Opd.t 6], Ins.mk (some 19) none (Act.bin BinOp.sub (EqK.nil 10)) [Opd.t 18, Opd.k (AV.d (DV.int IntKind.i64 (Int.ofNat 1)))], Ins.mk (some 6) none Act.mv [Opd.t 19]]))))))))
          (CC.seq (CC.fgt [0, 1, 4, 5])
            (CC.seq
              (CC.seq (CC.reg none [Ins.mk (some 28) none Act.mv [Opd.t 1], Ins.mk (some 7) none Act.mv [Opd.t 28]])
                (CC.block 2
                  (CC.loop [0, 1, 4, 5, 7]
                    (CC.seq (CC.seq (CC.reg none [Ins.mk (some 29) none Act.mv [Opd.t 7], Ins.mk (some 30) none (Act.bin BinOp.lss (EqK.nil 10)) [Opd.t 29, Opd.k (AV.d (DV.int IntKind.i64 (Int.ofNat 0)))]]) (CC.cond (Opd.t 30) CC.skip (CC.exit 2)))
                      (CC.seq (CC.fgt [0, 1, 4, 5, 7])
                        (CC.seq
                          (CC.block 3
                            (CC.reg none
                              [Ins.mk (some 33) none Act.mv [Opd.t 5], Ins.mk (some 34) none (Act.bin BinOp.mul (EqK.nil 10)) [Opd.k (AV.d (DV.int IntKind.i64 (Int.ofNat 10))), Opd.t 33], Ins.mk (some 35) none Act.min [Opd.k (AV.d (DV.int IntKind.i64 (Int.ofNat 68719476737))), Opd.t 34],
                                Ins.mk (some 5) none Act.mv [Opd.t 35]]))
                          (CC.seq (CC.fgt [0, 1, 4, 5, 7]) (CC.reg none [Ins.mk (some 31) none Act.mv [Opd.t 7], Ins.mk (some 32) none (Act.bin BinOp.add (EqK.nil 10)) [Opd.t 31, Opd.k (AV.d (DV.int IntKind.i64 (Int.ofNat 1)))], Ins.mk (some 7) none Act.mv [Opd.t 32]]))))))))
              (CC.seq (CC.fgt [0, 1, 4, 5])
                (CC.seq
                  (CC.seq
                    (CC.reg none
                      [Ins.mk (some 36) none Act.mv [Opd.t 1], Ins.mk (some 37) none (Act.bin BinOp.gtr (EqK.nil 10)) [Opd.t 36, Opd.k (AV.d (DV.int IntKind.i64 (Int.ofNat 0)))], Ins.mk (some 38) none Act.mv [Opd.t 37], Ins.mk (some 39) (some (38, true)) Act.mv [Opd.t 1],
                        Ins.mk (some 40) (some (38, true)) Act.mv [Opd.t 0], Ins.mk (some 41) (some (38, true)) Act.len [Opd.t 40], Ins.mk (some 42) (some (38, true)) (Act.bin BinOp.leq (EqK.nil 10)) [Opd.t 39, Opd.t 41],
                        Ins.mk (some 43) none Act.pick [Opd.t 38, Opd.t 42, Opd.k (AV.d (DV.bool false))], Ins.mk (some 44) none Act.mv [Opd.t 43], Ins.mk (some 45) (some (44, true)) Act.mv [Opd.t 0], Ins.mk (some 46) (some (44, true)) Act.mv [Opd.t 1],
                        Ins.mk (some 47) (some (44, true)) (Act.bin BinOp.sub (EqK.nil 10)) [Opd.t 46, Opd.k (AV.d (DV.int IntKind.i64 (Int.ofNat 1)))], Ins.mk (some 48) (some (44, true)) (Act.iad 1) [Opd.t 45, Opd.t 47], Ins.mk (some 49) (some (44, true)) (Act.load none) [Opd.t 48],
                        Ins.mk (some 50) (some (44, true)) (Act.bin BinOp.geq (EqK.nil 10)) [Opd.t 49, Opd.k (AV.d (DV.int IntKind.i64 (Int.ofNat 5)))], Ins.mk (some 51) none Act.pick [Opd.t 44, Opd.t 50, Opd.k (AV.d (DV.bool false))]])
                    (CC.cond (Opd.t 51) (CC.reg none [Ins.mk (some 52) none Act.mv [Opd.t 5], Ins.mk (some 53) none (Act.bin BinOp.add (EqK.nil 10)) [Opd.t 52, Opd.k (AV.d (DV.int IntKind.i64 (Int.ofNat 1)))], Ins.mk (some 5) none Act.mv [Opd.t 53]]) CC.skip))
                  (CC.seq (CC.fgt [4, 5]) (CC.seq (CC.reg none [Ins.mk (some 54) none Act.mv [Opd.t 5], Ins.mk (some 4) none Act.mv [Opd.t 54]]) CC.ret)))))))))
    [RV.tmp 4]
theorem code149_ok : F0 149 = some (.code code149) := by kernel_rfl
def code115 : CFn :=
  CFn.mk
    (CC.seq (CC.reg none [Ins.mk (some 4) none Act.mv [Opd.k (AV.d (DV.int IntKind.i64 (Int.ofNat 0)))], Ins.mk (some 5) none Act.mv [Opd.k (AV.d (DV.int IntKind.i64 (Int.ofNat 0)))]])
      (CC.seq
        (CC.seq
          (CC.reg none
            [Ins.mk (some 14) none Act.mv [Opd.t 1], Ins.mk (some 15) none (Act.bin BinOp.neq (EqK.nil 10)) [Opd.t 14, Opd.k (AV.d (DV.int IntKind.i64 (Int.ofNat 1)))], Ins.mk (some 16) none Act.mv [Opd.t 15], Ins.mk (some 17) (some (16, true)) Act.mv [Opd.t 1],
              Ins.mk (some 18) (some (16, true)) (Act.bin BinOp.neq (EqK.nil 10)) [Opd.t 17, Opd.k (AV.d (DV.int IntKind.i64 (Int.ofNat 64)))], Ins.mk (some 19) none Act.pick [Opd.t 16, Opd.t 18, Opd.k (AV.d (DV.bool false))], Ins.mk (some 20) none Act.mv [Opd.t 19],
              Ins.mk (some 21) (some (20, true)) Act.mv [Opd.t 1], Ins.mk (some 22) (some (20, true)) (Act.bin BinOp.neq (EqK.nil 10)) [Opd.t 21, Opd.k (AV.d (DV.int IntKind.i64 (Int.ofNat 1000)))], Ins.mk (some 23) none Act.pick [Opd.t 20, Opd.t 22, Opd.k (AV.d (DV.bool false))]])
          (CC.cond (Opd.t 23) (CC.seq (CC.reg none [Ins.mk (some 4) none Act.mv [Opd.k (AV.d (DV.int IntKind.i64 (Int.ofNat 0)))], Ins.mk (some 5) none Act.mv [Opd.k (AV.d (DV.int IntKind.i64 (Int.ofNat 2)))]]) CC.ret) CC.skip))
        (CC.seq (CC.fgt [0, 1, 4, 5])
          (CC.seq
            (CC.reg none
              [Ins.mk (some 25) none Act.mv [Opd.t 0], Ins.mk (some 26) none (Act.call false) [Opd.k (AV.fn Mode.pure 147 [] []), Opd.t 25], Ins.mk (some 24) none Act.mv [Opd.t 26], Ins.mk (some 27) none (Act.ext 0) [Opd.t 24], Ins.mk (some 28) none (Act.ext 1) [Opd.t 24],
                Ins.mk (some 29) none (Act.ext 2) [Opd.t 24], Ins.mk (some 30) none (Act.ext 3) [Opd.t 24], Ins.mk (some 31) none (Act.ext 4) [Opd.t 24], Ins.mk (some 6) none Act.mv [Opd.t 27], Ins.mk (some 7) none Act.mv [Opd.t 28], Ins.mk (some 8) none Act.mv [Opd.t 29],
                Ins.mk (some 9) none Act.mv [Opd.t 30], Ins.mk (some 10) none Act.mv [Opd.t 31]])
            (CC.seq
              (CC.seq
                (CC.reg none
                  [Ins.mk (some 32) none Act.mv [Opd.t 10], Ins.mk (some 33) none (Act.bin BinOp.eql (EqK.nil 10)) [Opd.t 32, Opd.k (AV.d (DV.int IntKind.i64 (Int.ofNat 0)))], Ins.mk (some 34) none Act.mv [Opd.t 33], Ins.mk (some 35) (some (34, false)) Act.mv [Opd.t 10],
                    Ins.mk (some 36) (some (34, false)) Act.mv [Opd.t 0], Ins.mk (some 37) (some (34, false)) Act.lens [Opd.t 36], Ins.mk (some 38) (some (34, false)) (Act.bin BinOp.neq (EqK.nil 10)) [Opd.t 35, Opd.t 37],
                    Ins.mk (some 39) none Act.pick [Opd.t 34, Opd.k (AV.d (DV.bool true)), Opd.t 38], Ins.mk (some 40) none Act.mv [Opd.t 39], Ins.mk (some 41) (some (40, false)) Act.mv [Opd.t 0], Ins.mk (some 42) (some (40, false)) Act.lens [Opd.t 41],
                    Ins.mk (some 43) (some (40, false)) (Act.bin BinOp.gtr (EqK.nil 10)) [Opd.t 42, Opd.k (AV.d (DV.int IntKind.i64 (Int.ofNat 300)))], Ins.mk (some 44) none Act.pick [Opd.t 40, Opd.k (AV.d (DV.bool true)), Opd.t 43]])
                (CC.cond (Opd.t 44) (CC.seq (CC.reg none [Ins.mk (some 4) none Act.mv [Opd.k (AV.d (DV.int IntKind.i64 (Int.ofNat 0)))], Ins.mk (some 5) none Act.mv [Opd.k (AV.d (DV.int IntKind.i64 (Int.ofNat 21)))]]) CC.ret) CC.skip))
              (CC.seq (CC.fgt [0, 1, 4, 5, 6, 7, 8, 9])
                (CC.seq (CC.reg none [Ins.mk (some 11) none Act.mv [Opd.k (AV.d DV.nilsl)]])
                  (CC.seq
                    (CC.seq
                      (CC.reg none
                        [Ins.mk (some 45) none Act.mv [Opd.t 6], Ins.mk (some 46) none Act.mv [Opd.t 7], Ins.mk (some 47) none (Act.bin BinOp.add (EqK.nil 10)) [Opd.t 45, Opd.t 46], Ins.mk (some 48) none Act.mv [Opd.t 8], Ins.mk (some 49) none (Act.bin BinOp.add (EqK.nil 10)) [Opd.t 47, Opd.t 48],
                          Ins.mk (some 12) none Act.mv [Opd.t 49]])
                      (CC.block 0
                        (CC.loop [0, 1, 4, 5, 6, 7, 8, 9, 11, 12]
                          (CC.seq (CC.seq (CC.reg none [Ins.mk (some 50) none Act.mv [Opd.t 12], Ins.mk (some 51) none Act.mv [Opd.t 6], Ins.mk (some 52) none (Act.bin BinOp.geq (EqK.nil 10)) [Opd.t 50, Opd.t 51]]) (CC.cond (Opd.t 52) CC.skip (CC.exit 0)))
                            (CC.seq (CC.fgt [0, 1, 4, 5, 6, 7, 8, 9, 11, 12])
                              (CC.seq
                                (CC.block 1
                                  (CC.seq
                                    (CC.reg none
                                      [Ins.mk (some 55) none Act.mv [Opd.t 12], Ins.mk (some 56) none Act.mv [Opd.t 0], Ins.mk (some 57) none Act.lens [Opd.t 56], Ins.mk (some 58) none (Act.bin BinOp.lss (EqK.nil 10)) [Opd.t 55, Opd.t 57], Ins.mk (some 59) none Act.mv [Opd.t 58],
                                        Ins.mk (some 60) (some (59, true)) Act.mv [Opd.t 0], Ins.mk (some 61) (some (59, true)) Act.mv [Opd.t 12], Ins.mk (some 62) (some (59, true)) Act.idxs [Opd.t 60, Opd.t 61],
                                        Ins.mk (some 63) (some (59, true)) (Act.call false) [Opd.k (AV.fn Mode.pure 148 [] []), Opd.t 62], Ins.mk (some 64) none Act.pick [Opd.t 59, Opd.t 63, Opd.k (AV.d (DV.bool false))], Ins.mk (some 65) none Act.mv [Opd.t 64],
                                        Ins.mk (some 66) (some (65, true)) Act.mv [Opd.t 12], Ins.mk (some 67) (some (65, true)) Act.mv [Opd.t 6], Ins.mk (some 68) (some (65, true)) Act.mv [Opd.t 7], Ins.mk (some 69) (some (65, true)) (Act.bin BinOp.add (EqK.nil 10)) [Opd.t 67, Opd.t 68],
                                        Ins.mk (some 70) (some (65, true)) (Act.bin BinOp.lss (EqK.nil 10)) [Opd.t 66, Opd.t 69], Ins.mk (some 71) (some (65, true)) Act.mv [Opd.t 70], Ins.mk (some 72) (some (71, false)) Act.mv [Opd.t 12], Ins.mk (some 73) (some (71, false)) Act.mv [Opd.t 6],
                                        Ins.mk (some 74) (some (71, false)) Act.mv [Opd.t 7], Ins.mk (some 75) (some (71, false)) (Act.bin BinOp.add (EqK.nil 10)) [Opd.t 73, Opd.t 74], Ins.mk (some 76) (some (71, false)) (Act.bin BinOp.gtr (EqK.nil 10)) [Opd.t 72, Opd.t 75],
                                        Ins.mk (some 77) (some (71, false)) Act.mv [Opd.t 76], Ins.mk (some 78) (some (77, true)) Act.mv [Opd.t 12], Ins.mk (some 79) (some (77, true)) Act.mv [Opd.t 6], Ins.mk (some 80) (some (77, true)) Act.mv [Opd.t 7],
                                        Ins.mk (some 81) (some (77, true)) (Act.bin BinOp.add (EqK.nil 10)) [Opd.t 79, Opd.t 80], Ins.mk (some 82) (some (77, true)) Act.mv [Opd.t 8], Ins.mk (some 83) (some (77, true)) (Act.bin BinOp.add (EqK.nil 10)) [Opd.t 81, Opd.t 82],
                                        Ins.mk (some 84) (some (77, true)) (Act.bin BinOp.leq (EqK.nil 10)) [Opd.t 78, Opd.t 83], Ins.mk (some 85) (some (71, false)) Act.pick [Opd.t 77, Opd.t 84, Opd.k (AV.d (DV.bool false))],
                                        Ins.mk (some 86) (some (65, true)) Act.pick [Opd.t 71, Opd.k (AV.d (DV.bool true)), Opd.t 85], Ins.mk (some 87) none Act.pick [Opd.t 65, Opd.t 86, Opd.k (AV.d (DV.bool false))]])
                                    (CC.cond (Opd.t 87)
                                      (CC.reg none
                                        [Ins.mk (some 88) none Act.mv [Opd.t 11], Ins.mk (some 89) none Act.mv [Opd.t 0], Ins.mk (some 90) none Act.mv [Opd.t 12], Ins.mk (some 91) none Act.idxs [Opd.t 89, Opd.t 90],
                                          Ins.mk (some 92) none (Act.bin BinOp.sub (EqK.nil 10)) [Opd.t 91, Opd.k (AV.d (DV.int IntKind.u8 (Int.ofNat 48)))], Ins.mk (some 93) none (Act.cvi IntKind.i64) [Opd.t 92],
                                          Ins.mk (some 94) none (Act.bslT 3 1 [DV.int IntKind.i64 (Int.ofNat 0)] 1 [0]) [Opd.t 93], Ins.mk (some 95) none (Act.app 3 1 8) [Opd.t 88, Opd.t 94], Ins.mk (some 11) none Act.mv [Opd.t 95]])
                                      CC.skip)))
                                (CC.seq (CC.fgt [0, 1, 4, 5, 6, 7, 8, 9, 11, 12]) (CC.reg none [Ins.mk (some 53) none Act.mv [Opd.t 12], Ins.mk (some 54) none (Act.bin BinOp.sub (EqK.nil 10)) [Opd.t 53, Opd.k (AV.d (DV.int IntKind.i64 (Int.ofNat 1)))], Ins.mk (some 12) none Act.mv [Opd.t 54]]))))))))
                    (CC.seq (CC.fgt [0, 1, 4, 5, 8, 9, 11])
                      (CC.seq
                        (CC.reg none
                          [Ins.mk (some 96) none Act.mv [Opd.t 11], Ins.mk (some 97) none Act.mv [Opd.t 1], Ins.mk (some 98) none (Act.call false) [Opd.k (AV.fn Mode.pure 150 [] []), Opd.t 96, Opd.t 97], Ins.mk (some 99) none Act.mv [Opd.t 8], Ins.mk (some 100) none Act.mv [Opd.t 0],
                            Ins.mk (some 101) none Act.mv [Opd.t 9], Ins.mk (some 102) none (Act.call false) [Opd.k (AV.fn Mode.pure 151 [] []), Opd.t 100, Opd.t 101], Ins.mk (some 103) none (Act.bin BinOp.sub (EqK.nil 10)) [Opd.t 99, Opd.t 102],
                            Ins.mk (some 104) none (Act.call false) [Opd.k (AV.fn Mode.pure 149 [] []), Opd.t 98, Opd.t 103], Ins.mk (some 13) none Act.mv [Opd.t 104]])
                        (CC.seq
                          (CC.seq (CC.reg none [Ins.mk (some 105) none Act.mv [Opd.t 13], Ins.mk (some 106) none (Act.bin BinOp.gtr (EqK.nil 10)) [Opd.t 105, Opd.k (AV.d (DV.int IntKind.i64 (Int.ofNat 68719476736)))]])
                            (CC.cond (Opd.t 106) (CC.seq (CC.reg none [Ins.mk (some 4) none Act.mv [Opd.k (AV.d (DV.int IntKind.i64 (Int.ofNat 0)))], Ins.mk (some 5) none Act.mv [Opd.k (AV.d (DV.int IntKind.i64 (Int.ofNat 10)))]]) CC.ret) CC.skip))
                          (CC.seq (CC.fgt [0, 4, 5, 13])
                            (CC.seq
                              (CC.seq
                                (CC.reg none [Ins.mk (some 107) none Act.mv [Opd.t 0], Ins.mk (some 108) none Act.idxs [Opd.t 107, Opd.k (AV.d (DV.int IntKind.i64 (Int.ofNat 0)))], Ins.mk (some 109) none (Act.bin BinOp.eql (EqK.nil 10)) [Opd.t 108, Opd.k (AV.d (DV.int IntKind.u8 (Int.ofNat 45)))]])
                                (CC.cond (Opd.t 109)
                                  (CC.seq
                                    (CC.reg none
                                      [Ins.mk (some 110) none Act.mv [Opd.t 13], Ins.mk (some 111) none (Act.bin BinOp.sub (EqK.nil 10)) [Opd.k (AV.d (DV.int IntKind.i64 (Int.ofNat 0))), Opd.t 110], Ins.mk (some 4) none Act.mv [Opd.t 111],
                                        Ins.mk (some 5) none Act.mv [Opd.k (AV.d (DV.int IntKind.i64 (Int.ofNat 0)))]])
                                    CC.ret)
                                  CC.skip))
                              (CC.seq (CC.fgt [4, 5, 13]) (CC.seq (CC.reg none [Ins.mk (some 112) none Act.mv [Opd.t 13], Ins.mk (some 4) none Act.mv [Opd.t 112], Ins.mk (some 5) none Act.mv [Opd.k (AV.d (DV.int IntKind.i64 (Int.ofNat 0)))]]) CC.ret)))))))))))))))
    [RV.tmp 4, RV.tmp 5]
theorem code115_ok : F0 115 = some (.code code115) := by kernel_rfl
end Go.Proofs.YtapnjabhcdlhbaaGreatDoor.Ab
