/- The code of some functions, compiled (printed by a program for this seat; each is held against the compiler by the kernel). -/
import Derived.Test.YtjeblkicgmmhiaaGreatDoorAbCfg
namespace Go.Proofs.YtjeblkicgmmhiaaGreatDoor.Ab
open Go
set_option maxRecDepth 100000
def code18 : CFn :=
  CFn.mk
    (CC.seq (CC.reg none [Ins.mk (some 2) none (Act.box 28) [Opd.t 0], Ins.mk (some 4) none Act.mv [Opd.k (AV.d (DV.int IntKind.i64 (Int.ofNat 0)))], Ins.mk (some 5) none Act.mv [Opd.k (AV.d (DV.int IntKind.i64 (Int.ofNat 0)))]])
      (CC.seq
        (CC.seq
          (CC.reg none
            [Ins.mk (some 12) none (Act.load (some 7)) [Opd.t 2], Ins.mk (some 13) none (Act.call false) [Opd.k (AV.fn Mode.pure 47 [] []), Opd.t 12], Ins.mk (some 14) none (Act.un UnOp.not) [Opd.t 13], Ins.mk (some 15) none Act.mv [Opd.t 14],
              Ins.mk (some 16) (some (15, false)) (Act.load (some 7)) [Opd.t 2], Ins.mk (some 17) (some (15, false)) (Act.call false) [Opd.k (AV.fn Mode.pure 48 [] []), Opd.t 16], Ins.mk (some 18) (some (15, false)) (Act.un UnOp.not) [Opd.t 17],
              Ins.mk (some 19) none Act.pick [Opd.t 15, Opd.k (AV.d (DV.bool true)), Opd.t 18], Ins.mk (some 20) none Act.mv [Opd.t 19], Ins.mk (some 21) (some (20, false)) Act.mv [Opd.t 1], Ins.mk (some 22) (some (20, false)) (Act.call false) [Opd.k (AV.fn Mode.pure 49 [] []), Opd.t 21],
              Ins.mk (some 23) (some (20, false)) (Act.un UnOp.not) [Opd.t 22], Ins.mk (some 24) none Act.pick [Opd.t 20, Opd.k (AV.d (DV.bool true)), Opd.t 23]])
          (CC.cond (Opd.t 24) (CC.seq (CC.reg none [Ins.mk (some 4) none Act.mv [Opd.k (AV.d (DV.int IntKind.i64 (Int.ofNat 0)))], Ins.mk (some 5) none Act.mv [Opd.k (AV.d (DV.int IntKind.i64 (Int.ofNat 2)))]]) CC.ret) CC.skip))
        (CC.seq (CC.fgt [1, 2, 4, 5])
          (CC.seq (CC.reg none [Ins.mk (some 6) none Act.mv [Opd.k (AV.d (DV.int IntKind.i64 (Int.ofNat 64)))]])
            (CC.seq
              (CC.seq
                (CC.reg none
                  [Ins.mk (some 25) none (Act.fad 0) [Opd.t 2], Ins.mk (some 26) none (Act.load (some 2)) [Opd.t 25], Ins.mk (some 27) none (Act.fad 2) [Opd.t 2], Ins.mk (some 28) none (Act.load (some 2)) [Opd.t 27],
                    Ins.mk (some 29) none (Act.build [AV.d (DV.int IntKind.i64 (Int.ofNat 0)), AV.d (DV.int IntKind.i64 (Int.ofNat 0)), AV.d (DV.int IntKind.i64 (Int.ofNat 0)), AV.d (DV.int IntKind.i64 (Int.ofNat 0))] [(0, 2), (2, 2)]) [Opd.t 26, Opd.t 28],
                    Ins.mk (some 30) none Act.mv [Opd.k (AV.d (DV.int IntKind.i64 (Int.ofNat 0)))]])
                (CC.block 0
                  (CC.loop [1, 4, 5, 6, 29, 30]
                    (CC.seq (CC.reg none [Ins.mk (some 31) none (Act.bin BinOp.lss (EqK.nil 10)) [Opd.t 30, Opd.k (AV.d (DV.int IntKind.i64 (Int.ofNat 2)))]])
                      (CC.seq (CC.cond (Opd.t 31) CC.skip (CC.exit 0))
                        (CC.seq (CC.fgt [1, 4, 5, 6, 29, 30])
                          (CC.seq
                            (CC.block 1
                              (CC.seq (CC.reg none [Ins.mk (some 32) none (Act.idxA 2 2 (some 2)) [Opd.t 29, Opd.t 30], Ins.mk (some 8) none (Act.new 26 [AV.d (DV.int IntKind.i64 (Int.ofNat 0)), AV.d (DV.int IntKind.i64 (Int.ofNat 0))]) [], Ins.mk none none (Act.storeT 2) [Opd.t 8, Opd.t 32]])
                                (CC.seq
                                  (CC.reg none
                                    [Ins.mk (some 34) none (Act.load (some 2)) [Opd.t 8], Ins.mk (some 35) none Act.mv [Opd.t 1], Ins.mk (some 36) none (Act.call false) [Opd.k (AV.fn Mode.pure 50 [] []), Opd.t 34, Opd.t 35, Opd.k (AV.d (DV.bool true))], Ins.mk (some 33) none Act.mv [Opd.t 36],
                                      Ins.mk (some 37) none (Act.ext 0) [Opd.t 33], Ins.mk (some 38) none (Act.ext 1) [Opd.t 33], Ins.mk (some 39) none (Act.ext 2) [Opd.t 33], Ins.mk (some 9) none Act.mv [Opd.t 37], Ins.mk (some 10) none Act.mv [Opd.t 38], Ins.mk (some 11) none Act.mv [Opd.t 39]])
                                  (CC.seq
                                    (CC.seq (CC.reg none [Ins.mk (some 40) none Act.mv [Opd.t 11], Ins.mk (some 41) none (Act.bin BinOp.neq (EqK.nil 10)) [Opd.t 40, Opd.k (AV.d (DV.int IntKind.i64 (Int.ofNat 0)))]])
                                      (CC.cond (Opd.t 41) (CC.seq (CC.reg none [Ins.mk (some 42) none Act.mv [Opd.t 11], Ins.mk (some 4) none Act.mv [Opd.k (AV.d (DV.int IntKind.i64 (Int.ofNat 0)))], Ins.mk (some 5) none Act.mv [Opd.t 42]]) CC.ret) CC.skip))
                                    (CC.seq (CC.fgt [1, 4, 5, 6, 9, 10, 29, 30])
                                      (CC.seq (CC.reg none [Ins.mk (some 43) none Act.mv [Opd.t 10]])
                                        (CC.cond (Opd.t 43) (CC.reg none [Ins.mk (some 44) none Act.mv [Opd.t 6], Ins.mk (some 45) none Act.mv [Opd.t 9], Ins.mk (some 46) none Act.max [Opd.t 44, Opd.t 45], Ins.mk (some 6) none Act.mv [Opd.t 46]]) CC.skip)))))))
                            (CC.seq (CC.fgt [1, 4, 5, 6, 29, 30]) (CC.reg none [Ins.mk (some 47) none (Act.bin BinOp.add (EqK.nil 10)) [Opd.t 30, Opd.k (AV.d (DV.int IntKind.i64 (Int.ofNat 1)))], Ins.mk (some 30) none Act.mv [Opd.t 47]])))))))))
              (CC.seq (CC.fgt [4, 5, 6]) (CC.seq (CC.reg none [Ins.mk (some 48) none Act.mv [Opd.t 6], Ins.mk (some 4) none Act.mv [Opd.t 48], Ins.mk (some 5) none Act.mv [Opd.k (AV.d (DV.int IntKind.i64 (Int.ofNat 0)))]]) CC.ret)))))))
    [RV.tmp 4, RV.tmp 5]
theorem code18_ok : F0 18 = some (.code code18) := by kernel_rfl
def code49 : CFn :=
  CFn.mk
    (CC.seq (CC.reg none [Ins.mk (some 2) none Act.mv [Opd.k (AV.d (DV.bool false))]])
      (CC.seq
        (CC.reg none
          [Ins.mk (some 3) none Act.mv [Opd.t 0], Ins.mk (some 4) none (Act.bin BinOp.geq (EqK.nil 10)) [Opd.t 3, Opd.k (AV.d (DV.int IntKind.i64 (Int.ofNat 0)))], Ins.mk (some 5) none Act.mv [Opd.t 4], Ins.mk (some 6) (some (5, true)) Act.mv [Opd.t 0],
            Ins.mk (some 7) (some (5, true)) (Act.call false) [Opd.k (AV.fn Mode.pure 94 [] []), Opd.t 6], Ins.mk (some 8) none Act.pick [Opd.t 5, Opd.t 7, Opd.k (AV.d (DV.bool false))], Ins.mk (some 2) none Act.mv [Opd.t 8]])
        CC.ret))
    [RV.tmp 2]
theorem code49_ok : F0 49 = some (.code code49) := by kernel_rfl
def code4 : CFn :=
  CFn.mk
    (CC.seq (CC.reg none [Ins.mk (some 2) none (Act.box 28) [Opd.t 0], Ins.mk (some 4) none Act.mv [Opd.k (AV.d (DV.bool false))]])
      (CC.seq
        (CC.reg none
          [Ins.mk (some 10) none (Act.load (some 7)) [Opd.t 2], Ins.mk (some 11) none Act.mv [Opd.t 1], Ins.mk (some 12) none (Act.call false) [Opd.k (AV.fn Mode.pure 18 [] []), Opd.t 10, Opd.t 11], Ins.mk (some 9) none Act.mv [Opd.t 12], Ins.mk (some 13) none (Act.ext 0) [Opd.t 9],
            Ins.mk (some 14) none (Act.ext 1) [Opd.t 9], Ins.mk (some 5) none Act.mv [Opd.t 13], Ins.mk (some 6) none Act.mv [Opd.t 14]])
        (CC.seq
          (CC.reg none
            [Ins.mk (some 16) none (Act.load (some 7)) [Opd.t 2], Ins.mk (some 17) none Act.mv [Opd.t 1], Ins.mk (some 18) none (Act.call false) [Opd.k (AV.fn Mode.pure 19 [] []), Opd.t 16, Opd.t 17], Ins.mk (some 15) none Act.mv [Opd.t 18], Ins.mk (some 19) none (Act.ext 0) [Opd.t 15],
              Ins.mk (some 20) none (Act.ext 1) [Opd.t 15], Ins.mk (some 7) none Act.mv [Opd.t 19], Ins.mk (some 8) none Act.mv [Opd.t 20]])
          (CC.seq
            (CC.reg none
              [Ins.mk (some 21) none Act.mv [Opd.t 5], Ins.mk (some 22) none Act.mv [Opd.t 7], Ins.mk (some 23) none (Act.bin BinOp.eql (EqK.nil 10)) [Opd.t 21, Opd.t 22], Ins.mk (some 24) none Act.mv [Opd.t 23], Ins.mk (some 25) (some (24, true)) Act.mv [Opd.t 6],
                Ins.mk (some 26) (some (24, true)) Act.mv [Opd.t 8], Ins.mk (some 27) (some (24, true)) (Act.bin BinOp.eql (EqK.nil 10)) [Opd.t 25, Opd.t 26], Ins.mk (some 28) none Act.pick [Opd.t 24, Opd.t 27, Opd.k (AV.d (DV.bool false))], Ins.mk (some 29) none Act.mv [Opd.t 28],
                Ins.mk (some 30) (some (29, true)) (Act.call false) [Opd.k (AV.fn Mode.pure 20 [] [])], Ins.mk (some 31) none Act.pick [Opd.t 29, Opd.t 30, Opd.k (AV.d (DV.bool false))], Ins.mk (some 4) none Act.mv [Opd.t 31]])
            CC.ret))))
    [RV.tmp 4]
theorem code4_ok : F0 4 = some (.code code4) := by kernel_rfl
def code139 : CFn :=
  CFn.mk
    (CC.seq (CC.reg none [Ins.mk (some 6) none Act.mv [Opd.k (AV.d (DV.int IntKind.i64 (Int.ofNat 0)))], Ins.mk (some 7) none Act.mv [Opd.k (AV.d (DV.int IntKind.i64 (Int.ofNat 0)))]])
      (CC.seq
        (CC.seq (CC.reg none [Ins.mk (some 11) none Act.mv [Opd.t 2], Ins.mk (some 12) none (Act.bin BinOp.eql (EqK.nil 10)) [Opd.t 11, Opd.k (AV.d (DV.int IntKind.i64 (Int.ofNat 0)))]])
          (CC.cond (Opd.t 12) (CC.seq (CC.reg none [Ins.mk (some 6) none Act.mv [Opd.k (AV.d (DV.int IntKind.i64 (Int.ofNat 0)))], Ins.mk (some 7) none Act.mv [Opd.k (AV.d (DV.int IntKind.i64 (Int.ofNat 2)))]]) CC.ret) CC.skip))
        (CC.seq (CC.fgt [0, 1, 2, 6, 7])
          (CC.seq
            (CC.reg none
              [Ins.mk (some 14) none Act.mv [Opd.t 0], Ins.mk (some 15) none (Act.call false) [Opd.k (AV.fn Mode.pure 167 [] []), Opd.t 14], Ins.mk (some 16) none Act.mv [Opd.t 1], Ins.mk (some 17) none (Act.call false) [Opd.k (AV.fn Mode.pure 167 [] []), Opd.t 16],
                Ins.mk (some 18) none (Act.call false) [Opd.k (AV.fn Mode.pure 166 [] []), Opd.t 15, Opd.t 17], Ins.mk (some 19) none Act.mv [Opd.t 2], Ins.mk (some 20) none (Act.call false) [Opd.k (AV.fn Mode.pure 167 [] []), Opd.t 19],
                Ins.mk (some 21) none (Act.call false) [Opd.k (AV.fn Mode.pure 165 [] []), Opd.t 18, Opd.t 20], Ins.mk (some 13) none Act.mv [Opd.t 21], Ins.mk (some 22) none (Act.ext 0) [Opd.t 13], Ins.mk (some 23) none (Act.ext 1) [Opd.t 13],
                Ins.mk (some 8) none (Act.new 186 [AV.d (DV.int IntKind.u64 (Int.ofNat 0)), AV.d (DV.int IntKind.u64 (Int.ofNat 0))]) [], Ins.mk none none (Act.storeT 2) [Opd.t 8, Opd.t 22], Ins.mk (some 9) none Act.mv [Opd.t 23]])
            (CC.seq
              (CC.reg none
                [Ins.mk (some 24) none Act.mv [Opd.t 0], Ins.mk (some 25) none (Act.bin BinOp.lss (EqK.nil 10)) [Opd.t 24, Opd.k (AV.d (DV.int IntKind.i64 (Int.ofNat 0)))], Ins.mk (some 26) none Act.mv [Opd.t 1],
                  Ins.mk (some 27) none (Act.bin BinOp.lss (EqK.nil 10)) [Opd.t 26, Opd.k (AV.d (DV.int IntKind.i64 (Int.ofNat 0)))], Ins.mk (some 28) none (Act.bin BinOp.neq EqK.bool) [Opd.t 25, Opd.t 27], Ins.mk (some 29) none Act.mv [Opd.t 2],
                  Ins.mk (some 30) none (Act.bin BinOp.lss (EqK.nil 10)) [Opd.t 29, Opd.k (AV.d (DV.int IntKind.i64 (Int.ofNat 0)))], Ins.mk (some 31) none (Act.bin BinOp.neq EqK.bool) [Opd.t 28, Opd.t 30], Ins.mk (some 32) none Act.mv [Opd.t 31],
                  Ins.mk (some 33) (some (32, true)) (Act.load (some 2)) [Opd.t 8], Ins.mk (some 34) (some (32, true)) (Act.build [AV.d (DV.int IntKind.u64 (Int.ofNat 0)), AV.d (DV.int IntKind.u64 (Int.ofNat 0))] []) [],
                  Ins.mk (some 35) (some (32, true)) (Act.bin BinOp.neq (EqK.cells 2 [(0, 1), (1, 1)])) [Opd.t 33, Opd.t 34], Ins.mk (some 36) (some (32, true)) Act.mv [Opd.t 35], Ins.mk (some 37) (some (36, false)) Act.mv [Opd.t 9],
                  Ins.mk (some 38) (some (36, false)) (Act.bin BinOp.gtr (EqK.nil 10)) [Opd.t 37, Opd.k (AV.d (DV.int IntKind.u64 (Int.ofNat 0)))], Ins.mk (some 39) (some (32, true)) Act.pick [Opd.t 36, Opd.k (AV.d (DV.bool true)), Opd.t 38],
                  Ins.mk (some 40) none Act.pick [Opd.t 32, Opd.t 39, Opd.k (AV.d (DV.bool false))], Ins.mk (some 10) none Act.mv [Opd.t 40]])
              (CC.seq
                (CC.seq
                  (CC.reg none
                    [Ins.mk (some 41) none Act.mv [Opd.t 10], Ins.mk (some 42) none Act.mv [Opd.t 41], Ins.mk (some 43) (some (42, true)) Act.mv [Opd.t 9], Ins.mk (some 44) (some (42, true)) (Act.bin BinOp.gtr (EqK.nil 10)) [Opd.t 43, Opd.k (AV.d (DV.int IntKind.u64 (Int.ofNat 0)))],
                      Ins.mk (some 45) none Act.pick [Opd.t 42, Opd.t 44, Opd.k (AV.d (DV.bool false))]])
                  (CC.cond (Opd.t 45) (CC.reg none [Ins.mk (some 46) none (Act.load (some 2)) [Opd.t 8], Ins.mk (some 47) none (Act.call false) [Opd.k (AV.fn Mode.pure 168 [] []), Opd.t 46, Opd.k (AV.d (DV.int IntKind.u64 (Int.ofNat 1)))], Ins.mk none none (Act.storeT 2) [Opd.t 8, Opd.t 47]])
                    CC.skip))
                (CC.seq (CC.fgt [6, 7, 8, 10])
                  (CC.seq
                    (CC.seq
                      (CC.reg none
                        [Ins.mk (some 48) none (Act.fad 0) [Opd.t 8], Ins.mk (some 49) none (Act.load none) [Opd.t 48], Ins.mk (some 50) none (Act.bin BinOp.gtr (EqK.nil 10)) [Opd.t 49, Opd.k (AV.d (DV.int IntKind.u64 (Int.ofNat 0)))], Ins.mk (some 51) none Act.mv [Opd.t 50],
                          Ins.mk (some 52) (some (51, false)) (Act.fad 1) [Opd.t 8], Ins.mk (some 53) (some (51, false)) (Act.load none) [Opd.t 52], Ins.mk (some 54) (some (51, false)) (Act.bin BinOp.gtr (EqK.nil 10)) [Opd.t 53, Opd.k (AV.d (DV.int IntKind.u64 (Int.ofNat 9223372036854775807)))],
                          Ins.mk (some 55) (some (51, false)) Act.mv [Opd.t 54], Ins.mk (some 56) (some (55, true)) Act.mv [Opd.t 10], Ins.mk (some 57) (some (55, true)) Act.mv [Opd.t 56], Ins.mk (some 58) (some (57, true)) (Act.fad 1) [Opd.t 8],
                          Ins.mk (some 59) (some (57, true)) (Act.load none) [Opd.t 58], Ins.mk (some 60) (some (57, true)) (Act.bin BinOp.eql (EqK.nil 10)) [Opd.t 59, Opd.k (AV.d (DV.int IntKind.u64 (Int.ofNat 9223372036854775808)))],
                          Ins.mk (some 61) (some (55, true)) Act.pick [Opd.t 57, Opd.t 60, Opd.k (AV.d (DV.bool false))], Ins.mk (some 62) (some (55, true)) (Act.un UnOp.not) [Opd.t 61], Ins.mk (some 63) (some (51, false)) Act.pick [Opd.t 55, Opd.t 62, Opd.k (AV.d (DV.bool false))],
                          Ins.mk (some 64) none Act.pick [Opd.t 51, Opd.k (AV.d (DV.bool true)), Opd.t 63]])
                      (CC.cond (Opd.t 64) (CC.seq (CC.reg none [Ins.mk (some 6) none Act.mv [Opd.k (AV.d (DV.int IntKind.i64 (Int.ofNat 0)))], Ins.mk (some 7) none Act.mv [Opd.k (AV.d (DV.int IntKind.i64 (Int.ofNat 10)))]]) CC.ret) CC.skip))
                    (CC.seq (CC.fgt [6, 7, 8, 10])
                      (CC.seq
                        (CC.seq (CC.reg none [Ins.mk (some 65) none Act.mv [Opd.t 10]])
                          (CC.cond (Opd.t 65)
                            (CC.seq
                              (CC.reg none
                                [Ins.mk (some 66) none (Act.fad 1) [Opd.t 8], Ins.mk (some 67) none (Act.load none) [Opd.t 66], Ins.mk (some 68) none (Act.bin BinOp.sub (EqK.nil 10)) [Opd.k (AV.d (DV.int IntKind.u64 (Int.ofNat 0))), Opd.t 67], Ins.mk (some 69) none (Act.cvi IntKind.i64) [Opd.t 68],
                                  Ins.mk (some 6) none Act.mv [Opd.t 69], Ins.mk (some 7) none Act.mv [Opd.k (AV.d (DV.int IntKind.i64 (Int.ofNat 0)))]])
                              CC.ret)
                            CC.skip))
                        (CC.seq (CC.fgt [6, 7, 8])
                          (CC.seq
                            (CC.reg none
                              [Ins.mk (some 70) none (Act.fad 1) [Opd.t 8], Ins.mk (some 71) none (Act.load none) [Opd.t 70], Ins.mk (some 72) none (Act.cvi IntKind.i64) [Opd.t 71], Ins.mk (some 6) none Act.mv [Opd.t 72], Ins.mk (some 7) none Act.mv [Opd.k (AV.d (DV.int IntKind.i64 (Int.ofNat 0)))]])
                            CC.ret))))))))))))
    [RV.tmp 6, RV.tmp 7]
theorem code139_ok : F0 139 = some (.code code139) := by kernel_rfl
def code51 : CFn :=
  CFn.mk
    (CC.seq (CC.reg none [Ins.mk (some 1) none (Act.box 28) [Opd.t 0], Ins.mk (some 2) none Act.mv [Opd.k (AV.d (DV.bool false))]])
      (CC.seq
        (CC.reg none
          [Ins.mk (some 3) none (Act.fad 4) [Opd.t 1], Ins.mk (some 4) none (Act.load none) [Opd.t 3], Ins.mk (some 5) none (Act.un UnOp.not) [Opd.t 4], Ins.mk (some 6) none Act.mv [Opd.t 5], Ins.mk (some 7) (some (6, true)) (Act.fad 0) [Opd.t 1],
            Ins.mk (some 8) (some (6, true)) (Act.load (some 2)) [Opd.t 7], Ins.mk (some 9) (some (6, true)) (Act.call false) [Opd.k (AV.fn Mode.pure 96 [] []), Opd.t 8], Ins.mk (some 10) (some (6, true)) Act.mv [Opd.t 9], Ins.mk (some 11) (some (10, false)) (Act.fad 2) [Opd.t 1],
            Ins.mk (some 12) (some (10, false)) (Act.load (some 2)) [Opd.t 11], Ins.mk (some 13) (some (10, false)) (Act.call false) [Opd.k (AV.fn Mode.pure 96 [] []), Opd.t 12], Ins.mk (some 14) (some (6, true)) Act.pick [Opd.t 10, Opd.k (AV.d (DV.bool true)), Opd.t 13],
            Ins.mk (some 15) none Act.pick [Opd.t 6, Opd.t 14, Opd.k (AV.d (DV.bool false))], Ins.mk (some 2) none Act.mv [Opd.t 15]])
        CC.ret))
    [RV.tmp 2]
theorem code51_ok : F0 51 = some (.code code51) := by kernel_rfl
def code52 : CFn :=
  CFn.mk
    (CC.seq (CC.reg none [Ins.mk (some 1) none (Act.box 28) [Opd.t 0], Ins.mk (some 2) none Act.mv [Opd.k (AV.d (DV.bool false))]])
      (CC.seq
        (CC.seq (CC.reg none [Ins.mk (some 3) none (Act.fad 4) [Opd.t 1], Ins.mk (some 4) none (Act.load none) [Opd.t 3]])
          (CC.cond (Opd.t 4)
            (CC.seq
              (CC.reg none
                [Ins.mk (some 5) none (Act.fad 0) [Opd.t 1], Ins.mk (some 6) none (Act.load (some 2)) [Opd.t 5], Ins.mk (some 7) none (Act.build [AV.d (DV.int IntKind.i64 (Int.ofNat 0)), AV.d (DV.int IntKind.i64 (Int.ofNat 0))] [(0, 1)]) [Opd.k (AV.d (DV.int IntKind.i64 (Int.ofNat 1)))],
                  Ins.mk (some 8) none (Act.bin BinOp.eql (EqK.cells 2 [(0, 1), (1, 1)])) [Opd.t 6, Opd.t 7], Ins.mk (some 9) none Act.mv [Opd.t 8], Ins.mk (some 10) (some (9, true)) (Act.fad 2) [Opd.t 1], Ins.mk (some 11) (some (9, true)) (Act.load (some 2)) [Opd.t 10],
                  Ins.mk (some 12) (some (9, true)) (Act.build [AV.d (DV.int IntKind.i64 (Int.ofNat 0)), AV.d (DV.int IntKind.i64 (Int.ofNat 0))] [(0, 1)]) [Opd.k (AV.d (DV.int IntKind.i64 (Int.ofNat 5)))],
                  Ins.mk (some 13) (some (9, true)) (Act.bin BinOp.eql (EqK.cells 2 [(0, 1), (1, 1)])) [Opd.t 11, Opd.t 12], Ins.mk (some 14) none Act.pick [Opd.t 9, Opd.t 13, Opd.k (AV.d (DV.bool false))], Ins.mk (some 15) none Act.mv [Opd.t 14],
                  Ins.mk (some 16) (some (15, true)) (Act.fad 5) [Opd.t 1], Ins.mk (some 17) (some (15, true)) (Act.load (some 2)) [Opd.t 16], Ins.mk (some 18) (some (15, true)) (Act.call false) [Opd.k (AV.fn Mode.pure 96 [] []), Opd.t 17],
                  Ins.mk (some 19) none Act.pick [Opd.t 15, Opd.t 18, Opd.k (AV.d (DV.bool false))], Ins.mk (some 20) none Act.mv [Opd.t 19], Ins.mk (some 21) (some (20, true)) (Act.fad 5) [Opd.t 1], Ins.mk (some 22) (some (20, true)) (Act.load (some 2)) [Opd.t 21],
                  Ins.mk (some 23) (some (20, true)) (Act.call false) [Opd.k (AV.fn Mode.pure 86 [] []), Opd.t 22, Opd.k (AV.d (DV.int IntKind.i64 (Int.ofNat 1)))], Ins.mk (some 24) none Act.pick [Opd.t 20, Opd.t 23, Opd.k (AV.d (DV.bool false))], Ins.mk (some 2) none Act.mv [Opd.t 24]])
              CC.ret)
            CC.skip))
        (CC.seq (CC.fgt [1, 2])
          (CC.seq
            (CC.reg none
              [Ins.mk (some 25) none (Act.fad 5) [Opd.t 1], Ins.mk (some 26) none (Act.load (some 2)) [Opd.t 25], Ins.mk (some 27) none (Act.build [AV.d (DV.int IntKind.i64 (Int.ofNat 0)), AV.d (DV.int IntKind.i64 (Int.ofNat 0))] []) [],
                Ins.mk (some 28) none (Act.bin BinOp.eql (EqK.cells 2 [(0, 1), (1, 1)])) [Opd.t 26, Opd.t 27], Ins.mk (some 29) none Act.mv [Opd.t 28], Ins.mk (some 30) (some (29, true)) (Act.fad 0) [Opd.t 1], Ins.mk (some 31) (some (29, true)) (Act.load (some 2)) [Opd.t 30],
                Ins.mk (some 32) (some (29, true)) (Act.call false) [Opd.k (AV.fn Mode.pure 86 [] []), Opd.t 31, Opd.k (AV.d (DV.int IntKind.i64 (Int.ofNat 13)))], Ins.mk (some 33) none Act.pick [Opd.t 29, Opd.t 32, Opd.k (AV.d (DV.bool false))], Ins.mk (some 34) none Act.mv [Opd.t 33],
                Ins.mk (some 35) (some (34, true)) (Act.fad 2) [Opd.t 1], Ins.mk (some 36) (some (34, true)) (Act.load (some 2)) [Opd.t 35], Ins.mk (some 37) (some (34, true)) (Act.call false) [Opd.k (AV.fn Mode.pure 86 [] []), Opd.t 36, Opd.k (AV.d (DV.int IntKind.i64 (Int.ofNat 29)))],
                Ins.mk (some 38) none Act.pick [Opd.t 34, Opd.t 37, Opd.k (AV.d (DV.bool false))], Ins.mk (some 2) none Act.mv [Opd.t 38]])
            CC.ret))))
    [RV.tmp 2]
theorem code52_ok : F0 52 = some (.code code52) := by kernel_rfl
def code96 : CFn :=
  CFn.mk
    (CC.seq (CC.reg none [Ins.mk (some 1) none (Act.box 26) [Opd.t 0], Ins.mk (some 2) none Act.mv [Opd.k (AV.d (DV.bool false))]])
      (CC.seq
        (CC.reg none
          [Ins.mk (some 3) none (Act.fad 0) [Opd.t 1], Ins.mk (some 4) none (Act.load none) [Opd.t 3], Ins.mk (some 5) none (Act.bin BinOp.eql (EqK.nil 10)) [Opd.t 4, Opd.k (AV.d (DV.int IntKind.i64 (Int.ofNat 2)))], Ins.mk (some 6) none Act.mv [Opd.t 5],
            Ins.mk (some 7) (some (6, false)) (Act.fad 0) [Opd.t 1], Ins.mk (some 8) (some (6, false)) (Act.load none) [Opd.t 7], Ins.mk (some 9) (some (6, false)) (Act.bin BinOp.eql (EqK.nil 10)) [Opd.t 8, Opd.k (AV.d (DV.int IntKind.i64 (Int.ofNat 3)))],
            Ins.mk (some 10) none Act.pick [Opd.t 6, Opd.k (AV.d (DV.bool true)), Opd.t 9], Ins.mk (some 2) none Act.mv [Opd.t 10]])
        CC.ret))
    [RV.tmp 2]
theorem code96_ok : F0 96 = some (.code code96) := by kernel_rfl
def code19 : CFn :=
  CFn.mk
    (CC.seq (CC.reg none [Ins.mk (some 2) none (Act.box 28) [Opd.t 0], Ins.mk (some 4) none Act.mv [Opd.k (AV.d (DV.int IntKind.i64 (Int.ofNat 0)))], Ins.mk (some 5) none Act.mv [Opd.k (AV.d (DV.int IntKind.i64 (Int.ofNat 0)))]])
      (CC.seq
        (CC.seq
          (CC.reg none
            [Ins.mk (some 13) none (Act.load (some 7)) [Opd.t 2], Ins.mk (some 14) none (Act.call false) [Opd.k (AV.fn Mode.pure 51 [] []), Opd.t 13], Ins.mk (some 15) none (Act.un UnOp.not) [Opd.t 14], Ins.mk (some 16) none Act.mv [Opd.t 15],
              Ins.mk (some 17) (some (16, false)) (Act.load (some 7)) [Opd.t 2], Ins.mk (some 18) (some (16, false)) (Act.call false) [Opd.k (AV.fn Mode.pure 52 [] []), Opd.t 17], Ins.mk (some 19) (some (16, false)) (Act.un UnOp.not) [Opd.t 18],
              Ins.mk (some 20) none Act.pick [Opd.t 16, Opd.k (AV.d (DV.bool true)), Opd.t 19], Ins.mk (some 21) none Act.mv [Opd.t 20], Ins.mk (some 22) (some (21, false)) Act.mv [Opd.t 1], Ins.mk (some 23) (some (21, false)) (Act.call false) [Opd.k (AV.fn Mode.pure 53 [] []), Opd.t 22],
              Ins.mk (some 24) (some (21, false)) (Act.un UnOp.not) [Opd.t 23], Ins.mk (some 25) none Act.pick [Opd.t 21, Opd.k (AV.d (DV.bool true)), Opd.t 24]])
          (CC.cond (Opd.t 25) (CC.seq (CC.reg none [Ins.mk (some 4) none Act.mv [Opd.k (AV.d (DV.int IntKind.i64 (Int.ofNat 0)))], Ins.mk (some 5) none Act.mv [Opd.k (AV.d (DV.int IntKind.i64 (Int.ofNat 2)))]]) CC.ret) CC.skip))
        (CC.seq (CC.fgt [1, 2, 4, 5])
          (CC.seq
            (CC.reg none
              [Ins.mk (some 27) none (Act.fad 0) [Opd.t 2], Ins.mk (some 28) none (Act.load (some 2)) [Opd.t 27], Ins.mk (some 29) none Act.mv [Opd.t 1], Ins.mk (some 30) none (Act.call false) [Opd.k (AV.fn Mode.pure 54 [] []), Opd.t 28, Opd.t 29, Opd.k (AV.d (DV.bool true))],
                Ins.mk (some 26) none Act.mv [Opd.t 30], Ins.mk (some 31) none (Act.ext 0) [Opd.t 26], Ins.mk (some 32) none (Act.ext 1) [Opd.t 26], Ins.mk (some 33) none (Act.ext 2) [Opd.t 26], Ins.mk (some 6) none Act.mv [Opd.t 31], Ins.mk (some 7) none Act.mv [Opd.t 32],
                Ins.mk (some 8) none Act.mv [Opd.t 33]])
            (CC.seq
              (CC.reg none
                [Ins.mk (some 35) none (Act.fad 2) [Opd.t 2], Ins.mk (some 36) none (Act.load (some 2)) [Opd.t 35], Ins.mk (some 37) none Act.mv [Opd.t 1], Ins.mk (some 38) none (Act.call false) [Opd.k (AV.fn Mode.pure 54 [] []), Opd.t 36, Opd.t 37, Opd.k (AV.d (DV.bool true))],
                  Ins.mk (some 34) none Act.mv [Opd.t 38], Ins.mk (some 39) none (Act.ext 0) [Opd.t 34], Ins.mk (some 40) none (Act.ext 1) [Opd.t 34], Ins.mk (some 41) none (Act.ext 2) [Opd.t 34], Ins.mk (some 9) none Act.mv [Opd.t 39], Ins.mk (some 10) none Act.mv [Opd.t 40],
                  Ins.mk (some 11) none Act.mv [Opd.t 41]])
              (CC.seq
                (CC.seq (CC.reg none [Ins.mk (some 42) none Act.mv [Opd.t 8], Ins.mk (some 43) none (Act.bin BinOp.neq (EqK.nil 10)) [Opd.t 42, Opd.k (AV.d (DV.int IntKind.i64 (Int.ofNat 0)))]])
                  (CC.cond (Opd.t 43) (CC.seq (CC.reg none [Ins.mk (some 44) none Act.mv [Opd.t 8], Ins.mk (some 4) none Act.mv [Opd.k (AV.d (DV.int IntKind.i64 (Int.ofNat 0)))], Ins.mk (some 5) none Act.mv [Opd.t 44]]) CC.ret) CC.skip))
                (CC.seq (CC.fgt [4, 5, 6, 7, 9, 10, 11])
                  (CC.seq
                    (CC.seq (CC.reg none [Ins.mk (some 45) none Act.mv [Opd.t 11], Ins.mk (some 46) none (Act.bin BinOp.neq (EqK.nil 10)) [Opd.t 45, Opd.k (AV.d (DV.int IntKind.i64 (Int.ofNat 0)))]])
                      (CC.cond (Opd.t 46) (CC.seq (CC.reg none [Ins.mk (some 47) none Act.mv [Opd.t 11], Ins.mk (some 4) none Act.mv [Opd.k (AV.d (DV.int IntKind.i64 (Int.ofNat 0)))], Ins.mk (some 5) none Act.mv [Opd.t 47]]) CC.ret) CC.skip))
                    (CC.seq (CC.fgt [4, 5, 6, 7, 9, 10])
                      (CC.seq (CC.reg none [Ins.mk (some 48) none Act.mv [Opd.t 6], Ins.mk (some 12) none Act.mv [Opd.t 48]])
                        (CC.seq
                          (CC.seq
                            (CC.reg none
                              [Ins.mk (some 49) none Act.mv [Opd.t 10], Ins.mk (some 50) none Act.mv [Opd.t 49], Ins.mk (some 51) (some (50, true)) Act.mv [Opd.t 7], Ins.mk (some 52) (some (50, true)) (Act.un UnOp.not) [Opd.t 51], Ins.mk (some 53) (some (50, true)) Act.mv [Opd.t 52],
                                Ins.mk (some 54) (some (53, false)) Act.mv [Opd.t 9], Ins.mk (some 55) (some (53, false)) Act.mv [Opd.t 6], Ins.mk (some 56) (some (53, false)) (Act.bin BinOp.gtr (EqK.nil 10)) [Opd.t 54, Opd.t 55],
                                Ins.mk (some 57) (some (50, true)) Act.pick [Opd.t 53, Opd.k (AV.d (DV.bool true)), Opd.t 56], Ins.mk (some 58) none Act.pick [Opd.t 50, Opd.t 57, Opd.k (AV.d (DV.bool false))]])
                            (CC.cond (Opd.t 58) (CC.reg none [Ins.mk (some 59) none Act.mv [Opd.t 9], Ins.mk (some 12) none Act.mv [Opd.t 59]]) CC.skip))
                          (CC.seq (CC.fgt [4, 5, 12])
                            (CC.seq (CC.reg none [Ins.mk (some 60) none Act.mv [Opd.t 12], Ins.mk (some 61) none Act.max [Opd.t 60, Opd.k (AV.d (DV.int IntKind.i64 (Int.ofNat 64)))], Ins.mk (some 4) none Act.mv [Opd.t 61], Ins.mk (some 5) none Act.mv [Opd.k (AV.d (DV.int IntKind.i64 (Int.ofNat 0)))]])
                              CC.ret)))))))))))))
    [RV.tmp 4, RV.tmp 5]
theorem code19_ok : F0 19 = some (.code code19) := by kernel_rfl
def code53 : CFn :=
  CFn.mk
    (CC.seq (CC.reg none [Ins.mk (some 2) none Act.mv [Opd.k (AV.d (DV.bool false))]])
      (CC.seq
        (CC.reg none
          [Ins.mk (some 3) none Act.mv [Opd.t 0], Ins.mk (some 4) none (Act.bin BinOp.geq (EqK.nil 10)) [Opd.t 3, Opd.k (AV.d (DV.int IntKind.i64 (Int.ofNat 0)))], Ins.mk (some 5) none Act.mv [Opd.t 4], Ins.mk (some 6) (some (5, true)) Act.mv [Opd.t 0],
            Ins.mk (some 7) (some (5, true)) (Act.bin BinOp.leq (EqK.nil 10)) [Opd.t 6, Opd.k (AV.d (DV.int IntKind.i64 (Int.ofNat 68719476736)))], Ins.mk (some 8) none Act.pick [Opd.t 5, Opd.t 7, Opd.k (AV.d (DV.bool false))], Ins.mk (some 2) none Act.mv [Opd.t 8]])
        CC.ret))
    [RV.tmp 2]
theorem code53_ok : F0 53 = some (.code code53) := by kernel_rfl
def code47 : CFn :=
  CFn.mk
    (CC.seq (CC.reg none [Ins.mk (some 1) none (Act.box 28) [Opd.t 0], Ins.mk (some 2) none Act.mv [Opd.k (AV.d (DV.bool false))]])
      (CC.seq
        (CC.reg none
          [Ins.mk (some 3) none (Act.fad 4) [Opd.t 1], Ins.mk (some 4) none (Act.load none) [Opd.t 3], Ins.mk (some 5) none (Act.un UnOp.not) [Opd.t 4], Ins.mk (some 6) none Act.mv [Opd.t 5], Ins.mk (some 7) (some (6, true)) (Act.fad 0) [Opd.t 1],
            Ins.mk (some 8) (some (6, true)) (Act.load (some 2)) [Opd.t 7], Ins.mk (some 9) (some (6, true)) (Act.call false) [Opd.k (AV.fn Mode.pure 92 [] []), Opd.t 8], Ins.mk (some 10) (some (6, true)) Act.mv [Opd.t 9], Ins.mk (some 11) (some (10, false)) (Act.fad 2) [Opd.t 1],
            Ins.mk (some 12) (some (10, false)) (Act.load (some 2)) [Opd.t 11], Ins.mk (some 13) (some (10, false)) (Act.call false) [Opd.k (AV.fn Mode.pure 92 [] []), Opd.t 12], Ins.mk (some 14) (some (6, true)) Act.pick [Opd.t 10, Opd.k (AV.d (DV.bool true)), Opd.t 13],
            Ins.mk (some 15) none Act.pick [Opd.t 6, Opd.t 14, Opd.k (AV.d (DV.bool false))], Ins.mk (some 2) none Act.mv [Opd.t 15]])
        CC.ret))
    [RV.tmp 2]
theorem code47_ok : F0 47 = some (.code code47) := by kernel_rfl
def code48 : CFn :=
  CFn.mk
    (CC.seq (CC.reg none [Ins.mk (some 1) none (Act.box 28) [Opd.t 0], Ins.mk (some 2) none Act.mv [Opd.k (AV.d (DV.bool false))]])
      (CC.seq
        (CC.seq (CC.reg none [Ins.mk (some 3) none (Act.fad 4) [Opd.t 1], Ins.mk (some 4) none (Act.load none) [Opd.t 3]])
          (CC.cond (Opd.t 4)
            (CC.seq
              (CC.reg (some [])
                [Ins.mk (some 5) none (Act.load (some 7)) [Opd.t 1], Ins.mk (some 6) none (Act.fad 5) [Opd.t 1], Ins.mk (some 7) none (Act.load (some 2)) [Opd.t 6], Ins.mk (some 8) none (Act.call true) [Opd.k (AV.fn Mode.pure 80 [] []), Opd.t 7],
                  Ins.mk (some 9) none (Act.bin BinOp.eql (EqK.cells 7 [(0, 1), (1, 1), (2, 1), (3, 1), (4, 0), (5, 1), (6, 1)])) [Opd.t 5, Opd.t 8], Ins.mk (some 10) none Act.mv [Opd.t 9], Ins.mk (some 11) (some (10, true)) (Act.fad 5) [Opd.t 1],
                  Ins.mk (some 12) (some (10, true)) (Act.load (some 2)) [Opd.t 11], Ins.mk (some 13) (some (10, true)) (Act.call true) [Opd.k (AV.fn Mode.pure 92 [] []), Opd.t 12], Ins.mk (some 14) none Act.pick [Opd.t 10, Opd.t 13, Opd.k (AV.d (DV.bool false))],
                  Ins.mk (some 15) none Act.mv [Opd.t 14], Ins.mk (some 16) (some (15, true)) (Act.fad 5) [Opd.t 1], Ins.mk (some 17) (some (15, true)) (Act.load (some 2)) [Opd.t 16],
                  Ins.mk (some 18) (some (15, true)) (Act.call true) [Opd.k (AV.fn Mode.pure 93 [] []), Opd.t 17, Opd.k (AV.d (DV.int IntKind.i64 (Int.ofNat 1)))], Ins.mk (some 19) none Act.pick [Opd.t 15, Opd.t 18, Opd.k (AV.d (DV.bool false))], Ins.mk (some 2) none Act.mv [Opd.t 19]])
              CC.ret)
            CC.skip))
        (CC.seq (CC.fgt [1, 2])
          (CC.seq
            (CC.reg none
              [Ins.mk (some 20) none (Act.fad 5) [Opd.t 1], Ins.mk (some 21) none (Act.load (some 2)) [Opd.t 20], Ins.mk (some 22) none (Act.build [AV.d (DV.int IntKind.i64 (Int.ofNat 0)), AV.d (DV.int IntKind.i64 (Int.ofNat 0))] []) [],
                Ins.mk (some 23) none (Act.bin BinOp.eql (EqK.cells 2 [(0, 1), (1, 1)])) [Opd.t 21, Opd.t 22], Ins.mk (some 24) none Act.mv [Opd.t 23], Ins.mk (some 25) (some (24, true)) (Act.fad 0) [Opd.t 1], Ins.mk (some 26) (some (24, true)) (Act.load (some 2)) [Opd.t 25],
                Ins.mk (some 27) (some (24, true)) (Act.call false) [Opd.k (AV.fn Mode.pure 93 [] []), Opd.t 26, Opd.k (AV.d (DV.int IntKind.i64 (Int.ofNat 13)))], Ins.mk (some 28) none Act.pick [Opd.t 24, Opd.t 27, Opd.k (AV.d (DV.bool false))], Ins.mk (some 29) none Act.mv [Opd.t 28],
                Ins.mk (some 30) (some (29, true)) (Act.fad 2) [Opd.t 1], Ins.mk (some 31) (some (29, true)) (Act.load (some 2)) [Opd.t 30], Ins.mk (some 32) (some (29, true)) (Act.call false) [Opd.k (AV.fn Mode.pure 93 [] []), Opd.t 31, Opd.k (AV.d (DV.int IntKind.i64 (Int.ofNat 29)))],
                Ins.mk (some 33) none Act.pick [Opd.t 29, Opd.t 32, Opd.k (AV.d (DV.bool false))], Ins.mk (some 2) none Act.mv [Opd.t 33]])
            CC.ret))))
    [RV.tmp 2]
theorem code48_ok : F0 48 = some (.code code48) := by kernel_rfl
def code117 : CFn :=
  CFn.mk
    (CC.seq (CC.reg none [Ins.mk (some 0) none (Act.new 26 [AV.d (DV.int IntKind.i64 (Int.ofNat 0)), AV.d (DV.int IntKind.i64 (Int.ofNat 0))]) []])
      (CC.seq (CC.reg none [Ins.mk (some 1) none (Act.build [AV.d (DV.int IntKind.i64 (Int.ofNat 0)), AV.d (DV.int IntKind.i64 (Int.ofNat 0))] [(0, 1)]) [Opd.k (AV.d (DV.int IntKind.i64 (Int.ofNat 1)))], Ins.mk none none (Act.storeT 2) [Opd.t 0, Opd.t 1]]) CC.ret))
    [RV.cell 0 (some 2)]
theorem code117_ok : F0 117 = some (.code code117) := by kernel_rfl
def code80 : CFn :=
  CFn.mk
    (CC.seq
      (CC.reg none
        [Ins.mk (some 1) none (Act.box 26) [Opd.t 0],
          Ins.mk (some 2) none
            (Act.new 28 [AV.d (DV.int IntKind.i64 (Int.ofNat 0)), AV.d (DV.int IntKind.i64 (Int.ofNat 0)), AV.d (DV.int IntKind.i64 (Int.ofNat 0)), AV.d (DV.int IntKind.i64 (Int.ofNat 0)), AV.d (DV.bool false), AV.d (DV.int IntKind.i64 (Int.ofNat 0)), AV.d (DV.int IntKind.i64 (Int.ofNat 0))]) []])
      (CC.seq
        (CC.reg (some [])
          [Ins.mk (some 3) none (Act.call true) [Opd.k (AV.fn Mode.pure 117 [] [])], Ins.mk (some 4) none (Act.build [AV.d (DV.int IntKind.i64 (Int.ofNat 0)), AV.d (DV.int IntKind.i64 (Int.ofNat 0))] [(0, 1)]) [Opd.k (AV.d (DV.int IntKind.i64 (Int.ofNat 5)))],
            Ins.mk (some 5) none (Act.load (some 2)) [Opd.t 1],
            Ins.mk (some 6) none
              (Act.build [AV.d (DV.int IntKind.i64 (Int.ofNat 0)), AV.d (DV.int IntKind.i64 (Int.ofNat 0)), AV.d (DV.int IntKind.i64 (Int.ofNat 0)), AV.d (DV.int IntKind.i64 (Int.ofNat 0)), AV.d (DV.bool false), AV.d (DV.int IntKind.i64 (Int.ofNat 0)), AV.d (DV.int IntKind.i64 (Int.ofNat 0))]
                [(0, 2), (2, 2), (4, 1), (5, 2)])
              [Opd.t 3, Opd.t 4, Opd.k (AV.d (DV.bool true)), Opd.t 5],
            Ins.mk none none (Act.store 7) [Opd.t 2, Opd.t 6]])
        CC.ret))
    [RV.cell 2 (some 7)]
theorem code80_ok : F0 80 = some (.code code80) := by kernel_rfl
def code92 : CFn :=
  CFn.mk
    (CC.seq (CC.reg none [Ins.mk (some 1) none (Act.box 26) [Opd.t 0], Ins.mk (some 2) none Act.mv [Opd.k (AV.d (DV.bool false))]])
      (CC.seq
        (CC.reg none
          [Ins.mk (some 3) none (Act.fad 0) [Opd.t 1], Ins.mk (some 4) none (Act.load none) [Opd.t 3], Ins.mk (some 5) none (Act.bin BinOp.eql (EqK.nil 10)) [Opd.t 4, Opd.k (AV.d (DV.int IntKind.i64 (Int.ofNat 2)))], Ins.mk (some 6) none Act.mv [Opd.t 5],
            Ins.mk (some 7) (some (6, false)) (Act.fad 0) [Opd.t 1], Ins.mk (some 8) (some (6, false)) (Act.load none) [Opd.t 7], Ins.mk (some 9) (some (6, false)) (Act.bin BinOp.eql (EqK.nil 10)) [Opd.t 8, Opd.k (AV.d (DV.int IntKind.i64 (Int.ofNat 3)))],
            Ins.mk (some 10) none Act.pick [Opd.t 6, Opd.k (AV.d (DV.bool true)), Opd.t 9], Ins.mk (some 2) none Act.mv [Opd.t 10]])
        CC.ret))
    [RV.tmp 2]
theorem code92_ok : F0 92 = some (.code code92) := by kernel_rfl
def code50 : CFn :=
  CFn.mk
    (CC.seq (CC.reg none [Ins.mk (some 3) none (Act.box 26) [Opd.t 0], Ins.mk (some 6) none Act.mv [Opd.k (AV.d (DV.int IntKind.i64 (Int.ofNat 0)))], Ins.mk (some 7) none Act.mv [Opd.k (AV.d (DV.bool false))], Ins.mk (some 8) none Act.mv [Opd.k (AV.d (DV.int IntKind.i64 (Int.ofNat 0)))]])
      (CC.seq
        (CC.block 0
          (CC.seq
            (CC.reg none
              [Ins.mk (some 12) none (Act.load (some 2)) [Opd.t 3], Ins.mk (some 13) none (Act.fad 1) [Opd.t 3], Ins.mk (some 14) none (Act.load none) [Opd.t 13],
                Ins.mk (some 15) none (Act.build [AV.d (DV.int IntKind.i64 (Int.ofNat 0)), AV.d (DV.int IntKind.i64 (Int.ofNat 0))] [(0, 1), (1, 1)]) [Opd.k (AV.d (DV.int IntKind.i64 (Int.ofNat 2))), Opd.t 14],
                Ins.mk (some 16) none (Act.bin BinOp.eql (EqK.cells 2 [(0, 1), (1, 1)])) [Opd.t 12, Opd.t 15], Ins.mk (some 11) none Act.mv [Opd.t 16]])
            (CC.cond (Opd.t 11)
              (CC.seq
                (CC.reg none
                  [Ins.mk (some 17) none (Act.fad 1) [Opd.t 3], Ins.mk (some 18) none (Act.load none) [Opd.t 17], Ins.mk (some 6) none Act.mv [Opd.t 18], Ins.mk (some 7) none Act.mv [Opd.k (AV.d (DV.bool true))], Ins.mk (some 8) none Act.mv [Opd.k (AV.d (DV.int IntKind.i64 (Int.ofNat 0)))]])
                CC.ret)
              (CC.seq
                (CC.reg none
                  [Ins.mk (some 20) none (Act.fad 0) [Opd.t 3], Ins.mk (some 21) none (Act.load none) [Opd.t 20], Ins.mk (some 22) none (Act.bin BinOp.eql (EqK.nil 10)) [Opd.t 21, Opd.k (AV.d (DV.int IntKind.i64 (Int.ofNat 3)))], Ins.mk (some 23) none Act.mv [Opd.t 22],
                    Ins.mk (some 24) (some (23, true)) Act.mv [Opd.t 2], Ins.mk (some 25) none Act.pick [Opd.t 23, Opd.t 24, Opd.k (AV.d (DV.bool false))], Ins.mk (some 19) none Act.mv [Opd.t 25]])
                (CC.cond (Opd.t 19)
                  (CC.seq
                    (CC.reg none
                      [Ins.mk (some 27) none (Act.fad 1) [Opd.t 3], Ins.mk (some 28) none (Act.load none) [Opd.t 27], Ins.mk (some 29) none Act.mv [Opd.t 1], Ins.mk (some 30) none (Act.call false) [Opd.k (AV.fn Mode.pure 95 [] []), Opd.t 28, Opd.t 29], Ins.mk (some 26) none Act.mv [Opd.t 30],
                        Ins.mk (some 31) none (Act.ext 0) [Opd.t 26], Ins.mk (some 32) none (Act.ext 1) [Opd.t 26], Ins.mk (some 9) none Act.mv [Opd.t 31], Ins.mk (some 10) none Act.mv [Opd.t 32]])
                    (CC.seq
                      (CC.reg none
                        [Ins.mk (some 33) none Act.mv [Opd.t 9], Ins.mk (some 34) none Act.mv [Opd.t 10], Ins.mk (some 35) none (Act.bin BinOp.eql (EqK.nil 10)) [Opd.t 34, Opd.k (AV.d (DV.int IntKind.i64 (Int.ofNat 0)))], Ins.mk (some 36) none Act.mv [Opd.t 10], Ins.mk (some 6) none Act.mv [Opd.t 33],
                          Ins.mk (some 7) none Act.mv [Opd.t 35], Ins.mk (some 8) none Act.mv [Opd.t 36]])
                      CC.ret))
                  CC.skip)))))
        (CC.seq (CC.fgt [6, 7, 8]) (CC.seq (CC.reg none [Ins.mk (some 6) none Act.mv [Opd.k (AV.d (DV.int IntKind.i64 (Int.ofNat 0)))], Ins.mk (some 7) none Act.mv [Opd.k (AV.d (DV.bool false))], Ins.mk (some 8) none Act.mv [Opd.k (AV.d (DV.int IntKind.i64 (Int.ofNat 0)))]]) CC.ret))))
    [RV.tmp 6, RV.tmp 7, RV.tmp 8]
theorem code50_ok : F0 50 = some (.code code50) := by kernel_rfl
end Go.Proofs.YtjeblkicgmmhiaaGreatDoor.Ab
