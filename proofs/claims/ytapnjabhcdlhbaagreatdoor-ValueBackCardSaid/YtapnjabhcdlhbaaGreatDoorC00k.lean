/- The code of some functions, compiled (printed by a program for this seat; each is held against the compiler by the kernel). -/
import Derived.Test.YtapnjabhcdlhbaaGreatDoorAbCfg
namespace Go.Proofs.YtapnjabhcdlhbaaGreatDoor.Ab
open Go
set_option maxRecDepth 100000
def code140 : CFn :=
  CFn.mk
    (CC.seq (CC.reg none [Ins.mk (some 6) none Act.mv [Opd.k (AV.d (DV.int IntKind.i64 (Int.ofNat 0)))], Ins.mk (some 7) none Act.mv [Opd.k (AV.d (DV.int IntKind.i64 (Int.ofNat 0)))]])
      (CC.seq
        (CC.seq (CC.reg none [Ins.mk (some 11) none Act.mv [Opd.t 2], Ins.mk (some 12) none (Act.bin BinOp.eql (EqK.nil 10)) [Opd.t 11, Opd.k (AV.d (DV.int IntKind.i64 (Int.ofNat 0)))]])
          (CC.cond (Opd.t 12) (CC.seq (CC.reg none [Ins.mk (some 6) none Act.mv [Opd.k (AV.d (DV.int IntKind.i64 (Int.ofNat 0)))], Ins.mk (some 7) none Act.mv [Opd.k (AV.d (DV.int IntKind.i64 (Int.ofNat 2)))]]) CC.ret) CC.skip))
        (CC.seq (CC.fgt [0, 1, 2, 6, 7])
          (CC.seq
            (CC.reg none
              [Ins.mk (some 14) none Act.mv [Opd.t 0], Ins.mk (some 15) none (Act.call false) [Opd.k (AV.fn Mode.pure 188 [] []), Opd.t 14], Ins.mk (some 16) none Act.mv [Opd.t 1], Ins.mk (some 17) none (Act.call false) [Opd.k (AV.fn Mode.pure 188 [] []), Opd.t 16],
                Ins.mk (some 18) none (Act.call false) [Opd.k (AV.fn Mode.pure 187 [] []), Opd.t 15, Opd.t 17], Ins.mk (some 19) none Act.mv [Opd.t 2], Ins.mk (some 20) none (Act.call false) [Opd.k (AV.fn Mode.pure 188 [] []), Opd.t 19],
                Ins.mk (some 21) none (Act.call false) [Opd.k (AV.fn Mode.pure 186 [] []), Opd.t 18, Opd.t 20], Ins.mk (some 13) none Act.mv [Opd.t 21], Ins.mk (some 22) none (Act.ext 0) [Opd.t 13], Ins.mk (some 23) none (Act.ext 1) [Opd.t 13],
                Ins.mk (some 8) none (Act.new 210 [AV.d (DV.int IntKind.u64 (Int.ofNat 0)), AV.d (DV.int IntKind.u64 (Int.ofNat 0))]) [], Ins.mk none none (Act.storeT 2) [Opd.t 8, Opd.t 22], Ins.mk (some 9) none Act.mv [Opd.t 23]])
            (CC.seq
              (CC.reg none
                [Ins.mk (some 24) none Act.mv [Opd.t 0], Ins.mk (some 25) none (Act.bin BinOp.lss (EqK.nil 10)) [Opd.t 24, Opd.k (AV.d (DV.int IntKind.i64 (Int.ofNat 0)))], Ins.mk (some 26) none Act.mv [Opd.t 1],
                  Ins.mk (some 27) none (Act.bin BinOp.lss (EqK.nil 10)) [Opd.t 26, Opd.k (AV.d (DV.int IntKind.i64 (Int.ofNat 0)))], Ins.mk (some 28) none (Act.bin BinOp.neq EqK.bool) [Opd.t 25, Opd.t 27], Ins.mk (some 29) none Act.mv [Opd.t 2],
                  Ins.mk (some 30) none (Act.bin BinOp.lss (EqK.nil 10)) [Opd.t 29, Opd.k (AV.d (DV.int IntKind.i64 (Int.ofNat 0)))], Ins.mk (some 31) none (Act.bin BinOp.neq EqK.bool) [Opd.t 28, Opd.t 30], Ins.mk (some 32) none Act.mv [Opd.t 31],
                  Ins.mk (some 33) (some (32, true)) (Act.load (some 2)) [Opd.t 8], Ins.mk (some 34) (some (32, true)) (Act.build [AV.d (DV.int IntKind.u64 (Int.ofNat 0)), AV.d (DV.int IntKind.u64 (Int.ofNat 0))] []) [],
                  Ins.mk (some 35) (some (32, true)) (Act.bin BinOp.neq (EqK.cells 2 [(0, 1), (1, 1)])) [Opd.t 33, Opd.t 34], Ins.mk (some 36) (some (32, true)) Act.mv [Opd.t 35], Ins.mk (some 37) (some (36, false)) Act.mv [Opd.t 9],
                  Ins.mk (some 38) (some (36, false)) (Act.bin BinOp.gtr (EqK.nil 10)) [Opd.t 37, Opd.k (AV.d (DV.int IntKind.u64 (Int.ofNat 0)))], Ins.mk (some 39) (some (32, true)) Act.pick [Opd.t 36, Opd.k (AV.d (DV.bool true)), Opd.t 38],
                  Ins.mk (some 40) none Act.pick [Opd.t 32, Opd.t 39, Opd.k (AV.d (DV.bool false))], Ins.mk (some 10) none Act.mv [Opd.t 40]])
              (CC.seq
                (CC.seq
                  (CC.reg none
                    [Ins.mk (some 41) none Act.mv [Opd.t 10], Ins.mk (some 42) none Act.mv [Opd.t 41], Ins.mk (some 43) (some (42, true)) Act.mv [Opd.t 9], Ins.mk (some 44) (some (42, true)) (Act.bin BinOp.gtr (EqK.nil 10)) [Opd.t 43, Opd.k (AV.d (DV.int IntKind.u64 (Int.ofNat 0)))],
                      Ins.mk (some 45) none Act.pick [Opd.t 42, Opd.t 44, Opd.k (AV.d (DV.bool false))]])
                  (CC.cond (Opd.t 45) (CC.reg none [Ins.mk (some 46) none (Act.load (some 2)) [Opd.t 8], Ins.mk (some 47) none (Act.call false) [Opd.k (AV.fn Mode.pure 189 [] []), Opd.t 46, Opd.k (AV.d (DV.int IntKind.u64 (Int.ofNat 1)))], Ins.mk none none (Act.storeT 2) [Opd.t 8, Opd.t 47]])
                    CC.skip))
                (CC.seq (CC.fgt [6, 7, 8, 10])
                  (CC.seq
                    (CC.seq
                      (CC.reg none
                        [Ins.mk (some 48) none (Act.fad 0) [Opd.t 8], Ins.mk (some 49) none (Act.load none) [Opd.t 48], Ins.mk (some 50) none (Act.bin BinOp.gtr (EqK.nil 10)) [Opd.t 49, Opd.k (AV.d (DV.int IntKind.u64 (Int.ofNat 0)))], Ins.mk (some 51) none Act.mv [Opd.t 50],
                          Ins.mk (some 52) (some (51, false)) (Act.fad 1) [Opd.t 8], Ins.mk (some 53) (some (51, false)) (Act.load none) [Opd.t 52], Ins.mk (some 54) (some (51, false)) (Act.bin BinOp.gtr (EqK.nil 10)) [Opd.t 53, Opd.k (AV.d (DV.int IntKind.u64 (Int.ofNat 9223372036854775807)))],
                          Ins.mk (some 55) (some (51, false)) Act.mv [Opd.t 54], Ins.mk (some 56) (some (55, true)) Act.mv [Opd.t 10], Ins.mk (some 57) (some (55, true)) Act.mv [Opd.t 56], Ins.mk (some 58) (some (57, true)) (Act.fad 1) [Opd.t 8],
                          Ins.mk (some 59) (some (57, true)) (Act.load none) [Opd.t 58], Ins.mk (some 60) (some (57, true)) (Act.bin BinOp.eql (EqK.nil 10)) [Opd.t 59, Opd.k (AV.d (DV.int IntKind.u64 (Int.ofNat 9223372036854775808)))],
                          Ins.mk (some 61) (some (55, true)) Act.pick [Opd.t 57, Opd.t 60, Opd.k (AV.d (DV.bool false))], Ins.mk (some 62) (some (55, true)) (Act.un UnOp.not) [Opd.t 61], Ins.mk (some 63) (some (51, false)) Act.pick [Opd.t 55, Opd.t 62, Opd.k (AV.d (DV.bool false))],
                          Ins.mk (some 64) none Act.pick [Opd.t 51, Opd.k (AV.d (DV.bool true)), Opd.t 63]])
                      (CC.cond (Opd.t 64) (CC.seq (CC.reg none [Ins.mk (some 6) none Act.mv [Opd.k (AV.d (DV.int IntKind.i64 (Int.ofNat 0)))], Ins.mk (some 7) none Act.mv [Opd.k (AV.d (DV.int IntKind.i64 (Int.ofNat 10)))]]) CC.ret) CC.skip))
                    (CC.seq (CC.fgt [6, 7, 8, 10])
                      (CC.seq
                        (CC.seq (CC.reg none [Ins.mk (some 65) none Act.mv [Opd.t 10]])
                          (CC.cond (Opd.t 65)
                            (CC.seq
                              (CC.reg none
                                [Ins.mk (some 66) none (Act.fad 1) [Opd.t 8], Ins.mk (some 67) none (Act.load none) [Opd.t 66], Ins.mk (some 68) none (Act.bin BinOp.sub (EqK.nil 10)) [Opd.k (AV.d (DV.int IntKind.u64 (Int.ofNat 0))), Opd.t 67], Ins.mk (some 69) none (Act.cvi IntKind.i64) [Opd.t 68],
                                  Ins.mk (some 6) none Act.mv [Opd.t 69], Ins.mk (some 7) none Act.mv [Opd.k (AV.d (DV.int IntKind.i64 (Int.ofNat 0)))]])
                              CC.ret)
                            CC.skip))
                        (CC.seq (CC.fgt [6, 7, 8])
                          (CC.seq
                            (CC.reg none
                              [Ins.mk (some 70) none (Act.fad 1) [Opd.t 8], Ins.mk (some 71) none (Act.load none) [Opd.t 70], Ins.mk (some 72) none (Act.cvi IntKind.i64) [Opd.t 71], Ins.mk (some 6) none Act.mv [Opd.t 72], Ins.mk (some 7) none Act.mv [Opd.k (AV.d (DV.int IntKind.i64 (Int.ofNat 0)))]])
                            CC.ret))))))))))))
    [RV.tmp 6, RV.tmp 7]
theorem code140_ok : F0 140 = some (.code code140) := by kernel_rfl
def code34 : CFn :=
  CFn.mk
    (CC.seq (CC.reg none [Ins.mk (some 3) none (Act.box 26) [Opd.t 0], Ins.mk (some 6) none Act.mv [Opd.k (AV.d (DV.int IntKind.i64 (Int.ofNat 0)))], Ins.mk (some 7) none Act.mv [Opd.k (AV.d (DV.bool false))], Ins.mk (some 8) none Act.mv [Opd.k (AV.d (DV.int IntKind.i64 (Int.ofNat 0)))]])
      (CC.seq
        (CC.block 0
          (CC.seq
            (CC.reg none
              [Ins.mk (some 12) none (Act.load (some 2)) [Opd.t 3], Ins.mk (some 13) none (Act.fad 1) [Opd.t 3], Ins.mk (some 14) none (Act.load none) [Opd.t 13],
                Ins.mk (some 15) none (Act.build [AV.d (DV.int IntKind.i64 (Int.ofNat 0)), AV.d (DV.int IntKind.i64 (Int.ofNat 0))] [(0, 1), (1, 1)]) [Opd.k (AV.d (DV.int IntKind.i64 (Int.ofNat 2))), Opd.t 14],
                Ins.mk (some 16) none (Act.bin BinOp.eql (EqK.cells 2 [(0, 1), (1, 1)])) [Opd.t 12, Opd.t 15], Ins.mk (some 11) none Act.mv [Opd.t 16]])
            (CC.cond (Opd.t 11)
              (CC.seq
                (CC.reg none
                  [Ins.mk (some 17) none (Act.fad 1) [Opd.t 3], Ins.mk (some 18) none (Act.load none) [Opd.t 17], Ins.mk (some 6) none Act.mv [Opd.t 18], Ins.mk (some 7) none Act.mv [Opd.k (AV.d (DV.bool true))], Ins.mk (some 8) none Act.mv [Opd.k (AV.d (DV.int IntKind.i64 (Int.ofNat 0)))]])
                CC.ret)
              (CC.seq
                (CC.reg none
                  [Ins.mk (some 20) none (Act.fad 0) [Opd.t 3], Ins.mk (some 21) none (Act.load none) [Opd.t 20], Ins.mk (some 22) none (Act.bin BinOp.eql (EqK.nil 10)) [Opd.t 21, Opd.k (AV.d (DV.int IntKind.i64 (Int.ofNat 3)))], Ins.mk (some 23) none Act.mv [Opd.t 22],
                    Ins.mk (some 24) (some (23, true)) Act.mv [Opd.t 2], Ins.mk (some 25) none Act.pick [Opd.t 23, Opd.t 24, Opd.k (AV.d (DV.bool false))], Ins.mk (some 19) none Act.mv [Opd.t 25]])
                (CC.cond (Opd.t 19)
                  (CC.seq
                    (CC.reg none
                      [Ins.mk (some 27) none (Act.fad 1) [Opd.t 3], Ins.mk (some 28) none (Act.load none) [Opd.t 27], Ins.mk (some 29) none Act.mv [Opd.t 1], Ins.mk (some 30) none (Act.call false) [Opd.k (AV.fn Mode.pure 94 [] []), Opd.t 28, Opd.t 29], Ins.mk (some 26) none Act.mv [Opd.t 30],
                        Ins.mk (some 31) none (Act.ext 0) [Opd.t 26], Ins.mk (some 32) none (Act.ext 1) [Opd.t 26], Ins.mk (some 9) none Act.mv [Opd.t 31], Ins.mk (some 10) none Act.mv [Opd.t 32]])
                    (CC.seq
                      (CC.reg none
                        [Ins.mk (some 33) none Act.mv [Opd.t 9], Ins.mk (some 34) none Act.mv [Opd.t 10], Ins.mk (some 35) none (Act.bin BinOp.eql (EqK.nil 10)) [Opd.t 34, Opd.k (AV.d (DV.int IntKind.i64 (Int.ofNat 0)))], Ins.mk (some 36) none Act.mv [Opd.t 10], Ins.mk (some 6) none Act.mv [Opd.t 33],
                          Ins.mk (some 7) none Act.mv [Opd.t 35], Ins.mk (some 8) none Act.mv [Opd.t 36]])
                      CC.ret))
                  CC.skip)))))
        (CC.seq (CC.fgt [6, 7, 8]) (CC.seq (CC.reg none [Ins.mk (some 6) none Act.mv [Opd.k (AV.d (DV.int IntKind.i64 (Int.ofNat 0)))], Ins.mk (some 7) none Act.mv [Opd.k (AV.d (DV.bool false))], Ins.mk (some 8) none Act.mv [Opd.k (AV.d (DV.int IntKind.i64 (Int.ofNat 0)))]]) CC.ret))))
    [RV.tmp 6, RV.tmp 7, RV.tmp 8]
theorem code34_ok : F0 34 = some (.code code34) := by kernel_rfl
def code6 : CFn :=
  CFn.mk
    (CC.seq (CC.reg none [Ins.mk (some 4) none (Act.box 26) [Opd.t 0], Ins.mk (some 8) none Act.mv [Opd.k (AV.d (DV.bool false))]])
      (CC.seq
        (CC.reg none
          [Ins.mk (some 16) none (Act.load (some 2)) [Opd.t 4], Ins.mk (some 17) none Act.mv [Opd.t 2], Ins.mk (some 18) none Act.mv [Opd.t 3], Ins.mk (some 19) none (Act.call false) [Opd.k (AV.fn Mode.pure 34 [] []), Opd.t 16, Opd.t 17, Opd.t 18], Ins.mk (some 15) none Act.mv [Opd.t 19],
            Ins.mk (some 20) none (Act.ext 0) [Opd.t 15], Ins.mk (some 21) none (Act.ext 1) [Opd.t 15], Ins.mk (some 22) none (Act.ext 2) [Opd.t 15], Ins.mk (some 9) none Act.mv [Opd.t 20], Ins.mk (some 10) none Act.mv [Opd.t 21], Ins.mk (some 11) none Act.mv [Opd.t 22]])
        (CC.seq
          (CC.reg none
            [Ins.mk (some 24) none (Act.load (some 2)) [Opd.t 4], Ins.mk (some 25) none Act.mv [Opd.t 2], Ins.mk (some 26) none Act.mv [Opd.t 3], Ins.mk (some 27) none (Act.call false) [Opd.k (AV.fn Mode.pure 35 [] []), Opd.t 24, Opd.t 25, Opd.t 26], Ins.mk (some 23) none Act.mv [Opd.t 27],
              Ins.mk (some 28) none (Act.ext 0) [Opd.t 23], Ins.mk (some 29) none (Act.ext 1) [Opd.t 23], Ins.mk (some 30) none (Act.ext 2) [Opd.t 23], Ins.mk (some 12) none Act.mv [Opd.t 28], Ins.mk (some 13) none Act.mv [Opd.t 29], Ins.mk (some 14) none Act.mv [Opd.t 30]])
          (CC.seq
            (CC.reg (some [])
              [Ins.mk (some 31) none (Act.load (some 2)) [Opd.t 4], Ins.mk (some 32) none Act.mv [Opd.t 1], Ins.mk (some 33) none (Act.call true) [Opd.k (AV.fn Mode.pure 21 [] []), Opd.t 31, Opd.t 32], Ins.mk (some 34) none (Act.load (some 2)) [Opd.t 4], Ins.mk (some 35) none Act.mv [Opd.t 1],
                Ins.mk (some 36) none (Act.call true) [Opd.k (AV.fn Mode.pure 36 [] []), Opd.t 34, Opd.t 35], Ins.mk (some 37) none (Act.bin BinOp.eql EqK.bool) [Opd.t 33, Opd.t 36], Ins.mk (some 38) none Act.mv [Opd.t 37], Ins.mk (some 39) (some (38, true)) (Act.load (some 2)) [Opd.t 4],
                Ins.mk (some 40) (some (38, true)) (Act.call true) [Opd.k (AV.fn Mode.pure 20 [] []), Opd.t 39], Ins.mk (some 41) (some (38, true)) (Act.load (some 2)) [Opd.t 4], Ins.mk (some 42) (some (38, true)) (Act.call true) [Opd.k (AV.fn Mode.pure 37 [] []), Opd.t 41],
                Ins.mk (some 43) (some (38, true)) (Act.bin BinOp.eql (EqK.nil 10)) [Opd.t 40, Opd.t 42], Ins.mk (some 44) none Act.pick [Opd.t 38, Opd.t 43, Opd.k (AV.d (DV.bool false))], Ins.mk (some 45) none Act.mv [Opd.t 44], Ins.mk (some 46) (some (45, true)) Act.mv [Opd.t 9],
                Ins.mk (some 47) (some (45, true)) Act.mv [Opd.t 12], Ins.mk (some 48) (some (45, true)) (Act.bin BinOp.eql (EqK.nil 10)) [Opd.t 46, Opd.t 47], Ins.mk (some 49) none Act.pick [Opd.t 45, Opd.t 48, Opd.k (AV.d (DV.bool false))], Ins.mk (some 50) none Act.mv [Opd.t 49],
                Ins.mk (some 51) (some (50, true)) Act.mv [Opd.t 10], Ins.mk (some 52) (some (50, true)) Act.mv [Opd.t 13], Ins.mk (some 53) (some (50, true)) (Act.bin BinOp.eql EqK.bool) [Opd.t 51, Opd.t 52], Ins.mk (some 54) none Act.pick [Opd.t 50, Opd.t 53, Opd.k (AV.d (DV.bool false))],
                Ins.mk (some 55) none Act.mv [Opd.t 54], Ins.mk (some 56) (some (55, true)) Act.mv [Opd.t 11], Ins.mk (some 57) (some (55, true)) Act.mv [Opd.t 14], Ins.mk (some 58) (some (55, true)) (Act.bin BinOp.eql (EqK.nil 10)) [Opd.t 56, Opd.t 57],
                Ins.mk (some 59) none Act.pick [Opd.t 55, Opd.t 58, Opd.k (AV.d (DV.bool false))], Ins.mk (some 60) none Act.mv [Opd.t 59], Ins.mk (some 61) (some (60, true)) (Act.call true) [Opd.k (AV.fn Mode.pure 22 [] [])],
                Ins.mk (some 62) none Act.pick [Opd.t 60, Opd.t 61, Opd.k (AV.d (DV.bool false))], Ins.mk (some 8) none Act.mv [Opd.t 62]])
            CC.ret))))
    [RV.tmp 8]
theorem code6_ok : F0 6 = some (.code code6) := by kernel_rfl
def code48 : CFn :=
  CFn.mk
    (CC.seq (CC.reg none [Ins.mk (some 1) none (Act.box 27) [Opd.t 0], Ins.mk (some 2) none Act.mv [Opd.k (AV.d (DV.str []))]])
      (CC.seq
        (CC.seq (CC.reg none [Ins.mk (some 7) none (Act.load (some 8)) [Opd.t 1], Ins.mk (some 8) none (Act.call false) [Opd.k (AV.fn Mode.pure 46 [] []), Opd.t 7], Ins.mk (some 9) none (Act.un UnOp.not) [Opd.t 8]])
          (CC.cond (Opd.t 9) (CC.seq (CC.reg none [Ins.mk (some 2) none Act.mv [Opd.k (AV.d (DV.str []))]]) CC.ret) CC.skip))
        (CC.seq (CC.fgt [1, 2])
          (CC.seq
            (CC.seq (CC.reg none [Ins.mk (some 3) none Act.mv [Opd.k (AV.d (DV.int IntKind.i64 (Int.ofNat 1)))]])
              (CC.block 0
                (CC.loop [1, 2, 3]
                  (CC.seq (CC.seq (CC.reg none [Ins.mk (some 10) none Act.mv [Opd.t 3], Ins.mk (some 11) none (Act.bin BinOp.leq (EqK.nil 10)) [Opd.t 10, Opd.k (AV.d (DV.int IntKind.i64 (Int.ofNat 4)))]]) (CC.cond (Opd.t 11) CC.skip (CC.exit 0)))
                    (CC.seq (CC.fgt [1, 2, 3])
                      (CC.seq
                        (CC.block 1
                          (CC.seq
                            (CC.reg none
                              [Ins.mk (some 14) none (Act.iadA 4 2) [Opd.t 1, Opd.k (AV.d (DV.int IntKind.i64 (Int.ofNat 0)))], Ins.mk (some 15) none (Act.load (some 2)) [Opd.t 14], Ins.mk (some 16) none (Act.iadA 4 2) [Opd.t 1, Opd.k (AV.d (DV.int IntKind.i64 (Int.ofNat 1)))],
                                Ins.mk (some 17) none (Act.load (some 2)) [Opd.t 16], Ins.mk (some 18) none (Act.iadA 4 2) [Opd.t 1, Opd.k (AV.d (DV.int IntKind.i64 (Int.ofNat 2)))], Ins.mk (some 19) none (Act.load (some 2)) [Opd.t 18],
                                Ins.mk (some 20) none (Act.iadA 4 2) [Opd.t 1, Opd.k (AV.d (DV.int IntKind.i64 (Int.ofNat 3)))], Ins.mk (some 21) none (Act.load (some 2)) [Opd.t 20],
                                Ins.mk (some 22) none (Act.bslT 26 2 [DV.int IntKind.i64 (Int.ofNat 0), DV.int IntKind.i64 (Int.ofNat 0)] 4 [0, 1, 2, 3]) [Opd.t 15, Opd.t 17, Opd.t 19, Opd.t 21], Ins.mk (some 4) none Act.mv [Opd.t 22]])
                            (CC.seq
                              (CC.seq
                                (CC.reg (some [])
                                  [Ins.mk (some 23) none Act.mv [Opd.t 4], Ins.mk (some 24) none Act.mv [Opd.t 3], Ins.mk (some 25) none (Act.cutr 2 false true) [Opd.t 23, Opd.t 24], Ins.mk (some 26) none (Act.call true) [Opd.k (AV.fn Mode.pure 61 [] []), Opd.t 25],
                                    Ins.mk (some 27) none (Act.load (some 8)) [Opd.t 1], Ins.mk (some 28) none (Act.bin BinOp.neq (EqK.cells 8 [(0, 1), (1, 1), (2, 1), (3, 1), (4, 1), (5, 1), (6, 1), (7, 1)])) [Opd.t 26, Opd.t 27]])
                                (CC.cond (Opd.t 28) (CC.exit 1) CC.skip))
                              (CC.seq (CC.fgt [1, 2, 3])
                                (CC.seq (CC.reg none [Ins.mk (some 5) none Act.mv [Opd.k (AV.d (DV.str []))]])
                                  (CC.seq
                                    (CC.seq (CC.reg none [Ins.mk (some 6) none Act.mv [Opd.k (AV.d (DV.int IntKind.i64 (Int.ofNat 0)))]])
                                      (CC.block 2
                                        (CC.loop [1, 2, 3, 5, 6]
                                          (CC.seq (CC.seq (CC.reg none [Ins.mk (some 29) none Act.mv [Opd.t 6], Ins.mk (some 30) none Act.mv [Opd.t 3], Ins.mk (some 31) none (Act.bin BinOp.lss (EqK.nil 10)) [Opd.t 29, Opd.t 30]]) (CC.cond (Opd.t 31) CC.skip (CC.exit 2)))
                                            (CC.seq (CC.fgt [1, 2, 3, 5, 6])
                                              (CC.seq
                                                (CC.block 3
                                                  (CC.seq
                                                    (CC.seq (CC.reg none [Ins.mk (some 34) none Act.mv [Opd.t 6], Ins.mk (some 35) none (Act.bin BinOp.gtr (EqK.nil 10)) [Opd.t 34, Opd.k (AV.d (DV.int IntKind.i64 (Int.ofNat 0)))]])
                                                      (CC.cond (Opd.t 35) (CC.reg none [Ins.mk (some 36) none Act.mv [Opd.t 5], Ins.mk (some 37) none (Act.bin BinOp.add (EqK.nil 10)) [Opd.t 36, Opd.k (AV.d (DV.str [UInt8.ofNat 32]))], Ins.mk (some 5) none Act.mv [Opd.t 37]]) CC.skip))
                                                    (CC.seq (CC.fgt [1, 2, 3, 5, 6])
                                                      (CC.reg none
                                                        [Ins.mk (some 38) none Act.mv [Opd.t 5], Ins.mk (some 39) none Act.mv [Opd.t 6], Ins.mk (some 40) none (Act.iadA 4 2) [Opd.t 1, Opd.t 39], Ins.mk (some 41) none (Act.load (some 2)) [Opd.t 40],
                                                          Ins.mk (some 42) none (Act.call false) [Opd.k (AV.fn Mode.pure 37 [] []), Opd.t 41], Ins.mk (some 43) none (Act.bin BinOp.add (EqK.nil 10)) [Opd.t 38, Opd.t 42], Ins.mk (some 5) none Act.mv [Opd.t 43]]))))
                                                (CC.seq (CC.fgt [1, 2, 3, 5, 6]) (CC.reg none [Ins.mk (some 32) none Act.mv [Opd.t 6], Ins.mk (some 33) none (Act.bin BinOp.add (EqK.nil 10)) [Opd.t 32, Opd.k (AV.d (DV.int IntKind.i64 (Int.ofNat 1)))], Ins.mk (some 6) none Act.mv [Opd.t 33]]))))))))
                                    (CC.seq (CC.fgt [2, 5]) (CC.seq (CC.reg none [Ins.mk (some 44) none Act.mv [Opd.t 5], Ins.mk (some 2) none Act.mv [Opd.t 44]]) CC.ret))))))))
                        (CC.seq (CC.fgt [1, 2, 3]) (CC.reg none [Ins.mk (some 12) none Act.mv [Opd.t 3], Ins.mk (some 13) none (Act.bin BinOp.add (EqK.nil 10)) [Opd.t 12, Opd.k (AV.d (DV.int IntKind.i64 (Int.ofNat 1)))], Ins.mk (some 3) none Act.mv [Opd.t 13]]))))))))
            (CC.seq (CC.fgt [2]) (CC.seq (CC.reg none [Ins.mk (some 2) none Act.mv [Opd.k (AV.d (DV.str []))]]) CC.ret))))))
    [RV.tmp 2]
theorem code48_ok : F0 48 = some (.code code48) := by kernel_rfl
def code49 : CFn :=
  CFn.mk
    (CC.seq (CC.reg none [Ins.mk (some 2) none (Act.box 26) [Opd.t 0], Ins.mk (some 3) none (Act.box 26) [Opd.t 1], Ins.mk (some 4) none Act.mv [Opd.k (AV.d (DV.str []))]])
      (CC.seq (CC.reg none [Ins.mk (some 5) none Act.mv [Opd.k (AV.fn Mode.pure 108 [] [])]])
        (CC.seq
          (CC.block 0
            (CC.seq
              (CC.reg none
                [Ins.mk (some 7) none Act.mv [Opd.t 5], Ins.mk (some 8) none (Act.load (some 2)) [Opd.t 2], Ins.mk (some 9) none (Act.call false) [Opd.t 7, Opd.t 8], Ins.mk (some 10) none (Act.un UnOp.not) [Opd.t 9], Ins.mk (some 11) none Act.mv [Opd.t 10],
                  Ins.mk (some 12) (some (11, false)) Act.mv [Opd.t 5], Ins.mk (some 13) (some (11, false)) (Act.load (some 2)) [Opd.t 3], Ins.mk (some 14) (some (11, false)) (Act.call false) [Opd.t 12, Opd.t 13], Ins.mk (some 15) (some (11, false)) (Act.un UnOp.not) [Opd.t 14],
                  Ins.mk (some 16) none Act.pick [Opd.t 11, Opd.k (AV.d (DV.bool true)), Opd.t 15], Ins.mk (some 6) none Act.mv [Opd.t 16]])
              (CC.cond (Opd.t 6) (CC.seq (CC.reg none [Ins.mk (some 4) none Act.mv [Opd.k (AV.d (DV.str []))]]) CC.ret)
                (CC.seq (CC.reg none [Ins.mk (some 18) none (Act.load (some 2)) [Opd.t 2], Ins.mk (some 19) none (Act.load (some 2)) [Opd.t 3], Ins.mk (some 20) none (Act.bin BinOp.eql (EqK.cells 2 [(0, 1), (1, 1)])) [Opd.t 18, Opd.t 19], Ins.mk (some 17) none Act.mv [Opd.t 20]])
                  (CC.cond (Opd.t 17) (CC.seq (CC.reg none [Ins.mk (some 21) none (Act.load (some 2)) [Opd.t 2], Ins.mk (some 22) none (Act.call false) [Opd.k (AV.fn Mode.pure 20 [] []), Opd.t 21], Ins.mk (some 4) none Act.mv [Opd.t 22]]) CC.ret) CC.skip)))))
          (CC.seq (CC.fgt [2, 3, 4])
            (CC.seq
              (CC.reg none
                [Ins.mk (some 23) none (Act.load (some 2)) [Opd.t 2], Ins.mk (some 24) none (Act.load (some 2)) [Opd.t 3], Ins.mk (some 25) none (Act.bslT 26 2 [DV.int IntKind.i64 (Int.ofNat 0), DV.int IntKind.i64 (Int.ofNat 0)] 2 [0, 1]) [Opd.t 23, Opd.t 24],
                  Ins.mk (some 26) none (Act.call false) [Opd.k (AV.fn Mode.pure 107 [] []), Opd.t 25], Ins.mk (some 4) none Act.mv [Opd.t 26]])
              CC.ret)))))
    [RV.tmp 4]
theorem code49_ok : F0 49 = some (.code code49) := by kernel_rfl
def code50 : CFn :=
  CFn.mk
    (CC.seq (CC.reg none [Ins.mk (some 2) none (Act.box 26) [Opd.t 0], Ins.mk (some 3) none (Act.box 26) [Opd.t 1], Ins.mk (some 4) none Act.mv [Opd.k (AV.d (DV.str []))]])
      (CC.seq
        (CC.seq
          (CC.reg none
            [Ins.mk (some 5) none (Act.load (some 2)) [Opd.t 2], Ins.mk (some 6) none (Act.call false) [Opd.k (AV.fn Mode.pure 36 [] []), Opd.t 5, Opd.k (AV.d (DV.int IntKind.i64 (Int.ofNat 1)))], Ins.mk (some 7) none (Act.un UnOp.not) [Opd.t 6], Ins.mk (some 8) none Act.mv [Opd.t 7],
              Ins.mk (some 9) (some (8, false)) (Act.load (some 2)) [Opd.t 3], Ins.mk (some 10) (some (8, false)) (Act.call false) [Opd.k (AV.fn Mode.pure 36 [] []), Opd.t 9, Opd.k (AV.d (DV.int IntKind.i64 (Int.ofNat 1)))], Ins.mk (some 11) (some (8, false)) (Act.un UnOp.not) [Opd.t 10],
              Ins.mk (some 12) none Act.pick [Opd.t 8, Opd.k (AV.d (DV.bool true)), Opd.t 11]])
          (CC.cond (Opd.t 12) (CC.seq (CC.reg none [Ins.mk (some 4) none Act.mv [Opd.k (AV.d (DV.str []))]]) CC.ret) CC.skip))
        (CC.seq (CC.fgt [2, 3, 4])
          (CC.seq
            (CC.seq (CC.reg none [Ins.mk (some 13) none (Act.load (some 2)) [Opd.t 2], Ins.mk (some 14) none (Act.load (some 2)) [Opd.t 3], Ins.mk (some 15) none (Act.bin BinOp.eql (EqK.cells 2 [(0, 1), (1, 1)])) [Opd.t 13, Opd.t 14]])
              (CC.cond (Opd.t 15) (CC.seq (CC.reg none [Ins.mk (some 16) none (Act.load (some 2)) [Opd.t 2], Ins.mk (some 17) none (Act.call false) [Opd.k (AV.fn Mode.pure 37 [] []), Opd.t 16], Ins.mk (some 4) none Act.mv [Opd.t 17]]) CC.ret) CC.skip))
            (CC.seq (CC.fgt [2, 3, 4])
              (CC.seq
                (CC.reg (some [])
                  [Ins.mk (some 18) none (Act.load (some 2)) [Opd.t 2], Ins.mk (some 19) none (Act.call true) [Opd.k (AV.fn Mode.pure 37 [] []), Opd.t 18], Ins.mk (some 20) none (Act.bin BinOp.add (EqK.nil 10)) [Opd.t 19, Opd.k (AV.d (DV.str [UInt8.ofNat 32]))],
                    Ins.mk (some 21) none (Act.load (some 2)) [Opd.t 3], Ins.mk (some 22) none (Act.call true) [Opd.k (AV.fn Mode.pure 37 [] []), Opd.t 21], Ins.mk (some 23) none (Act.bin BinOp.add (EqK.nil 10)) [Opd.t 20, Opd.t 22], Ins.mk (some 4) none Act.mv [Opd.t 23]])
                CC.ret))))))
    [RV.tmp 4]
theorem code50_ok : F0 50 = some (.code code50) := by kernel_rfl
def code8 : CFn :=
  CFn.mk
    (CC.seq (CC.reg none [Ins.mk (some 5) none (Act.box 27) [Opd.t 0], Ins.mk (some 6) none (Act.box 26) [Opd.t 1], Ins.mk (some 7) none (Act.box 26) [Opd.t 2], Ins.mk (some 10) none Act.mv [Opd.k (AV.d (DV.bool false))]])
      (CC.seq
        (CC.reg (some [])
          [Ins.mk (some 11) none (Act.load (some 8)) [Opd.t 5], Ins.mk (some 12) none (Act.call true) [Opd.k (AV.fn Mode.pure 45 [] []), Opd.t 11], Ins.mk (some 13) none (Act.load (some 8)) [Opd.t 5], Ins.mk (some 14) none (Act.call true) [Opd.k (AV.fn Mode.pure 46 [] []), Opd.t 13],
            Ins.mk (some 15) none (Act.bin BinOp.eql EqK.bool) [Opd.t 12, Opd.t 14], Ins.mk (some 16) none Act.mv [Opd.t 15], Ins.mk (some 17) (some (16, true)) (Act.load (some 8)) [Opd.t 5], Ins.mk (some 18) (some (16, true)) (Act.call true) [Opd.k (AV.fn Mode.pure 47 [] []), Opd.t 17],
            Ins.mk (some 19) (some (16, true)) (Act.load (some 8)) [Opd.t 5], Ins.mk (some 20) (some (16, true)) (Act.call true) [Opd.k (AV.fn Mode.pure 48 [] []), Opd.t 19], Ins.mk (some 21) (some (16, true)) (Act.bin BinOp.eql (EqK.nil 10)) [Opd.t 18, Opd.t 20],
            Ins.mk (some 22) none Act.pick [Opd.t 16, Opd.t 21, Opd.k (AV.d (DV.bool false))], Ins.mk (some 23) none Act.mv [Opd.t 22], Ins.mk (some 24) (some (23, true)) (Act.load (some 2)) [Opd.t 6], Ins.mk (some 25) (some (23, true)) (Act.load (some 2)) [Opd.t 7],
            Ins.mk (some 26) (some (23, true)) (Act.call true) [Opd.k (AV.fn Mode.pure 49 [] []), Opd.t 24, Opd.t 25], Ins.mk (some 27) (some (23, true)) (Act.load (some 2)) [Opd.t 6], Ins.mk (some 28) (some (23, true)) (Act.load (some 2)) [Opd.t 7],
            Ins.mk (some 29) (some (23, true)) (Act.call true) [Opd.k (AV.fn Mode.pure 50 [] []), Opd.t 27, Opd.t 28], Ins.mk (some 30) (some (23, true)) (Act.bin BinOp.eql (EqK.nil 10)) [Opd.t 26, Opd.t 29], Ins.mk (some 31) none Act.pick [Opd.t 23, Opd.t 30, Opd.k (AV.d (DV.bool false))],
            Ins.mk (some 32) none Act.mv [Opd.t 31], Ins.mk (some 33) (some (32, true)) Act.mv [Opd.t 3], Ins.mk (some 34) (some (32, true)) Act.mv [Opd.t 4], Ins.mk (some 35) (some (32, true)) (Act.call true) [Opd.k (AV.fn Mode.pure 51 [] []), Opd.t 33, Opd.t 34],
            Ins.mk (some 36) (some (32, true)) Act.mv [Opd.t 3], Ins.mk (some 37) (some (32, true)) Act.mv [Opd.t 4], Ins.mk (some 38) (some (32, true)) (Act.call true) [Opd.k (AV.fn Mode.pure 52 [] []), Opd.t 36, Opd.t 37],
            Ins.mk (some 39) (some (32, true)) (Act.bin BinOp.eql EqK.bool) [Opd.t 35, Opd.t 38], Ins.mk (some 40) none Act.pick [Opd.t 32, Opd.t 39, Opd.k (AV.d (DV.bool false))], Ins.mk (some 41) none Act.mv [Opd.t 40], Ins.mk (some 42) (some (41, true)) Act.mv [Opd.t 3],
            Ins.mk (some 43) (some (41, true)) (Act.call true) [Opd.k (AV.fn Mode.pure 53 [] []), Opd.t 42], Ins.mk (some 44) (some (41, true)) Act.mv [Opd.t 3], Ins.mk (some 45) (some (41, true)) (Act.call true) [Opd.k (AV.fn Mode.pure 54 [] []), Opd.t 44],
            Ins.mk (some 46) (some (41, true)) (Act.bin BinOp.eql (EqK.nil 10)) [Opd.t 43, Opd.t 45], Ins.mk (some 47) none Act.pick [Opd.t 41, Opd.t 46, Opd.k (AV.d (DV.bool false))], Ins.mk (some 48) none Act.mv [Opd.t 47],
            Ins.mk (some 49) (some (48, true)) (Act.call true) [Opd.k (AV.fn Mode.pure 11 [] [])], Ins.mk (some 50) none Act.pick [Opd.t 48, Opd.t 49, Opd.k (AV.d (DV.bool false))], Ins.mk (some 10) none Act.mv [Opd.t 50]])
        CC.ret))
    [RV.tmp 10]
theorem code8_ok : F0 8 = some (.code code8) := by kernel_rfl
def code7 : CFn :=
  CFn.mk
    (CC.seq (CC.reg none [Ins.mk (some 4) none Act.mv [Opd.k (AV.d (DV.bool false))]])
      (CC.seq
        (CC.seq
          (CC.reg none
            [Ins.mk (some 5) none Act.mv [Opd.t 0], Ins.mk (some 6) none (Act.call false) [Opd.k (AV.fn Mode.pure 38 [] []), Opd.t 5], Ins.mk (some 7) none (Act.un UnOp.not) [Opd.t 6], Ins.mk (some 8) none Act.mv [Opd.t 7], Ins.mk (some 9) (some (8, false)) Act.mv [Opd.t 1],
              Ins.mk (some 10) (some (8, false)) (Act.call false) [Opd.k (AV.fn Mode.pure 38 [] []), Opd.t 9], Ins.mk (some 11) (some (8, false)) (Act.un UnOp.not) [Opd.t 10], Ins.mk (some 12) none Act.pick [Opd.t 8, Opd.k (AV.d (DV.bool true)), Opd.t 11]])
          (CC.cond (Opd.t 12) (CC.seq (CC.reg none [Ins.mk (some 13) none (Act.call false) [Opd.k (AV.fn Mode.pure 11 [] [])], Ins.mk (some 4) none Act.mv [Opd.t 13]]) CC.ret) CC.skip))
        (CC.seq (CC.fgt [0, 1, 4])
          (CC.seq
            (CC.reg none
              [Ins.mk (some 14) none Act.mv [Opd.t 0], Ins.mk (some 15) none (Act.call false) [Opd.k (AV.fn Mode.pure 39 [] []), Opd.t 14], Ins.mk (some 16) none Act.mv [Opd.t 0], Ins.mk (some 17) none (Act.call false) [Opd.k (AV.fn Mode.pure 40 [] []), Opd.t 16],
                Ins.mk (some 18) none (Act.bin BinOp.eql EqK.bool) [Opd.t 15, Opd.t 17], Ins.mk (some 19) none Act.mv [Opd.t 18], Ins.mk (some 20) (some (19, true)) Act.mv [Opd.t 0], Ins.mk (some 21) (some (19, true)) (Act.call false) [Opd.k (AV.fn Mode.pure 41 [] []), Opd.t 20],
                Ins.mk (some 22) (some (19, true)) Act.mv [Opd.t 0], Ins.mk (some 23) (some (19, true)) (Act.call false) [Opd.k (AV.fn Mode.pure 42 [] []), Opd.t 22], Ins.mk (some 24) (some (19, true)) (Act.bin BinOp.eql (EqK.nil 10)) [Opd.t 21, Opd.t 23],
                Ins.mk (some 25) none Act.pick [Opd.t 19, Opd.t 24, Opd.k (AV.d (DV.bool false))], Ins.mk (some 26) none Act.mv [Opd.t 25], Ins.mk (some 27) (some (26, true)) Act.mv [Opd.t 0], Ins.mk (some 28) (some (26, true)) Act.mv [Opd.t 1],
                Ins.mk (some 29) (some (26, true)) (Act.call false) [Opd.k (AV.fn Mode.pure 43 [] []), Opd.t 27, Opd.t 28], Ins.mk (some 30) (some (26, true)) Act.mv [Opd.t 0], Ins.mk (some 31) (some (26, true)) Act.mv [Opd.t 1],
                Ins.mk (some 32) (some (26, true)) (Act.call false) [Opd.k (AV.fn Mode.pure 44 [] []), Opd.t 30, Opd.t 31], Ins.mk (some 33) (some (26, true)) (Act.bin BinOp.eql EqK.bool) [Opd.t 29, Opd.t 32], Ins.mk (some 34) none Act.pick [Opd.t 26, Opd.t 33, Opd.k (AV.d (DV.bool false))],
                Ins.mk (some 35) none Act.mv [Opd.t 34], Ins.mk (some 36) (some (35, true)) Act.mv [Opd.t 0], Ins.mk (some 37) (some (35, true)) Act.mv [Opd.t 0], Ins.mk (some 38) (some (35, true)) (Act.call false) [Opd.k (AV.fn Mode.pure 43 [] []), Opd.t 36, Opd.t 37],
                Ins.mk (some 39) none Act.pick [Opd.t 35, Opd.t 38, Opd.k (AV.d (DV.bool false))], Ins.mk (some 40) none Act.mv [Opd.t 39], Ins.mk (some 41) (some (40, true)) (Act.call false) [Opd.k (AV.fn Mode.pure 11 [] [])],
                Ins.mk (some 42) none Act.pick [Opd.t 40, Opd.t 41, Opd.k (AV.d (DV.bool false))], Ins.mk (some 4) none Act.mv [Opd.t 42]])
            CC.ret))))
    [RV.tmp 4]
theorem code7_ok : F0 7 = some (.code code7) := by kernel_rfl
def code44 : CFn :=
  CFn.mk
    (CC.seq (CC.reg none [Ins.mk (some 4) none Act.mv [Opd.k (AV.d (DV.bool false))]])
      (CC.seq
        (CC.seq (CC.reg none [Ins.mk (some 7) none Act.mv [Opd.t 0], Ins.mk (some 8) none Act.len [Opd.t 7], Ins.mk (some 9) none Act.mv [Opd.t 1], Ins.mk (some 10) none Act.len [Opd.t 9], Ins.mk (some 11) none (Act.bin BinOp.neq (EqK.nil 10)) [Opd.t 8, Opd.t 10]])
          (CC.cond (Opd.t 11) (CC.seq (CC.reg none [Ins.mk (some 4) none Act.mv [Opd.k (AV.d (DV.bool false))]]) CC.ret) CC.skip))
        (CC.seq (CC.fgt [0, 1, 4])
          (CC.seq
            (CC.seq (CC.reg none [Ins.mk (some 5) none Act.mv [Opd.k (AV.d (DV.int IntKind.i64 (Int.ofNat 0)))]])
              (CC.block 0
                (CC.loop [0, 1, 4, 5]
                  (CC.seq (CC.seq (CC.reg none [Ins.mk (some 12) none Act.mv [Opd.t 5], Ins.mk (some 13) none Act.mv [Opd.t 0], Ins.mk (some 14) none Act.len [Opd.t 13], Ins.mk (some 15) none (Act.bin BinOp.lss (EqK.nil 10)) [Opd.t 12, Opd.t 14]]) (CC.cond (Opd.t 15) CC.skip (CC.exit 0)))
                    (CC.seq (CC.fgt [0, 1, 4, 5])
                      (CC.seq
                        (CC.block 1
                          (CC.seq
                            (CC.seq
                              (CC.reg (some [])
                                [Ins.mk (some 18) none Act.mv [Opd.t 0], Ins.mk (some 19) none Act.mv [Opd.t 5], Ins.mk (some 20) none (Act.iad 1) [Opd.t 18, Opd.t 19], Ins.mk (some 21) none (Act.load none) [Opd.t 20], Ins.mk (some 22) none Act.len [Opd.t 21], Ins.mk (some 23) none Act.mv [Opd.t 1],
                                  Ins.mk (some 24) none Act.mv [Opd.t 5], Ins.mk (some 25) none (Act.iad 1) [Opd.t 23, Opd.t 24], Ins.mk (some 26) none (Act.load none) [Opd.t 25], Ins.mk (some 27) none Act.len [Opd.t 26], Ins.mk (some 28) none (Act.bin BinOp.neq (EqK.nil 10)) [Opd.t 22, Opd.t 27]])
                              (CC.cond (Opd.t 28) (CC.seq (CC.reg none [Ins.mk (some 4) none Act.mv [Opd.k (AV.d (DV.bool false))]]) CC.ret) CC.skip))
                            (CC.seq (CC.fgt [0, 1, 4, 5])
                              (CC.seq (CC.reg none [Ins.mk (some 6) none Act.mv [Opd.k (AV.d (DV.int IntKind.i64 (Int.ofNat 0)))]])
                                (CC.block 2
                                  (CC.loop [0, 1, 4, 5, 6]
                                    (CC.seq
                                      (CC.seq
                                        (CC.reg none
                                          [Ins.mk (some 29) none Act.mv [Opd.t 6], Ins.mk (some 30) none Act.mv [Opd.t 0], Ins.mk (some 31) none Act.mv [Opd.t 5], Ins.mk (some 32) none (Act.iad 1) [Opd.t 30, Opd.t 31], Ins.mk (some 33) none (Act.load none) [Opd.t 32],
                                            Ins.mk (some 34) none Act.len [Opd.t 33], Ins.mk (some 35) none (Act.bin BinOp.lss (EqK.nil 10)) [Opd.t 29, Opd.t 34]])
                                        (CC.cond (Opd.t 35) CC.skip (CC.exit 2)))
                                      (CC.seq (CC.fgt [0, 1, 4, 5, 6])
                                        (CC.seq
                                          (CC.block 3
                                            (CC.seq
                                              (CC.reg (some [])
                                                [Ins.mk (some 38) none Act.mv [Opd.t 0], Ins.mk (some 39) none Act.mv [Opd.t 5], Ins.mk (some 40) none (Act.iad 1) [Opd.t 38, Opd.t 39], Ins.mk (some 41) none (Act.load none) [Opd.t 40], Ins.mk (some 42) none Act.mv [Opd.t 6],
                                                  Ins.mk (some 43) none (Act.iad 2) [Opd.t 41, Opd.t 42], Ins.mk (some 44) none (Act.load (some 2)) [Opd.t 43], Ins.mk (some 45) none Act.mv [Opd.t 1], Ins.mk (some 46) none Act.mv [Opd.t 5], Ins.mk (some 47) none (Act.iad 1) [Opd.t 45, Opd.t 46],
                                                  Ins.mk (some 48) none (Act.load none) [Opd.t 47], Ins.mk (some 49) none Act.mv [Opd.t 6], Ins.mk (some 50) none (Act.iad 2) [Opd.t 48, Opd.t 49], Ins.mk (some 51) none (Act.load (some 2)) [Opd.t 50],
                                                  Ins.mk (some 52) none (Act.bin BinOp.neq (EqK.cells 2 [(0, 1), (1, 1)])) [Opd.t 44, Opd.t 51]])
                                              (CC.cond (Opd.t 52) (CC.seq (CC.reg none [Ins.mk (some 4) none Act.mv [Opd.k (AV.d (DV.bool false))]]) CC.ret) CC.skip)))
                                          (CC.seq (CC.fgt [0, 1, 4, 5, 6]) (CC.reg none [Ins.mk (some 36) none Act.mv [Opd.t 6], Ins.mk (some 37) none (Act.bin BinOp.add (EqK.nil 10)) [Opd.t 36, Opd.k (AV.d (DV.int IntKind.i64 (Int.ofNat 1)))], Ins.mk (some 6) none Act.mv [Opd.t 37]])))))))))))
                        (CC.seq (CC.fgt [0, 1, 4, 5]) (CC.reg none [Ins.mk (some 16) none Act.mv [Opd.t 5], Ins.mk (some 17) none (Act.bin BinOp.add (EqK.nil 10)) [Opd.t 16, Opd.k (AV.d (DV.int IntKind.i64 (Int.ofNat 1)))], Ins.mk (some 5) none Act.mv [Opd.t 17]]))))))))
            (CC.seq (CC.fgt [4]) (CC.seq (CC.reg none [Ins.mk (some 4) none Act.mv [Opd.k (AV.d (DV.bool true))]]) CC.ret))))))
    [RV.tmp 4]
theorem code44_ok : F0 44 = some (.code code44) := by kernel_rfl
def code103 : CFn :=
  CFn.mk
    (CC.seq (CC.reg none [Ins.mk (some 2) none (Act.box 90) [Opd.t 0], Ins.mk (some 3) none (Act.box 90) [Opd.t 1], Ins.mk (some 4) none Act.mv [Opd.k (AV.d (DV.bool false))]])
      (CC.seq (CC.reg none [Ins.mk (some 5) none (Act.load (some 2)) [Opd.t 2], Ins.mk (some 6) none (Act.load (some 2)) [Opd.t 3], Ins.mk (some 7) none (Act.bin BinOp.eql (EqK.cells 2 [(0, 1), (1, 1)])) [Opd.t 5, Opd.t 6], Ins.mk (some 4) none Act.mv [Opd.t 7]]) CC.ret))
    [RV.tmp 4]
theorem code103_ok : F0 103 = some (.code code103) := by kernel_rfl
def code47 : CFn :=
  CFn.mk
    (CC.seq (CC.reg none [Ins.mk (some 1) none (Act.box 27) [Opd.t 0], Ins.mk (some 2) none Act.mv [Opd.k (AV.d (DV.str []))]])
      (CC.seq
        (CC.seq (CC.reg none [Ins.mk (some 4) none (Act.load (some 8)) [Opd.t 1], Ins.mk (some 5) none (Act.call false) [Opd.k (AV.fn Mode.pure 45 [] []), Opd.t 4], Ins.mk (some 6) none (Act.un UnOp.not) [Opd.t 5]])
          (CC.cond (Opd.t 6) (CC.seq (CC.reg none [Ins.mk (some 2) none Act.mv [Opd.k (AV.d (DV.str []))]]) CC.ret) CC.skip))
        (CC.seq (CC.fgt [1, 2])
          (CC.seq (CC.reg none [Ins.mk (some 3) none Act.mv [Opd.k (AV.d (DV.int IntKind.i64 (Int.ofNat 1)))]])
            (CC.seq
              (CC.block 0
                (CC.loop [1, 2, 3]
                  (CC.seq
                    (CC.seq
                      (CC.reg (some [])
                        [Ins.mk (some 7) none Act.mv [Opd.t 3], Ins.mk (some 8) none (Act.bin BinOp.lss (EqK.nil 10)) [Opd.t 7, Opd.k (AV.d (DV.int IntKind.i64 (Int.ofNat 4)))], Ins.mk (some 9) none Act.mv [Opd.t 8], Ins.mk (some 10) (some (9, true)) Act.mv [Opd.t 3],
                          Ins.mk (some 11) (some (9, true)) (Act.cuta 4 2 false true) [Opd.t 1, Opd.t 10], Ins.mk (some 12) (some (9, true)) (Act.call true) [Opd.k (AV.fn Mode.pure 59 [] []), Opd.t 11], Ins.mk (some 13) (some (9, true)) (Act.load (some 8)) [Opd.t 1],
                          Ins.mk (some 14) (some (9, true)) (Act.bin BinOp.neq (EqK.cells 8 [(0, 1), (1, 1), (2, 1), (3, 1), (4, 1), (5, 1), (6, 1), (7, 1)])) [Opd.t 12, Opd.t 13], Ins.mk (some 15) none Act.pick [Opd.t 9, Opd.t 14, Opd.k (AV.d (DV.bool false))]])
                      (CC.cond (Opd.t 15) CC.skip (CC.exit 0)))
                    (CC.seq (CC.fgt [1, 2, 3]) (CC.block 1 (CC.reg none [Ins.mk (some 16) none Act.mv [Opd.t 3], Ins.mk (some 17) none (Act.bin BinOp.add (EqK.nil 10)) [Opd.t 16, Opd.k (AV.d (DV.int IntKind.i64 (Int.ofNat 1)))], Ins.mk (some 3) none Act.mv [Opd.t 17]]))))))
              (CC.seq (CC.fgt [1, 2, 3])
                (CC.seq (CC.reg none [Ins.mk (some 18) none Act.mv [Opd.t 3], Ins.mk (some 19) none (Act.cuta 4 2 false true) [Opd.t 1, Opd.t 18], Ins.mk (some 20) none (Act.call false) [Opd.k (AV.fn Mode.pure 107 [] []), Opd.t 19], Ins.mk (some 2) none Act.mv [Opd.t 20]]) CC.ret)))))))
    [RV.tmp 2]
theorem code47_ok : F0 47 = some (.code code47) := by kernel_rfl
def code45 : CFn :=
  CFn.mk
    (CC.seq (CC.reg none [Ins.mk (some 1) none (Act.box 27) [Opd.t 0], Ins.mk (some 2) none Act.mv [Opd.k (AV.d (DV.bool false))]])
      (CC.seq
        (CC.seq (CC.reg none [Ins.mk (some 5) none (Act.load (some 8)) [Opd.t 1], Ins.mk (some 6) none Act.mv [Opd.k (AV.d (DV.int IntKind.i64 (Int.ofNat 0)))]])
          (CC.block 0
            (CC.loop [2, 5, 6]
              (CC.seq (CC.reg none [Ins.mk (some 7) none (Act.bin BinOp.lss (EqK.nil 10)) [Opd.t 6, Opd.k (AV.d (DV.int IntKind.i64 (Int.ofNat 4)))]])
                (CC.seq (CC.cond (Opd.t 7) CC.skip (CC.exit 0))
                  (CC.seq (CC.fgt [2, 5, 6])
                    (CC.seq
                      (CC.block 1
                        (CC.seq (CC.reg none [Ins.mk (some 8) none (Act.idxA 4 2 (some 2)) [Opd.t 5, Opd.t 6], Ins.mk (some 4) none (Act.new 26 [AV.d (DV.int IntKind.i64 (Int.ofNat 0)), AV.d (DV.int IntKind.i64 (Int.ofNat 0))]) [], Ins.mk none none (Act.storeT 2) [Opd.t 4, Opd.t 8]])
                          (CC.seq (CC.reg none [Ins.mk (some 9) none (Act.load (some 2)) [Opd.t 4], Ins.mk (some 10) none (Act.call false) [Opd.k (AV.fn Mode.pure 21 [] []), Opd.t 9, Opd.k (AV.d (DV.int IntKind.i64 (Int.ofNat 7)))], Ins.mk (some 11) none (Act.un UnOp.not) [Opd.t 10]])
                            (CC.cond (Opd.t 11) (CC.seq (CC.reg none [Ins.mk (some 2) none Act.mv [Opd.k (AV.d (DV.bool false))]]) CC.ret) CC.skip))))
                      (CC.seq (CC.fgt [2, 5, 6]) (CC.reg none [Ins.mk (some 12) none (Act.bin BinOp.add (EqK.nil 10)) [Opd.t 6, Opd.k (AV.d (DV.int IntKind.i64 (Int.ofNat 1)))], Ins.mk (some 6) none Act.mv [Opd.t 12]])))))))))
        (CC.seq (CC.fgt [2]) (CC.seq (CC.reg none [Ins.mk (some 2) none Act.mv [Opd.k (AV.d (DV.bool true))]]) CC.ret))))
    [RV.tmp 2]
theorem code45_ok : F0 45 = some (.code code45) := by kernel_rfl
def code46 : CFn :=
  CFn.mk
    (CC.seq (CC.reg none [Ins.mk (some 1) none (Act.box 27) [Opd.t 0], Ins.mk (some 2) none Act.mv [Opd.k (AV.d (DV.bool false))]])
      (CC.seq
        (CC.seq (CC.reg none [Ins.mk (some 3) none Act.mv [Opd.k (AV.d (DV.int IntKind.i64 (Int.ofNat 0)))]])
          (CC.block 0
            (CC.loop [1, 2, 3]
              (CC.seq (CC.seq (CC.reg none [Ins.mk (some 4) none Act.mv [Opd.t 3], Ins.mk (some 5) none (Act.bin BinOp.lss (EqK.nil 10)) [Opd.t 4, Opd.k (AV.d (DV.int IntKind.i64 (Int.ofNat 4)))]]) (CC.cond (Opd.t 5) CC.skip (CC.exit 0)))
                (CC.seq (CC.fgt [1, 2, 3])
                  (CC.seq
                    (CC.block 1
                      (CC.seq
                        (CC.reg none
                          [Ins.mk (some 8) none Act.mv [Opd.t 3], Ins.mk (some 9) none (Act.iadA 4 2) [Opd.t 1, Opd.t 8], Ins.mk (some 10) none (Act.load (some 2)) [Opd.t 9],
                            Ins.mk (some 11) none (Act.call false) [Opd.k (AV.fn Mode.pure 36 [] []), Opd.t 10, Opd.k (AV.d (DV.int IntKind.i64 (Int.ofNat 7)))], Ins.mk (some 12) none (Act.un UnOp.not) [Opd.t 11]])
                        (CC.cond (Opd.t 12) (CC.seq (CC.reg none [Ins.mk (some 2) none Act.mv [Opd.k (AV.d (DV.bool false))]]) CC.ret) CC.skip)))
                    (CC.seq (CC.fgt [1, 2, 3]) (CC.reg none [Ins.mk (some 6) none Act.mv [Opd.t 3], Ins.mk (some 7) none (Act.bin BinOp.add (EqK.nil 10)) [Opd.t 6, Opd.k (AV.d (DV.int IntKind.i64 (Int.ofNat 1)))], Ins.mk (some 3) none Act.mv [Opd.t 7]]))))))))
        (CC.seq (CC.fgt [2]) (CC.seq (CC.reg none [Ins.mk (some 2) none Act.mv [Opd.k (AV.d (DV.bool true))]]) CC.ret))))
    [RV.tmp 2]
theorem code46_ok : F0 46 = some (.code code46) := by kernel_rfl
def code107 : CFn :=
  CFn.mk
    (CC.seq (CC.reg none [Ins.mk (some 2) none Act.mv [Opd.k (AV.d (DV.str []))]])
      (CC.seq (CC.reg none [Ins.mk (some 3) none Act.mv [Opd.k (AV.d DV.nilsl)]])
        (CC.seq
          (CC.seq (CC.reg none [Ins.mk (some 6) none Act.mv [Opd.t 0], Ins.mk (some 7) none Act.len [Opd.t 6], Ins.mk (some 8) none Act.mv [Opd.k (AV.d (DV.int IntKind.i64 (Int.ofNat 0)))]])
            (CC.block 0
              (CC.loop [2, 3, 6, 7, 8]
                (CC.seq (CC.reg none [Ins.mk (some 9) none (Act.bin BinOp.lss (EqK.nil 10)) [Opd.t 8, Opd.t 7]])
                  (CC.seq (CC.cond (Opd.t 9) CC.skip (CC.exit 0))
                    (CC.seq (CC.fgt [2, 3, 6, 7, 8])
                      (CC.seq
                        (CC.block 1
                          (CC.seq
                            (CC.reg none
                              [Ins.mk (some 10) none (Act.iad 2) [Opd.t 6, Opd.t 8], Ins.mk (some 11) none (Act.load (some 2)) [Opd.t 10], Ins.mk (some 5) none (Act.new 26 [AV.d (DV.int IntKind.i64 (Int.ofNat 0)), AV.d (DV.int IntKind.i64 (Int.ofNat 0))]) [],
                                Ins.mk none none (Act.storeT 2) [Opd.t 5, Opd.t 11]])
                            (CC.reg none
                              [Ins.mk (some 12) none Act.mv [Opd.t 3], Ins.mk (some 13) none (Act.load (some 2)) [Opd.t 5], Ins.mk (some 14) none (Act.call false) [Opd.k (AV.fn Mode.pure 20 [] []), Opd.t 13], Ins.mk (some 15) none (Act.bslT 9 1 [DV.str []] 1 [0]) [Opd.t 14],
                                Ins.mk (some 16) none (Act.app 9 1 16) [Opd.t 12, Opd.t 15], Ins.mk (some 3) none Act.mv [Opd.t 16]])))
                        (CC.seq (CC.fgt [2, 3, 6, 7, 8]) (CC.reg none [Ins.mk (some 17) none (Act.bin BinOp.add (EqK.nil 10)) [Opd.t 8, Opd.k (AV.d (DV.int IntKind.i64 (Int.ofNat 1)))], Ins.mk (some 8) none Act.mv [Opd.t 17]])))))))))
          (CC.seq (CC.fgt [2, 3]) (CC.seq (CC.reg none [Ins.mk (some 18) none Act.mv [Opd.t 3], Ins.mk (some 19) none (Act.call false) [Opd.k (AV.fn Mode.pure 102 [] []), Opd.t 18, Opd.k (AV.d (DV.str [UInt8.ofNat 32]))], Ins.mk (some 2) none Act.mv [Opd.t 19]]) CC.ret)))))
    [RV.tmp 2]
theorem code107_ok : F0 107 = some (.code code107) := by kernel_rfl
def code108 : CFn :=
  CFn.mk
    (CC.seq (CC.reg none [Ins.mk (some 1) none (Act.box 26) [Opd.t 0], Ins.mk (some 2) none Act.mv [Opd.k (AV.d (DV.bool false))]])
      (CC.seq (CC.reg none [Ins.mk (some 3) none (Act.load (some 2)) [Opd.t 1], Ins.mk (some 4) none (Act.call false) [Opd.k (AV.fn Mode.pure 21 [] []), Opd.t 3, Opd.k (AV.d (DV.int IntKind.i64 (Int.ofNat 1)))], Ins.mk (some 2) none Act.mv [Opd.t 4]]) CC.ret))
    [RV.tmp 2]
theorem code108_ok : F0 108 = some (.code code108) := by kernel_rfl
def code54 : CFn :=
  CFn.mk
    (CC.seq (CC.reg none [Ins.mk (some 2) none Act.mv [Opd.k (AV.d (DV.str []))]])
      (CC.seq
        (CC.seq
          (CC.reg none
            [Ins.mk (some 3) none Act.mv [Opd.t 0], Ins.mk (some 4) none (Act.bin BinOp.lss (EqK.nil 10)) [Opd.t 3, Opd.k (AV.d (DV.int IntKind.i64 (Int.ofNat 1)))], Ins.mk (some 5) none Act.mv [Opd.t 4], Ins.mk (some 6) (some (5, false)) Act.mv [Opd.t 0],
              Ins.mk (some 7) (some (5, false)) (Act.bin BinOp.gtr (EqK.nil 10)) [Opd.t 6, Opd.k (AV.d (DV.int IntKind.i64 (Int.ofNat 9)))], Ins.mk (some 8) none Act.pick [Opd.t 5, Opd.k (AV.d (DV.bool true)), Opd.t 7]])
          (CC.cond (Opd.t 8) (CC.seq (CC.reg none [Ins.mk (some 2) none Act.mv [Opd.k (AV.d (DV.str []))]]) CC.ret) CC.skip))
        (CC.seq (CC.fgt [0, 2])
          (CC.seq
            (CC.reg none
              [Ins.mk (some 9) none (Act.call false) [Opd.k (AV.fn Mode.pure 64 [] [])], Ins.mk (some 10) none Act.mv [Opd.t 0], Ins.mk (some 11) none (Act.bin BinOp.sub (EqK.nil 10)) [Opd.t 10, Opd.k (AV.d (DV.int IntKind.i64 (Int.ofNat 1)))], Ins.mk (some 12) none (Act.iad 1) [Opd.t 9, Opd.t 11],
                Ins.mk (some 13) none (Act.load none) [Opd.t 12], Ins.mk (some 2) none Act.mv [Opd.t 13]])
            CC.ret))))
    [RV.tmp 2]
theorem code54_ok : F0 54 = some (.code code54) := by kernel_rfl
def code39 : CFn :=
  CFn.mk
    (CC.seq (CC.reg none [Ins.mk (some 2) none Act.mv [Opd.k (AV.d (DV.bool false))]])
      (CC.seq (CC.reg none [Ins.mk (some 3) none Act.mv [Opd.k (AV.d (DV.int IntKind.i64 (Int.ofNat 256)))]])
        (CC.seq (CC.reg none [Ins.mk (some 4) none Act.mv [Opd.k (AV.fn Mode.pure 99 [] [])]])
          (CC.seq
            (CC.seq (CC.reg none [Ins.mk (some 9) none Act.mv [Opd.t 0], Ins.mk (some 10) none Act.len [Opd.t 9], Ins.mk (some 11) none Act.mv [Opd.k (AV.d (DV.int IntKind.i64 (Int.ofNat 0)))]])
              (CC.block 0
                (CC.loop [2, 3, 4, 9, 10, 11]
                  (CC.seq (CC.reg none [Ins.mk (some 12) none (Act.bin BinOp.lss (EqK.nil 10)) [Opd.t 11, Opd.t 10]])
                    (CC.seq (CC.cond (Opd.t 12) CC.skip (CC.exit 0))
                      (CC.seq (CC.fgt [2, 3, 4, 9, 10, 11])
                        (CC.seq
                          (CC.block 1
                            (CC.seq (CC.reg none [Ins.mk (some 13) none (Act.iad 1) [Opd.t 9, Opd.t 11], Ins.mk (some 14) none (Act.load none) [Opd.t 13], Ins.mk (some 6) none Act.mv [Opd.t 14]])
                              (CC.seq
                                (CC.seq
                                  (CC.reg none
                                    [Ins.mk (some 15) none Act.mv [Opd.t 6], Ins.mk (some 16) none Act.len [Opd.t 15], Ins.mk (some 17) none (Act.bin BinOp.eql (EqK.nil 10)) [Opd.t 16, Opd.k (AV.d (DV.int IntKind.i64 (Int.ofNat 0)))], Ins.mk (some 18) none Act.mv [Opd.t 17],
                                      Ins.mk (some 19) (some (18, false)) Act.mv [Opd.t 6], Ins.mk (some 20) (some (18, false)) Act.len [Opd.t 19], Ins.mk (some 21) (some (18, false)) Act.mv [Opd.t 3], Ins.mk (some 22) (some (18, false)) (Act.bin BinOp.gtr (EqK.nil 10)) [Opd.t 20, Opd.t 21],
                                      Ins.mk (some 23) none Act.pick [Opd.t 18, Opd.k (AV.d (DV.bool true)), Opd.t 22]])
                                  (CC.cond (Opd.t 23) (CC.seq (CC.reg none [Ins.mk (some 2) none Act.mv [Opd.k (AV.d (DV.bool false))]]) CC.ret) CC.skip))
                                (CC.seq (CC.fgt [2, 3, 4, 6, 9, 10, 11])
                                  (CC.seq (CC.reg none [Ins.mk (some 24) none Act.mv [Opd.t 3], Ins.mk (some 25) none Act.mv [Opd.t 6], Ins.mk (some 26) none Act.len [Opd.t 25], Ins.mk (some 27) none (Act.bin BinOp.sub (EqK.nil 10)) [Opd.t 24, Opd.t 26], Ins.mk (some 3) none Act.mv [Opd.t 27]])
                                    (CC.seq (CC.reg none [Ins.mk (some 28) none Act.mv [Opd.t 6], Ins.mk (some 29) none Act.len [Opd.t 28], Ins.mk (some 30) none Act.mv [Opd.k (AV.d (DV.int IntKind.i64 (Int.ofNat 0)))]])
                                      (CC.block 2
                                        (CC.loop [2, 3, 4, 9, 10, 11, 28, 29, 30]
                                          (CC.seq (CC.reg none [Ins.mk (some 31) none (Act.bin BinOp.lss (EqK.nil 10)) [Opd.t 30, Opd.t 29]])
                                            (CC.seq (CC.cond (Opd.t 31) CC.skip (CC.exit 2))
                                              (CC.seq (CC.fgt [2, 3, 4, 9, 10, 11, 28, 29, 30])
                                                (CC.seq
                                                  (CC.block 3
                                                    (CC.seq
                                                      (CC.reg none
                                                        [Ins.mk (some 32) none (Act.iad 2) [Opd.t 28, Opd.t 30], Ins.mk (some 33) none (Act.load (some 2)) [Opd.t 32], Ins.mk (some 8) none (Act.new 90 [AV.d (DV.int IntKind.i64 (Int.ofNat 0)), AV.d (DV.int IntKind.i64 (Int.ofNat 0))]) [],
                                                          Ins.mk none none (Act.storeT 2) [Opd.t 8, Opd.t 33]])
                                                      (CC.seq
                                                        (CC.reg none
                                                          [Ins.mk (some 34) none Act.mv [Opd.t 4], Ins.mk (some 35) none (Act.fad 0) [Opd.t 8], Ins.mk (some 36) none (Act.load none) [Opd.t 35], Ins.mk (some 37) none (Act.call false) [Opd.t 34, Opd.t 36],
                                                            Ins.mk (some 38) none (Act.un UnOp.not) [Opd.t 37], Ins.mk (some 39) none Act.mv [Opd.t 38], Ins.mk (some 40) (some (39, false)) Act.mv [Opd.t 4], Ins.mk (some 41) (some (39, false)) (Act.fad 1) [Opd.t 8],
                                                            Ins.mk (some 42) (some (39, false)) (Act.load none) [Opd.t 41], Ins.mk (some 43) (some (39, false)) (Act.call false) [Opd.t 40, Opd.t 42], Ins.mk (some 44) (some (39, false)) (Act.un UnOp.not) [Opd.t 43],
                                                            Ins.mk (some 45) none Act.pick [Opd.t 39, Opd.k (AV.d (DV.bool true)), Opd.t 44]])
                                                        (CC.cond (Opd.t 45) (CC.seq (CC.reg none [Ins.mk (some 2) none Act.mv [Opd.k (AV.d (DV.bool false))]]) CC.ret) CC.skip))))
                                                  (CC.seq (CC.fgt [2, 3, 4, 9, 10, 11, 28, 29, 30]) (CC.reg none [Ins.mk (some 46) none (Act.bin BinOp.add (EqK.nil 10)) [Opd.t 30, Opd.k (AV.d (DV.int IntKind.i64 (Int.ofNat 1)))], Ins.mk (some 30) none Act.mv [Opd.t 46]]))))))))))))))
                          (CC.seq (CC.fgt [2, 3, 4, 9, 10, 11]) (CC.reg none [Ins.mk (some 47) none (Act.bin BinOp.add (EqK.nil 10)) [Opd.t 11, Opd.k (AV.d (DV.int IntKind.i64 (Int.ofNat 1)))], Ins.mk (some 11) none Act.mv [Opd.t 47]])))))))))
            (CC.seq (CC.fgt [2]) (CC.seq (CC.reg none [Ins.mk (some 2) none Act.mv [Opd.k (AV.d (DV.bool true))]]) CC.ret))))))
    [RV.tmp 2]
theorem code39_ok : F0 39 = some (.code code39) := by kernel_rfl
def code99 : CFn :=
  CFn.mk
    (CC.seq (CC.reg none [Ins.mk (some 2) none Act.mv [Opd.k (AV.d (DV.bool false))]])
      (CC.seq
        (CC.reg none
          [Ins.mk (some 3) none Act.mv [Opd.t 0], Ins.mk (some 4) none (Act.bin BinOp.geq (EqK.nil 10)) [Opd.t 3, Opd.k (AV.d (DV.int IntKind.i64 (Int.ofNat 0)))], Ins.mk (some 5) none Act.mv [Opd.t 4], Ins.mk (some 6) (some (5, true)) Act.mv [Opd.t 0],
            Ins.mk (some 7) (some (5, true)) (Act.call false) [Opd.k (AV.fn Mode.pure 100 [] []), Opd.t 6], Ins.mk (some 8) none Act.pick [Opd.t 5, Opd.t 7, Opd.k (AV.d (DV.bool false))], Ins.mk (some 2) none Act.mv [Opd.t 8]])
        CC.ret))
    [RV.tmp 2]
theorem code99_ok : F0 99 = some (.code code99) := by kernel_rfl
def code40 : CFn :=
  CFn.mk
    (CC.seq (CC.reg none [Ins.mk (some 2) none Act.mv [Opd.k (AV.d (DV.bool false))]])
      (CC.seq (CC.reg none [Ins.mk (some 3) none Act.mv [Opd.k (AV.d (DV.int IntKind.i64 (Int.ofNat 0)))]])
        (CC.seq
          (CC.seq (CC.reg none [Ins.mk (some 4) none Act.mv [Opd.k (AV.d (DV.int IntKind.i64 (Int.ofNat 0)))]])
            (CC.block 0
              (CC.loop [0, 2, 3, 4]
                (CC.seq (CC.seq (CC.reg none [Ins.mk (some 7) none Act.mv [Opd.t 4], Ins.mk (some 8) none Act.mv [Opd.t 0], Ins.mk (some 9) none Act.len [Opd.t 8], Ins.mk (some 10) none (Act.bin BinOp.lss (EqK.nil 10)) [Opd.t 7, Opd.t 9]]) (CC.cond (Opd.t 10) CC.skip (CC.exit 0)))
                  (CC.seq (CC.fgt [0, 2, 3, 4])
                    (CC.seq
                      (CC.block 1
                        (CC.seq
                          (CC.seq
                            (CC.reg none
                              [Ins.mk (some 13) none Act.mv [Opd.t 0], Ins.mk (some 14) none Act.mv [Opd.t 4], Ins.mk (some 15) none (Act.iad 1) [Opd.t 13, Opd.t 14], Ins.mk (some 16) none (Act.load none) [Opd.t 15], Ins.mk (some 17) none Act.len [Opd.t 16],
                                Ins.mk (some 18) none (Act.bin BinOp.eql (EqK.nil 10)) [Opd.t 17, Opd.k (AV.d (DV.int IntKind.i64 (Int.ofNat 0)))]])
                            (CC.cond (Opd.t 18) (CC.seq (CC.reg none [Ins.mk (some 2) none Act.mv [Opd.k (AV.d (DV.bool false))]]) CC.ret) CC.skip))
                          (CC.seq (CC.fgt [0, 2, 3, 4])
                            (CC.seq (CC.reg none [Ins.mk (some 5) none Act.mv [Opd.k (AV.d (DV.int IntKind.i64 (Int.ofNat 0)))]])
                              (CC.block 2
                                (CC.loop [0, 2, 3, 4, 5]
                                  (CC.seq
                                    (CC.seq
                                      (CC.reg none
                                        [Ins.mk (some 19) none Act.mv [Opd.t 5], Ins.mk (some 20) none Act.mv [Opd.t 0], Ins.mk (some 21) none Act.mv [Opd.t 4], Ins.mk (some 22) none (Act.iad 1) [Opd.t 20, Opd.t 21], Ins.mk (some 23) none (Act.load none) [Opd.t 22],
                                          Ins.mk (some 24) none Act.len [Opd.t 23], Ins.mk (some 25) none (Act.bin BinOp.lss (EqK.nil 10)) [Opd.t 19, Opd.t 24]])
                                      (CC.cond (Opd.t 25) CC.skip (CC.exit 2)))
                                    (CC.seq (CC.fgt [0, 2, 3, 4, 5])
                                      (CC.seq
                                        (CC.block 3
                                          (CC.seq
                                            (CC.reg none
                                              [Ins.mk (some 28) none Act.mv [Opd.t 0], Ins.mk (some 29) none Act.mv [Opd.t 4], Ins.mk (some 30) none (Act.iad 1) [Opd.t 28, Opd.t 29], Ins.mk (some 31) none (Act.load none) [Opd.t 30], Ins.mk (some 32) none Act.mv [Opd.t 5],
                                                Ins.mk (some 33) none (Act.iad 2) [Opd.t 31, Opd.t 32], Ins.mk (some 34) none (Act.load (some 2)) [Opd.t 33], Ins.mk (some 6) none (Act.new 90 [AV.d (DV.int IntKind.i64 (Int.ofNat 0)), AV.d (DV.int IntKind.i64 (Int.ofNat 0))]) [],
                                                Ins.mk none none (Act.storeT 2) [Opd.t 6, Opd.t 34]])
                                            (CC.seq (CC.reg none [Ins.mk (some 35) none Act.mv [Opd.t 3], Ins.mk (some 36) none (Act.bin BinOp.add (EqK.nil 10)) [Opd.t 35, Opd.k (AV.d (DV.int IntKind.i64 (Int.ofNat 1)))], Ins.mk (some 3) none Act.mv [Opd.t 36]])
                                              (CC.seq
                                                (CC.reg none
                                                  [Ins.mk (some 37) none Act.mv [Opd.t 3], Ins.mk (some 38) none (Act.bin BinOp.gtr (EqK.nil 10)) [Opd.t 37, Opd.k (AV.d (DV.int IntKind.i64 (Int.ofNat 256)))], Ins.mk (some 39) none Act.mv [Opd.t 38],
                                                    Ins.mk (some 40) (some (39, false)) (Act.fad 0) [Opd.t 6], Ins.mk (some 41) (some (39, false)) (Act.load none) [Opd.t 40],
                                                    Ins.mk (some 42) (some (39, false)) (Act.bin BinOp.lss (EqK.nil 10)) [Opd.t 41, Opd.k (AV.d (DV.int IntKind.i64 (Int.ofNat 0)))], Ins.mk (some 43) none Act.pick [Opd.t 39, Opd.k (AV.d (DV.bool true)), Opd.t 42],
                                                    Ins.mk (some 44) none Act.mv [Opd.t 43], Ins.mk (some 45) (some (44, false)) (Act.fad 0) [Opd.t 6], Ins.mk (some 46) (some (44, false)) (Act.load none) [Opd.t 45],
                                                    Ins.mk (some 47) (some (44, false)) (Act.bin BinOp.gtr (EqK.nil 10)) [Opd.t 46, Opd.k (AV.d (DV.int IntKind.i64 (Int.ofNat 68719476736)))], Ins.mk (some 48) none Act.pick [Opd.t 44, Opd.k (AV.d (DV.bool true)), Opd.t 47],
                                                    Ins.mk (some 49) none Act.mv [Opd.t 48], Ins.mk (some 50) (some (49, false)) (Act.fad 1) [Opd.t 6], Ins.mk (some 51) (some (49, false)) (Act.load none) [Opd.t 50],
                                                    Ins.mk (some 52) (some (49, false)) (Act.bin BinOp.lss (EqK.nil 10)) [Opd.t 51, Opd.k (AV.d (DV.int IntKind.i64 (Int.ofNat 0)))], Ins.mk (some 53) none Act.pick [Opd.t 49, Opd.k (AV.d (DV.bool true)), Opd.t 52],
                                                    Ins.mk (some 54) none Act.mv [Opd.t 53], Ins.mk (some 55) (some (54, false)) (Act.fad 1) [Opd.t 6], Ins.mk (some 56) (some (54, false)) (Act.load none) [Opd.t 55],
                                                    Ins.mk (some 57) (some (54, false)) (Act.bin BinOp.gtr (EqK.nil 10)) [Opd.t 56, Opd.k (AV.d (DV.int IntKind.i64 (Int.ofNat 68719476736)))], Ins.mk (some 58) none Act.pick [Opd.t 54, Opd.k (AV.d (DV.bool true)), Opd.t 57]])
                                                (CC.cond (Opd.t 58) (CC.seq (CC.reg none [Ins.mk (some 2) none Act.mv [Opd.k (AV.d (DV.bool false))]]) CC.ret) CC.skip)))))
                                        (CC.seq (CC.fgt [0, 2, 3, 4, 5]) (CC.reg none [Ins.mk (some 26) none Act.mv [Opd.t 5], Ins.mk (some 27) none (Act.bin BinOp.add (EqK.nil 10)) [Opd.t 26, Opd.k (AV.d (DV.int IntKind.i64 (Int.ofNat 1)))], Ins.mk (some 5) none Act.mv [Opd.t 27]])))))))))))
                      (CC.seq (CC.fgt [0, 2, 3, 4]) (CC.reg none [Ins.mk (some 11) none Act.mv [Opd.t 4], Ins.mk (some 12) none (Act.bin BinOp.add (EqK.nil 10)) [Opd.t 11, Opd.k (AV.d (DV.int IntKind.i64 (Int.ofNat 1)))], Ins.mk (some 4) none Act.mv [Opd.t 12]]))))))))
          (CC.seq (CC.fgt [2]) (CC.seq (CC.reg none [Ins.mk (some 2) none Act.mv [Opd.k (AV.d (DV.bool true))]]) CC.ret)))))
    [RV.tmp 2]
theorem code40_ok : F0 40 = some (.code code40) := by kernel_rfl
def code38 : CFn :=
  CFn.mk
    (CC.seq (CC.reg none [Ins.mk (some 2) none Act.mv [Opd.k (AV.d (DV.bool false))]])
      (CC.seq (CC.reg none [Ins.mk (some 3) none Act.mv [Opd.k (AV.d (DV.int IntKind.i64 (Int.ofNat 0)))]])
        (CC.seq
          (CC.seq (CC.reg none [Ins.mk (some 6) none Act.mv [Opd.t 0], Ins.mk (some 7) none Act.len [Opd.t 6], Ins.mk (some 8) none Act.mv [Opd.k (AV.d (DV.int IntKind.i64 (Int.ofNat 0)))]])
            (CC.block 0
              (CC.loop [2, 3, 6, 7, 8]
                (CC.seq (CC.reg none [Ins.mk (some 9) none (Act.bin BinOp.lss (EqK.nil 10)) [Opd.t 8, Opd.t 7]])
                  (CC.seq (CC.cond (Opd.t 9) CC.skip (CC.exit 0))
                    (CC.seq (CC.fgt [2, 3, 6, 7, 8])
                      (CC.seq
                        (CC.block 1
                          (CC.seq (CC.reg none [Ins.mk (some 10) none (Act.iad 1) [Opd.t 6, Opd.t 8], Ins.mk (some 11) none (Act.load none) [Opd.t 10], Ins.mk (some 5) none Act.mv [Opd.t 11]])
                            (CC.seq
                              (CC.reg none
                                [Ins.mk (some 12) none Act.mv [Opd.t 3], Ins.mk (some 13) none Act.mv [Opd.t 5], Ins.mk (some 14) none Act.len [Opd.t 13], Ins.mk (some 15) none Act.min [Opd.t 14, Opd.k (AV.d (DV.int IntKind.i64 (Int.ofNat 1000)))],
                                  Ins.mk (some 16) none (Act.bin BinOp.add (EqK.nil 10)) [Opd.k (AV.d (DV.int IntKind.i64 (Int.ofNat 1))), Opd.t 15], Ins.mk (some 17) none (Act.bin BinOp.add (EqK.nil 10)) [Opd.t 12, Opd.t 16], Ins.mk (some 3) none Act.mv [Opd.t 17]])
                              (CC.seq (CC.reg none [Ins.mk (some 18) none Act.mv [Opd.t 3], Ins.mk (some 19) none (Act.bin BinOp.gtr (EqK.nil 10)) [Opd.t 18, Opd.k (AV.d (DV.int IntKind.i64 (Int.ofNat 600)))]])
                                (CC.cond (Opd.t 19) (CC.seq (CC.reg none [Ins.mk (some 2) none Act.mv [Opd.k (AV.d (DV.bool false))]]) CC.ret) CC.skip)))))
                        (CC.seq (CC.fgt [2, 3, 6, 7, 8]) (CC.reg none [Ins.mk (some 20) none (Act.bin BinOp.add (EqK.nil 10)) [Opd.t 8, Opd.k (AV.d (DV.int IntKind.i64 (Int.ofNat 1)))], Ins.mk (some 8) none Act.mv [Opd.t 20]])))))))))
          (CC.seq (CC.fgt [2]) (CC.seq (CC.reg none [Ins.mk (some 2) none Act.mv [Opd.k (AV.d (DV.bool true))]]) CC.ret)))))
    [RV.tmp 2]
theorem code38_ok : F0 38 = some (.code code38) := by kernel_rfl
def code41 : CFn :=
  CFn.mk
    (CC.seq (CC.reg none [Ins.mk (some 2) none Act.mv [Opd.k (AV.d (DV.str []))]])
      (CC.seq
        (CC.block 0
          (CC.seq (CC.reg none [Ins.mk (some 11) none Act.mv [Opd.t 0], Ins.mk (some 12) none Act.len [Opd.t 11], Ins.mk (some 13) none (Act.bin BinOp.eql (EqK.nil 10)) [Opd.t 12, Opd.k (AV.d (DV.int IntKind.i64 (Int.ofNat 0)))], Ins.mk (some 10) none Act.mv [Opd.t 13]])
            (CC.cond (Opd.t 10) (CC.seq (CC.reg none [Ins.mk (some 2) none Act.mv [Opd.k (AV.d (DV.str [UInt8.ofNat 110, UInt8.ofNat 111, UInt8.ofNat 110, UInt8.ofNat 101]))]]) CC.ret)
              (CC.seq (CC.reg none [Ins.mk (some 15) none Act.mv [Opd.t 0], Ins.mk (some 16) none (Act.call false) [Opd.k (AV.fn Mode.pure 39 [] []), Opd.t 15], Ins.mk (some 17) none (Act.un UnOp.not) [Opd.t 16], Ins.mk (some 14) none Act.mv [Opd.t 17]])
                (CC.cond (Opd.t 14) (CC.seq (CC.reg none [Ins.mk (some 2) none Act.mv [Opd.k (AV.d (DV.str []))]]) CC.ret) CC.skip)))))
        (CC.seq (CC.fgt [0, 2])
          (CC.seq (CC.reg none [Ins.mk (some 3) none Act.mv [Opd.k (AV.fn Mode.pure 101 [] [])]])
            (CC.seq (CC.reg none [Ins.mk (some 4) none Act.mv [Opd.k (AV.d DV.nilsl)]])
              (CC.seq
                (CC.seq (CC.reg none [Ins.mk (some 18) none Act.mv [Opd.t 0], Ins.mk (some 19) none Act.len [Opd.t 18], Ins.mk (some 20) none Act.mv [Opd.k (AV.d (DV.int IntKind.i64 (Int.ofNat 0)))]])
                  (CC.block 1
                    (CC.loop [2, 3, 4, 18, 19, 20]
                      (CC.seq (CC.reg none [Ins.mk (some 21) none (Act.bin BinOp.lss (EqK.nil 10)) [Opd.t 20, Opd.t 19]])
                        (CC.seq (CC.cond (Opd.t 21) CC.skip (CC.exit 1))
                          (CC.seq (CC.fgt [2, 3, 4, 18, 19, 20])
                            (CC.seq
                              (CC.block 2
                                (CC.seq (CC.reg none [Ins.mk (some 22) none (Act.iad 1) [Opd.t 18, Opd.t 20], Ins.mk (some 23) none (Act.load none) [Opd.t 22], Ins.mk (some 6) none Act.mv [Opd.t 23]])
                                  (CC.seq (CC.reg none [Ins.mk (some 7) none Act.mv [Opd.k (AV.d DV.nilsl)]])
                                    (CC.seq
                                      (CC.seq (CC.reg none [Ins.mk (some 24) none Act.mv [Opd.t 6], Ins.mk (some 25) none Act.len [Opd.t 24], Ins.mk (some 26) none Act.mv [Opd.k (AV.d (DV.int IntKind.i64 (Int.ofNat 0)))]])
                                        (CC.block 3
                                          (CC.loop [2, 3, 4, 7, 18, 19, 20, 24, 25, 26]
                                            (CC.seq (CC.reg none [Ins.mk (some 27) none (Act.bin BinOp.lss (EqK.nil 10)) [Opd.t 26, Opd.t 25]])
                                              (CC.seq (CC.cond (Opd.t 27) CC.skip (CC.exit 3))
                                                (CC.seq (CC.fgt [2, 3, 4, 7, 18, 19, 20, 24, 25, 26])
                                                  (CC.seq
                                                    (CC.block 4
                                                      (CC.seq
                                                        (CC.reg none
                                                          [Ins.mk (some 28) none (Act.iad 2) [Opd.t 24, Opd.t 26], Ins.mk (some 29) none (Act.load (some 2)) [Opd.t 28], Ins.mk (some 9) none (Act.new 90 [AV.d (DV.int IntKind.i64 (Int.ofNat 0)), AV.d (DV.int IntKind.i64 (Int.ofNat 0))]) [],
                                                            Ins.mk none none (Act.storeT 2) [Opd.t 9, Opd.t 29]])
                                                        (CC.reg (some [])
                                                          [Ins.mk (some 30) none Act.mv [Opd.t 7], Ins.mk (some 31) none Act.mv [Opd.t 3], Ins.mk (some 32) none (Act.fad 0) [Opd.t 9], Ins.mk (some 33) none (Act.load none) [Opd.t 32], Ins.mk (some 34) none (Act.call true) [Opd.t 31, Opd.t 33],
                                                            Ins.mk (some 35) none (Act.bin BinOp.add (EqK.nil 10)) [Opd.t 34, Opd.k (AV.d (DV.str [UInt8.ofNat 32]))], Ins.mk (some 36) none Act.mv [Opd.t 3], Ins.mk (some 37) none (Act.fad 1) [Opd.t 9], Ins.mk (some 38) none (Act.load none) [Opd.t 37],
                                                            Ins.mk (some 39) none (Act.call true) [Opd.t 36, Opd.t 38], Ins.mk (some 40) none (Act.bin BinOp.add (EqK.nil 10)) [Opd.t 35, Opd.t 39], Ins.mk (some 41) none (Act.bsl 9 1 [DV.str []] 1 [0]) [Opd.t 40],
                                                            Ins.mk (some 42) none (Act.app 9 1 16) [Opd.t 30, Opd.t 41], Ins.mk (some 7) none Act.mv [Opd.t 42]])))
                                                    (CC.seq (CC.fgt [2, 3, 4, 7, 18, 19, 20, 24, 25, 26]) (CC.reg none [Ins.mk (some 43) none (Act.bin BinOp.add (EqK.nil 10)) [Opd.t 26, Opd.k (AV.d (DV.int IntKind.i64 (Int.ofNat 1)))], Ins.mk (some 26) none Act.mv [Opd.t 43]])))))))))
                                      (CC.seq (CC.fgt [2, 3, 4, 7, 18, 19, 20])
                                        (CC.reg none
                                          [Ins.mk (some 44) none Act.mv [Opd.t 4], Ins.mk (some 45) none Act.mv [Opd.t 7], Ins.mk (some 46) none (Act.call false) [Opd.k (AV.fn Mode.pure 102 [] []), Opd.t 45, Opd.k (AV.d (DV.str [UInt8.ofNat 44, UInt8.ofNat 32]))],
                                            Ins.mk (some 47) none (Act.bslT 9 1 [DV.str []] 1 [0]) [Opd.t 46], Ins.mk (some 48) none (Act.app 9 1 16) [Opd.t 44, Opd.t 47], Ins.mk (some 4) none Act.mv [Opd.t 48]]))))))
                              (CC.seq (CC.fgt [2, 3, 4, 18, 19, 20]) (CC.reg none [Ins.mk (some 49) none (Act.bin BinOp.add (EqK.nil 10)) [Opd.t 20, Opd.k (AV.d (DV.int IntKind.i64 (Int.ofNat 1)))], Ins.mk (some 20) none Act.mv [Opd.t 49]])))))))))
                (CC.seq (CC.fgt [2, 4])
                  (CC.seq (CC.reg none [Ins.mk (some 50) none Act.mv [Opd.t 4], Ins.mk (some 51) none (Act.call false) [Opd.k (AV.fn Mode.pure 102 [] []), Opd.t 50, Opd.k (AV.d (DV.str [UInt8.ofNat 32, UInt8.ofNat 47, UInt8.ofNat 32]))], Ins.mk (some 2) none Act.mv [Opd.t 51]]) CC.ret))))))))
    [RV.tmp 2]
theorem code41_ok : F0 41 = some (.code code41) := by kernel_rfl
def code101 : CFn :=
  CFn.mk
    (CC.seq (CC.reg none [Ins.mk (some 2) none Act.mv [Opd.k (AV.d (DV.str []))]])
      (CC.seq
        (CC.reg none
          [Ins.mk (some 3) none Act.mv [Opd.t 0], Ins.mk (some 4) none (Act.call false) [Opd.k (AV.fn Mode.pure 68 [] []), Opd.t 3, Opd.k (AV.d (DV.int IntKind.i64 (Int.ofNat 64)))],
            Ins.mk (some 5) none (Act.bin BinOp.add (EqK.nil 10)) [Opd.t 4, Opd.k (AV.d (DV.str [UInt8.ofNat 112, UInt8.ofNat 120]))], Ins.mk (some 2) none Act.mv [Opd.t 5]])
        CC.ret))
    [RV.tmp 2]
theorem code101_ok : F0 101 = some (.code code101) := by kernel_rfl
def code42 : CFn :=
  CFn.mk
    (CC.seq (CC.reg none [Ins.mk (some 2) none Act.mv [Opd.k (AV.d (DV.str []))]])
      (CC.seq
        (CC.seq (CC.reg none [Ins.mk (some 6) none Act.mv [Opd.t 0], Ins.mk (some 7) none Act.len [Opd.t 6], Ins.mk (some 8) none (Act.bin BinOp.eql (EqK.nil 10)) [Opd.t 7, Opd.k (AV.d (DV.int IntKind.i64 (Int.ofNat 0)))]])
          (CC.cond (Opd.t 8) (CC.seq (CC.reg none [Ins.mk (some 2) none Act.mv [Opd.k (AV.d (DV.str [UInt8.ofNat 110, UInt8.ofNat 111, UInt8.ofNat 110, UInt8.ofNat 101]))]]) CC.ret) CC.skip))
        (CC.seq (CC.fgt [0, 2])
          (CC.seq
            (CC.seq (CC.reg none [Ins.mk (some 9) none Act.mv [Opd.t 0], Ins.mk (some 10) none (Act.call false) [Opd.k (AV.fn Mode.pure 40 [] []), Opd.t 9], Ins.mk (some 11) none (Act.un UnOp.not) [Opd.t 10]])
              (CC.cond (Opd.t 11) (CC.seq (CC.reg none [Ins.mk (some 2) none Act.mv [Opd.k (AV.d (DV.str []))]]) CC.ret) CC.skip))
            (CC.seq (CC.fgt [0, 2])
              (CC.seq (CC.reg none [Ins.mk (some 3) none Act.mv [Opd.k (AV.d (DV.str []))]])
                (CC.seq
                  (CC.seq (CC.reg none [Ins.mk (some 4) none Act.mv [Opd.k (AV.d (DV.int IntKind.i64 (Int.ofNat 0)))]])
                    (CC.block 0
                      (CC.loop [0, 2, 3, 4]
                        (CC.seq (CC.seq (CC.reg none [Ins.mk (some 12) none Act.mv [Opd.t 4], Ins.mk (some 13) none Act.mv [Opd.t 0], Ins.mk (some 14) none Act.len [Opd.t 13], Ins.mk (some 15) none (Act.bin BinOp.lss (EqK.nil 10)) [Opd.t 12, Opd.t 14]]) (CC.cond (Opd.t 15) CC.skip (CC.exit 0)))
                          (CC.seq (CC.fgt [0, 2, 3, 4])
                            (CC.seq
                              (CC.block 1
                                (CC.seq
                                  (CC.seq (CC.reg none [Ins.mk (some 18) none Act.mv [Opd.t 4], Ins.mk (some 19) none (Act.bin BinOp.gtr (EqK.nil 10)) [Opd.t 18, Opd.k (AV.d (DV.int IntKind.i64 (Int.ofNat 0)))]])
                                    (CC.cond (Opd.t 19) (CC.reg none [Ins.mk (some 20) none Act.mv [Opd.t 3], Ins.mk (some 21) none (Act.bin BinOp.add (EqK.nil 10)) [Opd.t 20, Opd.k (AV.d (DV.str [UInt8.ofNat 32, UInt8.ofNat 47, UInt8.ofNat 32]))], Ins.mk (some 3) none Act.mv [Opd.t 21]]) CC.skip))
                                  (CC.seq (CC.fgt [0, 2, 3, 4])
                                    (CC.seq (CC.reg none [Ins.mk (some 5) none Act.mv [Opd.k (AV.d (DV.int IntKind.i64 (Int.ofNat 0)))]])
                                      (CC.block 2
                                        (CC.loop [0, 2, 3, 4, 5]
                                          (CC.seq
                                            (CC.seq
                                              (CC.reg none
                                                [Ins.mk (some 22) none Act.mv [Opd.t 5], Ins.mk (some 23) none Act.mv [Opd.t 0], Ins.mk (some 24) none Act.mv [Opd.t 4], Ins.mk (some 25) none (Act.iad 1) [Opd.t 23, Opd.t 24], Ins.mk (some 26) none (Act.load none) [Opd.t 25],
                                                  Ins.mk (some 27) none Act.len [Opd.t 26], Ins.mk (some 28) none (Act.bin BinOp.lss (EqK.nil 10)) [Opd.t 22, Opd.t 27]])
                                              (CC.cond (Opd.t 28) CC.skip (CC.exit 2)))
                                            (CC.seq (CC.fgt [0, 2, 3, 4, 5])
                                              (CC.seq
                                                (CC.block 3
                                                  (CC.seq
                                                    (CC.seq (CC.reg none [Ins.mk (some 31) none Act.mv [Opd.t 5], Ins.mk (some 32) none (Act.bin BinOp.gtr (EqK.nil 10)) [Opd.t 31, Opd.k (AV.d (DV.int IntKind.i64 (Int.ofNat 0)))]])
                                                      (CC.cond (Opd.t 32) (CC.reg none [Ins.mk (some 33) none Act.mv [Opd.t 3], Ins.mk (some 34) none (Act.bin BinOp.add (EqK.nil 10)) [Opd.t 33, Opd.k (AV.d (DV.str [UInt8.ofNat 44, UInt8.ofNat 32]))], Ins.mk (some 3) none Act.mv [Opd.t 34]]) CC.skip))
                                                    (CC.seq (CC.fgt [0, 2, 3, 4, 5])
                                                      (CC.reg (some [])
                                                        [Ins.mk (some 35) none Act.mv [Opd.t 3], Ins.mk (some 36) none Act.mv [Opd.t 0], Ins.mk (some 37) none Act.mv [Opd.t 4], Ins.mk (some 38) none (Act.iad 1) [Opd.t 36, Opd.t 37], Ins.mk (some 39) none (Act.load none) [Opd.t 38],
                                                          Ins.mk (some 40) none Act.mv [Opd.t 5], Ins.mk (some 41) none (Act.iad 2) [Opd.t 39, Opd.t 40], Ins.mk (some 42) none (Act.fad 0) [Opd.t 41], Ins.mk (some 43) none (Act.load none) [Opd.t 42],
                                                          Ins.mk (some 44) none (Act.build [AV.d (DV.int IntKind.i64 (Int.ofNat 0)), AV.d (DV.int IntKind.i64 (Int.ofNat 0))] [(0, 1), (1, 1)]) [Opd.k (AV.d (DV.int IntKind.i64 (Int.ofNat 2))), Opd.t 43],
                                                          Ins.mk (some 45) none (Act.call true) [Opd.k (AV.fn Mode.pure 37 [] []), Opd.t 44], Ins.mk (some 46) none (Act.bin BinOp.add (EqK.nil 10)) [Opd.t 35, Opd.t 45],
                                                          Ins.mk (some 47) none (Act.bin BinOp.add (EqK.nil 10)) [Opd.t 46, Opd.k (AV.d (DV.str [UInt8.ofNat 32]))], Ins.mk (some 48) none Act.mv [Opd.t 0], Ins.mk (some 49) none Act.mv [Opd.t 4], Ins.mk (some 50) none (Act.iad 1) [Opd.t 48, Opd.t 49],
                                                          Ins.mk (some 51) none (Act.load none) [Opd.t 50], Ins.mk (some 52) none Act.mv [Opd.t 5], Ins.mk (some 53) none (Act.iad 2) [Opd.t 51, Opd.t 52], Ins.mk (some 54) none (Act.fad 1) [Opd.t 53], Ins.mk (some 55) none (Act.load none) [Opd.t 54],
                                                          Ins.mk (some 56) none (Act.build [AV.d (DV.int IntKind.i64 (Int.ofNat 0)), AV.d (DV.int IntKind.i64 (Int.ofNat 0))] [(0, 1), (1, 1)]) [Opd.k (AV.d (DV.int IntKind.i64 (Int.ofNat 2))), Opd.t 55],
                                                          Ins.mk (some 57) none (Act.call true) [Opd.k (AV.fn Mode.pure 37 [] []), Opd.t 56], Ins.mk (some 58) none (Act.bin BinOp.add (EqK.nil 10)) [Opd.t 47, Opd.t 57], Ins.mk (some 3) none Act.mv [Opd.t 58]]))))
                                                (CC.seq (CC.fgt [0, 2, 3, 4, 5]) (CC.reg none [Ins.mk (some 29) none Act.mv [Opd.t 5], Ins.mk (some 30) none (Act.bin BinOp.add (EqK.nil 10)) [Opd.t 29, Opd.k (AV.d (DV.int IntKind.i64 (Int.ofNat 1)))], Ins.mk (some 5) none Act.mv [Opd.t 30]])))))))))))
                              (CC.seq (CC.fgt [0, 2, 3, 4]) (CC.reg none [Ins.mk (some 16) none Act.mv [Opd.t 4], Ins.mk (some 17) none (Act.bin BinOp.add (EqK.nil 10)) [Opd.t 16, Opd.k (AV.d (DV.int IntKind.i64 (Int.ofNat 1)))], Ins.mk (some 4) none Act.mv [Opd.t 17]]))))))))
                  (CC.seq (CC.fgt [2, 3]) (CC.seq (CC.reg none [Ins.mk (some 59) none Act.mv [Opd.t 3], Ins.mk (some 2) none Act.mv [Opd.t 59]]) CC.ret)))))))))
    [RV.tmp 2]
theorem code42_ok : F0 42 = some (.code code42) := by kernel_rfl
def code43 : CFn :=
  CFn.mk
    (CC.seq (CC.reg none [Ins.mk (some 4) none Act.mv [Opd.k (AV.d (DV.bool false))]])
      (CC.seq (CC.reg none [Ins.mk (some 5) none (Act.new 134 [AV.d DV.nilf]) [], Ins.mk none none (Act.storeT 1) [Opd.t 5, Opd.k (AV.fn Mode.pure 103 [] [])]])
        (CC.seq
          (CC.reg none [Ins.mk (some 6) none Act.mv [Opd.t 0], Ins.mk (some 7) none Act.mv [Opd.t 1], Ins.mk (some 8) none (Act.mkf Mode.drop 105 0) [Opd.t 5], Ins.mk (some 9) none (Act.call false) [Opd.k (AV.fn Mode.drop 104 [] []), Opd.t 6, Opd.t 7, Opd.t 8], Ins.mk (some 4) none Act.mv [Opd.t 9]])
          CC.ret)))
    [RV.tmp 4]
theorem code43_ok : F0 43 = some (.code code43) := by kernel_rfl
def code105 : CFn :=
  CFn.mk
    (CC.seq (CC.reg none [Ins.mk (some 5) none Act.mv [Opd.k (AV.d (DV.bool false))]])
      (CC.seq (CC.reg none [Ins.mk (some 6) none Act.mv [Opd.t 0], Ins.mk (some 7) none Act.mv [Opd.t 1], Ins.mk (some 8) none (Act.load none) [Opd.t 2], Ins.mk (some 9) none (Act.call false) [Opd.k (AV.fn Mode.drop 106 [] []), Opd.t 6, Opd.t 7, Opd.t 8], Ins.mk (some 5) none Act.mv [Opd.t 9]])
        CC.ret))
    [RV.tmp 5]
theorem code105_ok : F0 105 = some (.code code105) := by kernel_rfl
def code104 : CFn :=
  CFn.mk
    (CC.seq (CC.reg none [Ins.mk (some 6) none Act.mv [Opd.k (AV.d (DV.bool false))]])
      (CC.seq
        (CC.seq (CC.reg none [Ins.mk (some 8) none Act.mv [Opd.t 0], Ins.mk (some 9) none Act.len [Opd.t 8], Ins.mk (some 10) none Act.mv [Opd.t 1], Ins.mk (some 11) none Act.len [Opd.t 10], Ins.mk (some 12) none (Act.bin BinOp.neq (EqK.nil 10)) [Opd.t 9, Opd.t 11]])
          (CC.cond (Opd.t 12) (CC.seq (CC.reg none [Ins.mk (some 6) none Act.mv [Opd.k (AV.d (DV.bool false))]]) CC.ret) CC.skip))
        (CC.seq (CC.fgt [0, 1, 2, 6])
          (CC.seq
            (CC.seq (CC.reg none [Ins.mk (some 13) none Act.mv [Opd.t 0], Ins.mk (some 14) none Act.len [Opd.t 13], Ins.mk (some 15) none Act.mv [Opd.k (AV.d (DV.int IntKind.i64 (Int.ofNat 0)))]])
              (CC.block 0
                (CC.loop [0, 1, 2, 6, 14, 15]
                  (CC.seq (CC.reg none [Ins.mk (some 16) none (Act.bin BinOp.lss (EqK.nil 10)) [Opd.t 15, Opd.t 14]])
                    (CC.seq (CC.cond (Opd.t 16) CC.skip (CC.exit 0))
                      (CC.seq (CC.fgt [0, 1, 2, 6, 14, 15])
                        (CC.seq
                          (CC.block 1
                            (CC.seq (CC.reg none [Ins.mk (some 17) none Act.mv [Opd.t 15], Ins.mk (some 7) none Act.mv [Opd.t 17]])
                              (CC.seq
                                (CC.reg (some [])
                                  [Ins.mk (some 18) none Act.mv [Opd.t 2], Ins.mk (some 19) none Act.mv [Opd.t 0], Ins.mk (some 20) none Act.mv [Opd.t 7], Ins.mk (some 21) none (Act.iad 1) [Opd.t 19, Opd.t 20], Ins.mk (some 22) none (Act.load none) [Opd.t 21], Ins.mk (some 23) none Act.mv [Opd.t 1],
                                    Ins.mk (some 24) none Act.mv [Opd.t 7], Ins.mk (some 25) none (Act.iad 1) [Opd.t 23, Opd.t 24], Ins.mk (some 26) none (Act.load none) [Opd.t 25], Ins.mk (some 27) none (Act.call false) [Opd.t 18, Opd.t 22, Opd.t 26],
                                    Ins.mk (some 28) none (Act.un UnOp.not) [Opd.t 27]])
                                (CC.cond (Opd.t 28) (CC.seq (CC.reg none [Ins.mk (some 6) none Act.mv [Opd.k (AV.d (DV.bool false))]]) CC.ret) CC.skip))))
                          (CC.seq (CC.fgt [0, 1, 2, 6, 14, 15]) (CC.reg none [Ins.mk (some 29) none (Act.bin BinOp.add (EqK.nil 10)) [Opd.t 15, Opd.k (AV.d (DV.int IntKind.i64 (Int.ofNat 1)))], Ins.mk (some 15) none Act.mv [Opd.t 29]])))))))))
            (CC.seq (CC.fgt [6]) (CC.seq (CC.reg none [Ins.mk (some 6) none Act.mv [Opd.k (AV.d (DV.bool true))]]) CC.ret))))))
    [RV.tmp 6]
theorem code104_ok : F0 104 = some (.code code104) := by kernel_rfl
def code106 : CFn :=
  CFn.mk
    (CC.seq (CC.reg none [Ins.mk (some 6) none Act.mv [Opd.k (AV.d (DV.bool false))]])
      (CC.seq
        (CC.seq (CC.reg none [Ins.mk (some 8) none Act.mv [Opd.t 0], Ins.mk (some 9) none Act.len [Opd.t 8], Ins.mk (some 10) none Act.mv [Opd.t 1], Ins.mk (some 11) none Act.len [Opd.t 10], Ins.mk (some 12) none (Act.bin BinOp.neq (EqK.nil 10)) [Opd.t 9, Opd.t 11]])
          (CC.cond (Opd.t 12) (CC.seq (CC.reg none [Ins.mk (some 6) none Act.mv [Opd.k (AV.d (DV.bool false))]]) CC.ret) CC.skip))
        (CC.seq (CC.fgt [0, 1, 2, 6])
          (CC.seq
            (CC.seq (CC.reg none [Ins.mk (some 13) none Act.mv [Opd.t 0], Ins.mk (some 14) none Act.len [Opd.t 13], Ins.mk (some 15) none Act.mv [Opd.k (AV.d (DV.int IntKind.i64 (Int.ofNat 0)))]])
              (CC.block 0
                (CC.loop [0, 1, 2, 6, 14, 15]
                  (CC.seq (CC.reg none [Ins.mk (some 16) none (Act.bin BinOp.lss (EqK.nil 10)) [Opd.t 15, Opd.t 14]])
                    (CC.seq (CC.cond (Opd.t 16) CC.skip (CC.exit 0))
                      (CC.seq (CC.fgt [0, 1, 2, 6, 14, 15])
                        (CC.seq
                          (CC.block 1
                            (CC.seq (CC.reg none [Ins.mk (some 17) none Act.mv [Opd.t 15], Ins.mk (some 7) none Act.mv [Opd.t 17]])
                              (CC.seq
                                (CC.reg (some [])
                                  [Ins.mk (some 18) none Act.mv [Opd.t 2], Ins.mk (some 19) none Act.mv [Opd.t 0], Ins.mk (some 20) none Act.mv [Opd.t 7], Ins.mk (some 21) none (Act.iad 2) [Opd.t 19, Opd.t 20], Ins.mk (some 22) none (Act.load (some 2)) [Opd.t 21],
                                    Ins.mk (some 23) none Act.mv [Opd.t 1], Ins.mk (some 24) none Act.mv [Opd.t 7], Ins.mk (some 25) none (Act.iad 2) [Opd.t 23, Opd.t 24], Ins.mk (some 26) none (Act.load (some 2)) [Opd.t 25], Ins.mk (some 27) none (Act.call false) [Opd.t 18, Opd.t 22, Opd.t 26],
                                    Ins.mk (some 28) none (Act.un UnOp.not) [Opd.t 27]])
                                (CC.cond (Opd.t 28) (CC.seq (CC.reg none [Ins.mk (some 6) none Act.mv [Opd.k (AV.d (DV.bool false))]]) CC.ret) CC.skip))))
                          (CC.seq (CC.fgt [0, 1, 2, 6, 14, 15]) (CC.reg none [Ins.mk (some 29) none (Act.bin BinOp.add (EqK.nil 10)) [Opd.t 15, Opd.k (AV.d (DV.int IntKind.i64 (Int.ofNat 1)))], Ins.mk (some 15) none Act.mv [Opd.t 29]])))))))))
            (CC.seq (CC.fgt [6]) (CC.seq (CC.reg none [Ins.mk (some 6) none Act.mv [Opd.k (AV.d (DV.bool true))]]) CC.ret))))))
    [RV.tmp 6]
theorem code106_ok : F0 106 = some (.code code106) := by kernel_rfl
end Go.Proofs.YtapnjabhcdlhbaaGreatDoor.Ab
