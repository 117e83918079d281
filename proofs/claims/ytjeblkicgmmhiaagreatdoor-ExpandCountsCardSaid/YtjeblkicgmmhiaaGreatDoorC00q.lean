/- The code of some functions, compiled (printed by a program for this seat; each is held against the compiler by the kernel). -/
import Derived.Test.YtjeblkicgmmhiaaGreatDoorAbCfg
namespace Go.Proofs.YtjeblkicgmmhiaaGreatDoor.Ab
open Go
set_option maxRecDepth 100000
def code18 : CFn :=
  CFn.mk
    (CC.seq (CC.reg none [Ins.mk (some 2) none (Act.box 28) [Opd.t 0], Ins.mk (some 4) none Act.mv [Opd.k (AV.d (DV.int IntKind.i64 (Int.ofNat 0)))], Ins.mk (some 5) none Act.mv [Opd.k (AV.d (DV.int IntKind.i64 (Int.ofNat 0)))]])
      (CC.seq
        (CC.seq
          (CC.reg none
            [Ins.mk (some 12) none (Act.load (some 7)) [Opd.t 2], Ins.mk (some 13) none (Act.call false) [Opd.k (AV.fn Mode.pure 47 [] []), Opd.t 12], Ins.mk (some 14) none (Act.un UnOp.not) [Opd.t 13], Ins.mk (some 15) none Act.mv [Opd.t 14],
              Ins.mk (some 16) (some (15, false)) (Act.load (some 7)) [Opd.t 2], Ins.mk (some 17) (some (15, false)) (Act.call false) [Opd.k (AV.fn Mode.pure 48 [] []), Opd.t 16], Ins.mk (some 18) (some (15, false)) (Act.un UnOp.not) [Opd.t 17],
              Ins.mk (some 19) none Act.pick [Opd.t 15, Opd.k (AV.d (DV.bool true)), Opd.t 18], Ins.mk (some 20) none Act.mv [Opd.t 19], Ins.mk (some 21) (some (20, false)) Act.mv [Opd.t 1], Ins.mk (some 22) (some (20, false)) (Act.call false) [Opd.k (AV.fn Mode.pure 49 [] []), Opd.t 21],
              Ins.mk (some 23) (some (20, false)) (Act.un UnOp.not) [Opd.t 22], Ins.mk (some 24) none Act.pick [Opd.t 20, Opd.k (AV.d (DV.bool true)), Opd.t 23]])
          (CC.cond (Opd.t 24) (CC.seq (CC.reg none [Ins.mk (some 4) none Act.mv [Opd.k (AV.d (DV.int IntKind.i64 (Int.ofNat 0)))], Ins.mk (some 5) none Act.mv [Opd.k (AV.d (DV.int IntKind.i64 (Int.ofNat 2)))]]) CC.ret) CC.skip))
        (CC.seq (CC.fgt [1, 2, 4, 5])
          (CC.seq (CC.reg none [Ins.mk (some 6) none Act.mv [Opd.k (AV.d (DV.int IntKind.i64 (Int.ofNat 64)))]])
            (CC.seq
              (CC.seq
                (CC.reg none
                  [Ins.mk (some 25) none (Act.fad 0) [Opd.t 2], Ins.mk (some 26) none (Act.load (some 2)) [Opd.t 25], Ins.mk (some 27) none (Act.fad 2) [Opd.t 2], Ins.mk (some 28) none (Act.load (some 2)) [Opd.t 27],
                    Ins.mk (some 29) none (Act.build [AV.d (DV.int IntKind.i64 (Int.ofNat 0)), AV.d (DV.int IntKind.i64 (Int.ofNat 0)), AV.d (DV.int IntKind.i64 (Int.ofNat 0)), AV.d (DV.int IntKind.i64 (Int.ofNat 0))] [(0, 2), (2, 2)]) [Opd.t 26, Opd.t 28],
                    Ins.mk (some 30) none Act.mv [Opd.k (AV.d (DV.int IntKind.i64 (Int.ofNat 0)))]])
                (CC.block 0
                  (CC.loop [1, 4, 5, 6, 29, 30]
                    (CC.seq (CC.reg none [Ins.mk (some 31) none (Act.bin BinOp.lss (EqK.nil 10)) [Opd.t 30, Opd.k (AV.d (DV.int IntKind.i64 (Int.ofNat 2)))]])
                      (CC.seq (CC.cond (Opd.t 31) CC.skip (CC.exit 0))
                        (CC.seq (CC.fgt [1, 4, 5, 6, 29, 30])
                          (CC.seq
                            (CC.block 1
                              (CC.seq (CC.reg none [Ins.mk (some 32) none (Act.idxA 2 2 (some 2)) [Opd.t 29, Opd.t 30], Ins.mk (some 8) none (Act.new 26 [AV.d (DV.int IntKind.i64 (Int.ofNat 0)), AV.d (DV.int IntKind.i64 (Int.ofNat 0))]) [], Ins.mk none none (Act.storeT 2) [Opd.t 8, Opd.t 32]])
                                (CC.seq
                                  (CC.reg none
                                    [Ins.mk (some 34) none (Act.load (some 2)) [Opd.t 8], Ins.mk (some 35) none Act.mv [Opd.t 1], Ins.mk (some 36) none (Act.call false) [Opd.k (AV.fn Mode.pure 50 [] []), Opd.t 34, Opd.t 35, Opd.k (AV.d (DV.bool true))], Ins.mk (some 33) none Act.mv [Opd.t 36],
                                      Ins.mk (some 37) none (Act.ext 0) [Opd.t 33], Ins.mk (some 38) none (Act.ext 1) [Opd.t 33], Ins.mk (some 39) none (Act.ext 2) [Opd.t 33], Ins.mk (some 9) none Act.mv [Opd.t 37], Ins.mk (some 10) none Act.mv [Opd.t 38], Ins.mk (some 11) none Act.mv [Opd.t 39]])
                                  (CC.seq
                                    (CC.seq (CC.reg none [Ins.mk (some 40) none Act.mv [Opd.t 11], Ins.mk (some 41) none (Act.bin BinOp.neq (EqK.nil 10)) [Opd.t 40, Opd.k (AV.d (DV.int IntKind.i64 (Int.ofNat 0)))]])
                                      (CC.cond (Opd.t 41) (CC.seq (CC.reg none [Ins.mk (some 42) none Act.mv [Opd.t 11], Ins.mk (some 4) none Act.mv [Opd.k (AV.d (DV.int IntKind.i64 (Int.ofNat 0)))], Ins.mk (some 5) none Act.mv [Opd.t 42]]) CC.ret) CC.skip))
                                    (CC.seq (CC.fgt [1, 4, 5, 6, 9, 10, 29, 30])
                                      (CC.seq (CC.reg none [Ins.mk (some 43) none Act.mv [Opd.t 10]])
                                        (CC.cond (Opd.t 43) (CC.reg none [Ins.mk (some 44) none Act.mv [Opd.t 6], Ins.mk (some 45) none Act.mv [Opd.t 9], Ins.mk (some 46) none Act.max [Opd.t 44, Opd.t 45], Ins.mk (some 6) none Act.mv [Opd.t 46]]) CC.skip)))))))
                            (CC.seq (CC.fgt [1, 4, 5, 6, 29, 30]) (CC.reg none [Ins.mk (some 47) none (Act.bin BinOp.add (EqK.nil 10)) [Opd.t 30, Opd.k (AV.d (DV.int IntKind.i64 (Int.ofNat 1)))], Ins.mk (some 30) none Act.mv [Opd.t 47]])))))))))
              (CC.seq (CC.fgt [4, 5, 6]) (CC.seq (CC.reg none [Ins.mk (some 48) none Act.mv [Opd.t 6], Ins.mk (some 4) none Act.mv [Opd.t 48], Ins.mk (some 5) none Act.mv [Opd.k (AV.d (DV.int IntKind.i64 (Int.ofNat 0)))]]) CC.ret)))))))
    [RV.tmp 4, RV.tmp 5]
theorem code18_ok : F0 18 = some (.code code18) := by kernel_rfl
def code22 : CFn :=
  CFn.mk
    (CC.seq (CC.reg none [Ins.mk (some 5) none (Act.box 3) [Opd.t 1], Ins.mk (some 7) none (Act.box 3) [Opd.t 3], Ins.mk (some 8) none (Act.new 3 [AV.d (DV.int IntKind.i64 (Int.ofNat 0))]) [], Ins.mk (some 9) none (Act.new 29 [AV.d (DV.int IntKind.i64 (Int.ofNat 0))]) []])
      (CC.seq
        (CC.block 0
          (CC.seq
            (CC.reg none
              [Ins.mk (some 19) none Act.mv [Opd.t 0], Ins.mk (some 20) none (Act.call false) [Opd.k (AV.fn Mode.pure 56 [] []), Opd.t 19], Ins.mk (some 21) none (Act.un UnOp.not) [Opd.t 20], Ins.mk (some 22) none Act.mv [Opd.t 21], Ins.mk (some 23) (some (22, false)) (Act.load none) [Opd.t 5],
                Ins.mk (some 24) (some (22, false)) (Act.call false) [Opd.k (AV.fn Mode.pure 49 [] []), Opd.t 23], Ins.mk (some 25) (some (22, false)) (Act.un UnOp.not) [Opd.t 24], Ins.mk (some 26) none Act.pick [Opd.t 22, Opd.k (AV.d (DV.bool true)), Opd.t 25],
                Ins.mk (some 27) none Act.mv [Opd.t 26], Ins.mk (some 28) (some (27, false)) (Act.load none) [Opd.t 7], Ins.mk (some 29) (some (27, false)) (Act.call false) [Opd.k (AV.fn Mode.pure 49 [] []), Opd.t 28], Ins.mk (some 30) (some (27, false)) (Act.un UnOp.not) [Opd.t 29],
                Ins.mk (some 31) none Act.pick [Opd.t 27, Opd.k (AV.d (DV.bool true)), Opd.t 30], Ins.mk (some 18) none Act.mv [Opd.t 31]])
            (CC.cond (Opd.t 18) (CC.seq (CC.reg none [Ins.mk none none (Act.storeT 1) [Opd.t 8, Opd.k (AV.d (DV.int IntKind.i64 (Int.ofNat 0)))], Ins.mk none none (Act.storeT 1) [Opd.t 9, Opd.k (AV.d (DV.int IntKind.i64 (Int.ofNat 2)))]]) CC.ret)
              (CC.seq (CC.reg none [Ins.mk (some 33) none Act.mv [Opd.t 0], Ins.mk (some 34) none (Act.call false) [Opd.k (AV.fn Mode.drop 57 [] []), Opd.t 33, Opd.k (AV.fn Mode.pure 58 [] [])], Ins.mk (some 35) none (Act.un UnOp.not) [Opd.t 34], Ins.mk (some 32) none Act.mv [Opd.t 35]])
                (CC.cond (Opd.t 32) (CC.seq (CC.reg none [Ins.mk none none (Act.storeT 1) [Opd.t 8, Opd.k (AV.d (DV.int IntKind.i64 (Int.ofNat 0)))], Ins.mk none none (Act.storeT 1) [Opd.t 9, Opd.k (AV.d (DV.int IntKind.i64 (Int.ofNat 0)))]]) CC.ret)
                  (CC.seq (CC.reg none [Ins.mk (some 37) none Act.mv [Opd.t 2], Ins.mk (some 38) none (Act.un UnOp.not) [Opd.t 37], Ins.mk (some 36) none Act.mv [Opd.t 38]])
                    (CC.cond (Opd.t 36) (CC.seq (CC.reg none [Ins.mk none none (Act.storeT 1) [Opd.t 8, Opd.k (AV.d (DV.int IntKind.i64 (Int.ofNat 1)))], Ins.mk none none (Act.storeT 1) [Opd.t 9, Opd.k (AV.d (DV.int IntKind.i64 (Int.ofNat 0)))]]) CC.ret) CC.skip)))))))
        (CC.seq (CC.fgt [0, 5, 7, 8, 9])
          (CC.seq (CC.reg none [Ins.mk (some 10) none (Act.new 99 [AV.d (DV.int IntKind.i64 (Int.ofNat 0)), AV.d (DV.int IntKind.i64 (Int.ofNat 0))]) [], Ins.mk (some 11) none (Act.new 99 [AV.d (DV.int IntKind.i64 (Int.ofNat 0)), AV.d (DV.int IntKind.i64 (Int.ofNat 0))]) []])
            (CC.seq (CC.seq (CC.reg none [Ins.mk (some 39) none Act.mv [Opd.t 0], Ins.mk (some 40) none (Act.call false) [Opd.k (AV.fn Mode.opn 60 [] []), Opd.t 39]]) (CC.block 1 (CC.rng 22 [5, 8, 9, 10, 7, 11] (Opd.t 40))))
              (CC.seq (CC.fgt [5, 7, 8, 9, 10, 11])
                (CC.seq
                  (CC.reg none
                    [Ins.mk (some 74) none (Act.load none) [Opd.t 5], Ins.mk (some 75) none (Act.load none) [Opd.t 7], Ins.mk (some 76) none (Act.bin BinOp.add (EqK.nil 10)) [Opd.t 74, Opd.t 75], Ins.mk (some 77) none (Act.iadA 2 1) [Opd.t 10, Opd.k (AV.d (DV.int IntKind.i64 (Int.ofNat 0)))],
                      Ins.mk (some 78) none (Act.load none) [Opd.t 77], Ins.mk (some 79) none (Act.bin BinOp.sub (EqK.nil 10)) [Opd.t 76, Opd.t 78], Ins.mk (some 80) none (Act.iadA 2 1) [Opd.t 10, Opd.k (AV.d (DV.int IntKind.i64 (Int.ofNat 1)))], Ins.mk (some 81) none (Act.load none) [Opd.t 80],
                      Ins.mk (some 82) none (Act.call false) [Opd.k (AV.fn Mode.pure 61 [] []), Opd.t 79, Opd.t 81], Ins.mk (some 17) none Act.mv [Opd.t 82]])
                  (CC.seq
                    (CC.reg none
                      [Ins.mk (some 83) none Act.mv [Opd.t 17], Ins.mk (some 84) none (Act.iadA 2 1) [Opd.t 11, Opd.k (AV.d (DV.int IntKind.i64 (Int.ofNat 0)))], Ins.mk (some 85) none (Act.load none) [Opd.t 84],
                        Ins.mk (some 86) none (Act.bin BinOp.sub (EqK.nil 10)) [Opd.k (AV.d (DV.int IntKind.i64 (Int.ofNat 10000))), Opd.t 85], Ins.mk (some 87) none (Act.iadA 2 1) [Opd.t 11, Opd.k (AV.d (DV.int IntKind.i64 (Int.ofNat 1)))], Ins.mk (some 88) none (Act.load none) [Opd.t 87],
                        Ins.mk (some 89) none (Act.call false) [Opd.k (AV.fn Mode.pure 61 [] []), Opd.t 86, Opd.t 88], Ins.mk (some 90) none Act.min [Opd.t 83, Opd.t 89], Ins.mk (some 17) none Act.mv [Opd.t 90]])
                    (CC.seq
                      (CC.reg none
                        [Ins.mk (some 91) none Act.mv [Opd.t 17], Ins.mk (some 92) none Act.max [Opd.k (AV.d (DV.int IntKind.i64 (Int.ofNat 1))), Opd.t 91], Ins.mk none none (Act.storeT 1) [Opd.t 8, Opd.t 92], Ins.mk none none (Act.storeT 1) [Opd.t 9, Opd.k (AV.d (DV.int IntKind.i64 (Int.ofNat 0)))]])
                      CC.ret)))))))))
    [RV.cell 8 none, RV.cell 9 none]
theorem code22_ok : F0 22 = some (.code code22) := by kernel_rfl
def code58 : CFn :=
  CFn.mk
    (CC.seq (CC.reg none [Ins.mk (some 1) none (Act.box 69) [Opd.t 0], Ins.mk (some 2) none Act.mv [Opd.k (AV.d (DV.bool false))]])
      (CC.seq (CC.reg none [Ins.mk (some 3) none (Act.fad 0) [Opd.t 1], Ins.mk (some 4) none (Act.load none) [Opd.t 3], Ins.mk (some 5) none (Act.call false) [Opd.k (AV.fn Mode.pure 59 [] []), Opd.t 4], Ins.mk (some 2) none Act.mv [Opd.t 5]]) CC.ret))
    [RV.tmp 2]
theorem code58_ok : F0 58 = some (.code code58) := by kernel_rfl
def code59 : CFn :=
  CFn.mk
    (CC.seq (CC.reg none [Ins.mk (some 2) none Act.mv [Opd.k (AV.d (DV.bool false))]])
      (CC.seq
        (CC.reg none
          [Ins.mk (some 3) none Act.mv [Opd.t 0], Ins.mk (some 4) none (Act.bin BinOp.eql (EqK.nil 10)) [Opd.t 3, Opd.k (AV.d (DV.int IntKind.i64 (Int.ofNat 4)))], Ins.mk (some 5) none Act.mv [Opd.t 4], Ins.mk (some 6) (some (5, false)) Act.mv [Opd.t 0],
            Ins.mk (some 7) (some (5, false)) (Act.bin BinOp.eql (EqK.nil 10)) [Opd.t 6, Opd.k (AV.d (DV.int IntKind.i64 (Int.ofNat 5)))], Ins.mk (some 8) none Act.pick [Opd.t 5, Opd.k (AV.d (DV.bool true)), Opd.t 7], Ins.mk (some 2) none Act.mv [Opd.t 8]])
        CC.ret))
    [RV.tmp 2]
theorem code59_ok : F0 59 = some (.code code59) := by kernel_rfl
def code60 : CFn :=
  CFn.mk (CC.seq (CC.reg none [Ins.mk (some 1) none (Act.box 51) [Opd.t 0], Ins.mk (some 2) none Act.mv [Opd.k (AV.d DV.nilf)]]) (CC.seq (CC.reg none [Ins.mk (some 3) none (Act.mkf Mode.drop 102 0) [Opd.t 1], Ins.mk (some 2) none Act.mv [Opd.t 3]]) CC.ret)) [RV.tmp 2]
theorem code60_ok : F0 60 = some (.code code60) := by kernel_rfl
def code102 : CFn :=
  CFn.mk
    (CC.seq (CC.reg none [Ins.mk (some 9) none (Act.load none) [Opd.t 1], Ins.mk (some 10) none Act.len [Opd.t 9], Ins.mk (some 11) none Act.mv [Opd.k (AV.d (DV.int IntKind.i64 (Int.ofNat 0)))]])
      (CC.block 0
        (CC.loop [0, 9, 10, 11]
          (CC.seq (CC.reg none [Ins.mk (some 12) none (Act.bin BinOp.lss (EqK.nil 10)) [Opd.t 11, Opd.t 10]])
            (CC.seq (CC.cond (Opd.t 12) CC.skip (CC.exit 0))
              (CC.seq (CC.fgt [0, 9, 10, 11])
                (CC.seq
                  (CC.block 1
                    (CC.seq
                      (CC.reg none
                        [Ins.mk (some 13) none (Act.iad 11) [Opd.t 9, Opd.t 11], Ins.mk (some 14) none (Act.load (some 11)) [Opd.t 13],
                          Ins.mk (some 4) none
                            (Act.new 69
                              [AV.d (DV.int IntKind.i64 (Int.ofNat 0)), AV.d DV.nilsl, AV.d (DV.int IntKind.i64 (Int.ofNat 0)), AV.d (DV.int IntKind.i64 (Int.ofNat 0)), AV.d (DV.int IntKind.i64 (Int.ofNat 0)), AV.d (DV.int IntKind.i64 (Int.ofNat 0)), AV.d (DV.bool false),
                                AV.d (DV.int IntKind.i64 (Int.ofNat 0)), AV.d (DV.int IntKind.i64 (Int.ofNat 0)), AV.d (DV.int IntKind.i64 (Int.ofNat 0)), AV.d DV.nilsl])
                            [],
                          Ins.mk none none (Act.storeT 11) [Opd.t 4, Opd.t 14]])
                      (CC.seq
                        (CC.reg (some [])
                          [Ins.mk (some 15) none (Act.fad 10) [Opd.t 4], Ins.mk (some 16) none (Act.load none) [Opd.t 15], Ins.mk (some 17) none (Act.fad 9) [Opd.t 4], Ins.mk (some 18) none (Act.load none) [Opd.t 17], Ins.mk (some 5) none Act.mv [Opd.t 16], Ins.mk (some 6) none Act.mv [Opd.t 18]])
                        (CC.seq
                          (CC.seq
                            (CC.reg none
                              [Ins.mk (some 19) none (Act.fad 0) [Opd.t 4], Ins.mk (some 20) none (Act.load none) [Opd.t 19], Ins.mk (some 21) none (Act.bin BinOp.eql (EqK.nil 10)) [Opd.t 20, Opd.k (AV.d (DV.int IntKind.i64 (Int.ofNat 1)))], Ins.mk (some 22) none Act.mv [Opd.t 21],
                                Ins.mk (some 23) (some (22, false)) (Act.fad 0) [Opd.t 4], Ins.mk (some 24) (some (22, false)) (Act.load none) [Opd.t 23], Ins.mk (some 25) (some (22, false)) (Act.bin BinOp.eql (EqK.nil 10)) [Opd.t 24, Opd.k (AV.d (DV.int IntKind.i64 (Int.ofNat 2)))],
                                Ins.mk (some 26) none Act.pick [Opd.t 22, Opd.k (AV.d (DV.bool true)), Opd.t 25]])
                            (CC.cond (Opd.t 26)
                              (CC.reg none
                                [Ins.mk (some 27) none (Act.load (some 11)) [Opd.t 4],
                                  Ins.mk (some 28) none
                                    (Act.bslT 69 11
                                      [DV.int IntKind.i64 (Int.ofNat 0), DV.nilsl, DV.int IntKind.i64 (Int.ofNat 0), DV.int IntKind.i64 (Int.ofNat 0), DV.int IntKind.i64 (Int.ofNat 0), DV.int IntKind.i64 (Int.ofNat 0), DV.bool false, DV.int IntKind.i64 (Int.ofNat 0), DV.int IntKind.i64 (Int.ofNat 0),
                                        DV.int IntKind.i64 (Int.ofNat 0), DV.nilsl]
                                      1 [0])
                                    [Opd.t 27],
                                  Ins.mk (some 5) none Act.mv [Opd.t 28], Ins.mk (some 6) none Act.mv [Opd.k (AV.d (DV.int IntKind.i64 (Int.ofNat 1)))]])
                              CC.skip))
                          (CC.seq (CC.fgt [0, 5, 6, 9, 10, 11])
                            (CC.seq (CC.reg none [Ins.mk (some 29) none Act.mv [Opd.t 5], Ins.mk (some 30) none Act.len [Opd.t 29], Ins.mk (some 31) none Act.mv [Opd.k (AV.d (DV.int IntKind.i64 (Int.ofNat 0)))]])
                              (CC.block 2
                                (CC.loop [0, 6, 9, 10, 11, 29, 30, 31]
                                  (CC.seq (CC.reg none [Ins.mk (some 32) none (Act.bin BinOp.lss (EqK.nil 10)) [Opd.t 31, Opd.t 30]])
                                    (CC.seq (CC.cond (Opd.t 32) CC.skip (CC.exit 2))
                                      (CC.seq (CC.fgt [0, 6, 9, 10, 11, 29, 30, 31])
                                        (CC.seq
                                          (CC.block 3
                                            (CC.seq
                                              (CC.reg none
                                                [Ins.mk (some 33) none (Act.iad 11) [Opd.t 29, Opd.t 31], Ins.mk (some 34) none (Act.load (some 11)) [Opd.t 33],
                                                  Ins.mk (some 8) none
                                                    (Act.new 69
                                                      [AV.d (DV.int IntKind.i64 (Int.ofNat 0)), AV.d DV.nilsl, AV.d (DV.int IntKind.i64 (Int.ofNat 0)), AV.d (DV.int IntKind.i64 (Int.ofNat 0)), AV.d (DV.int IntKind.i64 (Int.ofNat 0)), AV.d (DV.int IntKind.i64 (Int.ofNat 0)), AV.d (DV.bool false),
                                                        AV.d (DV.int IntKind.i64 (Int.ofNat 0)), AV.d (DV.int IntKind.i64 (Int.ofNat 0)), AV.d (DV.int IntKind.i64 (Int.ofNat 0)), AV.d DV.nilsl])
                                                    [],
                                                  Ins.mk none none (Act.storeT 11) [Opd.t 8, Opd.t 34]])
                                              (CC.seq
                                                (CC.reg none
                                                  [Ins.mk (some 35) none Act.mv [Opd.t 0], Ins.mk (some 36) none (Act.load (some 11)) [Opd.t 8], Ins.mk (some 37) none Act.mv [Opd.t 6], Ins.mk (some 38) none (Act.call false) [Opd.t 35, Opd.t 36, Opd.t 37],
                                                    Ins.mk (some 39) none (Act.un UnOp.not) [Opd.t 38]])
                                                (CC.cond (Opd.t 39) CC.ret CC.skip))))
                                          (CC.seq (CC.fgt [0, 6, 9, 10, 11, 29, 30, 31]) (CC.reg none [Ins.mk (some 40) none (Act.bin BinOp.add (EqK.nil 10)) [Opd.t 31, Opd.k (AV.d (DV.int IntKind.i64 (Int.ofNat 1)))], Ins.mk (some 31) none Act.mv [Opd.t 40]]))))))))))))))
                  (CC.seq (CC.fgt [0, 9, 10, 11]) (CC.reg none [Ins.mk (some 41) none (Act.bin BinOp.add (EqK.nil 10)) [Opd.t 11, Opd.k (AV.d (DV.int IntKind.i64 (Int.ofNat 1)))], Ins.mk (some 11) none Act.mv [Opd.t 41]])))))))))
    []
theorem code102_ok : F0 102 = some (.code code102) := by kernel_rfl
def code49 : CFn :=
  CFn.mk
    (CC.seq (CC.reg none [Ins.mk (some 2) none Act.mv [Opd.k (AV.d (DV.bool false))]])
      (CC.seq
        (CC.reg none
          [Ins.mk (some 3) none Act.mv [Opd.t 0], Ins.mk (some 4) none (Act.bin BinOp.geq (EqK.nil 10)) [Opd.t 3, Opd.k (AV.d (DV.int IntKind.i64 (Int.ofNat 0)))], Ins.mk (some 5) none Act.mv [Opd.t 4], Ins.mk (some 6) (some (5, true)) Act.mv [Opd.t 0],
            Ins.mk (some 7) (some (5, true)) (Act.call false) [Opd.k (AV.fn Mode.pure 94 [] []), Opd.t 6], Ins.mk (some 8) none Act.pick [Opd.t 5, Opd.t 7, Opd.k (AV.d (DV.bool false))], Ins.mk (some 2) none Act.mv [Opd.t 8]])
        CC.ret))
    [RV.tmp 2]
theorem code49_ok : F0 49 = some (.code code49) := by kernel_rfl
def code61 : CFn :=
  CFn.mk
    (CC.seq (CC.reg none [Ins.mk (some 4) none Act.mv [Opd.k (AV.d (DV.int IntKind.i64 (Int.ofNat 0)))]])
      (CC.seq
        (CC.seq (CC.reg none [Ins.mk (some 6) none Act.mv [Opd.t 1]])
          (CC.block 0
            (CC.seq (CC.reg none [Ins.mk (some 8) none (Act.bin BinOp.eql (EqK.nil 10)) [Opd.t 6, Opd.k (AV.d (DV.int IntKind.i64 (Int.ofNat 0)))], Ins.mk (some 7) none Act.mv [Opd.t 8]])
              (CC.cond (Opd.t 7) (CC.seq (CC.reg none [Ins.mk (some 4) none Act.mv [Opd.k (AV.d (DV.int IntKind.i64 (Int.ofNat 0)))]]) CC.ret)
                (CC.seq (CC.reg none [Ins.mk (some 10) none (Act.bin BinOp.eql (EqK.nil 10)) [Opd.t 6, Opd.k (AV.d (DV.int IntKind.i64 (Int.negSucc 0)))], Ins.mk (some 9) none Act.mv [Opd.t 10]])
                  (CC.cond (Opd.t 9) (CC.seq (CC.reg none [Ins.mk (some 11) none Act.mv [Opd.t 0], Ins.mk (some 12) none (Act.un UnOp.neg) [Opd.t 11], Ins.mk (some 4) none Act.mv [Opd.t 12]]) CC.ret) CC.skip))))))
        (CC.seq (CC.fgt [0, 1, 4])
          (CC.seq (CC.reg none [Ins.mk (some 13) none Act.mv [Opd.t 0], Ins.mk (some 14) none Act.mv [Opd.t 1], Ins.mk (some 15) none (Act.bin BinOp.quo (EqK.nil 10)) [Opd.t 13, Opd.t 14], Ins.mk (some 5) none Act.mv [Opd.t 15]])
            (CC.seq
              (CC.seq
                (CC.reg none
                  [Ins.mk (some 16) none Act.mv [Opd.t 0], Ins.mk (some 17) none Act.mv [Opd.t 1], Ins.mk (some 18) none (Act.bin BinOp.rem (EqK.nil 10)) [Opd.t 16, Opd.t 17], Ins.mk (some 19) none (Act.bin BinOp.neq (EqK.nil 10)) [Opd.t 18, Opd.k (AV.d (DV.int IntKind.i64 (Int.ofNat 0)))],
                    Ins.mk (some 20) none Act.mv [Opd.t 19], Ins.mk (some 21) (some (20, true)) Act.mv [Opd.t 0], Ins.mk (some 22) (some (20, true)) (Act.bin BinOp.lss (EqK.nil 10)) [Opd.t 21, Opd.k (AV.d (DV.int IntKind.i64 (Int.ofNat 0)))], Ins.mk (some 23) (some (20, true)) Act.mv [Opd.t 1],
                    Ins.mk (some 24) (some (20, true)) (Act.bin BinOp.lss (EqK.nil 10)) [Opd.t 23, Opd.k (AV.d (DV.int IntKind.i64 (Int.ofNat 0)))], Ins.mk (some 25) (some (20, true)) (Act.bin BinOp.neq EqK.bool) [Opd.t 22, Opd.t 24],
                    Ins.mk (some 26) none Act.pick [Opd.t 20, Opd.t 25, Opd.k (AV.d (DV.bool false))]])
                (CC.cond (Opd.t 26) (CC.reg none [Ins.mk (some 27) none Act.mv [Opd.t 5], Ins.mk (some 28) none (Act.bin BinOp.sub (EqK.nil 10)) [Opd.t 27, Opd.k (AV.d (DV.int IntKind.i64 (Int.ofNat 1)))], Ins.mk (some 5) none Act.mv [Opd.t 28]]) CC.skip))
              (CC.seq (CC.fgt [4, 5]) (CC.seq (CC.reg none [Ins.mk (some 29) none Act.mv [Opd.t 5], Ins.mk (some 4) none Act.mv [Opd.t 29]]) CC.ret)))))))
    [RV.tmp 4]
theorem code61_ok : F0 61 = some (.code code61) := by kernel_rfl
def code89 : CFn :=
  CFn.mk
    (CC.seq (CC.reg none [Ins.mk (some 2) none Act.mv [Opd.k (AV.d (DV.bool false))]])
      (CC.seq
        (CC.seq (CC.reg none [Ins.mk (some 3) none Act.mv [Opd.t 0], Ins.mk (some 4) none (Act.call false) [Opd.k (AV.fn Mode.pure 128 [] []), Opd.t 3]])
          (CC.block 0
            (CC.seq
              (CC.seq (CC.reg none [Ins.mk (some 6) none (Act.bin BinOp.eql (EqK.nil 10)) [Opd.t 4, Opd.k (AV.d (DV.str [UInt8.ofNat 115, UInt8.ofNat 112, UInt8.ofNat 97, UInt8.ofNat 110]))], Ins.mk (some 5) none Act.mv [Opd.t 6]])
                (CC.cond (Opd.t 5) CC.skip
                  (CC.seq (CC.reg none [Ins.mk (some 7) none (Act.bin BinOp.eql (EqK.nil 10)) [Opd.t 4, Opd.k (AV.d (DV.str [UInt8.ofNat 97, UInt8.ofNat 117, UInt8.ofNat 116, UInt8.ofNat 111]))], Ins.mk (some 5) none Act.mv [Opd.t 7]])
                    (CC.cond (Opd.t 5) CC.skip
                      (CC.seq (CC.reg none [Ins.mk (some 8) none (Act.bin BinOp.eql (EqK.nil 10)) [Opd.t 4, Opd.k (AV.d (DV.str [UInt8.ofNat 105, UInt8.ofNat 110, UInt8.ofNat 105, UInt8.ofNat 116, UInt8.ofNat 105, UInt8.ofNat 97, UInt8.ofNat 108]))], Ins.mk (some 5) none Act.mv [Opd.t 8]])
                        (CC.cond (Opd.t 5) CC.skip
                          (CC.seq (CC.reg none [Ins.mk (some 9) none (Act.bin BinOp.eql (EqK.nil 10)) [Opd.t 4, Opd.k (AV.d (DV.str [UInt8.ofNat 105, UInt8.ofNat 110, UInt8.ofNat 104, UInt8.ofNat 101, UInt8.ofNat 114, UInt8.ofNat 105, UInt8.ofNat 116]))], Ins.mk (some 5) none Act.mv [Opd.t 9]])
                            (CC.cond (Opd.t 5) CC.skip
                              (CC.seq (CC.reg none [Ins.mk (some 10) none (Act.bin BinOp.eql (EqK.nil 10)) [Opd.t 4, Opd.k (AV.d (DV.str [UInt8.ofNat 117, UInt8.ofNat 110, UInt8.ofNat 115, UInt8.ofNat 101, UInt8.ofNat 116]))], Ins.mk (some 5) none Act.mv [Opd.t 10]])
                                (CC.cond (Opd.t 5) CC.skip
                                  (CC.seq
                                    (CC.reg none [Ins.mk (some 11) none (Act.bin BinOp.eql (EqK.nil 10)) [Opd.t 4, Opd.k (AV.d (DV.str [UInt8.ofNat 100, UInt8.ofNat 101, UInt8.ofNat 102, UInt8.ofNat 97, UInt8.ofNat 117, UInt8.ofNat 108, UInt8.ofNat 116]))], Ins.mk (some 5) none Act.mv [Opd.t 11]])
                                    (CC.cond (Opd.t 5) CC.skip
                                      (CC.reg none [Ins.mk (some 12) none (Act.bin BinOp.eql (EqK.nil 10)) [Opd.t 4, Opd.k (AV.d (DV.str [UInt8.ofNat 114, UInt8.ofNat 101, UInt8.ofNat 118, UInt8.ofNat 101, UInt8.ofNat 114, UInt8.ofNat 116]))], Ins.mk (some 5) none Act.mv [Opd.t 12]])))))))))))))
              (CC.seq (CC.fgt [0, 2, 5]) (CC.cond (Opd.t 5) (CC.seq (CC.reg none [Ins.mk (some 2) none Act.mv [Opd.k (AV.d (DV.bool false))]]) CC.ret) CC.skip)))))
        (CC.seq (CC.fgt [0, 2]) (CC.seq (CC.reg none [Ins.mk (some 13) none Act.mv [Opd.t 0], Ins.mk (some 14) none (Act.call false) [Opd.k (AV.fn Mode.pure 129 [] []), Opd.t 13], Ins.mk (some 2) none Act.mv [Opd.t 14]]) CC.ret))))
    [RV.tmp 2]
theorem code89_ok : F0 89 = some (.code code89) := by kernel_rfl
def code129 : CFn :=
  CFn.mk
    (CC.seq (CC.reg none [Ins.mk (some 2) none Act.mv [Opd.k (AV.d (DV.bool false))]])
      (CC.seq
        (CC.reg none
          [Ins.mk (some 3) none Act.mv [Opd.t 0], Ins.mk (some 4) none (Act.bin BinOp.neq (EqK.nil 10)) [Opd.t 3, Opd.k (AV.d (DV.str []))], Ins.mk (some 5) none Act.mv [Opd.t 4], Ins.mk (some 6) (some (5, true)) Act.mv [Opd.t 0], Ins.mk (some 7) (some (5, true)) Act.lens [Opd.t 6],
            Ins.mk (some 8) (some (5, true)) (Act.bin BinOp.leq (EqK.nil 10)) [Opd.t 7, Opd.k (AV.d (DV.int IntKind.i64 (Int.ofNat 64)))], Ins.mk (some 9) none Act.pick [Opd.t 5, Opd.t 8, Opd.k (AV.d (DV.bool false))], Ins.mk (some 10) none Act.mv [Opd.t 9],
            Ins.mk (some 11) (some (10, true)) Act.mv [Opd.t 0], Ins.mk (some 12) (some (10, true)) (Act.call false) [Opd.k (AV.fn Mode.pure 154 [] []), Opd.t 11, Opd.k (AV.d (DV.int IntKind.u8 (Int.ofNat 0)))],
            Ins.mk (some 13) (some (10, true)) (Act.bin BinOp.lss (EqK.nil 10)) [Opd.t 12, Opd.k (AV.d (DV.int IntKind.i64 (Int.ofNat 0)))], Ins.mk (some 14) none Act.pick [Opd.t 10, Opd.t 13, Opd.k (AV.d (DV.bool false))], Ins.mk (some 2) none Act.mv [Opd.t 14]])
        CC.ret))
    [RV.tmp 2]
theorem code129_ok : F0 129 = some (.code code129) := by kernel_rfl
def code21 : CFn :=
  CFn.mk
    (CC.seq (CC.reg none [Ins.mk (some 2) none Act.mv [Opd.k (AV.d (DV.bool false))]])
      (CC.seq (CC.reg none [Ins.mk (some 3) none Act.mv [Opd.k (AV.d (DV.int IntKind.i64 (Int.ofNat 0)))]])
        (CC.seq
          (CC.seq (CC.reg none [Ins.mk (some 12) none Act.mv [Opd.t 0], Ins.mk (some 13) none Act.len [Opd.t 12], Ins.mk (some 14) none Act.mv [Opd.k (AV.d (DV.int IntKind.i64 (Int.ofNat 0)))]])
            (CC.block 0
              (CC.loop [2, 3, 12, 13, 14]
                (CC.seq (CC.reg none [Ins.mk (some 15) none (Act.bin BinOp.lss (EqK.nil 10)) [Opd.t 14, Opd.t 13]])
                  (CC.seq (CC.cond (Opd.t 15) CC.skip (CC.exit 0))
                    (CC.seq (CC.fgt [2, 3, 12, 13, 14])
                      (CC.seq
                        (CC.block 1
                          (CC.seq
                            (CC.reg none
                              [Ins.mk (some 16) none (Act.iad 11) [Opd.t 12, Opd.t 14], Ins.mk (some 17) none (Act.load (some 11)) [Opd.t 16],
                                Ins.mk (some 5) none
                                  (Act.new 69
                                    [AV.d (DV.int IntKind.i64 (Int.ofNat 0)), AV.d DV.nilsl, AV.d (DV.int IntKind.i64 (Int.ofNat 0)), AV.d (DV.int IntKind.i64 (Int.ofNat 0)), AV.d (DV.int IntKind.i64 (Int.ofNat 0)), AV.d (DV.int IntKind.i64 (Int.ofNat 0)), AV.d (DV.bool false),
                                      AV.d (DV.int IntKind.i64 (Int.ofNat 0)), AV.d (DV.int IntKind.i64 (Int.ofNat 0)), AV.d (DV.int IntKind.i64 (Int.ofNat 0)), AV.d DV.nilsl])
                                  [],
                                Ins.mk none none (Act.storeT 11) [Opd.t 5, Opd.t 17]])
                            (CC.seq
                              (CC.reg none
                                [Ins.mk (some 18) none Act.mv [Opd.t 3], Ins.mk (some 19) none (Act.fad 10) [Opd.t 5], Ins.mk (some 20) none (Act.load none) [Opd.t 19], Ins.mk (some 21) none Act.len [Opd.t 20],
                                  Ins.mk (some 22) none Act.min [Opd.t 21, Opd.k (AV.d (DV.int IntKind.i64 (Int.ofNat 1000)))], Ins.mk (some 23) none (Act.bin BinOp.add (EqK.nil 10)) [Opd.k (AV.d (DV.int IntKind.i64 (Int.ofNat 1))), Opd.t 22],
                                  Ins.mk (some 24) none (Act.bin BinOp.add (EqK.nil 10)) [Opd.t 18, Opd.t 23], Ins.mk (some 3) none Act.mv [Opd.t 24]])
                              (CC.seq
                                (CC.seq
                                  (CC.reg none
                                    [Ins.mk (some 25) none Act.mv [Opd.t 3], Ins.mk (some 26) none (Act.bin BinOp.gtr (EqK.nil 10)) [Opd.t 25, Opd.k (AV.d (DV.int IntKind.i64 (Int.ofNat 400)))], Ins.mk (some 27) none Act.mv [Opd.t 26], Ins.mk (some 28) (some (27, false)) (Act.fad 1) [Opd.t 5],
                                      Ins.mk (some 29) (some (27, false)) (Act.load none) [Opd.t 28], Ins.mk (some 30) (some (27, false)) Act.len [Opd.t 29], Ins.mk (some 31) (some (27, false)) (Act.bin BinOp.gtr (EqK.nil 10)) [Opd.t 30, Opd.k (AV.d (DV.int IntKind.i64 (Int.ofNat 30)))],
                                      Ins.mk (some 32) none Act.pick [Opd.t 27, Opd.k (AV.d (DV.bool true)), Opd.t 31]])
                                  (CC.cond (Opd.t 32) (CC.seq (CC.reg none [Ins.mk (some 2) none Act.mv [Opd.k (AV.d (DV.bool false))]]) CC.ret) CC.skip))
                                (CC.seq (CC.fgt [2, 3, 5, 12, 13, 14])
                                  (CC.seq
                                    (CC.seq (CC.reg none [Ins.mk (some 33) none (Act.fad 1) [Opd.t 5], Ins.mk (some 34) none (Act.load none) [Opd.t 33], Ins.mk (some 35) none Act.len [Opd.t 34], Ins.mk (some 36) none Act.mv [Opd.k (AV.d (DV.int IntKind.i64 (Int.ofNat 0)))]])
                                      (CC.block 2
                                        (CC.loop [2, 3, 5, 12, 13, 14, 34, 35, 36]
                                          (CC.seq (CC.reg none [Ins.mk (some 37) none (Act.bin BinOp.lss (EqK.nil 10)) [Opd.t 36, Opd.t 35]])
                                            (CC.seq (CC.cond (Opd.t 37) CC.skip (CC.exit 2))
                                              (CC.seq (CC.fgt [2, 3, 5, 12, 13, 14, 34, 35, 36])
                                                (CC.seq
                                                  (CC.block 3
                                                    (CC.seq (CC.reg none [Ins.mk (some 38) none (Act.iad 1) [Opd.t 34, Opd.t 36], Ins.mk (some 39) none (Act.load none) [Opd.t 38], Ins.mk (some 7) none Act.mv [Opd.t 39]])
                                                      (CC.seq (CC.reg none [Ins.mk (some 40) none Act.mv [Opd.t 7], Ins.mk (some 41) none Act.lens [Opd.t 40], Ins.mk (some 42) none (Act.bin BinOp.gtr (EqK.nil 10)) [Opd.t 41, Opd.k (AV.d (DV.int IntKind.i64 (Int.ofNat 100)))]])
                                                        (CC.cond (Opd.t 42) (CC.seq (CC.reg none [Ins.mk (some 2) none Act.mv [Opd.k (AV.d (DV.bool false))]]) CC.ret) CC.skip))))
                                                  (CC.seq (CC.fgt [2, 3, 5, 12, 13, 14, 34, 35, 36]) (CC.reg none [Ins.mk (some 43) none (Act.bin BinOp.add (EqK.nil 10)) [Opd.t 36, Opd.k (AV.d (DV.int IntKind.i64 (Int.ofNat 1)))], Ins.mk (some 36) none Act.mv [Opd.t 43]])))))))))
                                    (CC.seq (CC.fgt [2, 3, 5, 12, 13, 14])
                                      (CC.seq (CC.reg none [Ins.mk (some 44) none (Act.fad 10) [Opd.t 5], Ins.mk (some 45) none (Act.load none) [Opd.t 44], Ins.mk (some 46) none Act.len [Opd.t 45], Ins.mk (some 47) none Act.mv [Opd.k (AV.d (DV.int IntKind.i64 (Int.ofNat 0)))]])
                                        (CC.block 4
                                          (CC.loop [2, 3, 12, 13, 14, 45, 46, 47]
                                            (CC.seq (CC.reg none [Ins.mk (some 48) none (Act.bin BinOp.lss (EqK.nil 10)) [Opd.t 47, Opd.t 46]])
                                              (CC.seq (CC.cond (Opd.t 48) CC.skip (CC.exit 4))
                                                (CC.seq (CC.fgt [2, 3, 12, 13, 14, 45, 46, 47])
                                                  (CC.seq
                                                    (CC.block 5
                                                      (CC.seq
                                                        (CC.reg none
                                                          [Ins.mk (some 49) none (Act.iad 11) [Opd.t 45, Opd.t 47], Ins.mk (some 50) none (Act.load (some 11)) [Opd.t 49],
                                                            Ins.mk (some 9) none
                                                              (Act.new 69
                                                                [AV.d (DV.int IntKind.i64 (Int.ofNat 0)), AV.d DV.nilsl, AV.d (DV.int IntKind.i64 (Int.ofNat 0)), AV.d (DV.int IntKind.i64 (Int.ofNat 0)), AV.d (DV.int IntKind.i64 (Int.ofNat 0)), AV.d (DV.int IntKind.i64 (Int.ofNat 0)),
                                                                  AV.d (DV.bool false), AV.d (DV.int IntKind.i64 (Int.ofNat 0)), AV.d (DV.int IntKind.i64 (Int.ofNat 0)), AV.d (DV.int IntKind.i64 (Int.ofNat 0)), AV.d DV.nilsl])
                                                              [],
                                                            Ins.mk none none (Act.storeT 11) [Opd.t 9, Opd.t 50]])
                                                        (CC.seq
                                                          (CC.seq
                                                            (CC.reg none
                                                              [Ins.mk (some 51) none (Act.fad 1) [Opd.t 9], Ins.mk (some 52) none (Act.load none) [Opd.t 51], Ins.mk (some 53) none Act.len [Opd.t 52],
                                                                Ins.mk (some 54) none (Act.bin BinOp.gtr (EqK.nil 10)) [Opd.t 53, Opd.k (AV.d (DV.int IntKind.i64 (Int.ofNat 30)))], Ins.mk (some 55) none Act.mv [Opd.t 54], Ins.mk (some 56) (some (55, false)) (Act.fad 10) [Opd.t 9],
                                                                Ins.mk (some 57) (some (55, false)) (Act.load none) [Opd.t 56], Ins.mk (some 58) (some (55, false)) Act.len [Opd.t 57],
                                                                Ins.mk (some 59) (some (55, false)) (Act.bin BinOp.gtr (EqK.nil 10)) [Opd.t 58, Opd.k (AV.d (DV.int IntKind.i64 (Int.ofNat 0)))], Ins.mk (some 60) none Act.pick [Opd.t 55, Opd.k (AV.d (DV.bool true)), Opd.t 59]])
                                                            (CC.cond (Opd.t 60) (CC.seq (CC.reg none [Ins.mk (some 2) none Act.mv [Opd.k (AV.d (DV.bool false))]]) CC.ret) CC.skip))
                                                          (CC.seq (CC.fgt [2, 3, 9, 12, 13, 14, 45, 46, 47])
                                                            (CC.seq (CC.reg none [Ins.mk (some 61) none (Act.fad 1) [Opd.t 9], Ins.mk (some 62) none (Act.load none) [Opd.t 61], Ins.mk (some 63) none Act.len [Opd.t 62], Ins.mk (some 64) none Act.mv [Opd.k (AV.d (DV.int IntKind.i64 (Int.ofNat 0)))]])
                                                              (CC.block 6
                                                                (CC.loop [2, 3, 12, 13, 14, 45, 46, 47, 62, 63, 64]
                                                                  (CC.seq (CC.reg none [Ins.mk (some 65) none (Act.bin BinOp.lss (EqK.nil 10)) [Opd.t 64, Opd.t 63]])
                                                                    (CC.seq (CC.cond (Opd.t 65) CC.skip (CC.exit 6))
                                                                      (CC.seq (CC.fgt [2, 3, 12, 13, 14, 45, 46, 47, 62, 63, 64])
                                                                        (CC.seq
                                                                          (CC.block 7
                                                                            (CC.seq (CC.reg none [Ins.mk (some 66) none (Act.iad 1) [Opd.t 62, Opd.t 64], Ins.mk (some 67) none (Act.load none) [Opd.t 66], Ins.mk (some 11) none Act.mv [Opd.t 67]])
                                                                              (CC.seq (CC.reg none [Ins.mk (some 68) none Act.mv [Opd.t 11], Ins.mk (some 69) none Act.lens [Opd.t 68], Ins.mk (some 70) none (Act.bin BinOp.gtr (EqK.nil 10)) [Opd.t 69, Opd.k (AV.d (DV.int IntKind.i64 (Int.ofNat 100)))]])
                                                                                (CC.cond (Opd.t 70) (CC.seq (CC.reg none [Ins.mk (some 2) none Act.mv [Opd.k (AV.d (DV.bool false))]]) CC.ret) CC.skip))))
                                                                          (CC.seq (CC.fgt [2, 3, 12, 13, 14, 45, 46, 47, 62, 63, 64])
                                                                            (CC.reg none [Ins.mk (some 71) none (Act.bin BinOp.add (EqK.nil 10)) [Opd.t 64, Opd.k (AV.d (DV.int IntKind.i64 (Int.ofNat 1)))], Ins.mk (some 64) none Act.mv [Opd.t 71]])))))))))))))
                                                    (CC.seq (CC.fgt [2, 3, 12, 13, 14, 45, 46, 47]) (CC.reg none [Ins.mk (some 72) none (Act.bin BinOp.add (EqK.nil 10)) [Opd.t 47, Opd.k (AV.d (DV.int IntKind.i64 (Int.ofNat 1)))], Ins.mk (some 47) none Act.mv [Opd.t 72]]))))))))))))))))
                        (CC.seq (CC.fgt [2, 3, 12, 13, 14]) (CC.reg none [Ins.mk (some 73) none (Act.bin BinOp.add (EqK.nil 10)) [Opd.t 14, Opd.k (AV.d (DV.int IntKind.i64 (Int.ofNat 1)))], Ins.mk (some 14) none Act.mv [Opd.t 73]])))))))))
          (CC.seq (CC.fgt [2]) (CC.seq (CC.reg none [Ins.mk (some 2) none Act.mv [Opd.k (AV.d (DV.bool true))]]) CC.ret)))))
    [RV.tmp 2]
theorem code21_ok : F0 21 = some (.code code21) := by kernel_rfl
def code5 : CFn :=
  CFn.mk
    (CC.seq (CC.reg none [Ins.mk (some 8) none Act.mv [Opd.k (AV.d (DV.bool false))]])
      (CC.seq
        (CC.seq (CC.reg none [Ins.mk (some 13) none Act.mv [Opd.t 0], Ins.mk (some 14) none (Act.call false) [Opd.k (AV.fn Mode.pure 21 [] []), Opd.t 13], Ins.mk (some 15) none (Act.un UnOp.not) [Opd.t 14]])
          (CC.cond (Opd.t 15) (CC.seq (CC.reg none [Ins.mk (some 16) none (Act.call false) [Opd.k (AV.fn Mode.pure 20 [] [])], Ins.mk (some 8) none Act.mv [Opd.t 16]]) CC.ret) CC.skip))
        (CC.seq (CC.fgt [0, 1, 2, 3, 8])
          (CC.seq
            (CC.reg none
              [Ins.mk (some 18) none Act.mv [Opd.t 0], Ins.mk (some 19) none Act.mv [Opd.t 1], Ins.mk (some 20) none Act.mv [Opd.t 2], Ins.mk (some 21) none Act.mv [Opd.t 3], Ins.mk (some 22) none (Act.call false) [Opd.k (AV.fn Mode.pure 22 [] []), Opd.t 18, Opd.t 19, Opd.t 20, Opd.t 21],
                Ins.mk (some 17) none Act.mv [Opd.t 22], Ins.mk (some 23) none (Act.ext 0) [Opd.t 17], Ins.mk (some 24) none (Act.ext 1) [Opd.t 17], Ins.mk (some 9) none Act.mv [Opd.t 23], Ins.mk (some 10) none Act.mv [Opd.t 24]])
            (CC.seq
              (CC.reg none
                [Ins.mk (some 26) none Act.mv [Opd.t 0], Ins.mk (some 27) none Act.mv [Opd.t 1], Ins.mk (some 28) none Act.mv [Opd.t 2], Ins.mk (some 29) none Act.mv [Opd.t 3], Ins.mk (some 30) none (Act.call false) [Opd.k (AV.fn Mode.pure 23 [] []), Opd.t 26, Opd.t 27, Opd.t 28, Opd.t 29],
                  Ins.mk (some 25) none Act.mv [Opd.t 30], Ins.mk (some 31) none (Act.ext 0) [Opd.t 25], Ins.mk (some 32) none (Act.ext 1) [Opd.t 25], Ins.mk (some 11) none Act.mv [Opd.t 31], Ins.mk (some 12) none Act.mv [Opd.t 32]])
              (CC.seq
                (CC.reg none
                  [Ins.mk (some 33) none Act.mv [Opd.t 9], Ins.mk (some 34) none Act.mv [Opd.t 11], Ins.mk (some 35) none (Act.bin BinOp.eql (EqK.nil 10)) [Opd.t 33, Opd.t 34], Ins.mk (some 36) none Act.mv [Opd.t 35], Ins.mk (some 37) (some (36, true)) Act.mv [Opd.t 10],
                    Ins.mk (some 38) (some (36, true)) Act.mv [Opd.t 12], Ins.mk (some 39) (some (36, true)) (Act.bin BinOp.eql (EqK.nil 10)) [Opd.t 37, Opd.t 38], Ins.mk (some 40) none Act.pick [Opd.t 36, Opd.t 39, Opd.k (AV.d (DV.bool false))], Ins.mk (some 41) none Act.mv [Opd.t 40],
                    Ins.mk (some 42) (some (41, true)) (Act.call false) [Opd.k (AV.fn Mode.pure 20 [] [])], Ins.mk (some 43) none Act.pick [Opd.t 41, Opd.t 42, Opd.k (AV.d (DV.bool false))], Ins.mk (some 8) none Act.mv [Opd.t 43]])
                CC.ret))))))
    [RV.tmp 8]
theorem code5_ok : F0 5 = some (.code code5) := by kernel_rfl
def code139 : CFn :=
  CFn.mk
    (CC.seq (CC.reg none [Ins.mk (some 6) none Act.mv [Opd.k (AV.d (DV.int IntKind.i64 (Int.ofNat 0)))], Ins.mk (some 7) none Act.mv [Opd.k (AV.d (DV.int IntKind.i64 (Int.ofNat 0)))]])
      (CC.seq
        (CC.seq (CC.reg none [Ins.mk (some 11) none Act.mv [Opd.t 2], Ins.mk (some 12) none (Act.bin BinOp.eql (EqK.nil 10)) [Opd.t 11, Opd.k (AV.d (DV.int IntKind.i64 (Int.ofNat 0)))]])
          (CC.cond (Opd.t 12) (CC.seq (CC.reg none [Ins.mk (some 6) none Act.mv [Opd.k (AV.d (DV.int IntKind.i64 (Int.ofNat 0)))], Ins.mk (some 7) none Act.mv [Opd.k (AV.d (DV.int IntKind.i64 (Int.ofNat 2)))]]) CC.ret) CC.skip))
        (CC.seq (CC.fgt [0, 1, 2, 6, 7])
          (CC.seq
            (CC.reg none
              [Ins.mk (some 14) none Act.mv [Opd.t 0], Ins.mk (some 15) none (Act.call false) [Opd.k (AV.fn Mode.pure 167 [] []), Opd.t 14], Ins.mk (some 16) none Act.mv [Opd.t 1], Ins.mk (some 17) none (Act.call false) [Opd.k (AV.fn Mode.pure 167 [] []), Opd.t 16],
                Ins.mk (some 18) none (Act.call false) [Opd.k (AV.fn Mode.pure 166 [] []), Opd.t 15, Opd.t 17], Ins.mk (some 19) none Act.mv [Opd.t 2], Ins.mk (some 20) none (Act.call false) [Opd.k (AV.fn Mode.pure 167 [] []), Opd.t 19],
                Ins.mk (some 21) none (Act.call false) [Opd.k (AV.fn Mode.pure 165 [] []), Opd.t 18, Opd.t 20], Ins.mk (some 13) none Act.mv [Opd.t 21], Ins.mk (some 22) none (Act.ext 0) [Opd.t 13], Ins.mk (some 23) none (Act.ext 1) [Opd.t 13],
                Ins.mk (some 8) none (Act.new 186 [AV.d (DV.int IntKind.u64 (Int.ofNat 0)), AV.d (DV.int IntKind.u64 (Int.ofNat 0))]) [], Ins.mk none none (Act.storeT 2) [Opd.t 8, Opd.t 22], Ins.mk (some 9) none Act.mv [Opd.t 23]])
            (CC.seq
              (CC.reg none
                [Ins.mk (some 24) none Act.mv [Opd.t 0], Ins.mk (some 25) none (Act.bin BinOp.lss (EqK.nil 10)) [Opd.t 24, Opd.k (AV.d (DV.int IntKind.i64 (Int.ofNat 0)))], Ins.mk (some 26) none Act.mv [Opd.t 1],
                  Ins.mk (some 27) none (Act.bin BinOp.lss (EqK.nil 10)) [Opd.t 26, Opd.k (AV.d (DV.int IntKind.i64 (Int.ofNat 0)))], Ins.mk (some 28) none (Act.bin BinOp.neq EqK.bool) [Opd.t 25, Opd.t 27], Ins.mk (some 29) none Act.mv [Opd.t 2],
                  Ins.mk (some 30) none (Act.bin BinOp.lss (EqK.nil 10)) [Opd.t 29, Opd.k (AV.d (DV.int IntKind.i64 (Int.ofNat 0)))], Ins.mk (some 31) none (Act.bin BinOp.neq EqK.bool) [Opd.t 28, Opd.t 30], Ins.mk (some 32) none Act.mv [Opd.t 31],
                  Ins.mk (some 33) (some (32, true)) (Act.load (some 2)) [Opd.t 8], Ins.mk (some 34) (some (32, true)) (Act.build [AV.d (DV.int IntKind.u64 (Int.ofNat 0)), AV.d (DV.int IntKind.u64 (Int.ofNat 0))] []) [],
                  Ins.mk (some 35) (some (32, true)) (Act.bin BinOp.neq (EqK.cells 2 [(0, 1), (1, 1)])) [Opd.t 33, Opd.t 34], Ins.mk (some 36) (some (32, true)) Act.mv [Opd.t 35], Ins.mk (some 37) (some (36, false)) Act.mv [Opd.t 9],
                  Ins.mk (some 38) (some (36, false)) (Act.bin BinOp.gtr (EqK.nil 10)) [Opd.t 37, Opd.k (AV.d (DV.int IntKind.u64 (Int.ofNat 0)))], Ins.mk (some 39) (some (32, true)) Act.pick [Opd.t 36, Opd.k (AV.d (DV.bool true)), Opd.t 38],
                  Ins.mk (some 40) none Act.pick [Opd.t 32, Opd.t 39, Opd.k (AV.d (DV.bool false))], Ins.mk (some 10) none Act.mv [Opd.t 40]])
              (CC.seq
                (CC.seq
                  (CC.reg none
                    [Ins.mk (some 41) none Act.mv [Opd.t 10], Ins.mk (some 42) none Act.mv [Opd.t 41], Ins.mk (some 43) (some (42, true)) Act.mv [Opd.t 9], Ins.mk (some 44) (some (42, true)) (Act.bin BinOp.gtr (EqK.nil 10)) [Opd.t 43, Opd.k (AV.d (DV.int IntKind.u64 (Int.ofNat 0)))],
                      Ins.mk (some 45) none Act.pick [Opd.t 42, Opd.t 44, Opd.k (AV.d (DV.bool false))]])
                  (CC.cond (Opd.t 45) (CC.reg none [Ins.mk (some 46) none (Act.load (some 2)) [Opd.t 8], Ins.mk (some 47) none (Act.call false) [Opd.k (AV.fn Mode.pure 168 [] []), Opd.t 46, Opd.k (AV.d (DV.int IntKind.u64 (Int.ofNat 1)))], Ins.mk none none (Act.storeT 2) [Opd.t 8, Opd.t 47]])
                    CC.skip))
                (CC.seq (CC.fgt [6, 7, 8, 10])
                  (CC.seq
                    (CC.seq
                      (CC.reg none
                        [Ins.mk (some 48) none (Act.fad 0) [Opd.t 8], Ins.mk (some 49) none (Act.load none) [Opd.t 48], Ins.mk (some 50) none (Act.bin BinOp.gtr (EqK.nil 10)) [Opd.t 49, Opd.k (AV.d (DV.int IntKind.u64 (Int.ofNat 0)))], Ins.mk (some 51) none Act.mv [Opd.t 50],
                          Ins.mk (some 52) (some (51, false)) (Act.fad 1) [Opd.t 8], Ins.mk (some 53) (some (51, false)) (Act.load none) [Opd.t 52], Ins.mk (some 54) (some (51, false)) (Act.bin BinOp.gtr (EqK.nil 10)) [Opd.t 53, Opd.k (AV.d (DV.int IntKind.u64 (Int.ofNat 9223372036854775807)))],
                          Ins.mk (some 55) (some (51, false)) Act.mv [Opd.t 54], Ins.mk (some 56) (some (55, true)) Act.mv [Opd.t 10], Ins.mk (some 57) (some (55, true)) Act.mv [Opd.t 56], Ins.mk (some 58) (some (57, true)) (Act.fad 1) [Opd.t 8],
                          Ins.mk (some 59) (some (57, true)) (Act.load none) [Opd.t 58], Ins.mk (some 60) (some (57, true)) (Act.bin BinOp.eql (EqK.nil 10)) [Opd.t 59, Opd.k (AV.d (DV.int IntKind.u64 (Int.ofNat 9223372036854775808)))],
                          Ins.mk (some 61) (some (55, true)) Act.pick [Opd.t 57, Opd.t 60, Opd.k (AV.d (DV.bool false))], Ins.mk (some 62) (some (55, true)) (Act.un UnOp.not) [Opd.t 61], Ins.mk (some 63) (some (51, false)) Act.pick [Opd.t 55, Opd.t 62, Opd.k (AV.d (DV.bool false))],
                          Ins.mk (some 64) none Act.pick [Opd.t 51, Opd.k (AV.d (DV.bool true)), Opd.t 63]])
                      (CC.cond (Opd.t 64) (CC.seq (CC.reg none [Ins.mk (some 6) none Act.mv [Opd.k (AV.d (DV.int IntKind.i64 (Int.ofNat 0)))], Ins.mk (some 7) none Act.mv [Opd.k (AV.d (DV.int IntKind.i64 (Int.ofNat 10)))]]) CC.ret) CC.skip))
                    (CC.seq (CC.fgt [6, 7, 8, 10])
                      (CC.seq
                        (CC.seq (CC.reg none [Ins.mk (some 65) none Act.mv [Opd.t 10]])
                          (CC.cond (Opd.t 65)
                            (CC.seq
                              (CC.reg none
                                [Ins.mk (some 66) none (Act.fad 1) [Opd.t 8], Ins.mk (some 67) none (Act.load none) [Opd.t 66], Ins.mk (some 68) none (Act.bin BinOp.sub (EqK.nil 10)) [Opd.k (AV.d (DV.int IntKind.u64 (Int.ofNat 0))), Opd.t 67], Ins.mk (some 69) none (Act.cvi IntKind.i64) [Opd.t 68],
                                  Ins.mk (some 6) none Act.mv [Opd.t 69], Ins.mk (some 7) none Act.mv [Opd.k (AV.d (DV.int IntKind.i64 (Int.ofNat 0)))]])
                              CC.ret)
                            CC.skip))
                        (CC.seq (CC.fgt [6, 7, 8])
                          (CC.seq
                            (CC.reg none
                              [Ins.mk (some 70) none (Act.fad 1) [Opd.t 8], Ins.mk (some 71) none (Act.load none) [Opd.t 70], Ins.mk (some 72) none (Act.cvi IntKind.i64) [Opd.t 71], Ins.mk (some 6) none Act.mv [Opd.t 72], Ins.mk (some 7) none Act.mv [Opd.k (AV.d (DV.int IntKind.i64 (Int.ofNat 0)))]])
                            CC.ret))))))))))))
    [RV.tmp 6, RV.tmp 7]
theorem code139_ok : F0 139 = some (.code code139) := by kernel_rfl
def code90 : CFn :=
  CFn.mk
    (CC.seq (CC.reg none [Ins.mk (some 2) none Act.mv [Opd.k (AV.d (DV.bool false))]])
      (CC.seq
        (CC.reg none
          [Ins.mk (some 5) none (Act.bslT 9 1 [DV.str []] 7 [0, 1, 2, 3, 4, 5, 6])
              [Opd.k (AV.d (DV.str [UInt8.ofNat 115, UInt8.ofNat 112, UInt8.ofNat 97, UInt8.ofNat 110])), Opd.k (AV.d (DV.str [UInt8.ofNat 97, UInt8.ofNat 117, UInt8.ofNat 116, UInt8.ofNat 111])),
                Opd.k (AV.d (DV.str [UInt8.ofNat 105, UInt8.ofNat 110, UInt8.ofNat 105, UInt8.ofNat 116, UInt8.ofNat 105, UInt8.ofNat 97, UInt8.ofNat 108])), Opd.k (AV.d (DV.str [UInt8.ofNat 105, UInt8.ofNat 110, UInt8.ofNat 104, UInt8.ofNat 101, UInt8.ofNat 114, UInt8.ofNat 105, UInt8.ofNat 116])),
                Opd.k (AV.d (DV.str [UInt8.ofNat 117, UInt8.ofNat 110, UInt8.ofNat 115, UInt8.ofNat 101, UInt8.ofNat 116])), Opd.k (AV.d (DV.str [UInt8.ofNat 100, UInt8.ofNat 101, UInt8.ofNat 102, UInt8.ofNat 97, UInt8.ofNat 117, UInt8.ofNat 108, UInt8.ofNat 116])),
                Opd.k (AV.d (DV.str [UInt8.ofNat 114, UInt8.ofNat 101, UInt8.ofNat 118, UInt8.ofNat 101, UInt8.ofNat 114, UInt8.ofNat 116]))],
            Ins.mk (some 3) none Act.mv [Opd.t 5]])
        (CC.seq
          (CC.seq (CC.reg none [Ins.mk (some 4) none Act.mv [Opd.k (AV.d (DV.int IntKind.i64 (Int.ofNat 0)))]])
            (CC.block 0
              (CC.loop [0, 2, 3, 4]
                (CC.seq (CC.seq (CC.reg none [Ins.mk (some 6) none Act.mv [Opd.t 4], Ins.mk (some 7) none Act.mv [Opd.t 3], Ins.mk (some 8) none Act.len [Opd.t 7], Ins.mk (some 9) none (Act.bin BinOp.lss (EqK.nil 10)) [Opd.t 6, Opd.t 8]]) (CC.cond (Opd.t 9) CC.skip (CC.exit 0)))
                  (CC.seq (CC.fgt [0, 2, 3, 4])
                    (CC.seq
                      (CC.block 1
                        (CC.seq
                          (CC.reg none
                            [Ins.mk (some 12) none Act.mv [Opd.t 0], Ins.mk (some 13) none Act.mv [Opd.t 3], Ins.mk (some 14) none Act.mv [Opd.t 4], Ins.mk (some 15) none (Act.iad 1) [Opd.t 13, Opd.t 14], Ins.mk (some 16) none (Act.load none) [Opd.t 15],
                              Ins.mk (some 17) none (Act.call false) [Opd.k (AV.fn Mode.pure 83 [] []), Opd.t 12, Opd.t 16]])
                          (CC.cond (Opd.t 17) (CC.seq (CC.reg none [Ins.mk (some 2) none Act.mv [Opd.k (AV.d (DV.bool false))]]) CC.ret) CC.skip)))
                      (CC.seq (CC.fgt [0, 2, 3, 4]) (CC.reg none [Ins.mk (some 10) none Act.mv [Opd.t 4], Ins.mk (some 11) none (Act.bin BinOp.add (EqK.nil 10)) [Opd.t 10, Opd.k (AV.d (DV.int IntKind.i64 (Int.ofNat 1)))], Ins.mk (some 4) none Act.mv [Opd.t 11]]))))))))
          (CC.seq (CC.fgt [0, 2]) (CC.seq (CC.reg none [Ins.mk (some 18) none Act.mv [Opd.t 0], Ins.mk (some 19) none (Act.call false) [Opd.k (AV.fn Mode.pure 130 [] []), Opd.t 18], Ins.mk (some 2) none Act.mv [Opd.t 19]]) CC.ret)))))
    [RV.tmp 2]
theorem code90_ok : F0 90 = some (.code code90) := by kernel_rfl
def code83 : CFn :=
  CFn.mk
    (CC.seq (CC.reg none [Ins.mk (some 4) none Act.mv [Opd.k (AV.d (DV.bool false))]])
      (CC.seq
        (CC.reg none
          [Ins.mk (some 5) none Act.mv [Opd.t 0], Ins.mk (some 6) none (Act.call false) [Opd.k (AV.fn Mode.pure 118 [] []), Opd.t 5], Ins.mk (some 7) none Act.mv [Opd.t 1], Ins.mk (some 8) none (Act.call false) [Opd.k (AV.fn Mode.pure 118 [] []), Opd.t 7],
            Ins.mk (some 9) none (Act.bin BinOp.eql (EqK.nil 10)) [Opd.t 6, Opd.t 8], Ins.mk (some 4) none Act.mv [Opd.t 9]])
        CC.ret))
    [RV.tmp 4]
theorem code83_ok : F0 83 = some (.code code83) := by kernel_rfl
def code118 : CFn :=
  CFn.mk
    (CC.seq (CC.reg none [Ins.mk (some 2) none Act.mv [Opd.k (AV.d (DV.str []))]])
      (CC.seq (CC.reg none [Ins.mk (some 3) none Act.mv [Opd.k (AV.d (DV.str []))]])
        (CC.seq
          (CC.seq (CC.reg none [Ins.mk (some 4) none Act.mv [Opd.k (AV.d (DV.int IntKind.i64 (Int.ofNat 0)))]])
            (CC.block 0
              (CC.loop [0, 2, 3, 4]
                (CC.seq (CC.seq (CC.reg none [Ins.mk (some 6) none Act.mv [Opd.t 4], Ins.mk (some 7) none Act.mv [Opd.t 0], Ins.mk (some 8) none Act.lens [Opd.t 7], Ins.mk (some 9) none (Act.bin BinOp.lss (EqK.nil 10)) [Opd.t 6, Opd.t 8]]) (CC.cond (Opd.t 9) CC.skip (CC.exit 0)))
                  (CC.seq (CC.fgt [0, 2, 3, 4])
                    (CC.seq
                      (CC.block 1
                        (CC.seq (CC.reg none [Ins.mk (some 12) none Act.mv [Opd.t 0], Ins.mk (some 13) none Act.mv [Opd.t 4], Ins.mk (some 14) none Act.idxs [Opd.t 12, Opd.t 13], Ins.mk (some 5) none Act.mv [Opd.t 14]])
                          (CC.seq
                            (CC.seq
                              (CC.reg none
                                [Ins.mk (some 15) none Act.mv [Opd.t 5], Ins.mk (some 16) none (Act.bin BinOp.geq (EqK.nil 10)) [Opd.t 15, Opd.k (AV.d (DV.int IntKind.u8 (Int.ofNat 65)))], Ins.mk (some 17) none Act.mv [Opd.t 16], Ins.mk (some 18) (some (17, true)) Act.mv [Opd.t 5],
                                  Ins.mk (some 19) (some (17, true)) (Act.bin BinOp.leq (EqK.nil 10)) [Opd.t 18, Opd.k (AV.d (DV.int IntKind.u8 (Int.ofNat 90)))], Ins.mk (some 20) none Act.pick [Opd.t 17, Opd.t 19, Opd.k (AV.d (DV.bool false))]])
                              (CC.cond (Opd.t 20)
                                (CC.reg none
                                  [Ins.mk (some 21) none Act.mv [Opd.t 5], Ins.mk (some 22) none (Act.bin BinOp.sub (EqK.nil 10)) [Opd.t 21, Opd.k (AV.d (DV.int IntKind.u8 (Int.ofNat 65)))],
                                    Ins.mk (some 23) none (Act.bin BinOp.add (EqK.nil 10)) [Opd.t 22, Opd.k (AV.d (DV.int IntKind.u8 (Int.ofNat 97)))], Ins.mk (some 5) none Act.mv [Opd.t 23]])
                                CC.skip))
                            (CC.seq (CC.fgt [0, 2, 3, 4, 5])
                              (CC.reg none
                                [Ins.mk (some 24) none Act.mv [Opd.t 3], Ins.mk (some 25) none Act.mv [Opd.t 5], Ins.mk (some 26) none (Act.bslT 5 1 [DV.int IntKind.u8 (Int.ofNat 0)] 1 [0]) [Opd.t 25], Ins.mk (some 27) none Act.b2s [Opd.t 26],
                                  Ins.mk (some 28) none (Act.bin BinOp.add (EqK.nil 10)) [Opd.t 24, Opd.t 27], Ins.mk (some 3) none Act.mv [Opd.t 28]])))))
                      (CC.seq (CC.fgt [0, 2, 3, 4]) (CC.reg none [Ins.mk (some 10) none Act.mv [Opd.t 4], Ins.mk (some 11) none (Act.bin BinOp.add (EqK.nil 10)) [Opd.t 10, Opd.k (AV.d (DV.int IntKind.i64 (Int.ofNat 1)))], Ins.mk (some 4) none Act.mv [Opd.t 11]]))))))))
          (CC.seq (CC.fgt [2, 3]) (CC.seq (CC.reg none [Ins.mk (some 29) none Act.mv [Opd.t 3], Ins.mk (some 2) none Act.mv [Opd.t 29]]) CC.ret)))))
    [RV.tmp 2]
theorem code118_ok : F0 118 = some (.code code118) := by kernel_rfl
def code130 : CFn :=
  CFn.mk
    (CC.seq (CC.reg none [Ins.mk (some 2) none Act.mv [Opd.k (AV.d (DV.bool false))]])
      (CC.seq
        (CC.reg none
          [Ins.mk (some 3) none Act.mv [Opd.t 0], Ins.mk (some 4) none (Act.bin BinOp.neq (EqK.nil 10)) [Opd.t 3, Opd.k (AV.d (DV.str []))], Ins.mk (some 5) none Act.mv [Opd.t 4], Ins.mk (some 6) (some (5, true)) Act.mv [Opd.t 0], Ins.mk (some 7) (some (5, true)) Act.lens [Opd.t 6],
            Ins.mk (some 8) (some (5, true)) (Act.bin BinOp.leq (EqK.nil 10)) [Opd.t 7, Opd.k (AV.d (DV.int IntKind.i64 (Int.ofNat 64)))], Ins.mk (some 9) none Act.pick [Opd.t 5, Opd.t 8, Opd.k (AV.d (DV.bool false))], Ins.mk (some 10) none Act.mv [Opd.t 9],
            Ins.mk (some 11) (some (10, true)) Act.mv [Opd.t 0], Ins.mk (some 12) (some (10, true)) (Act.call false) [Opd.k (AV.fn Mode.pure 157 [] []), Opd.t 11], Ins.mk (some 13) (some (10, true)) (Act.un UnOp.not) [Opd.t 12],
            Ins.mk (some 14) none Act.pick [Opd.t 10, Opd.t 13, Opd.k (AV.d (DV.bool false))], Ins.mk (some 2) none Act.mv [Opd.t 14]])
        CC.ret))
    [RV.tmp 2]
theorem code130_ok : F0 130 = some (.code code130) := by kernel_rfl
def code157 : CFn :=
  CFn.mk
    (CC.seq (CC.reg none [Ins.mk (some 2) none Act.mv [Opd.k (AV.d (DV.bool false))]])
      (CC.seq
        (CC.seq (CC.reg none [Ins.mk (some 3) none Act.mv [Opd.k (AV.d (DV.int IntKind.i64 (Int.ofNat 0)))]])
          (CC.block 0
            (CC.loop [0, 2, 3]
              (CC.seq (CC.seq (CC.reg none [Ins.mk (some 4) none Act.mv [Opd.t 3], Ins.mk (some 5) none Act.mv [Opd.t 0], Ins.mk (some 6) none Act.lens [Opd.t 5], Ins.mk (some 7) none (Act.bin BinOp.lss (EqK.nil 10)) [Opd.t 4, Opd.t 6]]) (CC.cond (Opd.t 7) CC.skip (CC.exit 0)))
                (CC.seq (CC.fgt [0, 2, 3])
                  (CC.seq
                    (CC.block 1
                      (CC.seq (CC.reg none [Ins.mk (some 10) none Act.mv [Opd.t 0], Ins.mk (some 11) none Act.mv [Opd.t 3], Ins.mk (some 12) none Act.idxs [Opd.t 10, Opd.t 11], Ins.mk (some 13) none (Act.bin BinOp.eql (EqK.nil 10)) [Opd.t 12, Opd.k (AV.d (DV.int IntKind.u8 (Int.ofNat 0)))]])
                        (CC.cond (Opd.t 13) (CC.seq (CC.reg none [Ins.mk (some 2) none Act.mv [Opd.k (AV.d (DV.bool true))]]) CC.ret) CC.skip)))
                    (CC.seq (CC.fgt [0, 2, 3]) (CC.reg none [Ins.mk (some 8) none Act.mv [Opd.t 3], Ins.mk (some 9) none (Act.bin BinOp.add (EqK.nil 10)) [Opd.t 8, Opd.k (AV.d (DV.int IntKind.i64 (Int.ofNat 1)))], Ins.mk (some 3) none Act.mv [Opd.t 9]]))))))))
        (CC.seq (CC.fgt [2]) (CC.seq (CC.reg none [Ins.mk (some 2) none Act.mv [Opd.k (AV.d (DV.bool false))]]) CC.ret))))
    [RV.tmp 2]
theorem code157_ok : F0 157 = some (.code code157) := by kernel_rfl
def code106 : CFn :=
  CFn.mk
    (CC.seq (CC.reg none [Ins.mk (some 2) none Act.mv [Opd.k (AV.d (DV.bool false))]])
      (CC.seq
        (CC.seq (CC.reg none [Ins.mk (some 3) none Act.mv [Opd.k (AV.d (DV.int IntKind.i64 (Int.ofNat 0)))]])
          (CC.block 0
            (CC.loop [0, 2, 3]
              (CC.seq (CC.seq (CC.reg none [Ins.mk (some 5) none Act.mv [Opd.t 3], Ins.mk (some 6) none Act.mv [Opd.t 0], Ins.mk (some 7) none Act.len [Opd.t 6], Ins.mk (some 8) none (Act.bin BinOp.lss (EqK.nil 10)) [Opd.t 5, Opd.t 7]]) (CC.cond (Opd.t 8) CC.skip (CC.exit 0)))
                (CC.seq (CC.fgt [0, 2, 3])
                  (CC.seq
                    (CC.block 1
                      (CC.seq
                        (CC.seq
                          (CC.reg none
                            [Ins.mk (some 11) none Act.mv [Opd.t 0], Ins.mk (some 12) none Act.mv [Opd.t 3], Ins.mk (some 13) none (Act.iad 11) [Opd.t 11, Opd.t 12], Ins.mk (some 14) none (Act.fad 0) [Opd.t 13], Ins.mk (some 15) none (Act.load none) [Opd.t 14],
                              Ins.mk (some 16) none (Act.bin BinOp.eql (EqK.nil 10)) [Opd.t 15, Opd.k (AV.d (DV.int IntKind.i64 (Int.ofNat 2)))], Ins.mk (some 17) none Act.mv [Opd.t 16], Ins.mk (some 18) (some (17, true)) Act.mv [Opd.t 0], Ins.mk (some 19) (some (17, true)) Act.mv [Opd.t 3],
                              Ins.mk (some 20) (some (17, true)) (Act.iad 11) [Opd.t 18, Opd.t 19], Ins.mk (some 21) (some (17, true)) (Act.fad 2) [Opd.t 20], Ins.mk (some 22) (some (17, true)) (Act.load (some 7)) [Opd.t 21],
                              Ins.mk (some 23) (some (17, true)) (Act.call false) [Opd.k (AV.fn Mode.pure 51 [] []), Opd.t 22], Ins.mk (some 24) (some (17, true)) (Act.un UnOp.not) [Opd.t 23], Ins.mk (some 25) none Act.pick [Opd.t 17, Opd.t 24, Opd.k (AV.d (DV.bool false))]])
                          (CC.cond (Opd.t 25) (CC.seq (CC.reg none [Ins.mk (some 2) none Act.mv [Opd.k (AV.d (DV.bool false))]]) CC.ret) CC.skip))
                        (CC.seq (CC.fgt [0, 2, 3])
                          (CC.seq (CC.reg none [Ins.mk (some 4) none Act.mv [Opd.k (AV.d (DV.int IntKind.i64 (Int.ofNat 0)))]])
                            (CC.block 2
                              (CC.loop [0, 2, 3, 4]
                                (CC.seq
                                  (CC.seq
                                    (CC.reg none
                                      [Ins.mk (some 26) none Act.mv [Opd.t 4], Ins.mk (some 27) none Act.mv [Opd.t 0], Ins.mk (some 28) none Act.mv [Opd.t 3], Ins.mk (some 29) none (Act.iad 11) [Opd.t 27, Opd.t 28], Ins.mk (some 30) none (Act.fad 10) [Opd.t 29],
                                        Ins.mk (some 31) none (Act.load none) [Opd.t 30], Ins.mk (some 32) none Act.len [Opd.t 31], Ins.mk (some 33) none (Act.bin BinOp.lss (EqK.nil 10)) [Opd.t 26, Opd.t 32]])
                                    (CC.cond (Opd.t 33) CC.skip (CC.exit 2)))
                                  (CC.seq (CC.fgt [0, 2, 3, 4])
                                    (CC.seq
                                      (CC.block 3
                                        (CC.seq
                                          (CC.reg none
                                            [Ins.mk (some 36) none Act.mv [Opd.t 0], Ins.mk (some 37) none Act.mv [Opd.t 3], Ins.mk (some 38) none (Act.iad 11) [Opd.t 36, Opd.t 37], Ins.mk (some 39) none (Act.fad 10) [Opd.t 38], Ins.mk (some 40) none (Act.load none) [Opd.t 39],
                                              Ins.mk (some 41) none Act.mv [Opd.t 4], Ins.mk (some 42) none (Act.iad 11) [Opd.t 40, Opd.t 41], Ins.mk (some 43) none (Act.fad 0) [Opd.t 42], Ins.mk (some 44) none (Act.load none) [Opd.t 43],
                                              Ins.mk (some 45) none (Act.bin BinOp.eql (EqK.nil 10)) [Opd.t 44, Opd.k (AV.d (DV.int IntKind.i64 (Int.ofNat 2)))], Ins.mk (some 46) none Act.mv [Opd.t 45], Ins.mk (some 47) (some (46, true)) Act.mv [Opd.t 0],
                                              Ins.mk (some 48) (some (46, true)) Act.mv [Opd.t 3], Ins.mk (some 49) (some (46, true)) (Act.iad 11) [Opd.t 47, Opd.t 48], Ins.mk (some 50) (some (46, true)) (Act.fad 10) [Opd.t 49], Ins.mk (some 51) (some (46, true)) (Act.load none) [Opd.t 50],
                                              Ins.mk (some 52) (some (46, true)) Act.mv [Opd.t 4], Ins.mk (some 53) (some (46, true)) (Act.iad 11) [Opd.t 51, Opd.t 52], Ins.mk (some 54) (some (46, true)) (Act.fad 2) [Opd.t 53], Ins.mk (some 55) (some (46, true)) (Act.load (some 7)) [Opd.t 54],
                                              Ins.mk (some 56) (some (46, true)) (Act.call false) [Opd.k (AV.fn Mode.pure 51 [] []), Opd.t 55], Ins.mk (some 57) (some (46, true)) (Act.un UnOp.not) [Opd.t 56], Ins.mk (some 58) none Act.pick [Opd.t 46, Opd.t 57, Opd.k (AV.d (DV.bool false))]])
                                          (CC.cond (Opd.t 58) (CC.seq (CC.reg none [Ins.mk (some 2) none Act.mv [Opd.k (AV.d (DV.bool false))]]) CC.ret) CC.skip)))
                                      (CC.seq (CC.fgt [0, 2, 3, 4]) (CC.reg none [Ins.mk (some 34) none Act.mv [Opd.t 4], Ins.mk (some 35) none (Act.bin BinOp.add (EqK.nil 10)) [Opd.t 34, Opd.k (AV.d (DV.int IntKind.i64 (Int.ofNat 1)))], Ins.mk (some 4) none Act.mv [Opd.t 35]])))))))))))
                    (CC.seq (CC.fgt [0, 2, 3]) (CC.reg none [Ins.mk (some 9) none Act.mv [Opd.t 3], Ins.mk (some 10) none (Act.bin BinOp.add (EqK.nil 10)) [Opd.t 9, Opd.k (AV.d (DV.int IntKind.i64 (Int.ofNat 1)))], Ins.mk (some 3) none Act.mv [Opd.t 10]]))))))))
        (CC.seq (CC.fgt [2]) (CC.seq (CC.reg none [Ins.mk (some 2) none Act.mv [Opd.k (AV.d (DV.bool true))]]) CC.ret))))
    [RV.tmp 2]
theorem code106_ok : F0 106 = some (.code code106) := by kernel_rfl
def code29 : CFn :=
  CFn.mk
    (CC.seq (CC.reg none [Ins.mk (some 2) none Act.mv [Opd.k (AV.d (DV.bool false))]])
      (CC.seq
        (CC.seq (CC.reg none [Ins.mk (some 3) none Act.mv [Opd.k (AV.d (DV.int IntKind.i64 (Int.ofNat 0)))]])
          (CC.block 0
            (CC.loop [0, 2, 3]
              (CC.seq (CC.seq (CC.reg none [Ins.mk (some 4) none Act.mv [Opd.t 3], Ins.mk (some 5) none Act.mv [Opd.t 0], Ins.mk (some 6) none Act.len [Opd.t 5], Ins.mk (some 7) none (Act.bin BinOp.lss (EqK.nil 10)) [Opd.t 4, Opd.t 6]]) (CC.cond (Opd.t 7) CC.skip (CC.exit 0)))
                (CC.seq (CC.fgt [0, 2, 3])
                  (CC.seq
                    (CC.block 1
                      (CC.seq
                        (CC.reg none
                          [Ins.mk (some 10) none Act.mv [Opd.t 0], Ins.mk (some 11) none Act.mv [Opd.t 3], Ins.mk (some 12) none (Act.iad 11) [Opd.t 10, Opd.t 11], Ins.mk (some 13) none (Act.fad 0) [Opd.t 12], Ins.mk (some 14) none (Act.load none) [Opd.t 13],
                            Ins.mk (some 15) none (Act.bin BinOp.eql (EqK.nil 10)) [Opd.t 14, Opd.k (AV.d (DV.int IntKind.i64 (Int.ofNat 4)))], Ins.mk (some 16) none Act.mv [Opd.t 15], Ins.mk (some 17) (some (16, false)) Act.mv [Opd.t 0], Ins.mk (some 18) (some (16, false)) Act.mv [Opd.t 3],
                            Ins.mk (some 19) (some (16, false)) (Act.iad 11) [Opd.t 17, Opd.t 18], Ins.mk (some 20) (some (16, false)) (Act.fad 0) [Opd.t 19], Ins.mk (some 21) (some (16, false)) (Act.load none) [Opd.t 20],
                            Ins.mk (some 22) (some (16, false)) (Act.bin BinOp.eql (EqK.nil 10)) [Opd.t 21, Opd.k (AV.d (DV.int IntKind.i64 (Int.ofNat 5)))], Ins.mk (some 23) none Act.pick [Opd.t 16, Opd.k (AV.d (DV.bool true)), Opd.t 22]])
                        (CC.cond (Opd.t 23) (CC.seq (CC.reg none [Ins.mk (some 2) none Act.mv [Opd.k (AV.d (DV.bool true))]]) CC.ret) CC.skip)))
                    (CC.seq (CC.fgt [0, 2, 3]) (CC.reg none [Ins.mk (some 8) none Act.mv [Opd.t 3], Ins.mk (some 9) none (Act.bin BinOp.add (EqK.nil 10)) [Opd.t 8, Opd.k (AV.d (DV.int IntKind.i64 (Int.ofNat 1)))], Ins.mk (some 3) none Act.mv [Opd.t 9]]))))))))
        (CC.seq (CC.fgt [2]) (CC.seq (CC.reg none [Ins.mk (some 2) none Act.mv [Opd.k (AV.d (DV.bool false))]]) CC.ret))))
    [RV.tmp 2]
theorem code29_ok : F0 29 = some (.code code29) := by kernel_rfl
def code51 : CFn :=
  CFn.mk
    (CC.seq (CC.reg none [Ins.mk (some 1) none (Act.box 28) [Opd.t 0], Ins.mk (some 2) none Act.mv [Opd.k (AV.d (DV.bool false))]])
      (CC.seq
        (CC.reg none
          [Ins.mk (some 3) none (Act.fad 4) [Opd.t 1], Ins.mk (some 4) none (Act.load none) [Opd.t 3], Ins.mk (some 5) none (Act.un UnOp.not) [Opd.t 4], Ins.mk (some 6) none Act.mv [Opd.t 5], Ins.mk (some 7) (some (6, true)) (Act.fad 0) [Opd.t 1],
            Ins.mk (some 8) (some (6, true)) (Act.load (some 2)) [Opd.t 7], Ins.mk (some 9) (some (6, true)) (Act.call false) [Opd.k (AV.fn Mode.pure 96 [] []), Opd.t 8], Ins.mk (some 10) (some (6, true)) Act.mv [Opd.t 9], Ins.mk (some 11) (some (10, false)) (Act.fad 2) [Opd.t 1],
            Ins.mk (some 12) (some (10, false)) (Act.load (some 2)) [Opd.t 11], Ins.mk (some 13) (some (10, false)) (Act.call false) [Opd.k (AV.fn Mode.pure 96 [] []), Opd.t 12], Ins.mk (some 14) (some (6, true)) Act.pick [Opd.t 10, Opd.k (AV.d (DV.bool true)), Opd.t 13],
            Ins.mk (some 15) none Act.pick [Opd.t 6, Opd.t 14, Opd.k (AV.d (DV.bool false))], Ins.mk (some 2) none Act.mv [Opd.t 15]])
        CC.ret))
    [RV.tmp 2]
theorem code51_ok : F0 51 = some (.code code51) := by kernel_rfl
def code62 : CFn :=
  CFn.mk
    (CC.seq (CC.reg none [Ins.mk (some 2) none Act.mv [Opd.k (AV.d (DV.bool false))]])
      (CC.seq
        (CC.seq (CC.reg none [Ins.mk (some 6) none Act.mv [Opd.t 0], Ins.mk (some 7) none Act.len [Opd.t 6], Ins.mk (some 8) none (Act.bin BinOp.eql (EqK.nil 10)) [Opd.t 7, Opd.k (AV.d (DV.int IntKind.i64 (Int.ofNat 0)))]])
          (CC.cond (Opd.t 8) (CC.seq (CC.reg none [Ins.mk (some 2) none Act.mv [Opd.k (AV.d (DV.bool true))]]) CC.ret) CC.skip))
        (CC.seq (CC.fgt [0, 2])
          (CC.seq
            (CC.seq
              (CC.reg none
                [Ins.mk (some 9) none Act.mv [Opd.t 0], Ins.mk (some 10) none Act.len [Opd.t 9], Ins.mk (some 11) none (Act.bin BinOp.gtr (EqK.nil 10)) [Opd.t 10, Opd.k (AV.d (DV.int IntKind.i64 (Int.ofNat 256)))], Ins.mk (some 12) none Act.mv [Opd.t 11],
                  Ins.mk (some 13) (some (12, false)) Act.mv [Opd.t 0], Ins.mk (some 14) (some (12, false)) (Act.call false) [Opd.k (AV.fn Mode.pure 103 [] []), Opd.t 13], Ins.mk (some 15) (some (12, false)) (Act.un UnOp.not) [Opd.t 14],
                  Ins.mk (some 16) none Act.pick [Opd.t 12, Opd.k (AV.d (DV.bool true)), Opd.t 15]])
              (CC.cond (Opd.t 16) (CC.seq (CC.reg none [Ins.mk (some 2) none Act.mv [Opd.k (AV.d (DV.bool false))]]) CC.ret) CC.skip))
            (CC.seq (CC.fgt [0, 2])
              (CC.seq (CC.reg none [Ins.mk (some 17) none Act.mv [Opd.t 0], Ins.mk (some 18) none Act.len [Opd.t 17], Ins.mk (some 3) none Act.mv [Opd.t 18]])
                (CC.seq (CC.reg none [Ins.mk (some 4) none Act.mv [Opd.k (AV.d (DV.int IntKind.i64 (Int.ofNat 0)))]])
                  (CC.seq
                    (CC.seq (CC.reg none [Ins.mk (some 5) none Act.mv [Opd.k (AV.d (DV.int IntKind.i64 (Int.ofNat 0)))]])
                      (CC.block 0
                        (CC.loop [0, 2, 3, 4, 5]
                          (CC.seq (CC.seq (CC.reg none [Ins.mk (some 19) none Act.mv [Opd.t 5], Ins.mk (some 20) none Act.mv [Opd.t 0], Ins.mk (some 21) none Act.len [Opd.t 20], Ins.mk (some 22) none (Act.bin BinOp.lss (EqK.nil 10)) [Opd.t 19, Opd.t 21]]) (CC.cond (Opd.t 22) CC.skip (CC.exit 0)))
                            (CC.seq (CC.fgt [0, 2, 3, 4, 5])
                              (CC.seq
                                (CC.block 1
                                  (CC.seq
                                    (CC.seq
                                      (CC.reg none
                                        [Ins.mk (some 25) none Act.mv [Opd.t 0], Ins.mk (some 26) none Act.mv [Opd.t 5], Ins.mk (some 27) none (Act.iad 11) [Opd.t 25, Opd.t 26], Ins.mk (some 28) none (Act.load (some 11)) [Opd.t 27],
                                          Ins.mk (some 29) none (Act.call false) [Opd.k (AV.fn Mode.pure 104 [] []), Opd.t 28], Ins.mk (some 30) none (Act.un UnOp.not) [Opd.t 29]])
                                      (CC.cond (Opd.t 30) (CC.seq (CC.reg none [Ins.mk (some 2) none Act.mv [Opd.k (AV.d (DV.bool false))]]) CC.ret) CC.skip))
                                    (CC.seq (CC.fgt [0, 2, 3, 4, 5])
                                      (CC.seq
                                        (CC.seq
                                          (CC.reg none
                                            [Ins.mk (some 31) none Act.mv [Opd.t 0], Ins.mk (some 32) none Act.mv [Opd.t 5], Ins.mk (some 33) none (Act.iad 11) [Opd.t 31, Opd.t 32], Ins.mk (some 34) none (Act.fad 0) [Opd.t 33], Ins.mk (some 35) none (Act.load none) [Opd.t 34],
                                              Ins.mk (some 36) none (Act.bin BinOp.eql (EqK.nil 10)) [Opd.t 35, Opd.k (AV.d (DV.int IntKind.i64 (Int.ofNat 1)))], Ins.mk (some 37) none Act.mv [Opd.t 36], Ins.mk (some 38) (some (37, false)) Act.mv [Opd.t 0],
                                              Ins.mk (some 39) (some (37, false)) Act.mv [Opd.t 5], Ins.mk (some 40) (some (37, false)) (Act.iad 11) [Opd.t 38, Opd.t 39], Ins.mk (some 41) (some (37, false)) (Act.fad 0) [Opd.t 40], Ins.mk (some 42) (some (37, false)) (Act.load none) [Opd.t 41],
                                              Ins.mk (some 43) (some (37, false)) (Act.bin BinOp.eql (EqK.nil 10)) [Opd.t 42, Opd.k (AV.d (DV.int IntKind.i64 (Int.ofNat 2)))], Ins.mk (some 44) none Act.pick [Opd.t 37, Opd.k (AV.d (DV.bool true)), Opd.t 43]])
                                          (CC.cond (Opd.t 44) (CC.exit 1) CC.skip))
                                        (CC.seq (CC.fgt [0, 2, 3, 4, 5])
                                          (CC.seq
                                            (CC.seq
                                              (CC.reg none
                                                [Ins.mk (some 45) none Act.mv [Opd.t 0], Ins.mk (some 46) none Act.mv [Opd.t 5], Ins.mk (some 47) none (Act.iad 11) [Opd.t 45, Opd.t 46], Ins.mk (some 48) none (Act.fad 0) [Opd.t 47], Ins.mk (some 49) none (Act.load none) [Opd.t 48],
                                                  Ins.mk (some 50) none (Act.bin BinOp.neq (EqK.nil 10)) [Opd.t 49, Opd.k (AV.d (DV.int IntKind.i64 (Int.ofNat 3)))]])
                                              (CC.cond (Opd.t 50) (CC.reg none [Ins.mk (some 51) none Act.mv [Opd.t 4], Ins.mk (some 52) none (Act.bin BinOp.add (EqK.nil 10)) [Opd.t 51, Opd.k (AV.d (DV.int IntKind.i64 (Int.ofNat 1)))], Ins.mk (some 4) none Act.mv [Opd.t 52]]) CC.skip))
                                            (CC.seq (CC.fgt [0, 2, 3, 4, 5])
                                              (CC.seq
                                                (CC.seq
                                                  (CC.reg none
                                                    [Ins.mk (some 53) none Act.mv [Opd.t 0], Ins.mk (some 54) none Act.mv [Opd.t 5], Ins.mk (some 55) none (Act.iad 11) [Opd.t 53, Opd.t 54], Ins.mk (some 56) none (Act.fad 10) [Opd.t 55], Ins.mk (some 57) none (Act.load none) [Opd.t 56],
                                                      Ins.mk (some 58) none (Act.call false) [Opd.k (AV.fn Mode.pure 105 [] []), Opd.t 57], Ins.mk (some 59) none (Act.un UnOp.not) [Opd.t 58]])
                                                  (CC.cond (Opd.t 59) (CC.seq (CC.reg none [Ins.mk (some 2) none Act.mv [Opd.k (AV.d (DV.bool false))]]) CC.ret) CC.skip))
                                                (CC.seq (CC.fgt [0, 2, 3, 4, 5])
                                                  (CC.seq
                                                    (CC.reg none
                                                      [Ins.mk (some 60) none Act.mv [Opd.t 3], Ins.mk (some 61) none Act.mv [Opd.t 0], Ins.mk (some 62) none Act.mv [Opd.t 5], Ins.mk (some 63) none (Act.iad 11) [Opd.t 61, Opd.t 62], Ins.mk (some 64) none (Act.fad 10) [Opd.t 63],
                                                        Ins.mk (some 65) none (Act.load none) [Opd.t 64], Ins.mk (some 66) none Act.len [Opd.t 65], Ins.mk (some 67) none (Act.bin BinOp.add (EqK.nil 10)) [Opd.t 60, Opd.t 66], Ins.mk (some 3) none Act.mv [Opd.t 67]])
                                                    (CC.seq (CC.reg none [Ins.mk (some 68) none Act.mv [Opd.t 3], Ins.mk (some 69) none (Act.bin BinOp.gtr (EqK.nil 10)) [Opd.t 68, Opd.k (AV.d (DV.int IntKind.i64 (Int.ofNat 256)))]])
                                                      (CC.cond (Opd.t 69) (CC.seq (CC.reg none [Ins.mk (some 2) none Act.mv [Opd.k (AV.d (DV.bool false))]]) CC.ret) CC.skip))))))))))))
                                (CC.seq (CC.fgt [0, 2, 3, 4, 5]) (CC.reg none [Ins.mk (some 23) none Act.mv [Opd.t 5], Ins.mk (some 24) none (Act.bin BinOp.add (EqK.nil 10)) [Opd.t 23, Opd.k (AV.d (DV.int IntKind.i64 (Int.ofNat 1)))], Ins.mk (some 5) none Act.mv [Opd.t 24]]))))))))
                    (CC.seq (CC.fgt [0, 2, 4])
                      (CC.seq
                        (CC.reg none
                          [Ins.mk (some 70) none Act.mv [Opd.t 4], Ins.mk (some 71) none (Act.bin BinOp.eql (EqK.nil 10)) [Opd.t 70, Opd.k (AV.d (DV.int IntKind.i64 (Int.ofNat 0)))], Ins.mk (some 72) none Act.mv [Opd.t 71], Ins.mk (some 73) (some (72, false)) Act.mv [Opd.t 4],
                            Ins.mk (some 74) (some (72, false)) (Act.bin BinOp.eql (EqK.nil 10)) [Opd.t 73, Opd.k (AV.d (DV.int IntKind.i64 (Int.ofNat 1)))], Ins.mk (some 75) (some (72, false)) Act.mv [Opd.t 74], Ins.mk (some 76) (some (75, true)) Act.mv [Opd.t 0],
                            Ins.mk (some 77) (some (75, true)) (Act.call false) [Opd.k (AV.fn Mode.pure 106 [] []), Opd.t 76], Ins.mk (some 78) (some (72, false)) Act.pick [Opd.t 75, Opd.t 77, Opd.k (AV.d (DV.bool false))],
                            Ins.mk (some 79) none Act.pick [Opd.t 72, Opd.k (AV.d (DV.bool true)), Opd.t 78], Ins.mk (some 2) none Act.mv [Opd.t 79]])
                        CC.ret))))))))))
    [RV.tmp 2]
theorem code62_ok : F0 62 = some (.code code62) := by kernel_rfl
def code52 : CFn :=
  CFn.mk
    (CC.seq (CC.reg none [Ins.mk (some 1) none (Act.box 28) [Opd.t 0], Ins.mk (some 2) none Act.mv [Opd.k (AV.d (DV.bool false))]])
      (CC.seq
        (CC.seq (CC.reg none [Ins.mk (some 3) none (Act.fad 4) [Opd.t 1], Ins.mk (some 4) none (Act.load none) [Opd.t 3]])
          (CC.cond (Opd.t 4)
            (CC.seq
              (CC.reg none
                [Ins.mk (some 5) none (Act.fad 0) [Opd.t 1], Ins.mk (some 6) none (Act.load (some 2)) [Opd.t 5], Ins.mk (some 7) none (Act.build [AV.d (DV.int IntKind.i64 (Int.ofNat 0)), AV.d (DV.int IntKind.i64 (Int.ofNat 0))] [(0, 1)]) [Opd.k (AV.d (DV.int IntKind.i64 (Int.ofNat 1)))],
                  Ins.mk (some 8) none (Act.bin BinOp.eql (EqK.cells 2 [(0, 1), (1, 1)])) [Opd.t 6, Opd.t 7], Ins.mk (some 9) none Act.mv [Opd.t 8], Ins.mk (some 10) (some (9, true)) (Act.fad 2) [Opd.t 1], Ins.mk (some 11) (some (9, true)) (Act.load (some 2)) [Opd.t 10],
                  Ins.mk (some 12) (some (9, true)) (Act.build [AV.d (DV.int IntKind.i64 (Int.ofNat 0)), AV.d (DV.int IntKind.i64 (Int.ofNat 0))] [(0, 1)]) [Opd.k (AV.d (DV.int IntKind.i64 (Int.ofNat 5)))],
                  Ins.mk (some 13) (some (9, true)) (Act.bin BinOp.eql (EqK.cells 2 [(0, 1), (1, 1)])) [Opd.t 11, Opd.t 12], Ins.mk (some 14) none Act.pick [Opd.t 9, Opd.t 13, Opd.k (AV.d (DV.bool false))], Ins.mk (some 15) none Act.mv [Opd.t 14],
                  Ins.mk (some 16) (some (15, true)) (Act.fad 5) [Opd.t 1], Ins.mk (some 17) (some (15, true)) (Act.load (some 2)) [Opd.t 16], Ins.mk (some 18) (some (15, true)) (Act.call false) [Opd.k (AV.fn Mode.pure 96 [] []), Opd.t 17],
                  Ins.mk (some 19) none Act.pick [Opd.t 15, Opd.t 18, Opd.k (AV.d (DV.bool false))], Ins.mk (some 20) none Act.mv [Opd.t 19], Ins.mk (some 21) (some (20, true)) (Act.fad 5) [Opd.t 1], Ins.mk (some 22) (some (20, true)) (Act.load (some 2)) [Opd.t 21],
                  Ins.mk (some 23) (some (20, true)) (Act.call false) [Opd.k (AV.fn Mode.pure 86 [] []), Opd.t 22, Opd.k (AV.d (DV.int IntKind.i64 (Int.ofNat 1)))], Ins.mk (some 24) none Act.pick [Opd.t 20, Opd.t 23, Opd.k (AV.d (DV.bool false))], Ins.mk (some 2) none Act.mv [Opd.t 24]])
              CC.ret)
            CC.skip))
        (CC.seq (CC.fgt [1, 2])
          (CC.seq
            (CC.reg none
              [Ins.mk (some 25) none (Act.fad 5) [Opd.t 1], Ins.mk (some 26) none (Act.load (some 2)) [Opd.t 25], Ins.mk (some 27) none (Act.build [AV.d (DV.int IntKind.i64 (Int.ofNat 0)), AV.d (DV.int IntKind.i64 (Int.ofNat 0))] []) [],
                Ins.mk (some 28) none (Act.bin BinOp.eql (EqK.cells 2 [(0, 1), (1, 1)])) [Opd.t 26, Opd.t 27], Ins.mk (some 29) none Act.mv [Opd.t 28], Ins.mk (some 30) (some (29, true)) (Act.fad 0) [Opd.t 1], Ins.mk (some 31) (some (29, true)) (Act.load (some 2)) [Opd.t 30],
                Ins.mk (some 32) (some (29, true)) (Act.call false) [Opd.k (AV.fn Mode.pure 86 [] []), Opd.t 31, Opd.k (AV.d (DV.int IntKind.i64 (Int.ofNat 13)))], Ins.mk (some 33) none Act.pick [Opd.t 29, Opd.t 32, Opd.k (AV.d (DV.bool false))], Ins.mk (some 34) none Act.mv [Opd.t 33],
                Ins.mk (some 35) (some (34, true)) (Act.fad 2) [Opd.t 1], Ins.mk (some 36) (some (34, true)) (Act.load (some 2)) [Opd.t 35], Ins.mk (some 37) (some (34, true)) (Act.call false) [Opd.k (AV.fn Mode.pure 86 [] []), Opd.t 36, Opd.k (AV.d (DV.int IntKind.i64 (Int.ofNat 29)))],
                Ins.mk (some 38) none Act.pick [Opd.t 34, Opd.t 37, Opd.k (AV.d (DV.bool false))], Ins.mk (some 2) none Act.mv [Opd.t 38]])
            CC.ret))))
    [RV.tmp 2]
theorem code52_ok : F0 52 = some (.code code52) := by kernel_rfl
def code103 : CFn :=
  CFn.mk
    (CC.seq (CC.reg none [Ins.mk (some 2) none Act.mv [Opd.k (AV.d (DV.bool false))]])
      (CC.seq (CC.reg none [Ins.mk (some 3) none Act.mv [Opd.k (AV.d (DV.bool false))]])
        (CC.seq
          (CC.seq (CC.reg none [Ins.mk (some 4) none Act.mv [Opd.k (AV.d (DV.int IntKind.i64 (Int.ofNat 0)))]])
            (CC.block 0
              (CC.loop [0, 2, 3, 4]
                (CC.seq (CC.seq (CC.reg none [Ins.mk (some 5) none Act.mv [Opd.t 4], Ins.mk (some 6) none Act.mv [Opd.t 0], Ins.mk (some 7) none Act.len [Opd.t 6], Ins.mk (some 8) none (Act.bin BinOp.lss (EqK.nil 10)) [Opd.t 5, Opd.t 7]]) (CC.cond (Opd.t 8) CC.skip (CC.exit 0)))
                  (CC.seq (CC.fgt [0, 2, 3, 4])
                    (CC.seq
                      (CC.block 1
                        (CC.seq
                          (CC.seq
                            (CC.reg none
                              [Ins.mk (some 11) none Act.mv [Opd.t 4], Ins.mk (some 12) none (Act.bin BinOp.gtr (EqK.nil 10)) [Opd.t 11, Opd.k (AV.d (DV.int IntKind.i64 (Int.ofNat 0)))], Ins.mk (some 13) none Act.mv [Opd.t 12], Ins.mk (some 14) (some (13, true)) Act.mv [Opd.t 0],
                                Ins.mk (some 15) (some (13, true)) Act.mv [Opd.t 4], Ins.mk (some 16) (some (13, true)) (Act.iad 11) [Opd.t 14, Opd.t 15], Ins.mk (some 17) (some (13, true)) (Act.fad 0) [Opd.t 16], Ins.mk (some 18) (some (13, true)) (Act.load none) [Opd.t 17],
                                Ins.mk (some 19) (some (13, true)) (Act.bin BinOp.eql (EqK.nil 10)) [Opd.t 18, Opd.k (AV.d (DV.int IntKind.i64 (Int.ofNat 1)))], Ins.mk (some 20) none Act.pick [Opd.t 13, Opd.t 19, Opd.k (AV.d (DV.bool false))], Ins.mk (some 21) none Act.mv [Opd.t 20],
                                Ins.mk (some 22) (some (21, true)) Act.mv [Opd.t 0], Ins.mk (some 23) (some (21, true)) Act.mv [Opd.t 4], Ins.mk (some 24) (some (21, true)) (Act.bin BinOp.sub (EqK.nil 10)) [Opd.t 23, Opd.k (AV.d (DV.int IntKind.i64 (Int.ofNat 1)))],
                                Ins.mk (some 25) (some (21, true)) (Act.iad 11) [Opd.t 22, Opd.t 24], Ins.mk (some 26) (some (21, true)) (Act.fad 0) [Opd.t 25], Ins.mk (some 27) (some (21, true)) (Act.load none) [Opd.t 26],
                                Ins.mk (some 28) (some (21, true)) (Act.bin BinOp.eql (EqK.nil 10)) [Opd.t 27, Opd.k (AV.d (DV.int IntKind.i64 (Int.ofNat 1)))], Ins.mk (some 29) none Act.pick [Opd.t 21, Opd.t 28, Opd.k (AV.d (DV.bool false))]])
                            (CC.cond (Opd.t 29) (CC.seq (CC.reg none [Ins.mk (some 2) none Act.mv [Opd.k (AV.d (DV.bool false))]]) CC.ret) CC.skip))
                          (CC.seq (CC.fgt [0, 2, 3, 4])
                            (CC.reg none
                              [Ins.mk (some 30) none Act.mv [Opd.t 3], Ins.mk (some 31) none Act.mv [Opd.t 30], Ins.mk (some 32) (some (31, false)) Act.mv [Opd.t 0], Ins.mk (some 33) (some (31, false)) Act.mv [Opd.t 4], Ins.mk (some 34) (some (31, false)) (Act.iad 11) [Opd.t 32, Opd.t 33],
                                Ins.mk (some 35) (some (31, false)) (Act.fad 0) [Opd.t 34], Ins.mk (some 36) (some (31, false)) (Act.load none) [Opd.t 35], Ins.mk (some 37) (some (31, false)) (Act.bin BinOp.neq (EqK.nil 10)) [Opd.t 36, Opd.k (AV.d (DV.int IntKind.i64 (Int.ofNat 1)))],
                                Ins.mk (some 38) none Act.pick [Opd.t 31, Opd.k (AV.d (DV.bool true)), Opd.t 37], Ins.mk (some 3) none Act.mv [Opd.t 38]]))))
                      (CC.seq (CC.fgt [0, 2, 3, 4]) (CC.reg none [Ins.mk (some 9) none Act.mv [Opd.t 4], Ins.mk (some 10) none (Act.bin BinOp.add (EqK.nil 10)) [Opd.t 9, Opd.k (AV.d (DV.int IntKind.i64 (Int.ofNat 1)))], Ins.mk (some 4) none Act.mv [Opd.t 10]]))))))))
          (CC.seq (CC.fgt [2, 3]) (CC.seq (CC.reg none [Ins.mk (some 39) none Act.mv [Opd.t 3], Ins.mk (some 2) none Act.mv [Opd.t 39]]) CC.ret)))))
    [RV.tmp 2]
theorem code103_ok : F0 103 = some (.code code103) := by kernel_rfl
def code105 : CFn :=
  CFn.mk
    (CC.seq (CC.reg none [Ins.mk (some 2) none Act.mv [Opd.k (AV.d (DV.bool false))]])
      (CC.seq
        (CC.seq
          (CC.reg none
            [Ins.mk (some 4) none Act.mv [Opd.t 0], Ins.mk (some 5) none Act.len [Opd.t 4], Ins.mk (some 6) none (Act.bin BinOp.gtr (EqK.nil 10)) [Opd.t 5, Opd.k (AV.d (DV.int IntKind.i64 (Int.ofNat 256)))], Ins.mk (some 7) none Act.mv [Opd.t 6], Ins.mk (some 8) (some (7, false)) Act.mv [Opd.t 0],
              Ins.mk (some 9) (some (7, false)) (Act.call false) [Opd.k (AV.fn Mode.pure 103 [] []), Opd.t 8], Ins.mk (some 10) (some (7, false)) (Act.un UnOp.not) [Opd.t 9], Ins.mk (some 11) none Act.pick [Opd.t 7, Opd.k (AV.d (DV.bool true)), Opd.t 10]])
          (CC.cond (Opd.t 11) (CC.seq (CC.reg none [Ins.mk (some 2) none Act.mv [Opd.k (AV.d (DV.bool false))]]) CC.ret) CC.skip))
        (CC.seq (CC.fgt [0, 2])
          (CC.seq
            (CC.seq (CC.reg none [Ins.mk (some 3) none Act.mv [Opd.k (AV.d (DV.int IntKind.i64 (Int.ofNat 0)))]])
              (CC.block 0
                (CC.loop [0, 2, 3]
                  (CC.seq (CC.seq (CC.reg none [Ins.mk (some 12) none Act.mv [Opd.t 3], Ins.mk (some 13) none Act.mv [Opd.t 0], Ins.mk (some 14) none Act.len [Opd.t 13], Ins.mk (some 15) none (Act.bin BinOp.lss (EqK.nil 10)) [Opd.t 12, Opd.t 14]]) (CC.cond (Opd.t 15) CC.skip (CC.exit 0)))
                    (CC.seq (CC.fgt [0, 2, 3])
                      (CC.seq
                        (CC.block 1
                          (CC.seq
                            (CC.reg none
                              [Ins.mk (some 18) none Act.mv [Opd.t 0], Ins.mk (some 19) none Act.mv [Opd.t 3], Ins.mk (some 20) none (Act.iad 11) [Opd.t 18, Opd.t 19], Ins.mk (some 21) none (Act.fad 0) [Opd.t 20], Ins.mk (some 22) none (Act.load none) [Opd.t 21],
                                Ins.mk (some 23) none (Act.bin BinOp.neq (EqK.nil 10)) [Opd.t 22, Opd.k (AV.d (DV.int IntKind.i64 (Int.ofNat 1)))], Ins.mk (some 24) none Act.mv [Opd.t 23], Ins.mk (some 25) (some (24, true)) Act.mv [Opd.t 0], Ins.mk (some 26) (some (24, true)) Act.mv [Opd.t 3],
                                Ins.mk (some 27) (some (24, true)) (Act.iad 11) [Opd.t 25, Opd.t 26], Ins.mk (some 28) (some (24, true)) (Act.fad 0) [Opd.t 27], Ins.mk (some 29) (some (24, true)) (Act.load none) [Opd.t 28],
                                Ins.mk (some 30) (some (24, true)) (Act.bin BinOp.neq (EqK.nil 10)) [Opd.t 29, Opd.k (AV.d (DV.int IntKind.i64 (Int.ofNat 2)))], Ins.mk (some 31) none Act.pick [Opd.t 24, Opd.t 30, Opd.k (AV.d (DV.bool false))], Ins.mk (some 32) none Act.mv [Opd.t 31],
                                Ins.mk (some 33) (some (32, false)) Act.mv [Opd.t 0], Ins.mk (some 34) (some (32, false)) Act.mv [Opd.t 3], Ins.mk (some 35) (some (32, false)) (Act.iad 11) [Opd.t 33, Opd.t 34], Ins.mk (some 36) (some (32, false)) (Act.load (some 11)) [Opd.t 35],
                                Ins.mk (some 37) (some (32, false)) (Act.call false) [Opd.k (AV.fn Mode.pure 104 [] []), Opd.t 36], Ins.mk (some 38) (some (32, false)) (Act.un UnOp.not) [Opd.t 37], Ins.mk (some 39) none Act.pick [Opd.t 32, Opd.k (AV.d (DV.bool true)), Opd.t 38]])
                            (CC.cond (Opd.t 39) (CC.seq (CC.reg none [Ins.mk (some 2) none Act.mv [Opd.k (AV.d (DV.bool false))]]) CC.ret) CC.skip)))
                        (CC.seq (CC.fgt [0, 2, 3]) (CC.reg none [Ins.mk (some 16) none Act.mv [Opd.t 3], Ins.mk (some 17) none (Act.bin BinOp.add (EqK.nil 10)) [Opd.t 16, Opd.k (AV.d (DV.int IntKind.i64 (Int.ofNat 1)))], Ins.mk (some 3) none Act.mv [Opd.t 17]]))))))))
            (CC.seq (CC.fgt [2]) (CC.seq (CC.reg none [Ins.mk (some 2) none Act.mv [Opd.k (AV.d (DV.bool true))]]) CC.ret))))))
    [RV.tmp 2]
theorem code105_ok : F0 105 = some (.code code105) := by kernel_rfl
def code96 : CFn :=
  CFn.mk
    (CC.seq (CC.reg none [Ins.mk (some 1) none (Act.box 26) [Opd.t 0], Ins.mk (some 2) none Act.mv [Opd.k (AV.d (DV.bool false))]])
      (CC.seq
        (CC.reg none
          [Ins.mk (some 3) none (Act.fad 0) [Opd.t 1], Ins.mk (some 4) none (Act.load none) [Opd.t 3], Ins.mk (some 5) none (Act.bin BinOp.eql (EqK.nil 10)) [Opd.t 4, Opd.k (AV.d (DV.int IntKind.i64 (Int.ofNat 2)))], Ins.mk (some 6) none Act.mv [Opd.t 5],
            Ins.mk (some 7) (some (6, false)) (Act.fad 0) [Opd.t 1], Ins.mk (some 8) (some (6, false)) (Act.load none) [Opd.t 7], Ins.mk (some 9) (some (6, false)) (Act.bin BinOp.eql (EqK.nil 10)) [Opd.t 8, Opd.k (AV.d (DV.int IntKind.i64 (Int.ofNat 3)))],
            Ins.mk (some 10) none Act.pick [Opd.t 6, Opd.k (AV.d (DV.bool true)), Opd.t 9], Ins.mk (some 2) none Act.mv [Opd.t 10]])
        CC.ret))
    [RV.tmp 2]
theorem code96_ok : F0 96 = some (.code code96) := by kernel_rfl
def code141 : CFn :=
  CFn.mk
    (CC.seq (CC.reg none [Ins.mk (some 2) none Act.mv [Opd.k (AV.d (DV.bool false))]])
      (CC.seq
        (CC.seq
          (CC.reg none
            [Ins.mk (some 4) none Act.mv [Opd.t 0], Ins.mk (some 5) none Act.len [Opd.t 4], Ins.mk (some 6) none (Act.bin BinOp.lss (EqK.nil 10)) [Opd.t 5, Opd.k (AV.d (DV.int IntKind.i64 (Int.ofNat 1)))], Ins.mk (some 7) none Act.mv [Opd.t 6], Ins.mk (some 8) (some (7, false)) Act.mv [Opd.t 0],
              Ins.mk (some 9) (some (7, false)) Act.len [Opd.t 8], Ins.mk (some 10) (some (7, false)) (Act.bin BinOp.gtr (EqK.nil 10)) [Opd.t 9, Opd.k (AV.d (DV.int IntKind.i64 (Int.ofNat 16)))], Ins.mk (some 11) none Act.pick [Opd.t 7, Opd.k (AV.d (DV.bool true)), Opd.t 10]])
          (CC.cond (Opd.t 11) (CC.seq (CC.reg none [Ins.mk (some 2) none Act.mv [Opd.k (AV.d (DV.bool false))]]) CC.ret) CC.skip))
        (CC.seq (CC.fgt [0, 2])
          (CC.seq
            (CC.seq (CC.reg none [Ins.mk (some 3) none Act.mv [Opd.k (AV.d (DV.int IntKind.i64 (Int.ofNat 0)))]])
              (CC.block 0
                (CC.loop [0, 2, 3]
                  (CC.seq (CC.seq (CC.reg none [Ins.mk (some 12) none Act.mv [Opd.t 3], Ins.mk (some 13) none Act.mv [Opd.t 0], Ins.mk (some 14) none Act.len [Opd.t 13], Ins.mk (some 15) none (Act.bin BinOp.lss (EqK.nil 10)) [Opd.t 12, Opd.t 14]]) (CC.cond (Opd.t 15) CC.skip (CC.exit 0)))
                    (CC.seq (CC.fgt [0, 2, 3])
                      (CC.seq
                        (CC.block 1
                          (CC.seq
                            (CC.reg none
                              [Ins.mk (some 18) none Act.mv [Opd.t 0], Ins.mk (some 19) none Act.mv [Opd.t 3], Ins.mk (some 20) none (Act.iad 1) [Opd.t 18, Opd.t 19], Ins.mk (some 21) none (Act.load none) [Opd.t 20], Ins.mk (some 22) none (Act.call false) [Opd.k (AV.fn Mode.pure 90 [] []), Opd.t 21],
                                Ins.mk (some 23) none (Act.un UnOp.not) [Opd.t 22]])
                            (CC.cond (Opd.t 23) (CC.seq (CC.reg none [Ins.mk (some 2) none Act.mv [Opd.k (AV.d (DV.bool false))]]) CC.ret) CC.skip)))
                        (CC.seq (CC.fgt [0, 2, 3]) (CC.reg none [Ins.mk (some 16) none Act.mv [Opd.t 3], Ins.mk (some 17) none (Act.bin BinOp.add (EqK.nil 10)) [Opd.t 16, Opd.k (AV.d (DV.int IntKind.i64 (Int.ofNat 1)))], Ins.mk (some 3) none Act.mv [Opd.t 17]]))))))))
            (CC.seq (CC.fgt [2]) (CC.seq (CC.reg none [Ins.mk (some 2) none Act.mv [Opd.k (AV.d (DV.bool true))]]) CC.ret))))))
    [RV.tmp 2]
theorem code141_ok : F0 141 = some (.code code141) := by kernel_rfl
def code104 : CFn :=
  CFn.mk
    (CC.seq (CC.reg none [Ins.mk (some 1) none (Act.box 69) [Opd.t 0], Ins.mk (some 2) none Act.mv [Opd.k (AV.d (DV.bool false))]])
      (CC.seq
        (CC.seq
          (CC.reg none
            [Ins.mk (some 3) none (Act.fad 0) [Opd.t 1], Ins.mk (some 4) none (Act.load none) [Opd.t 3], Ins.mk (some 5) none (Act.bin BinOp.neq (EqK.nil 10)) [Opd.t 4, Opd.k (AV.d (DV.int IntKind.i64 (Int.ofNat 1)))], Ins.mk (some 6) none Act.mv [Opd.t 5],
              Ins.mk (some 7) (some (6, true)) (Act.fad 1) [Opd.t 1], Ins.mk (some 8) (some (6, true)) (Act.load none) [Opd.t 7], Ins.mk (some 9) (some (6, true)) Act.len [Opd.t 8],
              Ins.mk (some 10) (some (6, true)) (Act.bin BinOp.gtr (EqK.nil 10)) [Opd.t 9, Opd.k (AV.d (DV.int IntKind.i64 (Int.ofNat 0)))], Ins.mk (some 11) none Act.pick [Opd.t 6, Opd.t 10, Opd.k (AV.d (DV.bool false))], Ins.mk (some 12) none Act.mv [Opd.t 11],
              Ins.mk (some 13) (some (12, false)) (Act.fad 0) [Opd.t 1], Ins.mk (some 14) (some (12, false)) (Act.load none) [Opd.t 13], Ins.mk (some 15) (some (12, false)) (Act.bin BinOp.neq (EqK.nil 10)) [Opd.t 14, Opd.k (AV.d (DV.int IntKind.i64 (Int.ofNat 2)))],
              Ins.mk (some 16) (some (12, false)) Act.mv [Opd.t 15], Ins.mk (some 17) (some (16, true)) (Act.fad 2) [Opd.t 1], Ins.mk (some 18) (some (16, true)) (Act.load (some 7)) [Opd.t 17],
              Ins.mk (some 19) (some (16, true))
                (Act.build [AV.d (DV.int IntKind.i64 (Int.ofNat 0)), AV.d (DV.int IntKind.i64 (Int.ofNat 0)), AV.d (DV.int IntKind.i64 (Int.ofNat 0)), AV.d (DV.int IntKind.i64 (Int.ofNat 0)), AV.d (DV.bool false), AV.d (DV.int IntKind.i64 (Int.ofNat 0)), AV.d (DV.int IntKind.i64 (Int.ofNat 0))] [])
                [],
              Ins.mk (some 20) (some (16, true)) (Act.bin BinOp.neq (EqK.cells 7 [(0, 1), (1, 1), (2, 1), (3, 1), (4, 0), (5, 1), (6, 1)])) [Opd.t 18, Opd.t 19], Ins.mk (some 21) (some (12, false)) Act.pick [Opd.t 16, Opd.t 20, Opd.k (AV.d (DV.bool false))],
              Ins.mk (some 22) none Act.pick [Opd.t 12, Opd.k (AV.d (DV.bool true)), Opd.t 21], Ins.mk (some 23) none Act.mv [Opd.t 22], Ins.mk (some 24) (some (23, false)) (Act.fad 0) [Opd.t 1], Ins.mk (some 25) (some (23, false)) (Act.load none) [Opd.t 24],
              Ins.mk (some 26) (some (23, false)) (Act.bin BinOp.neq (EqK.nil 10)) [Opd.t 25, Opd.k (AV.d (DV.int IntKind.i64 (Int.ofNat 3)))], Ins.mk (some 27) (some (23, false)) Act.mv [Opd.t 26], Ins.mk (some 28) (some (27, true)) (Act.fad 9) [Opd.t 1],
              Ins.mk (some 29) (some (27, true)) (Act.load none) [Opd.t 28], Ins.mk (some 30) (some (27, true)) (Act.bin BinOp.neq (EqK.nil 10)) [Opd.t 29, Opd.k (AV.d (DV.int IntKind.i64 (Int.ofNat 0)))], Ins.mk (some 31) (some (23, false)) Act.pick [Opd.t 27, Opd.t 30, Opd.k (AV.d (DV.bool false))],
              Ins.mk (some 32) none Act.pick [Opd.t 23, Opd.k (AV.d (DV.bool true)), Opd.t 31]])
          (CC.cond (Opd.t 32) (CC.seq (CC.reg none [Ins.mk (some 2) none Act.mv [Opd.k (AV.d (DV.bool false))]]) CC.ret) CC.skip))
        (CC.seq (CC.fgt [1, 2])
          (CC.seq
            (CC.seq (CC.reg none [Ins.mk (some 33) none (Act.fad 0) [Opd.t 1], Ins.mk (some 34) none (Act.load none) [Opd.t 33]])
              (CC.block 0
                (CC.seq (CC.reg none [Ins.mk (some 36) none (Act.bin BinOp.eql (EqK.nil 10)) [Opd.t 34, Opd.k (AV.d (DV.int IntKind.i64 (Int.ofNat 1)))], Ins.mk (some 35) none Act.mv [Opd.t 36]])
                  (CC.cond (Opd.t 35)
                    (CC.seq
                      (CC.reg none
                        [Ins.mk (some 37) none (Act.fad 1) [Opd.t 1], Ins.mk (some 38) none (Act.load none) [Opd.t 37], Ins.mk (some 39) none (Act.call false) [Opd.k (AV.fn Mode.pure 141 [] []), Opd.t 38], Ins.mk (some 40) none Act.mv [Opd.t 39],
                          Ins.mk (some 41) (some (40, true)) (Act.fad 10) [Opd.t 1], Ins.mk (some 42) (some (40, true)) (Act.load none) [Opd.t 41], Ins.mk (some 43) (some (40, true)) Act.len [Opd.t 42],
                          Ins.mk (some 44) (some (40, true)) (Act.bin BinOp.eql (EqK.nil 10)) [Opd.t 43, Opd.k (AV.d (DV.int IntKind.i64 (Int.ofNat 0)))], Ins.mk (some 45) none Act.pick [Opd.t 40, Opd.t 44, Opd.k (AV.d (DV.bool false))], Ins.mk (some 2) none Act.mv [Opd.t 45]])
                      CC.ret)
                    (CC.seq (CC.reg none [Ins.mk (some 47) none (Act.bin BinOp.eql (EqK.nil 10)) [Opd.t 34, Opd.k (AV.d (DV.int IntKind.i64 (Int.ofNat 2)))], Ins.mk (some 46) none Act.mv [Opd.t 47]])
                      (CC.cond (Opd.t 46)
                        (CC.seq
                          (CC.reg none
                            [Ins.mk (some 48) none (Act.fad 2) [Opd.t 1], Ins.mk (some 49) none (Act.load (some 7)) [Opd.t 48], Ins.mk (some 50) none (Act.call false) [Opd.k (AV.fn Mode.pure 52 [] []), Opd.t 49], Ins.mk (some 51) none Act.mv [Opd.t 50],
                              Ins.mk (some 52) (some (51, true)) (Act.fad 10) [Opd.t 1], Ins.mk (some 53) (some (51, true)) (Act.load none) [Opd.t 52], Ins.mk (some 54) (some (51, true)) Act.len [Opd.t 53],
                              Ins.mk (some 55) (some (51, true)) (Act.bin BinOp.eql (EqK.nil 10)) [Opd.t 54, Opd.k (AV.d (DV.int IntKind.i64 (Int.ofNat 0)))], Ins.mk (some 56) none Act.pick [Opd.t 51, Opd.t 55, Opd.k (AV.d (DV.bool false))], Ins.mk (some 2) none Act.mv [Opd.t 56]])
                          CC.ret)
                        (CC.seq (CC.reg none [Ins.mk (some 58) none (Act.bin BinOp.eql (EqK.nil 10)) [Opd.t 34, Opd.k (AV.d (DV.int IntKind.i64 (Int.ofNat 3)))], Ins.mk (some 57) none Act.mv [Opd.t 58]])
                          (CC.cond (Opd.t 57)
                            (CC.seq
                              (CC.reg none
                                [Ins.mk (some 59) none (Act.fad 9) [Opd.t 1], Ins.mk (some 60) none (Act.load none) [Opd.t 59], Ins.mk (some 61) none (Act.bin BinOp.geq (EqK.nil 10)) [Opd.t 60, Opd.k (AV.d (DV.int IntKind.i64 (Int.ofNat 1)))], Ins.mk (some 62) none Act.mv [Opd.t 61],
                                  Ins.mk (some 63) (some (62, true)) (Act.fad 9) [Opd.t 1], Ins.mk (some 64) (some (62, true)) (Act.load none) [Opd.t 63], Ins.mk (some 65) (some (62, true)) (Act.bin BinOp.leq (EqK.nil 10)) [Opd.t 64, Opd.k (AV.d (DV.int IntKind.i64 (Int.ofNat 10000)))],
                                  Ins.mk (some 66) none Act.pick [Opd.t 62, Opd.t 65, Opd.k (AV.d (DV.bool false))], Ins.mk (some 2) none Act.mv [Opd.t 66]])
                              CC.ret)
                            CC.skip))))))))
            (CC.seq (CC.fgt [1, 2])
              (CC.seq
                (CC.reg none
                  [Ins.mk (some 67) none (Act.fad 0) [Opd.t 1], Ins.mk (some 68) none (Act.load none) [Opd.t 67], Ins.mk (some 69) none (Act.bin BinOp.eql (EqK.nil 10)) [Opd.t 68, Opd.k (AV.d (DV.int IntKind.i64 (Int.ofNat 4)))], Ins.mk (some 70) none Act.mv [Opd.t 69],
                    Ins.mk (some 71) (some (70, false)) (Act.fad 0) [Opd.t 1], Ins.mk (some 72) (some (70, false)) (Act.load none) [Opd.t 71], Ins.mk (some 73) (some (70, false)) (Act.bin BinOp.eql (EqK.nil 10)) [Opd.t 72, Opd.k (AV.d (DV.int IntKind.i64 (Int.ofNat 5)))],
                    Ins.mk (some 74) none Act.pick [Opd.t 70, Opd.k (AV.d (DV.bool true)), Opd.t 73], Ins.mk (some 2) none Act.mv [Opd.t 74]])
                CC.ret))))))
    [RV.tmp 2]
theorem code104_ok : F0 104 = some (.code code104) := by kernel_rfl
def code19 : CFn :=
  CFn.mk
    (CC.seq (CC.reg none [Ins.mk (some 2) none (Act.box 28) [Opd.t 0], Ins.mk (some 4) none Act.mv [Opd.k (AV.d (DV.int IntKind.i64 (Int.ofNat 0)))], Ins.mk (some 5) none Act.mv [Opd.k (AV.d (DV.int IntKind.i64 (Int.ofNat 0)))]])
      (CC.seq
        (CC.seq
          (CC.reg none
            [Ins.mk (some 13) none (Act.load (some 7)) [Opd.t 2], Ins.mk (some 14) none (Act.call false) [Opd.k (AV.fn Mode.pure 51 [] []), Opd.t 13], Ins.mk (some 15) none (Act.un UnOp.not) [Opd.t 14], Ins.mk (some 16) none Act.mv [Opd.t 15],
              Ins.mk (some 17) (some (16, false)) (Act.load (some 7)) [Opd.t 2], Ins.mk (some 18) (some (16, false)) (Act.call false) [Opd.k (AV.fn Mode.pure 52 [] []), Opd.t 17], Ins.mk (some 19) (some (16, false)) (Act.un UnOp.not) [Opd.t 18],
              Ins.mk (some 20) none Act.pick [Opd.t 16, Opd.k (AV.d (DV.bool true)), Opd.t 19], Ins.mk (some 21) none Act.mv [Opd.t 20], Ins.mk (some 22) (some (21, false)) Act.mv [Opd.t 1], Ins.mk (some 23) (some (21, false)) (Act.call false) [Opd.k (AV.fn Mode.pure 53 [] []), Opd.t 22],
              Ins.mk (some 24) (some (21, false)) (Act.un UnOp.not) [Opd.t 23], Ins.mk (some 25) none Act.pick [Opd.t 21, Opd.k (AV.d (DV.bool true)), Opd.t 24]])
          (CC.cond (Opd.t 25) (CC.seq (CC.reg none [Ins.mk (some 4) none Act.mv [Opd.k (AV.d (DV.int IntKind.i64 (Int.ofNat 0)))], Ins.mk (some 5) none Act.mv [Opd.k (AV.d (DV.int IntKind.i64 (Int.ofNat 2)))]]) CC.ret) CC.skip))
        (CC.seq (CC.fgt [1, 2, 4, 5])
          (CC.seq
            (CC.reg none
              [Ins.mk (some 27) none (Act.fad 0) [Opd.t 2], Ins.mk (some 28) none (Act.load (some 2)) [Opd.t 27], Ins.mk (some 29) none Act.mv [Opd.t 1], Ins.mk (some 30) none (Act.call false) [Opd.k (AV.fn Mode.pure 54 [] []), Opd.t 28, Opd.t 29, Opd.k (AV.d (DV.bool true))],
                Ins.mk (some 26) none Act.mv [Opd.t 30], Ins.mk (some 31) none (Act.ext 0) [Opd.t 26], Ins.mk (some 32) none (Act.ext 1) [Opd.t 26], Ins.mk (some 33) none (Act.ext 2) [Opd.t 26], Ins.mk (some 6) none Act.mv [Opd.t 31], Ins.mk (some 7) none Act.mv [Opd.t 32],
                Ins.mk (some 8) none Act.mv [Opd.t 33]])
            (CC.seq
              (CC.reg none
                [Ins.mk (some 35) none (Act.fad 2) [Opd.t 2], Ins.mk (some 36) none (Act.load (some 2)) [Opd.t 35], Ins.mk (some 37) none Act.mv [Opd.t 1], Ins.mk (some 38) none (Act.call false) [Opd.k (AV.fn Mode.pure 54 [] []), Opd.t 36, Opd.t 37, Opd.k (AV.d (DV.bool true))],
                  Ins.mk (some 34) none Act.mv [Opd.t 38], Ins.mk (some 39) none (Act.ext 0) [Opd.t 34], Ins.mk (some 40) none (Act.ext 1) [Opd.t 34], Ins.mk (some 41) none (Act.ext 2) [Opd.t 34], Ins.mk (some 9) none Act.mv [Opd.t 39], Ins.mk (some 10) none Act.mv [Opd.t 40],
                  Ins.mk (some 11) none Act.mv [Opd.t 41]])
              (CC.seq
                (CC.seq (CC.reg none [Ins.mk (some 42) none Act.mv [Opd.t 8], Ins.mk (some 43) none (Act.bin BinOp.neq (EqK.nil 10)) [Opd.t 42, Opd.k (AV.d (DV.int IntKind.i64 (Int.ofNat 0)))]])
                  (CC.cond (Opd.t 43) (CC.seq (CC.reg none [Ins.mk (some 44) none Act.mv [Opd.t 8], Ins.mk (some 4) none Act.mv [Opd.k (AV.d (DV.int IntKind.i64 (Int.ofNat 0)))], Ins.mk (some 5) none Act.mv [Opd.t 44]]) CC.ret) CC.skip))
                (CC.seq (CC.fgt [4, 5, 6, 7, 9, 10, 11])
                  (CC.seq
                    (CC.seq (CC.reg none [Ins.mk (some 45) none Act.mv [Opd.t 11], Ins.mk (some 46) none (Act.bin BinOp.neq (EqK.nil 10)) [Opd.t 45, Opd.k (AV.d (DV.int IntKind.i64 (Int.ofNat 0)))]])
                      (CC.cond (Opd.t 46) (CC.seq (CC.reg none [Ins.mk (some 47) none Act.mv [Opd.t 11], Ins.mk (some 4) none Act.mv [Opd.k (AV.d (DV.int IntKind.i64 (Int.ofNat 0)))], Ins.mk (some 5) none Act.mv [Opd.t 47]]) CC.ret) CC.skip))
                    (CC.seq (CC.fgt [4, 5, 6, 7, 9, 10])
                      (CC.seq (CC.reg none [Ins.mk (some 48) none Act.mv [Opd.t 6], Ins.mk (some 12) none Act.mv [Opd.t 48]])
                        (CC.seq
                          (CC.seq
                            (CC.reg none
                              [Ins.mk (some 49) none Act.mv [Opd.t 10], Ins.mk (some 50) none Act.mv [Opd.t 49], Ins.mk (some 51) (some (50, true)) Act.mv [Opd.t 7], Ins.mk (some 52) (some (50, true)) (Act.un UnOp.not) [Opd.t 51], Ins.mk (some 53) (some (50, true)) Act.mv [Opd.t 52],
                                Ins.mk (some 54) (some (53, false)) Act.mv [Opd.t 9], Ins.mk (some 55) (some (53, false)) Act.mv [Opd.t 6], Ins.mk (some 56) (some (53, false)) (Act.bin BinOp.gtr (EqK.nil 10)) [Opd.t 54, Opd.t 55],
                                Ins.mk (some 57) (some (50, true)) Act.pick [Opd.t 53, Opd.k (AV.d (DV.bool true)), Opd.t 56], Ins.mk (some 58) none Act.pick [Opd.t 50, Opd.t 57, Opd.k (AV.d (DV.bool false))]])
                            (CC.cond (Opd.t 58) (CC.reg none [Ins.mk (some 59) none Act.mv [Opd.t 9], Ins.mk (some 12) none Act.mv [Opd.t 59]]) CC.skip))
                          (CC.seq (CC.fgt [4, 5, 12])
                            (CC.seq (CC.reg none [Ins.mk (some 60) none Act.mv [Opd.t 12], Ins.mk (some 61) none Act.max [Opd.t 60, Opd.k (AV.d (DV.int IntKind.i64 (Int.ofNat 64)))], Ins.mk (some 4) none Act.mv [Opd.t 61], Ins.mk (some 5) none Act.mv [Opd.k (AV.d (DV.int IntKind.i64 (Int.ofNat 0)))]])
                              CC.ret)))))))))))))
    [RV.tmp 4, RV.tmp 5]
theorem code19_ok : F0 19 = some (.code code19) := by kernel_rfl
def code23 : CFn :=
  CFn.mk
    (CC.seq (CC.reg none [Ins.mk (some 8) none Act.mv [Opd.k (AV.d (DV.int IntKind.i64 (Int.ofNat 0)))], Ins.mk (some 9) none Act.mv [Opd.k (AV.d (DV.int IntKind.i64 (Int.ofNat 0)))]])
      (CC.seq
        (CC.seq
          (CC.reg none
            [Ins.mk (some 19) none Act.mv [Opd.t 0], Ins.mk (some 20) none (Act.call false) [Opd.k (AV.fn Mode.pure 62 [] []), Opd.t 19], Ins.mk (some 21) none (Act.un UnOp.not) [Opd.t 20], Ins.mk (some 22) none Act.mv [Opd.t 21], Ins.mk (some 23) (some (22, false)) Act.mv [Opd.t 1],
              Ins.mk (some 24) (some (22, false)) (Act.call false) [Opd.k (AV.fn Mode.pure 53 [] []), Opd.t 23], Ins.mk (some 25) (some (22, false)) (Act.un UnOp.not) [Opd.t 24], Ins.mk (some 26) none Act.pick [Opd.t 22, Opd.k (AV.d (DV.bool true)), Opd.t 25], Ins.mk (some 27) none Act.mv [Opd.t 26],
              Ins.mk (some 28) (some (27, false)) Act.mv [Opd.t 3], Ins.mk (some 29) (some (27, false)) (Act.call false) [Opd.k (AV.fn Mode.pure 53 [] []), Opd.t 28], Ins.mk (some 30) (some (27, false)) (Act.un UnOp.not) [Opd.t 29],
              Ins.mk (some 31) none Act.pick [Opd.t 27, Opd.k (AV.d (DV.bool true)), Opd.t 30]])
          (CC.cond (Opd.t 31) (CC.seq (CC.reg none [Ins.mk (some 8) none Act.mv [Opd.k (AV.d (DV.int IntKind.i64 (Int.ofNat 0)))], Ins.mk (some 9) none Act.mv [Opd.k (AV.d (DV.int IntKind.i64 (Int.ofNat 2)))]]) CC.ret) CC.skip))
        (CC.seq (CC.fgt [0, 1, 2, 3, 8, 9])
          (CC.seq
            (CC.seq (CC.reg none [Ins.mk (some 32) none Act.mv [Opd.t 0], Ins.mk (some 33) none (Act.call false) [Opd.k (AV.fn Mode.pure 29 [] []), Opd.t 32], Ins.mk (some 34) none (Act.un UnOp.not) [Opd.t 33]])
              (CC.cond (Opd.t 34) (CC.seq (CC.reg none [Ins.mk (some 8) none Act.mv [Opd.k (AV.d (DV.int IntKind.i64 (Int.ofNat 0)))], Ins.mk (some 9) none Act.mv [Opd.k (AV.d (DV.int IntKind.i64 (Int.ofNat 0)))]]) CC.ret) CC.skip))
            (CC.seq (CC.fgt [0, 1, 2, 3, 8, 9])
              (CC.seq
                (CC.seq (CC.reg none [Ins.mk (some 35) none Act.mv [Opd.t 2], Ins.mk (some 36) none (Act.un UnOp.not) [Opd.t 35]])
                  (CC.cond (Opd.t 36) (CC.seq (CC.reg none [Ins.mk (some 8) none Act.mv [Opd.k (AV.d (DV.int IntKind.i64 (Int.ofNat 1)))], Ins.mk (some 9) none Act.mv [Opd.k (AV.d (DV.int IntKind.i64 (Int.ofNat 0)))]]) CC.ret) CC.skip))
                (CC.seq (CC.fgt [0, 1, 3, 8, 9])
                  (CC.seq
                    (CC.reg none
                      [Ins.mk (some 38) none Act.mv [Opd.t 0], Ins.mk (some 39) none Act.mv [Opd.t 1], Ins.mk (some 40) none Act.mv [Opd.t 3], Ins.mk (some 41) none (Act.call false) [Opd.k (AV.fn Mode.pure 63 [] []), Opd.t 38, Opd.k (AV.d (DV.int IntKind.i64 (Int.ofNat 1))), Opd.t 39, Opd.t 40],
                        Ins.mk (some 37) none Act.mv [Opd.t 41], Ins.mk (some 42) none (Act.ext 0) [Opd.t 37], Ins.mk (some 43) none (Act.ext 1) [Opd.t 37], Ins.mk (some 44) none (Act.ext 2) [Opd.t 37], Ins.mk (some 10) none Act.mv [Opd.t 42], Ins.mk (some 11) none Act.mv [Opd.t 43],
                        Ins.mk (some 12) none Act.mv [Opd.t 44]])
                    (CC.seq
                      (CC.seq (CC.reg none [Ins.mk (some 45) none Act.mv [Opd.t 12], Ins.mk (some 46) none (Act.bin BinOp.neq (EqK.nil 10)) [Opd.t 45, Opd.k (AV.d (DV.int IntKind.i64 (Int.ofNat 0)))]])
                        (CC.cond (Opd.t 46) (CC.seq (CC.reg none [Ins.mk (some 47) none Act.mv [Opd.t 12], Ins.mk (some 8) none Act.mv [Opd.k (AV.d (DV.int IntKind.i64 (Int.ofNat 0)))], Ins.mk (some 9) none Act.mv [Opd.t 47]]) CC.ret) CC.skip))
                      (CC.seq (CC.fgt [0, 1, 3, 8, 9])
                        (CC.seq (CC.reg none [Ins.mk (some 13) none Act.mv [Opd.k (AV.d (DV.int IntKind.i64 (Int.ofNat 1)))]])
                          (CC.seq (CC.reg none [Ins.mk (some 14) none Act.mv [Opd.k (AV.d (DV.int IntKind.i64 (Int.ofNat 10001)))]])
                            (CC.seq
                              (CC.block 0
                                (CC.loop [0, 1, 3, 8, 9, 13, 14]
                                  (CC.seq
                                    (CC.seq
                                      (CC.reg none
                                        [Ins.mk (some 48) none Act.mv [Opd.t 14], Ins.mk (some 49) none Act.mv [Opd.t 13], Ins.mk (some 50) none (Act.bin BinOp.sub (EqK.nil 10)) [Opd.t 48, Opd.t 49],
                                          Ins.mk (some 51) none (Act.bin BinOp.gtr (EqK.nil 10)) [Opd.t 50, Opd.k (AV.d (DV.int IntKind.i64 (Int.ofNat 1)))]])
                                      (CC.cond (Opd.t 51) CC.skip (CC.exit 0)))
                                    (CC.seq (CC.fgt [0, 1, 3, 8, 9, 13, 14])
                                      (CC.block 1
                                        (CC.seq
                                          (CC.reg none
                                            [Ins.mk (some 52) none Act.mv [Opd.t 13], Ins.mk (some 53) none Act.mv [Opd.t 14], Ins.mk (some 54) none (Act.bin BinOp.add (EqK.nil 10)) [Opd.t 52, Opd.t 53],
                                              Ins.mk (some 55) none (Act.bin BinOp.quo (EqK.nil 10)) [Opd.t 54, Opd.k (AV.d (DV.int IntKind.i64 (Int.ofNat 2)))], Ins.mk (some 15) none Act.mv [Opd.t 55]])
                                          (CC.seq
                                            (CC.reg none
                                              [Ins.mk (some 57) none Act.mv [Opd.t 0], Ins.mk (some 58) none Act.mv [Opd.t 15], Ins.mk (some 59) none Act.mv [Opd.t 1], Ins.mk (some 60) none Act.mv [Opd.t 3],
                                                Ins.mk (some 61) none (Act.call false) [Opd.k (AV.fn Mode.pure 63 [] []), Opd.t 57, Opd.t 58, Opd.t 59, Opd.t 60], Ins.mk (some 56) none Act.mv [Opd.t 61], Ins.mk (some 62) none (Act.ext 0) [Opd.t 56], Ins.mk (some 63) none (Act.ext 1) [Opd.t 56],
                                                Ins.mk (some 64) none (Act.ext 2) [Opd.t 56], Ins.mk (some 16) none Act.mv [Opd.t 62], Ins.mk (some 17) none Act.mv [Opd.t 63], Ins.mk (some 18) none Act.mv [Opd.t 64]])
                                            (CC.seq
                                              (CC.reg none
                                                [Ins.mk (some 65) none Act.mv [Opd.t 16], Ins.mk (some 66) none Act.mv [Opd.t 1], Ins.mk (some 67) none (Act.bin BinOp.leq (EqK.nil 10)) [Opd.t 65, Opd.t 66], Ins.mk (some 68) none Act.mv [Opd.t 67], Ins.mk (some 69) (some (68, true)) Act.mv [Opd.t 17],
                                                  Ins.mk (some 70) (some (68, true)) (Act.bin BinOp.leq (EqK.nil 10)) [Opd.t 69, Opd.k (AV.d (DV.int IntKind.i64 (Int.ofNat 10000)))], Ins.mk (some 71) none Act.pick [Opd.t 68, Opd.t 70, Opd.k (AV.d (DV.bool false))]])
                                              (CC.cond (Opd.t 71) (CC.reg none [Ins.mk (some 72) none Act.mv [Opd.t 15], Ins.mk (some 13) none Act.mv [Opd.t 72]]) (CC.reg none [Ins.mk (some 73) none Act.mv [Opd.t 15], Ins.mk (some 14) none Act.mv [Opd.t 73]]))))))))))
                              (CC.seq (CC.fgt [8, 9, 13]) (CC.seq (CC.reg none [Ins.mk (some 74) none Act.mv [Opd.t 13], Ins.mk (some 8) none Act.mv [Opd.t 74], Ins.mk (some 9) none Act.mv [Opd.k (AV.d (DV.int IntKind.i64 (Int.ofNat 0)))]]) CC.ret)))))))))))))))
    [RV.tmp 8, RV.tmp 9]
theorem code23_ok : F0 23 = some (.code code23) := by kernel_rfl
def code68 : CFn :=
  CFn.mk
    (CC.seq (CC.reg none [Ins.mk (some 2) none (Act.box 69) [Opd.t 0], Ins.mk (some 4) none Act.mv [Opd.k (AV.d (DV.int IntKind.i64 (Int.ofNat 0)))]])
      (CC.seq
        (CC.seq (CC.reg none [Ins.mk (some 5) none (Act.fad 0) [Opd.t 2], Ins.mk (some 6) none (Act.load none) [Opd.t 5], Ins.mk (some 7) none (Act.bin BinOp.eql (EqK.nil 10)) [Opd.t 6, Opd.k (AV.d (DV.int IntKind.i64 (Int.ofNat 3)))]])
          (CC.cond (Opd.t 7) (CC.seq (CC.reg none [Ins.mk (some 8) none (Act.fad 9) [Opd.t 2], Ins.mk (some 9) none (Act.load none) [Opd.t 8], Ins.mk (some 4) none Act.mv [Opd.t 9]]) CC.ret) CC.skip))
        (CC.seq (CC.fgt [1, 4]) (CC.seq (CC.reg none [Ins.mk (some 10) none Act.mv [Opd.t 1], Ins.mk (some 4) none Act.mv [Opd.t 10]]) CC.ret))))
    [RV.tmp 4]
theorem code68_ok : F0 68 = some (.code code68) := by kernel_rfl
def code63 : CFn :=
  CFn.mk
    (CC.seq (CC.reg none [Ins.mk (some 8) none Act.mv [Opd.k (AV.d (DV.int IntKind.i64 (Int.ofNat 0)))], Ins.mk (some 9) none Act.mv [Opd.k (AV.d (DV.int IntKind.i64 (Int.ofNat 0)))], Ins.mk (some 10) none Act.mv [Opd.k (AV.d (DV.int IntKind.i64 (Int.ofNat 0)))]])
      (CC.seq (CC.reg none [Ins.mk (some 11) none Act.mv [Opd.k (AV.d (DV.int IntKind.i64 (Int.ofNat 0)))]])
        (CC.seq (CC.reg none [Ins.mk (some 12) none Act.mv [Opd.k (AV.d (DV.int IntKind.i64 (Int.ofNat 0)))]])
          (CC.seq
            (CC.seq (CC.reg none [Ins.mk (some 13) none Act.mv [Opd.k (AV.d (DV.int IntKind.i64 (Int.ofNat 0)))]])
              (CC.block 0
                (CC.loop [0, 1, 2, 3, 8, 9, 10, 11, 12, 13]
                  (CC.seq (CC.seq (CC.reg none [Ins.mk (some 19) none Act.mv [Opd.t 13], Ins.mk (some 20) none Act.mv [Opd.t 0], Ins.mk (some 21) none Act.len [Opd.t 20], Ins.mk (some 22) none (Act.bin BinOp.lss (EqK.nil 10)) [Opd.t 19, Opd.t 21]]) (CC.cond (Opd.t 22) CC.skip (CC.exit 0)))
                    (CC.seq (CC.fgt [0, 1, 2, 3, 8, 9, 10, 11, 12, 13])
                      (CC.seq
                        (CC.block 1
                          (CC.seq
                            (CC.reg none
                              [Ins.mk (some 25) none Act.mv [Opd.t 0], Ins.mk (some 26) none Act.mv [Opd.t 13], Ins.mk (some 27) none (Act.iad 11) [Opd.t 25, Opd.t 26], Ins.mk (some 28) none (Act.load (some 11)) [Opd.t 27],
                                Ins.mk (some 29) none
                                  (Act.bslT 69 11
                                    [DV.int IntKind.i64 (Int.ofNat 0), DV.nilsl, DV.int IntKind.i64 (Int.ofNat 0), DV.int IntKind.i64 (Int.ofNat 0), DV.int IntKind.i64 (Int.ofNat 0), DV.int IntKind.i64 (Int.ofNat 0), DV.bool false, DV.int IntKind.i64 (Int.ofNat 0), DV.int IntKind.i64 (Int.ofNat 0),
                                      DV.int IntKind.i64 (Int.ofNat 0), DV.nilsl]
                                    1 [0])
                                  [Opd.t 28],
                                Ins.mk (some 14) none Act.mv [Opd.t 29]])
                            (CC.seq (CC.reg none [Ins.mk (some 15) none Act.mv [Opd.k (AV.d (DV.int IntKind.i64 (Int.ofNat 1)))]])
                              (CC.seq
                                (CC.seq
                                  (CC.reg none
                                    [Ins.mk (some 30) none Act.mv [Opd.t 0], Ins.mk (some 31) none Act.mv [Opd.t 13], Ins.mk (some 32) none (Act.iad 11) [Opd.t 30, Opd.t 31], Ins.mk (some 33) none (Act.fad 0) [Opd.t 32], Ins.mk (some 34) none (Act.load none) [Opd.t 33],
                                      Ins.mk (some 35) none (Act.bin BinOp.geq (EqK.nil 10)) [Opd.t 34, Opd.k (AV.d (DV.int IntKind.i64 (Int.ofNat 3)))]])
                                  (CC.cond (Opd.t 35)
                                    (CC.seq
                                      (CC.reg none
                                        [Ins.mk (some 36) none Act.mv [Opd.t 0], Ins.mk (some 37) none Act.mv [Opd.t 13], Ins.mk (some 38) none (Act.iad 11) [Opd.t 36, Opd.t 37], Ins.mk (some 39) none (Act.fad 10) [Opd.t 38], Ins.mk (some 40) none (Act.load none) [Opd.t 39],
                                          Ins.mk (some 14) none Act.mv [Opd.t 40]])
                                      (CC.reg none
                                        [Ins.mk (some 41) none Act.mv [Opd.t 0], Ins.mk (some 42) none Act.mv [Opd.t 13], Ins.mk (some 43) none (Act.iad 11) [Opd.t 41, Opd.t 42], Ins.mk (some 44) none (Act.load (some 11)) [Opd.t 43], Ins.mk (some 45) none Act.mv [Opd.t 1],
                                          Ins.mk (some 46) none (Act.call false) [Opd.k (AV.fn Mode.pure 68 [] []), Opd.t 44, Opd.t 45], Ins.mk (some 15) none Act.mv [Opd.t 46]]))
                                    CC.skip))
                                (CC.seq (CC.fgt [0, 1, 2, 3, 8, 9, 10, 11, 12, 13, 14, 15])
                                  (CC.seq (CC.reg none [Ins.mk (some 16) none Act.mv [Opd.k (AV.d (DV.int IntKind.i64 (Int.ofNat 0)))]])
                                    (CC.block 2
                                      (CC.loop [0, 1, 2, 3, 8, 9, 10, 11, 12, 13, 14, 15, 16]
                                        (CC.seq
                                          (CC.seq (CC.reg none [Ins.mk (some 47) none Act.mv [Opd.t 16], Ins.mk (some 48) none Act.mv [Opd.t 14], Ins.mk (some 49) none Act.len [Opd.t 48], Ins.mk (some 50) none (Act.bin BinOp.lss (EqK.nil 10)) [Opd.t 47, Opd.t 49]])
                                            (CC.cond (Opd.t 50) CC.skip (CC.exit 2)))
                                          (CC.seq (CC.fgt [0, 1, 2, 3, 8, 9, 10, 11, 12, 13, 14, 15, 16])
                                            (CC.seq
                                              (CC.block 3
                                                (CC.seq
                                                  (CC.seq
                                                    (CC.reg none
                                                      [Ins.mk (some 53) none Act.mv [Opd.t 14], Ins.mk (some 54) none Act.mv [Opd.t 16], Ins.mk (some 55) none (Act.iad 11) [Opd.t 53, Opd.t 54], Ins.mk (some 56) none (Act.fad 0) [Opd.t 55], Ins.mk (some 57) none (Act.load none) [Opd.t 56],
                                                        Ins.mk (some 58) none (Act.bin BinOp.neq (EqK.nil 10)) [Opd.t 57, Opd.k (AV.d (DV.int IntKind.i64 (Int.ofNat 2)))]])
                                                    (CC.cond (Opd.t 58) (CC.exit 3) CC.skip))
                                                  (CC.seq (CC.fgt [0, 1, 2, 3, 8, 9, 10, 11, 12, 13, 14, 15, 16])
                                                    (CC.seq
                                                      (CC.reg none
                                                        [Ins.mk (some 60) none Act.mv [Opd.t 14], Ins.mk (some 61) none Act.mv [Opd.t 16], Ins.mk (some 62) none (Act.iad 11) [Opd.t 60, Opd.t 61], Ins.mk (some 63) none (Act.fad 2) [Opd.t 62], Ins.mk (some 64) none (Act.load (some 7)) [Opd.t 63],
                                                          Ins.mk (some 65) none Act.mv [Opd.t 2], Ins.mk (some 66) none (Act.call false) [Opd.k (AV.fn Mode.pure 19 [] []), Opd.t 64, Opd.t 65], Ins.mk (some 59) none Act.mv [Opd.t 66], Ins.mk (some 67) none (Act.ext 0) [Opd.t 59],
                                                          Ins.mk (some 68) none (Act.ext 1) [Opd.t 59], Ins.mk (some 17) none Act.mv [Opd.t 67], Ins.mk (some 18) none Act.mv [Opd.t 68]])
                                                      (CC.seq
                                                        (CC.seq (CC.reg none [Ins.mk (some 69) none Act.mv [Opd.t 18], Ins.mk (some 70) none (Act.bin BinOp.neq (EqK.nil 10)) [Opd.t 69, Opd.k (AV.d (DV.int IntKind.i64 (Int.ofNat 0)))]])
                                                          (CC.cond (Opd.t 70)
                                                            (CC.seq
                                                              (CC.reg none
                                                                [Ins.mk (some 71) none Act.mv [Opd.t 18], Ins.mk (some 8) none Act.mv [Opd.k (AV.d (DV.int IntKind.i64 (Int.ofNat 0)))], Ins.mk (some 9) none Act.mv [Opd.k (AV.d (DV.int IntKind.i64 (Int.ofNat 0)))],
                                                                  Ins.mk (some 10) none Act.mv [Opd.t 71]])
                                                              CC.ret)
                                                            CC.skip))
                                                        (CC.seq (CC.fgt [0, 1, 2, 3, 8, 9, 10, 11, 12, 13, 14, 15, 16, 17])
                                                          (CC.seq
                                                            (CC.reg none
                                                              [Ins.mk (some 72) none Act.mv [Opd.t 11], Ins.mk (some 73) none Act.mv [Opd.t 15], Ins.mk (some 74) none Act.mv [Opd.t 17], Ins.mk (some 75) none (Act.bin BinOp.mul (EqK.nil 10)) [Opd.t 73, Opd.t 74],
                                                                Ins.mk (some 76) none (Act.bin BinOp.add (EqK.nil 10)) [Opd.t 72, Opd.t 75], Ins.mk (some 11) none Act.mv [Opd.t 76]])
                                                            (CC.reg none [Ins.mk (some 77) none Act.mv [Opd.t 12], Ins.mk (some 78) none Act.mv [Opd.t 15], Ins.mk (some 79) none (Act.bin BinOp.add (EqK.nil 10)) [Opd.t 77, Opd.t 78], Ins.mk (some 12) none Act.mv [Opd.t 79]]))))))))
                                              (CC.seq (CC.fgt [0, 1, 2, 3, 8, 9, 10, 11, 12, 13, 14, 15, 16])
                                                (CC.reg none [Ins.mk (some 51) none Act.mv [Opd.t 16], Ins.mk (some 52) none (Act.bin BinOp.add (EqK.nil 10)) [Opd.t 51, Opd.k (AV.d (DV.int IntKind.i64 (Int.ofNat 1)))], Ins.mk (some 16) none Act.mv [Opd.t 52]])))))))))))))
                        (CC.seq (CC.fgt [0, 1, 2, 3, 8, 9, 10, 11, 12, 13]) (CC.reg none [Ins.mk (some 23) none Act.mv [Opd.t 13], Ins.mk (some 24) none (Act.bin BinOp.add (EqK.nil 10)) [Opd.t 23, Opd.k (AV.d (DV.int IntKind.i64 (Int.ofNat 1)))], Ins.mk (some 13) none Act.mv [Opd.t 24]]))))))))
            (CC.seq (CC.fgt [3, 8, 9, 10, 11, 12])
              (CC.seq
                (CC.reg none
                  [Ins.mk (some 80) none Act.mv [Opd.t 11], Ins.mk (some 81) none Act.mv [Opd.t 12], Ins.mk (some 82) none (Act.bin BinOp.sub (EqK.nil 10)) [Opd.t 81, Opd.k (AV.d (DV.int IntKind.i64 (Int.ofNat 1)))], Ins.mk (some 83) none Act.mv [Opd.t 3],
                    Ins.mk (some 84) none (Act.bin BinOp.mul (EqK.nil 10)) [Opd.t 82, Opd.t 83], Ins.mk (some 85) none (Act.bin BinOp.add (EqK.nil 10)) [Opd.t 80, Opd.t 84], Ins.mk (some 86) none Act.mv [Opd.t 12], Ins.mk (some 8) none Act.mv [Opd.t 85], Ins.mk (some 9) none Act.mv [Opd.t 86],
                    Ins.mk (some 10) none Act.mv [Opd.k (AV.d (DV.int IntKind.i64 (Int.ofNat 0)))]])
                CC.ret))))))
    [RV.tmp 8, RV.tmp 9, RV.tmp 10]
theorem code63_ok : F0 63 = some (.code code63) := by kernel_rfl
def code53 : CFn :=
  CFn.mk
    (CC.seq (CC.reg none [Ins.mk (some 2) none Act.mv [Opd.k (AV.d (DV.bool false))]])
      (CC.seq
        (CC.reg none
          [Ins.mk (some 3) none Act.mv [Opd.t 0], Ins.mk (some 4) none (Act.bin BinOp.geq (EqK.nil 10)) [Opd.t 3, Opd.k (AV.d (DV.int IntKind.i64 (Int.ofNat 0)))], Ins.mk (some 5) none Act.mv [Opd.t 4], Ins.mk (some 6) (some (5, true)) Act.mv [Opd.t 0],
            Ins.mk (some 7) (some (5, true)) (Act.bin BinOp.leq (EqK.nil 10)) [Opd.t 6, Opd.k (AV.d (DV.int IntKind.i64 (Int.ofNat 68719476736)))], Ins.mk (some 8) none Act.pick [Opd.t 5, Opd.t 7, Opd.k (AV.d (DV.bool false))], Ins.mk (some 2) none Act.mv [Opd.t 8]])
        CC.ret))
    [RV.tmp 2]
theorem code53_ok : F0 53 = some (.code code53) := by kernel_rfl
def code47 : CFn :=
  CFn.mk
    (CC.seq (CC.reg none [Ins.mk (some 1) none (Act.box 28) [Opd.t 0], Ins.mk (some 2) none Act.mv [Opd.k (AV.d (DV.bool false))]])
      (CC.seq
        (CC.reg none
          [Ins.mk (some 3) none (Act.fad 4) [Opd.t 1], Ins.mk (some 4) none (Act.load none) [Opd.t 3], Ins.mk (some 5) none (Act.un UnOp.not) [Opd.t 4], Ins.mk (some 6) none Act.mv [Opd.t 5], Ins.mk (some 7) (some (6, true)) (Act.fad 0) [Opd.t 1],
            Ins.mk (some 8) (some (6, true)) (Act.load (some 2)) [Opd.t 7], Ins.mk (some 9) (some (6, true)) (Act.call false) [Opd.k (AV.fn Mode.pure 92 [] []), Opd.t 8], Ins.mk (some 10) (some (6, true)) Act.mv [Opd.t 9], Ins.mk (some 11) (some (10, false)) (Act.fad 2) [Opd.t 1],
            Ins.mk (some 12) (some (10, false)) (Act.load (some 2)) [Opd.t 11], Ins.mk (some 13) (some (10, false)) (Act.call false) [Opd.k (AV.fn Mode.pure 92 [] []), Opd.t 12], Ins.mk (some 14) (some (6, true)) Act.pick [Opd.t 10, Opd.k (AV.d (DV.bool true)), Opd.t 13],
            Ins.mk (some 15) none Act.pick [Opd.t 6, Opd.t 14, Opd.k (AV.d (DV.bool false))], Ins.mk (some 2) none Act.mv [Opd.t 15]])
        CC.ret))
    [RV.tmp 2]
theorem code47_ok : F0 47 = some (.code code47) := by kernel_rfl
def code56 : CFn :=
  CFn.mk
    (CC.seq (CC.reg none [Ins.mk (some 2) none Act.mv [Opd.k (AV.d (DV.bool false))]])
      (CC.seq
        (CC.seq (CC.reg none [Ins.mk (some 7) none Act.mv [Opd.t 0], Ins.mk (some 8) none Act.len [Opd.t 7], Ins.mk (some 9) none (Act.bin BinOp.eql (EqK.nil 10)) [Opd.t 8, Opd.k (AV.d (DV.int IntKind.i64 (Int.ofNat 0)))]])
          (CC.cond (Opd.t 9) (CC.seq (CC.reg none [Ins.mk (some 2) none Act.mv [Opd.k (AV.d (DV.bool true))]]) CC.ret) CC.skip))
        (CC.seq (CC.fgt [0, 2])
          (CC.seq
            (CC.seq (CC.reg none [Ins.mk (some 10) none Act.mv [Opd.t 0], Ins.mk (some 11) none (Act.call false) [Opd.k (AV.fn Mode.pure 98 [] []), Opd.t 10, Opd.k (AV.d (DV.bool false))], Ins.mk (some 12) none (Act.un UnOp.not) [Opd.t 11]])
              (CC.cond (Opd.t 12) (CC.seq (CC.reg none [Ins.mk (some 2) none Act.mv [Opd.k (AV.d (DV.bool false))]]) CC.ret) CC.skip))
            (CC.seq (CC.fgt [0, 2])
              (CC.seq (CC.reg none [Ins.mk (some 13) none Act.mv [Opd.t 0], Ins.mk (some 14) none Act.len [Opd.t 13], Ins.mk (some 3) none Act.mv [Opd.t 14], Ins.mk (some 4) none Act.mv [Opd.k (AV.d (DV.int IntKind.i64 (Int.ofNat 0)))]])
                (CC.seq
                  (CC.seq (CC.reg none [Ins.mk (some 15) none Act.mv [Opd.t 0], Ins.mk (some 16) none Act.len [Opd.t 15], Ins.mk (some 17) none Act.mv [Opd.k (AV.d (DV.int IntKind.i64 (Int.ofNat 0)))]])
                    (CC.block 0
                      (CC.loop [0, 2, 3, 4, 15, 16, 17]
                        (CC.seq (CC.reg none [Ins.mk (some 18) none (Act.bin BinOp.lss (EqK.nil 10)) [Opd.t 17, Opd.t 16]])
                          (CC.seq (CC.cond (Opd.t 18) CC.skip (CC.exit 0))
                            (CC.seq (CC.fgt [0, 2, 3, 4, 15, 16, 17])
                              (CC.seq
                                (CC.block 1
                                  (CC.seq
                                    (CC.reg none
                                      [Ins.mk (some 19) none (Act.iad 11) [Opd.t 15, Opd.t 17], Ins.mk (some 20) none (Act.load (some 11)) [Opd.t 19],
                                        Ins.mk (some 6) none
                                          (Act.new 69
                                            [AV.d (DV.int IntKind.i64 (Int.ofNat 0)), AV.d DV.nilsl, AV.d (DV.int IntKind.i64 (Int.ofNat 0)), AV.d (DV.int IntKind.i64 (Int.ofNat 0)), AV.d (DV.int IntKind.i64 (Int.ofNat 0)), AV.d (DV.int IntKind.i64 (Int.ofNat 0)), AV.d (DV.bool false),
                                              AV.d (DV.int IntKind.i64 (Int.ofNat 0)), AV.d (DV.int IntKind.i64 (Int.ofNat 0)), AV.d (DV.int IntKind.i64 (Int.ofNat 0)), AV.d DV.nilsl])
                                          [],
                                        Ins.mk none none (Act.storeT 11) [Opd.t 6, Opd.t 20]])
                                    (CC.seq
                                      (CC.seq (CC.reg none [Ins.mk (some 21) none (Act.fad 0) [Opd.t 6], Ins.mk (some 22) none (Act.load none) [Opd.t 21], Ins.mk (some 23) none (Act.call false) [Opd.k (AV.fn Mode.pure 99 [] []), Opd.t 22], Ins.mk (some 24) none (Act.un UnOp.not) [Opd.t 23]])
                                        (CC.cond (Opd.t 24) (CC.exit 1) CC.skip))
                                      (CC.seq (CC.fgt [0, 2, 3, 4, 6, 15, 16, 17])
                                        (CC.seq
                                          (CC.seq (CC.reg none [Ins.mk (some 25) none (Act.fad 0) [Opd.t 6], Ins.mk (some 26) none (Act.load none) [Opd.t 25], Ins.mk (some 27) none (Act.call false) [Opd.k (AV.fn Mode.pure 100 [] []), Opd.t 26]])
                                            (CC.cond (Opd.t 27) (CC.reg none [Ins.mk (some 28) none Act.mv [Opd.t 4], Ins.mk (some 29) none (Act.bin BinOp.add (EqK.nil 10)) [Opd.t 28, Opd.k (AV.d (DV.int IntKind.i64 (Int.ofNat 1)))], Ins.mk (some 4) none Act.mv [Opd.t 29]]) CC.skip))
                                          (CC.seq (CC.fgt [0, 2, 3, 4, 6, 15, 16, 17])
                                            (CC.seq
                                              (CC.reg none
                                                [Ins.mk (some 30) none Act.mv [Opd.t 3], Ins.mk (some 31) none (Act.fad 10) [Opd.t 6], Ins.mk (some 32) none (Act.load none) [Opd.t 31], Ins.mk (some 33) none Act.len [Opd.t 32],
                                                  Ins.mk (some 34) none (Act.bin BinOp.add (EqK.nil 10)) [Opd.t 30, Opd.t 33], Ins.mk (some 3) none Act.mv [Opd.t 34]])
                                              (CC.seq
                                                (CC.reg none
                                                  [Ins.mk (some 35) none Act.mv [Opd.t 3], Ins.mk (some 36) none (Act.bin BinOp.gtr (EqK.nil 10)) [Opd.t 35, Opd.k (AV.d (DV.int IntKind.i64 (Int.ofNat 256)))], Ins.mk (some 37) none Act.mv [Opd.t 36],
                                                    Ins.mk (some 38) (some (37, false)) (Act.fad 10) [Opd.t 6], Ins.mk (some 39) (some (37, false)) (Act.load none) [Opd.t 38],
                                                    Ins.mk (some 40) (some (37, false)) (Act.call false) [Opd.k (AV.fn Mode.pure 98 [] []), Opd.t 39, Opd.k (AV.d (DV.bool true))], Ins.mk (some 41) (some (37, false)) (Act.un UnOp.not) [Opd.t 40],
                                                    Ins.mk (some 42) none Act.pick [Opd.t 37, Opd.k (AV.d (DV.bool true)), Opd.t 41]])
                                                (CC.cond (Opd.t 42) (CC.seq (CC.reg none [Ins.mk (some 2) none Act.mv [Opd.k (AV.d (DV.bool false))]]) CC.ret) CC.skip)))))))))
                                (CC.seq (CC.fgt [0, 2, 3, 4, 15, 16, 17]) (CC.reg none [Ins.mk (some 43) none (Act.bin BinOp.add (EqK.nil 10)) [Opd.t 17, Opd.k (AV.d (DV.int IntKind.i64 (Int.ofNat 1)))], Ins.mk (some 17) none Act.mv [Opd.t 43]])))))))))
                  (CC.seq (CC.fgt [0, 2, 4])
                    (CC.seq
                      (CC.reg none
                        [Ins.mk (some 44) none Act.mv [Opd.t 4], Ins.mk (some 45) none (Act.bin BinOp.leq (EqK.nil 10)) [Opd.t 44, Opd.k (AV.d (DV.int IntKind.i64 (Int.ofNat 1)))], Ins.mk (some 46) none Act.mv [Opd.t 45], Ins.mk (some 47) (some (46, true)) Act.mv [Opd.t 0],
                          Ins.mk (some 48) (some (46, true)) (Act.call false) [Opd.k (AV.fn Mode.pure 74 [] []), Opd.t 47], Ins.mk (some 49) (some (46, true)) (Act.un UnOp.not) [Opd.t 48], Ins.mk (some 50) none Act.pick [Opd.t 46, Opd.t 49, Opd.k (AV.d (DV.bool false))],
                          Ins.mk (some 2) none Act.mv [Opd.t 50]])
                      CC.ret)))))))))
    [RV.tmp 2]
theorem code56_ok : F0 56 = some (.code code56) := by kernel_rfl
def code48 : CFn :=
  CFn.mk
    (CC.seq (CC.reg none [Ins.mk (some 1) none (Act.box 28) [Opd.t 0], Ins.mk (some 2) none Act.mv [Opd.k (AV.d (DV.bool false))]])
      (CC.seq
        (CC.seq (CC.reg none [Ins.mk (some 3) none (Act.fad 4) [Opd.t 1], Ins.mk (some 4) none (Act.load none) [Opd.t 3]])
          (CC.cond (Opd.t 4)
            (CC.seq
              (CC.reg (some [])
                [Ins.mk (some 5) none (Act.load (some 7)) [Opd.t 1], Ins.mk (some 6) none (Act.fad 5) [Opd.t 1], Ins.mk (some 7) none (Act.load (some 2)) [Opd.t 6], Ins.mk (some 8) none (Act.call true) [Opd.k (AV.fn Mode.pure 80 [] []), Opd.t 7],
                  Ins.mk (some 9) none (Act.bin BinOp.eql (EqK.cells 7 [(0, 1), (1, 1), (2, 1), (3, 1), (4, 0), (5, 1), (6, 1)])) [Opd.t 5, Opd.t 8], Ins.mk (some 10) none Act.mv [Opd.t 9], Ins.mk (some 11) (some (10, true)) (Act.fad 5) [Opd.t 1],
                  Ins.mk (some 12) (some (10, true)) (Act.load (some 2)) [Opd.t 11], Ins.mk (some 13) (some (10, true)) (Act.call true) [Opd.k (AV.fn Mode.pure 92 [] []), Opd.t 12], Ins.mk (some 14) none Act.pick [Opd.t 10, Opd.t 13, Opd.k (AV.d (DV.bool false))],
                  Ins.mk (some 15) none Act.mv [Opd.t 14], Ins.mk (some 16) (some (15, true)) (Act.fad 5) [Opd.t 1], Ins.mk (some 17) (some (15, true)) (Act.load (some 2)) [Opd.t 16],
                  Ins.mk (some 18) (some (15, true)) (Act.call true) [Opd.k (AV.fn Mode.pure 93 [] []), Opd.t 17, Opd.k (AV.d (DV.int IntKind.i64 (Int.ofNat 1)))], Ins.mk (some 19) none Act.pick [Opd.t 15, Opd.t 18, Opd.k (AV.d (DV.bool false))], Ins.mk (some 2) none Act.mv [Opd.t 19]])
              CC.ret)
            CC.skip))
        (CC.seq (CC.fgt [1, 2])
          (CC.seq
            (CC.reg none
              [Ins.mk (some 20) none (Act.fad 5) [Opd.t 1], Ins.mk (some 21) none (Act.load (some 2)) [Opd.t 20], Ins.mk (some 22) none (Act.build [AV.d (DV.int IntKind.i64 (Int.ofNat 0)), AV.d (DV.int IntKind.i64 (Int.ofNat 0))] []) [],
                Ins.mk (some 23) none (Act.bin BinOp.eql (EqK.cells 2 [(0, 1), (1, 1)])) [Opd.t 21, Opd.t 22], Ins.mk (some 24) none Act.mv [Opd.t 23], Ins.mk (some 25) (some (24, true)) (Act.fad 0) [Opd.t 1], Ins.mk (some 26) (some (24, true)) (Act.load (some 2)) [Opd.t 25],
                Ins.mk (some 27) (some (24, true)) (Act.call false) [Opd.k (AV.fn Mode.pure 93 [] []), Opd.t 26, Opd.k (AV.d (DV.int IntKind.i64 (Int.ofNat 13)))], Ins.mk (some 28) none Act.pick [Opd.t 24, Opd.t 27, Opd.k (AV.d (DV.bool false))], Ins.mk (some 29) none Act.mv [Opd.t 28],
                Ins.mk (some 30) (some (29, true)) (Act.fad 2) [Opd.t 1], Ins.mk (some 31) (some (29, true)) (Act.load (some 2)) [Opd.t 30], Ins.mk (some 32) (some (29, true)) (Act.call false) [Opd.k (AV.fn Mode.pure 93 [] []), Opd.t 31, Opd.k (AV.d (DV.int IntKind.i64 (Int.ofNat 29)))],
                Ins.mk (some 33) none Act.pick [Opd.t 29, Opd.t 32, Opd.k (AV.d (DV.bool false))], Ins.mk (some 2) none Act.mv [Opd.t 33]])
            CC.ret))))
    [RV.tmp 2]
theorem code48_ok : F0 48 = some (.code code48) := by kernel_rfl
def code112 : CFn :=
  CFn.mk (CC.seq (CC.reg none [Ins.mk (some 1) none (Act.box 51) [Opd.t 0], Ins.mk (some 2) none Act.mv [Opd.k (AV.d DV.nilf)]]) (CC.seq (CC.reg none [Ins.mk (some 3) none (Act.mkf Mode.drop 144 0) [Opd.t 1], Ins.mk (some 2) none Act.mv [Opd.t 3]]) CC.ret)) [RV.tmp 2]
theorem code112_ok : F0 112 = some (.code code112) := by kernel_rfl
def code144 : CFn :=
  CFn.mk
    (CC.seq (CC.reg none [Ins.mk (some 7) none (Act.load none) [Opd.t 1], Ins.mk (some 8) none Act.len [Opd.t 7], Ins.mk (some 9) none Act.mv [Opd.k (AV.d (DV.int IntKind.i64 (Int.ofNat 0)))]])
      (CC.block 0
        (CC.loop [0, 7, 8, 9]
          (CC.seq (CC.reg none [Ins.mk (some 10) none (Act.bin BinOp.lss (EqK.nil 10)) [Opd.t 9, Opd.t 8]])
            (CC.seq (CC.cond (Opd.t 10) CC.skip (CC.exit 0))
              (CC.seq (CC.fgt [0, 7, 8, 9])
                (CC.seq
                  (CC.block 1
                    (CC.seq
                      (CC.reg none
                        [Ins.mk (some 11) none (Act.iad 11) [Opd.t 7, Opd.t 9], Ins.mk (some 12) none (Act.load (some 11)) [Opd.t 11],
                          Ins.mk (some 4) none
                            (Act.new 69
                              [AV.d (DV.int IntKind.i64 (Int.ofNat 0)), AV.d DV.nilsl, AV.d (DV.int IntKind.i64 (Int.ofNat 0)), AV.d (DV.int IntKind.i64 (Int.ofNat 0)), AV.d (DV.int IntKind.i64 (Int.ofNat 0)), AV.d (DV.int IntKind.i64 (Int.ofNat 0)), AV.d (DV.bool false),
                                AV.d (DV.int IntKind.i64 (Int.ofNat 0)), AV.d (DV.int IntKind.i64 (Int.ofNat 0)), AV.d (DV.int IntKind.i64 (Int.ofNat 0)), AV.d DV.nilsl])
                            [],
                          Ins.mk none none (Act.storeT 11) [Opd.t 4, Opd.t 12]])
                      (CC.seq (CC.seq (CC.reg none [Ins.mk (some 13) none Act.mv [Opd.t 0], Ins.mk (some 14) none (Act.load (some 11)) [Opd.t 4], Ins.mk (some 15) none (Act.call false) [Opd.t 13, Opd.t 14], Ins.mk (some 16) none (Act.un UnOp.not) [Opd.t 15]]) (CC.cond (Opd.t 16) CC.ret CC.skip))
                        (CC.seq (CC.fgt [0, 4, 7, 8, 9])
                          (CC.seq (CC.reg none [Ins.mk (some 17) none (Act.fad 10) [Opd.t 4], Ins.mk (some 18) none (Act.load none) [Opd.t 17], Ins.mk (some 19) none Act.len [Opd.t 18], Ins.mk (some 20) none Act.mv [Opd.k (AV.d (DV.int IntKind.i64 (Int.ofNat 0)))]])
                            (CC.block 2
                              (CC.loop [0, 7, 8, 9, 18, 19, 20]
                                (CC.seq (CC.reg none [Ins.mk (some 21) none (Act.bin BinOp.lss (EqK.nil 10)) [Opd.t 20, Opd.t 19]])
                                  (CC.seq (CC.cond (Opd.t 21) CC.skip (CC.exit 2))
                                    (CC.seq (CC.fgt [0, 7, 8, 9, 18, 19, 20])
                                      (CC.seq
                                        (CC.block 3
                                          (CC.seq
                                            (CC.reg none
                                              [Ins.mk (some 22) none (Act.iad 11) [Opd.t 18, Opd.t 20], Ins.mk (some 23) none (Act.load (some 11)) [Opd.t 22],
                                                Ins.mk (some 6) none
                                                  (Act.new 69
                                                    [AV.d (DV.int IntKind.i64 (Int.ofNat 0)), AV.d DV.nilsl, AV.d (DV.int IntKind.i64 (Int.ofNat 0)), AV.d (DV.int IntKind.i64 (Int.ofNat 0)), AV.d (DV.int IntKind.i64 (Int.ofNat 0)), AV.d (DV.int IntKind.i64 (Int.ofNat 0)), AV.d (DV.bool false),
                                                      AV.d (DV.int IntKind.i64 (Int.ofNat 0)), AV.d (DV.int IntKind.i64 (Int.ofNat 0)), AV.d (DV.int IntKind.i64 (Int.ofNat 0)), AV.d DV.nilsl])
                                                  [],
                                                Ins.mk none none (Act.storeT 11) [Opd.t 6, Opd.t 23]])
                                            (CC.seq (CC.reg none [Ins.mk (some 24) none Act.mv [Opd.t 0], Ins.mk (some 25) none (Act.load (some 11)) [Opd.t 6], Ins.mk (some 26) none (Act.call false) [Opd.t 24, Opd.t 25], Ins.mk (some 27) none (Act.un UnOp.not) [Opd.t 26]])
                                              (CC.cond (Opd.t 27) CC.ret CC.skip))))
                                        (CC.seq (CC.fgt [0, 7, 8, 9, 18, 19, 20]) (CC.reg none [Ins.mk (some 28) none (Act.bin BinOp.add (EqK.nil 10)) [Opd.t 20, Opd.k (AV.d (DV.int IntKind.i64 (Int.ofNat 1)))], Ins.mk (some 20) none Act.mv [Opd.t 28]])))))))))))))
                  (CC.seq (CC.fgt [0, 7, 8, 9]) (CC.reg none [Ins.mk (some 29) none (Act.bin BinOp.add (EqK.nil 10)) [Opd.t 9, Opd.k (AV.d (DV.int IntKind.i64 (Int.ofNat 1)))], Ins.mk (some 9) none Act.mv [Opd.t 29]])))))))))
    []
theorem code144_ok : F0 144 = some (.code code144) := by kernel_rfl
def code140 : CFn :=
  CFn.mk
    (CC.seq (CC.reg none [Ins.mk (some 1) none (Act.box 69) [Opd.t 0], Ins.mk (some 2) none Act.mv [Opd.k (AV.d (DV.bool false))]])
      (CC.seq
        (CC.seq (CC.reg none [Ins.mk (some 5) none (Act.fad 0) [Opd.t 1], Ins.mk (some 6) none (Act.load none) [Opd.t 5]])
          (CC.block 0
            (CC.seq (CC.reg none [Ins.mk (some 8) none (Act.bin BinOp.eql (EqK.nil 10)) [Opd.t 6, Opd.k (AV.d (DV.int IntKind.i64 (Int.ofNat 1)))], Ins.mk (some 7) none Act.mv [Opd.t 8]])
              (CC.cond (Opd.t 7)
                (CC.seq
                  (CC.seq
                    (CC.reg none
                      [Ins.mk (some 9) none (Act.fad 1) [Opd.t 1], Ins.mk (some 10) none (Act.load none) [Opd.t 9], Ins.mk (some 11) none Act.len [Opd.t 10], Ins.mk (some 12) none (Act.bin BinOp.lss (EqK.nil 10)) [Opd.t 11, Opd.k (AV.d (DV.int IntKind.i64 (Int.ofNat 1)))],
                        Ins.mk (some 13) none Act.mv [Opd.t 12], Ins.mk (some 14) (some (13, false)) (Act.fad 1) [Opd.t 1], Ins.mk (some 15) (some (13, false)) (Act.load none) [Opd.t 14], Ins.mk (some 16) (some (13, false)) Act.len [Opd.t 15],
                        Ins.mk (some 17) (some (13, false)) (Act.bin BinOp.gtr (EqK.nil 10)) [Opd.t 16, Opd.k (AV.d (DV.int IntKind.i64 (Int.ofNat 16)))], Ins.mk (some 18) none Act.pick [Opd.t 13, Opd.k (AV.d (DV.bool true)), Opd.t 17], Ins.mk (some 19) none Act.mv [Opd.t 18],
                        Ins.mk (some 20) (some (19, false)) (Act.fad 10) [Opd.t 1], Ins.mk (some 21) (some (19, false)) (Act.load none) [Opd.t 20], Ins.mk (some 22) (some (19, false)) Act.len [Opd.t 21],
                        Ins.mk (some 23) (some (19, false)) (Act.bin BinOp.gtr (EqK.nil 10)) [Opd.t 22, Opd.k (AV.d (DV.int IntKind.i64 (Int.ofNat 0)))], Ins.mk (some 24) none Act.pick [Opd.t 19, Opd.k (AV.d (DV.bool true)), Opd.t 23]])
                    (CC.cond (Opd.t 24) (CC.seq (CC.reg none [Ins.mk (some 2) none Act.mv [Opd.k (AV.d (DV.bool false))]]) CC.ret) CC.skip))
                  (CC.seq (CC.fgt [1, 2])
                    (CC.seq
                      (CC.seq (CC.reg none [Ins.mk (some 25) none (Act.fad 1) [Opd.t 1], Ins.mk (some 26) none (Act.load none) [Opd.t 25], Ins.mk (some 27) none Act.len [Opd.t 26], Ins.mk (some 28) none Act.mv [Opd.k (AV.d (DV.int IntKind.i64 (Int.ofNat 0)))]])
                        (CC.block 1
                          (CC.loop [1, 2, 26, 27, 28]
                            (CC.seq (CC.reg none [Ins.mk (some 29) none (Act.bin BinOp.lss (EqK.nil 10)) [Opd.t 28, Opd.t 27]])
                              (CC.seq (CC.cond (Opd.t 29) CC.skip (CC.exit 1))
                                (CC.seq (CC.fgt [1, 2, 26, 27, 28])
                                  (CC.seq
                                    (CC.block 2
                                      (CC.seq (CC.reg none [Ins.mk (some 30) none (Act.iad 1) [Opd.t 26, Opd.t 28], Ins.mk (some 31) none (Act.load none) [Opd.t 30], Ins.mk (some 4) none Act.mv [Opd.t 31]])
                                        (CC.seq (CC.reg none [Ins.mk (some 32) none Act.mv [Opd.t 4], Ins.mk (some 33) none (Act.call false) [Opd.k (AV.fn Mode.pure 89 [] []), Opd.t 32], Ins.mk (some 34) none (Act.un UnOp.not) [Opd.t 33]])
                                          (CC.cond (Opd.t 34) (CC.seq (CC.reg none [Ins.mk (some 2) none Act.mv [Opd.k (AV.d (DV.bool false))]]) CC.ret) CC.skip))))
                                    (CC.seq (CC.fgt [1, 2, 26, 27, 28]) (CC.reg none [Ins.mk (some 35) none (Act.bin BinOp.add (EqK.nil 10)) [Opd.t 28, Opd.k (AV.d (DV.int IntKind.i64 (Int.ofNat 1)))], Ins.mk (some 28) none Act.mv [Opd.t 35]])))))))))
                      (CC.seq (CC.fgt [1, 2])
                        (CC.seq
                          (CC.reg none
                            [Ins.mk (some 36) none (Act.fad 2) [Opd.t 1], Ins.mk (some 37) none (Act.load (some 7)) [Opd.t 36],
                              Ins.mk (some 38) none
                                (Act.build
                                  [AV.d (DV.int IntKind.i64 (Int.ofNat 0)), AV.d (DV.int IntKind.i64 (Int.ofNat 0)), AV.d (DV.int IntKind.i64 (Int.ofNat 0)), AV.d (DV.int IntKind.i64 (Int.ofNat 0)), AV.d (DV.bool false), AV.d (DV.int IntKind.i64 (Int.ofNat 0)), AV.d (DV.int IntKind.i64 (Int.ofNat 0))]
                                  [])
                                [],
                              Ins.mk (some 39) none (Act.bin BinOp.eql (EqK.cells 7 [(0, 1), (1, 1), (2, 1), (3, 1), (4, 0), (5, 1), (6, 1)])) [Opd.t 37, Opd.t 38], Ins.mk (some 40) none Act.mv [Opd.t 39], Ins.mk (some 41) (some (40, true)) (Act.fad 9) [Opd.t 1],
                              Ins.mk (some 42) (some (40, true)) (Act.load none) [Opd.t 41], Ins.mk (some 43) (some (40, true)) (Act.bin BinOp.eql (EqK.nil 10)) [Opd.t 42, Opd.k (AV.d (DV.int IntKind.i64 (Int.ofNat 0)))],
                              Ins.mk (some 44) none Act.pick [Opd.t 40, Opd.t 43, Opd.k (AV.d (DV.bool false))], Ins.mk (some 2) none Act.mv [Opd.t 44]])
                          CC.ret)))))
                (CC.seq (CC.reg none [Ins.mk (some 46) none (Act.bin BinOp.eql (EqK.nil 10)) [Opd.t 6, Opd.k (AV.d (DV.int IntKind.i64 (Int.ofNat 2)))], Ins.mk (some 45) none Act.mv [Opd.t 46]])
                  (CC.cond (Opd.t 45)
                    (CC.seq
                      (CC.reg none
                        [Ins.mk (some 47) none (Act.fad 2) [Opd.t 1], Ins.mk (some 48) none (Act.load (some 7)) [Opd.t 47], Ins.mk (some 49) none (Act.call false) [Opd.k (AV.fn Mode.pure 48 [] []), Opd.t 48], Ins.mk (some 50) none Act.mv [Opd.t 49],
                          Ins.mk (some 51) (some (50, true)) (Act.fad 1) [Opd.t 1], Ins.mk (some 52) (some (50, true)) (Act.load none) [Opd.t 51], Ins.mk (some 53) (some (50, true)) Act.len [Opd.t 52], Ins.mk (some 54) (some (50, true)) (Act.fad 10) [Opd.t 1],
                          Ins.mk (some 55) (some (50, true)) (Act.load none) [Opd.t 54], Ins.mk (some 56) (some (50, true)) Act.len [Opd.t 55], Ins.mk (some 57) (some (50, true)) (Act.bin BinOp.add (EqK.nil 10)) [Opd.t 53, Opd.t 56],
                          Ins.mk (some 58) (some (50, true)) (Act.bin BinOp.eql (EqK.nil 10)) [Opd.t 57, Opd.k (AV.d (DV.int IntKind.i64 (Int.ofNat 0)))], Ins.mk (some 59) none Act.pick [Opd.t 50, Opd.t 58, Opd.k (AV.d (DV.bool false))], Ins.mk (some 60) none Act.mv [Opd.t 59],
                          Ins.mk (some 61) (some (60, true)) (Act.fad 9) [Opd.t 1], Ins.mk (some 62) (some (60, true)) (Act.load none) [Opd.t 61], Ins.mk (some 63) (some (60, true)) (Act.bin BinOp.eql (EqK.nil 10)) [Opd.t 62, Opd.k (AV.d (DV.int IntKind.i64 (Int.ofNat 0)))],
                          Ins.mk (some 64) none Act.pick [Opd.t 60, Opd.t 63, Opd.k (AV.d (DV.bool false))], Ins.mk (some 2) none Act.mv [Opd.t 64]])
                      CC.ret)
                    (CC.seq (CC.reg none [Ins.mk (some 66) none (Act.bin BinOp.eql (EqK.nil 10)) [Opd.t 6, Opd.k (AV.d (DV.int IntKind.i64 (Int.ofNat 3)))], Ins.mk (some 65) none Act.mv [Opd.t 66]])
                      (CC.cond (Opd.t 65)
                        (CC.seq
                          (CC.reg none
                            [Ins.mk (some 67) none (Act.fad 9) [Opd.t 1], Ins.mk (some 68) none (Act.load none) [Opd.t 67], Ins.mk (some 69) none (Act.bin BinOp.geq (EqK.nil 10)) [Opd.t 68, Opd.k (AV.d (DV.int IntKind.i64 (Int.ofNat 1)))], Ins.mk (some 70) none Act.mv [Opd.t 69],
                              Ins.mk (some 71) (some (70, true)) (Act.fad 9) [Opd.t 1], Ins.mk (some 72) (some (70, true)) (Act.load none) [Opd.t 71], Ins.mk (some 73) (some (70, true)) (Act.bin BinOp.leq (EqK.nil 10)) [Opd.t 72, Opd.k (AV.d (DV.int IntKind.i64 (Int.ofNat 10000)))],
                              Ins.mk (some 74) none Act.pick [Opd.t 70, Opd.t 73, Opd.k (AV.d (DV.bool false))], Ins.mk (some 75) none Act.mv [Opd.t 74], Ins.mk (some 76) (some (75, true)) (Act.fad 1) [Opd.t 1], Ins.mk (some 77) (some (75, true)) (Act.load none) [Opd.t 76],
                              Ins.mk (some 78) (some (75, true)) Act.len [Opd.t 77], Ins.mk (some 79) (some (75, true)) (Act.bin BinOp.eql (EqK.nil 10)) [Opd.t 78, Opd.k (AV.d (DV.int IntKind.i64 (Int.ofNat 0)))], Ins.mk (some 80) none Act.pick [Opd.t 75, Opd.t 79, Opd.k (AV.d (DV.bool false))],
                              Ins.mk (some 81) none Act.mv [Opd.t 80], Ins.mk (some 82) (some (81, true)) (Act.fad 2) [Opd.t 1], Ins.mk (some 83) (some (81, true)) (Act.load (some 7)) [Opd.t 82],
                              Ins.mk (some 84) (some (81, true))
                                (Act.build
                                  [AV.d (DV.int IntKind.i64 (Int.ofNat 0)), AV.d (DV.int IntKind.i64 (Int.ofNat 0)), AV.d (DV.int IntKind.i64 (Int.ofNat 0)), AV.d (DV.int IntKind.i64 (Int.ofNat 0)), AV.d (DV.bool false), AV.d (DV.int IntKind.i64 (Int.ofNat 0)), AV.d (DV.int IntKind.i64 (Int.ofNat 0))]
                                  [])
                                [],
                              Ins.mk (some 85) (some (81, true)) (Act.bin BinOp.eql (EqK.cells 7 [(0, 1), (1, 1), (2, 1), (3, 1), (4, 0), (5, 1), (6, 1)])) [Opd.t 83, Opd.t 84], Ins.mk (some 86) none Act.pick [Opd.t 81, Opd.t 85, Opd.k (AV.d (DV.bool false))], Ins.mk (some 2) none Act.mv [Opd.t 86]])
                          CC.ret)
                        CC.skip))))))))
        (CC.seq (CC.fgt [1, 2])
          (CC.seq
            (CC.reg none
              [Ins.mk (some 87) none (Act.fad 0) [Opd.t 1], Ins.mk (some 88) none (Act.load none) [Opd.t 87], Ins.mk (some 89) none (Act.call false) [Opd.k (AV.fn Mode.pure 100 [] []), Opd.t 88], Ins.mk (some 90) none Act.mv [Opd.t 89], Ins.mk (some 91) (some (90, true)) (Act.fad 1) [Opd.t 1],
                Ins.mk (some 92) (some (90, true)) (Act.load none) [Opd.t 91], Ins.mk (some 93) (some (90, true)) Act.len [Opd.t 92], Ins.mk (some 94) (some (90, true)) (Act.bin BinOp.eql (EqK.nil 10)) [Opd.t 93, Opd.k (AV.d (DV.int IntKind.i64 (Int.ofNat 0)))],
                Ins.mk (some 95) none Act.pick [Opd.t 90, Opd.t 94, Opd.k (AV.d (DV.bool false))], Ins.mk (some 96) none Act.mv [Opd.t 95], Ins.mk (some 97) (some (96, true)) (Act.fad 2) [Opd.t 1], Ins.mk (some 98) (some (96, true)) (Act.load (some 7)) [Opd.t 97],
                Ins.mk (some 99) (some (96, true))
                  (Act.build [AV.d (DV.int IntKind.i64 (Int.ofNat 0)), AV.d (DV.int IntKind.i64 (Int.ofNat 0)), AV.d (DV.int IntKind.i64 (Int.ofNat 0)), AV.d (DV.int IntKind.i64 (Int.ofNat 0)), AV.d (DV.bool false), AV.d (DV.int IntKind.i64 (Int.ofNat 0)), AV.d (DV.int IntKind.i64 (Int.ofNat 0))] [])
                  [],
                Ins.mk (some 100) (some (96, true)) (Act.bin BinOp.eql (EqK.cells 7 [(0, 1), (1, 1), (2, 1), (3, 1), (4, 0), (5, 1), (6, 1)])) [Opd.t 98, Opd.t 99], Ins.mk (some 101) none Act.pick [Opd.t 96, Opd.t 100, Opd.k (AV.d (DV.bool false))], Ins.mk (some 102) none Act.mv [Opd.t 101],
                Ins.mk (some 103) (some (102, true)) (Act.fad 9) [Opd.t 1], Ins.mk (some 104) (some (102, true)) (Act.load none) [Opd.t 103], Ins.mk (some 105) (some (102, true)) (Act.bin BinOp.eql (EqK.nil 10)) [Opd.t 104, Opd.k (AV.d (DV.int IntKind.i64 (Int.ofNat 0)))],
                Ins.mk (some 106) none Act.pick [Opd.t 102, Opd.t 105, Opd.k (AV.d (DV.bool false))], Ins.mk (some 2) none Act.mv [Opd.t 106]])
            CC.ret))))
    [RV.tmp 2]
theorem code140_ok : F0 140 = some (.code code140) := by kernel_rfl
def code117 : CFn :=
  CFn.mk
    (CC.seq (CC.reg none [Ins.mk (some 0) none (Act.new 26 [AV.d (DV.int IntKind.i64 (Int.ofNat 0)), AV.d (DV.int IntKind.i64 (Int.ofNat 0))]) []])
      (CC.seq (CC.reg none [Ins.mk (some 1) none (Act.build [AV.d (DV.int IntKind.i64 (Int.ofNat 0)), AV.d (DV.int IntKind.i64 (Int.ofNat 0))] [(0, 1)]) [Opd.k (AV.d (DV.int IntKind.i64 (Int.ofNat 1)))], Ins.mk none none (Act.storeT 2) [Opd.t 0, Opd.t 1]]) CC.ret))
    [RV.cell 0 (some 2)]
theorem code117_ok : F0 117 = some (.code code117) := by kernel_rfl
def code80 : CFn :=
  CFn.mk
    (CC.seq
      (CC.reg none
        [Ins.mk (some 1) none (Act.box 26) [Opd.t 0],
          Ins.mk (some 2) none
            (Act.new 28 [AV.d (DV.int IntKind.i64 (Int.ofNat 0)), AV.d (DV.int IntKind.i64 (Int.ofNat 0)), AV.d (DV.int IntKind.i64 (Int.ofNat 0)), AV.d (DV.int IntKind.i64 (Int.ofNat 0)), AV.d (DV.bool false), AV.d (DV.int IntKind.i64 (Int.ofNat 0)), AV.d (DV.int IntKind.i64 (Int.ofNat 0))]) []])
      (CC.seq
        (CC.reg (some [])
          [Ins.mk (some 3) none (Act.call true) [Opd.k (AV.fn Mode.pure 117 [] [])], Ins.mk (some 4) none (Act.build [AV.d (DV.int IntKind.i64 (Int.ofNat 0)), AV.d (DV.int IntKind.i64 (Int.ofNat 0))] [(0, 1)]) [Opd.k (AV.d (DV.int IntKind.i64 (Int.ofNat 5)))],
            Ins.mk (some 5) none (Act.load (some 2)) [Opd.t 1],
            Ins.mk (some 6) none
              (Act.build [AV.d (DV.int IntKind.i64 (Int.ofNat 0)), AV.d (DV.int IntKind.i64 (Int.ofNat 0)), AV.d (DV.int IntKind.i64 (Int.ofNat 0)), AV.d (DV.int IntKind.i64 (Int.ofNat 0)), AV.d (DV.bool false), AV.d (DV.int IntKind.i64 (Int.ofNat 0)), AV.d (DV.int IntKind.i64 (Int.ofNat 0))]
                [(0, 2), (2, 2), (4, 1), (5, 2)])
              [Opd.t 3, Opd.t 4, Opd.k (AV.d (DV.bool true)), Opd.t 5],
            Ins.mk none none (Act.store 7) [Opd.t 2, Opd.t 6]])
        CC.ret))
    [RV.cell 2 (some 7)]
theorem code80_ok : F0 80 = some (.code code80) := by kernel_rfl
def code100 : CFn :=
  CFn.mk
    (CC.seq (CC.reg none [Ins.mk (some 2) none Act.mv [Opd.k (AV.d (DV.bool false))]])
      (CC.seq
        (CC.reg none
          [Ins.mk (some 3) none Act.mv [Opd.t 0], Ins.mk (some 4) none (Act.bin BinOp.eql (EqK.nil 10)) [Opd.t 3, Opd.k (AV.d (DV.int IntKind.i64 (Int.ofNat 4)))], Ins.mk (some 5) none Act.mv [Opd.t 4], Ins.mk (some 6) (some (5, false)) Act.mv [Opd.t 0],
            Ins.mk (some 7) (some (5, false)) (Act.bin BinOp.eql (EqK.nil 10)) [Opd.t 6, Opd.k (AV.d (DV.int IntKind.i64 (Int.ofNat 5)))], Ins.mk (some 8) none Act.pick [Opd.t 5, Opd.k (AV.d (DV.bool true)), Opd.t 7], Ins.mk (some 2) none Act.mv [Opd.t 8]])
        CC.ret))
    [RV.tmp 2]
theorem code100_ok : F0 100 = some (.code code100) := by kernel_rfl
def code92 : CFn :=
  CFn.mk
    (CC.seq (CC.reg none [Ins.mk (some 1) none (Act.box 26) [Opd.t 0], Ins.mk (some 2) none Act.mv [Opd.k (AV.d (DV.bool false))]])
      (CC.seq
        (CC.reg none
          [Ins.mk (some 3) none (Act.fad 0) [Opd.t 1], Ins.mk (some 4) none (Act.load none) [Opd.t 3], Ins.mk (some 5) none (Act.bin BinOp.eql (EqK.nil 10)) [Opd.t 4, Opd.k (AV.d (DV.int IntKind.i64 (Int.ofNat 2)))], Ins.mk (some 6) none Act.mv [Opd.t 5],
            Ins.mk (some 7) (some (6, false)) (Act.fad 0) [Opd.t 1], Ins.mk (some 8) (some (6, false)) (Act.load none) [Opd.t 7], Ins.mk (some 9) (some (6, false)) (Act.bin BinOp.eql (EqK.nil 10)) [Opd.t 8, Opd.k (AV.d (DV.int IntKind.i64 (Int.ofNat 3)))],
            Ins.mk (some 10) none Act.pick [Opd.t 6, Opd.k (AV.d (DV.bool true)), Opd.t 9], Ins.mk (some 2) none Act.mv [Opd.t 10]])
        CC.ret))
    [RV.tmp 2]
theorem code92_ok : F0 92 = some (.code code92) := by kernel_rfl
def code99 : CFn :=
  CFn.mk
    (CC.seq (CC.reg none [Ins.mk (some 2) none Act.mv [Opd.k (AV.d (DV.bool false))]])
      (CC.seq
        (CC.reg none
          [Ins.mk (some 3) none Act.mv [Opd.t 0], Ins.mk (some 4) none (Act.bin BinOp.eql (EqK.nil 10)) [Opd.t 3, Opd.k (AV.d (DV.int IntKind.i64 (Int.ofNat 3)))], Ins.mk (some 5) none Act.mv [Opd.t 4], Ins.mk (some 6) (some (5, false)) Act.mv [Opd.t 0],
            Ins.mk (some 7) (some (5, false)) (Act.call false) [Opd.k (AV.fn Mode.pure 100 [] []), Opd.t 6], Ins.mk (some 8) none Act.pick [Opd.t 5, Opd.k (AV.d (DV.bool true)), Opd.t 7], Ins.mk (some 2) none Act.mv [Opd.t 8]])
        CC.ret))
    [RV.tmp 2]
theorem code99_ok : F0 99 = some (.code code99) := by kernel_rfl
def code98 : CFn :=
  CFn.mk
    (CC.seq (CC.reg none [Ins.mk (some 4) none Act.mv [Opd.k (AV.d (DV.bool false))]])
      (CC.seq (CC.reg none [Ins.mk (some 5) none Act.mv [Opd.k (AV.d (DV.int IntKind.i64 (Int.ofNat 0)))]])
        (CC.seq
          (CC.seq (CC.reg none [Ins.mk (some 8) none Act.mv [Opd.t 0], Ins.mk (some 9) none Act.len [Opd.t 8], Ins.mk (some 10) none Act.mv [Opd.k (AV.d (DV.int IntKind.i64 (Int.ofNat 0)))]])
            (CC.block 0
              (CC.loop [0, 1, 4, 5, 8, 9, 10]
                (CC.seq (CC.reg none [Ins.mk (some 11) none (Act.bin BinOp.lss (EqK.nil 10)) [Opd.t 10, Opd.t 9]])
                  (CC.seq (CC.cond (Opd.t 11) CC.skip (CC.exit 0))
                    (CC.seq (CC.fgt [0, 1, 4, 5, 8, 9, 10])
                      (CC.seq
                        (CC.block 1
                          (CC.seq
                            (CC.reg none
                              [Ins.mk (some 12) none Act.mv [Opd.t 10], Ins.mk (some 13) none (Act.iad 11) [Opd.t 8, Opd.t 10], Ins.mk (some 14) none (Act.load (some 11)) [Opd.t 13],
                                Ins.mk (some 7) none
                                  (Act.new 69
                                    [AV.d (DV.int IntKind.i64 (Int.ofNat 0)), AV.d DV.nilsl, AV.d (DV.int IntKind.i64 (Int.ofNat 0)), AV.d (DV.int IntKind.i64 (Int.ofNat 0)), AV.d (DV.int IntKind.i64 (Int.ofNat 0)), AV.d (DV.int IntKind.i64 (Int.ofNat 0)), AV.d (DV.bool false),
                                      AV.d (DV.int IntKind.i64 (Int.ofNat 0)), AV.d (DV.int IntKind.i64 (Int.ofNat 0)), AV.d (DV.int IntKind.i64 (Int.ofNat 0)), AV.d DV.nilsl])
                                  [],
                                Ins.mk (some 6) none Act.mv [Opd.t 12], Ins.mk none none (Act.storeT 11) [Opd.t 7, Opd.t 14]])
                            (CC.seq
                              (CC.seq
                                (CC.reg none
                                  [Ins.mk (some 15) none (Act.load (some 11)) [Opd.t 7], Ins.mk (some 16) none (Act.call false) [Opd.k (AV.fn Mode.pure 140 [] []), Opd.t 15], Ins.mk (some 17) none (Act.un UnOp.not) [Opd.t 16], Ins.mk (some 18) none Act.mv [Opd.t 17],
                                    Ins.mk (some 19) (some (18, false)) Act.mv [Opd.t 1], Ins.mk (some 20) (some (18, false)) Act.mv [Opd.t 19], Ins.mk (some 21) (some (20, true)) (Act.fad 0) [Opd.t 7], Ins.mk (some 22) (some (20, true)) (Act.load none) [Opd.t 21],
                                    Ins.mk (some 23) (some (20, true)) (Act.call false) [Opd.k (AV.fn Mode.pure 99 [] []), Opd.t 22], Ins.mk (some 24) (some (18, false)) Act.pick [Opd.t 20, Opd.t 23, Opd.k (AV.d (DV.bool false))],
                                    Ins.mk (some 25) none Act.pick [Opd.t 18, Opd.k (AV.d (DV.bool true)), Opd.t 24], Ins.mk (some 26) none Act.mv [Opd.t 25], Ins.mk (some 27) (some (26, false)) Act.mv [Opd.t 6],
                                    Ins.mk (some 28) (some (26, false)) (Act.bin BinOp.gtr (EqK.nil 10)) [Opd.t 27, Opd.k (AV.d (DV.int IntKind.i64 (Int.ofNat 0)))], Ins.mk (some 29) (some (26, false)) Act.mv [Opd.t 28], Ins.mk (some 30) (some (29, true)) (Act.fad 0) [Opd.t 7],
                                    Ins.mk (some 31) (some (29, true)) (Act.load none) [Opd.t 30], Ins.mk (some 32) (some (29, true)) (Act.bin BinOp.eql (EqK.nil 10)) [Opd.t 31, Opd.k (AV.d (DV.int IntKind.i64 (Int.ofNat 1)))],
                                    Ins.mk (some 33) (some (26, false)) Act.pick [Opd.t 29, Opd.t 32, Opd.k (AV.d (DV.bool false))], Ins.mk (some 34) (some (26, false)) Act.mv [Opd.t 33], Ins.mk (some 35) (some (34, true)) Act.mv [Opd.t 0], Ins.mk (some 36) (some (34, true)) Act.mv [Opd.t 6],
                                    Ins.mk (some 37) (some (34, true)) (Act.bin BinOp.sub (EqK.nil 10)) [Opd.t 36, Opd.k (AV.d (DV.int IntKind.i64 (Int.ofNat 1)))], Ins.mk (some 38) (some (34, true)) (Act.iad 11) [Opd.t 35, Opd.t 37], Ins.mk (some 39) (some (34, true)) (Act.fad 0) [Opd.t 38],
                                    Ins.mk (some 40) (some (34, true)) (Act.load none) [Opd.t 39], Ins.mk (some 41) (some (34, true)) (Act.bin BinOp.eql (EqK.nil 10)) [Opd.t 40, Opd.k (AV.d (DV.int IntKind.i64 (Int.ofNat 1)))],
                                    Ins.mk (some 42) (some (26, false)) Act.pick [Opd.t 34, Opd.t 41, Opd.k (AV.d (DV.bool false))], Ins.mk (some 43) none Act.pick [Opd.t 26, Opd.k (AV.d (DV.bool true)), Opd.t 42]])
                                (CC.cond (Opd.t 43) (CC.seq (CC.reg none [Ins.mk (some 4) none Act.mv [Opd.k (AV.d (DV.bool false))]]) CC.ret) CC.skip))
                              (CC.seq (CC.fgt [0, 1, 4, 5, 7, 8, 9, 10])
                                (CC.seq (CC.reg none [Ins.mk (some 44) none (Act.fad 0) [Opd.t 7], Ins.mk (some 45) none (Act.load none) [Opd.t 44], Ins.mk (some 46) none (Act.bin BinOp.neq (EqK.nil 10)) [Opd.t 45, Opd.k (AV.d (DV.int IntKind.i64 (Int.ofNat 1)))]])
                                  (CC.cond (Opd.t 46) (CC.reg none [Ins.mk (some 47) none Act.mv [Opd.t 5], Ins.mk (some 48) none (Act.bin BinOp.add (EqK.nil 10)) [Opd.t 47, Opd.k (AV.d (DV.int IntKind.i64 (Int.ofNat 1)))], Ins.mk (some 5) none Act.mv [Opd.t 48]]) CC.skip))))))
                        (CC.seq (CC.fgt [0, 1, 4, 5, 8, 9, 10]) (CC.reg none [Ins.mk (some 49) none (Act.bin BinOp.add (EqK.nil 10)) [Opd.t 10, Opd.k (AV.d (DV.int IntKind.i64 (Int.ofNat 1)))], Ins.mk (some 10) none Act.mv [Opd.t 49]])))))))))
          (CC.seq (CC.fgt [0, 4, 5])
            (CC.seq
              (CC.reg none
                [Ins.mk (some 50) none Act.mv [Opd.t 5], Ins.mk (some 51) none (Act.bin BinOp.gtr (EqK.nil 10)) [Opd.t 50, Opd.k (AV.d (DV.int IntKind.i64 (Int.ofNat 0)))], Ins.mk (some 52) none Act.mv [Opd.t 51], Ins.mk (some 53) (some (52, true)) Act.mv [Opd.t 0],
                  Ins.mk (some 54) (some (52, true)) Act.len [Opd.t 53], Ins.mk (some 55) (some (52, true)) (Act.bin BinOp.leq (EqK.nil 10)) [Opd.t 54, Opd.k (AV.d (DV.int IntKind.i64 (Int.ofNat 256)))], Ins.mk (some 56) none Act.pick [Opd.t 52, Opd.t 55, Opd.k (AV.d (DV.bool false))],
                  Ins.mk (some 4) none Act.mv [Opd.t 56]])
              CC.ret)))))
    [RV.tmp 4]
theorem code98_ok : F0 98 = some (.code code98) := by kernel_rfl
def code74 : CFn :=
  CFn.mk
    (CC.seq (CC.reg none [Ins.mk (some 2) none Act.mv [Opd.k (AV.d (DV.bool false))]])
      (CC.seq (CC.reg none [Ins.mk (some 3) none (Act.new 4 [AV.d (DV.bool false)]) [], Ins.mk (some 4) none (Act.new 4 [AV.d (DV.bool false)]) [], Ins.mk none none (Act.storeT 1) [Opd.t 3, Opd.k (AV.d (DV.bool false))], Ins.mk none none (Act.storeT 1) [Opd.t 4, Opd.k (AV.d (DV.bool true))]])
        (CC.seq (CC.seq (CC.reg none [Ins.mk (some 6) none Act.mv [Opd.t 0], Ins.mk (some 7) none (Act.call false) [Opd.k (AV.fn Mode.opn 112 [] []), Opd.t 6]]) (CC.block 0 (CC.rng 74 [3, 4] (Opd.t 7))))
          (CC.seq (CC.fgt [2, 3, 4])
            (CC.seq
              (CC.reg none
                [Ins.mk (some 26) none (Act.load none) [Opd.t 3], Ins.mk (some 27) none Act.mv [Opd.t 26], Ins.mk (some 28) (some (27, true)) (Act.load none) [Opd.t 4], Ins.mk (some 29) (some (27, true)) (Act.un UnOp.not) [Opd.t 28],
                  Ins.mk (some 30) none Act.pick [Opd.t 27, Opd.t 29, Opd.k (AV.d (DV.bool false))], Ins.mk (some 2) none Act.mv [Opd.t 30]])
              CC.ret)))))
    [RV.tmp 2]
theorem code74_ok : F0 74 = some (.code code74) := by kernel_rfl
def code50 : CFn :=
  CFn.mk
    (CC.seq (CC.reg none [Ins.mk (some 3) none (Act.box 26) [Opd.t 0], Ins.mk (some 6) none Act.mv [Opd.k (AV.d (DV.int IntKind.i64 (Int.ofNat 0)))], Ins.mk (some 7) none Act.mv [Opd.k (AV.d (DV.bool false))], Ins.mk (some 8) none Act.mv [Opd.k (AV.d (DV.int IntKind.i64 (Int.ofNat 0)))]])
      (CC.seq
        (CC.block 0
          (CC.seq
            (CC.reg none
              [Ins.mk (some 12) none (Act.load (some 2)) [Opd.t 3], Ins.mk (some 13) none (Act.fad 1) [Opd.t 3], Ins.mk (some 14) none (Act.load none) [Opd.t 13],
                Ins.mk (some 15) none (Act.build [AV.d (DV.int IntKind.i64 (Int.ofNat 0)), AV.d (DV.int IntKind.i64 (Int.ofNat 0))] [(0, 1), (1, 1)]) [Opd.k (AV.d (DV.int IntKind.i64 (Int.ofNat 2))), Opd.t 14],
                Ins.mk (some 16) none (Act.bin BinOp.eql (EqK.cells 2 [(0, 1), (1, 1)])) [Opd.t 12, Opd.t 15], Ins.mk (some 11) none Act.mv [Opd.t 16]])
            (CC.cond (Opd.t 11)
              (CC.seq
                (CC.reg none
                  [Ins.mk (some 17) none (Act.fad 1) [Opd.t 3], Ins.mk (some 18) none (Act.load none) [Opd.t 17], Ins.mk (some 6) none Act.mv [Opd.t 18], Ins.mk (some 7) none Act.mv [Opd.k (AV.d (DV.bool true))], Ins.mk (some 8) none Act.mv [Opd.k (AV.d (DV.int IntKind.i64 (Int.ofNat 0)))]])
                CC.ret)
              (CC.seq
                (CC.reg none
                  [Ins.mk (some 20) none (Act.fad 0) [Opd.t 3], Ins.mk (some 21) none (Act.load none) [Opd.t 20], Ins.mk (some 22) none (Act.bin BinOp.eql (EqK.nil 10)) [Opd.t 21, Opd.k (AV.d (DV.int IntKind.i64 (Int.ofNat 3)))], Ins.mk (some 23) none Act.mv [Opd.t 22],
                    Ins.mk (some 24) (some (23, true)) Act.mv [Opd.t 2], Ins.mk (some 25) none Act.pick [Opd.t 23, Opd.t 24, Opd.k (AV.d (DV.bool false))], Ins.mk (some 19) none Act.mv [Opd.t 25]])
                (CC.cond (Opd.t 19)
                  (CC.seq
                    (CC.reg none
                      [Ins.mk (some 27) none (Act.fad 1) [Opd.t 3], Ins.mk (some 28) none (Act.load none) [Opd.t 27], Ins.mk (some 29) none Act.mv [Opd.t 1], Ins.mk (some 30) none (Act.call false) [Opd.k (AV.fn Mode.pure 95 [] []), Opd.t 28, Opd.t 29], Ins.mk (some 26) none Act.mv [Opd.t 30],
                        Ins.mk (some 31) none (Act.ext 0) [Opd.t 26], Ins.mk (some 32) none (Act.ext 1) [Opd.t 26], Ins.mk (some 9) none Act.mv [Opd.t 31], Ins.mk (some 10) none Act.mv [Opd.t 32]])
                    (CC.seq
                      (CC.reg none
                        [Ins.mk (some 33) none Act.mv [Opd.t 9], Ins.mk (some 34) none Act.mv [Opd.t 10], Ins.mk (some 35) none (Act.bin BinOp.eql (EqK.nil 10)) [Opd.t 34, Opd.k (AV.d (DV.int IntKind.i64 (Int.ofNat 0)))], Ins.mk (some 36) none Act.mv [Opd.t 10], Ins.mk (some 6) none Act.mv [Opd.t 33],
                          Ins.mk (some 7) none Act.mv [Opd.t 35], Ins.mk (some 8) none Act.mv [Opd.t 36]])
                      CC.ret))
                  CC.skip)))))
        (CC.seq (CC.fgt [6, 7, 8]) (CC.seq (CC.reg none [Ins.mk (some 6) none Act.mv [Opd.k (AV.d (DV.int IntKind.i64 (Int.ofNat 0)))], Ins.mk (some 7) none Act.mv [Opd.k (AV.d (DV.bool false))], Ins.mk (some 8) none Act.mv [Opd.k (AV.d (DV.int IntKind.i64 (Int.ofNat 0)))]]) CC.ret))))
    [RV.tmp 6, RV.tmp 7, RV.tmp 8]
theorem code50_ok : F0 50 = some (.code code50) := by kernel_rfl
def code57 : CFn :=
  CFn.mk
    (CC.seq (CC.reg none [Ins.mk (some 4) none Act.mv [Opd.k (AV.d (DV.bool false))]])
      (CC.seq
        (CC.reg none
          [Ins.mk (some 5) none Act.mv [Opd.t 0], Ins.mk (some 6) none Act.mv [Opd.t 1], Ins.mk (some 7) none (Act.call false) [Opd.k (AV.fn Mode.drop 101 [] []), Opd.t 5, Opd.t 6], Ins.mk (some 8) none (Act.bin BinOp.geq (EqK.nil 10)) [Opd.t 7, Opd.k (AV.d (DV.int IntKind.i64 (Int.ofNat 0)))],
            Ins.mk (some 4) none Act.mv [Opd.t 8]])
        CC.ret))
    [RV.tmp 4]
theorem code57_ok : F0 57 = some (.code code57) := by kernel_rfl
def code101 : CFn :=
  CFn.mk
    (CC.seq (CC.reg none [Ins.mk (some 4) none Act.mv [Opd.k (AV.d (DV.int IntKind.i64 (Int.ofNat 0)))]])
      (CC.seq
        (CC.seq (CC.reg none [Ins.mk (some 6) none Act.mv [Opd.t 0], Ins.mk (some 7) none Act.len [Opd.t 6], Ins.mk (some 8) none Act.mv [Opd.k (AV.d (DV.int IntKind.i64 (Int.ofNat 0)))]])
          (CC.block 0
            (CC.loop [0, 1, 4, 7, 8]
              (CC.seq (CC.reg none [Ins.mk (some 9) none (Act.bin BinOp.lss (EqK.nil 10)) [Opd.t 8, Opd.t 7]])
                (CC.seq (CC.cond (Opd.t 9) CC.skip (CC.exit 0))
                  (CC.seq (CC.fgt [0, 1, 4, 7, 8])
                    (CC.seq
                      (CC.block 1
                        (CC.seq (CC.reg none [Ins.mk (some 10) none Act.mv [Opd.t 8], Ins.mk (some 5) none Act.mv [Opd.t 10]])
                          (CC.seq
                            (CC.reg none
                              [Ins.mk (some 11) none Act.mv [Opd.t 1], Ins.mk (some 12) none Act.mv [Opd.t 0], Ins.mk (some 13) none Act.mv [Opd.t 5], Ins.mk (some 14) none (Act.iad 11) [Opd.t 12, Opd.t 13], Ins.mk (some 15) none (Act.load (some 11)) [Opd.t 14],
                                Ins.mk (some 16) none (Act.call false) [Opd.t 11, Opd.t 15]])
                            (CC.cond (Opd.t 16) (CC.seq (CC.reg none [Ins.mk (some 17) none Act.mv [Opd.t 5], Ins.mk (some 4) none Act.mv [Opd.t 17]]) CC.ret) CC.skip))))
                      (CC.seq (CC.fgt [0, 1, 4, 7, 8]) (CC.reg none [Ins.mk (some 18) none (Act.bin BinOp.add (EqK.nil 10)) [Opd.t 8, Opd.k (AV.d (DV.int IntKind.i64 (Int.ofNat 1)))], Ins.mk (some 8) none Act.mv [Opd.t 18]])))))))))
        (CC.seq (CC.fgt [4]) (CC.seq (CC.reg none [Ins.mk (some 4) none Act.mv [Opd.k (AV.d (DV.int IntKind.i64 (Int.negSucc 0)))]]) CC.ret))))
    [RV.tmp 4]
theorem code101_ok : F0 101 = some (.code code101) := by kernel_rfl
def round22 : RFn :=
  RFn.mk [5, 8, 9, 10, 7, 11] [41, 42]
    (CC.seq
      (CC.reg none
        [Ins.mk (some 12) none
            (Act.new 69
              [AV.d (DV.int IntKind.i64 (Int.ofNat 0)), AV.d DV.nilsl, AV.d (DV.int IntKind.i64 (Int.ofNat 0)), AV.d (DV.int IntKind.i64 (Int.ofNat 0)), AV.d (DV.int IntKind.i64 (Int.ofNat 0)), AV.d (DV.int IntKind.i64 (Int.ofNat 0)), AV.d (DV.bool false), AV.d (DV.int IntKind.i64 (Int.ofNat 0)),
                AV.d (DV.int IntKind.i64 (Int.ofNat 0)), AV.d (DV.int IntKind.i64 (Int.ofNat 0)), AV.d DV.nilsl])
            [],
          Ins.mk none none (Act.storeT 11) [Opd.t 12, Opd.t 41]])
      (CC.reg none [Ins.mk (some 13) none Act.mv [Opd.t 42]]))
    (CC.block 2
      (CC.seq (CC.seq (CC.reg none [Ins.mk (some 43) none (Act.fad 0) [Opd.t 12], Ins.mk (some 44) none (Act.load none) [Opd.t 43], Ins.mk (some 45) none (Act.bin BinOp.neq (EqK.nil 10)) [Opd.t 44, Opd.k (AV.d (DV.int IntKind.i64 (Int.ofNat 2)))]]) (CC.cond (Opd.t 45) (CC.exit 2) CC.skip))
        (CC.seq (CC.fgt [5, 7, 8, 9, 10, 11, 12, 13])
          (CC.seq
            (CC.reg none
              [Ins.mk (some 47) none (Act.fad 2) [Opd.t 12], Ins.mk (some 48) none (Act.load (some 7)) [Opd.t 47], Ins.mk (some 49) none (Act.load none) [Opd.t 5], Ins.mk (some 50) none (Act.call false) [Opd.k (AV.fn Mode.pure 18 [] []), Opd.t 48, Opd.t 49], Ins.mk (some 46) none Act.mv [Opd.t 50],
                Ins.mk (some 51) none (Act.ext 0) [Opd.t 46], Ins.mk (some 52) none (Act.ext 1) [Opd.t 46], Ins.mk (some 14) none Act.mv [Opd.t 51], Ins.mk (some 15) none Act.mv [Opd.t 52]])
            (CC.seq
              (CC.seq (CC.reg none [Ins.mk (some 53) none Act.mv [Opd.t 15], Ins.mk (some 54) none (Act.bin BinOp.neq (EqK.nil 10)) [Opd.t 53, Opd.k (AV.d (DV.int IntKind.i64 (Int.ofNat 0)))]])
                (CC.cond (Opd.t 54) (CC.seq (CC.reg none [Ins.mk (some 55) none Act.mv [Opd.t 15], Ins.mk none none (Act.storeT 1) [Opd.t 8, Opd.k (AV.d (DV.int IntKind.i64 (Int.ofNat 0)))], Ins.mk none none (Act.storeT 1) [Opd.t 9, Opd.t 55]]) CC.ret) CC.skip))
              (CC.seq (CC.fgt [7, 10, 11, 13, 14])
                (CC.seq (CC.reg none [Ins.mk (some 16) none Act.mv [Opd.k (AV.d (DV.int IntKind.i64 (Int.ofNat 0)))]])
                  (CC.seq
                    (CC.seq (CC.reg none [Ins.mk (some 56) none Act.mv [Opd.t 13], Ins.mk (some 57) none (Act.bin BinOp.eql (EqK.nil 10)) [Opd.t 56, Opd.k (AV.d (DV.int IntKind.i64 (Int.ofNat 0)))]])
                      (CC.cond (Opd.t 57) (CC.reg none [Ins.mk (some 16) none Act.mv [Opd.k (AV.d (DV.int IntKind.i64 (Int.ofNat 1)))], Ins.mk (some 13) none Act.mv [Opd.k (AV.d (DV.int IntKind.i64 (Int.ofNat 1)))]]) CC.skip))
                    (CC.seq (CC.fgt [7, 10, 11, 13, 14, 16])
                      (CC.seq
                        (CC.reg (some [])
                          [Ins.mk (some 58) none Act.mv [Opd.t 16], Ins.mk (some 59) none (Act.iadA 2 1) [Opd.t 10, Opd.t 58], Ins.mk (some 60) none (Act.load none) [Opd.t 59], Ins.mk (some 61) none Act.mv [Opd.t 13], Ins.mk (some 62) none Act.mv [Opd.t 14],
                            Ins.mk (some 63) none (Act.load none) [Opd.t 7], Ins.mk (some 64) none (Act.bin BinOp.add (EqK.nil 10)) [Opd.t 62, Opd.t 63], Ins.mk (some 65) none (Act.bin BinOp.mul (EqK.nil 10)) [Opd.t 61, Opd.t 64],
                            Ins.mk (some 66) none (Act.bin BinOp.add (EqK.nil 10)) [Opd.t 60, Opd.t 65], Ins.mk (some 67) none (Act.iadA 2 1) [Opd.t 10, Opd.t 58], Ins.mk none none (Act.store 1) [Opd.t 67, Opd.t 66]])
                        (CC.reg none
                          [Ins.mk (some 68) none Act.mv [Opd.t 16], Ins.mk (some 69) none (Act.iadA 2 1) [Opd.t 11, Opd.t 68], Ins.mk (some 70) none (Act.load none) [Opd.t 69], Ins.mk (some 71) none Act.mv [Opd.t 13], Ins.mk (some 72) none (Act.bin BinOp.add (EqK.nil 10)) [Opd.t 70, Opd.t 71],
                            Ins.mk (some 73) none (Act.iadA 2 1) [Opd.t 11, Opd.t 68], Ins.mk none none (Act.storeT 1) [Opd.t 73, Opd.t 72]])))))))))))
theorem round22_ok : F0 (1048576 + 22) = some (.round round22) := by kernel_rfl
def round74 : RFn :=
  RFn.mk [3, 4] [8]
    (CC.reg none
      [Ins.mk (some 5) none
          (Act.new 69
            [AV.d (DV.int IntKind.i64 (Int.ofNat 0)), AV.d DV.nilsl, AV.d (DV.int IntKind.i64 (Int.ofNat 0)), AV.d (DV.int IntKind.i64 (Int.ofNat 0)), AV.d (DV.int IntKind.i64 (Int.ofNat 0)), AV.d (DV.int IntKind.i64 (Int.ofNat 0)), AV.d (DV.bool false), AV.d (DV.int IntKind.i64 (Int.ofNat 0)),
              AV.d (DV.int IntKind.i64 (Int.ofNat 0)), AV.d (DV.int IntKind.i64 (Int.ofNat 0)), AV.d DV.nilsl])
          [],
        Ins.mk none none (Act.storeT 11) [Opd.t 5, Opd.t 8]])
    (CC.block 1
      (CC.seq
        (CC.reg none
          [Ins.mk (some 9) none (Act.load none) [Opd.t 3], Ins.mk (some 10) none Act.mv [Opd.t 9], Ins.mk (some 11) (some (10, false)) (Act.fad 0) [Opd.t 5], Ins.mk (some 12) (some (10, false)) (Act.load none) [Opd.t 11],
            Ins.mk (some 13) (some (10, false)) (Act.call false) [Opd.k (AV.fn Mode.pure 100 [] []), Opd.t 12], Ins.mk (some 14) none Act.pick [Opd.t 10, Opd.k (AV.d (DV.bool true)), Opd.t 13], Ins.mk none none (Act.storeT 1) [Opd.t 3, Opd.t 14]])
        (CC.reg none
          [Ins.mk (some 15) none (Act.load none) [Opd.t 4], Ins.mk (some 16) none Act.mv [Opd.t 15], Ins.mk (some 17) (some (16, true)) (Act.fad 0) [Opd.t 5], Ins.mk (some 18) (some (16, true)) (Act.load none) [Opd.t 17],
            Ins.mk (some 19) (some (16, true)) (Act.bin BinOp.neq (EqK.nil 10)) [Opd.t 18, Opd.k (AV.d (DV.int IntKind.i64 (Int.ofNat 2)))], Ins.mk (some 20) (some (16, true)) Act.mv [Opd.t 19], Ins.mk (some 21) (some (20, false)) (Act.fad 2) [Opd.t 5],
            Ins.mk (some 22) (some (20, false)) (Act.load (some 7)) [Opd.t 21], Ins.mk (some 23) (some (20, false)) (Act.call false) [Opd.k (AV.fn Mode.pure 47 [] []), Opd.t 22], Ins.mk (some 24) (some (16, true)) Act.pick [Opd.t 20, Opd.k (AV.d (DV.bool true)), Opd.t 23],
            Ins.mk (some 25) none Act.pick [Opd.t 16, Opd.t 24, Opd.k (AV.d (DV.bool false))], Ins.mk none none (Act.storeT 1) [Opd.t 4, Opd.t 25]])))
theorem round74_ok : F0 (1048576 + 74) = some (.round round74) := by kernel_rfl
end Go.Proofs.YtjeblkicgmmhiaaGreatDoor.Ab
