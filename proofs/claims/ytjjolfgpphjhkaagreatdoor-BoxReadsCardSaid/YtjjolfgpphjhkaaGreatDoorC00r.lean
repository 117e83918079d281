/- The code of some functions, compiled (printed by a program for this seat; each is held against the compiler by the kernel). -/
import Derived.Test.YtjjolfgpphjhkaaGreatDoorAbCfg
namespace Go.Proofs.YtjjolfgpphjhkaaGreatDoor.Ab
open Go
set_option maxRecDepth 100000
def code53 : CFn :=
  CFn.mk
    (CC.seq (CC.reg none [Ins.mk (some 2) none Act.mv [Opd.k (AV.d (DV.str []))]])
      (CC.seq (CC.reg none [Ins.mk (some 3) none Act.mv [Opd.k (AV.d (DV.str []))]])
        (CC.seq
          (CC.seq (CC.reg none [Ins.mk (some 4) none Act.mv [Opd.k (AV.d (DV.int IntKind.i64 (Int.ofNat 0)))]])
            (CC.block 0
              (CC.loop [0, 2, 3, 4]
                (CC.seq (CC.seq (CC.reg none [Ins.mk (some 6) none Act.mv [Opd.t 4], Ins.mk (some 7) none Act.mv [Opd.t 0], Ins.mk (some 8) none Act.lens [Opd.t 7], Ins.mk (some 9) none (Act.bin BinOp.lss (EqK.nil 10)) [Opd.t 6, Opd.t 8]]) (CC.cond (Opd.t 9) CC.skip (CC.exit 0)))
                  (CC.seq (CC.fgt [0, 2, 3, 4])
                    (CC.seq
                      (CC.block 1
                        (CC.seq (CC.reg none [Ins.mk (some 12) none Act.mv [Opd.t 0], Ins.mk (some 13) none Act.mv [Opd.t 4], Ins.mk (some 14) none Act.idxs [Opd.t 12, Opd.t 13], Ins.mk (some 5) none Act.mv [Opd.t 14]])
                          (CC.seq
                            (CC.seq
                              (CC.reg none
                                [Ins.mk (some 15) none Act.mv [Opd.t 5], Ins.mk (some 16) none (Act.bin BinOp.geq (EqK.nil 10)) [Opd.t 15, Opd.k (AV.d (DV.int IntKind.u8 (Int.ofNat 65)))], Ins.mk (some 17) none Act.mv [Opd.t 16], Ins.mk (some 18) (some (17, true)) Act.mv [Opd.t 5],
                                  Ins.mk (some 19) (some (17, true)) (Act.bin BinOp.leq (EqK.nil 10)) [Opd.t 18, Opd.k (AV.d (DV.int IntKind.u8 (Int.ofNat 90)))], Ins.mk (some 20) none Act.pick [Opd.t 17, Opd.t 19, Opd.k (AV.d (DV.bool false))]])
                              (CC.cond (Opd.t 20)
                                (CC.reg none
                                  [Ins.mk (some 21) none Act.mv [Opd.t 5], Ins.mk (some 22) none (Act.bin BinOp.sub (EqK.nil 10)) [Opd.t 21, Opd.k (AV.d (DV.int IntKind.u8 (Int.ofNat 65)))],
                                    Ins.mk (some 23) none (Act.bin BinOp.add (EqK.nil 10)) [Opd.t 22, Opd.k (AV.d (DV.int IntKind.u8 (Int.ofNat 97)))], Ins.mk (some 5) none Act.mv [Opd.t 23]])
                                CC.skip))
                            (CC.seq (CC.fgt [0, 2, 3, 4, 5])
                              (CC.reg none
                                [Ins.mk (some 24) none Act.mv [Opd.t 3], Ins.mk (some 25) none Act.mv [Opd.t 5], Ins.mk (some 26) none (Act.bslT 5 1 [DV.int IntKind.u8 (Int.ofNat 0)] 1 [0]) [Opd.t 25], Ins.mk (some 27) none Act.b2s [Opd.t 26],
                                  Ins.mk (some 28) none (Act.bin BinOp.add (EqK.nil 10)) [Opd.t 24, Opd.t 27], Ins.mk (some 3) none Act.mv [Opd.t 28]])))))
                      (CC.seq (CC.fgt [0, 2, 3, 4]) (CC.reg none [Ins.mk (some 10) none Act.mv [Opd.t 4], Ins.mk (some 11) none (Act.bin BinOp.add (EqK.nil 10)) [Opd.t 10, Opd.k (AV.d (DV.int IntKind.i64 (Int.ofNat 1)))], Ins.mk (some 4) none Act.mv [Opd.t 11]]))))))))
          (CC.seq (CC.fgt [2, 3]) (CC.seq (CC.reg none [Ins.mk (some 29) none Act.mv [Opd.t 3], Ins.mk (some 2) none Act.mv [Opd.t 29]]) CC.ret)))))
    [RV.tmp 2]
theorem code53_ok : F0 53 = some (.code code53) := by kernel_rfl
def code37 : CFn :=
  CFn.mk
    (CC.seq (CC.reg none [Ins.mk (some 4) none Act.mv [Opd.k (AV.d (DV.bool false))]])
      (CC.seq
        (CC.reg none
          [Ins.mk (some 5) none Act.mv [Opd.t 0], Ins.mk (some 6) none (Act.call false) [Opd.k (AV.fn Mode.pure 53 [] []), Opd.t 5], Ins.mk (some 7) none Act.mv [Opd.t 1], Ins.mk (some 8) none (Act.call false) [Opd.k (AV.fn Mode.pure 53 [] []), Opd.t 7],
            Ins.mk (some 9) none (Act.bin BinOp.eql (EqK.nil 10)) [Opd.t 6, Opd.t 8], Ins.mk (some 4) none Act.mv [Opd.t 9]])
        CC.ret))
    [RV.tmp 4]
theorem code37_ok : F0 37 = some (.code code37) := by kernel_rfl
def code36 : CFn :=
  CFn.mk
    (CC.seq (CC.reg none [Ins.mk (some 4) none (Act.new 45 [AV.d (DV.int IntKind.i64 (Int.ofNat 0)), AV.d (DV.int IntKind.i64 (Int.ofNat 0)), AV.d (DV.str []), AV.d (DV.str [])]) []])
      (CC.seq
        (CC.seq
          (CC.reg none
            [Ins.mk (some 5) none Act.mv [Opd.t 1], Ins.mk (some 6) none (Act.bin BinOp.lss (EqK.nil 10)) [Opd.t 5, Opd.k (AV.d (DV.int IntKind.i64 (Int.ofNat 0)))], Ins.mk (some 7) none Act.mv [Opd.t 6], Ins.mk (some 8) (some (7, false)) Act.mv [Opd.t 1],
              Ins.mk (some 9) (some (7, false)) Act.mv [Opd.t 0], Ins.mk (some 10) (some (7, false)) Act.len [Opd.t 9], Ins.mk (some 11) (some (7, false)) (Act.bin BinOp.geq (EqK.nil 10)) [Opd.t 8, Opd.t 10], Ins.mk (some 12) none Act.pick [Opd.t 7, Opd.k (AV.d (DV.bool true)), Opd.t 11]])
          (CC.cond (Opd.t 12)
            (CC.seq (CC.reg none [Ins.mk (some 13) none (Act.build [AV.d (DV.int IntKind.i64 (Int.ofNat 0)), AV.d (DV.int IntKind.i64 (Int.ofNat 0)), AV.d (DV.str []), AV.d (DV.str [])] [(0, 1)]) [Opd.k (AV.d (DV.int IntKind.i64 (Int.ofNat 8)))], Ins.mk none none (Act.storeT 4) [Opd.t 4, Opd.t 13]])
              CC.ret)
            CC.skip))
        (CC.seq (CC.fgt [0, 1, 4])
          (CC.seq (CC.reg none [Ins.mk (some 14) none Act.mv [Opd.t 0], Ins.mk (some 15) none Act.mv [Opd.t 1], Ins.mk (some 16) none (Act.iad 4) [Opd.t 14, Opd.t 15], Ins.mk (some 17) none (Act.load (some 4)) [Opd.t 16], Ins.mk none none (Act.storeT 4) [Opd.t 4, Opd.t 17]]) CC.ret))))
    [RV.cell 4 (some 4)]
theorem code36_ok : F0 36 = some (.code code36) := by kernel_rfl
def code76 : CFn :=
  CFn.mk
    (CC.seq (CC.reg none [Ins.mk (some 4) none Act.mv [Opd.k (AV.d (DV.bool false))]])
      (CC.seq
        (CC.seq (CC.reg none [Ins.mk (some 5) none Act.mv [Opd.k (AV.d (DV.int IntKind.i64 (Int.ofNat 0)))]])
          (CC.block 0
            (CC.loop [0, 1, 4, 5]
              (CC.seq (CC.seq (CC.reg none [Ins.mk (some 6) none Act.mv [Opd.t 5], Ins.mk (some 7) none Act.mv [Opd.t 1], Ins.mk (some 8) none Act.len [Opd.t 7], Ins.mk (some 9) none (Act.bin BinOp.lss (EqK.nil 10)) [Opd.t 6, Opd.t 8]]) (CC.cond (Opd.t 9) CC.skip (CC.exit 0)))
                (CC.seq (CC.fgt [0, 1, 4, 5])
                  (CC.seq
                    (CC.block 1
                      (CC.seq
                        (CC.reg none
                          [Ins.mk (some 12) none Act.mv [Opd.t 0], Ins.mk (some 13) none Act.mv [Opd.t 1], Ins.mk (some 14) none Act.mv [Opd.t 5], Ins.mk (some 15) none (Act.iad 1) [Opd.t 13, Opd.t 14], Ins.mk (some 16) none (Act.load none) [Opd.t 15],
                            Ins.mk (some 17) none (Act.call false) [Opd.k (AV.fn Mode.pure 37 [] []), Opd.t 12, Opd.t 16]])
                        (CC.cond (Opd.t 17) (CC.seq (CC.reg none [Ins.mk (some 4) none Act.mv [Opd.k (AV.d (DV.bool true))]]) CC.ret) CC.skip)))
                    (CC.seq (CC.fgt [0, 1, 4, 5]) (CC.reg none [Ins.mk (some 10) none Act.mv [Opd.t 5], Ins.mk (some 11) none (Act.bin BinOp.add (EqK.nil 10)) [Opd.t 10, Opd.k (AV.d (DV.int IntKind.i64 (Int.ofNat 1)))], Ins.mk (some 5) none Act.mv [Opd.t 11]]))))))))
        (CC.seq (CC.fgt [4]) (CC.seq (CC.reg none [Ins.mk (some 4) none Act.mv [Opd.k (AV.d (DV.bool false))]]) CC.ret))))
    [RV.tmp 4]
theorem code76_ok : F0 76 = some (.code code76) := by kernel_rfl
def code77 : CFn :=
  CFn.mk
    (CC.seq (CC.reg none [Ins.mk (some 2) none Act.mv [Opd.k (AV.d (DV.bool false))]])
      (CC.seq
        (CC.seq (CC.reg none [Ins.mk (some 3) none Act.mv [Opd.k (AV.d (DV.int IntKind.i64 (Int.ofNat 0)))]])
          (CC.block 0
            (CC.loop [0, 2, 3]
              (CC.seq (CC.seq (CC.reg none [Ins.mk (some 4) none Act.mv [Opd.t 3], Ins.mk (some 5) none Act.mv [Opd.t 0], Ins.mk (some 6) none Act.lens [Opd.t 5], Ins.mk (some 7) none (Act.bin BinOp.lss (EqK.nil 10)) [Opd.t 4, Opd.t 6]]) (CC.cond (Opd.t 7) CC.skip (CC.exit 0)))
                (CC.seq (CC.fgt [0, 2, 3])
                  (CC.seq
                    (CC.block 1
                      (CC.seq
                        (CC.seq
                          (CC.reg none
                            [Ins.mk (some 10) none Act.mv [Opd.t 0], Ins.mk (some 11) none Act.mv [Opd.t 3], Ins.mk (some 12) none Act.idxs [Opd.t 10, Opd.t 11], Ins.mk (some 13) none (Act.bin BinOp.eql (EqK.nil 10)) [Opd.t 12, Opd.k (AV.d (DV.int IntKind.u8 (Int.ofNat 101)))],
                              Ins.mk (some 14) none Act.mv [Opd.t 13], Ins.mk (some 15) (some (14, false)) Act.mv [Opd.t 0], Ins.mk (some 16) (some (14, false)) Act.mv [Opd.t 3], Ins.mk (some 17) (some (14, false)) Act.idxs [Opd.t 15, Opd.t 16],
                              Ins.mk (some 18) (some (14, false)) (Act.bin BinOp.eql (EqK.nil 10)) [Opd.t 17, Opd.k (AV.d (DV.int IntKind.u8 (Int.ofNat 69)))], Ins.mk (some 19) none Act.pick [Opd.t 14, Opd.k (AV.d (DV.bool true)), Opd.t 18]])
                          (CC.cond (Opd.t 19) (CC.seq (CC.reg none [Ins.mk (some 2) none Act.mv [Opd.k (AV.d (DV.bool true))]]) CC.ret) CC.skip))
                        (CC.seq (CC.fgt [0, 2, 3])
                          (CC.seq
                            (CC.reg none
                              [Ins.mk (some 20) none Act.mv [Opd.t 0], Ins.mk (some 21) none Act.mv [Opd.t 3], Ins.mk (some 22) none Act.idxs [Opd.t 20, Opd.t 21], Ins.mk (some 23) none (Act.bin BinOp.neq (EqK.nil 10)) [Opd.t 22, Opd.k (AV.d (DV.int IntKind.u8 (Int.ofNat 43)))],
                                Ins.mk (some 24) none Act.mv [Opd.t 23], Ins.mk (some 25) (some (24, true)) Act.mv [Opd.t 0], Ins.mk (some 26) (some (24, true)) Act.mv [Opd.t 3], Ins.mk (some 27) (some (24, true)) Act.idxs [Opd.t 25, Opd.t 26],
                                Ins.mk (some 28) (some (24, true)) (Act.bin BinOp.neq (EqK.nil 10)) [Opd.t 27, Opd.k (AV.d (DV.int IntKind.u8 (Int.ofNat 45)))], Ins.mk (some 29) none Act.pick [Opd.t 24, Opd.t 28, Opd.k (AV.d (DV.bool false))], Ins.mk (some 30) none Act.mv [Opd.t 29],
                                Ins.mk (some 31) (some (30, true)) Act.mv [Opd.t 0], Ins.mk (some 32) (some (30, true)) Act.mv [Opd.t 3], Ins.mk (some 33) (some (30, true)) Act.idxs [Opd.t 31, Opd.t 32],
                                Ins.mk (some 34) (some (30, true)) (Act.bin BinOp.neq (EqK.nil 10)) [Opd.t 33, Opd.k (AV.d (DV.int IntKind.u8 (Int.ofNat 46)))], Ins.mk (some 35) none Act.pick [Opd.t 30, Opd.t 34, Opd.k (AV.d (DV.bool false))], Ins.mk (some 36) none Act.mv [Opd.t 35],
                                Ins.mk (some 37) (some (36, true)) Act.mv [Opd.t 0], Ins.mk (some 38) (some (36, true)) Act.mv [Opd.t 3], Ins.mk (some 39) (some (36, true)) Act.idxs [Opd.t 37, Opd.t 38],
                                Ins.mk (some 40) (some (36, true)) (Act.bin BinOp.neq (EqK.nil 10)) [Opd.t 39, Opd.k (AV.d (DV.int IntKind.u8 (Int.ofNat 48)))], Ins.mk (some 41) none Act.pick [Opd.t 36, Opd.t 40, Opd.k (AV.d (DV.bool false))]])
                            (CC.cond (Opd.t 41) (CC.seq (CC.reg none [Ins.mk (some 2) none Act.mv [Opd.k (AV.d (DV.bool false))]]) CC.ret) CC.skip)))))
                    (CC.seq (CC.fgt [0, 2, 3]) (CC.reg none [Ins.mk (some 8) none Act.mv [Opd.t 3], Ins.mk (some 9) none (Act.bin BinOp.add (EqK.nil 10)) [Opd.t 8, Opd.k (AV.d (DV.int IntKind.i64 (Int.ofNat 1)))], Ins.mk (some 3) none Act.mv [Opd.t 9]]))))))))
        (CC.seq (CC.fgt [2]) (CC.seq (CC.reg none [Ins.mk (some 2) none Act.mv [Opd.k (AV.d (DV.bool true))]]) CC.ret))))
    [RV.tmp 2]
theorem code77_ok : F0 77 = some (.code code77) := by kernel_rfl
def code50 : CFn :=
  CFn.mk
    (CC.seq (CC.reg none [Ins.mk (some 1) none (Act.box 45) [Opd.t 0], Ins.mk (some 2) none Act.mv [Opd.k (AV.d (DV.bool false))]])
      (CC.seq
        (CC.seq (CC.reg none [Ins.mk (some 3) none (Act.fad 0) [Opd.t 1], Ins.mk (some 4) none (Act.load none) [Opd.t 3]])
          (CC.block 0
            (CC.seq (CC.reg none [Ins.mk (some 6) none (Act.bin BinOp.eql (EqK.nil 10)) [Opd.t 4, Opd.k (AV.d (DV.int IntKind.i64 (Int.ofNat 5)))], Ins.mk (some 5) none Act.mv [Opd.t 6]])
              (CC.cond (Opd.t 5)
                (CC.seq
                  (CC.reg none
                    [Ins.mk (some 7) none (Act.fad 2) [Opd.t 1], Ins.mk (some 8) none (Act.load none) [Opd.t 7],
                      Ins.mk (some 9) none (Act.bslT 9 1 [DV.str []] 14 [0, 1, 2, 3, 4, 5, 6, 7, 8, 9, 10, 11, 12, 13])
                        [Opd.k (AV.d (DV.str [UInt8.ofNat 101, UInt8.ofNat 109])), Opd.k (AV.d (DV.str [UInt8.ofNat 114, UInt8.ofNat 101, UInt8.ofNat 109])), Opd.k (AV.d (DV.str [UInt8.ofNat 101, UInt8.ofNat 120])), Opd.k (AV.d (DV.str [UInt8.ofNat 99, UInt8.ofNat 104])),
                          Opd.k (AV.d (DV.str [UInt8.ofNat 118, UInt8.ofNat 119])), Opd.k (AV.d (DV.str [UInt8.ofNat 118, UInt8.ofNat 104])), Opd.k (AV.d (DV.str [UInt8.ofNat 118, UInt8.ofNat 109, UInt8.ofNat 105, UInt8.ofNat 110])),
                          Opd.k (AV.d (DV.str [UInt8.ofNat 118, UInt8.ofNat 109, UInt8.ofNat 97, UInt8.ofNat 120])), Opd.k (AV.d (DV.str [UInt8.ofNat 99, UInt8.ofNat 109])), Opd.k (AV.d (DV.str [UInt8.ofNat 109, UInt8.ofNat 109])), Opd.k (AV.d (DV.str [UInt8.ofNat 113])),
                          Opd.k (AV.d (DV.str [UInt8.ofNat 105, UInt8.ofNat 110])), Opd.k (AV.d (DV.str [UInt8.ofNat 112, UInt8.ofNat 99])), Opd.k (AV.d (DV.str [UInt8.ofNat 112, UInt8.ofNat 116]))],
                      Ins.mk (some 10) none (Act.call false) [Opd.k (AV.fn Mode.pure 76 [] []), Opd.t 8, Opd.t 9], Ins.mk (some 2) none Act.mv [Opd.t 10]])
                  CC.ret)
                (CC.seq (CC.reg none [Ins.mk (some 12) none (Act.bin BinOp.eql (EqK.nil 10)) [Opd.t 4, Opd.k (AV.d (DV.int IntKind.i64 (Int.ofNat 2)))], Ins.mk (some 11) none Act.mv [Opd.t 12]])
                  (CC.cond (Opd.t 11)
                    (CC.seq
                      (CC.reg none
                        [Ins.mk (some 13) none (Act.fad 2) [Opd.t 1], Ins.mk (some 14) none (Act.load none) [Opd.t 13],
                          Ins.mk (some 15) none (Act.bslT 9 1 [DV.str []] 6 [0, 1, 2, 3, 4, 5])
                            [Opd.k (AV.d (DV.str [UInt8.ofNat 99, UInt8.ofNat 97, UInt8.ofNat 108, UInt8.ofNat 99])), Opd.k (AV.d (DV.str [UInt8.ofNat 109, UInt8.ofNat 105, UInt8.ofNat 110])), Opd.k (AV.d (DV.str [UInt8.ofNat 109, UInt8.ofNat 97, UInt8.ofNat 120])),
                              Opd.k (AV.d (DV.str [UInt8.ofNat 99, UInt8.ofNat 108, UInt8.ofNat 97, UInt8.ofNat 109, UInt8.ofNat 112])), Opd.k (AV.d (DV.str [UInt8.ofNat 101, UInt8.ofNat 110, UInt8.ofNat 118])), Opd.k (AV.d (DV.str [UInt8.ofNat 118, UInt8.ofNat 97, UInt8.ofNat 114]))],
                          Ins.mk (some 16) none (Act.call false) [Opd.k (AV.fn Mode.pure 76 [] []), Opd.t 14, Opd.t 15], Ins.mk (some 2) none Act.mv [Opd.t 16]])
                      CC.ret)
                    (CC.seq (CC.reg none [Ins.mk (some 18) none (Act.bin BinOp.eql (EqK.nil 10)) [Opd.t 4, Opd.k (AV.d (DV.int IntKind.i64 (Int.ofNat 1)))], Ins.mk (some 17) none Act.mv [Opd.t 18]])
                      (CC.cond (Opd.t 17)
                        (CC.seq
                          (CC.reg none
                            [Ins.mk (some 19) none (Act.fad 2) [Opd.t 1], Ins.mk (some 20) none (Act.load none) [Opd.t 19],
                              Ins.mk (some 21) none (Act.bslT 9 1 [DV.str []] 4 [0, 1, 2, 3])
                                [Opd.k (AV.d (DV.str [UInt8.ofNat 105, UInt8.ofNat 110, UInt8.ofNat 104, UInt8.ofNat 101, UInt8.ofNat 114, UInt8.ofNat 105, UInt8.ofNat 116])),
                                  Opd.k (AV.d (DV.str [UInt8.ofNat 105, UInt8.ofNat 110, UInt8.ofNat 105, UInt8.ofNat 116, UInt8.ofNat 105, UInt8.ofNat 97, UInt8.ofNat 108])), Opd.k (AV.d (DV.str [UInt8.ofNat 117, UInt8.ofNat 110, UInt8.ofNat 115, UInt8.ofNat 101, UInt8.ofNat 116])),
                                  Opd.k (AV.d (DV.str [UInt8.ofNat 114, UInt8.ofNat 101, UInt8.ofNat 118, UInt8.ofNat 101, UInt8.ofNat 114, UInt8.ofNat 116]))],
                              Ins.mk (some 22) none (Act.call false) [Opd.k (AV.fn Mode.pure 76 [] []), Opd.t 20, Opd.t 21], Ins.mk (some 2) none Act.mv [Opd.t 22]])
                          CC.ret)
                        CC.skip))))))))
        (CC.seq (CC.fgt [2]) (CC.seq (CC.reg none [Ins.mk (some 2) none Act.mv [Opd.k (AV.d (DV.bool false))]]) CC.ret))))
    [RV.tmp 2]
theorem code50_ok : F0 50 = some (.code code50) := by kernel_rfl
def code51 : CFn :=
  CFn.mk
    (CC.seq (CC.reg none [Ins.mk (some 1) none (Act.box 45) [Opd.t 0], Ins.mk (some 2) none Act.mv [Opd.k (AV.d (DV.int IntKind.i64 (Int.ofNat 0)))], Ins.mk (some 3) none Act.mv [Opd.k (AV.d (DV.int IntKind.i64 (Int.ofNat 0)))]])
      (CC.seq
        (CC.seq (CC.reg none [Ins.mk (some 6) none (Act.fad 0) [Opd.t 1], Ins.mk (some 7) none (Act.load none) [Opd.t 6]])
          (CC.block 0
            (CC.seq (CC.reg none [Ins.mk (some 9) none (Act.bin BinOp.eql (EqK.nil 10)) [Opd.t 7, Opd.k (AV.d (DV.int IntKind.i64 (Int.ofNat 5)))], Ins.mk (some 8) none Act.mv [Opd.t 9]])
              (CC.cond (Opd.t 8)
                (CC.seq
                  (CC.seq (CC.reg none [Ins.mk (some 10) none (Act.fad 2) [Opd.t 1], Ins.mk (some 11) none (Act.load none) [Opd.t 10], Ins.mk (some 12) none (Act.call false) [Opd.k (AV.fn Mode.pure 37 [] []), Opd.t 11, Opd.k (AV.d (DV.str [UInt8.ofNat 112, UInt8.ofNat 120]))]])
                    (CC.cond (Opd.t 12) (CC.seq (CC.reg none [Ins.mk (some 2) none Act.mv [Opd.k (AV.d (DV.int IntKind.i64 (Int.ofNat 2)))], Ins.mk (some 3) none Act.mv [Opd.k (AV.d (DV.int IntKind.i64 (Int.ofNat 64)))]]) CC.ret) CC.skip))
                  (CC.seq (CC.fgt [1, 2, 3])
                    (CC.seq (CC.reg none [Ins.mk (some 13) none (Act.fad 2) [Opd.t 1], Ins.mk (some 14) none (Act.load none) [Opd.t 13], Ins.mk (some 15) none (Act.call false) [Opd.k (AV.fn Mode.pure 37 [] []), Opd.t 14, Opd.k (AV.d (DV.str [UInt8.ofNat 102, UInt8.ofNat 114]))]])
                      (CC.cond (Opd.t 15) (CC.seq (CC.reg none [Ins.mk (some 2) none Act.mv [Opd.k (AV.d (DV.int IntKind.i64 (Int.ofNat 6)))], Ins.mk (some 3) none Act.mv [Opd.k (AV.d (DV.int IntKind.i64 (Int.ofNat 1000)))]]) CC.ret) CC.skip))))
                (CC.seq (CC.reg none [Ins.mk (some 17) none (Act.bin BinOp.eql (EqK.nil 10)) [Opd.t 7, Opd.k (AV.d (DV.int IntKind.i64 (Int.ofNat 4)))], Ins.mk (some 16) none Act.mv [Opd.t 17]])
                  (CC.cond (Opd.t 16) (CC.seq (CC.reg none [Ins.mk (some 2) none Act.mv [Opd.k (AV.d (DV.int IntKind.i64 (Int.ofNat 3)))], Ins.mk (some 3) none Act.mv [Opd.k (AV.d (DV.int IntKind.i64 (Int.ofNat 1000)))]]) CC.ret)
                    (CC.seq (CC.reg none [Ins.mk (some 19) none (Act.bin BinOp.eql (EqK.nil 10)) [Opd.t 7, Opd.k (AV.d (DV.int IntKind.i64 (Int.ofNat 3)))], Ins.mk (some 18) none Act.mv [Opd.t 19]])
                      (CC.cond (Opd.t 18)
                        (CC.seq (CC.reg none [Ins.mk (some 20) none (Act.fad 3) [Opd.t 1], Ins.mk (some 21) none (Act.load none) [Opd.t 20], Ins.mk (some 22) none (Act.call false) [Opd.k (AV.fn Mode.pure 77 [] []), Opd.t 21]])
                          (CC.cond (Opd.t 22) (CC.seq (CC.reg none [Ins.mk (some 2) none Act.mv [Opd.k (AV.d (DV.int IntKind.i64 (Int.ofNat 2)))], Ins.mk (some 3) none Act.mv [Opd.k (AV.d (DV.int IntKind.i64 (Int.ofNat 0)))]]) CC.ret) CC.skip))
                        (CC.seq (CC.reg none [Ins.mk (some 24) none (Act.bin BinOp.eql (EqK.nil 10)) [Opd.t 7, Opd.k (AV.d (DV.int IntKind.i64 (Int.ofNat 1)))], Ins.mk (some 23) none Act.mv [Opd.t 24]])
                          (CC.cond (Opd.t 23)
                            (CC.seq
                              (CC.reg none
                                [Ins.mk (some 25) none (Act.bslT 9 1 [DV.str []] 7 [0, 1, 2, 3, 4, 5, 6])
                                    [Opd.k (AV.d (DV.str [UInt8.ofNat 97, UInt8.ofNat 117, UInt8.ofNat 116, UInt8.ofNat 111])), Opd.k (AV.d (DV.str [])), Opd.k (AV.d (DV.str [])),
                                      Opd.k (AV.d (DV.str [UInt8.ofNat 109, UInt8.ofNat 105, UInt8.ofNat 110, UInt8.ofNat 45, UInt8.ofNat 99, UInt8.ofNat 111, UInt8.ofNat 110, UInt8.ofNat 116, UInt8.ofNat 101, UInt8.ofNat 110, UInt8.ofNat 116])),
                                      Opd.k (AV.d (DV.str [UInt8.ofNat 109, UInt8.ofNat 97, UInt8.ofNat 120, UInt8.ofNat 45, UInt8.ofNat 99, UInt8.ofNat 111, UInt8.ofNat 110, UInt8.ofNat 116, UInt8.ofNat 101, UInt8.ofNat 110, UInt8.ofNat 116])), Opd.k (AV.d (DV.str [])),
                                      Opd.k (AV.d (DV.str [UInt8.ofNat 110, UInt8.ofNat 111, UInt8.ofNat 110, UInt8.ofNat 101]))],
                                  Ins.mk (some 4) none Act.mv [Opd.t 25]])
                              (CC.seq (CC.reg none [Ins.mk (some 5) none Act.mv [Opd.k (AV.d (DV.int IntKind.i64 (Int.ofNat 0)))]])
                                (CC.block 1
                                  (CC.loop [1, 2, 3, 4, 5]
                                    (CC.seq
                                      (CC.seq (CC.reg none [Ins.mk (some 26) none Act.mv [Opd.t 5], Ins.mk (some 27) none Act.mv [Opd.t 4], Ins.mk (some 28) none Act.len [Opd.t 27], Ins.mk (some 29) none (Act.bin BinOp.lss (EqK.nil 10)) [Opd.t 26, Opd.t 28]]) (CC.cond (Opd.t 29) CC.skip (CC.exit 1)))
                                      (CC.seq (CC.fgt [1, 2, 3, 4, 5])
                                        (CC.seq
                                          (CC.block 2
                                            (CC.seq
                                              (CC.reg (some [])
                                                [Ins.mk (some 32) none Act.mv [Opd.t 4], Ins.mk (some 33) none Act.mv [Opd.t 5], Ins.mk (some 34) none (Act.iad 1) [Opd.t 32, Opd.t 33], Ins.mk (some 35) none (Act.load none) [Opd.t 34],
                                                  Ins.mk (some 36) none (Act.bin BinOp.neq (EqK.nil 10)) [Opd.t 35, Opd.k (AV.d (DV.str []))], Ins.mk (some 37) none Act.mv [Opd.t 36], Ins.mk (some 38) (some (37, true)) (Act.fad 2) [Opd.t 1],
                                                  Ins.mk (some 39) (some (37, true)) (Act.load none) [Opd.t 38], Ins.mk (some 40) (some (37, true)) Act.mv [Opd.t 4], Ins.mk (some 41) (some (37, true)) Act.mv [Opd.t 5], Ins.mk (some 42) (some (37, true)) (Act.iad 1) [Opd.t 40, Opd.t 41],
                                                  Ins.mk (some 43) (some (37, true)) (Act.load none) [Opd.t 42], Ins.mk (some 44) (some (37, true)) (Act.call true) [Opd.k (AV.fn Mode.pure 37 [] []), Opd.t 39, Opd.t 43],
                                                  Ins.mk (some 45) none Act.pick [Opd.t 37, Opd.t 44, Opd.k (AV.d (DV.bool false))]])
                                              (CC.cond (Opd.t 45)
                                                (CC.seq
                                                  (CC.reg none
                                                    [Ins.mk (some 46) none Act.mv [Opd.t 5], Ins.mk (some 47) none (Act.bin BinOp.add (EqK.nil 10)) [Opd.t 46, Opd.k (AV.d (DV.int IntKind.i64 (Int.ofNat 1)))], Ins.mk (some 2) none Act.mv [Opd.t 47],
                                                      Ins.mk (some 3) none Act.mv [Opd.k (AV.d (DV.int IntKind.i64 (Int.ofNat 0)))]])
                                                  CC.ret)
                                                CC.skip)))
                                          (CC.seq (CC.fgt [1, 2, 3, 4, 5]) (CC.reg none [Ins.mk (some 30) none Act.mv [Opd.t 5], Ins.mk (some 31) none (Act.bin BinOp.add (EqK.nil 10)) [Opd.t 30, Opd.k (AV.d (DV.int IntKind.i64 (Int.ofNat 1)))], Ins.mk (some 5) none Act.mv [Opd.t 31]])))))))))
                            CC.skip))))))))))
        (CC.seq (CC.fgt [2, 3]) (CC.seq (CC.reg none [Ins.mk (some 2) none Act.mv [Opd.k (AV.d (DV.int IntKind.i64 (Int.ofNat 0)))], Ins.mk (some 3) none Act.mv [Opd.k (AV.d (DV.int IntKind.i64 (Int.ofNat 0)))]]) CC.ret))))
    [RV.tmp 2, RV.tmp 3]
theorem code51_ok : F0 51 = some (.code code51) := by kernel_rfl
def code33 : CFn :=
  CFn.mk
    (CC.seq
      (CC.reg none [Ins.mk (some 6) none (Act.new 26 [AV.d (DV.int IntKind.i64 (Int.ofNat 0)), AV.d (DV.int IntKind.i64 (Int.ofNat 0))]) [], Ins.mk (some 7) none Act.mv [Opd.k (AV.d (DV.int IntKind.i64 (Int.ofNat 0)))], Ins.mk (some 8) none Act.mv [Opd.k (AV.d (DV.int IntKind.i64 (Int.ofNat 0)))]])
      (CC.seq
        (CC.reg none
          [Ins.mk (some 15) none Act.mv [Opd.t 0], Ins.mk (some 16) none Act.mv [Opd.t 1], Ins.mk (some 17) none (Act.call false) [Opd.k (AV.fn Mode.pure 36 [] []), Opd.t 15, Opd.t 16],
            Ins.mk (some 9) none (Act.new 45 [AV.d (DV.int IntKind.i64 (Int.ofNat 0)), AV.d (DV.int IntKind.i64 (Int.ofNat 0)), AV.d (DV.str []), AV.d (DV.str [])]) [], Ins.mk none none (Act.storeT 4) [Opd.t 9, Opd.t 17]])
        (CC.seq
          (CC.seq (CC.reg none [Ins.mk (some 18) none (Act.load (some 4)) [Opd.t 9], Ins.mk (some 19) none (Act.call false) [Opd.k (AV.fn Mode.pure 50 [] []), Opd.t 18]])
            (CC.cond (Opd.t 19)
              (CC.seq
                (CC.reg none
                  [Ins.mk (some 20) none (Act.build [AV.d (DV.int IntKind.i64 (Int.ofNat 0)), AV.d (DV.int IntKind.i64 (Int.ofNat 0))] []) [], Ins.mk (some 21) none Act.mv [Opd.t 1], Ins.mk none none (Act.storeT 2) [Opd.t 6, Opd.t 20], Ins.mk (some 7) none Act.mv [Opd.t 21],
                    Ins.mk (some 8) none Act.mv [Opd.k (AV.d (DV.int IntKind.i64 (Int.ofNat 51)))]])
                CC.ret)
              CC.skip))
          (CC.seq (CC.fgt [1, 2, 6, 7, 8, 9])
            (CC.seq
              (CC.reg none
                [Ins.mk (some 23) none (Act.load (some 4)) [Opd.t 9], Ins.mk (some 24) none (Act.call false) [Opd.k (AV.fn Mode.pure 51 [] []), Opd.t 23], Ins.mk (some 22) none Act.mv [Opd.t 24], Ins.mk (some 25) none (Act.ext 0) [Opd.t 22], Ins.mk (some 26) none (Act.ext 1) [Opd.t 22],
                  Ins.mk (some 10) none Act.mv [Opd.t 25], Ins.mk (some 11) none Act.mv [Opd.t 26]])
              (CC.seq
                (CC.reg none
                  [Ins.mk (some 27) none Act.mv [Opd.t 10], Ins.mk (some 28) none (Act.build [AV.d (DV.int IntKind.i64 (Int.ofNat 0)), AV.d (DV.int IntKind.i64 (Int.ofNat 0))] [(0, 1)]) [Opd.t 27],
                    Ins.mk (some 12) none (Act.new 26 [AV.d (DV.int IntKind.i64 (Int.ofNat 0)), AV.d (DV.int IntKind.i64 (Int.ofNat 0))]) [], Ins.mk none none (Act.storeT 2) [Opd.t 12, Opd.t 28]])
                (CC.seq
                  (CC.seq
                    (CC.reg none
                      [Ins.mk (some 29) none Act.mv [Opd.t 10], Ins.mk (some 30) none (Act.bin BinOp.eql (EqK.nil 10)) [Opd.t 29, Opd.k (AV.d (DV.int IntKind.i64 (Int.ofNat 0)))], Ins.mk (some 31) none Act.mv [Opd.t 30], Ins.mk (some 32) (some (31, false)) (Act.load (some 2)) [Opd.t 12],
                        Ins.mk (some 33) (some (31, false)) Act.mv [Opd.t 2], Ins.mk (some 34) (some (31, false)) (Act.call false) [Opd.k (AV.fn Mode.pure 52 [] []), Opd.t 32, Opd.t 33], Ins.mk (some 35) (some (31, false)) (Act.un UnOp.not) [Opd.t 34],
                        Ins.mk (some 36) none Act.pick [Opd.t 31, Opd.k (AV.d (DV.bool true)), Opd.t 35]])
                    (CC.cond (Opd.t 36)
                      (CC.seq
                        (CC.reg none
                          [Ins.mk (some 37) none (Act.build [AV.d (DV.int IntKind.i64 (Int.ofNat 0)), AV.d (DV.int IntKind.i64 (Int.ofNat 0))] []) [], Ins.mk (some 38) none Act.mv [Opd.t 1], Ins.mk none none (Act.storeT 2) [Opd.t 6, Opd.t 37], Ins.mk (some 7) none Act.mv [Opd.t 38],
                            Ins.mk (some 8) none Act.mv [Opd.k (AV.d (DV.int IntKind.i64 (Int.ofNat 50)))]])
                        CC.ret)
                      CC.skip))
                  (CC.seq (CC.fgt [1, 2, 6, 7, 8, 9, 10, 11, 12])
                    (CC.seq
                      (CC.seq (CC.reg none [Ins.mk (some 39) none Act.mv [Opd.t 11], Ins.mk (some 40) none (Act.bin BinOp.eql (EqK.nil 10)) [Opd.t 39, Opd.k (AV.d (DV.int IntKind.i64 (Int.ofNat 0)))]])
                        (CC.cond (Opd.t 40)
                          (CC.seq
                            (CC.reg none
                              [Ins.mk (some 41) none (Act.load (some 2)) [Opd.t 12], Ins.mk (some 42) none Act.mv [Opd.t 1], Ins.mk (some 43) none (Act.bin BinOp.add (EqK.nil 10)) [Opd.t 42, Opd.k (AV.d (DV.int IntKind.i64 (Int.ofNat 1)))], Ins.mk none none (Act.storeT 2) [Opd.t 6, Opd.t 41],
                                Ins.mk (some 7) none Act.mv [Opd.t 43], Ins.mk (some 8) none Act.mv [Opd.k (AV.d (DV.int IntKind.i64 (Int.ofNat 0)))]])
                            CC.ret)
                          CC.skip))
                      (CC.seq (CC.fgt [1, 2, 6, 7, 8, 9, 10, 11, 12])
                        (CC.seq
                          (CC.reg none
                            [Ins.mk (some 45) none (Act.fad 3) [Opd.t 9], Ins.mk (some 46) none (Act.load none) [Opd.t 45], Ins.mk (some 47) none Act.mv [Opd.t 11], Ins.mk (some 48) none (Act.call false) [Opd.k (AV.fn Mode.pure 41 [] []), Opd.t 46, Opd.t 47], Ins.mk (some 44) none Act.mv [Opd.t 48],
                              Ins.mk (some 49) none (Act.ext 0) [Opd.t 44], Ins.mk (some 50) none (Act.ext 1) [Opd.t 44], Ins.mk (some 13) none Act.mv [Opd.t 49], Ins.mk (some 14) none Act.mv [Opd.t 50]])
                          (CC.seq
                            (CC.seq (CC.reg none [Ins.mk (some 51) none Act.mv [Opd.t 14], Ins.mk (some 52) none (Act.bin BinOp.eql (EqK.nil 10)) [Opd.t 51, Opd.k (AV.d (DV.int IntKind.i64 (Int.ofNat 10)))]])
                              (CC.cond (Opd.t 52)
                                (CC.seq
                                  (CC.reg none
                                    [Ins.mk (some 53) none (Act.build [AV.d (DV.int IntKind.i64 (Int.ofNat 0)), AV.d (DV.int IntKind.i64 (Int.ofNat 0))] []) [], Ins.mk (some 54) none Act.mv [Opd.t 1], Ins.mk none none (Act.storeT 2) [Opd.t 6, Opd.t 53], Ins.mk (some 7) none Act.mv [Opd.t 54],
                                      Ins.mk (some 8) none Act.mv [Opd.k (AV.d (DV.int IntKind.i64 (Int.ofNat 10)))]])
                                  CC.ret)
                                CC.skip))
                            (CC.seq (CC.fgt [1, 2, 6, 7, 8, 10, 12, 13, 14])
                              (CC.seq
                                (CC.seq (CC.reg none [Ins.mk (some 55) none Act.mv [Opd.t 14], Ins.mk (some 56) none (Act.bin BinOp.neq (EqK.nil 10)) [Opd.t 55, Opd.k (AV.d (DV.int IntKind.i64 (Int.ofNat 0)))]])
                                  (CC.cond (Opd.t 56)
                                    (CC.seq
                                      (CC.reg none
                                        [Ins.mk (some 57) none (Act.build [AV.d (DV.int IntKind.i64 (Int.ofNat 0)), AV.d (DV.int IntKind.i64 (Int.ofNat 0))] []) [], Ins.mk (some 58) none Act.mv [Opd.t 1], Ins.mk none none (Act.storeT 2) [Opd.t 6, Opd.t 57], Ins.mk (some 7) none Act.mv [Opd.t 58],
                                          Ins.mk (some 8) none Act.mv [Opd.k (AV.d (DV.int IntKind.i64 (Int.ofNat 50)))]])
                                      CC.ret)
                                    CC.skip))
                                (CC.seq (CC.fgt [1, 2, 6, 7, 8, 10, 12, 13])
                                  (CC.seq (CC.reg none [Ins.mk (some 59) none Act.mv [Opd.t 13], Ins.mk (some 60) none (Act.fad 1) [Opd.t 12], Ins.mk none none (Act.storeT 1) [Opd.t 60, Opd.t 59]])
                                    (CC.seq
                                      (CC.seq (CC.reg none [Ins.mk (some 61) none (Act.load (some 2)) [Opd.t 12], Ins.mk (some 62) none Act.mv [Opd.t 2], Ins.mk (some 63) none (Act.call false) [Opd.k (AV.fn Mode.pure 52 [] []), Opd.t 61, Opd.t 62]])
                                        (CC.cond (Opd.t 63)
                                          (CC.seq
                                            (CC.reg none
                                              [Ins.mk (some 64) none (Act.load (some 2)) [Opd.t 12], Ins.mk (some 65) none Act.mv [Opd.t 1], Ins.mk (some 66) none (Act.bin BinOp.add (EqK.nil 10)) [Opd.t 65, Opd.k (AV.d (DV.int IntKind.i64 (Int.ofNat 1)))],
                                                Ins.mk none none (Act.storeT 2) [Opd.t 6, Opd.t 64], Ins.mk (some 7) none Act.mv [Opd.t 66], Ins.mk (some 8) none Act.mv [Opd.k (AV.d (DV.int IntKind.i64 (Int.ofNat 0)))]])
                                            CC.ret)
                                          CC.skip))
                                      (CC.seq (CC.fgt [1, 2, 6, 7, 8, 10, 13])
                                        (CC.seq
                                          (CC.seq
                                            (CC.reg none
                                              [Ins.mk (some 67) none Act.mv [Opd.t 13], Ins.mk (some 68) none (Act.bin BinOp.gtr (EqK.nil 10)) [Opd.t 67, Opd.k (AV.d (DV.int IntKind.i64 (Int.ofNat 0)))], Ins.mk (some 69) none Act.mv [Opd.t 68], Ins.mk (some 70) (some (69, false)) Act.mv [Opd.t 10],
                                                Ins.mk (some 71) (some (69, false)) (Act.build [AV.d (DV.int IntKind.i64 (Int.ofNat 0)), AV.d (DV.int IntKind.i64 (Int.ofNat 0))] [(0, 1), (1, 1)]) [Opd.t 70, Opd.k (AV.d (DV.int IntKind.i64 (Int.negSucc 0)))],
                                                Ins.mk (some 72) (some (69, false)) Act.mv [Opd.t 2], Ins.mk (some 73) (some (69, false)) (Act.call false) [Opd.k (AV.fn Mode.pure 52 [] []), Opd.t 71, Opd.t 72], Ins.mk (some 74) none Act.pick [Opd.t 69, Opd.k (AV.d (DV.bool true)), Opd.t 73]])
                                            (CC.cond (Opd.t 74)
                                              (CC.seq
                                                (CC.reg none
                                                  [Ins.mk (some 75) none (Act.build [AV.d (DV.int IntKind.i64 (Int.ofNat 0)), AV.d (DV.int IntKind.i64 (Int.ofNat 0))] []) [], Ins.mk (some 76) none Act.mv [Opd.t 1], Ins.mk none none (Act.storeT 2) [Opd.t 6, Opd.t 75],
                                                    Ins.mk (some 7) none Act.mv [Opd.t 76], Ins.mk (some 8) none Act.mv [Opd.k (AV.d (DV.int IntKind.i64 (Int.ofNat 10)))]])
                                                CC.ret)
                                              CC.skip))
                                          (CC.seq (CC.fgt [1, 6, 7, 8])
                                            (CC.seq
                                              (CC.reg none
                                                [Ins.mk (some 77) none (Act.build [AV.d (DV.int IntKind.i64 (Int.ofNat 0)), AV.d (DV.int IntKind.i64 (Int.ofNat 0))] []) [], Ins.mk (some 78) none Act.mv [Opd.t 1], Ins.mk none none (Act.storeT 2) [Opd.t 6, Opd.t 77],
                                                  Ins.mk (some 7) none Act.mv [Opd.t 78], Ins.mk (some 8) none Act.mv [Opd.k (AV.d (DV.int IntKind.i64 (Int.ofNat 50)))]])
                                              CC.ret)))))))))))))))))))))
    [RV.cell 6 (some 2), RV.tmp 7, RV.tmp 8]
theorem code33_ok : F0 33 = some (.code code33) := by kernel_rfl
def code29 : CFn :=
  CFn.mk
    (CC.seq (CC.reg none [Ins.mk (some 4) none Act.mv [Opd.k (AV.d (DV.int IntKind.i64 (Int.ofNat 0)))], Ins.mk (some 5) none Act.mv [Opd.k (AV.d (DV.int IntKind.i64 (Int.ofNat 0)))], Ins.mk (some 6) none Act.mv [Opd.k (AV.d (DV.int IntKind.i64 (Int.ofNat 0)))]])
      (CC.seq
        (CC.reg none
          [Ins.mk (some 11) none Act.mv [Opd.t 0], Ins.mk (some 12) none Act.mv [Opd.t 1], Ins.mk (some 13) none (Act.call false) [Opd.k (AV.fn Mode.pure 36 [] []), Opd.t 11, Opd.t 12],
            Ins.mk (some 7) none (Act.new 45 [AV.d (DV.int IntKind.i64 (Int.ofNat 0)), AV.d (DV.int IntKind.i64 (Int.ofNat 0)), AV.d (DV.str []), AV.d (DV.str [])]) [], Ins.mk none none (Act.storeT 4) [Opd.t 7, Opd.t 13]])
        (CC.seq
          (CC.seq (CC.reg none [Ins.mk (some 14) none (Act.fad 0) [Opd.t 7], Ins.mk (some 15) none (Act.load none) [Opd.t 14], Ins.mk (some 16) none (Act.bin BinOp.neq (EqK.nil 10)) [Opd.t 15, Opd.k (AV.d (DV.int IntKind.i64 (Int.ofNat 3)))]])
            (CC.cond (Opd.t 16) (CC.seq (CC.reg none [Ins.mk (some 17) none Act.mv [Opd.t 1], Ins.mk (some 4) none Act.mv [Opd.k (AV.d (DV.int IntKind.i64 (Int.ofNat 0)))], Ins.mk (some 5) none Act.mv [Opd.t 17], Ins.mk (some 6) none Act.mv [Opd.k (AV.d (DV.int IntKind.i64 (Int.ofNat 50)))]]) CC.ret)
              CC.skip))
          (CC.seq (CC.fgt [1, 4, 5, 6, 7])
            (CC.seq
              (CC.seq (CC.reg none [Ins.mk (some 8) none Act.mv [Opd.k (AV.d (DV.int IntKind.i64 (Int.ofNat 0)))]])
                (CC.block 0
                  (CC.loop [1, 4, 5, 6, 7, 8]
                    (CC.seq
                      (CC.seq (CC.reg none [Ins.mk (some 18) none Act.mv [Opd.t 8], Ins.mk (some 19) none (Act.fad 3) [Opd.t 7], Ins.mk (some 20) none (Act.load none) [Opd.t 19], Ins.mk (some 21) none Act.lens [Opd.t 20], Ins.mk (some 22) none (Act.bin BinOp.lss (EqK.nil 10)) [Opd.t 18, Opd.t 21]])
                        (CC.cond (Opd.t 22) CC.skip (CC.exit 0)))
                      (CC.seq (CC.fgt [1, 4, 5, 6, 7, 8])
                        (CC.seq
                          (CC.block 1
                            (CC.seq
                              (CC.reg none
                                [Ins.mk (some 25) none (Act.fad 3) [Opd.t 7], Ins.mk (some 26) none (Act.load none) [Opd.t 25], Ins.mk (some 27) none Act.mv [Opd.t 8], Ins.mk (some 28) none Act.idxs [Opd.t 26, Opd.t 27],
                                  Ins.mk (some 29) none (Act.bin BinOp.eql (EqK.nil 10)) [Opd.t 28, Opd.k (AV.d (DV.int IntKind.u8 (Int.ofNat 46)))], Ins.mk (some 30) none Act.mv [Opd.t 29], Ins.mk (some 31) (some (30, false)) (Act.fad 3) [Opd.t 7],
                                  Ins.mk (some 32) (some (30, false)) (Act.load none) [Opd.t 31], Ins.mk (some 33) (some (30, false)) Act.mv [Opd.t 8], Ins.mk (some 34) (some (30, false)) Act.idxs [Opd.t 32, Opd.t 33],
                                  Ins.mk (some 35) (some (30, false)) (Act.bin BinOp.eql (EqK.nil 10)) [Opd.t 34, Opd.k (AV.d (DV.int IntKind.u8 (Int.ofNat 101)))], Ins.mk (some 36) none Act.pick [Opd.t 30, Opd.k (AV.d (DV.bool true)), Opd.t 35], Ins.mk (some 37) none Act.mv [Opd.t 36],
                                  Ins.mk (some 38) (some (37, false)) (Act.fad 3) [Opd.t 7], Ins.mk (some 39) (some (37, false)) (Act.load none) [Opd.t 38], Ins.mk (some 40) (some (37, false)) Act.mv [Opd.t 8], Ins.mk (some 41) (some (37, false)) Act.idxs [Opd.t 39, Opd.t 40],
                                  Ins.mk (some 42) (some (37, false)) (Act.bin BinOp.eql (EqK.nil 10)) [Opd.t 41, Opd.k (AV.d (DV.int IntKind.u8 (Int.ofNat 69)))], Ins.mk (some 43) none Act.pick [Opd.t 37, Opd.k (AV.d (DV.bool true)), Opd.t 42]])
                              (CC.cond (Opd.t 43)
                                (CC.seq (CC.reg none [Ins.mk (some 44) none Act.mv [Opd.t 1], Ins.mk (some 4) none Act.mv [Opd.k (AV.d (DV.int IntKind.i64 (Int.ofNat 0)))], Ins.mk (some 5) none Act.mv [Opd.t 44], Ins.mk (some 6) none Act.mv [Opd.k (AV.d (DV.int IntKind.i64 (Int.ofNat 50)))]]) CC.ret)
                                CC.skip)))
                          (CC.seq (CC.fgt [1, 4, 5, 6, 7, 8]) (CC.reg none [Ins.mk (some 23) none Act.mv [Opd.t 8], Ins.mk (some 24) none (Act.bin BinOp.add (EqK.nil 10)) [Opd.t 23, Opd.k (AV.d (DV.int IntKind.i64 (Int.ofNat 1)))], Ins.mk (some 8) none Act.mv [Opd.t 24]]))))))))
              (CC.seq (CC.fgt [1, 4, 5, 6, 7])
                (CC.seq
                  (CC.reg none
                    [Ins.mk (some 46) none (Act.fad 3) [Opd.t 7], Ins.mk (some 47) none (Act.load none) [Opd.t 46], Ins.mk (some 48) none (Act.call false) [Opd.k (AV.fn Mode.pure 41 [] []), Opd.t 47, Opd.k (AV.d (DV.int IntKind.i64 (Int.ofNat 1)))], Ins.mk (some 45) none Act.mv [Opd.t 48],
                      Ins.mk (some 49) none (Act.ext 0) [Opd.t 45], Ins.mk (some 50) none (Act.ext 1) [Opd.t 45], Ins.mk (some 9) none Act.mv [Opd.t 49], Ins.mk (some 10) none Act.mv [Opd.t 50]])
                  (CC.seq
                    (CC.seq (CC.reg none [Ins.mk (some 51) none Act.mv [Opd.t 10], Ins.mk (some 52) none (Act.bin BinOp.eql (EqK.nil 10)) [Opd.t 51, Opd.k (AV.d (DV.int IntKind.i64 (Int.ofNat 10)))]])
                      (CC.cond (Opd.t 52)
                        (CC.seq (CC.reg none [Ins.mk (some 53) none Act.mv [Opd.t 1], Ins.mk (some 4) none Act.mv [Opd.k (AV.d (DV.int IntKind.i64 (Int.ofNat 0)))], Ins.mk (some 5) none Act.mv [Opd.t 53], Ins.mk (some 6) none Act.mv [Opd.k (AV.d (DV.int IntKind.i64 (Int.ofNat 10)))]]) CC.ret)
                        CC.skip))
                    (CC.seq (CC.fgt [1, 4, 5, 6, 9, 10])
                      (CC.seq
                        (CC.seq (CC.reg none [Ins.mk (some 54) none Act.mv [Opd.t 10], Ins.mk (some 55) none (Act.bin BinOp.neq (EqK.nil 10)) [Opd.t 54, Opd.k (AV.d (DV.int IntKind.i64 (Int.ofNat 0)))]])
                          (CC.cond (Opd.t 55)
                            (CC.seq (CC.reg none [Ins.mk (some 56) none Act.mv [Opd.t 1], Ins.mk (some 4) none Act.mv [Opd.k (AV.d (DV.int IntKind.i64 (Int.ofNat 0)))], Ins.mk (some 5) none Act.mv [Opd.t 56], Ins.mk (some 6) none Act.mv [Opd.k (AV.d (DV.int IntKind.i64 (Int.ofNat 50)))]]) CC.ret)
                            CC.skip))
                        (CC.seq (CC.fgt [1, 4, 5, 6, 9])
                          (CC.seq
                            (CC.reg none
                              [Ins.mk (some 57) none Act.mv [Opd.t 9], Ins.mk (some 58) none Act.mv [Opd.t 1], Ins.mk (some 59) none (Act.bin BinOp.add (EqK.nil 10)) [Opd.t 58, Opd.k (AV.d (DV.int IntKind.i64 (Int.ofNat 1)))], Ins.mk (some 4) none Act.mv [Opd.t 57],
                                Ins.mk (some 5) none Act.mv [Opd.t 59], Ins.mk (some 6) none Act.mv [Opd.k (AV.d (DV.int IntKind.i64 (Int.ofNat 0)))]])
                            CC.ret))))))))))))
    [RV.tmp 4, RV.tmp 5, RV.tmp 6]
theorem code29_ok : F0 29 = some (.code code29) := by kernel_rfl
def code24 : CFn :=
  CFn.mk
    (CC.seq (CC.reg none [Ins.mk (some 6) none Act.mv [Opd.k (AV.d (DV.int IntKind.i64 (Int.ofNat 0)))], Ins.mk (some 7) none Act.mv [Opd.k (AV.d (DV.int IntKind.i64 (Int.ofNat 0)))]])
      (CC.seq
        (CC.reg none
          [Ins.mk (some 10) none Act.mv [Opd.t 0], Ins.mk (some 11) none Act.mv [Opd.t 1], Ins.mk (some 12) none (Act.call false) [Opd.k (AV.fn Mode.pure 36 [] []), Opd.t 10, Opd.t 11],
            Ins.mk (some 8) none (Act.new 45 [AV.d (DV.int IntKind.i64 (Int.ofNat 0)), AV.d (DV.int IntKind.i64 (Int.ofNat 0)), AV.d (DV.str []), AV.d (DV.str [])]) [], Ins.mk none none (Act.storeT 4) [Opd.t 8, Opd.t 12]])
        (CC.seq
          (CC.seq (CC.reg none [Ins.mk (some 9) none Act.mv [Opd.k (AV.d (DV.int IntKind.i64 (Int.ofNat 0)))]])
            (CC.block 0
              (CC.loop [1, 2, 6, 7, 8, 9]
                (CC.seq (CC.seq (CC.reg none [Ins.mk (some 13) none Act.mv [Opd.t 9], Ins.mk (some 14) none Act.mv [Opd.t 2], Ins.mk (some 15) none Act.len [Opd.t 14], Ins.mk (some 16) none (Act.bin BinOp.lss (EqK.nil 10)) [Opd.t 13, Opd.t 15]]) (CC.cond (Opd.t 16) CC.skip (CC.exit 0)))
                  (CC.seq (CC.fgt [1, 2, 6, 7, 8, 9])
                    (CC.seq
                      (CC.block 1
                        (CC.seq
                          (CC.reg (some [])
                            [Ins.mk (some 19) none (Act.fad 0) [Opd.t 8], Ins.mk (some 20) none (Act.load none) [Opd.t 19], Ins.mk (some 21) none (Act.bin BinOp.eql (EqK.nil 10)) [Opd.t 20, Opd.k (AV.d (DV.int IntKind.i64 (Int.ofNat 1)))], Ins.mk (some 22) none Act.mv [Opd.t 21],
                              Ins.mk (some 23) (some (22, true)) (Act.fad 2) [Opd.t 8], Ins.mk (some 24) (some (22, true)) (Act.load none) [Opd.t 23], Ins.mk (some 25) (some (22, true)) Act.mv [Opd.t 2], Ins.mk (some 26) (some (22, true)) Act.mv [Opd.t 9],
                              Ins.mk (some 27) (some (22, true)) (Act.iad 1) [Opd.t 25, Opd.t 26], Ins.mk (some 28) (some (22, true)) (Act.load none) [Opd.t 27], Ins.mk (some 29) (some (22, true)) (Act.call true) [Opd.k (AV.fn Mode.pure 37 [] []), Opd.t 24, Opd.t 28],
                              Ins.mk (some 30) none Act.pick [Opd.t 22, Opd.t 29, Opd.k (AV.d (DV.bool false))]])
                          (CC.cond (Opd.t 30)
                            (CC.seq
                              (CC.reg none
                                [Ins.mk (some 31) none Act.mv [Opd.t 9], Ins.mk (some 32) none Act.mv [Opd.t 1], Ins.mk (some 33) none (Act.bin BinOp.add (EqK.nil 10)) [Opd.t 32, Opd.k (AV.d (DV.int IntKind.i64 (Int.ofNat 1)))], Ins.mk (some 6) none Act.mv [Opd.t 31],
                                  Ins.mk (some 7) none Act.mv [Opd.t 33]])
                              CC.ret)
                            CC.skip)))
                      (CC.seq (CC.fgt [1, 2, 6, 7, 8, 9]) (CC.reg none [Ins.mk (some 17) none Act.mv [Opd.t 9], Ins.mk (some 18) none (Act.bin BinOp.add (EqK.nil 10)) [Opd.t 17, Opd.k (AV.d (DV.int IntKind.i64 (Int.ofNat 1)))], Ins.mk (some 9) none Act.mv [Opd.t 18]]))))))))
          (CC.seq (CC.fgt [1, 6, 7]) (CC.seq (CC.reg none [Ins.mk (some 34) none Act.mv [Opd.t 1], Ins.mk (some 6) none Act.mv [Opd.k (AV.d (DV.int IntKind.i64 (Int.negSucc 0)))], Ins.mk (some 7) none Act.mv [Opd.t 34]]) CC.ret)))))
    [RV.tmp 6, RV.tmp 7]
theorem code24_ok : F0 24 = some (.code code24) := by kernel_rfl
def code19 : CFn :=
  CFn.mk
    (CC.seq (CC.reg none [Ins.mk (some 8) none Act.mv [Opd.k (AV.d DV.nilsl)], Ins.mk (some 9) none Act.mv [Opd.k (AV.d (DV.int IntKind.i64 (Int.ofNat 0)))], Ins.mk (some 10) none Act.mv [Opd.k (AV.d (DV.int IntKind.i64 (Int.ofNat 0)))]])
      (CC.seq (CC.reg none [Ins.mk (some 11) none Act.mv [Opd.k (AV.d DV.nilsl)]])
        (CC.seq
          (CC.block 0
            (CC.loop [0, 1, 2, 3, 8, 9, 10, 11]
              (CC.seq (CC.seq (CC.reg none [Ins.mk (some 15) none Act.mv [Opd.t 11], Ins.mk (some 16) none Act.len [Opd.t 15], Ins.mk (some 17) none Act.mv [Opd.t 3], Ins.mk (some 18) none (Act.bin BinOp.lss (EqK.nil 10)) [Opd.t 16, Opd.t 17]]) (CC.cond (Opd.t 18) CC.skip (CC.exit 0)))
                (CC.seq (CC.fgt [0, 1, 2, 3, 8, 9, 10, 11])
                  (CC.block 1
                    (CC.seq
                      (CC.reg none
                        [Ins.mk (some 20) none Act.mv [Opd.t 0], Ins.mk (some 21) none Act.mv [Opd.t 1], Ins.mk (some 22) none Act.mv [Opd.t 2], Ins.mk (some 23) none (Act.call false) [Opd.k (AV.fn Mode.pure 33 [] []), Opd.t 20, Opd.t 21, Opd.t 22], Ins.mk (some 19) none Act.mv [Opd.t 23],
                          Ins.mk (some 24) none (Act.ext 0) [Opd.t 19], Ins.mk (some 25) none (Act.ext 1) [Opd.t 19], Ins.mk (some 26) none (Act.ext 2) [Opd.t 19], Ins.mk (some 12) none (Act.new 26 [AV.d (DV.int IntKind.i64 (Int.ofNat 0)), AV.d (DV.int IntKind.i64 (Int.ofNat 0))]) [],
                          Ins.mk none none (Act.storeT 2) [Opd.t 12, Opd.t 24], Ins.mk (some 13) none Act.mv [Opd.t 25], Ins.mk (some 14) none Act.mv [Opd.t 26]])
                      (CC.seq
                        (CC.seq
                          (CC.reg none
                            [Ins.mk (some 27) none Act.mv [Opd.t 14], Ins.mk (some 28) none (Act.bin BinOp.eql (EqK.nil 10)) [Opd.t 27, Opd.k (AV.d (DV.int IntKind.i64 (Int.ofNat 50)))], Ins.mk (some 29) none Act.mv [Opd.t 28], Ins.mk (some 30) (some (29, true)) Act.mv [Opd.t 11],
                              Ins.mk (some 31) (some (29, true)) Act.len [Opd.t 30], Ins.mk (some 32) (some (29, true)) (Act.bin BinOp.gtr (EqK.nil 10)) [Opd.t 31, Opd.k (AV.d (DV.int IntKind.i64 (Int.ofNat 0)))], Ins.mk (some 33) none Act.pick [Opd.t 29, Opd.t 32, Opd.k (AV.d (DV.bool false))]])
                          (CC.cond (Opd.t 33)
                            (CC.seq (CC.reg none [Ins.mk (some 34) none Act.mv [Opd.t 11], Ins.mk (some 35) none Act.mv [Opd.t 1], Ins.mk (some 8) none Act.mv [Opd.t 34], Ins.mk (some 9) none Act.mv [Opd.t 35], Ins.mk (some 10) none Act.mv [Opd.k (AV.d (DV.int IntKind.i64 (Int.ofNat 0)))]]) CC.ret)
                            CC.skip))
                        (CC.seq (CC.fgt [0, 2, 3, 8, 9, 10, 11, 12, 13, 14])
                          (CC.seq
                            (CC.seq (CC.reg none [Ins.mk (some 36) none Act.mv [Opd.t 14], Ins.mk (some 37) none (Act.bin BinOp.neq (EqK.nil 10)) [Opd.t 36, Opd.k (AV.d (DV.int IntKind.i64 (Int.ofNat 0)))]])
                              (CC.cond (Opd.t 37) (CC.seq (CC.reg none [Ins.mk (some 38) none Act.mv [Opd.t 13], Ins.mk (some 39) none Act.mv [Opd.t 14], Ins.mk (some 8) none Act.mv [Opd.k (AV.d DV.nilsl)], Ins.mk (some 9) none Act.mv [Opd.t 38], Ins.mk (some 10) none Act.mv [Opd.t 39]]) CC.ret)
                                CC.skip))
                            (CC.seq (CC.fgt [0, 2, 3, 8, 9, 10, 11, 12, 13])
                              (CC.seq
                                (CC.reg none
                                  [Ins.mk (some 40) none Act.mv [Opd.t 11], Ins.mk (some 41) none (Act.load (some 2)) [Opd.t 12], Ins.mk (some 42) none (Act.bslT 26 2 [DV.int IntKind.i64 (Int.ofNat 0), DV.int IntKind.i64 (Int.ofNat 0)] 1 [0]) [Opd.t 41],
                                    Ins.mk (some 43) none (Act.app 26 2 16) [Opd.t 40, Opd.t 42], Ins.mk (some 11) none Act.mv [Opd.t 43]])
                                (CC.reg none [Ins.mk (some 44) none Act.mv [Opd.t 13], Ins.mk (some 1) none Act.mv [Opd.t 44]]))))))))))))
          (CC.seq (CC.fgt [1, 8, 9, 10, 11])
            (CC.seq (CC.reg none [Ins.mk (some 45) none Act.mv [Opd.t 11], Ins.mk (some 46) none Act.mv [Opd.t 1], Ins.mk (some 8) none Act.mv [Opd.t 45], Ins.mk (some 9) none Act.mv [Opd.t 46], Ins.mk (some 10) none Act.mv [Opd.k (AV.d (DV.int IntKind.i64 (Int.ofNat 0)))]]) CC.ret)))))
    [RV.tmp 8, RV.tmp 9, RV.tmp 10]
theorem code19_ok : F0 19 = some (.code code19) := by kernel_rfl
def code7 : CFn :=
  CFn.mk
    (CC.seq
      (CC.reg none
        [Ins.mk (some 4) none
            (Act.new 27
              [AV.d (DV.int IntKind.i64 (Int.ofNat 0)), AV.d (DV.int IntKind.i64 (Int.ofNat 0)), AV.d (DV.int IntKind.i64 (Int.ofNat 0)), AV.d (DV.int IntKind.i64 (Int.ofNat 0)), AV.d (DV.int IntKind.i64 (Int.ofNat 0)), AV.d (DV.int IntKind.i64 (Int.ofNat 0)), AV.d (DV.int IntKind.i64 (Int.ofNat 0)),
                AV.d (DV.int IntKind.i64 (Int.ofNat 0))])
            [],
          Ins.mk (some 5) none Act.mv [Opd.k (AV.d (DV.int IntKind.i64 (Int.ofNat 0)))], Ins.mk (some 6) none Act.mv [Opd.k (AV.d (DV.int IntKind.i64 (Int.ofNat 0)))]])
      (CC.seq
        (CC.reg none
          [Ins.mk (some 11) none Act.mv [Opd.t 0], Ins.mk (some 12) none Act.mv [Opd.t 1], Ins.mk (some 13) none (Act.call false) [Opd.k (AV.fn Mode.pure 19 [] []), Opd.t 11, Opd.t 12, Opd.k (AV.d (DV.int IntKind.i64 (Int.ofNat 7))), Opd.k (AV.d (DV.int IntKind.i64 (Int.ofNat 4)))],
            Ins.mk (some 10) none Act.mv [Opd.t 13], Ins.mk (some 14) none (Act.ext 0) [Opd.t 10], Ins.mk (some 15) none (Act.ext 1) [Opd.t 10], Ins.mk (some 16) none (Act.ext 2) [Opd.t 10], Ins.mk (some 7) none Act.mv [Opd.t 14], Ins.mk (some 8) none Act.mv [Opd.t 15],
            Ins.mk (some 9) none Act.mv [Opd.t 16]])
        (CC.seq
          (CC.seq (CC.reg none [Ins.mk (some 17) none Act.mv [Opd.t 9], Ins.mk (some 18) none (Act.bin BinOp.neq (EqK.nil 10)) [Opd.t 17, Opd.k (AV.d (DV.int IntKind.i64 (Int.ofNat 0)))]])
            (CC.cond (Opd.t 18)
              (CC.seq
                (CC.reg none
                  [Ins.mk (some 19) none
                      (Act.build
                        [AV.d (DV.int IntKind.i64 (Int.ofNat 0)), AV.d (DV.int IntKind.i64 (Int.ofNat 0)), AV.d (DV.int IntKind.i64 (Int.ofNat 0)), AV.d (DV.int IntKind.i64 (Int.ofNat 0)), AV.d (DV.int IntKind.i64 (Int.ofNat 0)), AV.d (DV.int IntKind.i64 (Int.ofNat 0)),
                          AV.d (DV.int IntKind.i64 (Int.ofNat 0)), AV.d (DV.int IntKind.i64 (Int.ofNat 0))]
                        [])
                      [],
                    Ins.mk (some 20) none Act.mv [Opd.t 8], Ins.mk (some 21) none Act.mv [Opd.t 9], Ins.mk none none (Act.storeT 8) [Opd.t 4, Opd.t 19], Ins.mk (some 5) none Act.mv [Opd.t 20], Ins.mk (some 6) none Act.mv [Opd.t 21]])
                CC.ret)
              CC.skip))
          (CC.seq (CC.fgt [4, 5, 6, 7, 8])
            (CC.seq
              (CC.reg none
                [Ins.mk (some 22) none Act.mv [Opd.t 7], Ins.mk (some 23) none (Act.call false) [Opd.k (AV.fn Mode.pure 20 [] []), Opd.t 22], Ins.mk (some 24) none Act.mv [Opd.t 8], Ins.mk none none (Act.storeT 8) [Opd.t 4, Opd.t 23], Ins.mk (some 5) none Act.mv [Opd.t 24],
                  Ins.mk (some 6) none Act.mv [Opd.k (AV.d (DV.int IntKind.i64 (Int.ofNat 0)))]])
              CC.ret)))))
    [RV.cell 4 (some 8), RV.tmp 5, RV.tmp 6]
theorem code7_ok : F0 7 = some (.code code7) := by kernel_rfl
def code20 : CFn :=
  CFn.mk
    (CC.seq
      (CC.reg none
        [Ins.mk (some 2) none
            (Act.new 27
              [AV.d (DV.int IntKind.i64 (Int.ofNat 0)), AV.d (DV.int IntKind.i64 (Int.ofNat 0)), AV.d (DV.int IntKind.i64 (Int.ofNat 0)), AV.d (DV.int IntKind.i64 (Int.ofNat 0)), AV.d (DV.int IntKind.i64 (Int.ofNat 0)), AV.d (DV.int IntKind.i64 (Int.ofNat 0)), AV.d (DV.int IntKind.i64 (Int.ofNat 0)),
                AV.d (DV.int IntKind.i64 (Int.ofNat 0))])
            []])
      (CC.seq
        (CC.seq (CC.reg none [Ins.mk (some 3) none Act.mv [Opd.t 0], Ins.mk (some 4) none Act.len [Opd.t 3], Ins.mk (some 5) none (Act.bin BinOp.eql (EqK.nil 10)) [Opd.t 4, Opd.k (AV.d (DV.int IntKind.i64 (Int.ofNat 1)))]])
          (CC.cond (Opd.t 5)
            (CC.seq
              (CC.reg (some [])
                [Ins.mk (some 6) none Act.mv [Opd.t 0], Ins.mk (some 7) none (Act.iad 2) [Opd.t 6, Opd.k (AV.d (DV.int IntKind.i64 (Int.ofNat 0)))], Ins.mk (some 8) none (Act.load (some 2)) [Opd.t 7], Ins.mk (some 9) none Act.mv [Opd.t 0],
                  Ins.mk (some 10) none (Act.iad 2) [Opd.t 9, Opd.k (AV.d (DV.int IntKind.i64 (Int.ofNat 0)))], Ins.mk (some 11) none (Act.load (some 2)) [Opd.t 10], Ins.mk (some 12) none Act.mv [Opd.t 0], Ins.mk (some 13) none (Act.iad 2) [Opd.t 12, Opd.k (AV.d (DV.int IntKind.i64 (Int.ofNat 0)))],
                  Ins.mk (some 14) none (Act.load (some 2)) [Opd.t 13], Ins.mk (some 15) none Act.mv [Opd.t 0], Ins.mk (some 16) none (Act.iad 2) [Opd.t 15, Opd.k (AV.d (DV.int IntKind.i64 (Int.ofNat 0)))], Ins.mk (some 17) none (Act.load (some 2)) [Opd.t 16],
                  Ins.mk (some 18) none
                    (Act.build
                      [AV.d (DV.int IntKind.i64 (Int.ofNat 0)), AV.d (DV.int IntKind.i64 (Int.ofNat 0)), AV.d (DV.int IntKind.i64 (Int.ofNat 0)), AV.d (DV.int IntKind.i64 (Int.ofNat 0)), AV.d (DV.int IntKind.i64 (Int.ofNat 0)), AV.d (DV.int IntKind.i64 (Int.ofNat 0)),
                        AV.d (DV.int IntKind.i64 (Int.ofNat 0)), AV.d (DV.int IntKind.i64 (Int.ofNat 0))]
                      [(0, 2), (2, 2), (4, 2), (6, 2)])
                    [Opd.t 8, Opd.t 11, Opd.t 14, Opd.t 17],
                  Ins.mk none none (Act.store 8) [Opd.t 2, Opd.t 18]])
              CC.ret)
            CC.skip))
        (CC.seq (CC.fgt [0, 2])
          (CC.seq
            (CC.seq (CC.reg none [Ins.mk (some 19) none Act.mv [Opd.t 0], Ins.mk (some 20) none Act.len [Opd.t 19], Ins.mk (some 21) none (Act.bin BinOp.eql (EqK.nil 10)) [Opd.t 20, Opd.k (AV.d (DV.int IntKind.i64 (Int.ofNat 2)))]])
              (CC.cond (Opd.t 21)
                (CC.seq
                  (CC.reg (some [])
                    [Ins.mk (some 22) none Act.mv [Opd.t 0], Ins.mk (some 23) none (Act.iad 2) [Opd.t 22, Opd.k (AV.d (DV.int IntKind.i64 (Int.ofNat 0)))], Ins.mk (some 24) none (Act.load (some 2)) [Opd.t 23], Ins.mk (some 25) none Act.mv [Opd.t 0],
                      Ins.mk (some 26) none (Act.iad 2) [Opd.t 25, Opd.k (AV.d (DV.int IntKind.i64 (Int.ofNat 1)))], Ins.mk (some 27) none (Act.load (some 2)) [Opd.t 26], Ins.mk (some 28) none Act.mv [Opd.t 0],
                      Ins.mk (some 29) none (Act.iad 2) [Opd.t 28, Opd.k (AV.d (DV.int IntKind.i64 (Int.ofNat 0)))], Ins.mk (some 30) none (Act.load (some 2)) [Opd.t 29], Ins.mk (some 31) none Act.mv [Opd.t 0],
                      Ins.mk (some 32) none (Act.iad 2) [Opd.t 31, Opd.k (AV.d (DV.int IntKind.i64 (Int.ofNat 1)))], Ins.mk (some 33) none (Act.load (some 2)) [Opd.t 32],
                      Ins.mk (some 34) none
                        (Act.build
                          [AV.d (DV.int IntKind.i64 (Int.ofNat 0)), AV.d (DV.int IntKind.i64 (Int.ofNat 0)), AV.d (DV.int IntKind.i64 (Int.ofNat 0)), AV.d (DV.int IntKind.i64 (Int.ofNat 0)), AV.d (DV.int IntKind.i64 (Int.ofNat 0)), AV.d (DV.int IntKind.i64 (Int.ofNat 0)),
                            AV.d (DV.int IntKind.i64 (Int.ofNat 0)), AV.d (DV.int IntKind.i64 (Int.ofNat 0))]
                          [(0, 2), (2, 2), (4, 2), (6, 2)])
                        [Opd.t 24, Opd.t 27, Opd.t 30, Opd.t 33],
                      Ins.mk none none (Act.store 8) [Opd.t 2, Opd.t 34]])
                  CC.ret)
                CC.skip))
            (CC.seq (CC.fgt [0, 2])
              (CC.seq
                (CC.seq (CC.reg none [Ins.mk (some 35) none Act.mv [Opd.t 0], Ins.mk (some 36) none Act.len [Opd.t 35], Ins.mk (some 37) none (Act.bin BinOp.eql (EqK.nil 10)) [Opd.t 36, Opd.k (AV.d (DV.int IntKind.i64 (Int.ofNat 3)))]])
                  (CC.cond (Opd.t 37)
                    (CC.seq
                      (CC.reg (some [])
                        [Ins.mk (some 38) none Act.mv [Opd.t 0], Ins.mk (some 39) none (Act.iad 2) [Opd.t 38, Opd.k (AV.d (DV.int IntKind.i64 (Int.ofNat 0)))], Ins.mk (some 40) none (Act.load (some 2)) [Opd.t 39], Ins.mk (some 41) none Act.mv [Opd.t 0],
                          Ins.mk (some 42) none (Act.iad 2) [Opd.t 41, Opd.k (AV.d (DV.int IntKind.i64 (Int.ofNat 1)))], Ins.mk (some 43) none (Act.load (some 2)) [Opd.t 42], Ins.mk (some 44) none Act.mv [Opd.t 0],
                          Ins.mk (some 45) none (Act.iad 2) [Opd.t 44, Opd.k (AV.d (DV.int IntKind.i64 (Int.ofNat 2)))], Ins.mk (some 46) none (Act.load (some 2)) [Opd.t 45], Ins.mk (some 47) none Act.mv [Opd.t 0],
                          Ins.mk (some 48) none (Act.iad 2) [Opd.t 47, Opd.k (AV.d (DV.int IntKind.i64 (Int.ofNat 1)))], Ins.mk (some 49) none (Act.load (some 2)) [Opd.t 48],
                          Ins.mk (some 50) none
                            (Act.build
                              [AV.d (DV.int IntKind.i64 (Int.ofNat 0)), AV.d (DV.int IntKind.i64 (Int.ofNat 0)), AV.d (DV.int IntKind.i64 (Int.ofNat 0)), AV.d (DV.int IntKind.i64 (Int.ofNat 0)), AV.d (DV.int IntKind.i64 (Int.ofNat 0)), AV.d (DV.int IntKind.i64 (Int.ofNat 0)),
                                AV.d (DV.int IntKind.i64 (Int.ofNat 0)), AV.d (DV.int IntKind.i64 (Int.ofNat 0))]
                              [(0, 2), (2, 2), (4, 2), (6, 2)])
                            [Opd.t 40, Opd.t 43, Opd.t 46, Opd.t 49],
                          Ins.mk none none (Act.store 8) [Opd.t 2, Opd.t 50]])
                      CC.ret)
                    CC.skip))
                (CC.seq (CC.fgt [0, 2])
                  (CC.seq
                    (CC.reg (some [])
                      [Ins.mk (some 51) none Act.mv [Opd.t 0], Ins.mk (some 52) none (Act.iad 2) [Opd.t 51, Opd.k (AV.d (DV.int IntKind.i64 (Int.ofNat 0)))], Ins.mk (some 53) none (Act.load (some 2)) [Opd.t 52], Ins.mk (some 54) none Act.mv [Opd.t 0],
                        Ins.mk (some 55) none (Act.iad 2) [Opd.t 54, Opd.k (AV.d (DV.int IntKind.i64 (Int.ofNat 1)))], Ins.mk (some 56) none (Act.load (some 2)) [Opd.t 55], Ins.mk (some 57) none Act.mv [Opd.t 0],
                        Ins.mk (some 58) none (Act.iad 2) [Opd.t 57, Opd.k (AV.d (DV.int IntKind.i64 (Int.ofNat 2)))], Ins.mk (some 59) none (Act.load (some 2)) [Opd.t 58], Ins.mk (some 60) none Act.mv [Opd.t 0],
                        Ins.mk (some 61) none (Act.iad 2) [Opd.t 60, Opd.k (AV.d (DV.int IntKind.i64 (Int.ofNat 3)))], Ins.mk (some 62) none (Act.load (some 2)) [Opd.t 61],
                        Ins.mk (some 63) none
                          (Act.build
                            [AV.d (DV.int IntKind.i64 (Int.ofNat 0)), AV.d (DV.int IntKind.i64 (Int.ofNat 0)), AV.d (DV.int IntKind.i64 (Int.ofNat 0)), AV.d (DV.int IntKind.i64 (Int.ofNat 0)), AV.d (DV.int IntKind.i64 (Int.ofNat 0)), AV.d (DV.int IntKind.i64 (Int.ofNat 0)),
                              AV.d (DV.int IntKind.i64 (Int.ofNat 0)), AV.d (DV.int IntKind.i64 (Int.ofNat 0))]
                            [(0, 2), (2, 2), (4, 2), (6, 2)])
                          [Opd.t 53, Opd.t 56, Opd.t 59, Opd.t 62],
                        Ins.mk none none (Act.store 8) [Opd.t 2, Opd.t 63]])
                    CC.ret))))))))
    [RV.cell 2 (some 8)]
theorem code20_ok : F0 20 = some (.code code20) := by kernel_rfl
def code9 : CFn :=
  CFn.mk
    (CC.seq
      (CC.reg none
        [Ins.mk (some 4) none (Act.new 26 [AV.d (DV.int IntKind.i64 (Int.ofNat 0)), AV.d (DV.int IntKind.i64 (Int.ofNat 0))]) [], Ins.mk (some 5) none (Act.new 26 [AV.d (DV.int IntKind.i64 (Int.ofNat 0)), AV.d (DV.int IntKind.i64 (Int.ofNat 0))]) [],
          Ins.mk (some 6) none Act.mv [Opd.k (AV.d (DV.int IntKind.i64 (Int.ofNat 0)))], Ins.mk (some 7) none Act.mv [Opd.k (AV.d (DV.int IntKind.i64 (Int.ofNat 0)))]])
      (CC.seq
        (CC.reg none
          [Ins.mk (some 12) none Act.mv [Opd.t 0], Ins.mk (some 13) none Act.mv [Opd.t 1], Ins.mk (some 14) none (Act.call false) [Opd.k (AV.fn Mode.pure 19 [] []), Opd.t 12, Opd.t 13, Opd.k (AV.d (DV.int IntKind.i64 (Int.ofNat 1))), Opd.k (AV.d (DV.int IntKind.i64 (Int.ofNat 2)))],
            Ins.mk (some 11) none Act.mv [Opd.t 14], Ins.mk (some 15) none (Act.ext 0) [Opd.t 11], Ins.mk (some 16) none (Act.ext 1) [Opd.t 11], Ins.mk (some 17) none (Act.ext 2) [Opd.t 11], Ins.mk (some 8) none Act.mv [Opd.t 15], Ins.mk (some 9) none Act.mv [Opd.t 16],
            Ins.mk (some 10) none Act.mv [Opd.t 17]])
        (CC.seq
          (CC.seq (CC.reg none [Ins.mk (some 18) none Act.mv [Opd.t 10], Ins.mk (some 19) none (Act.bin BinOp.neq (EqK.nil 10)) [Opd.t 18, Opd.k (AV.d (DV.int IntKind.i64 (Int.ofNat 0)))]])
            (CC.cond (Opd.t 19)
              (CC.seq
                (CC.reg none
                  [Ins.mk (some 20) none (Act.build [AV.d (DV.int IntKind.i64 (Int.ofNat 0)), AV.d (DV.int IntKind.i64 (Int.ofNat 0))] []) [], Ins.mk (some 21) none (Act.build [AV.d (DV.int IntKind.i64 (Int.ofNat 0)), AV.d (DV.int IntKind.i64 (Int.ofNat 0))] []) [],
                    Ins.mk (some 22) none Act.mv [Opd.t 9], Ins.mk (some 23) none Act.mv [Opd.t 10], Ins.mk none none (Act.storeT 2) [Opd.t 4, Opd.t 20], Ins.mk none none (Act.storeT 2) [Opd.t 5, Opd.t 21], Ins.mk (some 6) none Act.mv [Opd.t 22], Ins.mk (some 7) none Act.mv [Opd.t 23]])
                CC.ret)
              CC.skip))
          (CC.seq (CC.fgt [4, 5, 6, 7, 8, 9])
            (CC.seq
              (CC.reg (some [(31, 2, 4, 2)])
                [Ins.mk (some 24) none Act.mv [Opd.t 8], Ins.mk (some 25) none (Act.iad 2) [Opd.t 24, Opd.k (AV.d (DV.int IntKind.i64 (Int.ofNat 0)))], Ins.mk (some 26) none (Act.load (some 2)) [Opd.t 25], Ins.mk (some 27) none Act.mv [Opd.t 8], Ins.mk (some 28) none Act.mv [Opd.t 8],
                  Ins.mk (some 29) none Act.len [Opd.t 28], Ins.mk (some 30) none (Act.bin BinOp.sub (EqK.nil 10)) [Opd.t 29, Opd.k (AV.d (DV.int IntKind.i64 (Int.ofNat 1)))], Ins.mk (some 31) none (Act.iad 2) [Opd.t 27, Opd.t 30], Ins.mk (some 32) none (Act.load (some 2)) [Opd.t 31],
                  Ins.mk (some 33) none Act.mv [Opd.t 9], Ins.mk none none (Act.store 2) [Opd.t 4, Opd.t 26], Ins.mk none none (Act.store 2) [Opd.t 5, Opd.t 32], Ins.mk (some 6) none Act.mv [Opd.t 33], Ins.mk (some 7) none Act.mv [Opd.k (AV.d (DV.int IntKind.i64 (Int.ofNat 0)))]])
              CC.ret)))))
    [RV.cell 4 (some 2), RV.cell 5 (some 2), RV.tmp 6, RV.tmp 7]
theorem code9_ok : F0 9 = some (.code code9) := by kernel_rfl
def code25 : CFn :=
  CFn.mk
    (CC.seq (CC.reg none [Ins.mk (some 0) none Act.mv [Opd.k (AV.d DV.nilsl)]])
      (CC.seq
        (CC.reg none
          [Ins.mk (some 1) none (Act.bslT 9 1 [DV.str []] 9 [0, 1, 2, 3, 4, 5, 6, 7, 8])
              [Opd.k (AV.d (DV.str [UInt8.ofNat 97, UInt8.ofNat 117, UInt8.ofNat 116, UInt8.ofNat 111])), Opd.k (AV.d (DV.str [UInt8.ofNat 110, UInt8.ofNat 111, UInt8.ofNat 114, UInt8.ofNat 109, UInt8.ofNat 97, UInt8.ofNat 108])),
                Opd.k (AV.d (DV.str [UInt8.ofNat 115, UInt8.ofNat 116, UInt8.ofNat 97, UInt8.ofNat 114, UInt8.ofNat 116])), Opd.k (AV.d (DV.str [UInt8.ofNat 101, UInt8.ofNat 110, UInt8.ofNat 100])),
                Opd.k (AV.d (DV.str [UInt8.ofNat 99, UInt8.ofNat 101, UInt8.ofNat 110, UInt8.ofNat 116, UInt8.ofNat 101, UInt8.ofNat 114])), Opd.k (AV.d (DV.str [UInt8.ofNat 115, UInt8.ofNat 116, UInt8.ofNat 114, UInt8.ofNat 101, UInt8.ofNat 116, UInt8.ofNat 99, UInt8.ofNat 104])),
                Opd.k (AV.d (DV.str [UInt8.ofNat 115, UInt8.ofNat 112, UInt8.ofNat 97, UInt8.ofNat 99, UInt8.ofNat 101, UInt8.ofNat 45, UInt8.ofNat 98, UInt8.ofNat 101, UInt8.ofNat 116, UInt8.ofNat 119, UInt8.ofNat 101, UInt8.ofNat 101, UInt8.ofNat 110])),
                Opd.k (AV.d (DV.str [UInt8.ofNat 115, UInt8.ofNat 112, UInt8.ofNat 97, UInt8.ofNat 99, UInt8.ofNat 101, UInt8.ofNat 45, UInt8.ofNat 97, UInt8.ofNat 114, UInt8.ofNat 111, UInt8.ofNat 117, UInt8.ofNat 110, UInt8.ofNat 100])),
                Opd.k (AV.d (DV.str [UInt8.ofNat 115, UInt8.ofNat 112, UInt8.ofNat 97, UInt8.ofNat 99, UInt8.ofNat 101, UInt8.ofNat 45, UInt8.ofNat 101, UInt8.ofNat 118, UInt8.ofNat 101, UInt8.ofNat 110, UInt8.ofNat 108, UInt8.ofNat 121]))],
            Ins.mk (some 0) none Act.mv [Opd.t 1]])
        CC.ret))
    [RV.tmp 0]
theorem code25_ok : F0 25 = some (.code code25) := by kernel_rfl
def code11 : CFn :=
  CFn.mk
    (CC.seq (CC.reg none [Ins.mk (some 6) none Act.mv [Opd.k (AV.d (DV.int IntKind.i64 (Int.ofNat 0)))], Ins.mk (some 7) none Act.mv [Opd.k (AV.d (DV.int IntKind.i64 (Int.ofNat 0)))], Ins.mk (some 8) none Act.mv [Opd.k (AV.d (DV.int IntKind.i64 (Int.ofNat 0)))]])
      (CC.seq
        (CC.reg none
          [Ins.mk (some 14) none Act.mv [Opd.t 0], Ins.mk (some 15) none Act.mv [Opd.t 1], Ins.mk (some 16) none (Act.call false) [Opd.k (AV.fn Mode.pure 25 [] [])], Ins.mk (some 17) none (Act.call false) [Opd.k (AV.fn Mode.pure 24 [] []), Opd.t 14, Opd.t 15, Opd.t 16],
            Ins.mk (some 13) none Act.mv [Opd.t 17], Ins.mk (some 18) none (Act.ext 0) [Opd.t 13], Ins.mk (some 19) none (Act.ext 1) [Opd.t 13], Ins.mk (some 9) none Act.mv [Opd.t 18], Ins.mk (some 10) none Act.mv [Opd.t 19]])
        (CC.seq
          (CC.seq
            (CC.reg none
              [Ins.mk (some 20) none Act.mv [Opd.t 9], Ins.mk (some 21) none (Act.bin BinOp.geq (EqK.nil 10)) [Opd.t 20, Opd.k (AV.d (DV.int IntKind.i64 (Int.ofNat 0)))], Ins.mk (some 22) none Act.mv [Opd.t 21], Ins.mk (some 23) (some (22, true)) Act.mv [Opd.t 9],
                Ins.mk (some 24) (some (22, true)) (Act.bin BinOp.add (EqK.nil 10)) [Opd.t 23, Opd.k (AV.d (DV.int IntKind.i64 (Int.ofNat 1)))], Ins.mk (some 25) (some (22, true)) Act.mv [Opd.t 2],
                Ins.mk (some 26) (some (22, true)) (Act.call false) [Opd.k (AV.fn Mode.pure 26 [] []), Opd.t 24, Opd.t 25], Ins.mk (some 27) none Act.pick [Opd.t 22, Opd.t 26, Opd.k (AV.d (DV.bool false))]])
            (CC.cond (Opd.t 27)
              (CC.seq
                (CC.reg none
                  [Ins.mk (some 28) none Act.mv [Opd.t 9], Ins.mk (some 29) none (Act.bin BinOp.add (EqK.nil 10)) [Opd.t 28, Opd.k (AV.d (DV.int IntKind.i64 (Int.ofNat 1)))], Ins.mk (some 30) none Act.mv [Opd.t 10], Ins.mk (some 6) none Act.mv [Opd.t 29], Ins.mk (some 7) none Act.mv [Opd.t 30],
                    Ins.mk (some 8) none Act.mv [Opd.k (AV.d (DV.int IntKind.i64 (Int.ofNat 0)))]])
                CC.ret)
              CC.skip))
          (CC.seq (CC.fgt [0, 1, 6, 7, 8])
            (CC.seq
              (CC.reg none
                [Ins.mk (some 32) none Act.mv [Opd.t 0], Ins.mk (some 33) none Act.mv [Opd.t 1],
                  Ins.mk (some 34) none (Act.bslT 9 1 [DV.str []] 16 [0, 1, 2, 3, 4, 5, 6, 7, 8, 9, 10, 11, 12, 13, 14, 15])
                    [Opd.k (AV.d (DV.str [UInt8.ofNat 98, UInt8.ofNat 97, UInt8.ofNat 115, UInt8.ofNat 101, UInt8.ofNat 108, UInt8.ofNat 105, UInt8.ofNat 110, UInt8.ofNat 101])), Opd.k (AV.d (DV.str [UInt8.ofNat 102, UInt8.ofNat 105, UInt8.ofNat 114, UInt8.ofNat 115, UInt8.ofNat 116])),
                      Opd.k (AV.d (DV.str [UInt8.ofNat 108, UInt8.ofNat 97, UInt8.ofNat 115, UInt8.ofNat 116])), Opd.k (AV.d (DV.str [UInt8.ofNat 115, UInt8.ofNat 97, UInt8.ofNat 102, UInt8.ofNat 101])),
                      Opd.k (AV.d (DV.str [UInt8.ofNat 117, UInt8.ofNat 110, UInt8.ofNat 115, UInt8.ofNat 97, UInt8.ofNat 102, UInt8.ofNat 101])), Opd.k (AV.d (DV.str [UInt8.ofNat 108, UInt8.ofNat 101, UInt8.ofNat 102, UInt8.ofNat 116])),
                      Opd.k (AV.d (DV.str [UInt8.ofNat 114, UInt8.ofNat 105, UInt8.ofNat 103, UInt8.ofNat 104, UInt8.ofNat 116])),
                      Opd.k (AV.d (DV.str [UInt8.ofNat 102, UInt8.ofNat 108, UInt8.ofNat 101, UInt8.ofNat 120, UInt8.ofNat 45, UInt8.ofNat 115, UInt8.ofNat 116, UInt8.ofNat 97, UInt8.ofNat 114, UInt8.ofNat 116])),
                      Opd.k (AV.d (DV.str [UInt8.ofNat 102, UInt8.ofNat 108, UInt8.ofNat 101, UInt8.ofNat 120, UInt8.ofNat 45, UInt8.ofNat 101, UInt8.ofNat 110, UInt8.ofNat 100])),
                      Opd.k (AV.d (DV.str [UInt8.ofNat 115, UInt8.ofNat 101, UInt8.ofNat 108, UInt8.ofNat 102, UInt8.ofNat 45, UInt8.ofNat 115, UInt8.ofNat 116, UInt8.ofNat 97, UInt8.ofNat 114, UInt8.ofNat 116])),
                      Opd.k (AV.d (DV.str [UInt8.ofNat 115, UInt8.ofNat 101, UInt8.ofNat 108, UInt8.ofNat 102, UInt8.ofNat 45, UInt8.ofNat 101, UInt8.ofNat 110, UInt8.ofNat 100])),
                      Opd.k (AV.d (DV.str [UInt8.ofNat 108, UInt8.ofNat 101, UInt8.ofNat 103, UInt8.ofNat 97, UInt8.ofNat 99, UInt8.ofNat 121])), Opd.k (AV.d (DV.str [UInt8.ofNat 105, UInt8.ofNat 110, UInt8.ofNat 104, UInt8.ofNat 101, UInt8.ofNat 114, UInt8.ofNat 105, UInt8.ofNat 116])),
                      Opd.k (AV.d (DV.str [UInt8.ofNat 105, UInt8.ofNat 110, UInt8.ofNat 105, UInt8.ofNat 116, UInt8.ofNat 105, UInt8.ofNat 97, UInt8.ofNat 108])), Opd.k (AV.d (DV.str [UInt8.ofNat 117, UInt8.ofNat 110, UInt8.ofNat 115, UInt8.ofNat 101, UInt8.ofNat 116])),
                      Opd.k (AV.d (DV.str [UInt8.ofNat 114, UInt8.ofNat 101, UInt8.ofNat 118, UInt8.ofNat 101, UInt8.ofNat 114, UInt8.ofNat 116]))],
                  Ins.mk (some 35) none (Act.call false) [Opd.k (AV.fn Mode.pure 24 [] []), Opd.t 32, Opd.t 33, Opd.t 34], Ins.mk (some 31) none Act.mv [Opd.t 35], Ins.mk (some 36) none (Act.ext 0) [Opd.t 31], Ins.mk (some 37) none (Act.ext 1) [Opd.t 31], Ins.mk (some 11) none Act.mv [Opd.t 36],
                  Ins.mk (some 12) none Act.mv [Opd.t 37]])
              (CC.seq
                (CC.seq (CC.reg none [Ins.mk (some 38) none Act.mv [Opd.t 11], Ins.mk (some 39) none (Act.bin BinOp.geq (EqK.nil 10)) [Opd.t 38, Opd.k (AV.d (DV.int IntKind.i64 (Int.ofNat 0)))]])
                  (CC.cond (Opd.t 39)
                    (CC.seq (CC.reg none [Ins.mk (some 40) none Act.mv [Opd.t 1], Ins.mk (some 6) none Act.mv [Opd.k (AV.d (DV.int IntKind.i64 (Int.ofNat 0)))], Ins.mk (some 7) none Act.mv [Opd.t 40], Ins.mk (some 8) none Act.mv [Opd.k (AV.d (DV.int IntKind.i64 (Int.ofNat 51)))]]) CC.ret) CC.skip))
                (CC.seq (CC.fgt [1, 6, 7, 8])
                  (CC.seq (CC.reg none [Ins.mk (some 41) none Act.mv [Opd.t 1], Ins.mk (some 6) none Act.mv [Opd.k (AV.d (DV.int IntKind.i64 (Int.ofNat 0)))], Ins.mk (some 7) none Act.mv [Opd.t 41], Ins.mk (some 8) none Act.mv [Opd.k (AV.d (DV.int IntKind.i64 (Int.ofNat 50)))]]) CC.ret))))))))
    [RV.tmp 6, RV.tmp 7, RV.tmp 8]
theorem code11_ok : F0 11 = some (.code code11) := by kernel_rfl
def code26 : CFn :=
  CFn.mk
    (CC.seq (CC.reg none [Ins.mk (some 4) none Act.mv [Opd.k (AV.d (DV.bool false))]])
      (CC.seq
        (CC.seq
          (CC.reg none
            [Ins.mk (some 5) none Act.mv [Opd.t 0], Ins.mk (some 6) none (Act.bin BinOp.lss (EqK.nil 10)) [Opd.t 5, Opd.k (AV.d (DV.int IntKind.i64 (Int.ofNat 1)))], Ins.mk (some 7) none Act.mv [Opd.t 6], Ins.mk (some 8) (some (7, false)) Act.mv [Opd.t 0],
              Ins.mk (some 9) (some (7, false)) (Act.bin BinOp.gtr (EqK.nil 10)) [Opd.t 8, Opd.k (AV.d (DV.int IntKind.i64 (Int.ofNat 9)))], Ins.mk (some 10) none Act.pick [Opd.t 7, Opd.k (AV.d (DV.bool true)), Opd.t 9]])
          (CC.cond (Opd.t 10) (CC.seq (CC.reg none [Ins.mk (some 4) none Act.mv [Opd.k (AV.d (DV.bool false))]]) CC.ret) CC.skip))
        (CC.seq (CC.fgt [0, 1, 4])
          (CC.seq
            (CC.reg none
              [Ins.mk (some 11) none Act.mv [Opd.t 1], Ins.mk (some 12) none (Act.bin BinOp.eql (EqK.nil 10)) [Opd.t 11, Opd.k (AV.d (DV.int IntKind.i64 (Int.ofNat 1)))], Ins.mk (some 13) none Act.mv [Opd.t 12], Ins.mk (some 14) (some (13, true)) Act.mv [Opd.t 0],
                Ins.mk (some 15) (some (13, true)) (Act.bin BinOp.leq (EqK.nil 10)) [Opd.t 14, Opd.k (AV.d (DV.int IntKind.i64 (Int.ofNat 6)))], Ins.mk (some 16) none Act.pick [Opd.t 13, Opd.t 15, Opd.k (AV.d (DV.bool false))], Ins.mk (some 17) none Act.mv [Opd.t 16],
                Ins.mk (some 18) (some (17, false)) Act.mv [Opd.t 1], Ins.mk (some 19) (some (17, false)) (Act.bin BinOp.eql (EqK.nil 10)) [Opd.t 18, Opd.k (AV.d (DV.int IntKind.i64 (Int.ofNat 2)))], Ins.mk (some 20) (some (17, false)) Act.mv [Opd.t 19],
                Ins.mk (some 21) (some (20, true)) Act.mv [Opd.t 0], Ins.mk (some 22) (some (20, true)) (Act.bin BinOp.geq (EqK.nil 10)) [Opd.t 21, Opd.k (AV.d (DV.int IntKind.i64 (Int.ofNat 2)))], Ins.mk (some 23) (some (17, false)) Act.pick [Opd.t 20, Opd.t 22, Opd.k (AV.d (DV.bool false))],
                Ins.mk (some 24) (some (17, false)) Act.mv [Opd.t 23], Ins.mk (some 25) (some (24, true)) Act.mv [Opd.t 0], Ins.mk (some 26) (some (24, true)) (Act.bin BinOp.leq (EqK.nil 10)) [Opd.t 25, Opd.k (AV.d (DV.int IntKind.i64 (Int.ofNat 6)))],
                Ins.mk (some 27) (some (17, false)) Act.pick [Opd.t 24, Opd.t 26, Opd.k (AV.d (DV.bool false))], Ins.mk (some 28) none Act.pick [Opd.t 17, Opd.k (AV.d (DV.bool true)), Opd.t 27], Ins.mk (some 29) none Act.mv [Opd.t 28], Ins.mk (some 30) (some (29, false)) Act.mv [Opd.t 1],
                Ins.mk (some 31) (some (29, false)) (Act.bin BinOp.eql (EqK.nil 10)) [Opd.t 30, Opd.k (AV.d (DV.int IntKind.i64 (Int.ofNat 3)))], Ins.mk (some 32) (some (29, false)) Act.mv [Opd.t 31], Ins.mk (some 33) (some (32, true)) Act.mv [Opd.t 0],
                Ins.mk (some 34) (some (32, true)) (Act.bin BinOp.geq (EqK.nil 10)) [Opd.t 33, Opd.k (AV.d (DV.int IntKind.i64 (Int.ofNat 2)))], Ins.mk (some 35) (some (29, false)) Act.pick [Opd.t 32, Opd.t 34, Opd.k (AV.d (DV.bool false))],
                Ins.mk (some 36) none Act.pick [Opd.t 29, Opd.k (AV.d (DV.bool true)), Opd.t 35], Ins.mk (some 4) none Act.mv [Opd.t 36]])
            CC.ret))))
    [RV.tmp 4]
theorem code26_ok : F0 26 = some (.code code26) := by kernel_rfl
def code13 : CFn :=
  CFn.mk
    (CC.seq (CC.reg none [Ins.mk (some 4) none Act.mv [Opd.k (AV.d (DV.int IntKind.i64 (Int.ofNat 0)))], Ins.mk (some 5) none Act.mv [Opd.k (AV.d (DV.int IntKind.i64 (Int.ofNat 0)))], Ins.mk (some 6) none Act.mv [Opd.k (AV.d (DV.int IntKind.i64 (Int.ofNat 0)))]])
      (CC.seq
        (CC.reg none
          [Ins.mk (some 11) none Act.mv [Opd.t 0], Ins.mk (some 12) none Act.mv [Opd.t 1], Ins.mk (some 13) none (Act.call false) [Opd.k (AV.fn Mode.pure 29 [] []), Opd.t 11, Opd.t 12], Ins.mk (some 10) none Act.mv [Opd.t 13], Ins.mk (some 14) none (Act.ext 0) [Opd.t 10],
            Ins.mk (some 15) none (Act.ext 1) [Opd.t 10], Ins.mk (some 16) none (Act.ext 2) [Opd.t 10], Ins.mk (some 7) none Act.mv [Opd.t 14], Ins.mk (some 8) none Act.mv [Opd.t 15], Ins.mk (some 9) none Act.mv [Opd.t 16]])
        (CC.seq
          (CC.seq
            (CC.reg none
              [Ins.mk (some 17) none Act.mv [Opd.t 9], Ins.mk (some 18) none (Act.bin BinOp.eql (EqK.nil 10)) [Opd.t 17, Opd.k (AV.d (DV.int IntKind.i64 (Int.ofNat 10)))], Ins.mk (some 19) none Act.mv [Opd.t 18], Ins.mk (some 20) (some (19, false)) Act.mv [Opd.t 9],
                Ins.mk (some 21) (some (19, false)) (Act.bin BinOp.eql (EqK.nil 10)) [Opd.t 20, Opd.k (AV.d (DV.int IntKind.i64 (Int.ofNat 0)))], Ins.mk (some 22) (some (19, false)) Act.mv [Opd.t 21], Ins.mk (some 23) (some (22, true)) Act.mv [Opd.t 7],
                Ins.mk (some 24) (some (22, true)) (Act.bin BinOp.gtr (EqK.nil 10)) [Opd.t 23, Opd.k (AV.d (DV.int IntKind.i64 (Int.ofNat 1048576)))], Ins.mk (some 25) (some (22, true)) Act.mv [Opd.t 24], Ins.mk (some 26) (some (25, false)) Act.mv [Opd.t 7],
                Ins.mk (some 27) (some (25, false)) (Act.bin BinOp.lss (EqK.nil 10)) [Opd.t 26, Opd.k (AV.d (DV.int IntKind.i64 (Int.negSucc 1048575)))], Ins.mk (some 28) (some (22, true)) Act.pick [Opd.t 25, Opd.k (AV.d (DV.bool true)), Opd.t 27],
                Ins.mk (some 29) (some (19, false)) Act.pick [Opd.t 22, Opd.t 28, Opd.k (AV.d (DV.bool false))], Ins.mk (some 30) none Act.pick [Opd.t 19, Opd.k (AV.d (DV.bool true)), Opd.t 29]])
            (CC.cond (Opd.t 30) (CC.seq (CC.reg none [Ins.mk (some 31) none Act.mv [Opd.t 1], Ins.mk (some 4) none Act.mv [Opd.k (AV.d (DV.int IntKind.i64 (Int.ofNat 0)))], Ins.mk (some 5) none Act.mv [Opd.t 31], Ins.mk (some 6) none Act.mv [Opd.k (AV.d (DV.int IntKind.i64 (Int.ofNat 52)))]]) CC.ret)
              CC.skip))
          (CC.seq (CC.fgt [4, 5, 6, 7, 8, 9])
            (CC.seq (CC.reg none [Ins.mk (some 32) none Act.mv [Opd.t 7], Ins.mk (some 33) none Act.mv [Opd.t 8], Ins.mk (some 34) none Act.mv [Opd.t 9], Ins.mk (some 4) none Act.mv [Opd.t 32], Ins.mk (some 5) none Act.mv [Opd.t 33], Ins.mk (some 6) none Act.mv [Opd.t 34]]) CC.ret)))))
    [RV.tmp 4, RV.tmp 5, RV.tmp 6]
theorem code13_ok : F0 13 = some (.code code13) := by kernel_rfl
def code34 : CFn :=
  CFn.mk
    (CC.seq (CC.reg none [Ins.mk (some 4) none (Act.new 45 [AV.d (DV.int IntKind.i64 (Int.ofNat 0)), AV.d (DV.int IntKind.i64 (Int.ofNat 0)), AV.d (DV.str []), AV.d (DV.str [])]) []])
      (CC.seq
        (CC.seq
          (CC.reg none
            [Ins.mk (some 5) none Act.mv [Opd.t 1], Ins.mk (some 6) none (Act.bin BinOp.lss (EqK.nil 10)) [Opd.t 5, Opd.k (AV.d (DV.int IntKind.i64 (Int.ofNat 0)))], Ins.mk (some 7) none Act.mv [Opd.t 6], Ins.mk (some 8) (some (7, false)) Act.mv [Opd.t 1],
              Ins.mk (some 9) (some (7, false)) Act.mv [Opd.t 0], Ins.mk (some 10) (some (7, false)) Act.len [Opd.t 9], Ins.mk (some 11) (some (7, false)) (Act.bin BinOp.geq (EqK.nil 10)) [Opd.t 8, Opd.t 10], Ins.mk (some 12) none Act.pick [Opd.t 7, Opd.k (AV.d (DV.bool true)), Opd.t 11]])
          (CC.cond (Opd.t 12)
            (CC.seq (CC.reg none [Ins.mk (some 13) none (Act.build [AV.d (DV.int IntKind.i64 (Int.ofNat 0)), AV.d (DV.int IntKind.i64 (Int.ofNat 0)), AV.d (DV.str []), AV.d (DV.str [])] [(0, 1)]) [Opd.k (AV.d (DV.int IntKind.i64 (Int.ofNat 8)))], Ins.mk none none (Act.storeT 4) [Opd.t 4, Opd.t 13]])
              CC.ret)
            CC.skip))
        (CC.seq (CC.fgt [0, 1, 4])
          (CC.seq (CC.reg none [Ins.mk (some 14) none Act.mv [Opd.t 0], Ins.mk (some 15) none Act.mv [Opd.t 1], Ins.mk (some 16) none (Act.iad 4) [Opd.t 14, Opd.t 15], Ins.mk (some 17) none (Act.load (some 4)) [Opd.t 16], Ins.mk none none (Act.storeT 4) [Opd.t 4, Opd.t 17]]) CC.ret))))
    [RV.cell 4 (some 4)]
theorem code34_ok : F0 34 = some (.code code34) := by kernel_rfl
def code47 : CFn :=
  CFn.mk
    (CC.seq (CC.reg none [Ins.mk (some 1) none (Act.box 45) [Opd.t 0], Ins.mk (some 2) none Act.mv [Opd.k (AV.d (DV.bool false))]])
      (CC.seq (CC.reg none [Ins.mk (some 4) none (Act.fad 2) [Opd.t 1], Ins.mk (some 5) none (Act.load none) [Opd.t 4], Ins.mk (some 6) none (Act.call false) [Opd.k (AV.fn Mode.pure 39 [] []), Opd.t 5], Ins.mk (some 3) none Act.mv [Opd.t 6]])
        (CC.seq
          (CC.seq (CC.reg none [Ins.mk (some 7) none (Act.fad 0) [Opd.t 1], Ins.mk (some 8) none (Act.load none) [Opd.t 7]])
            (CC.block 0
              (CC.seq (CC.reg none [Ins.mk (some 10) none (Act.bin BinOp.eql (EqK.nil 10)) [Opd.t 8, Opd.k (AV.d (DV.int IntKind.i64 (Int.ofNat 5)))], Ins.mk (some 9) none Act.mv [Opd.t 10]])
                (CC.cond (Opd.t 9)
                  (CC.seq (CC.reg none [Ins.mk (some 11) none Act.mv [Opd.t 3]])
                    (CC.block 1
                      (CC.seq
                        (CC.seq (CC.reg none [Ins.mk (some 13) none (Act.bin BinOp.eql (EqK.nil 10)) [Opd.t 11, Opd.k (AV.d (DV.str [UInt8.ofNat 101, UInt8.ofNat 109]))], Ins.mk (some 12) none Act.mv [Opd.t 13]])
                          (CC.cond (Opd.t 12) CC.skip
                            (CC.seq (CC.reg none [Ins.mk (some 14) none (Act.bin BinOp.eql (EqK.nil 10)) [Opd.t 11, Opd.k (AV.d (DV.str [UInt8.ofNat 114, UInt8.ofNat 101, UInt8.ofNat 109]))], Ins.mk (some 12) none Act.mv [Opd.t 14]])
                              (CC.cond (Opd.t 12) CC.skip
                                (CC.seq (CC.reg none [Ins.mk (some 15) none (Act.bin BinOp.eql (EqK.nil 10)) [Opd.t 11, Opd.k (AV.d (DV.str [UInt8.ofNat 101, UInt8.ofNat 120]))], Ins.mk (some 12) none Act.mv [Opd.t 15]])
                                  (CC.cond (Opd.t 12) CC.skip
                                    (CC.seq (CC.reg none [Ins.mk (some 16) none (Act.bin BinOp.eql (EqK.nil 10)) [Opd.t 11, Opd.k (AV.d (DV.str [UInt8.ofNat 99, UInt8.ofNat 104]))], Ins.mk (some 12) none Act.mv [Opd.t 16]])
                                      (CC.cond (Opd.t 12) CC.skip
                                        (CC.seq (CC.reg none [Ins.mk (some 17) none (Act.bin BinOp.eql (EqK.nil 10)) [Opd.t 11, Opd.k (AV.d (DV.str [UInt8.ofNat 118, UInt8.ofNat 119]))], Ins.mk (some 12) none Act.mv [Opd.t 17]])
                                          (CC.cond (Opd.t 12) CC.skip
                                            (CC.seq (CC.reg none [Ins.mk (some 18) none (Act.bin BinOp.eql (EqK.nil 10)) [Opd.t 11, Opd.k (AV.d (DV.str [UInt8.ofNat 118, UInt8.ofNat 104]))], Ins.mk (some 12) none Act.mv [Opd.t 18]])
                                              (CC.cond (Opd.t 12) CC.skip
                                                (CC.seq (CC.reg none [Ins.mk (some 19) none (Act.bin BinOp.eql (EqK.nil 10)) [Opd.t 11, Opd.k (AV.d (DV.str [UInt8.ofNat 118, UInt8.ofNat 109, UInt8.ofNat 105, UInt8.ofNat 110]))], Ins.mk (some 12) none Act.mv [Opd.t 19]])
                                                  (CC.cond (Opd.t 12) CC.skip
                                                    (CC.seq (CC.reg none [Ins.mk (some 20) none (Act.bin BinOp.eql (EqK.nil 10)) [Opd.t 11, Opd.k (AV.d (DV.str [UInt8.ofNat 118, UInt8.ofNat 109, UInt8.ofNat 97, UInt8.ofNat 120]))], Ins.mk (some 12) none Act.mv [Opd.t 20]])
                                                      (CC.cond (Opd.t 12) CC.skip
                                                        (CC.seq (CC.reg none [Ins.mk (some 21) none (Act.bin BinOp.eql (EqK.nil 10)) [Opd.t 11, Opd.k (AV.d (DV.str [UInt8.ofNat 99, UInt8.ofNat 109]))], Ins.mk (some 12) none Act.mv [Opd.t 21]])
                                                          (CC.cond (Opd.t 12) CC.skip
                                                            (CC.seq (CC.reg none [Ins.mk (some 22) none (Act.bin BinOp.eql (EqK.nil 10)) [Opd.t 11, Opd.k (AV.d (DV.str [UInt8.ofNat 109, UInt8.ofNat 109]))], Ins.mk (some 12) none Act.mv [Opd.t 22]])
                                                              (CC.cond (Opd.t 12) CC.skip
                                                                (CC.seq (CC.reg none [Ins.mk (some 23) none (Act.bin BinOp.eql (EqK.nil 10)) [Opd.t 11, Opd.k (AV.d (DV.str [UInt8.ofNat 113]))], Ins.mk (some 12) none Act.mv [Opd.t 23]])
                                                                  (CC.cond (Opd.t 12) CC.skip
                                                                    (CC.seq (CC.reg none [Ins.mk (some 24) none (Act.bin BinOp.eql (EqK.nil 10)) [Opd.t 11, Opd.k (AV.d (DV.str [UInt8.ofNat 105, UInt8.ofNat 110]))], Ins.mk (some 12) none Act.mv [Opd.t 24]])
                                                                      (CC.cond (Opd.t 12) CC.skip
                                                                        (CC.seq (CC.reg none [Ins.mk (some 25) none (Act.bin BinOp.eql (EqK.nil 10)) [Opd.t 11, Opd.k (AV.d (DV.str [UInt8.ofNat 112, UInt8.ofNat 99]))], Ins.mk (some 12) none Act.mv [Opd.t 25]])
                                                                          (CC.cond (Opd.t 12) CC.skip
                                                                            (CC.reg none [Ins.mk (some 26) none (Act.bin BinOp.eql (EqK.nil 10)) [Opd.t 11, Opd.k (AV.d (DV.str [UInt8.ofNat 112, UInt8.ofNat 116]))], Ins.mk (some 12) none Act.mv [Opd.t 26]])))))))))))))))))))))))))))
                        (CC.seq (CC.fgt [2, 12]) (CC.cond (Opd.t 12) (CC.seq (CC.reg none [Ins.mk (some 2) none Act.mv [Opd.k (AV.d (DV.bool true))]]) CC.ret) CC.skip)))))
                  (CC.seq (CC.reg none [Ins.mk (some 28) none (Act.bin BinOp.eql (EqK.nil 10)) [Opd.t 8, Opd.k (AV.d (DV.int IntKind.i64 (Int.ofNat 2)))], Ins.mk (some 27) none Act.mv [Opd.t 28]])
                    (CC.cond (Opd.t 27)
                      (CC.seq (CC.reg none [Ins.mk (some 29) none Act.mv [Opd.t 3]])
                        (CC.block 2
                          (CC.seq
                            (CC.seq (CC.reg none [Ins.mk (some 31) none (Act.bin BinOp.eql (EqK.nil 10)) [Opd.t 29, Opd.k (AV.d (DV.str [UInt8.ofNat 99, UInt8.ofNat 97, UInt8.ofNat 108, UInt8.ofNat 99]))], Ins.mk (some 30) none Act.mv [Opd.t 31]])
                              (CC.cond (Opd.t 30) CC.skip
                                (CC.seq (CC.reg none [Ins.mk (some 32) none (Act.bin BinOp.eql (EqK.nil 10)) [Opd.t 29, Opd.k (AV.d (DV.str [UInt8.ofNat 109, UInt8.ofNat 105, UInt8.ofNat 110]))], Ins.mk (some 30) none Act.mv [Opd.t 32]])
                                  (CC.cond (Opd.t 30) CC.skip
                                    (CC.seq (CC.reg none [Ins.mk (some 33) none (Act.bin BinOp.eql (EqK.nil 10)) [Opd.t 29, Opd.k (AV.d (DV.str [UInt8.ofNat 109, UInt8.ofNat 97, UInt8.ofNat 120]))], Ins.mk (some 30) none Act.mv [Opd.t 33]])
                                      (CC.cond (Opd.t 30) CC.skip
                                        (CC.seq (CC.reg none [Ins.mk (some 34) none (Act.bin BinOp.eql (EqK.nil 10)) [Opd.t 29, Opd.k (AV.d (DV.str [UInt8.ofNat 99, UInt8.ofNat 108, UInt8.ofNat 97, UInt8.ofNat 109, UInt8.ofNat 112]))], Ins.mk (some 30) none Act.mv [Opd.t 34]])
                                          (CC.cond (Opd.t 30) CC.skip
                                            (CC.seq (CC.reg none [Ins.mk (some 35) none (Act.bin BinOp.eql (EqK.nil 10)) [Opd.t 29, Opd.k (AV.d (DV.str [UInt8.ofNat 101, UInt8.ofNat 110, UInt8.ofNat 118]))], Ins.mk (some 30) none Act.mv [Opd.t 35]])
                                              (CC.cond (Opd.t 30) CC.skip (CC.reg none [Ins.mk (some 36) none (Act.bin BinOp.eql (EqK.nil 10)) [Opd.t 29, Opd.k (AV.d (DV.str [UInt8.ofNat 118, UInt8.ofNat 97, UInt8.ofNat 114]))], Ins.mk (some 30) none Act.mv [Opd.t 36]])))))))))))
                            (CC.seq (CC.fgt [2, 30]) (CC.cond (Opd.t 30) (CC.seq (CC.reg none [Ins.mk (some 2) none Act.mv [Opd.k (AV.d (DV.bool true))]]) CC.ret) CC.skip)))))
                      (CC.seq (CC.reg none [Ins.mk (some 38) none (Act.bin BinOp.eql (EqK.nil 10)) [Opd.t 8, Opd.k (AV.d (DV.int IntKind.i64 (Int.ofNat 1)))], Ins.mk (some 37) none Act.mv [Opd.t 38]])
                        (CC.cond (Opd.t 37)
                          (CC.seq (CC.reg none [Ins.mk (some 39) none Act.mv [Opd.t 3]])
                            (CC.block 3
                              (CC.seq
                                (CC.seq
                                  (CC.reg none [Ins.mk (some 41) none (Act.bin BinOp.eql (EqK.nil 10)) [Opd.t 39, Opd.k (AV.d (DV.str [UInt8.ofNat 105, UInt8.ofNat 110, UInt8.ofNat 104, UInt8.ofNat 101, UInt8.ofNat 114, UInt8.ofNat 105, UInt8.ofNat 116]))], Ins.mk (some 40) none Act.mv [Opd.t 41]])
                                  (CC.cond (Opd.t 40) CC.skip
                                    (CC.seq
                                      (CC.reg none [Ins.mk (some 42) none (Act.bin BinOp.eql (EqK.nil 10)) [Opd.t 39, Opd.k (AV.d (DV.str [UInt8.ofNat 105, UInt8.ofNat 110, UInt8.ofNat 105, UInt8.ofNat 116, UInt8.ofNat 105, UInt8.ofNat 97, UInt8.ofNat 108]))], Ins.mk (some 40) none Act.mv [Opd.t 42]])
                                      (CC.cond (Opd.t 40) CC.skip
                                        (CC.seq (CC.reg none [Ins.mk (some 43) none (Act.bin BinOp.eql (EqK.nil 10)) [Opd.t 39, Opd.k (AV.d (DV.str [UInt8.ofNat 117, UInt8.ofNat 110, UInt8.ofNat 115, UInt8.ofNat 101, UInt8.ofNat 116]))], Ins.mk (some 40) none Act.mv [Opd.t 43]])
                                          (CC.cond (Opd.t 40) CC.skip
                                            (CC.reg none [Ins.mk (some 44) none (Act.bin BinOp.eql (EqK.nil 10)) [Opd.t 39, Opd.k (AV.d (DV.str [UInt8.ofNat 114, UInt8.ofNat 101, UInt8.ofNat 118, UInt8.ofNat 101, UInt8.ofNat 114, UInt8.ofNat 116]))], Ins.mk (some 40) none Act.mv [Opd.t 44]])))))))
                                (CC.seq (CC.fgt [2, 40]) (CC.cond (Opd.t 40) (CC.seq (CC.reg none [Ins.mk (some 2) none Act.mv [Opd.k (AV.d (DV.bool true))]]) CC.ret) CC.skip)))))
                          CC.skip))))))))
          (CC.seq (CC.fgt [2]) (CC.seq (CC.reg none [Ins.mk (some 2) none Act.mv [Opd.k (AV.d (DV.bool false))]]) CC.ret)))))
    [RV.tmp 2]
theorem code47_ok : F0 47 = some (.code code47) := by kernel_rfl
def code48 : CFn :=
  CFn.mk
    (CC.seq (CC.reg none [Ins.mk (some 1) none (Act.box 45) [Opd.t 0], Ins.mk (some 2) none Act.mv [Opd.k (AV.d (DV.int IntKind.i64 (Int.ofNat 0)))], Ins.mk (some 3) none Act.mv [Opd.k (AV.d (DV.int IntKind.i64 (Int.ofNat 0)))]])
      (CC.seq
        (CC.seq (CC.reg none [Ins.mk (some 9) none (Act.fad 0) [Opd.t 1], Ins.mk (some 10) none (Act.load none) [Opd.t 9]])
          (CC.block 0
            (CC.seq (CC.reg none [Ins.mk (some 12) none (Act.bin BinOp.eql (EqK.nil 10)) [Opd.t 10, Opd.k (AV.d (DV.int IntKind.i64 (Int.ofNat 5)))], Ins.mk (some 11) none Act.mv [Opd.t 12]])
              (CC.cond (Opd.t 11)
                (CC.block 1
                  (CC.seq
                    (CC.reg none
                      [Ins.mk (some 14) none (Act.fad 2) [Opd.t 1], Ins.mk (some 15) none (Act.load none) [Opd.t 14], Ins.mk (some 16) none (Act.call false) [Opd.k (AV.fn Mode.pure 35 [] []), Opd.t 15, Opd.k (AV.d (DV.str [UInt8.ofNat 112, UInt8.ofNat 120]))], Ins.mk (some 13) none Act.mv [Opd.t 16]])
                    (CC.cond (Opd.t 13) (CC.seq (CC.reg none [Ins.mk (some 2) none Act.mv [Opd.k (AV.d (DV.int IntKind.i64 (Int.ofNat 2)))], Ins.mk (some 3) none Act.mv [Opd.k (AV.d (DV.int IntKind.i64 (Int.ofNat 64)))]]) CC.ret)
                      (CC.seq
                        (CC.reg none
                          [Ins.mk (some 18) none (Act.fad 2) [Opd.t 1], Ins.mk (some 19) none (Act.load none) [Opd.t 18], Ins.mk (some 20) none (Act.call false) [Opd.k (AV.fn Mode.pure 35 [] []), Opd.t 19, Opd.k (AV.d (DV.str [UInt8.ofNat 102, UInt8.ofNat 114]))],
                            Ins.mk (some 17) none Act.mv [Opd.t 20]])
                        (CC.cond (Opd.t 17) (CC.seq (CC.reg none [Ins.mk (some 2) none Act.mv [Opd.k (AV.d (DV.int IntKind.i64 (Int.ofNat 6)))], Ins.mk (some 3) none Act.mv [Opd.k (AV.d (DV.int IntKind.i64 (Int.ofNat 1000)))]]) CC.ret) CC.skip)))))
                (CC.seq (CC.reg none [Ins.mk (some 22) none (Act.bin BinOp.eql (EqK.nil 10)) [Opd.t 10, Opd.k (AV.d (DV.int IntKind.i64 (Int.ofNat 4)))], Ins.mk (some 21) none Act.mv [Opd.t 22]])
                  (CC.cond (Opd.t 21) (CC.seq (CC.reg none [Ins.mk (some 2) none Act.mv [Opd.k (AV.d (DV.int IntKind.i64 (Int.ofNat 3)))], Ins.mk (some 3) none Act.mv [Opd.k (AV.d (DV.int IntKind.i64 (Int.ofNat 1000)))]]) CC.ret)
                    (CC.seq (CC.reg none [Ins.mk (some 24) none (Act.bin BinOp.eql (EqK.nil 10)) [Opd.t 10, Opd.k (AV.d (DV.int IntKind.i64 (Int.ofNat 3)))], Ins.mk (some 23) none Act.mv [Opd.t 24]])
                      (CC.cond (Opd.t 23)
                        (CC.seq
                          (CC.reg none
                            [Ins.mk (some 26) none (Act.fad 3) [Opd.t 1], Ins.mk (some 27) none (Act.load none) [Opd.t 26], Ins.mk (some 28) none (Act.call false) [Opd.k (AV.fn Mode.pure 39 [] []), Opd.t 27],
                              Ins.mk (some 29) none (Act.call false) [Opd.k (AV.fn Mode.pure 71 [] []), Opd.t 28, Opd.k (AV.d (DV.str [UInt8.ofNat 101]))], Ins.mk (some 25) none Act.mv [Opd.t 29], Ins.mk (some 30) none (Act.ext 0) [Opd.t 25], Ins.mk (some 31) none (Act.ext 1) [Opd.t 25],
                              Ins.mk (some 32) none (Act.ext 2) [Opd.t 25], Ins.mk (some 4) none Act.mv [Opd.t 30], Ins.mk (some 5) none Act.mv [Opd.t 31], Ins.mk (some 6) none Act.mv [Opd.t 32]])
                          (CC.seq
                            (CC.reg none
                              [Ins.mk (some 33) none Act.mv [Opd.t 4], Ins.mk (some 34) none (Act.call false) [Opd.k (AV.fn Mode.pure 72 [] []), Opd.t 33, Opd.k (AV.d (DV.str [UInt8.ofNat 43, UInt8.ofNat 45, UInt8.ofNat 46, UInt8.ofNat 48]))],
                                Ins.mk (some 35) none (Act.bin BinOp.eql (EqK.nil 10)) [Opd.t 34, Opd.k (AV.d (DV.str []))]])
                            (CC.cond (Opd.t 35) (CC.seq (CC.reg none [Ins.mk (some 2) none Act.mv [Opd.k (AV.d (DV.int IntKind.i64 (Int.ofNat 2)))], Ins.mk (some 3) none Act.mv [Opd.k (AV.d (DV.int IntKind.i64 (Int.ofNat 0)))]]) CC.ret) CC.skip)))
                        (CC.seq (CC.reg none [Ins.mk (some 37) none (Act.bin BinOp.eql (EqK.nil 10)) [Opd.t 10, Opd.k (AV.d (DV.int IntKind.i64 (Int.ofNat 1)))], Ins.mk (some 36) none Act.mv [Opd.t 37]])
                          (CC.cond (Opd.t 36)
                            (CC.seq (CC.reg none [Ins.mk (some 7) none Act.mv [Opd.k (AV.d (DV.int IntKind.i64 (Int.ofNat 1)))]])
                              (CC.block 2
                                (CC.loop [1, 2, 3, 7]
                                  (CC.seq (CC.seq (CC.reg none [Ins.mk (some 38) none Act.mv [Opd.t 7], Ins.mk (some 39) none (Act.bin BinOp.leq (EqK.nil 10)) [Opd.t 38, Opd.k (AV.d (DV.int IntKind.i64 (Int.ofNat 7)))]]) (CC.cond (Opd.t 39) CC.skip (CC.exit 2)))
                                    (CC.seq (CC.fgt [1, 2, 3, 7])
                                      (CC.seq
                                        (CC.block 3
                                          (CC.seq (CC.reg none [Ins.mk (some 42) none Act.mv [Opd.t 7], Ins.mk (some 43) none (Act.call false) [Opd.k (AV.fn Mode.pure 73 [] []), Opd.t 42], Ins.mk (some 8) none Act.mv [Opd.t 43]])
                                            (CC.seq
                                              (CC.reg none
                                                [Ins.mk (some 44) none Act.mv [Opd.t 8], Ins.mk (some 45) none (Act.bin BinOp.neq (EqK.nil 10)) [Opd.t 44, Opd.k (AV.d (DV.str []))], Ins.mk (some 46) none Act.mv [Opd.t 45], Ins.mk (some 47) (some (46, true)) (Act.fad 2) [Opd.t 1],
                                                  Ins.mk (some 48) (some (46, true)) (Act.load none) [Opd.t 47], Ins.mk (some 49) (some (46, true)) Act.mv [Opd.t 8], Ins.mk (some 50) (some (46, true)) (Act.call false) [Opd.k (AV.fn Mode.pure 35 [] []), Opd.t 48, Opd.t 49],
                                                  Ins.mk (some 51) none Act.pick [Opd.t 46, Opd.t 50, Opd.k (AV.d (DV.bool false))]])
                                              (CC.cond (Opd.t 51) (CC.seq (CC.reg none [Ins.mk (some 52) none Act.mv [Opd.t 7], Ins.mk (some 2) none Act.mv [Opd.t 52], Ins.mk (some 3) none Act.mv [Opd.k (AV.d (DV.int IntKind.i64 (Int.ofNat 0)))]]) CC.ret) CC.skip))))
                                        (CC.seq (CC.fgt [1, 2, 3, 7]) (CC.reg none [Ins.mk (some 40) none Act.mv [Opd.t 7], Ins.mk (some 41) none (Act.bin BinOp.add (EqK.nil 10)) [Opd.t 40, Opd.k (AV.d (DV.int IntKind.i64 (Int.ofNat 1)))], Ins.mk (some 7) none Act.mv [Opd.t 41]]))))))))
                            CC.skip))))))))))
        (CC.seq (CC.fgt [2, 3]) (CC.seq (CC.reg none [Ins.mk (some 2) none Act.mv [Opd.k (AV.d (DV.int IntKind.i64 (Int.ofNat 0)))], Ins.mk (some 3) none Act.mv [Opd.k (AV.d (DV.int IntKind.i64 (Int.ofNat 0)))]]) CC.ret))))
    [RV.tmp 2, RV.tmp 3]
theorem code48_ok : F0 48 = some (.code code48) := by kernel_rfl
def code40 : CFn :=
  CFn.mk
    (CC.seq (CC.reg none [Ins.mk (some 4) none Act.mv [Opd.k (AV.d (DV.int IntKind.i64 (Int.ofNat 0)))], Ins.mk (some 5) none Act.mv [Opd.k (AV.d (DV.int IntKind.i64 (Int.ofNat 0)))]])
      (CC.seq
        (CC.reg none
          [Ins.mk (some 9) none Act.mv [Opd.t 0], Ins.mk (some 10) none Act.mv [Opd.t 1], Ins.mk (some 11) none (Act.call false) [Opd.k (AV.fn Mode.pure 55 [] []), Opd.t 9, Opd.t 10], Ins.mk (some 8) none Act.mv [Opd.t 11], Ins.mk (some 12) none (Act.ext 0) [Opd.t 8],
            Ins.mk (some 13) none (Act.ext 1) [Opd.t 8], Ins.mk (some 6) none Act.mv [Opd.t 12], Ins.mk (some 7) none Act.mv [Opd.t 13]])
        (CC.seq
          (CC.seq
            (CC.reg none
              [Ins.mk (some 14) none Act.mv [Opd.t 7], Ins.mk (some 15) none (Act.bin BinOp.neq (EqK.nil 10)) [Opd.t 14, Opd.k (AV.d (DV.int IntKind.i64 (Int.ofNat 0)))], Ins.mk (some 16) none Act.mv [Opd.t 15], Ins.mk (some 17) (some (16, true)) Act.mv [Opd.t 7],
                Ins.mk (some 18) (some (16, true)) (Act.bin BinOp.neq (EqK.nil 10)) [Opd.t 17, Opd.k (AV.d (DV.int IntKind.i64 (Int.ofNat 10)))], Ins.mk (some 19) none Act.pick [Opd.t 16, Opd.t 18, Opd.k (AV.d (DV.bool false))]])
            (CC.cond (Opd.t 19) (CC.reg none [Ins.mk (some 7) none Act.mv [Opd.k (AV.d (DV.int IntKind.i64 (Int.ofNat 50)))]]) CC.skip))
          (CC.seq (CC.fgt [4, 5, 6, 7]) (CC.seq (CC.reg none [Ins.mk (some 20) none Act.mv [Opd.t 6], Ins.mk (some 21) none Act.mv [Opd.t 7], Ins.mk (some 4) none Act.mv [Opd.t 20], Ins.mk (some 5) none Act.mv [Opd.t 21]]) CC.ret)))))
    [RV.tmp 4, RV.tmp 5]
theorem code40_ok : F0 40 = some (.code code40) := by kernel_rfl
def code31 : CFn :=
  CFn.mk
    (CC.seq
      (CC.reg none
        [Ins.mk (some 4) none (Act.box 3) [Opd.t 1], Ins.mk (some 6) none (Act.new 26 [AV.d (DV.int IntKind.i64 (Int.ofNat 0)), AV.d (DV.int IntKind.i64 (Int.ofNat 0))]) [], Ins.mk (some 7) none Act.mv [Opd.k (AV.d (DV.int IntKind.i64 (Int.ofNat 0)))],
          Ins.mk (some 8) none Act.mv [Opd.k (AV.d (DV.int IntKind.i64 (Int.ofNat 0)))]])
      (CC.seq
        (CC.reg none
          [Ins.mk (some 13) none Act.mv [Opd.t 0], Ins.mk (some 14) none (Act.load none) [Opd.t 4], Ins.mk (some 15) none (Act.call false) [Opd.k (AV.fn Mode.pure 34 [] []), Opd.t 13, Opd.t 14],
            Ins.mk (some 9) none (Act.new 45 [AV.d (DV.int IntKind.i64 (Int.ofNat 0)), AV.d (DV.int IntKind.i64 (Int.ofNat 0)), AV.d (DV.str []), AV.d (DV.str [])]) [], Ins.mk none none (Act.storeT 4) [Opd.t 9, Opd.t 15]])
        (CC.seq (CC.reg none [Ins.mk (some 16) none (Act.mkf Mode.drop 46 0) [Opd.t 4], Ins.mk (some 10) none Act.mv [Opd.t 16]])
          (CC.seq
            (CC.seq (CC.reg none [Ins.mk (some 17) none (Act.load (some 4)) [Opd.t 9], Ins.mk (some 18) none (Act.call false) [Opd.k (AV.fn Mode.pure 47 [] []), Opd.t 17]])
              (CC.cond (Opd.t 18)
                (CC.seq
                  (CC.reg none
                    [Ins.mk (some 19) none Act.mv [Opd.t 10], Ins.mk (some 20) none (Act.call false) [Opd.t 19, Opd.k (AV.d (DV.int IntKind.i64 (Int.ofNat 51)))], Ins.mk (some 21) none (Act.ext 0) [Opd.t 20], Ins.mk (some 22) none (Act.ext 1) [Opd.t 20], Ins.mk (some 23) none (Act.ext 2) [Opd.t 20],
                      Ins.mk none none (Act.storeT 2) [Opd.t 6, Opd.t 21], Ins.mk (some 7) none Act.mv [Opd.t 22], Ins.mk (some 8) none Act.mv [Opd.t 23]])
                  CC.ret)
                CC.skip))
            (CC.seq (CC.fgt [2, 4, 6, 7, 8, 9, 10])
              (CC.seq
                (CC.reg none
                  [Ins.mk (some 25) none (Act.load (some 4)) [Opd.t 9], Ins.mk (some 26) none (Act.call false) [Opd.k (AV.fn Mode.pure 48 [] []), Opd.t 25], Ins.mk (some 24) none Act.mv [Opd.t 26], Ins.mk (some 27) none (Act.ext 0) [Opd.t 24], Ins.mk (some 28) none (Act.ext 1) [Opd.t 24],
                    Ins.mk (some 11) none Act.mv [Opd.t 27], Ins.mk (some 12) none Act.mv [Opd.t 28]])
                (CC.seq (CC.reg none [Ins.mk (some 29) none Act.mv [Opd.t 11], Ins.mk (some 30) none (Act.fad 0) [Opd.t 6], Ins.mk none none (Act.storeT 1) [Opd.t 30, Opd.t 29]])
                  (CC.seq
                    (CC.seq
                      (CC.reg none
                        [Ins.mk (some 31) none Act.mv [Opd.t 11], Ins.mk (some 32) none (Act.bin BinOp.eql (EqK.nil 10)) [Opd.t 31, Opd.k (AV.d (DV.int IntKind.i64 (Int.ofNat 0)))], Ins.mk (some 33) none Act.mv [Opd.t 32], Ins.mk (some 34) (some (33, false)) (Act.load (some 2)) [Opd.t 6],
                          Ins.mk (some 35) (some (33, false)) Act.mv [Opd.t 2], Ins.mk (some 36) (some (33, false)) (Act.call false) [Opd.k (AV.fn Mode.pure 49 [] []), Opd.t 34, Opd.t 35], Ins.mk (some 37) (some (33, false)) (Act.un UnOp.not) [Opd.t 36],
                          Ins.mk (some 38) none Act.pick [Opd.t 33, Opd.k (AV.d (DV.bool true)), Opd.t 37]])
                      (CC.cond (Opd.t 38)
                        (CC.seq
                          (CC.reg none
                            [Ins.mk (some 39) none Act.mv [Opd.t 10], Ins.mk (some 40) none (Act.call false) [Opd.t 39, Opd.k (AV.d (DV.int IntKind.i64 (Int.ofNat 50)))], Ins.mk (some 41) none (Act.ext 0) [Opd.t 40], Ins.mk (some 42) none (Act.ext 1) [Opd.t 40],
                              Ins.mk (some 43) none (Act.ext 2) [Opd.t 40], Ins.mk none none (Act.storeT 2) [Opd.t 6, Opd.t 41], Ins.mk (some 7) none Act.mv [Opd.t 42], Ins.mk (some 8) none Act.mv [Opd.t 43]])
                          CC.ret)
                        CC.skip))
                    (CC.seq (CC.fgt [2, 4, 6, 7, 8, 9, 10, 11, 12])
                      (CC.seq
                        (CC.seq (CC.reg none [Ins.mk (some 44) none Act.mv [Opd.t 12], Ins.mk (some 45) none (Act.bin BinOp.gtr (EqK.nil 10)) [Opd.t 44, Opd.k (AV.d (DV.int IntKind.i64 (Int.ofNat 0)))]])
                          (CC.cond (Opd.t 45)
                            (CC.seq
                              (CC.reg none
                                [Ins.mk (some 47) none (Act.fad 3) [Opd.t 9], Ins.mk (some 48) none (Act.load none) [Opd.t 47], Ins.mk (some 49) none Act.mv [Opd.t 12], Ins.mk (some 50) none (Act.call false) [Opd.k (AV.fn Mode.pure 40 [] []), Opd.t 48, Opd.t 49],
                                  Ins.mk (some 46) none Act.mv [Opd.t 50], Ins.mk (some 51) none (Act.ext 0) [Opd.t 46], Ins.mk (some 52) none (Act.ext 1) [Opd.t 46], Ins.mk (some 53) none (Act.fad 1) [Opd.t 6], Ins.mk none none (Act.storeT 1) [Opd.t 53, Opd.t 51],
                                  Ins.mk (some 8) none Act.mv [Opd.t 52]])
                              (CC.seq (CC.reg none [Ins.mk (some 54) none Act.mv [Opd.t 8], Ins.mk (some 55) none (Act.bin BinOp.neq (EqK.nil 10)) [Opd.t 54, Opd.k (AV.d (DV.int IntKind.i64 (Int.ofNat 0)))]])
                                (CC.cond (Opd.t 55)
                                  (CC.seq
                                    (CC.reg none
                                      [Ins.mk (some 56) none Act.mv [Opd.t 10], Ins.mk (some 57) none Act.mv [Opd.t 8], Ins.mk (some 58) none (Act.call false) [Opd.t 56, Opd.t 57], Ins.mk (some 59) none (Act.ext 0) [Opd.t 58], Ins.mk (some 60) none (Act.ext 1) [Opd.t 58],
                                        Ins.mk (some 61) none (Act.ext 2) [Opd.t 58], Ins.mk none none (Act.storeT 2) [Opd.t 6, Opd.t 59], Ins.mk (some 7) none Act.mv [Opd.t 60], Ins.mk (some 8) none Act.mv [Opd.t 61]])
                                    CC.ret)
                                  CC.skip)))
                            CC.skip))
                        (CC.seq (CC.fgt [2, 4, 6, 7, 8, 10, 11])
                          (CC.seq
                            (CC.block 0
                              (CC.seq (CC.reg none [Ins.mk (some 63) none (Act.load (some 2)) [Opd.t 6], Ins.mk (some 64) none Act.mv [Opd.t 2], Ins.mk (some 65) none (Act.call false) [Opd.k (AV.fn Mode.pure 49 [] []), Opd.t 63, Opd.t 64], Ins.mk (some 62) none Act.mv [Opd.t 65]])
                                (CC.cond (Opd.t 62)
                                  (CC.seq
                                    (CC.reg (some [(4, 1, 6, 2)])
                                      [Ins.mk (some 66) none (Act.load (some 2)) [Opd.t 6], Ins.mk (some 67) none (Act.load none) [Opd.t 4], Ins.mk (some 68) none (Act.bin BinOp.add (EqK.nil 10)) [Opd.t 67, Opd.k (AV.d (DV.int IntKind.i64 (Int.ofNat 1)))],
                                        Ins.mk none none (Act.store 2) [Opd.t 6, Opd.t 66], Ins.mk (some 7) none Act.mv [Opd.t 68], Ins.mk (some 8) none Act.mv [Opd.k (AV.d (DV.int IntKind.i64 (Int.ofNat 0)))]])
                                    CC.ret)
                                  (CC.seq
                                    (CC.reg none
                                      [Ins.mk (some 70) none (Act.fad 1) [Opd.t 6], Ins.mk (some 71) none (Act.load none) [Opd.t 70], Ins.mk (some 72) none (Act.bin BinOp.lss (EqK.nil 10)) [Opd.t 71, Opd.k (AV.d (DV.int IntKind.i64 (Int.ofNat 0)))], Ins.mk (some 73) none Act.mv [Opd.t 72],
                                        Ins.mk (some 74) (some (73, true)) Act.mv [Opd.t 2], Ins.mk (some 75) (some (73, true)) (Act.bin BinOp.and (EqK.nil 10)) [Opd.t 74, Opd.k (AV.d (DV.int IntKind.i64 (Int.ofNat 2)))],
                                        Ins.mk (some 76) (some (73, true)) (Act.bin BinOp.eql (EqK.nil 10)) [Opd.t 75, Opd.k (AV.d (DV.int IntKind.i64 (Int.ofNat 0)))], Ins.mk (some 77) (some (73, true)) Act.mv [Opd.t 76], Ins.mk (some 78) (some (77, false)) Act.mv [Opd.t 11],
                                        Ins.mk (some 79) (some (77, false)) (Act.bin BinOp.eql (EqK.nil 10)) [Opd.t 78, Opd.k (AV.d (DV.int IntKind.i64 (Int.ofNat 6)))], Ins.mk (some 80) (some (73, true)) Act.pick [Opd.t 77, Opd.k (AV.d (DV.bool true)), Opd.t 79],
                                        Ins.mk (some 81) none Act.pick [Opd.t 73, Opd.t 80, Opd.k (AV.d (DV.bool false))], Ins.mk (some 69) none Act.mv [Opd.t 81]])
                                    (CC.cond (Opd.t 69)
                                      (CC.seq
                                        (CC.reg none
                                          [Ins.mk (some 82) none Act.mv [Opd.t 10], Ins.mk (some 83) none (Act.call false) [Opd.t 82, Opd.k (AV.d (DV.int IntKind.i64 (Int.ofNat 50)))], Ins.mk (some 84) none (Act.ext 0) [Opd.t 83], Ins.mk (some 85) none (Act.ext 1) [Opd.t 83],
                                            Ins.mk (some 86) none (Act.ext 2) [Opd.t 83], Ins.mk none none (Act.storeT 2) [Opd.t 6, Opd.t 84], Ins.mk (some 7) none Act.mv [Opd.t 85], Ins.mk (some 8) none Act.mv [Opd.t 86]])
                                        CC.ret)
                                      CC.skip)))))
                            (CC.seq (CC.fgt [6, 7, 8, 10])
                              (CC.seq
                                (CC.reg none
                                  [Ins.mk (some 87) none Act.mv [Opd.t 10], Ins.mk (some 88) none (Act.call false) [Opd.t 87, Opd.k (AV.d (DV.int IntKind.i64 (Int.ofNat 10)))], Ins.mk (some 89) none (Act.ext 0) [Opd.t 88], Ins.mk (some 90) none (Act.ext 1) [Opd.t 88],
                                    Ins.mk (some 91) none (Act.ext 2) [Opd.t 88], Ins.mk none none (Act.storeT 2) [Opd.t 6, Opd.t 89], Ins.mk (some 7) none Act.mv [Opd.t 90], Ins.mk (some 8) none Act.mv [Opd.t 91]])
                                CC.ret))))))))))))))
    [RV.cell 6 (some 2), RV.tmp 7, RV.tmp 8]
theorem code31_ok : F0 31 = some (.code code31) := by kernel_rfl
def code27 : CFn :=
  CFn.mk
    (CC.seq (CC.reg none [Ins.mk (some 4) none Act.mv [Opd.k (AV.d (DV.int IntKind.i64 (Int.ofNat 0)))], Ins.mk (some 5) none Act.mv [Opd.k (AV.d (DV.int IntKind.i64 (Int.ofNat 0)))], Ins.mk (some 6) none Act.mv [Opd.k (AV.d (DV.int IntKind.i64 (Int.ofNat 0)))]])
      (CC.seq
        (CC.reg none
          [Ins.mk (some 10) none Act.mv [Opd.t 0], Ins.mk (some 11) none Act.mv [Opd.t 1], Ins.mk (some 12) none (Act.call false) [Opd.k (AV.fn Mode.pure 34 [] []), Opd.t 10, Opd.t 11],
            Ins.mk (some 7) none (Act.new 45 [AV.d (DV.int IntKind.i64 (Int.ofNat 0)), AV.d (DV.int IntKind.i64 (Int.ofNat 0)), AV.d (DV.str []), AV.d (DV.str [])]) [], Ins.mk none none (Act.storeT 4) [Opd.t 7, Opd.t 12]])
        (CC.seq
          (CC.seq
            (CC.reg none
              [Ins.mk (some 13) none (Act.fad 0) [Opd.t 7], Ins.mk (some 14) none (Act.load none) [Opd.t 13], Ins.mk (some 15) none (Act.bin BinOp.neq (EqK.nil 10)) [Opd.t 14, Opd.k (AV.d (DV.int IntKind.i64 (Int.ofNat 3)))], Ins.mk (some 16) none Act.mv [Opd.t 15],
                Ins.mk (some 17) (some (16, false)) (Act.fad 3) [Opd.t 7], Ins.mk (some 18) (some (16, false)) (Act.load none) [Opd.t 17], Ins.mk (some 19) (some (16, false)) (Act.call false) [Opd.k (AV.fn Mode.pure 38 [] []), Opd.t 18, Opd.k (AV.d (DV.str [UInt8.ofNat 46]))],
                Ins.mk (some 20) none Act.pick [Opd.t 16, Opd.k (AV.d (DV.bool true)), Opd.t 19], Ins.mk (some 21) none Act.mv [Opd.t 20], Ins.mk (some 22) (some (21, false)) (Act.fad 3) [Opd.t 7], Ins.mk (some 23) (some (21, false)) (Act.load none) [Opd.t 22],
                Ins.mk (some 24) (some (21, false)) (Act.call false) [Opd.k (AV.fn Mode.pure 39 [] []), Opd.t 23], Ins.mk (some 25) (some (21, false)) (Act.call false) [Opd.k (AV.fn Mode.pure 38 [] []), Opd.t 24, Opd.k (AV.d (DV.str [UInt8.ofNat 101]))],
                Ins.mk (some 26) none Act.pick [Opd.t 21, Opd.k (AV.d (DV.bool true)), Opd.t 25]])
            (CC.cond (Opd.t 26) (CC.seq (CC.reg none [Ins.mk (some 27) none Act.mv [Opd.t 1], Ins.mk (some 4) none Act.mv [Opd.k (AV.d (DV.int IntKind.i64 (Int.ofNat 0)))], Ins.mk (some 5) none Act.mv [Opd.t 27], Ins.mk (some 6) none Act.mv [Opd.k (AV.d (DV.int IntKind.i64 (Int.ofNat 50)))]]) CC.ret)
              CC.skip))
          (CC.seq (CC.fgt [1, 4, 5, 6, 7])
            (CC.seq
              (CC.reg none
                [Ins.mk (some 29) none (Act.fad 3) [Opd.t 7], Ins.mk (some 30) none (Act.load none) [Opd.t 29], Ins.mk (some 31) none (Act.call false) [Opd.k (AV.fn Mode.pure 40 [] []), Opd.t 30, Opd.k (AV.d (DV.int IntKind.i64 (Int.ofNat 1)))], Ins.mk (some 28) none Act.mv [Opd.t 31],
                  Ins.mk (some 32) none (Act.ext 0) [Opd.t 28], Ins.mk (some 33) none (Act.ext 1) [Opd.t 28], Ins.mk (some 8) none Act.mv [Opd.t 32], Ins.mk (some 9) none Act.mv [Opd.t 33]])
              (CC.seq
                (CC.seq (CC.reg none [Ins.mk (some 34) none Act.mv [Opd.t 9], Ins.mk (some 35) none (Act.bin BinOp.neq (EqK.nil 10)) [Opd.t 34, Opd.k (AV.d (DV.int IntKind.i64 (Int.ofNat 0)))]])
                  (CC.cond (Opd.t 35)
                    (CC.seq (CC.reg none [Ins.mk (some 36) none Act.mv [Opd.t 1], Ins.mk (some 37) none Act.mv [Opd.t 9], Ins.mk (some 4) none Act.mv [Opd.k (AV.d (DV.int IntKind.i64 (Int.ofNat 0)))], Ins.mk (some 5) none Act.mv [Opd.t 36], Ins.mk (some 6) none Act.mv [Opd.t 37]]) CC.ret) CC.skip))
                (CC.seq (CC.fgt [1, 4, 5, 6, 8])
                  (CC.seq
                    (CC.reg none
                      [Ins.mk (some 38) none Act.mv [Opd.t 8], Ins.mk (some 39) none Act.mv [Opd.t 1], Ins.mk (some 40) none (Act.bin BinOp.add (EqK.nil 10)) [Opd.t 39, Opd.k (AV.d (DV.int IntKind.i64 (Int.ofNat 1)))], Ins.mk (some 4) none Act.mv [Opd.t 38], Ins.mk (some 5) none Act.mv [Opd.t 40],
                        Ins.mk (some 6) none Act.mv [Opd.k (AV.d (DV.int IntKind.i64 (Int.ofNat 0)))]])
                    CC.ret))))))))
    [RV.tmp 4, RV.tmp 5, RV.tmp 6]
theorem code27_ok : F0 27 = some (.code code27) := by kernel_rfl
def code21 : CFn :=
  CFn.mk
    (CC.seq (CC.reg none [Ins.mk (some 6) none Act.mv [Opd.k (AV.d (DV.int IntKind.i64 (Int.ofNat 0)))], Ins.mk (some 7) none Act.mv [Opd.k (AV.d (DV.int IntKind.i64 (Int.ofNat 0)))]])
      (CC.seq
        (CC.seq
          (CC.reg none
            [Ins.mk (some 11) none Act.mv [Opd.t 0], Ins.mk (some 12) none Act.mv [Opd.t 1], Ins.mk (some 13) none (Act.call false) [Opd.k (AV.fn Mode.pure 34 [] []), Opd.t 11, Opd.t 12],
              Ins.mk (some 8) none (Act.new 45 [AV.d (DV.int IntKind.i64 (Int.ofNat 0)), AV.d (DV.int IntKind.i64 (Int.ofNat 0)), AV.d (DV.str []), AV.d (DV.str [])]) [], Ins.mk none none (Act.storeT 4) [Opd.t 8, Opd.t 13]])
          (CC.seq (CC.reg none [Ins.mk (some 14) none (Act.fad 0) [Opd.t 8], Ins.mk (some 15) none (Act.load none) [Opd.t 14], Ins.mk (some 16) none (Act.bin BinOp.eql (EqK.nil 10)) [Opd.t 15, Opd.k (AV.d (DV.int IntKind.i64 (Int.ofNat 1)))]])
            (CC.cond (Opd.t 16)
              (CC.seq (CC.reg none [Ins.mk (some 17) none Act.mv [Opd.t 2], Ins.mk (some 18) none Act.len [Opd.t 17], Ins.mk (some 19) none Act.mv [Opd.k (AV.d (DV.int IntKind.i64 (Int.ofNat 0)))]])
                (CC.block 0
                  (CC.loop [1, 6, 7, 8, 17, 18, 19]
                    (CC.seq (CC.reg none [Ins.mk (some 20) none (Act.bin BinOp.lss (EqK.nil 10)) [Opd.t 19, Opd.t 18]])
                      (CC.seq (CC.cond (Opd.t 20) CC.skip (CC.exit 0))
                        (CC.seq (CC.fgt [1, 6, 7, 8, 17, 18, 19])
                          (CC.seq
                            (CC.block 1
                              (CC.seq (CC.reg none [Ins.mk (some 21) none Act.mv [Opd.t 19], Ins.mk (some 22) none (Act.iad 1) [Opd.t 17, Opd.t 19], Ins.mk (some 23) none (Act.load none) [Opd.t 22], Ins.mk (some 9) none Act.mv [Opd.t 21], Ins.mk (some 10) none Act.mv [Opd.t 23]])
                                (CC.seq (CC.reg none [Ins.mk (some 24) none (Act.fad 2) [Opd.t 8], Ins.mk (some 25) none (Act.load none) [Opd.t 24], Ins.mk (some 26) none Act.mv [Opd.t 10], Ins.mk (some 27) none (Act.call false) [Opd.k (AV.fn Mode.pure 35 [] []), Opd.t 25, Opd.t 26]])
                                  (CC.cond (Opd.t 27)
                                    (CC.seq
                                      (CC.reg none
                                        [Ins.mk (some 28) none Act.mv [Opd.t 9], Ins.mk (some 29) none Act.mv [Opd.t 1], Ins.mk (some 30) none (Act.bin BinOp.add (EqK.nil 10)) [Opd.t 29, Opd.k (AV.d (DV.int IntKind.i64 (Int.ofNat 1)))], Ins.mk (some 6) none Act.mv [Opd.t 28],
                                          Ins.mk (some 7) none Act.mv [Opd.t 30]])
                                      CC.ret)
                                    CC.skip))))
                            (CC.seq (CC.fgt [1, 6, 7, 8, 17, 18, 19]) (CC.reg none [Ins.mk (some 31) none (Act.bin BinOp.add (EqK.nil 10)) [Opd.t 19, Opd.k (AV.d (DV.int IntKind.i64 (Int.ofNat 1)))], Ins.mk (some 19) none Act.mv [Opd.t 31]])))))))))
              CC.skip)))
        (CC.seq (CC.fgt [1, 6, 7]) (CC.seq (CC.reg none [Ins.mk (some 32) none Act.mv [Opd.t 1], Ins.mk (some 6) none Act.mv [Opd.k (AV.d (DV.int IntKind.i64 (Int.negSucc 0)))], Ins.mk (some 7) none Act.mv [Opd.t 32]]) CC.ret))))
    [RV.tmp 6, RV.tmp 7]
theorem code21_ok : F0 21 = some (.code code21) := by kernel_rfl
def code17 : CFn :=
  CFn.mk
    (CC.seq (CC.reg none [Ins.mk (some 8) none Act.mv [Opd.k (AV.d DV.nilsl)], Ins.mk (some 9) none Act.mv [Opd.k (AV.d (DV.int IntKind.i64 (Int.ofNat 0)))], Ins.mk (some 10) none Act.mv [Opd.k (AV.d (DV.int IntKind.i64 (Int.ofNat 0)))]])
      (CC.seq
        (CC.seq (CC.reg none [Ins.mk (some 14) none Act.mv [Opd.t 1], Ins.mk (some 9) none Act.mv [Opd.t 14]])
          (CC.block 0
            (CC.loop [0, 2, 3, 8, 9, 10]
              (CC.seq (CC.seq (CC.reg none [Ins.mk (some 15) none Act.mv [Opd.t 8], Ins.mk (some 16) none Act.len [Opd.t 15], Ins.mk (some 17) none Act.mv [Opd.t 3], Ins.mk (some 18) none (Act.bin BinOp.lss (EqK.nil 10)) [Opd.t 16, Opd.t 17]]) (CC.cond (Opd.t 18) CC.skip (CC.exit 0)))
                (CC.seq (CC.fgt [0, 2, 3, 8, 9, 10])
                  (CC.block 1
                    (CC.seq
                      (CC.reg none
                        [Ins.mk (some 20) none Act.mv [Opd.t 0], Ins.mk (some 21) none Act.mv [Opd.t 9], Ins.mk (some 22) none Act.mv [Opd.t 2], Ins.mk (some 23) none (Act.call false) [Opd.k (AV.fn Mode.pure 31 [] []), Opd.t 20, Opd.t 21, Opd.t 22], Ins.mk (some 19) none Act.mv [Opd.t 23],
                          Ins.mk (some 24) none (Act.ext 0) [Opd.t 19], Ins.mk (some 25) none (Act.ext 1) [Opd.t 19], Ins.mk (some 26) none (Act.ext 2) [Opd.t 19], Ins.mk (some 11) none (Act.new 26 [AV.d (DV.int IntKind.i64 (Int.ofNat 0)), AV.d (DV.int IntKind.i64 (Int.ofNat 0))]) [],
                          Ins.mk none none (Act.storeT 2) [Opd.t 11, Opd.t 24], Ins.mk (some 12) none Act.mv [Opd.t 25], Ins.mk (some 13) none Act.mv [Opd.t 26]])
                      (CC.seq
                        (CC.block 2
                          (CC.seq
                            (CC.reg none
                              [Ins.mk (some 28) none Act.mv [Opd.t 13], Ins.mk (some 29) none (Act.bin BinOp.eql (EqK.nil 10)) [Opd.t 28, Opd.k (AV.d (DV.int IntKind.i64 (Int.ofNat 50)))], Ins.mk (some 30) none Act.mv [Opd.t 29], Ins.mk (some 31) (some (30, true)) Act.mv [Opd.t 8],
                                Ins.mk (some 32) (some (30, true)) Act.len [Opd.t 31], Ins.mk (some 33) (some (30, true)) (Act.bin BinOp.gtr (EqK.nil 10)) [Opd.t 32, Opd.k (AV.d (DV.int IntKind.i64 (Int.ofNat 0)))], Ins.mk (some 34) none Act.pick [Opd.t 30, Opd.t 33, Opd.k (AV.d (DV.bool false))],
                                Ins.mk (some 27) none Act.mv [Opd.t 34]])
                            (CC.cond (Opd.t 27)
                              (CC.seq (CC.reg none [Ins.mk (some 35) none Act.mv [Opd.t 8], Ins.mk (some 36) none Act.mv [Opd.t 9], Ins.mk (some 8) none Act.mv [Opd.t 35], Ins.mk (some 9) none Act.mv [Opd.t 36], Ins.mk (some 10) none Act.mv [Opd.k (AV.d (DV.int IntKind.i64 (Int.ofNat 0)))]]) CC.ret)
                              (CC.seq (CC.reg none [Ins.mk (some 38) none Act.mv [Opd.t 13], Ins.mk (some 39) none (Act.bin BinOp.neq (EqK.nil 10)) [Opd.t 38, Opd.k (AV.d (DV.int IntKind.i64 (Int.ofNat 0)))], Ins.mk (some 37) none Act.mv [Opd.t 39]])
                                (CC.cond (Opd.t 37) (CC.seq (CC.reg none [Ins.mk (some 40) none Act.mv [Opd.t 12], Ins.mk (some 41) none Act.mv [Opd.t 13], Ins.mk (some 8) none Act.mv [Opd.k (AV.d DV.nilsl)], Ins.mk (some 9) none Act.mv [Opd.t 40], Ins.mk (some 10) none Act.mv [Opd.t 41]]) CC.ret)
                                  CC.skip)))))
                        (CC.seq (CC.fgt [0, 2, 3, 8, 9, 10, 11, 12])
                          (CC.seq
                            (CC.reg none
                              [Ins.mk (some 42) none Act.mv [Opd.t 8], Ins.mk (some 43) none (Act.load (some 2)) [Opd.t 11], Ins.mk (some 44) none (Act.bslT 26 2 [DV.int IntKind.i64 (Int.ofNat 0), DV.int IntKind.i64 (Int.ofNat 0)] 1 [0]) [Opd.t 43],
                                Ins.mk (some 45) none (Act.app 26 2 16) [Opd.t 42, Opd.t 44], Ins.mk (some 8) none Act.mv [Opd.t 45]])
                            (CC.reg none [Ins.mk (some 46) none Act.mv [Opd.t 12], Ins.mk (some 9) none Act.mv [Opd.t 46]])))))))))))
        (CC.seq (CC.fgt [8, 9, 10])
          (CC.seq (CC.reg none [Ins.mk (some 47) none Act.mv [Opd.t 8], Ins.mk (some 48) none Act.mv [Opd.t 9], Ins.mk (some 8) none Act.mv [Opd.t 47], Ins.mk (some 9) none Act.mv [Opd.t 48], Ins.mk (some 10) none Act.mv [Opd.k (AV.d (DV.int IntKind.i64 (Int.ofNat 0)))]]) CC.ret))))
    [RV.tmp 8, RV.tmp 9, RV.tmp 10]
theorem code17_ok : F0 17 = some (.code code17) := by kernel_rfl
def code6 : CFn :=
  CFn.mk
    (CC.seq
      (CC.reg none
        [Ins.mk (some 4) none
            (Act.new 27
              [AV.d (DV.int IntKind.i64 (Int.ofNat 0)), AV.d (DV.int IntKind.i64 (Int.ofNat 0)), AV.d (DV.int IntKind.i64 (Int.ofNat 0)), AV.d (DV.int IntKind.i64 (Int.ofNat 0)), AV.d (DV.int IntKind.i64 (Int.ofNat 0)), AV.d (DV.int IntKind.i64 (Int.ofNat 0)), AV.d (DV.int IntKind.i64 (Int.ofNat 0)),
                AV.d (DV.int IntKind.i64 (Int.ofNat 0))])
            [],
          Ins.mk (some 5) none Act.mv [Opd.k (AV.d (DV.int IntKind.i64 (Int.ofNat 0)))], Ins.mk (some 6) none Act.mv [Opd.k (AV.d (DV.int IntKind.i64 (Int.ofNat 0)))]])
      (CC.seq
        (CC.reg none
          [Ins.mk (some 9) none Act.mv [Opd.t 0], Ins.mk (some 10) none Act.mv [Opd.t 1], Ins.mk (some 11) none (Act.call false) [Opd.k (AV.fn Mode.pure 17 [] []), Opd.t 9, Opd.t 10, Opd.k (AV.d (DV.int IntKind.i64 (Int.ofNat 7))), Opd.k (AV.d (DV.int IntKind.i64 (Int.ofNat 4)))],
            Ins.mk (some 8) none Act.mv [Opd.t 11], Ins.mk (some 12) none (Act.ext 0) [Opd.t 8], Ins.mk (some 13) none (Act.ext 1) [Opd.t 8], Ins.mk (some 14) none (Act.ext 2) [Opd.t 8], Ins.mk (some 7) none Act.mv [Opd.t 12], Ins.mk (some 5) none Act.mv [Opd.t 13],
            Ins.mk (some 6) none Act.mv [Opd.t 14]])
        (CC.seq
          (CC.seq (CC.reg none [Ins.mk (some 15) none Act.mv [Opd.t 6], Ins.mk (some 16) none (Act.bin BinOp.neq (EqK.nil 10)) [Opd.t 15, Opd.k (AV.d (DV.int IntKind.i64 (Int.ofNat 0)))]])
            (CC.cond (Opd.t 16)
              (CC.seq (CC.reg none [Ins.mk (some 17) none (Act.load (some 8)) [Opd.t 4], Ins.mk (some 18) none Act.mv [Opd.t 5], Ins.mk (some 19) none Act.mv [Opd.t 6], Ins.mk none none (Act.storeT 8) [Opd.t 4, Opd.t 17], Ins.mk (some 5) none Act.mv [Opd.t 18], Ins.mk (some 6) none Act.mv [Opd.t 19]])
                CC.ret)
              CC.skip))
          (CC.seq (CC.fgt [4, 5, 6, 7])
            (CC.seq
              (CC.reg none
                [Ins.mk (some 20) none Act.mv [Opd.t 7], Ins.mk (some 21) none (Act.call false) [Opd.k (AV.fn Mode.pure 18 [] []), Opd.t 20], Ins.mk (some 22) none Act.mv [Opd.t 5], Ins.mk none none (Act.storeT 8) [Opd.t 4, Opd.t 21], Ins.mk (some 5) none Act.mv [Opd.t 22],
                  Ins.mk (some 6) none Act.mv [Opd.k (AV.d (DV.int IntKind.i64 (Int.ofNat 0)))]])
              CC.ret)))))
    [RV.cell 4 (some 8), RV.tmp 5, RV.tmp 6]
theorem code6_ok : F0 6 = some (.code code6) := by kernel_rfl
def code18 : CFn :=
  CFn.mk
    (CC.seq
      (CC.reg none
        [Ins.mk (some 2) none
            (Act.new 27
              [AV.d (DV.int IntKind.i64 (Int.ofNat 0)), AV.d (DV.int IntKind.i64 (Int.ofNat 0)), AV.d (DV.int IntKind.i64 (Int.ofNat 0)), AV.d (DV.int IntKind.i64 (Int.ofNat 0)), AV.d (DV.int IntKind.i64 (Int.ofNat 0)), AV.d (DV.int IntKind.i64 (Int.ofNat 0)), AV.d (DV.int IntKind.i64 (Int.ofNat 0)),
                AV.d (DV.int IntKind.i64 (Int.ofNat 0))])
            []])
      (CC.seq
        (CC.seq (CC.reg none [Ins.mk (some 4) none Act.mv [Opd.k (AV.d (DV.int IntKind.i64 (Int.ofNat 0)))]])
          (CC.block 0
            (CC.loop [0, 2, 4]
              (CC.seq (CC.reg none [Ins.mk (some 5) none (Act.bin BinOp.lss (EqK.nil 10)) [Opd.t 4, Opd.k (AV.d (DV.int IntKind.i64 (Int.ofNat 4)))]])
                (CC.seq (CC.cond (Opd.t 5) CC.skip (CC.exit 0))
                  (CC.seq (CC.fgt [0, 2, 4])
                    (CC.seq
                      (CC.block 1
                        (CC.seq (CC.reg none [Ins.mk (some 6) none Act.mv [Opd.t 4], Ins.mk (some 3) none Act.mv [Opd.t 6]])
                          (CC.block 2
                            (CC.seq (CC.reg none [Ins.mk (some 15) none Act.mv [Opd.t 3], Ins.mk (some 16) none Act.mv [Opd.t 0], Ins.mk (some 17) none Act.len [Opd.t 16], Ins.mk (some 18) none (Act.bin BinOp.lss (EqK.nil 10)) [Opd.t 15, Opd.t 17], Ins.mk (some 14) none Act.mv [Opd.t 18]])
                              (CC.cond (Opd.t 14)
                                (CC.reg none
                                  [Ins.mk (some 19) none Act.mv [Opd.t 3], Ins.mk (some 20) none Act.mv [Opd.t 0], Ins.mk (some 21) none Act.mv [Opd.t 3], Ins.mk (some 22) none (Act.iad 2) [Opd.t 20, Opd.t 21], Ins.mk (some 23) none (Act.load (some 2)) [Opd.t 22],
                                    Ins.mk (some 24) none (Act.iadA 4 2) [Opd.t 2, Opd.t 19], Ins.mk none none (Act.storeT 2) [Opd.t 24, Opd.t 23]])
                                (CC.reg none
                                  [Ins.mk (some 7) none Act.mv [Opd.t 3], Ins.mk (some 8) none Act.mv [Opd.t 3], Ins.mk (some 9) none (Act.bin BinOp.sub (EqK.nil 10)) [Opd.t 8, Opd.k (AV.d (DV.int IntKind.i64 (Int.ofNat 2)))],
                                    Ins.mk (some 10) none Act.max [Opd.k (AV.d (DV.int IntKind.i64 (Int.ofNat 0))), Opd.t 9], Ins.mk (some 11) none (Act.iadA 4 2) [Opd.t 2, Opd.t 10], Ins.mk (some 12) none (Act.load (some 2)) [Opd.t 11], Ins.mk (some 13) none (Act.iadA 4 2) [Opd.t 2, Opd.t 7],
                                    Ins.mk none none (Act.storeT 2) [Opd.t 13, Opd.t 12]]))))))
                      (CC.seq (CC.fgt [0, 2, 4]) (CC.reg none [Ins.mk (some 25) none (Act.bin BinOp.add (EqK.nil 10)) [Opd.t 4, Opd.k (AV.d (DV.int IntKind.i64 (Int.ofNat 1)))], Ins.mk (some 4) none Act.mv [Opd.t 25]])))))))))
        (CC.seq (CC.fgt [2]) (CC.seq (CC.reg none [Ins.mk (some 26) none (Act.load (some 8)) [Opd.t 2], Ins.mk none none (Act.storeT 8) [Opd.t 2, Opd.t 26]]) CC.ret))))
    [RV.cell 2 (some 8)]
theorem code18_ok : F0 18 = some (.code code18) := by kernel_rfl
def code8 : CFn :=
  CFn.mk
    (CC.seq
      (CC.reg none
        [Ins.mk (some 4) none (Act.new 26 [AV.d (DV.int IntKind.i64 (Int.ofNat 0)), AV.d (DV.int IntKind.i64 (Int.ofNat 0))]) [], Ins.mk (some 5) none (Act.new 26 [AV.d (DV.int IntKind.i64 (Int.ofNat 0)), AV.d (DV.int IntKind.i64 (Int.ofNat 0))]) [],
          Ins.mk (some 6) none Act.mv [Opd.k (AV.d (DV.int IntKind.i64 (Int.ofNat 0)))], Ins.mk (some 7) none Act.mv [Opd.k (AV.d (DV.int IntKind.i64 (Int.ofNat 0)))]])
      (CC.seq
        (CC.reg none
          [Ins.mk (some 10) none Act.mv [Opd.t 0], Ins.mk (some 11) none Act.mv [Opd.t 1], Ins.mk (some 12) none (Act.call false) [Opd.k (AV.fn Mode.pure 17 [] []), Opd.t 10, Opd.t 11, Opd.k (AV.d (DV.int IntKind.i64 (Int.ofNat 1))), Opd.k (AV.d (DV.int IntKind.i64 (Int.ofNat 2)))],
            Ins.mk (some 9) none Act.mv [Opd.t 12], Ins.mk (some 13) none (Act.ext 0) [Opd.t 9], Ins.mk (some 14) none (Act.ext 1) [Opd.t 9], Ins.mk (some 15) none (Act.ext 2) [Opd.t 9], Ins.mk (some 8) none Act.mv [Opd.t 13], Ins.mk (some 6) none Act.mv [Opd.t 14],
            Ins.mk (some 7) none Act.mv [Opd.t 15]])
        (CC.seq
          (CC.seq (CC.reg none [Ins.mk (some 16) none Act.mv [Opd.t 7], Ins.mk (some 17) none (Act.bin BinOp.neq (EqK.nil 10)) [Opd.t 16, Opd.k (AV.d (DV.int IntKind.i64 (Int.ofNat 0)))]])
            (CC.cond (Opd.t 17)
              (CC.seq
                (CC.reg (some [(5, 2, 4, 2)])
                  [Ins.mk (some 18) none (Act.load (some 2)) [Opd.t 4], Ins.mk (some 19) none (Act.load (some 2)) [Opd.t 5], Ins.mk (some 20) none Act.mv [Opd.t 6], Ins.mk (some 21) none Act.mv [Opd.t 7], Ins.mk none none (Act.store 2) [Opd.t 4, Opd.t 18],
                    Ins.mk none none (Act.store 2) [Opd.t 5, Opd.t 19], Ins.mk (some 6) none Act.mv [Opd.t 20], Ins.mk (some 7) none Act.mv [Opd.t 21]])
                CC.ret)
              CC.skip))
          (CC.seq (CC.fgt [4, 5, 6, 7, 8])
            (CC.seq
              (CC.reg (some [(29, 2, 4, 2)])
                [Ins.mk (some 22) none Act.mv [Opd.t 8], Ins.mk (some 23) none (Act.iad 2) [Opd.t 22, Opd.k (AV.d (DV.int IntKind.i64 (Int.ofNat 0)))], Ins.mk (some 24) none (Act.load (some 2)) [Opd.t 23], Ins.mk (some 25) none Act.mv [Opd.t 8], Ins.mk (some 26) none Act.mv [Opd.t 8],
                  Ins.mk (some 27) none Act.len [Opd.t 26], Ins.mk (some 28) none (Act.bin BinOp.sub (EqK.nil 10)) [Opd.t 27, Opd.k (AV.d (DV.int IntKind.i64 (Int.ofNat 1)))], Ins.mk (some 29) none (Act.iad 2) [Opd.t 25, Opd.t 28], Ins.mk (some 30) none (Act.load (some 2)) [Opd.t 29],
                  Ins.mk (some 31) none Act.mv [Opd.t 6], Ins.mk none none (Act.store 2) [Opd.t 4, Opd.t 24], Ins.mk none none (Act.store 2) [Opd.t 5, Opd.t 30], Ins.mk (some 6) none Act.mv [Opd.t 31], Ins.mk (some 7) none Act.mv [Opd.k (AV.d (DV.int IntKind.i64 (Int.ofNat 0)))]])
              CC.ret)))))
    [RV.cell 4 (some 2), RV.cell 5 (some 2), RV.tmp 6, RV.tmp 7]
theorem code8_ok : F0 8 = some (.code code8) := by kernel_rfl
def code22 : CFn :=
  CFn.mk
    (CC.seq (CC.reg none [Ins.mk (some 2) none Act.mv [Opd.k (AV.d (DV.str []))]])
      (CC.seq
        (CC.seq (CC.reg none [Ins.mk (some 3) none Act.mv [Opd.t 0]])
          (CC.block 0
            (CC.seq (CC.reg none [Ins.mk (some 5) none (Act.bin BinOp.eql (EqK.nil 10)) [Opd.t 3, Opd.k (AV.d (DV.int IntKind.i64 (Int.ofNat 1)))], Ins.mk (some 4) none Act.mv [Opd.t 5]])
              (CC.cond (Opd.t 4) (CC.seq (CC.reg none [Ins.mk (some 2) none Act.mv [Opd.k (AV.d (DV.str [UInt8.ofNat 97, UInt8.ofNat 117, UInt8.ofNat 116, UInt8.ofNat 111]))]]) CC.ret)
                (CC.seq (CC.reg none [Ins.mk (some 7) none (Act.bin BinOp.eql (EqK.nil 10)) [Opd.t 3, Opd.k (AV.d (DV.int IntKind.i64 (Int.ofNat 2)))], Ins.mk (some 6) none Act.mv [Opd.t 7]])
                  (CC.cond (Opd.t 6) (CC.seq (CC.reg none [Ins.mk (some 2) none Act.mv [Opd.k (AV.d (DV.str [UInt8.ofNat 110, UInt8.ofNat 111, UInt8.ofNat 114, UInt8.ofNat 109, UInt8.ofNat 97, UInt8.ofNat 108]))]]) CC.ret)
                    (CC.seq (CC.reg none [Ins.mk (some 9) none (Act.bin BinOp.eql (EqK.nil 10)) [Opd.t 3, Opd.k (AV.d (DV.int IntKind.i64 (Int.ofNat 3)))], Ins.mk (some 8) none Act.mv [Opd.t 9]])
                      (CC.cond (Opd.t 8) (CC.seq (CC.reg none [Ins.mk (some 2) none Act.mv [Opd.k (AV.d (DV.str [UInt8.ofNat 115, UInt8.ofNat 116, UInt8.ofNat 97, UInt8.ofNat 114, UInt8.ofNat 116]))]]) CC.ret)
                        (CC.seq (CC.reg none [Ins.mk (some 11) none (Act.bin BinOp.eql (EqK.nil 10)) [Opd.t 3, Opd.k (AV.d (DV.int IntKind.i64 (Int.ofNat 4)))], Ins.mk (some 10) none Act.mv [Opd.t 11]])
                          (CC.cond (Opd.t 10) (CC.seq (CC.reg none [Ins.mk (some 2) none Act.mv [Opd.k (AV.d (DV.str [UInt8.ofNat 101, UInt8.ofNat 110, UInt8.ofNat 100]))]]) CC.ret)
                            (CC.seq (CC.reg none [Ins.mk (some 13) none (Act.bin BinOp.eql (EqK.nil 10)) [Opd.t 3, Opd.k (AV.d (DV.int IntKind.i64 (Int.ofNat 5)))], Ins.mk (some 12) none Act.mv [Opd.t 13]])
                              (CC.cond (Opd.t 12) (CC.seq (CC.reg none [Ins.mk (some 2) none Act.mv [Opd.k (AV.d (DV.str [UInt8.ofNat 99, UInt8.ofNat 101, UInt8.ofNat 110, UInt8.ofNat 116, UInt8.ofNat 101, UInt8.ofNat 114]))]]) CC.ret)
                                (CC.seq (CC.reg none [Ins.mk (some 15) none (Act.bin BinOp.eql (EqK.nil 10)) [Opd.t 3, Opd.k (AV.d (DV.int IntKind.i64 (Int.ofNat 6)))], Ins.mk (some 14) none Act.mv [Opd.t 15]])
                                  (CC.cond (Opd.t 14) (CC.seq (CC.reg none [Ins.mk (some 2) none Act.mv [Opd.k (AV.d (DV.str [UInt8.ofNat 115, UInt8.ofNat 116, UInt8.ofNat 114, UInt8.ofNat 101, UInt8.ofNat 116, UInt8.ofNat 99, UInt8.ofNat 104]))]]) CC.ret)
                                    (CC.seq (CC.reg none [Ins.mk (some 17) none (Act.bin BinOp.eql (EqK.nil 10)) [Opd.t 3, Opd.k (AV.d (DV.int IntKind.i64 (Int.ofNat 7)))], Ins.mk (some 16) none Act.mv [Opd.t 17]])
                                      (CC.cond (Opd.t 16)
                                        (CC.seq
                                          (CC.reg none
                                            [Ins.mk (some 2) none Act.mv
                                                [Opd.k (AV.d (DV.str [UInt8.ofNat 115, UInt8.ofNat 112, UInt8.ofNat 97, UInt8.ofNat 99, UInt8.ofNat 101, UInt8.ofNat 45, UInt8.ofNat 98, UInt8.ofNat 101, UInt8.ofNat 116, UInt8.ofNat 119, UInt8.ofNat 101, UInt8.ofNat 101, UInt8.ofNat 110]))]])
                                          CC.ret)
                                        (CC.seq (CC.reg none [Ins.mk (some 19) none (Act.bin BinOp.eql (EqK.nil 10)) [Opd.t 3, Opd.k (AV.d (DV.int IntKind.i64 (Int.ofNat 8)))], Ins.mk (some 18) none Act.mv [Opd.t 19]])
                                          (CC.cond (Opd.t 18)
                                            (CC.seq
                                              (CC.reg none
                                                [Ins.mk (some 2) none Act.mv
                                                    [Opd.k (AV.d (DV.str [UInt8.ofNat 115, UInt8.ofNat 112, UInt8.ofNat 97, UInt8.ofNat 99, UInt8.ofNat 101, UInt8.ofNat 45, UInt8.ofNat 97, UInt8.ofNat 114, UInt8.ofNat 111, UInt8.ofNat 117, UInt8.ofNat 110, UInt8.ofNat 100]))]])
                                              CC.ret)
                                            (CC.seq (CC.reg none [Ins.mk (some 21) none (Act.bin BinOp.eql (EqK.nil 10)) [Opd.t 3, Opd.k (AV.d (DV.int IntKind.i64 (Int.ofNat 9)))], Ins.mk (some 20) none Act.mv [Opd.t 21]])
                                              (CC.cond (Opd.t 20)
                                                (CC.seq
                                                  (CC.reg none
                                                    [Ins.mk (some 2) none Act.mv
                                                        [Opd.k (AV.d (DV.str [UInt8.ofNat 115, UInt8.ofNat 112, UInt8.ofNat 97, UInt8.ofNat 99, UInt8.ofNat 101, UInt8.ofNat 45, UInt8.ofNat 101, UInt8.ofNat 118, UInt8.ofNat 101, UInt8.ofNat 110, UInt8.ofNat 108, UInt8.ofNat 121]))]])
                                                  CC.ret)
                                                CC.skip))))))))))))))))))))
        (CC.seq (CC.fgt [2]) (CC.seq (CC.reg none [Ins.mk (some 2) none Act.mv [Opd.k (AV.d (DV.str []))]]) CC.ret))))
    [RV.tmp 2]
theorem code22_ok : F0 22 = some (.code code22) := by kernel_rfl
def code23 : CFn :=
  CFn.mk
    (CC.seq (CC.reg none [Ins.mk (some 4) none Act.mv [Opd.k (AV.d (DV.bool false))]])
      (CC.seq
        (CC.seq (CC.reg none [Ins.mk (some 5) none Act.mv [Opd.t 0]])
          (CC.block 0
            (CC.seq
              (CC.block 3
                (CC.block 2
                  (CC.seq
                    (CC.block 1
                      (CC.seq
                        (CC.seq (CC.seq (CC.reg none [Ins.mk (some 7) none (Act.bin BinOp.eql (EqK.nil 10)) [Opd.t 5, Opd.k (AV.d (DV.int IntKind.i64 (Int.ofNat 1)))], Ins.mk (some 6) none Act.mv [Opd.t 7]]) (CC.cond (Opd.t 6) (CC.exit 1) CC.skip))
                          (CC.seq (CC.fgt [0, 1, 4, 5])
                            (CC.seq (CC.seq (CC.reg none [Ins.mk (some 9) none (Act.bin BinOp.eql (EqK.nil 10)) [Opd.t 5, Opd.k (AV.d (DV.int IntKind.i64 (Int.ofNat 7)))], Ins.mk (some 8) none Act.mv [Opd.t 9]]) (CC.cond (Opd.t 8) (CC.exit 2) CC.skip))
                              (CC.seq (CC.fgt [0, 1, 4, 5])
                                (CC.seq
                                  (CC.seq (CC.reg none [Ins.mk (some 11) none (Act.bin BinOp.eql (EqK.nil 10)) [Opd.t 5, Opd.k (AV.d (DV.int IntKind.i64 (Int.ofNat 8)))], Ins.mk (some 10) none Act.mv [Opd.t 11]])
                                    (CC.cond (Opd.t 10) CC.skip (CC.reg none [Ins.mk (some 12) none (Act.bin BinOp.eql (EqK.nil 10)) [Opd.t 5, Opd.k (AV.d (DV.int IntKind.i64 (Int.ofNat 9)))], Ins.mk (some 10) none Act.mv [Opd.t 12]])))
                                  (CC.seq (CC.fgt [0, 1, 4, 10]) (CC.cond (Opd.t 10) (CC.exit 3) CC.skip)))))))
                        (CC.seq (CC.fgt [0, 1, 4]) (CC.exit 0))))
                    (CC.seq (CC.fgt [1, 4]) (CC.seq (CC.seq (CC.reg none [Ins.mk (some 13) none Act.mv [Opd.t 1], Ins.mk (some 14) none (Act.bin BinOp.eql (EqK.nil 10)) [Opd.t 13, Opd.k (AV.d (DV.int IntKind.i64 (Int.ofNat 1)))], Ins.mk (some 4) none Act.mv [Opd.t 14]]) CC.ret) (CC.exit 0))))))
              (CC.seq (CC.fgt [1, 4]) (CC.seq (CC.seq (CC.reg none [Ins.mk (some 15) none Act.mv [Opd.t 1], Ins.mk (some 16) none (Act.bin BinOp.eql (EqK.nil 10)) [Opd.t 15, Opd.k (AV.d (DV.int IntKind.i64 (Int.ofNat 3)))], Ins.mk (some 4) none Act.mv [Opd.t 16]]) CC.ret) (CC.exit 0))))))
        (CC.seq (CC.fgt [0, 1, 4])
          (CC.seq
            (CC.reg none
              [Ins.mk (some 17) none Act.mv [Opd.t 0], Ins.mk (some 18) none (Act.call false) [Opd.k (AV.fn Mode.pure 22 [] []), Opd.t 17], Ins.mk (some 19) none (Act.bin BinOp.neq (EqK.nil 10)) [Opd.t 18, Opd.k (AV.d (DV.str []))], Ins.mk (some 20) none Act.mv [Opd.t 19],
                Ins.mk (some 21) (some (20, true)) Act.mv [Opd.t 1], Ins.mk (some 22) (some (20, true)) (Act.bin BinOp.geq (EqK.nil 10)) [Opd.t 21, Opd.k (AV.d (DV.int IntKind.i64 (Int.ofNat 1)))], Ins.mk (some 23) none Act.pick [Opd.t 20, Opd.t 22, Opd.k (AV.d (DV.bool false))],
                Ins.mk (some 24) none Act.mv [Opd.t 23], Ins.mk (some 25) (some (24, true)) Act.mv [Opd.t 1], Ins.mk (some 26) (some (24, true)) (Act.bin BinOp.leq (EqK.nil 10)) [Opd.t 25, Opd.k (AV.d (DV.int IntKind.i64 (Int.ofNat 3)))],
                Ins.mk (some 27) none Act.pick [Opd.t 24, Opd.t 26, Opd.k (AV.d (DV.bool false))], Ins.mk (some 4) none Act.mv [Opd.t 27]])
            CC.ret))))
    [RV.tmp 4]
theorem code23_ok : F0 23 = some (.code code23) := by kernel_rfl
def code10 : CFn :=
  CFn.mk
    (CC.seq (CC.reg none [Ins.mk (some 6) none Act.mv [Opd.k (AV.d (DV.int IntKind.i64 (Int.ofNat 0)))], Ins.mk (some 7) none Act.mv [Opd.k (AV.d (DV.int IntKind.i64 (Int.ofNat 0)))], Ins.mk (some 8) none Act.mv [Opd.k (AV.d (DV.int IntKind.i64 (Int.ofNat 0)))]])
      (CC.seq
        (CC.seq (CC.reg none [Ins.mk (some 9) none Act.mv [Opd.k (AV.d (DV.int IntKind.i64 (Int.ofNat 1)))]])
          (CC.block 0
            (CC.loop [0, 1, 2, 6, 7, 8, 9]
              (CC.seq (CC.seq (CC.reg none [Ins.mk (some 14) none Act.mv [Opd.t 9], Ins.mk (some 15) none (Act.bin BinOp.leq (EqK.nil 10)) [Opd.t 14, Opd.k (AV.d (DV.int IntKind.i64 (Int.ofNat 9)))]]) (CC.cond (Opd.t 15) CC.skip (CC.exit 0)))
                (CC.seq (CC.fgt [0, 1, 2, 6, 7, 8, 9])
                  (CC.seq
                    (CC.block 1
                      (CC.seq
                        (CC.reg none
                          [Ins.mk (some 19) none Act.mv [Opd.t 0], Ins.mk (some 20) none Act.mv [Opd.t 1], Ins.mk (some 21) none Act.mv [Opd.t 9], Ins.mk (some 22) none (Act.call false) [Opd.k (AV.fn Mode.pure 22 [] []), Opd.t 21], Ins.mk (some 23) none (Act.bslT 9 1 [DV.str []] 1 [0]) [Opd.t 22],
                            Ins.mk (some 24) none (Act.call false) [Opd.k (AV.fn Mode.pure 21 [] []), Opd.t 19, Opd.t 20, Opd.t 23], Ins.mk (some 18) none Act.mv [Opd.t 24], Ins.mk (some 25) none (Act.ext 0) [Opd.t 18], Ins.mk (some 26) none (Act.ext 1) [Opd.t 18],
                            Ins.mk (some 10) none Act.mv [Opd.t 25], Ins.mk (some 11) none Act.mv [Opd.t 26]])
                        (CC.seq
                          (CC.reg none
                            [Ins.mk (some 27) none Act.mv [Opd.t 10], Ins.mk (some 28) none (Act.bin BinOp.eql (EqK.nil 10)) [Opd.t 27, Opd.k (AV.d (DV.int IntKind.i64 (Int.ofNat 0)))], Ins.mk (some 29) none Act.mv [Opd.t 28], Ins.mk (some 30) (some (29, true)) Act.mv [Opd.t 9],
                              Ins.mk (some 31) (some (29, true)) Act.mv [Opd.t 2], Ins.mk (some 32) (some (29, true)) (Act.call false) [Opd.k (AV.fn Mode.pure 23 [] []), Opd.t 30, Opd.t 31], Ins.mk (some 33) none Act.pick [Opd.t 29, Opd.t 32, Opd.k (AV.d (DV.bool false))]])
                          (CC.cond (Opd.t 33)
                            (CC.seq (CC.reg none [Ins.mk (some 34) none Act.mv [Opd.t 9], Ins.mk (some 35) none Act.mv [Opd.t 11], Ins.mk (some 6) none Act.mv [Opd.t 34], Ins.mk (some 7) none Act.mv [Opd.t 35], Ins.mk (some 8) none Act.mv [Opd.k (AV.d (DV.int IntKind.i64 (Int.ofNat 0)))]]) CC.ret)
                            CC.skip))))
                    (CC.seq (CC.fgt [0, 1, 2, 6, 7, 8, 9]) (CC.reg none [Ins.mk (some 16) none Act.mv [Opd.t 9], Ins.mk (some 17) none (Act.bin BinOp.add (EqK.nil 10)) [Opd.t 16, Opd.k (AV.d (DV.int IntKind.i64 (Int.ofNat 1)))], Ins.mk (some 9) none Act.mv [Opd.t 17]]))))))))
        (CC.seq (CC.fgt [0, 1, 6, 7, 8])
          (CC.seq
            (CC.seq
              (CC.reg none
                [Ins.mk (some 37) none Act.mv [Opd.t 0], Ins.mk (some 38) none Act.mv [Opd.t 1],
                  Ins.mk (some 39) none (Act.bslT 9 1 [DV.str []] 16 [0, 1, 2, 3, 4, 5, 6, 7, 8, 9, 10, 11, 12, 13, 14, 15])
                    [Opd.k (AV.d (DV.str [UInt8.ofNat 98, UInt8.ofNat 97, UInt8.ofNat 115, UInt8.ofNat 101, UInt8.ofNat 108, UInt8.ofNat 105, UInt8.ofNat 110, UInt8.ofNat 101])), Opd.k (AV.d (DV.str [UInt8.ofNat 102, UInt8.ofNat 105, UInt8.ofNat 114, UInt8.ofNat 115, UInt8.ofNat 116])),
                      Opd.k (AV.d (DV.str [UInt8.ofNat 108, UInt8.ofNat 97, UInt8.ofNat 115, UInt8.ofNat 116])), Opd.k (AV.d (DV.str [UInt8.ofNat 115, UInt8.ofNat 97, UInt8.ofNat 102, UInt8.ofNat 101])),
                      Opd.k (AV.d (DV.str [UInt8.ofNat 117, UInt8.ofNat 110, UInt8.ofNat 115, UInt8.ofNat 97, UInt8.ofNat 102, UInt8.ofNat 101])), Opd.k (AV.d (DV.str [UInt8.ofNat 108, UInt8.ofNat 101, UInt8.ofNat 102, UInt8.ofNat 116])),
                      Opd.k (AV.d (DV.str [UInt8.ofNat 114, UInt8.ofNat 105, UInt8.ofNat 103, UInt8.ofNat 104, UInt8.ofNat 116])),
                      Opd.k (AV.d (DV.str [UInt8.ofNat 102, UInt8.ofNat 108, UInt8.ofNat 101, UInt8.ofNat 120, UInt8.ofNat 45, UInt8.ofNat 115, UInt8.ofNat 116, UInt8.ofNat 97, UInt8.ofNat 114, UInt8.ofNat 116])),
                      Opd.k (AV.d (DV.str [UInt8.ofNat 102, UInt8.ofNat 108, UInt8.ofNat 101, UInt8.ofNat 120, UInt8.ofNat 45, UInt8.ofNat 101, UInt8.ofNat 110, UInt8.ofNat 100])),
                      Opd.k (AV.d (DV.str [UInt8.ofNat 115, UInt8.ofNat 101, UInt8.ofNat 108, UInt8.ofNat 102, UInt8.ofNat 45, UInt8.ofNat 115, UInt8.ofNat 116, UInt8.ofNat 97, UInt8.ofNat 114, UInt8.ofNat 116])),
                      Opd.k (AV.d (DV.str [UInt8.ofNat 115, UInt8.ofNat 101, UInt8.ofNat 108, UInt8.ofNat 102, UInt8.ofNat 45, UInt8.ofNat 101, UInt8.ofNat 110, UInt8.ofNat 100])),
                      Opd.k (AV.d (DV.str [UInt8.ofNat 108, UInt8.ofNat 101, UInt8.ofNat 103, UInt8.ofNat 97, UInt8.ofNat 99, UInt8.ofNat 121])), Opd.k (AV.d (DV.str [UInt8.ofNat 105, UInt8.ofNat 110, UInt8.ofNat 104, UInt8.ofNat 101, UInt8.ofNat 114, UInt8.ofNat 105, UInt8.ofNat 116])),
                      Opd.k (AV.d (DV.str [UInt8.ofNat 105, UInt8.ofNat 110, UInt8.ofNat 105, UInt8.ofNat 116, UInt8.ofNat 105, UInt8.ofNat 97, UInt8.ofNat 108])), Opd.k (AV.d (DV.str [UInt8.ofNat 117, UInt8.ofNat 110, UInt8.ofNat 115, UInt8.ofNat 101, UInt8.ofNat 116])),
                      Opd.k (AV.d (DV.str [UInt8.ofNat 114, UInt8.ofNat 101, UInt8.ofNat 118, UInt8.ofNat 101, UInt8.ofNat 114, UInt8.ofNat 116]))],
                  Ins.mk (some 40) none (Act.call false) [Opd.k (AV.fn Mode.pure 21 [] []), Opd.t 37, Opd.t 38, Opd.t 39], Ins.mk (some 36) none Act.mv [Opd.t 40], Ins.mk (some 41) none (Act.ext 0) [Opd.t 36], Ins.mk (some 42) none (Act.ext 1) [Opd.t 36], Ins.mk (some 12) none Act.mv [Opd.t 41],
                  Ins.mk (some 13) none Act.mv [Opd.t 42]])
              (CC.seq (CC.reg none [Ins.mk (some 43) none Act.mv [Opd.t 12], Ins.mk (some 44) none (Act.bin BinOp.geq (EqK.nil 10)) [Opd.t 43, Opd.k (AV.d (DV.int IntKind.i64 (Int.ofNat 0)))]])
                (CC.cond (Opd.t 44)
                  (CC.seq (CC.reg none [Ins.mk (some 45) none Act.mv [Opd.t 1], Ins.mk (some 6) none Act.mv [Opd.k (AV.d (DV.int IntKind.i64 (Int.ofNat 0)))], Ins.mk (some 7) none Act.mv [Opd.t 45], Ins.mk (some 8) none Act.mv [Opd.k (AV.d (DV.int IntKind.i64 (Int.ofNat 51)))]]) CC.ret) CC.skip)))
            (CC.seq (CC.fgt [1, 6, 7, 8])
              (CC.seq (CC.reg none [Ins.mk (some 46) none Act.mv [Opd.t 1], Ins.mk (some 6) none Act.mv [Opd.k (AV.d (DV.int IntKind.i64 (Int.ofNat 0)))], Ins.mk (some 7) none Act.mv [Opd.t 46], Ins.mk (some 8) none Act.mv [Opd.k (AV.d (DV.int IntKind.i64 (Int.ofNat 50)))]]) CC.ret))))))
    [RV.tmp 6, RV.tmp 7, RV.tmp 8]
theorem code10_ok : F0 10 = some (.code code10) := by kernel_rfl
def code12 : CFn :=
  CFn.mk
    (CC.seq (CC.reg none [Ins.mk (some 4) none Act.mv [Opd.k (AV.d (DV.int IntKind.i64 (Int.ofNat 0)))], Ins.mk (some 5) none Act.mv [Opd.k (AV.d (DV.int IntKind.i64 (Int.ofNat 0)))], Ins.mk (some 6) none Act.mv [Opd.k (AV.d (DV.int IntKind.i64 (Int.ofNat 0)))]])
      (CC.seq
        (CC.reg none
          [Ins.mk (some 11) none Act.mv [Opd.t 0], Ins.mk (some 12) none Act.mv [Opd.t 1], Ins.mk (some 13) none (Act.call false) [Opd.k (AV.fn Mode.pure 27 [] []), Opd.t 11, Opd.t 12], Ins.mk (some 10) none Act.mv [Opd.t 13], Ins.mk (some 14) none (Act.ext 0) [Opd.t 10],
            Ins.mk (some 15) none (Act.ext 1) [Opd.t 10], Ins.mk (some 16) none (Act.ext 2) [Opd.t 10], Ins.mk (some 7) none Act.mv [Opd.t 14], Ins.mk (some 8) none Act.mv [Opd.t 15], Ins.mk (some 9) none Act.mv [Opd.t 16]])
        (CC.seq
          (CC.seq
            (CC.reg none
              [Ins.mk (some 17) none Act.mv [Opd.t 9], Ins.mk (some 18) none (Act.bin BinOp.eql (EqK.nil 10)) [Opd.t 17, Opd.k (AV.d (DV.int IntKind.i64 (Int.ofNat 10)))], Ins.mk (some 19) none Act.mv [Opd.t 18], Ins.mk (some 20) (some (19, false)) Act.mv [Opd.t 7],
                Ins.mk (some 21) (some (19, false)) (Act.call false) [Opd.k (AV.fn Mode.pure 28 [] []), Opd.t 20, Opd.k (AV.d (DV.int IntKind.i64 (Int.negSucc 1048575))), Opd.k (AV.d (DV.int IntKind.i64 (Int.ofNat 1048576)))], Ins.mk (some 22) (some (19, false)) Act.mv [Opd.t 7],
                Ins.mk (some 23) (some (19, false)) (Act.bin BinOp.neq (EqK.nil 10)) [Opd.t 21, Opd.t 22], Ins.mk (some 24) none Act.pick [Opd.t 19, Opd.k (AV.d (DV.bool true)), Opd.t 23]])
            (CC.cond (Opd.t 24) (CC.seq (CC.reg none [Ins.mk (some 25) none Act.mv [Opd.t 1], Ins.mk (some 4) none Act.mv [Opd.k (AV.d (DV.int IntKind.i64 (Int.ofNat 0)))], Ins.mk (some 5) none Act.mv [Opd.t 25], Ins.mk (some 6) none Act.mv [Opd.k (AV.d (DV.int IntKind.i64 (Int.ofNat 52)))]]) CC.ret)
              CC.skip))
          (CC.seq (CC.fgt [4, 5, 6, 7, 8, 9])
            (CC.seq (CC.reg none [Ins.mk (some 26) none Act.mv [Opd.t 7], Ins.mk (some 27) none Act.mv [Opd.t 8], Ins.mk (some 28) none Act.mv [Opd.t 9], Ins.mk (some 4) none Act.mv [Opd.t 26], Ins.mk (some 5) none Act.mv [Opd.t 27], Ins.mk (some 6) none Act.mv [Opd.t 28]]) CC.ret)))))
    [RV.tmp 4, RV.tmp 5, RV.tmp 6]
theorem code12_ok : F0 12 = some (.code code12) := by kernel_rfl
def code28 : CFn :=
  CFn.mk
    (CC.seq (CC.reg none [Ins.mk (some 6) none Act.mv [Opd.k (AV.d (DV.int IntKind.i64 (Int.ofNat 0)))]])
      (CC.seq (CC.reg none [Ins.mk (some 7) none Act.mv [Opd.t 1], Ins.mk (some 8) none Act.mv [Opd.t 0], Ins.mk (some 9) none Act.mv [Opd.t 2], Ins.mk (some 10) none Act.min [Opd.t 8, Opd.t 9], Ins.mk (some 11) none Act.max [Opd.t 7, Opd.t 10], Ins.mk (some 6) none Act.mv [Opd.t 11]]) CC.ret))
    [RV.tmp 6]
theorem code28_ok : F0 28 = some (.code code28) := by kernel_rfl
def code38 : CFn :=
  CFn.mk
    (CC.seq (CC.reg none [Ins.mk (some 4) none Act.mv [Opd.k (AV.d (DV.bool false))]])
      (CC.seq
        (CC.reg none
          [Ins.mk (some 5) none Act.mv [Opd.t 0], Ins.mk (some 6) none Act.mv [Opd.t 1], Ins.mk (some 7) none (Act.call false) [Opd.k (AV.fn Mode.pure 54 [] []), Opd.t 5, Opd.t 6], Ins.mk (some 8) none (Act.bin BinOp.geq (EqK.nil 10)) [Opd.t 7, Opd.k (AV.d (DV.int IntKind.i64 (Int.ofNat 0)))],
            Ins.mk (some 4) none Act.mv [Opd.t 8]])
        CC.ret))
    [RV.tmp 4]
theorem code38_ok : F0 38 = some (.code code38) := by kernel_rfl
def code54 : CFn :=
  CFn.mk
    (CC.seq (CC.reg none [Ins.mk (some 4) none Act.mv [Opd.k (AV.d (DV.int IntKind.i64 (Int.ofNat 0)))]])
      (CC.seq (CC.reg none [Ins.mk (some 5) none Act.mv [Opd.t 0], Ins.mk (some 6) none Act.mv [Opd.t 1], Ins.mk (some 7) none (Act.call false) [Opd.k (AV.fn Mode.pure 80 [] []), Opd.t 5, Opd.t 6], Ins.mk (some 4) none Act.mv [Opd.t 7]]) CC.ret))
    [RV.tmp 4]
theorem code54_ok : F0 54 = some (.code code54) := by kernel_rfl
def code72 : CFn :=
  CFn.mk
    (CC.seq (CC.reg none [Ins.mk (some 4) none Act.mv [Opd.k (AV.d (DV.str []))]])
      (CC.seq
        (CC.seq
          (CC.reg none
            [Ins.mk (some 7) none Act.mv [Opd.t 0], Ins.mk (some 8) none (Act.bin BinOp.eql (EqK.nil 10)) [Opd.t 7, Opd.k (AV.d (DV.str []))], Ins.mk (some 9) none Act.mv [Opd.t 8], Ins.mk (some 10) (some (9, false)) Act.mv [Opd.t 1],
              Ins.mk (some 11) (some (9, false)) (Act.bin BinOp.eql (EqK.nil 10)) [Opd.t 10, Opd.k (AV.d (DV.str []))], Ins.mk (some 12) none Act.pick [Opd.t 9, Opd.k (AV.d (DV.bool true)), Opd.t 11]])
          (CC.cond (Opd.t 12) (CC.seq (CC.reg none [Ins.mk (some 13) none Act.mv [Opd.t 0], Ins.mk (some 4) none Act.mv [Opd.t 13]]) CC.ret) CC.skip))
        (CC.seq (CC.fgt [0, 1, 4])
          (CC.seq
            (CC.seq
              (CC.reg none
                [Ins.mk (some 14) none Act.mv [Opd.t 1], Ins.mk (some 15) none Act.lens [Opd.t 14], Ins.mk (some 16) none (Act.bin BinOp.eql (EqK.nil 10)) [Opd.t 15, Opd.k (AV.d (DV.int IntKind.i64 (Int.ofNat 1)))], Ins.mk (some 17) none Act.mv [Opd.t 16],
                  Ins.mk (some 18) (some (17, true)) Act.mv [Opd.t 1], Ins.mk (some 19) (some (17, true)) Act.idxs [Opd.t 18, Opd.k (AV.d (DV.int IntKind.i64 (Int.ofNat 0)))],
                  Ins.mk (some 20) (some (17, true)) (Act.bin BinOp.lss (EqK.nil 10)) [Opd.t 19, Opd.k (AV.d (DV.int IntKind.u8 (Int.ofNat 128)))], Ins.mk (some 21) none Act.pick [Opd.t 17, Opd.t 20, Opd.k (AV.d (DV.bool false))]])
              (CC.cond (Opd.t 21)
                (CC.seq
                  (CC.reg (some [])
                    [Ins.mk (some 22) none Act.mv [Opd.t 0], Ins.mk (some 23) none Act.mv [Opd.t 1], Ins.mk (some 24) none Act.idxs [Opd.t 23, Opd.k (AV.d (DV.int IntKind.i64 (Int.ofNat 0)))], Ins.mk (some 25) none (Act.call true) [Opd.k (AV.fn Mode.pure 102 [] []), Opd.t 22, Opd.t 24],
                      Ins.mk (some 26) none Act.mv [Opd.t 1], Ins.mk (some 27) none Act.idxs [Opd.t 26, Opd.k (AV.d (DV.int IntKind.i64 (Int.ofNat 0)))], Ins.mk (some 28) none (Act.call true) [Opd.k (AV.fn Mode.pure 101 [] []), Opd.t 25, Opd.t 27], Ins.mk (some 4) none Act.mv [Opd.t 28]])
                  CC.ret)
                CC.skip))
            (CC.seq (CC.fgt [0, 1, 4])
              (CC.seq
                (CC.seq
                  (CC.reg none
                    [Ins.mk (some 30) none Act.mv [Opd.t 1], Ins.mk (some 31) none (Act.call false) [Opd.k (AV.fn Mode.pure 103 [] []), Opd.t 30], Ins.mk (some 29) none Act.mv [Opd.t 31], Ins.mk (some 32) none (Act.ext 0) [Opd.t 29], Ins.mk (some 33) none (Act.ext 1) [Opd.t 29],
                      Ins.mk (some 5) none
                        (Act.new 131
                          [AV.d (DV.bool false), AV.d (DV.bool false), AV.d (DV.bool false), AV.d (DV.bool false), AV.d (DV.bool false), AV.d (DV.bool false), AV.d (DV.bool false), AV.d (DV.bool false), AV.d (DV.bool false), AV.d (DV.bool false), AV.d (DV.bool false), AV.d (DV.bool false),
                            AV.d (DV.bool false), AV.d (DV.bool false), AV.d (DV.bool false), AV.d (DV.bool false), AV.d (DV.bool false), AV.d (DV.bool false), AV.d (DV.bool false), AV.d (DV.bool false), AV.d (DV.bool false), AV.d (DV.bool false), AV.d (DV.bool false), AV.d (DV.bool false),
                            AV.d (DV.bool false), AV.d (DV.bool false), AV.d (DV.bool false), AV.d (DV.bool false), AV.d (DV.bool false), AV.d (DV.bool false), AV.d (DV.bool false), AV.d (DV.bool false), AV.d (DV.bool false), AV.d (DV.bool false), AV.d (DV.bool false), AV.d (DV.bool false),
                            AV.d (DV.bool false), AV.d (DV.bool false), AV.d (DV.bool false), AV.d (DV.bool false), AV.d (DV.bool false), AV.d (DV.bool false), AV.d (DV.bool false), AV.d (DV.bool false), AV.d (DV.bool false), AV.d (DV.bool false), AV.d (DV.bool false), AV.d (DV.bool false),
                            AV.d (DV.bool false), AV.d (DV.bool false), AV.d (DV.bool false), AV.d (DV.bool false), AV.d (DV.bool false), AV.d (DV.bool false), AV.d (DV.bool false), AV.d (DV.bool false), AV.d (DV.bool false), AV.d (DV.bool false), AV.d (DV.bool false), AV.d (DV.bool false),
                            AV.d (DV.bool false), AV.d (DV.bool false), AV.d (DV.bool false), AV.d (DV.bool false), AV.d (DV.bool false), AV.d (DV.bool false), AV.d (DV.bool false), AV.d (DV.bool false), AV.d (DV.bool false), AV.d (DV.bool false), AV.d (DV.bool false), AV.d (DV.bool false),
                            AV.d (DV.bool false), AV.d (DV.bool false), AV.d (DV.bool false), AV.d (DV.bool false), AV.d (DV.bool false), AV.d (DV.bool false), AV.d (DV.bool false), AV.d (DV.bool false), AV.d (DV.bool false), AV.d (DV.bool false), AV.d (DV.bool false), AV.d (DV.bool false),
                            AV.d (DV.bool false), AV.d (DV.bool false), AV.d (DV.bool false), AV.d (DV.bool false), AV.d (DV.bool false), AV.d (DV.bool false), AV.d (DV.bool false), AV.d (DV.bool false), AV.d (DV.bool false), AV.d (DV.bool false), AV.d (DV.bool false), AV.d (DV.bool false),
                            AV.d (DV.bool false), AV.d (DV.bool false), AV.d (DV.bool false), AV.d (DV.bool false), AV.d (DV.bool false), AV.d (DV.bool false), AV.d (DV.bool false), AV.d (DV.bool false), AV.d (DV.bool false), AV.d (DV.bool false), AV.d (DV.bool false), AV.d (DV.bool false),
                            AV.d (DV.bool false), AV.d (DV.bool false), AV.d (DV.bool false), AV.d (DV.bool false), AV.d (DV.bool false), AV.d (DV.bool false), AV.d (DV.bool false), AV.d (DV.bool false), AV.d (DV.bool false), AV.d (DV.bool false), AV.d (DV.bool false), AV.d (DV.bool false),
                            AV.d (DV.bool false), AV.d (DV.bool false), AV.d (DV.bool false), AV.d (DV.bool false), AV.d (DV.bool false), AV.d (DV.bool false), AV.d (DV.bool false), AV.d (DV.bool false), AV.d (DV.bool false), AV.d (DV.bool false), AV.d (DV.bool false), AV.d (DV.bool false),
                            AV.d (DV.bool false), AV.d (DV.bool false), AV.d (DV.bool false), AV.d (DV.bool false), AV.d (DV.bool false), AV.d (DV.bool false), AV.d (DV.bool false), AV.d (DV.bool false), AV.d (DV.bool false), AV.d (DV.bool false), AV.d (DV.bool false), AV.d (DV.bool false),
                            AV.d (DV.bool false), AV.d (DV.bool false), AV.d (DV.bool false), AV.d (DV.bool false), AV.d (DV.bool false), AV.d (DV.bool false), AV.d (DV.bool false), AV.d (DV.bool false), AV.d (DV.bool false), AV.d (DV.bool false), AV.d (DV.bool false), AV.d (DV.bool false),
                            AV.d (DV.bool false), AV.d (DV.bool false), AV.d (DV.bool false), AV.d (DV.bool false), AV.d (DV.bool false), AV.d (DV.bool false), AV.d (DV.bool false), AV.d (DV.bool false), AV.d (DV.bool false), AV.d (DV.bool false), AV.d (DV.bool false), AV.d (DV.bool false),
                            AV.d (DV.bool false), AV.d (DV.bool false), AV.d (DV.bool false), AV.d (DV.bool false), AV.d (DV.bool false), AV.d (DV.bool false), AV.d (DV.bool false), AV.d (DV.bool false), AV.d (DV.bool false), AV.d (DV.bool false), AV.d (DV.bool false), AV.d (DV.bool false),
                            AV.d (DV.bool false), AV.d (DV.bool false), AV.d (DV.bool false), AV.d (DV.bool false), AV.d (DV.bool false), AV.d (DV.bool false), AV.d (DV.bool false), AV.d (DV.bool false), AV.d (DV.bool false), AV.d (DV.bool false), AV.d (DV.bool false), AV.d (DV.bool false),
                            AV.d (DV.bool false), AV.d (DV.bool false), AV.d (DV.bool false), AV.d (DV.bool false), AV.d (DV.bool false), AV.d (DV.bool false), AV.d (DV.bool false), AV.d (DV.bool false), AV.d (DV.bool false), AV.d (DV.bool false), AV.d (DV.bool false), AV.d (DV.bool false),
                            AV.d (DV.bool false), AV.d (DV.bool false), AV.d (DV.bool false), AV.d (DV.bool false), AV.d (DV.bool false), AV.d (DV.bool false), AV.d (DV.bool false), AV.d (DV.bool false), AV.d (DV.bool false), AV.d (DV.bool false), AV.d (DV.bool false), AV.d (DV.bool false),
                            AV.d (DV.bool false), AV.d (DV.bool false), AV.d (DV.bool false), AV.d (DV.bool false), AV.d (DV.bool false), AV.d (DV.bool false), AV.d (DV.bool false), AV.d (DV.bool false), AV.d (DV.bool false), AV.d (DV.bool false), AV.d (DV.bool false), AV.d (DV.bool false),
                            AV.d (DV.bool false), AV.d (DV.bool false), AV.d (DV.bool false), AV.d (DV.bool false), AV.d (DV.bool false), AV.d (DV.bool false), AV.d (DV.bool false), AV.d (DV.bool false), AV.d (DV.bool false), AV.d (DV.bool false), AV.d (DV.bool false), AV.d (DV.bool false),
                            AV.d (DV.bool false), AV.d (DV.bool false), AV.d (DV.bool false), AV.d (DV.bool false), AV.d (DV.bool false), AV.d (DV.bool false), AV.d (DV.bool false), AV.d (DV.bool false), AV.d (DV.bool false), AV.d (DV.bool false), AV.d (DV.bool false), AV.d (DV.bool false),
                            AV.d (DV.bool false), AV.d (DV.bool false), AV.d (DV.bool false), AV.d (DV.bool false)])
                        [],
                      Ins.mk none none (Act.storeT 256) [Opd.t 5, Opd.t 32], Ins.mk (some 6) none Act.mv [Opd.t 33]])
                  (CC.seq (CC.reg none [Ins.mk (some 34) none Act.mv [Opd.t 6]])
                    (CC.cond (Opd.t 34)
                      (CC.seq
                        (CC.reg none
                          [Ins.mk (some 35) none Act.mv [Opd.t 0], Ins.mk (some 36) none (Act.call false) [Opd.k (AV.fn Mode.drop 105 [] []), Opd.t 35, Opd.t 5], Ins.mk (some 37) none (Act.call false) [Opd.k (AV.fn Mode.drop 104 [] []), Opd.t 36, Opd.t 5], Ins.mk (some 4) none Act.mv [Opd.t 37]])
                        CC.ret)
                      CC.skip)))
                (CC.seq (CC.fgt [0, 1, 4])
                  (CC.seq
                    (CC.reg none
                      [Ins.mk (some 38) none Act.mv [Opd.t 0], Ins.mk (some 39) none Act.mv [Opd.t 1], Ins.mk (some 40) none (Act.call false) [Opd.k (AV.fn Mode.pure 107 [] []), Opd.t 38, Opd.t 39], Ins.mk (some 41) none Act.mv [Opd.t 1],
                        Ins.mk (some 42) none (Act.call false) [Opd.k (AV.fn Mode.pure 106 [] []), Opd.t 40, Opd.t 41], Ins.mk (some 4) none Act.mv [Opd.t 42]])
                    CC.ret))))))))
    [RV.tmp 4]
theorem code72_ok : F0 72 = some (.code code72) := by kernel_rfl
def code71 : CFn :=
  CFn.mk
    (CC.seq (CC.reg none [Ins.mk (some 4) none Act.mv [Opd.k (AV.d (DV.str []))], Ins.mk (some 5) none Act.mv [Opd.k (AV.d (DV.str []))], Ins.mk (some 6) none Act.mv [Opd.k (AV.d (DV.bool false))]])
      (CC.seq
        (CC.reg none
          [Ins.mk (some 7) none Act.mv [Opd.t 0], Ins.mk (some 8) none Act.mv [Opd.t 1], Ins.mk (some 9) none (Act.call false) [Opd.k (AV.fn Mode.pure 100 [] []), Opd.t 7, Opd.t 8], Ins.mk (some 10) none (Act.ext 0) [Opd.t 9], Ins.mk (some 11) none (Act.ext 1) [Opd.t 9],
            Ins.mk (some 12) none (Act.ext 2) [Opd.t 9], Ins.mk (some 4) none Act.mv [Opd.t 10], Ins.mk (some 5) none Act.mv [Opd.t 11], Ins.mk (some 6) none Act.mv [Opd.t 12]])
        CC.ret))
    [RV.tmp 4, RV.tmp 5, RV.tmp 6]
theorem code71_ok : F0 71 = some (.code code71) := by kernel_rfl
def code4 : CFn :=
  CFn.mk
    (CC.seq (CC.reg none [Ins.mk (some 2) none Act.mv [Opd.k (AV.d (DV.bool false))]])
      (CC.seq
        (CC.seq (CC.reg none [Ins.mk (some 5) none Act.mv [Opd.t 0], Ins.mk (some 6) none Act.len [Opd.t 5], Ins.mk (some 7) none (Act.bin BinOp.gtr (EqK.nil 10)) [Opd.t 6, Opd.k (AV.d (DV.int IntKind.i64 (Int.ofNat 1200)))]])
          (CC.cond (Opd.t 7) (CC.seq (CC.reg none [Ins.mk (some 2) none Act.mv [Opd.k (AV.d (DV.bool false))]]) CC.ret) CC.skip))
        (CC.seq (CC.fgt [0, 2])
          (CC.seq
            (CC.seq (CC.reg none [Ins.mk (some 8) none Act.mv [Opd.t 0], Ins.mk (some 9) none Act.len [Opd.t 8], Ins.mk (some 10) none Act.mv [Opd.k (AV.d (DV.int IntKind.i64 (Int.ofNat 0)))]])
              (CC.block 0
                (CC.loop [2, 8, 9, 10]
                  (CC.seq (CC.reg none [Ins.mk (some 11) none (Act.bin BinOp.lss (EqK.nil 10)) [Opd.t 10, Opd.t 9]])
                    (CC.seq (CC.cond (Opd.t 11) CC.skip (CC.exit 0))
                      (CC.seq (CC.fgt [2, 8, 9, 10])
                        (CC.seq
                          (CC.block 1
                            (CC.seq
                              (CC.reg none
                                [Ins.mk (some 12) none (Act.iad 4) [Opd.t 8, Opd.t 10], Ins.mk (some 13) none (Act.load (some 4)) [Opd.t 12], Ins.mk (some 4) none (Act.new 45 [AV.d (DV.int IntKind.i64 (Int.ofNat 0)), AV.d (DV.int IntKind.i64 (Int.ofNat 0)), AV.d (DV.str []), AV.d (DV.str [])]) [],
                                  Ins.mk none none (Act.storeT 4) [Opd.t 4, Opd.t 13]])
                              (CC.seq
                                (CC.reg none
                                  [Ins.mk (some 14) none (Act.fad 3) [Opd.t 4], Ins.mk (some 15) none (Act.load none) [Opd.t 14], Ins.mk (some 16) none Act.lens [Opd.t 15], Ins.mk (some 17) none (Act.bin BinOp.gtr (EqK.nil 10)) [Opd.t 16, Opd.k (AV.d (DV.int IntKind.i64 (Int.ofNat 400)))],
                                    Ins.mk (some 18) none Act.mv [Opd.t 17], Ins.mk (some 19) (some (18, false)) (Act.fad 2) [Opd.t 4], Ins.mk (some 20) (some (18, false)) (Act.load none) [Opd.t 19], Ins.mk (some 21) (some (18, false)) Act.lens [Opd.t 20],
                                    Ins.mk (some 22) (some (18, false)) (Act.bin BinOp.gtr (EqK.nil 10)) [Opd.t 21, Opd.k (AV.d (DV.int IntKind.i64 (Int.ofNat 400)))], Ins.mk (some 23) none Act.pick [Opd.t 18, Opd.k (AV.d (DV.bool true)), Opd.t 22]])
                                (CC.cond (Opd.t 23) (CC.seq (CC.reg none [Ins.mk (some 2) none Act.mv [Opd.k (AV.d (DV.bool false))]]) CC.ret) CC.skip))))
                          (CC.seq (CC.fgt [2, 8, 9, 10]) (CC.reg none [Ins.mk (some 24) none (Act.bin BinOp.add (EqK.nil 10)) [Opd.t 10, Opd.k (AV.d (DV.int IntKind.i64 (Int.ofNat 1)))], Ins.mk (some 10) none Act.mv [Opd.t 24]])))))))))
            (CC.seq (CC.fgt [2]) (CC.seq (CC.reg none [Ins.mk (some 2) none Act.mv [Opd.k (AV.d (DV.bool true))]]) CC.ret))))))
    [RV.tmp 2]
theorem code4_ok : F0 4 = some (.code code4) := by kernel_rfl
def code3 : CFn :=
  CFn.mk
    (CC.seq (CC.reg none [Ins.mk (some 6) none Act.mv [Opd.k (AV.d (DV.bool false))]])
      (CC.seq
        (CC.seq (CC.reg none [Ins.mk (some 19) none Act.mv [Opd.t 0], Ins.mk (some 20) none (Act.call false) [Opd.k (AV.fn Mode.pure 4 [] []), Opd.t 19], Ins.mk (some 21) none (Act.un UnOp.not) [Opd.t 20]])
          (CC.cond (Opd.t 21) (CC.seq (CC.reg none [Ins.mk (some 22) none (Act.call false) [Opd.k (AV.fn Mode.pure 5 [] [])], Ins.mk (some 6) none Act.mv [Opd.t 22]]) CC.ret) CC.skip))
        (CC.seq (CC.fgt [0, 1, 2, 6])
          (CC.seq
            (CC.reg none
              [Ins.mk (some 24) none Act.mv [Opd.t 0], Ins.mk (some 25) none Act.mv [Opd.t 1], Ins.mk (some 26) none (Act.call false) [Opd.k (AV.fn Mode.pure 6 [] []), Opd.t 24, Opd.t 25], Ins.mk (some 23) none Act.mv [Opd.t 26], Ins.mk (some 27) none (Act.ext 0) [Opd.t 23],
                Ins.mk (some 28) none (Act.ext 1) [Opd.t 23], Ins.mk (some 29) none (Act.ext 2) [Opd.t 23],
                Ins.mk (some 7) none
                  (Act.new 27
                    [AV.d (DV.int IntKind.i64 (Int.ofNat 0)), AV.d (DV.int IntKind.i64 (Int.ofNat 0)), AV.d (DV.int IntKind.i64 (Int.ofNat 0)), AV.d (DV.int IntKind.i64 (Int.ofNat 0)), AV.d (DV.int IntKind.i64 (Int.ofNat 0)), AV.d (DV.int IntKind.i64 (Int.ofNat 0)),
                      AV.d (DV.int IntKind.i64 (Int.ofNat 0)), AV.d (DV.int IntKind.i64 (Int.ofNat 0))])
                  [],
                Ins.mk none none (Act.storeT 8) [Opd.t 7, Opd.t 27], Ins.mk (some 8) none Act.mv [Opd.t 28], Ins.mk (some 9) none Act.mv [Opd.t 29]])
            (CC.seq
              (CC.reg none
                [Ins.mk (some 31) none Act.mv [Opd.t 0], Ins.mk (some 32) none Act.mv [Opd.t 1], Ins.mk (some 33) none (Act.call false) [Opd.k (AV.fn Mode.pure 7 [] []), Opd.t 31, Opd.t 32], Ins.mk (some 30) none Act.mv [Opd.t 33], Ins.mk (some 34) none (Act.ext 0) [Opd.t 30],
                  Ins.mk (some 35) none (Act.ext 1) [Opd.t 30], Ins.mk (some 36) none (Act.ext 2) [Opd.t 30],
                  Ins.mk (some 10) none
                    (Act.new 27
                      [AV.d (DV.int IntKind.i64 (Int.ofNat 0)), AV.d (DV.int IntKind.i64 (Int.ofNat 0)), AV.d (DV.int IntKind.i64 (Int.ofNat 0)), AV.d (DV.int IntKind.i64 (Int.ofNat 0)), AV.d (DV.int IntKind.i64 (Int.ofNat 0)), AV.d (DV.int IntKind.i64 (Int.ofNat 0)),
                        AV.d (DV.int IntKind.i64 (Int.ofNat 0)), AV.d (DV.int IntKind.i64 (Int.ofNat 0))])
                    [],
                  Ins.mk none none (Act.storeT 8) [Opd.t 10, Opd.t 34], Ins.mk (some 11) none Act.mv [Opd.t 35], Ins.mk (some 12) none Act.mv [Opd.t 36]])
              (CC.seq
                (CC.seq
                  (CC.reg none
                    [Ins.mk (some 37) none (Act.load (some 8)) [Opd.t 7], Ins.mk (some 38) none (Act.load (some 8)) [Opd.t 10], Ins.mk (some 39) none (Act.bin BinOp.neq (EqK.cells 8 [(0, 1), (1, 1), (2, 1), (3, 1), (4, 1), (5, 1), (6, 1), (7, 1)])) [Opd.t 37, Opd.t 38],
                      Ins.mk (some 40) none Act.mv [Opd.t 39], Ins.mk (some 41) (some (40, false)) Act.mv [Opd.t 8], Ins.mk (some 42) (some (40, false)) Act.mv [Opd.t 11], Ins.mk (some 43) (some (40, false)) (Act.bin BinOp.neq (EqK.nil 10)) [Opd.t 41, Opd.t 42],
                      Ins.mk (some 44) none Act.pick [Opd.t 40, Opd.k (AV.d (DV.bool true)), Opd.t 43], Ins.mk (some 45) none Act.mv [Opd.t 44], Ins.mk (some 46) (some (45, false)) Act.mv [Opd.t 9], Ins.mk (some 47) (some (45, false)) Act.mv [Opd.t 12],
                      Ins.mk (some 48) (some (45, false)) (Act.bin BinOp.neq (EqK.nil 10)) [Opd.t 46, Opd.t 47], Ins.mk (some 49) none Act.pick [Opd.t 45, Opd.k (AV.d (DV.bool true)), Opd.t 48]])
                  (CC.cond (Opd.t 49) (CC.seq (CC.reg none [Ins.mk (some 6) none Act.mv [Opd.k (AV.d (DV.bool false))]]) CC.ret) CC.skip))
                (CC.seq (CC.fgt [0, 1, 2, 6])
                  (CC.seq
                    (CC.reg none
                      [Ins.mk (some 51) none Act.mv [Opd.t 0], Ins.mk (some 52) none Act.mv [Opd.t 1], Ins.mk (some 53) none (Act.call false) [Opd.k (AV.fn Mode.pure 8 [] []), Opd.t 51, Opd.t 52], Ins.mk (some 50) none Act.mv [Opd.t 53], Ins.mk (some 54) none (Act.ext 0) [Opd.t 50],
                        Ins.mk (some 55) none (Act.ext 1) [Opd.t 50], Ins.mk (some 56) none (Act.ext 2) [Opd.t 50], Ins.mk (some 57) none (Act.ext 3) [Opd.t 50], Ins.mk (some 13) none (Act.new 26 [AV.d (DV.int IntKind.i64 (Int.ofNat 0)), AV.d (DV.int IntKind.i64 (Int.ofNat 0))]) [],
                        Ins.mk (some 14) none (Act.new 26 [AV.d (DV.int IntKind.i64 (Int.ofNat 0)), AV.d (DV.int IntKind.i64 (Int.ofNat 0))]) [], Ins.mk none none (Act.storeT 2) [Opd.t 13, Opd.t 54], Ins.mk none none (Act.storeT 2) [Opd.t 14, Opd.t 55], Ins.mk (some 8) none Act.mv [Opd.t 56],
                        Ins.mk (some 9) none Act.mv [Opd.t 57]])
                    (CC.seq
                      (CC.reg none
                        [Ins.mk (some 59) none Act.mv [Opd.t 0], Ins.mk (some 60) none Act.mv [Opd.t 1], Ins.mk (some 61) none (Act.call false) [Opd.k (AV.fn Mode.pure 9 [] []), Opd.t 59, Opd.t 60], Ins.mk (some 58) none Act.mv [Opd.t 61], Ins.mk (some 62) none (Act.ext 0) [Opd.t 58],
                          Ins.mk (some 63) none (Act.ext 1) [Opd.t 58], Ins.mk (some 64) none (Act.ext 2) [Opd.t 58], Ins.mk (some 65) none (Act.ext 3) [Opd.t 58], Ins.mk (some 15) none (Act.new 26 [AV.d (DV.int IntKind.i64 (Int.ofNat 0)), AV.d (DV.int IntKind.i64 (Int.ofNat 0))]) [],
                          Ins.mk (some 16) none (Act.new 26 [AV.d (DV.int IntKind.i64 (Int.ofNat 0)), AV.d (DV.int IntKind.i64 (Int.ofNat 0))]) [], Ins.mk none none (Act.storeT 2) [Opd.t 15, Opd.t 62], Ins.mk none none (Act.storeT 2) [Opd.t 16, Opd.t 63], Ins.mk (some 11) none Act.mv [Opd.t 64],
                          Ins.mk (some 12) none Act.mv [Opd.t 65]])
                      (CC.seq
                        (CC.seq
                          (CC.reg none
                            [Ins.mk (some 66) none (Act.load (some 2)) [Opd.t 13], Ins.mk (some 67) none (Act.load (some 2)) [Opd.t 15], Ins.mk (some 68) none (Act.bin BinOp.neq (EqK.cells 2 [(0, 1), (1, 1)])) [Opd.t 66, Opd.t 67], Ins.mk (some 69) none Act.mv [Opd.t 68],
                              Ins.mk (some 70) (some (69, false)) (Act.load (some 2)) [Opd.t 14], Ins.mk (some 71) (some (69, false)) (Act.load (some 2)) [Opd.t 16], Ins.mk (some 72) (some (69, false)) (Act.bin BinOp.neq (EqK.cells 2 [(0, 1), (1, 1)])) [Opd.t 70, Opd.t 71],
                              Ins.mk (some 73) none Act.pick [Opd.t 69, Opd.k (AV.d (DV.bool true)), Opd.t 72], Ins.mk (some 74) none Act.mv [Opd.t 73], Ins.mk (some 75) (some (74, false)) Act.mv [Opd.t 8], Ins.mk (some 76) (some (74, false)) Act.mv [Opd.t 11],
                              Ins.mk (some 77) (some (74, false)) (Act.bin BinOp.neq (EqK.nil 10)) [Opd.t 75, Opd.t 76], Ins.mk (some 78) none Act.pick [Opd.t 74, Opd.k (AV.d (DV.bool true)), Opd.t 77], Ins.mk (some 79) none Act.mv [Opd.t 78], Ins.mk (some 80) (some (79, false)) Act.mv [Opd.t 9],
                              Ins.mk (some 81) (some (79, false)) Act.mv [Opd.t 12], Ins.mk (some 82) (some (79, false)) (Act.bin BinOp.neq (EqK.nil 10)) [Opd.t 80, Opd.t 81], Ins.mk (some 83) none Act.pick [Opd.t 79, Opd.k (AV.d (DV.bool true)), Opd.t 82]])
                          (CC.cond (Opd.t 83) (CC.seq (CC.reg none [Ins.mk (some 6) none Act.mv [Opd.k (AV.d (DV.bool false))]]) CC.ret) CC.skip))
                        (CC.seq (CC.fgt [0, 1, 2, 6])
                          (CC.seq
                            (CC.reg none
                              [Ins.mk (some 85) none Act.mv [Opd.t 0], Ins.mk (some 86) none Act.mv [Opd.t 1], Ins.mk (some 87) none Act.mv [Opd.t 2], Ins.mk (some 88) none (Act.call false) [Opd.k (AV.fn Mode.pure 10 [] []), Opd.t 85, Opd.t 86, Opd.t 87], Ins.mk (some 84) none Act.mv [Opd.t 88],
                                Ins.mk (some 89) none (Act.ext 0) [Opd.t 84], Ins.mk (some 90) none (Act.ext 1) [Opd.t 84], Ins.mk (some 91) none (Act.ext 2) [Opd.t 84], Ins.mk (some 17) none Act.mv [Opd.t 89], Ins.mk (some 8) none Act.mv [Opd.t 90], Ins.mk (some 9) none Act.mv [Opd.t 91]])
                            (CC.seq
                              (CC.reg none
                                [Ins.mk (some 93) none Act.mv [Opd.t 0], Ins.mk (some 94) none Act.mv [Opd.t 1], Ins.mk (some 95) none Act.mv [Opd.t 2], Ins.mk (some 96) none (Act.call false) [Opd.k (AV.fn Mode.pure 11 [] []), Opd.t 93, Opd.t 94, Opd.t 95], Ins.mk (some 92) none Act.mv [Opd.t 96],
                                  Ins.mk (some 97) none (Act.ext 0) [Opd.t 92], Ins.mk (some 98) none (Act.ext 1) [Opd.t 92], Ins.mk (some 99) none (Act.ext 2) [Opd.t 92], Ins.mk (some 18) none Act.mv [Opd.t 97], Ins.mk (some 11) none Act.mv [Opd.t 98], Ins.mk (some 12) none Act.mv [Opd.t 99]])
                              (CC.seq
                                (CC.seq
                                  (CC.reg none
                                    [Ins.mk (some 100) none Act.mv [Opd.t 17], Ins.mk (some 101) none Act.mv [Opd.t 18], Ins.mk (some 102) none (Act.bin BinOp.neq (EqK.nil 10)) [Opd.t 100, Opd.t 101], Ins.mk (some 103) none Act.mv [Opd.t 102], Ins.mk (some 104) (some (103, false)) Act.mv [Opd.t 8],
                                      Ins.mk (some 105) (some (103, false)) Act.mv [Opd.t 11], Ins.mk (some 106) (some (103, false)) (Act.bin BinOp.neq (EqK.nil 10)) [Opd.t 104, Opd.t 105], Ins.mk (some 107) none Act.pick [Opd.t 103, Opd.k (AV.d (DV.bool true)), Opd.t 106],
                                      Ins.mk (some 108) none Act.mv [Opd.t 107], Ins.mk (some 109) (some (108, false)) Act.mv [Opd.t 9], Ins.mk (some 110) (some (108, false)) Act.mv [Opd.t 12], Ins.mk (some 111) (some (108, false)) (Act.bin BinOp.neq (EqK.nil 10)) [Opd.t 109, Opd.t 110],
                                      Ins.mk (some 112) none Act.pick [Opd.t 108, Opd.k (AV.d (DV.bool true)), Opd.t 111]])
                                  (CC.cond (Opd.t 112) (CC.seq (CC.reg none [Ins.mk (some 6) none Act.mv [Opd.k (AV.d (DV.bool false))]]) CC.ret) CC.skip))
                                (CC.seq (CC.fgt [0, 1, 6])
                                  (CC.seq
                                    (CC.reg none
                                      [Ins.mk (some 114) none Act.mv [Opd.t 0], Ins.mk (some 115) none Act.mv [Opd.t 1], Ins.mk (some 116) none (Act.call false) [Opd.k (AV.fn Mode.pure 12 [] []), Opd.t 114, Opd.t 115], Ins.mk (some 113) none Act.mv [Opd.t 116],
                                        Ins.mk (some 117) none (Act.ext 0) [Opd.t 113], Ins.mk (some 118) none (Act.ext 1) [Opd.t 113], Ins.mk (some 119) none (Act.ext 2) [Opd.t 113], Ins.mk (some 17) none Act.mv [Opd.t 117], Ins.mk (some 8) none Act.mv [Opd.t 118],
                                        Ins.mk (some 9) none Act.mv [Opd.t 119]])
                                    (CC.seq
                                      (CC.reg none
                                        [Ins.mk (some 121) none Act.mv [Opd.t 0], Ins.mk (some 122) none Act.mv [Opd.t 1], Ins.mk (some 123) none (Act.call false) [Opd.k (AV.fn Mode.pure 13 [] []), Opd.t 121, Opd.t 122], Ins.mk (some 120) none Act.mv [Opd.t 123],
                                          Ins.mk (some 124) none (Act.ext 0) [Opd.t 120], Ins.mk (some 125) none (Act.ext 1) [Opd.t 120], Ins.mk (some 126) none (Act.ext 2) [Opd.t 120], Ins.mk (some 18) none Act.mv [Opd.t 124], Ins.mk (some 11) none Act.mv [Opd.t 125],
                                          Ins.mk (some 12) none Act.mv [Opd.t 126]])
                                      (CC.seq
                                        (CC.reg none
                                          [Ins.mk (some 127) none Act.mv [Opd.t 17], Ins.mk (some 128) none Act.mv [Opd.t 18], Ins.mk (some 129) none (Act.bin BinOp.eql (EqK.nil 10)) [Opd.t 127, Opd.t 128], Ins.mk (some 130) none Act.mv [Opd.t 129],
                                            Ins.mk (some 131) (some (130, true)) Act.mv [Opd.t 8], Ins.mk (some 132) (some (130, true)) Act.mv [Opd.t 11], Ins.mk (some 133) (some (130, true)) (Act.bin BinOp.eql (EqK.nil 10)) [Opd.t 131, Opd.t 132],
                                            Ins.mk (some 134) none Act.pick [Opd.t 130, Opd.t 133, Opd.k (AV.d (DV.bool false))], Ins.mk (some 135) none Act.mv [Opd.t 134], Ins.mk (some 136) (some (135, true)) Act.mv [Opd.t 9], Ins.mk (some 137) (some (135, true)) Act.mv [Opd.t 12],
                                            Ins.mk (some 138) (some (135, true)) (Act.bin BinOp.eql (EqK.nil 10)) [Opd.t 136, Opd.t 137], Ins.mk (some 139) none Act.pick [Opd.t 135, Opd.t 138, Opd.k (AV.d (DV.bool false))], Ins.mk (some 140) none Act.mv [Opd.t 139],
                                            Ins.mk (some 141) (some (140, true)) (Act.call false) [Opd.k (AV.fn Mode.pure 5 [] [])], Ins.mk (some 142) none Act.pick [Opd.t 140, Opd.t 141, Opd.k (AV.d (DV.bool false))], Ins.mk (some 6) none Act.mv [Opd.t 142]])
                                        CC.ret))))))))))))))))))
    [RV.tmp 6]
theorem code3_ok : F0 3 = some (.code code3) := by kernel_rfl
end Go.Proofs.YtjjolfgpphjhkaaGreatDoor.Ab
