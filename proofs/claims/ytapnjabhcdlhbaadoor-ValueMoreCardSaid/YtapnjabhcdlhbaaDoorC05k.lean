/- The law's code, compiled (printed by tools/knf.lean for this seat). -/
import Derived.Test.YtapnjabhcdlhbaaDoorAbSome
namespace Go.Proofs.YtapnjabhcdlhbaaDoor.Ab
open Go
set_option maxRecDepth 100000
def cValueMore : CFn :=
  CFn.mk
    (CC.seq (CC.reg none [Ins.mk (some 8) none Act.mv [Opd.k (AV.d (DV.bool false))]])
      (CC.seq
        (CC.seq (CC.reg none [Ins.mk (some 17) none Act.mv [Opd.t 0], Ins.mk (some 18) none Act.len [Opd.t 17], Ins.mk (some 19) none (Act.bin BinOp.gtr (EqK.nil 10)) [Opd.t 18, Opd.k (AV.d (DV.int IntKind.i64 (Int.ofNat 200)))]])
          (CC.cond (Opd.t 19) (CC.seq (CC.reg none [Ins.mk (some 20) none (Act.call false) [Opd.k (AV.fn Mode.pure 4 [] [])], Ins.mk (some 8) none Act.mv [Opd.t 20]]) CC.ret) CC.skip))
        (CC.seq (CC.fgt [0, 1, 2, 3, 8])
          (CC.seq
            (CC.seq (CC.reg none [Ins.mk (some 21) none Act.mv [Opd.t 0], Ins.mk (some 22) none Act.len [Opd.t 21], Ins.mk (some 23) none Act.mv [Opd.k (AV.d (DV.int IntKind.i64 (Int.ofNat 0)))]])
              (CC.block 0
                (CC.loop [0, 1, 2, 3, 8, 21, 22, 23]
                  (CC.seq (CC.reg none [Ins.mk (some 24) none (Act.bin BinOp.lss (EqK.nil 10)) [Opd.t 23, Opd.t 22]])
                    (CC.seq (CC.cond (Opd.t 24) CC.skip (CC.exit 0))
                      (CC.seq (CC.fgt [0, 1, 2, 3, 8, 21, 22, 23])
                        (CC.seq
                          (CC.block 1
                            (CC.seq
                              (CC.reg none
                                [Ins.mk (some 25) none (Act.iad 4) [Opd.t 21, Opd.t 23], Ins.mk (some 26) none (Act.load (some 4)) [Opd.t 25], Ins.mk (some 10) none (Act.new 25 [AV.d (DV.int IntKind.i64 (Int.ofNat 0)), AV.d (DV.int IntKind.i64 (Int.ofNat 0)), AV.d (DV.str []), AV.d (DV.str [])]) [],
                                  Ins.mk none none (Act.storeT 4) [Opd.t 10, Opd.t 26]])
                              (CC.seq
                                (CC.reg none
                                  [Ins.mk (some 27) none (Act.fad 3) [Opd.t 10], Ins.mk (some 28) none (Act.load none) [Opd.t 27], Ins.mk (some 29) none Act.lens [Opd.t 28], Ins.mk (some 30) none (Act.bin BinOp.gtr (EqK.nil 10)) [Opd.t 29, Opd.k (AV.d (DV.int IntKind.i64 (Int.ofNat 1000)))],
                                    Ins.mk (some 31) none Act.mv [Opd.t 30], Ins.mk (some 32) (some (31, false)) (Act.fad 2) [Opd.t 10], Ins.mk (some 33) (some (31, false)) (Act.load none) [Opd.t 32], Ins.mk (some 34) (some (31, false)) Act.lens [Opd.t 33],
                                    Ins.mk (some 35) (some (31, false)) (Act.bin BinOp.gtr (EqK.nil 10)) [Opd.t 34, Opd.k (AV.d (DV.int IntKind.i64 (Int.ofNat 1000)))], Ins.mk (some 36) none Act.pick [Opd.t 31, Opd.k (AV.d (DV.bool true)), Opd.t 35]])
                                (CC.cond (Opd.t 36) (CC.seq (CC.reg none [Ins.mk (some 37) none (Act.call false) [Opd.k (AV.fn Mode.pure 4 [] [])], Ins.mk (some 8) none Act.mv [Opd.t 37]]) CC.ret) CC.skip))))
                          (CC.seq (CC.fgt [0, 1, 2, 3, 8, 21, 22, 23]) (CC.reg none [Ins.mk (some 38) none (Act.bin BinOp.add (EqK.nil 10)) [Opd.t 23, Opd.k (AV.d (DV.int IntKind.i64 (Int.ofNat 1)))], Ins.mk (some 23) none Act.mv [Opd.t 38]])))))))))
            (CC.seq (CC.fgt [0, 1, 2, 3, 8])
              (CC.seq
                (CC.reg none
                  [Ins.mk (some 40) none Act.mv [Opd.t 0], Ins.mk (some 41) none Act.mv [Opd.t 1], Ins.mk (some 42) none Act.mv [Opd.t 2], Ins.mk (some 43) none (Act.call false) [Opd.k (AV.fn Mode.pure 5 [] []), Opd.t 40, Opd.t 41, Opd.t 42], Ins.mk (some 39) none Act.mv [Opd.t 43],
                    Ins.mk (some 44) none (Act.ext 0) [Opd.t 39], Ins.mk (some 45) none (Act.ext 1) [Opd.t 39], Ins.mk (some 46) none (Act.ext 2) [Opd.t 39], Ins.mk (some 11) none (Act.new 27 [AV.d (DV.int IntKind.i64 (Int.ofNat 0)), AV.d (DV.int IntKind.i64 (Int.ofNat 0))]) [],
                    Ins.mk none none (Act.storeT 2) [Opd.t 11, Opd.t 44], Ins.mk (some 12) none Act.mv [Opd.t 45], Ins.mk (some 13) none Act.mv [Opd.t 46]])
                (CC.seq
                  (CC.reg none
                    [Ins.mk (some 48) none Act.mv [Opd.t 0], Ins.mk (some 49) none Act.mv [Opd.t 1], Ins.mk (some 50) none Act.mv [Opd.t 2], Ins.mk (some 51) none Act.mv [Opd.t 3], Ins.mk (some 52) none (Act.bin BinOp.or (EqK.nil 10)) [Opd.t 50, Opd.t 51],
                      Ins.mk (some 53) none (Act.call false) [Opd.k (AV.fn Mode.pure 5 [] []), Opd.t 48, Opd.t 49, Opd.t 52], Ins.mk (some 47) none Act.mv [Opd.t 53], Ins.mk (some 54) none (Act.ext 0) [Opd.t 47], Ins.mk (some 55) none (Act.ext 1) [Opd.t 47],
                      Ins.mk (some 56) none (Act.ext 2) [Opd.t 47], Ins.mk (some 14) none (Act.new 27 [AV.d (DV.int IntKind.i64 (Int.ofNat 0)), AV.d (DV.int IntKind.i64 (Int.ofNat 0))]) [], Ins.mk none none (Act.storeT 2) [Opd.t 14, Opd.t 54], Ins.mk (some 15) none Act.mv [Opd.t 55],
                      Ins.mk (some 16) none Act.mv [Opd.t 56]])
                  (CC.seq
                    (CC.reg none
                      [Ins.mk (some 57) none Act.mv [Opd.t 13], Ins.mk (some 58) none (Act.bin BinOp.neq (EqK.nil 10)) [Opd.t 57, Opd.k (AV.d (DV.int IntKind.i64 (Int.ofNat 0)))], Ins.mk (some 59) none Act.mv [Opd.t 58], Ins.mk (some 60) (some (59, false)) Act.mv [Opd.t 16],
                        Ins.mk (some 61) (some (59, false)) (Act.bin BinOp.eql (EqK.nil 10)) [Opd.t 60, Opd.k (AV.d (DV.int IntKind.i64 (Int.ofNat 0)))], Ins.mk (some 62) (some (59, false)) Act.mv [Opd.t 61], Ins.mk (some 63) (some (62, true)) (Act.load (some 2)) [Opd.t 11],
                        Ins.mk (some 64) (some (62, true)) (Act.load (some 2)) [Opd.t 14], Ins.mk (some 65) (some (62, true)) (Act.bin BinOp.eql (EqK.cells 2 [(0, 1), (1, 1)])) [Opd.t 63, Opd.t 64], Ins.mk (some 66) (some (59, false)) Act.pick [Opd.t 62, Opd.t 65, Opd.k (AV.d (DV.bool false))],
                        Ins.mk (some 67) (some (59, false)) Act.mv [Opd.t 66], Ins.mk (some 68) (some (67, true)) Act.mv [Opd.t 12], Ins.mk (some 69) (some (67, true)) Act.mv [Opd.t 15], Ins.mk (some 70) (some (67, true)) (Act.bin BinOp.eql (EqK.nil 10)) [Opd.t 68, Opd.t 69],
                        Ins.mk (some 71) (some (59, false)) Act.pick [Opd.t 67, Opd.t 70, Opd.k (AV.d (DV.bool false))], Ins.mk (some 72) none Act.pick [Opd.t 59, Opd.k (AV.d (DV.bool true)), Opd.t 71], Ins.mk (some 73) none Act.mv [Opd.t 72], Ins.mk (some 74) (some (73, true)) Act.mv [Opd.t 13],
                        Ins.mk (some 75) (some (73, true)) (Act.bin BinOp.neq (EqK.nil 10)) [Opd.t 74, Opd.k (AV.d (DV.int IntKind.i64 (Int.ofNat 51)))], Ins.mk (some 76) (some (73, true)) Act.mv [Opd.t 75], Ins.mk (some 77) (some (76, false)) Act.mv [Opd.t 16],
                        Ins.mk (some 78) (some (76, false)) Act.mv [Opd.t 13], Ins.mk (some 79) (some (76, false)) (Act.bin BinOp.eql (EqK.nil 10)) [Opd.t 77, Opd.t 78], Ins.mk (some 80) (some (73, true)) Act.pick [Opd.t 76, Opd.k (AV.d (DV.bool true)), Opd.t 79],
                        Ins.mk (some 81) none Act.pick [Opd.t 73, Opd.t 80, Opd.k (AV.d (DV.bool false))], Ins.mk (some 82) none Act.mv [Opd.t 81], Ins.mk (some 83) (some (82, true)) Act.mv [Opd.t 13],
                        Ins.mk (some 84) (some (82, true)) (Act.bin BinOp.eql (EqK.nil 10)) [Opd.t 83, Opd.k (AV.d (DV.int IntKind.i64 (Int.ofNat 0)))], Ins.mk (some 85) (some (82, true)) Act.mv [Opd.t 84], Ins.mk (some 86) (some (85, false)) (Act.load (some 2)) [Opd.t 11],
                        Ins.mk (some 87) (some (85, false)) (Act.build [AV.d (DV.int IntKind.i64 (Int.ofNat 0)), AV.d (DV.int IntKind.i64 (Int.ofNat 0))] []) [], Ins.mk (some 88) (some (85, false)) (Act.bin BinOp.eql (EqK.cells 2 [(0, 1), (1, 1)])) [Opd.t 86, Opd.t 87],
                        Ins.mk (some 89) (some (85, false)) Act.mv [Opd.t 88], Ins.mk (some 90) (some (89, true)) Act.mv [Opd.t 12], Ins.mk (some 91) (some (89, true)) Act.mv [Opd.t 1], Ins.mk (some 92) (some (89, true)) (Act.bin BinOp.eql (EqK.nil 10)) [Opd.t 90, Opd.t 91],
                        Ins.mk (some 93) (some (85, false)) Act.pick [Opd.t 89, Opd.t 92, Opd.k (AV.d (DV.bool false))], Ins.mk (some 94) (some (82, true)) Act.pick [Opd.t 85, Opd.k (AV.d (DV.bool true)), Opd.t 93], Ins.mk (some 95) none Act.pick [Opd.t 82, Opd.t 94, Opd.k (AV.d (DV.bool false))],
                        Ins.mk (some 96) none Act.mv [Opd.t 95], Ins.mk (some 97) (some (96, true)) (Act.call false) [Opd.k (AV.fn Mode.pure 4 [] [])], Ins.mk (some 98) none Act.pick [Opd.t 96, Opd.t 97, Opd.k (AV.d (DV.bool false))], Ins.mk (some 8) none Act.mv [Opd.t 98]])
                    CC.ret))))))))
    [RV.tmp 8]
theorem cValueMore_ok : F0 3 = some (.code cValueMore) := by kernel_rfl
end Go.Proofs.YtapnjabhcdlhbaaDoor.Ab
