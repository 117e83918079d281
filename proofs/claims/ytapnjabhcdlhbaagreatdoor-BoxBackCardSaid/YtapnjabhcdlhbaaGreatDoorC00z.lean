/- The code of some functions, compiled (printed by a program for this seat; each is held against the compiler by the kernel). -/
import Derived.Test.YtapnjabhcdlhbaaGreatDoorAbCfg
namespace Go.Proofs.YtapnjabhcdlhbaaGreatDoor.Ab
open Go
set_option maxRecDepth 100000
def code158 : CFn :=
  CFn.mk
    (CC.seq (CC.reg none [Ins.mk (some 2) none Act.mv [Opd.k (AV.d (DV.bool false))]])
      (CC.seq (CC.reg none [Ins.mk (some 3) none Act.mv [Opd.k (AV.fn Mode.pure 198 [] [])]])
        (CC.seq
          (CC.seq (CC.reg none [Ins.mk (some 4) none Act.mv [Opd.t 0], Ins.mk (some 5) none Act.mv [Opd.t 3], Ins.mk (some 6) none (Act.call false) [Opd.k (AV.fn Mode.drop 156 [] []), Opd.t 4, Opd.k (AV.d (DV.int IntKind.i64 (Int.ofNat 0))), Opd.t 5]])
            (CC.cond (Opd.t 6)
              (CC.seq
                (CC.reg none
                  [Ins.mk (some 7) none Act.mv [Opd.t 0], Ins.mk (some 8) none Act.mv [Opd.t 3], Ins.mk (some 9) none (Act.call false) [Opd.k (AV.fn Mode.drop 156 [] []), Opd.t 7, Opd.k (AV.d (DV.int IntKind.i64 (Int.ofNat 1))), Opd.t 8], Ins.mk (some 10) none Act.mv [Opd.t 9],
                    Ins.mk (some 11) (some (10, false)) Act.mv [Opd.t 0], Ins.mk (some 12) (some (10, false)) (Act.call false) [Opd.k (AV.fn Mode.drop 156 [] []), Opd.t 11, Opd.k (AV.d (DV.int IntKind.i64 (Int.ofNat 1))), Opd.k (AV.fn Mode.pure 199 [] [])],
                    Ins.mk (some 13) none Act.pick [Opd.t 10, Opd.k (AV.d (DV.bool true)), Opd.t 12], Ins.mk (some 14) none Act.mv [Opd.t 13], Ins.mk (some 15) (some (14, false)) Act.mv [Opd.t 0],
                    Ins.mk (some 16) (some (14, false)) (Act.call false) [Opd.k (AV.fn Mode.drop 200 [] []), Opd.t 15, Opd.k (AV.d (DV.int IntKind.i64 (Int.ofNat 1)))], Ins.mk (some 17) none Act.pick [Opd.t 14, Opd.k (AV.d (DV.bool true)), Opd.t 16], Ins.mk (some 2) none Act.mv [Opd.t 17]])
                CC.ret)
              CC.skip))
          (CC.seq (CC.fgt [0, 2])
            (CC.seq
              (CC.reg none
                [Ins.mk (some 18) none Act.mv [Opd.t 0], Ins.mk (some 19) none (Act.call false) [Opd.k (AV.fn Mode.drop 156 [] []), Opd.t 18, Opd.k (AV.d (DV.int IntKind.i64 (Int.ofNat 0))), Opd.k (AV.fn Mode.pure 199 [] [])], Ins.mk (some 20) none Act.mv [Opd.t 19],
                  Ins.mk (some 21) (some (20, false)) Act.mv [Opd.t 0], Ins.mk (some 22) (some (20, false)) (Act.call false) [Opd.k (AV.fn Mode.drop 200 [] []), Opd.t 21, Opd.k (AV.d (DV.int IntKind.i64 (Int.ofNat 0)))], Ins.mk (some 23) none Act.pick [Opd.t 20, Opd.k (AV.d (DV.bool true)), Opd.t 22],
                  Ins.mk (some 2) none Act.mv [Opd.t 23]])
              CC.ret)))))
    [RV.tmp 2]
theorem code158_ok : F0 158 = some (.code code158) := by kernel_rfl
def code198 : CFn :=
  CFn.mk
    (CC.seq (CC.reg none [Ins.mk (some 2) none Act.mv [Opd.k (AV.d (DV.bool false))]])
      (CC.seq (CC.reg none [Ins.mk (some 3) none Act.mv [Opd.t 0], Ins.mk (some 4) none (Act.bin BinOp.eql (EqK.nil 10)) [Opd.t 3, Opd.k (AV.d (DV.int IntKind.u8 (Int.ofNat 45)))], Ins.mk (some 2) none Act.mv [Opd.t 4]]) CC.ret))
    [RV.tmp 2]
theorem code198_ok : F0 198 = some (.code code198) := by kernel_rfl
def code200 : CFn :=
  CFn.mk
    (CC.seq (CC.reg none [Ins.mk (some 4) none Act.mv [Opd.k (AV.d (DV.bool false))]])
      (CC.seq
        (CC.reg (some [])
          [Ins.mk (some 8) none Act.mv [Opd.t 0], Ins.mk (some 9) none Act.nilck [Opd.t 8], Ins.mk (some 10) none (Act.fad 0) [Opd.t 9], Ins.mk (some 11) none (Act.load none) [Opd.t 10], Ins.mk (some 12) none Act.mv [Opd.t 0], Ins.mk (some 13) none Act.nilck [Opd.t 12],
            Ins.mk (some 14) none (Act.fad 1) [Opd.t 13], Ins.mk (some 15) none (Act.load none) [Opd.t 14], Ins.mk (some 16) none Act.mv [Opd.t 1], Ins.mk (some 17) none (Act.bin BinOp.add (EqK.nil 10)) [Opd.t 15, Opd.t 16],
            Ins.mk (some 18) none (Act.call true) [Opd.k (AV.fn Mode.pure 204 [] []), Opd.t 11, Opd.t 17], Ins.mk (some 7) none Act.mv [Opd.t 18], Ins.mk (some 19) none (Act.ext 0) [Opd.t 7], Ins.mk (some 20) none (Act.ext 1) [Opd.t 7], Ins.mk (some 5) none Act.mv [Opd.t 19],
            Ins.mk (some 6) none Act.mv [Opd.t 20]])
        (CC.seq
          (CC.reg (some [])
            [Ins.mk (some 21) none Act.mv [Opd.t 6], Ins.mk (some 22) none (Act.bin BinOp.gtr (EqK.nil 10)) [Opd.t 21, Opd.k (AV.d (DV.int IntKind.i64 (Int.ofNat 0)))], Ins.mk (some 23) none Act.mv [Opd.t 22], Ins.mk (some 24) (some (23, true)) Act.mv [Opd.t 0],
              Ins.mk (some 25) (some (23, true)) Act.nilck [Opd.t 24], Ins.mk (some 26) (some (23, true)) (Act.fad 0) [Opd.t 25], Ins.mk (some 27) (some (23, true)) (Act.load none) [Opd.t 26], Ins.mk (some 28) (some (23, true)) Act.mv [Opd.t 0], Ins.mk (some 29) (some (23, true)) Act.nilck [Opd.t 28],
              Ins.mk (some 30) (some (23, true)) (Act.fad 1) [Opd.t 29], Ins.mk (some 31) (some (23, true)) (Act.load none) [Opd.t 30], Ins.mk (some 32) (some (23, true)) Act.mv [Opd.t 1], Ins.mk (some 33) (some (23, true)) (Act.bin BinOp.add (EqK.nil 10)) [Opd.t 31, Opd.t 32],
              Ins.mk (some 34) (some (23, true)) (Act.bin BinOp.add (EqK.nil 10)) [Opd.t 33, Opd.k (AV.d (DV.int IntKind.i64 (Int.ofNat 1)))], Ins.mk (some 35) (some (23, true)) Act.idxs [Opd.t 27, Opd.t 34],
              Ins.mk (some 36) (some (23, true)) (Act.bin BinOp.neq (EqK.nil 10)) [Opd.t 35, Opd.k (AV.d (DV.int IntKind.u8 (Int.ofNat 0)))], Ins.mk (some 37) none Act.pick [Opd.t 23, Opd.t 36, Opd.k (AV.d (DV.bool false))], Ins.mk (some 4) none Act.mv [Opd.t 37]])
          CC.ret)))
    [RV.tmp 4]
theorem code200_ok : F0 200 = some (.code code200) := by kernel_rfl
def code159 : CFn :=
  CFn.mk
    (CC.seq (CC.reg none [Ins.mk (some 2) none Act.mv [Opd.k (AV.d (DV.str []))]])
      (CC.seq (CC.reg none [Ins.mk (some 3) none (Act.new 167 [AV.d DV.nilp, AV.d DV.nilsl]) []])
        (CC.seq (CC.reg none [Ins.mk (some 4) none Act.mv [Opd.k (AV.fn Mode.pure 201 [] [])]])
          (CC.block 0
            (CC.loop [0, 2, 3, 4]
              (CC.block 1
                (CC.block 2
                  (CC.seq
                    (CC.reg none [Ins.mk (some 9) none Act.mv [Opd.t 0], Ins.mk (some 10) none Act.mv [Opd.t 4], Ins.mk (some 11) none (Act.call false) [Opd.k (AV.fn Mode.drop 156 [] []), Opd.t 9, Opd.k (AV.d (DV.int IntKind.i64 (Int.ofNat 0))), Opd.t 10], Ins.mk (some 8) none Act.mv [Opd.t 11]])
                    (CC.cond (Opd.t 8)
                      (CC.seq
                        (CC.reg (some [])
                          [Ins.mk (some 12) none Act.mv [Opd.t 0], Ins.mk (some 13) none Act.nilck [Opd.t 12], Ins.mk (some 14) none (Act.fad 0) [Opd.t 13], Ins.mk (some 15) none (Act.load none) [Opd.t 14], Ins.mk (some 16) none Act.mv [Opd.t 0], Ins.mk (some 17) none Act.nilck [Opd.t 16],
                            Ins.mk (some 18) none (Act.fad 1) [Opd.t 17], Ins.mk (some 19) none (Act.load none) [Opd.t 18], Ins.mk (some 20) none Act.idxs [Opd.t 15, Opd.t 19], Ins.mk (some 21) none (Act.call false) [Opd.k (AV.fn Mode.opn 203 [] []), Opd.t 3, Opd.t 20]])
                        (CC.reg none
                          [Ins.mk (some 22) none Act.mv [Opd.t 0], Ins.mk (some 23) none Act.nilck [Opd.t 22], Ins.mk (some 24) none (Act.fad 1) [Opd.t 23], Ins.mk (some 25) none (Act.load none) [Opd.t 24],
                            Ins.mk (some 26) none (Act.bin BinOp.add (EqK.nil 10)) [Opd.t 25, Opd.k (AV.d (DV.int IntKind.i64 (Int.ofNat 1)))], Ins.mk (some 27) none Act.nilck [Opd.t 22], Ins.mk (some 28) none (Act.fad 1) [Opd.t 27], Ins.mk none none (Act.storeT 1) [Opd.t 28, Opd.t 26]]))
                      (CC.seq (CC.reg none [Ins.mk (some 30) none Act.mv [Opd.t 0], Ins.mk (some 31) none (Act.call false) [Opd.k (AV.fn Mode.drop 200 [] []), Opd.t 30, Opd.k (AV.d (DV.int IntKind.i64 (Int.ofNat 0)))], Ins.mk (some 29) none Act.mv [Opd.t 31]])
                        (CC.cond (Opd.t 29)
                          (CC.seq
                            (CC.reg (some [])
                              [Ins.mk (some 33) none Act.mv [Opd.t 0], Ins.mk (some 34) none Act.nilck [Opd.t 33], Ins.mk (some 35) none (Act.fad 0) [Opd.t 34], Ins.mk (some 36) none (Act.load none) [Opd.t 35], Ins.mk (some 37) none Act.mv [Opd.t 0], Ins.mk (some 38) none Act.nilck [Opd.t 37],
                                Ins.mk (some 39) none (Act.fad 1) [Opd.t 38], Ins.mk (some 40) none (Act.load none) [Opd.t 39], Ins.mk (some 41) none (Act.call true) [Opd.k (AV.fn Mode.pure 204 [] []), Opd.t 36, Opd.t 40], Ins.mk (some 32) none Act.mv [Opd.t 41],
                                Ins.mk (some 42) none (Act.ext 0) [Opd.t 32], Ins.mk (some 43) none (Act.ext 1) [Opd.t 32], Ins.mk (some 5) none Act.mv [Opd.t 42], Ins.mk (some 6) none Act.mv [Opd.t 43]])
                            (CC.seq (CC.reg none [Ins.mk (some 44) none Act.mv [Opd.t 5], Ins.mk (some 45) none (Act.call false) [Opd.k (AV.fn Mode.opn 143 [] []), Opd.t 3, Opd.t 44]])
                              (CC.reg none
                                [Ins.mk (some 46) none Act.mv [Opd.t 0], Ins.mk (some 47) none Act.nilck [Opd.t 46], Ins.mk (some 48) none (Act.fad 1) [Opd.t 47], Ins.mk (some 49) none (Act.load none) [Opd.t 48], Ins.mk (some 50) none Act.mv [Opd.t 6],
                                  Ins.mk (some 51) none (Act.bin BinOp.add (EqK.nil 10)) [Opd.t 49, Opd.t 50], Ins.mk (some 52) none Act.nilck [Opd.t 46], Ins.mk (some 53) none (Act.fad 1) [Opd.t 52], Ins.mk none none (Act.storeT 1) [Opd.t 53, Opd.t 51]])))
                          (CC.seq (CC.reg none [Ins.mk (some 7) none (Act.call false) [Opd.k (AV.fn Mode.opn 144 [] []), Opd.t 3], Ins.mk (some 2) none Act.mv [Opd.t 7]]) CC.ret))))))))))))
    [RV.tmp 2]
theorem code159_ok : F0 159 = some (.code code159) := by kernel_rfl
def code201 : CFn :=
  CFn.mk
    (CC.seq (CC.reg none [Ins.mk (some 2) none Act.mv [Opd.k (AV.d (DV.bool false))]])
      (CC.seq
        (CC.reg none
          [Ins.mk (some 3) none Act.mv [Opd.t 0], Ins.mk (some 4) none (Act.call false) [Opd.k (AV.fn Mode.pure 199 [] []), Opd.t 3], Ins.mk (some 5) none Act.mv [Opd.t 4], Ins.mk (some 6) (some (5, false)) Act.mv [Opd.t 0],
            Ins.mk (some 7) (some (5, false)) (Act.call false) [Opd.k (AV.fn Mode.pure 202 [] []), Opd.t 6], Ins.mk (some 8) none Act.pick [Opd.t 5, Opd.k (AV.d (DV.bool true)), Opd.t 7], Ins.mk (some 9) none Act.mv [Opd.t 8], Ins.mk (some 10) (some (9, false)) Act.mv [Opd.t 0],
            Ins.mk (some 11) (some (9, false)) (Act.bin BinOp.eql (EqK.nil 10)) [Opd.t 10, Opd.k (AV.d (DV.int IntKind.u8 (Int.ofNat 45)))], Ins.mk (some 12) none Act.pick [Opd.t 9, Opd.k (AV.d (DV.bool true)), Opd.t 11], Ins.mk (some 2) none Act.mv [Opd.t 12]])
        CC.ret))
    [RV.tmp 2]
theorem code201_ok : F0 201 = some (.code code201) := by kernel_rfl
def code156 : CFn :=
  CFn.mk
    (CC.seq (CC.reg none [Ins.mk (some 6) none Act.mv [Opd.k (AV.d (DV.bool false))]])
      (CC.seq
        (CC.reg (some [])
          [Ins.mk (some 7) none Act.mv [Opd.t 0], Ins.mk (some 8) none Act.nilck [Opd.t 7], Ins.mk (some 9) none (Act.fad 1) [Opd.t 8], Ins.mk (some 10) none (Act.load none) [Opd.t 9], Ins.mk (some 11) none Act.mv [Opd.t 1], Ins.mk (some 12) none (Act.bin BinOp.add (EqK.nil 10)) [Opd.t 10, Opd.t 11],
            Ins.mk (some 13) none Act.mv [Opd.t 0], Ins.mk (some 14) none Act.nilck [Opd.t 13], Ins.mk (some 15) none (Act.fad 0) [Opd.t 14], Ins.mk (some 16) none (Act.load none) [Opd.t 15], Ins.mk (some 17) none Act.lens [Opd.t 16],
            Ins.mk (some 18) none (Act.bin BinOp.lss (EqK.nil 10)) [Opd.t 12, Opd.t 17], Ins.mk (some 19) none Act.mv [Opd.t 18], Ins.mk (some 20) (some (19, true)) Act.mv [Opd.t 2], Ins.mk (some 21) (some (19, true)) Act.mv [Opd.t 0], Ins.mk (some 22) (some (19, true)) Act.nilck [Opd.t 21],
            Ins.mk (some 23) (some (19, true)) (Act.fad 0) [Opd.t 22], Ins.mk (some 24) (some (19, true)) (Act.load none) [Opd.t 23], Ins.mk (some 25) (some (19, true)) Act.mv [Opd.t 0], Ins.mk (some 26) (some (19, true)) Act.nilck [Opd.t 25], Ins.mk (some 27) (some (19, true)) (Act.fad 1) [Opd.t 26],
            Ins.mk (some 28) (some (19, true)) (Act.load none) [Opd.t 27], Ins.mk (some 29) (some (19, true)) Act.mv [Opd.t 1], Ins.mk (some 30) (some (19, true)) (Act.bin BinOp.add (EqK.nil 10)) [Opd.t 28, Opd.t 29], Ins.mk (some 31) (some (19, true)) Act.idxs [Opd.t 24, Opd.t 30],
            Ins.mk (some 32) (some (19, true)) (Act.call false) [Opd.t 20, Opd.t 31], Ins.mk (some 33) none Act.pick [Opd.t 19, Opd.t 32, Opd.k (AV.d (DV.bool false))], Ins.mk (some 6) none Act.mv [Opd.t 33]])
        CC.ret))
    [RV.tmp 6]
theorem code156_ok : F0 156 = some (.code code156) := by kernel_rfl
def code119 : CFn :=
  CFn.mk
    (CC.block 0
      (CC.loop [0]
        (CC.seq
          (CC.seq
            (CC.reg (some [])
              [Ins.mk (some 3) none Act.mv [Opd.t 0], Ins.mk (some 4) none Act.nilck [Opd.t 3], Ins.mk (some 5) none (Act.fad 1) [Opd.t 4], Ins.mk (some 6) none (Act.load none) [Opd.t 5], Ins.mk (some 7) none Act.mv [Opd.t 0], Ins.mk (some 8) none Act.nilck [Opd.t 7],
                Ins.mk (some 9) none (Act.fad 0) [Opd.t 8], Ins.mk (some 10) none (Act.load none) [Opd.t 9], Ins.mk (some 11) none Act.lens [Opd.t 10], Ins.mk (some 12) none (Act.bin BinOp.lss (EqK.nil 10)) [Opd.t 6, Opd.t 11]])
            (CC.cond (Opd.t 12) CC.skip (CC.exit 0)))
          (CC.seq (CC.fgt [0])
            (CC.block 1
              (CC.block 2
                (CC.seq
                  (CC.reg (some [])
                    [Ins.mk (some 14) none Act.mv [Opd.t 0], Ins.mk (some 15) none Act.nilck [Opd.t 14], Ins.mk (some 16) none (Act.fad 0) [Opd.t 15], Ins.mk (some 17) none (Act.load none) [Opd.t 16], Ins.mk (some 18) none Act.mv [Opd.t 0], Ins.mk (some 19) none Act.nilck [Opd.t 18],
                      Ins.mk (some 20) none (Act.fad 1) [Opd.t 19], Ins.mk (some 21) none (Act.load none) [Opd.t 20], Ins.mk (some 22) none Act.idxs [Opd.t 17, Opd.t 21], Ins.mk (some 23) none (Act.call true) [Opd.k (AV.fn Mode.pure 153 [] []), Opd.t 22], Ins.mk (some 13) none Act.mv [Opd.t 23]])
                  (CC.cond (Opd.t 13)
                    (CC.reg none
                      [Ins.mk (some 24) none Act.mv [Opd.t 0], Ins.mk (some 25) none Act.nilck [Opd.t 24], Ins.mk (some 26) none (Act.fad 1) [Opd.t 25], Ins.mk (some 27) none (Act.load none) [Opd.t 26],
                        Ins.mk (some 28) none (Act.bin BinOp.add (EqK.nil 10)) [Opd.t 27, Opd.k (AV.d (DV.int IntKind.i64 (Int.ofNat 1)))], Ins.mk (some 29) none Act.nilck [Opd.t 24], Ins.mk (some 30) none (Act.fad 1) [Opd.t 29], Ins.mk none none (Act.storeT 1) [Opd.t 30, Opd.t 28]])
                    (CC.seq
                      (CC.reg (some [])
                        [Ins.mk (some 32) none Act.mv [Opd.t 0], Ins.mk (some 33) none Act.nilck [Opd.t 32], Ins.mk (some 34) none (Act.fad 0) [Opd.t 33], Ins.mk (some 35) none (Act.load none) [Opd.t 34], Ins.mk (some 36) none Act.mv [Opd.t 0], Ins.mk (some 37) none Act.nilck [Opd.t 36],
                          Ins.mk (some 38) none (Act.fad 1) [Opd.t 37], Ins.mk (some 39) none (Act.load none) [Opd.t 38], Ins.mk (some 40) none (Act.cuts true false) [Opd.t 35, Opd.t 39],
                          Ins.mk (some 41) none (Act.call true) [Opd.k (AV.fn Mode.pure 154 [] []), Opd.t 40, Opd.k (AV.d (DV.str [UInt8.ofNat 47, UInt8.ofNat 42]))], Ins.mk (some 31) none Act.mv [Opd.t 41]])
                      (CC.cond (Opd.t 31)
                        (CC.seq
                          (CC.reg (some [])
                            [Ins.mk (some 42) none Act.mv [Opd.t 0], Ins.mk (some 43) none Act.nilck [Opd.t 42], Ins.mk (some 44) none (Act.fad 0) [Opd.t 43], Ins.mk (some 45) none (Act.load none) [Opd.t 44], Ins.mk (some 46) none Act.mv [Opd.t 0], Ins.mk (some 47) none Act.nilck [Opd.t 46],
                              Ins.mk (some 48) none (Act.fad 1) [Opd.t 47], Ins.mk (some 49) none (Act.load none) [Opd.t 48], Ins.mk (some 50) none (Act.bin BinOp.add (EqK.nil 10)) [Opd.t 49, Opd.k (AV.d (DV.int IntKind.i64 (Int.ofNat 2)))],
                              Ins.mk (some 51) none (Act.cuts true false) [Opd.t 45, Opd.t 50], Ins.mk (some 52) none (Act.call true) [Opd.k (AV.fn Mode.pure 146 [] []), Opd.t 51, Opd.k (AV.d (DV.str [UInt8.ofNat 42, UInt8.ofNat 47]))], Ins.mk (some 2) none Act.mv [Opd.t 52]])
                          (CC.seq
                            (CC.seq (CC.reg none [Ins.mk (some 53) none Act.mv [Opd.t 2], Ins.mk (some 54) none (Act.bin BinOp.lss (EqK.nil 10)) [Opd.t 53, Opd.k (AV.d (DV.int IntKind.i64 (Int.ofNat 0)))]])
                              (CC.cond (Opd.t 54)
                                (CC.reg none
                                  [Ins.mk (some 55) none Act.mv [Opd.t 0], Ins.mk (some 56) none Act.mv [Opd.t 0], Ins.mk (some 57) none Act.nilck [Opd.t 56], Ins.mk (some 58) none (Act.fad 1) [Opd.t 57], Ins.mk (some 59) none (Act.load none) [Opd.t 58],
                                    Ins.mk (some 60) none (Act.call false) [Opd.k (AV.fn Mode.drop 121 [] []), Opd.t 55, Opd.t 59, Opd.k (AV.d (DV.int IntKind.i64 (Int.ofNat 30)))]])
                                CC.skip))
                            (CC.seq (CC.fgt [0, 2])
                              (CC.reg none
                                [Ins.mk (some 61) none Act.mv [Opd.t 0], Ins.mk (some 62) none Act.nilck [Opd.t 61], Ins.mk (some 63) none (Act.fad 1) [Opd.t 62], Ins.mk (some 64) none (Act.load none) [Opd.t 63], Ins.mk (some 65) none Act.mv [Opd.t 2],
                                  Ins.mk (some 66) none (Act.bin BinOp.add (EqK.nil 10)) [Opd.t 65, Opd.k (AV.d (DV.int IntKind.i64 (Int.ofNat 4)))], Ins.mk (some 67) none (Act.bin BinOp.add (EqK.nil 10)) [Opd.t 64, Opd.t 66], Ins.mk (some 68) none Act.nilck [Opd.t 61],
                                  Ins.mk (some 69) none (Act.fad 1) [Opd.t 68], Ins.mk none none (Act.storeT 1) [Opd.t 69, Opd.t 67]]))))
                        CC.ret))))))))))
    []
theorem code119_ok : F0 119 = some (.code code119) := by kernel_rfl
def code120 : CFn :=
  CFn.mk
    (CC.seq (CC.reg none [Ins.mk (some 2) none (Act.new 86 [AV.d (DV.int IntKind.i64 (Int.ofNat 0)), AV.d (DV.int IntKind.i64 (Int.ofNat 0)), AV.d (DV.str []), AV.d (DV.str [])]) []])
      (CC.seq
        (CC.reg none
          [Ins.mk (some 7) none Act.mv [Opd.t 0], Ins.mk (some 8) none Act.nilck [Opd.t 7], Ins.mk (some 9) none (Act.fad 1) [Opd.t 8], Ins.mk (some 10) none (Act.load none) [Opd.t 9],
            Ins.mk (some 11) none (Act.build [AV.d (DV.int IntKind.i64 (Int.ofNat 0)), AV.d (DV.int IntKind.i64 (Int.ofNat 0)), AV.d (DV.str []), AV.d (DV.str [])] [(1, 1)]) [Opd.t 10],
            Ins.mk (some 3) none (Act.new 86 [AV.d (DV.int IntKind.i64 (Int.ofNat 0)), AV.d (DV.int IntKind.i64 (Int.ofNat 0)), AV.d (DV.str []), AV.d (DV.str [])]) [], Ins.mk none none (Act.storeT 4) [Opd.t 3, Opd.t 11]])
        (CC.seq (CC.reg none [Ins.mk (some 4) none Act.mv [Opd.k (AV.d (DV.int IntKind.i64 (Int.ofNat 64)))]])
          (CC.seq
            (CC.reg (some [])
              [Ins.mk (some 12) none Act.mv [Opd.t 0], Ins.mk (some 13) none Act.nilck [Opd.t 12], Ins.mk (some 14) none (Act.fad 0) [Opd.t 13], Ins.mk (some 15) none (Act.load none) [Opd.t 14], Ins.mk (some 16) none Act.mv [Opd.t 0], Ins.mk (some 17) none Act.nilck [Opd.t 16],
                Ins.mk (some 18) none (Act.fad 1) [Opd.t 17], Ins.mk (some 19) none (Act.load none) [Opd.t 18], Ins.mk (some 20) none Act.idxs [Opd.t 15, Opd.t 19], Ins.mk (some 5) none Act.mv [Opd.t 20]])
            (CC.seq
              (CC.seq
                (CC.reg (some [])
                  [Ins.mk (some 21) none Act.mv [Opd.t 0], Ins.mk (some 22) none Act.nilck [Opd.t 21], Ins.mk (some 23) none (Act.fad 0) [Opd.t 22], Ins.mk (some 24) none (Act.load none) [Opd.t 23], Ins.mk (some 25) none Act.mv [Opd.t 0], Ins.mk (some 26) none Act.nilck [Opd.t 25],
                    Ins.mk (some 27) none (Act.fad 1) [Opd.t 26], Ins.mk (some 28) none (Act.load none) [Opd.t 27], Ins.mk (some 29) none (Act.cuts true false) [Opd.t 24, Opd.t 28], Ins.mk (some 30) none (Act.call true) [Opd.k (AV.fn Mode.pure 155 [] []), Opd.t 29],
                    Ins.mk (some 6) none Act.mv [Opd.t 30]])
                (CC.block 0
                  (CC.seq (CC.reg none [Ins.mk (some 36) none Act.mv [Opd.t 6], Ins.mk (some 37) none (Act.bin BinOp.gtr (EqK.nil 10)) [Opd.t 36, Opd.k (AV.d (DV.int IntKind.i64 (Int.ofNat 0)))], Ins.mk (some 35) none Act.mv [Opd.t 37]])
                    (CC.cond (Opd.t 35)
                      (CC.seq
                        (CC.reg (some [(40, 1, 53, 1), (44, 1, 53, 1), (48, 1, 53, 1)])
                          [Ins.mk (some 38) none Act.mv [Opd.t 0], Ins.mk (some 39) none Act.nilck [Opd.t 38], Ins.mk (some 40) none (Act.fad 0) [Opd.t 39], Ins.mk (some 41) none (Act.load none) [Opd.t 40], Ins.mk (some 42) none Act.mv [Opd.t 0], Ins.mk (some 43) none Act.nilck [Opd.t 42],
                            Ins.mk (some 44) none (Act.fad 1) [Opd.t 43], Ins.mk (some 45) none (Act.load none) [Opd.t 44], Ins.mk (some 46) none Act.mv [Opd.t 0], Ins.mk (some 47) none Act.nilck [Opd.t 46], Ins.mk (some 48) none (Act.fad 1) [Opd.t 47],
                            Ins.mk (some 49) none (Act.load none) [Opd.t 48], Ins.mk (some 50) none Act.mv [Opd.t 6], Ins.mk (some 51) none (Act.bin BinOp.add (EqK.nil 10)) [Opd.t 49, Opd.t 50], Ins.mk (some 52) none (Act.cuts true true) [Opd.t 41, Opd.t 45, Opd.t 51],
                            Ins.mk (some 53) none (Act.fad 0) [Opd.t 3], Ins.mk none none (Act.store 1) [Opd.t 53, Opd.k (AV.d (DV.int IntKind.i64 (Int.ofNat 3)))], Ins.mk (some 54) none (Act.fad 3) [Opd.t 3], Ins.mk none none (Act.store 1) [Opd.t 54, Opd.t 52]])
                        (CC.seq
                          (CC.reg none
                            [Ins.mk (some 55) none Act.mv [Opd.t 0], Ins.mk (some 56) none Act.nilck [Opd.t 55], Ins.mk (some 57) none (Act.fad 1) [Opd.t 56], Ins.mk (some 58) none (Act.load none) [Opd.t 57], Ins.mk (some 59) none Act.mv [Opd.t 6],
                              Ins.mk (some 60) none (Act.bin BinOp.add (EqK.nil 10)) [Opd.t 58, Opd.t 59], Ins.mk (some 61) none Act.nilck [Opd.t 55], Ins.mk (some 62) none (Act.fad 1) [Opd.t 61], Ins.mk none none (Act.storeT 1) [Opd.t 62, Opd.t 60]])
                          (CC.seq (CC.reg none [Ins.mk (some 63) none Act.mv [Opd.t 0], Ins.mk (some 64) none (Act.call false) [Opd.k (AV.fn Mode.drop 156 [] []), Opd.t 63, Opd.k (AV.d (DV.int IntKind.i64 (Int.ofNat 0))), Opd.k (AV.fn Mode.pure 157 [] [])]])
                            (CC.cond (Opd.t 64)
                              (CC.seq (CC.reg none [Ins.mk (some 65) none (Act.fad 0) [Opd.t 3], Ins.mk none none (Act.storeT 1) [Opd.t 65, Opd.k (AV.d (DV.int IntKind.i64 (Int.ofNat 4)))]])
                                (CC.reg none
                                  [Ins.mk (some 66) none Act.mv [Opd.t 0], Ins.mk (some 67) none Act.nilck [Opd.t 66], Ins.mk (some 68) none (Act.fad 1) [Opd.t 67], Ins.mk (some 69) none (Act.load none) [Opd.t 68],
                                    Ins.mk (some 70) none (Act.bin BinOp.add (EqK.nil 10)) [Opd.t 69, Opd.k (AV.d (DV.int IntKind.i64 (Int.ofNat 1)))], Ins.mk (some 71) none Act.nilck [Opd.t 66], Ins.mk (some 72) none (Act.fad 1) [Opd.t 71], Ins.mk none none (Act.storeT 1) [Opd.t 72, Opd.t 70]]))
                              (CC.seq (CC.reg none [Ins.mk (some 73) none Act.mv [Opd.t 0], Ins.mk (some 74) none (Act.call false) [Opd.k (AV.fn Mode.drop 158 [] []), Opd.t 73]])
                                (CC.cond (Opd.t 74)
                                  (CC.reg none
                                    [Ins.mk (some 75) none Act.mv [Opd.t 0], Ins.mk (some 76) none (Act.call false) [Opd.k (AV.fn Mode.drop 159 [] []), Opd.t 75], Ins.mk (some 77) none (Act.fad 0) [Opd.t 3], Ins.mk none none (Act.storeT 1) [Opd.t 77, Opd.k (AV.d (DV.int IntKind.i64 (Int.ofNat 5)))],
                                      Ins.mk (some 78) none (Act.fad 2) [Opd.t 3], Ins.mk none none (Act.storeT 1) [Opd.t 78, Opd.t 76]])
                                  CC.skip))))))
                      (CC.seq (CC.reg none [Ins.mk (some 80) none Act.mv [Opd.t 0], Ins.mk (some 81) none (Act.call false) [Opd.k (AV.fn Mode.drop 158 [] []), Opd.t 80], Ins.mk (some 79) none Act.mv [Opd.t 81]])
                        (CC.cond (Opd.t 79)
                          (CC.seq
                            (CC.reg none
                              [Ins.mk (some 82) none Act.mv [Opd.t 0], Ins.mk (some 83) none (Act.call false) [Opd.k (AV.fn Mode.drop 159 [] []), Opd.t 82], Ins.mk (some 84) none (Act.fad 0) [Opd.t 3], Ins.mk none none (Act.storeT 1) [Opd.t 84, Opd.k (AV.d (DV.int IntKind.i64 (Int.ofNat 1)))],
                                Ins.mk (some 85) none (Act.fad 2) [Opd.t 3], Ins.mk none none (Act.storeT 1) [Opd.t 85, Opd.t 83]])
                            (CC.seq (CC.reg none [Ins.mk (some 86) none Act.mv [Opd.t 0], Ins.mk (some 87) none (Act.call false) [Opd.k (AV.fn Mode.drop 156 [] []), Opd.t 86, Opd.k (AV.d (DV.int IntKind.i64 (Int.ofNat 0))), Opd.k (AV.fn Mode.pure 160 [] [])]])
                              (CC.cond (Opd.t 87)
                                (CC.seq (CC.reg none [Ins.mk (some 88) none (Act.fad 0) [Opd.t 3], Ins.mk none none (Act.storeT 1) [Opd.t 88, Opd.k (AV.d (DV.int IntKind.i64 (Int.ofNat 2)))]])
                                  (CC.reg none
                                    [Ins.mk (some 89) none Act.mv [Opd.t 0], Ins.mk (some 90) none Act.nilck [Opd.t 89], Ins.mk (some 91) none (Act.fad 1) [Opd.t 90], Ins.mk (some 92) none (Act.load none) [Opd.t 91],
                                      Ins.mk (some 93) none (Act.bin BinOp.add (EqK.nil 10)) [Opd.t 92, Opd.k (AV.d (DV.int IntKind.i64 (Int.ofNat 1)))], Ins.mk (some 94) none Act.nilck [Opd.t 89], Ins.mk (some 95) none (Act.fad 1) [Opd.t 94], Ins.mk none none (Act.storeT 1) [Opd.t 95, Opd.t 93]]))
                                CC.skip)))
                          (CC.seq
                            (CC.reg none
                              [Ins.mk (some 97) none Act.mv [Opd.t 5], Ins.mk (some 98) none (Act.bin BinOp.eql (EqK.nil 10)) [Opd.t 97, Opd.k (AV.d (DV.int IntKind.u8 (Int.ofNat 34)))], Ins.mk (some 99) none Act.mv [Opd.t 98], Ins.mk (some 100) (some (99, false)) Act.mv [Opd.t 5],
                                Ins.mk (some 101) (some (99, false)) (Act.bin BinOp.eql (EqK.nil 10)) [Opd.t 100, Opd.k (AV.d (DV.int IntKind.u8 (Int.ofNat 39)))], Ins.mk (some 102) none Act.pick [Opd.t 99, Opd.k (AV.d (DV.bool true)), Opd.t 101], Ins.mk (some 96) none Act.mv [Opd.t 102]])
                            (CC.cond (Opd.t 96)
                              (CC.seq
                                (CC.reg none
                                  [Ins.mk (some 103) none Act.mv [Opd.t 0], Ins.mk (some 104) none (Act.call false) [Opd.k (AV.fn Mode.drop 161 [] []), Opd.t 103], Ins.mk (some 105) none (Act.fad 0) [Opd.t 3],
                                    Ins.mk none none (Act.storeT 1) [Opd.t 105, Opd.k (AV.d (DV.int IntKind.i64 (Int.ofNat 6)))], Ins.mk (some 106) none (Act.fad 2) [Opd.t 3], Ins.mk none none (Act.storeT 1) [Opd.t 106, Opd.t 104]])
                                (CC.reg none [Ins.mk (some 4) none Act.mv [Opd.k (AV.d (DV.int IntKind.i64 (Int.ofNat 8192)))]]))
                              (CC.seq
                                (CC.reg none
                                  [Ins.mk (some 108) none Act.mv [Opd.t 5],
                                    Ins.mk (some 109) none (Act.call false)
                                      [Opd.k (AV.fn Mode.pure 162 [] []), Opd.k (AV.d (DV.str [UInt8.ofNat 44, UInt8.ofNat 47, UInt8.ofNat 58, UInt8.ofNat 59, UInt8.ofNat 123, UInt8.ofNat 125, UInt8.ofNat 91, UInt8.ofNat 93, UInt8.ofNat 40, UInt8.ofNat 41])), Opd.t 108],
                                    Ins.mk (some 110) none (Act.bin BinOp.geq (EqK.nil 10)) [Opd.t 109, Opd.k (AV.d (DV.int IntKind.i64 (Int.ofNat 0)))], Ins.mk (some 107) none Act.mv [Opd.t 110]])
                                (CC.cond (Opd.t 107)
                                  (CC.seq
                                    (CC.reg (some [(113, 1, 125, 1), (117, 1, 125, 1), (121, 1, 125, 1)])
                                      [Ins.mk (some 111) none Act.mv [Opd.t 0], Ins.mk (some 112) none Act.nilck [Opd.t 111], Ins.mk (some 113) none (Act.fad 0) [Opd.t 112], Ins.mk (some 114) none (Act.load none) [Opd.t 113], Ins.mk (some 115) none Act.mv [Opd.t 0],
                                        Ins.mk (some 116) none Act.nilck [Opd.t 115], Ins.mk (some 117) none (Act.fad 1) [Opd.t 116], Ins.mk (some 118) none (Act.load none) [Opd.t 117], Ins.mk (some 119) none Act.mv [Opd.t 0], Ins.mk (some 120) none Act.nilck [Opd.t 119],
                                        Ins.mk (some 121) none (Act.fad 1) [Opd.t 120], Ins.mk (some 122) none (Act.load none) [Opd.t 121], Ins.mk (some 123) none (Act.bin BinOp.add (EqK.nil 10)) [Opd.t 122, Opd.k (AV.d (DV.int IntKind.i64 (Int.ofNat 1)))],
                                        Ins.mk (some 124) none (Act.cuts true true) [Opd.t 114, Opd.t 118, Opd.t 123], Ins.mk (some 125) none (Act.fad 0) [Opd.t 3], Ins.mk none none (Act.store 1) [Opd.t 125, Opd.k (AV.d (DV.int IntKind.i64 (Int.ofNat 7)))],
                                        Ins.mk (some 126) none (Act.fad 2) [Opd.t 3], Ins.mk none none (Act.store 1) [Opd.t 126, Opd.t 124]])
                                    (CC.reg none
                                      [Ins.mk (some 127) none Act.mv [Opd.t 0], Ins.mk (some 128) none Act.nilck [Opd.t 127], Ins.mk (some 129) none (Act.fad 1) [Opd.t 128], Ins.mk (some 130) none (Act.load none) [Opd.t 129],
                                        Ins.mk (some 131) none (Act.bin BinOp.add (EqK.nil 10)) [Opd.t 130, Opd.k (AV.d (DV.int IntKind.i64 (Int.ofNat 1)))], Ins.mk (some 132) none Act.nilck [Opd.t 127], Ins.mk (some 133) none (Act.fad 1) [Opd.t 132],
                                        Ins.mk none none (Act.storeT 1) [Opd.t 133, Opd.t 131]]))
                                  (CC.reg none
                                    [Ins.mk (some 31) none Act.mv [Opd.t 0], Ins.mk (some 32) none (Act.fad 1) [Opd.t 3], Ins.mk (some 33) none (Act.load none) [Opd.t 32],
                                      Ins.mk (some 34) none (Act.call false) [Opd.k (AV.fn Mode.drop 121 [] []), Opd.t 31, Opd.t 33, Opd.k (AV.d (DV.int IntKind.i64 (Int.ofNat 30)))]])))))))))))
              (CC.seq (CC.fgt [0, 2, 3, 4])
                (CC.seq
                  (CC.seq
                    (CC.reg none [Ins.mk (some 134) none (Act.fad 2) [Opd.t 3], Ins.mk (some 135) none (Act.load none) [Opd.t 134], Ins.mk (some 136) none Act.lens [Opd.t 135], Ins.mk (some 137) none Act.mv [Opd.t 4], Ins.mk (some 138) none (Act.bin BinOp.gtr (EqK.nil 10)) [Opd.t 136, Opd.t 137]])
                    (CC.cond (Opd.t 138)
                      (CC.reg none
                        [Ins.mk (some 139) none Act.mv [Opd.t 0], Ins.mk (some 140) none (Act.fad 1) [Opd.t 3], Ins.mk (some 141) none (Act.load none) [Opd.t 140],
                          Ins.mk (some 142) none (Act.call false) [Opd.k (AV.fn Mode.drop 121 [] []), Opd.t 139, Opd.t 141, Opd.k (AV.d (DV.int IntKind.i64 (Int.ofNat 52)))]])
                      CC.skip))
                  (CC.seq (CC.fgt [2, 3]) (CC.seq (CC.reg none [Ins.mk (some 143) none (Act.load (some 4)) [Opd.t 3], Ins.mk none none (Act.storeT 4) [Opd.t 2, Opd.t 143]]) CC.ret)))))))))
    [RV.cell 2 (some 4)]
theorem code120_ok : F0 120 = some (.code code120) := by kernel_rfl
def code157 : CFn :=
  CFn.mk
    (CC.seq (CC.reg none [Ins.mk (some 2) none Act.mv [Opd.k (AV.d (DV.bool false))]])
      (CC.seq (CC.reg none [Ins.mk (some 3) none Act.mv [Opd.t 0], Ins.mk (some 4) none (Act.bin BinOp.eql (EqK.nil 10)) [Opd.t 3, Opd.k (AV.d (DV.int IntKind.u8 (Int.ofNat 37)))], Ins.mk (some 2) none Act.mv [Opd.t 4]]) CC.ret))
    [RV.tmp 2]
theorem code157_ok : F0 157 = some (.code code157) := by kernel_rfl
def code160 : CFn :=
  CFn.mk
    (CC.seq (CC.reg none [Ins.mk (some 2) none Act.mv [Opd.k (AV.d (DV.bool false))]])
      (CC.seq (CC.reg none [Ins.mk (some 3) none Act.mv [Opd.t 0], Ins.mk (some 4) none (Act.bin BinOp.eql (EqK.nil 10)) [Opd.t 3, Opd.k (AV.d (DV.int IntKind.u8 (Int.ofNat 40)))], Ins.mk (some 2) none Act.mv [Opd.t 4]]) CC.ret))
    [RV.tmp 2]
theorem code160_ok : F0 160 = some (.code code160) := by kernel_rfl
def code144 : CFn :=
  CFn.mk
    (CC.seq (CC.reg none [Ins.mk (some 2) none Act.mv [Opd.k (AV.d (DV.str []))]])
      (CC.seq
        (CC.reg (some [])
          [Ins.mk (some 3) none Act.mv [Opd.t 0], Ins.mk (some 4) none Act.nilck [Opd.t 3], Ins.mk (some 5) none (Act.fad 1) [Opd.t 4], Ins.mk (some 6) none (Act.load none) [Opd.t 5], Ins.mk (some 7) none Act.sdat [Opd.t 6], Ins.mk (some 8) none Act.mv [Opd.t 0],
            Ins.mk (some 9) none Act.nilck [Opd.t 8], Ins.mk (some 10) none (Act.fad 1) [Opd.t 9], Ins.mk (some 11) none (Act.load none) [Opd.t 10], Ins.mk (some 12) none Act.len [Opd.t 11], Ins.mk (some 13) none (Act.ustr 5) [Opd.t 7, Opd.t 12], Ins.mk (some 2) none Act.mv [Opd.t 13]])
        CC.ret))
    [RV.tmp 2]
theorem code144_ok : F0 144 = some (.code code144) := by kernel_rfl
def code203 : CFn :=
  CFn.mk
    (CC.seq (CC.reg none [Ins.mk (some 4) none Act.mv [Opd.k (AV.d DV.nili)]])
      (CC.seq (CC.reg none [Ins.mk (some 5) none Act.mv [Opd.t 0], Ins.mk (some 6) none (Act.call false) [Opd.k (AV.fn Mode.opn 190 [] []), Opd.t 5]])
        (CC.seq
          (CC.reg none
            [Ins.mk (some 7) none Act.mv [Opd.t 0], Ins.mk (some 8) none Act.mv [Opd.t 0], Ins.mk (some 9) none Act.nilck [Opd.t 8], Ins.mk (some 10) none (Act.fad 1) [Opd.t 9], Ins.mk (some 11) none (Act.load none) [Opd.t 10], Ins.mk (some 12) none Act.mv [Opd.t 1],
              Ins.mk (some 13) none (Act.bslT 5 1 [DV.int IntKind.u8 (Int.ofNat 0)] 1 [0]) [Opd.t 12], Ins.mk (some 14) none (Act.app 5 1 1) [Opd.t 11, Opd.t 13], Ins.mk (some 15) none Act.nilck [Opd.t 7], Ins.mk (some 16) none (Act.fad 1) [Opd.t 15],
              Ins.mk none none (Act.storeT 1) [Opd.t 16, Opd.t 14]])
          (CC.seq (CC.reg none [Ins.mk (some 4) none Act.mv [Opd.k (AV.d DV.nili)]]) CC.ret))))
    [RV.tmp 4]
theorem code203_ok : F0 203 = some (.code code203) := by kernel_rfl
def code190 : CFn :=
  CFn.mk
    (CC.seq (CC.reg none [Ins.mk (some 2) none Act.mv [Opd.t 0], Ins.mk (some 3) none Act.nilck [Opd.t 2], Ins.mk (some 4) none (Act.fad 0) [Opd.t 3], Ins.mk (some 5) none (Act.load none) [Opd.t 4], Ins.mk (some 6) none (Act.bin BinOp.eql (EqK.nil 0)) [Opd.t 5, Opd.k (AV.d DV.nilp)]])
      (CC.cond (Opd.t 6)
        (CC.reg none
          [Ins.mk (some 7) none Act.mv [Opd.t 0], Ins.mk (some 8) none Act.mv [Opd.t 0], Ins.mk (some 9) none Act.cvu [Opd.t 8], Ins.mk (some 10) none (Act.call false) [Opd.k (AV.fn Mode.drop 219 [] []), Opd.t 9], Ins.mk (some 11) none (Act.cvp 167 2) [Opd.t 10],
            Ins.mk (some 12) none Act.nilck [Opd.t 7], Ins.mk (some 13) none (Act.fad 0) [Opd.t 12], Ins.mk none none (Act.storeT 1) [Opd.t 13, Opd.t 11]])
        (CC.seq
          (CC.reg none
            [Ins.mk (some 14) none Act.mv [Opd.t 0], Ins.mk (some 15) none Act.nilck [Opd.t 14], Ins.mk (some 16) none (Act.fad 0) [Opd.t 15], Ins.mk (some 17) none (Act.load none) [Opd.t 16], Ins.mk (some 18) none Act.mv [Opd.t 0],
              Ins.mk (some 19) none (Act.bin BinOp.neq (EqK.nil 0)) [Opd.t 17, Opd.t 18]])
          (CC.cond (Opd.t 19) CC.bad CC.skip))))
    []
theorem code190_ok : F0 190 = some (.code code190) := by kernel_rfl
def code173 : CFn :=
  CFn.mk
    (CC.seq (CC.reg none [Ins.mk (some 1) none (Act.box 192) [Opd.t 0], Ins.mk (some 2) none Act.mv [Opd.k (AV.d (DV.int IntKind.i64 (Int.ofNat 0)))]])
      (CC.seq (CC.reg none [Ins.mk (some 3) none Act.mv [Opd.k (AV.d (DV.int IntKind.i64 (Int.ofNat 0)))]])
        (CC.seq
          (CC.seq (CC.reg none [Ins.mk (some 5) none (Act.fad 3) [Opd.t 1], Ins.mk (some 6) none (Act.load none) [Opd.t 5], Ins.mk (some 7) none Act.lens [Opd.t 6], Ins.mk (some 8) none Act.mv [Opd.k (AV.d (DV.int IntKind.i64 (Int.ofNat 0)))]])
            (CC.block 0
              (CC.loop [1, 2, 3, 7, 8]
                (CC.seq (CC.reg none [Ins.mk (some 9) none (Act.bin BinOp.lss (EqK.nil 10)) [Opd.t 8, Opd.t 7]])
                  (CC.seq (CC.cond (Opd.t 9) CC.skip (CC.exit 0))
                    (CC.seq (CC.fgt [1, 2, 3, 7, 8])
                      (CC.seq
                        (CC.block 1
                          (CC.seq (CC.reg none [Ins.mk (some 10) none Act.mv [Opd.t 8], Ins.mk (some 4) none Act.mv [Opd.t 10]])
                            (CC.seq
                              (CC.reg none
                                [Ins.mk (some 11) none (Act.fad 3) [Opd.t 1], Ins.mk (some 12) none (Act.load none) [Opd.t 11], Ins.mk (some 13) none Act.mv [Opd.t 4], Ins.mk (some 14) none Act.idxs [Opd.t 12, Opd.t 13],
                                  Ins.mk (some 15) none (Act.call false) [Opd.k (AV.fn Mode.pure 213 [] []), Opd.t 14]])
                              (CC.cond (Opd.t 15)
                                (CC.reg none
                                  [Ins.mk (some 16) none Act.mv [Opd.t 3], Ins.mk (some 17) none (Act.bin BinOp.mul (EqK.nil 10)) [Opd.k (AV.d (DV.int IntKind.i64 (Int.ofNat 10))), Opd.t 16], Ins.mk (some 18) none (Act.fad 3) [Opd.t 1], Ins.mk (some 19) none (Act.load none) [Opd.t 18],
                                    Ins.mk (some 20) none Act.mv [Opd.t 4], Ins.mk (some 21) none Act.idxs [Opd.t 19, Opd.t 20], Ins.mk (some 22) none (Act.bin BinOp.sub (EqK.nil 10)) [Opd.t 21, Opd.k (AV.d (DV.int IntKind.u8 (Int.ofNat 48)))], Ins.mk (some 23) none (Act.cvi IntKind.i64) [Opd.t 22],
                                    Ins.mk (some 24) none (Act.bin BinOp.add (EqK.nil 10)) [Opd.t 17, Opd.t 23], Ins.mk (some 25) none Act.min [Opd.k (AV.d (DV.int IntKind.i64 (Int.ofNat 1000))), Opd.t 24], Ins.mk (some 3) none Act.mv [Opd.t 25]])
                                CC.skip))))
                        (CC.seq (CC.fgt [1, 2, 3, 7, 8]) (CC.reg none [Ins.mk (some 26) none (Act.bin BinOp.add (EqK.nil 10)) [Opd.t 8, Opd.k (AV.d (DV.int IntKind.i64 (Int.ofNat 1)))], Ins.mk (some 8) none Act.mv [Opd.t 26]])))))))))
          (CC.seq (CC.fgt [1, 2, 3])
            (CC.seq
              (CC.seq
                (CC.reg none
                  [Ins.mk (some 27) none (Act.fad 3) [Opd.t 1], Ins.mk (some 28) none (Act.load none) [Opd.t 27], Ins.mk (some 29) none (Act.bin BinOp.neq (EqK.nil 10)) [Opd.t 28, Opd.k (AV.d (DV.str []))], Ins.mk (some 30) none Act.mv [Opd.t 29],
                    Ins.mk (some 31) (some (30, true)) (Act.fad 3) [Opd.t 1], Ins.mk (some 32) (some (30, true)) (Act.load none) [Opd.t 31], Ins.mk (some 33) (some (30, true)) Act.idxs [Opd.t 32, Opd.k (AV.d (DV.int IntKind.i64 (Int.ofNat 0)))],
                    Ins.mk (some 34) (some (30, true)) (Act.bin BinOp.eql (EqK.nil 10)) [Opd.t 33, Opd.k (AV.d (DV.int IntKind.u8 (Int.ofNat 45)))], Ins.mk (some 35) none Act.pick [Opd.t 30, Opd.t 34, Opd.k (AV.d (DV.bool false))]])
                (CC.cond (Opd.t 35) (CC.seq (CC.reg none [Ins.mk (some 36) none Act.mv [Opd.t 3], Ins.mk (some 37) none (Act.un UnOp.neg) [Opd.t 36], Ins.mk (some 2) none Act.mv [Opd.t 37]]) CC.ret) CC.skip))
              (CC.seq (CC.fgt [2, 3]) (CC.seq (CC.reg none [Ins.mk (some 38) none Act.mv [Opd.t 3], Ins.mk (some 2) none Act.mv [Opd.t 38]]) CC.ret)))))))
    [RV.tmp 2]
theorem code173_ok : F0 173 = some (.code code173) := by kernel_rfl
def code197 : CFn :=
  CFn.mk
    (CC.seq (CC.reg none [Ins.mk (some 4) none Act.mv [Opd.k (AV.d (DV.bool false))]])
      (CC.seq
        (CC.reg none
          [Ins.mk (some 5) none Act.mv [Opd.t 0], Ins.mk (some 6) none Act.lens [Opd.t 5], Ins.mk (some 7) none Act.mv [Opd.t 1], Ins.mk (some 8) none Act.lens [Opd.t 7], Ins.mk (some 9) none (Act.bin BinOp.geq (EqK.nil 10)) [Opd.t 6, Opd.t 8], Ins.mk (some 10) none Act.mv [Opd.t 9],
            Ins.mk (some 11) (some (10, true)) Act.mv [Opd.t 0], Ins.mk (some 12) (some (10, true)) Act.mv [Opd.t 1], Ins.mk (some 13) (some (10, true)) Act.lens [Opd.t 12], Ins.mk (some 14) (some (10, true)) (Act.cuts false true) [Opd.t 11, Opd.t 13],
            Ins.mk (some 15) (some (10, true)) Act.mv [Opd.t 1], Ins.mk (some 16) (some (10, true)) (Act.bin BinOp.eql (EqK.nil 10)) [Opd.t 14, Opd.t 15], Ins.mk (some 17) none Act.pick [Opd.t 10, Opd.t 16, Opd.k (AV.d (DV.bool false))], Ins.mk (some 4) none Act.mv [Opd.t 17]])
        CC.ret))
    [RV.tmp 4]
theorem code197_ok : F0 197 = some (.code code197) := by kernel_rfl
def code16 : CFn :=
  CFn.mk
    (CC.seq (CC.reg none [Ins.mk (some 6) none Act.mv [Opd.k (AV.d (DV.int IntKind.i64 (Int.ofNat 0)))], Ins.mk (some 7) none Act.mv [Opd.k (AV.d (DV.int IntKind.i64 (Int.ofNat 0)))], Ins.mk (some 8) none Act.mv [Opd.k (AV.d (DV.int IntKind.i64 (Int.ofNat 0)))]])
      (CC.seq
        (CC.seq (CC.reg none [Ins.mk (some 9) none Act.mv [Opd.k (AV.d (DV.int IntKind.i64 (Int.ofNat 1)))]])
          (CC.block 0
            (CC.loop [0, 1, 2, 6, 7, 8, 9]
              (CC.seq (CC.seq (CC.reg none [Ins.mk (some 14) none Act.mv [Opd.t 9], Ins.mk (some 15) none (Act.bin BinOp.leq (EqK.nil 10)) [Opd.t 14, Opd.k (AV.d (DV.int IntKind.i64 (Int.ofNat 9)))]]) (CC.cond (Opd.t 15) CC.skip (CC.exit 0)))
                (CC.seq (CC.fgt [0, 1, 2, 6, 7, 8, 9])
                  (CC.seq
                    (CC.block 1
                      (CC.seq
                        (CC.reg none
                          [Ins.mk (some 19) none Act.mv [Opd.t 0], Ins.mk (some 20) none Act.mv [Opd.t 1], Ins.mk (some 21) none Act.mv [Opd.t 9], Ins.mk (some 22) none (Act.call false) [Opd.k (AV.fn Mode.pure 53 [] []), Opd.t 21], Ins.mk (some 23) none (Act.bslT 9 1 [DV.str []] 1 [0]) [Opd.t 22],
                            Ins.mk (some 24) none (Act.call false) [Opd.k (AV.fn Mode.pure 62 [] []), Opd.t 19, Opd.t 20, Opd.t 23], Ins.mk (some 18) none Act.mv [Opd.t 24], Ins.mk (some 25) none (Act.ext 0) [Opd.t 18], Ins.mk (some 26) none (Act.ext 1) [Opd.t 18],
                            Ins.mk (some 10) none Act.mv [Opd.t 25], Ins.mk (some 11) none Act.mv [Opd.t 26]])
                        (CC.seq
                          (CC.reg none
                            [Ins.mk (some 27) none Act.mv [Opd.t 10], Ins.mk (some 28) none (Act.bin BinOp.eql (EqK.nil 10)) [Opd.t 27, Opd.k (AV.d (DV.int IntKind.i64 (Int.ofNat 0)))], Ins.mk (some 29) none Act.mv [Opd.t 28], Ins.mk (some 30) (some (29, true)) Act.mv [Opd.t 9],
                              Ins.mk (some 31) (some (29, true)) Act.mv [Opd.t 2], Ins.mk (some 32) (some (29, true)) (Act.call false) [Opd.k (AV.fn Mode.pure 51 [] []), Opd.t 30, Opd.t 31], Ins.mk (some 33) none Act.pick [Opd.t 29, Opd.t 32, Opd.k (AV.d (DV.bool false))]])
                          (CC.cond (Opd.t 33)
                            (CC.seq (CC.reg none [Ins.mk (some 34) none Act.mv [Opd.t 9], Ins.mk (some 35) none Act.mv [Opd.t 11], Ins.mk (some 6) none Act.mv [Opd.t 34], Ins.mk (some 7) none Act.mv [Opd.t 35], Ins.mk (some 8) none Act.mv [Opd.k (AV.d (DV.int IntKind.i64 (Int.ofNat 0)))]]) CC.ret)
                            CC.skip))))
                    (CC.seq (CC.fgt [0, 1, 2, 6, 7, 8, 9]) (CC.reg none [Ins.mk (some 16) none Act.mv [Opd.t 9], Ins.mk (some 17) none (Act.bin BinOp.add (EqK.nil 10)) [Opd.t 16, Opd.k (AV.d (DV.int IntKind.i64 (Int.ofNat 1)))], Ins.mk (some 9) none Act.mv [Opd.t 17]]))))))))
        (CC.seq (CC.fgt [0, 1, 6, 7, 8])
          (CC.seq
            (CC.seq
              (CC.reg none
                [Ins.mk (some 37) none Act.mv [Opd.t 0], Ins.mk (some 38) none Act.mv [Opd.t 1],
                  Ins.mk (some 39) none (Act.bslT 9 1 [DV.str []] 16 [0, 1, 2, 3, 4, 5, 6, 7, 8, 9, 10, 11, 12, 13, 14, 15])
                    [Opd.k (AV.d (DV.str [UInt8.ofNat 98, UInt8.ofNat 97, UInt8.ofNat 115, UInt8.ofNat 101, UInt8.ofNat 108, UInt8.ofNat 105, UInt8.ofNat 110, UInt8.ofNat 101])), Opd.k (AV.d (DV.str [UInt8.ofNat 102, UInt8.ofNat 105, UInt8.ofNat 114, UInt8.ofNat 115, UInt8.ofNat 116])),
                      Opd.k (AV.d (DV.str [UInt8.ofNat 108, UInt8.ofNat 97, UInt8.ofNat 115, UInt8.ofNat 116])), Opd.k (AV.d (DV.str [UInt8.ofNat 115, UInt8.ofNat 97, UInt8.ofNat 102, UInt8.ofNat 101])),
                      Opd.k (AV.d (DV.str [UInt8.ofNat 117, UInt8.ofNat 110, UInt8.ofNat 115, UInt8.ofNat 97, UInt8.ofNat 102, UInt8.ofNat 101])), Opd.k (AV.d (DV.str [UInt8.ofNat 108, UInt8.ofNat 101, UInt8.ofNat 102, UInt8.ofNat 116])),
                      Opd.k (AV.d (DV.str [UInt8.ofNat 114, UInt8.ofNat 105, UInt8.ofNat 103, UInt8.ofNat 104, UInt8.ofNat 116])),
                      Opd.k (AV.d (DV.str [UInt8.ofNat 102, UInt8.ofNat 108, UInt8.ofNat 101, UInt8.ofNat 120, UInt8.ofNat 45, UInt8.ofNat 115, UInt8.ofNat 116, UInt8.ofNat 97, UInt8.ofNat 114, UInt8.ofNat 116])),
                      Opd.k (AV.d (DV.str [UInt8.ofNat 102, UInt8.ofNat 108, UInt8.ofNat 101, UInt8.ofNat 120, UInt8.ofNat 45, UInt8.ofNat 101, UInt8.ofNat 110, UInt8.ofNat 100])),
                      Opd.k (AV.d (DV.str [UInt8.ofNat 115, UInt8.ofNat 101, UInt8.ofNat 108, UInt8.ofNat 102, UInt8.ofNat 45, UInt8.ofNat 115, UInt8.ofNat 116, UInt8.ofNat 97, UInt8.ofNat 114, UInt8.ofNat 116])),
                      Opd.k (AV.d (DV.str [UInt8.ofNat 115, UInt8.ofNat 101, UInt8.ofNat 108, UInt8.ofNat 102, UInt8.ofNat 45, UInt8.ofNat 101, UInt8.ofNat 110, UInt8.ofNat 100])),
                      Opd.k (AV.d (DV.str [UInt8.ofNat 108, UInt8.ofNat 101, UInt8.ofNat 103, UInt8.ofNat 97, UInt8.ofNat 99, UInt8.ofNat 121])), Opd.k (AV.d (DV.str [UInt8.ofNat 105, UInt8.ofNat 110, UInt8.ofNat 104, UInt8.ofNat 101, UInt8.ofNat 114, UInt8.ofNat 105, UInt8.ofNat 116])),
                      Opd.k (AV.d (DV.str [UInt8.ofNat 105, UInt8.ofNat 110, UInt8.ofNat 105, UInt8.ofNat 116, UInt8.ofNat 105, UInt8.ofNat 97, UInt8.ofNat 108])), Opd.k (AV.d (DV.str [UInt8.ofNat 117, UInt8.ofNat 110, UInt8.ofNat 115, UInt8.ofNat 101, UInt8.ofNat 116])),
                      Opd.k (AV.d (DV.str [UInt8.ofNat 114, UInt8.ofNat 101, UInt8.ofNat 118, UInt8.ofNat 101, UInt8.ofNat 114, UInt8.ofNat 116]))],
                  Ins.mk (some 40) none (Act.call false) [Opd.k (AV.fn Mode.pure 62 [] []), Opd.t 37, Opd.t 38, Opd.t 39], Ins.mk (some 36) none Act.mv [Opd.t 40], Ins.mk (some 41) none (Act.ext 0) [Opd.t 36], Ins.mk (some 42) none (Act.ext 1) [Opd.t 36], Ins.mk (some 12) none Act.mv [Opd.t 41],
                  Ins.mk (some 13) none Act.mv [Opd.t 42]])
              (CC.seq (CC.reg none [Ins.mk (some 43) none Act.mv [Opd.t 12], Ins.mk (some 44) none (Act.bin BinOp.geq (EqK.nil 10)) [Opd.t 43, Opd.k (AV.d (DV.int IntKind.i64 (Int.ofNat 0)))]])
                (CC.cond (Opd.t 44)
                  (CC.seq (CC.reg none [Ins.mk (some 45) none Act.mv [Opd.t 1], Ins.mk (some 6) none Act.mv [Opd.k (AV.d (DV.int IntKind.i64 (Int.ofNat 0)))], Ins.mk (some 7) none Act.mv [Opd.t 45], Ins.mk (some 8) none Act.mv [Opd.k (AV.d (DV.int IntKind.i64 (Int.ofNat 51)))]]) CC.ret) CC.skip)))
            (CC.seq (CC.fgt [1, 6, 7, 8])
              (CC.seq (CC.reg none [Ins.mk (some 46) none Act.mv [Opd.t 1], Ins.mk (some 6) none Act.mv [Opd.k (AV.d (DV.int IntKind.i64 (Int.ofNat 0)))], Ins.mk (some 7) none Act.mv [Opd.t 46], Ins.mk (some 8) none Act.mv [Opd.k (AV.d (DV.int IntKind.i64 (Int.ofNat 50)))]]) CC.ret))))))
    [RV.tmp 6, RV.tmp 7, RV.tmp 8]
theorem code16_ok : F0 16 = some (.code code16) := by kernel_rfl
def code51 : CFn :=
  CFn.mk
    (CC.seq (CC.reg none [Ins.mk (some 4) none Act.mv [Opd.k (AV.d (DV.bool false))]])
      (CC.seq
        (CC.seq (CC.reg none [Ins.mk (some 5) none Act.mv [Opd.t 0]])
          (CC.block 0
            (CC.seq
              (CC.block 3
                (CC.block 2
                  (CC.seq
                    (CC.block 1
                      (CC.seq
                        (CC.seq (CC.seq (CC.reg none [Ins.mk (some 7) none (Act.bin BinOp.eql (EqK.nil 10)) [Opd.t 5, Opd.k (AV.d (DV.int IntKind.i64 (Int.ofNat 1)))], Ins.mk (some 6) none Act.mv [Opd.t 7]]) (CC.cond (Opd.t 6) (CC.exit 1) CC.skip))
                          (CC.seq (CC.fgt [0, 1, 4, 5])
                            (CC.seq (CC.seq (CC.reg none [Ins.mk (some 9) none (Act.bin BinOp.eql (EqK.nil 10)) [Opd.t 5, Opd.k (AV.d (DV.int IntKind.i64 (Int.ofNat 7)))], Ins.mk (some 8) none Act.mv [Opd.t 9]]) (CC.cond (Opd.t 8) (CC.exit 2) CC.skip))
                              (CC.seq (CC.fgt [0, 1, 4, 5])
                                (CC.seq
                                  (CC.seq (CC.reg none [Ins.mk (some 11) none (Act.bin BinOp.eql (EqK.nil 10)) [Opd.t 5, Opd.k (AV.d (DV.int IntKind.i64 (Int.ofNat 8)))], Ins.mk (some 10) none Act.mv [Opd.t 11]])
                                    (CC.cond (Opd.t 10) CC.skip (CC.reg none [Ins.mk (some 12) none (Act.bin BinOp.eql (EqK.nil 10)) [Opd.t 5, Opd.k (AV.d (DV.int IntKind.i64 (Int.ofNat 9)))], Ins.mk (some 10) none Act.mv [Opd.t 12]])))
                                  (CC.seq (CC.fgt [0, 1, 4, 10]) (CC.cond (Opd.t 10) (CC.exit 3) CC.skip)))))))
                        (CC.seq (CC.fgt [0, 1, 4]) (CC.exit 0))))
                    (CC.seq (CC.fgt [1, 4]) (CC.seq (CC.seq (CC.reg none [Ins.mk (some 13) none Act.mv [Opd.t 1], Ins.mk (some 14) none (Act.bin BinOp.eql (EqK.nil 10)) [Opd.t 13, Opd.k (AV.d (DV.int IntKind.i64 (Int.ofNat 1)))], Ins.mk (some 4) none Act.mv [Opd.t 14]]) CC.ret) (CC.exit 0))))))
              (CC.seq (CC.fgt [1, 4]) (CC.seq (CC.seq (CC.reg none [Ins.mk (some 15) none Act.mv [Opd.t 1], Ins.mk (some 16) none (Act.bin BinOp.eql (EqK.nil 10)) [Opd.t 15, Opd.k (AV.d (DV.int IntKind.i64 (Int.ofNat 3)))], Ins.mk (some 4) none Act.mv [Opd.t 16]]) CC.ret) (CC.exit 0))))))
        (CC.seq (CC.fgt [0, 1, 4])
          (CC.seq
            (CC.reg none
              [Ins.mk (some 17) none Act.mv [Opd.t 0], Ins.mk (some 18) none (Act.call false) [Opd.k (AV.fn Mode.pure 53 [] []), Opd.t 17], Ins.mk (some 19) none (Act.bin BinOp.neq (EqK.nil 10)) [Opd.t 18, Opd.k (AV.d (DV.str []))], Ins.mk (some 20) none Act.mv [Opd.t 19],
                Ins.mk (some 21) (some (20, true)) Act.mv [Opd.t 1], Ins.mk (some 22) (some (20, true)) (Act.bin BinOp.geq (EqK.nil 10)) [Opd.t 21, Opd.k (AV.d (DV.int IntKind.i64 (Int.ofNat 1)))], Ins.mk (some 23) none Act.pick [Opd.t 20, Opd.t 22, Opd.k (AV.d (DV.bool false))],
                Ins.mk (some 24) none Act.mv [Opd.t 23], Ins.mk (some 25) (some (24, true)) Act.mv [Opd.t 1], Ins.mk (some 26) (some (24, true)) (Act.bin BinOp.leq (EqK.nil 10)) [Opd.t 25, Opd.k (AV.d (DV.int IntKind.i64 (Int.ofNat 3)))],
                Ins.mk (some 27) none Act.pick [Opd.t 24, Opd.t 26, Opd.k (AV.d (DV.bool false))], Ins.mk (some 4) none Act.mv [Opd.t 27]])
            CC.ret))))
    [RV.tmp 4]
theorem code51_ok : F0 51 = some (.code code51) := by kernel_rfl
def code53 : CFn :=
  CFn.mk
    (CC.seq (CC.reg none [Ins.mk (some 2) none Act.mv [Opd.k (AV.d (DV.str []))]])
      (CC.seq
        (CC.seq (CC.reg none [Ins.mk (some 3) none Act.mv [Opd.t 0]])
          (CC.block 0
            (CC.seq (CC.reg none [Ins.mk (some 5) none (Act.bin BinOp.eql (EqK.nil 10)) [Opd.t 3, Opd.k (AV.d (DV.int IntKind.i64 (Int.ofNat 1)))], Ins.mk (some 4) none Act.mv [Opd.t 5]])
              (CC.cond (Opd.t 4) (CC.seq (CC.reg none [Ins.mk (some 2) none Act.mv [Opd.k (AV.d (DV.str [UInt8.ofNat 97, UInt8.ofNat 117, UInt8.ofNat 116, UInt8.ofNat 111]))]]) CC.ret)
                (CC.seq (CC.reg none [Ins.mk (some 7) none (Act.bin BinOp.eql (EqK.nil 10)) [Opd.t 3, Opd.k (AV.d (DV.int IntKind.i64 (Int.ofNat 2)))], Ins.mk (some 6) none Act.mv [Opd.t 7]])
                  (CC.cond (Opd.t 6) (CC.seq (CC.reg none [Ins.mk (some 2) none Act.mv [Opd.k (AV.d (DV.str [UInt8.ofNat 110, UInt8.ofNat 111, UInt8.ofNat 114, UInt8.ofNat 109, UInt8.ofNat 97, UInt8.ofNat 108]))]]) CC.ret)
                    (CC.seq (CC.reg none [Ins.mk (some 9) none (Act.bin BinOp.eql (EqK.nil 10)) [Opd.t 3, Opd.k (AV.d (DV.int IntKind.i64 (Int.ofNat 3)))], Ins.mk (some 8) none Act.mv [Opd.t 9]])
                      (CC.cond (Opd.t 8) (CC.seq (CC.reg none [Ins.mk (some 2) none Act.mv [Opd.k (AV.d (DV.str [UInt8.ofNat 115, UInt8.ofNat 116, UInt8.ofNat 97, UInt8.ofNat 114, UInt8.ofNat 116]))]]) CC.ret)
                        (CC.seq (CC.reg none [Ins.mk (some 11) none (Act.bin BinOp.eql (EqK.nil 10)) [Opd.t 3, Opd.k (AV.d (DV.int IntKind.i64 (Int.ofNat 4)))], Ins.mk (some 10) none Act.mv [Opd.t 11]])
                          (CC.cond (Opd.t 10) (CC.seq (CC.reg none [Ins.mk (some 2) none Act.mv [Opd.k (AV.d (DV.str [UInt8.ofNat 101, UInt8.ofNat 110, UInt8.ofNat 100]))]]) CC.ret)
                            (CC.seq (CC.reg none [Ins.mk (some 13) none (Act.bin BinOp.eql (EqK.nil 10)) [Opd.t 3, Opd.k (AV.d (DV.int IntKind.i64 (Int.ofNat 5)))], Ins.mk (some 12) none Act.mv [Opd.t 13]])
                              (CC.cond (Opd.t 12) (CC.seq (CC.reg none [Ins.mk (some 2) none Act.mv [Opd.k (AV.d (DV.str [UInt8.ofNat 99, UInt8.ofNat 101, UInt8.ofNat 110, UInt8.ofNat 116, UInt8.ofNat 101, UInt8.ofNat 114]))]]) CC.ret)
                                (CC.seq (CC.reg none [Ins.mk (some 15) none (Act.bin BinOp.eql (EqK.nil 10)) [Opd.t 3, Opd.k (AV.d (DV.int IntKind.i64 (Int.ofNat 6)))], Ins.mk (some 14) none Act.mv [Opd.t 15]])
                                  (CC.cond (Opd.t 14) (CC.seq (CC.reg none [Ins.mk (some 2) none Act.mv [Opd.k (AV.d (DV.str [UInt8.ofNat 115, UInt8.ofNat 116, UInt8.ofNat 114, UInt8.ofNat 101, UInt8.ofNat 116, UInt8.ofNat 99, UInt8.ofNat 104]))]]) CC.ret)
                                    (CC.seq (CC.reg none [Ins.mk (some 17) none (Act.bin BinOp.eql (EqK.nil 10)) [Opd.t 3, Opd.k (AV.d (DV.int IntKind.i64 (Int.ofNat 7)))], Ins.mk (some 16) none Act.mv [Opd.t 17]])
                                      (CC.cond (Opd.t 16)
                                        (CC.seq
                                          (CC.reg none
                                            [Ins.mk (some 2) none Act.mv
                                                [Opd.k (AV.d (DV.str [UInt8.ofNat 115, UInt8.ofNat 112, UInt8.ofNat 97, UInt8.ofNat 99, UInt8.ofNat 101, UInt8.ofNat 45, UInt8.ofNat 98, UInt8.ofNat 101, UInt8.ofNat 116, UInt8.ofNat 119, UInt8.ofNat 101, UInt8.ofNat 101, UInt8.ofNat 110]))]])
                                          CC.ret)
                                        (CC.seq (CC.reg none [Ins.mk (some 19) none (Act.bin BinOp.eql (EqK.nil 10)) [Opd.t 3, Opd.k (AV.d (DV.int IntKind.i64 (Int.ofNat 8)))], Ins.mk (some 18) none Act.mv [Opd.t 19]])
                                          (CC.cond (Opd.t 18)
                                            (CC.seq
                                              (CC.reg none
                                                [Ins.mk (some 2) none Act.mv
                                                    [Opd.k (AV.d (DV.str [UInt8.ofNat 115, UInt8.ofNat 112, UInt8.ofNat 97, UInt8.ofNat 99, UInt8.ofNat 101, UInt8.ofNat 45, UInt8.ofNat 97, UInt8.ofNat 114, UInt8.ofNat 111, UInt8.ofNat 117, UInt8.ofNat 110, UInt8.ofNat 100]))]])
                                              CC.ret)
                                            (CC.seq (CC.reg none [Ins.mk (some 21) none (Act.bin BinOp.eql (EqK.nil 10)) [Opd.t 3, Opd.k (AV.d (DV.int IntKind.i64 (Int.ofNat 9)))], Ins.mk (some 20) none Act.mv [Opd.t 21]])
                                              (CC.cond (Opd.t 20)
                                                (CC.seq
                                                  (CC.reg none
                                                    [Ins.mk (some 2) none Act.mv
                                                        [Opd.k (AV.d (DV.str [UInt8.ofNat 115, UInt8.ofNat 112, UInt8.ofNat 97, UInt8.ofNat 99, UInt8.ofNat 101, UInt8.ofNat 45, UInt8.ofNat 101, UInt8.ofNat 118, UInt8.ofNat 101, UInt8.ofNat 110, UInt8.ofNat 108, UInt8.ofNat 121]))]])
                                                  CC.ret)
                                                CC.skip))))))))))))))))))))
        (CC.seq (CC.fgt [2]) (CC.seq (CC.reg none [Ins.mk (some 2) none Act.mv [Opd.k (AV.d (DV.str []))]]) CC.ret))))
    [RV.tmp 2]
theorem code53_ok : F0 53 = some (.code code53) := by kernel_rfl
def code14 : CFn :=
  CFn.mk
    (CC.seq
      (CC.reg none
        [Ins.mk (some 4) none (Act.new 26 [AV.d (DV.int IntKind.i64 (Int.ofNat 0)), AV.d (DV.int IntKind.i64 (Int.ofNat 0))]) [], Ins.mk (some 5) none (Act.new 26 [AV.d (DV.int IntKind.i64 (Int.ofNat 0)), AV.d (DV.int IntKind.i64 (Int.ofNat 0))]) [],
          Ins.mk (some 6) none Act.mv [Opd.k (AV.d (DV.int IntKind.i64 (Int.ofNat 0)))], Ins.mk (some 7) none Act.mv [Opd.k (AV.d (DV.int IntKind.i64 (Int.ofNat 0)))]])
      (CC.seq
        (CC.reg none
          [Ins.mk (some 10) none Act.mv [Opd.t 0], Ins.mk (some 11) none Act.mv [Opd.t 1], Ins.mk (some 12) none (Act.call false) [Opd.k (AV.fn Mode.pure 58 [] []), Opd.t 10, Opd.t 11, Opd.k (AV.d (DV.int IntKind.i64 (Int.ofNat 1))), Opd.k (AV.d (DV.int IntKind.i64 (Int.ofNat 2)))],
            Ins.mk (some 9) none Act.mv [Opd.t 12], Ins.mk (some 13) none (Act.ext 0) [Opd.t 9], Ins.mk (some 14) none (Act.ext 1) [Opd.t 9], Ins.mk (some 15) none (Act.ext 2) [Opd.t 9], Ins.mk (some 8) none Act.mv [Opd.t 13], Ins.mk (some 6) none Act.mv [Opd.t 14],
            Ins.mk (some 7) none Act.mv [Opd.t 15]])
        (CC.seq
          (CC.seq (CC.reg none [Ins.mk (some 16) none Act.mv [Opd.t 7], Ins.mk (some 17) none (Act.bin BinOp.neq (EqK.nil 10)) [Opd.t 16, Opd.k (AV.d (DV.int IntKind.i64 (Int.ofNat 0)))]])
            (CC.cond (Opd.t 17)
              (CC.seq
                (CC.reg (some [(5, 2, 4, 2)])
                  [Ins.mk (some 18) none (Act.load (some 2)) [Opd.t 4], Ins.mk (some 19) none (Act.load (some 2)) [Opd.t 5], Ins.mk (some 20) none Act.mv [Opd.t 6], Ins.mk (some 21) none Act.mv [Opd.t 7], Ins.mk none none (Act.store 2) [Opd.t 4, Opd.t 18],
                    Ins.mk none none (Act.store 2) [Opd.t 5, Opd.t 19], Ins.mk (some 6) none Act.mv [Opd.t 20], Ins.mk (some 7) none Act.mv [Opd.t 21]])
                CC.ret)
              CC.skip))
          (CC.seq (CC.fgt [4, 5, 6, 7, 8])
            (CC.seq
              (CC.reg (some [(29, 2, 4, 2)])
                [Ins.mk (some 22) none Act.mv [Opd.t 8], Ins.mk (some 23) none (Act.iad 2) [Opd.t 22, Opd.k (AV.d (DV.int IntKind.i64 (Int.ofNat 0)))], Ins.mk (some 24) none (Act.load (some 2)) [Opd.t 23], Ins.mk (some 25) none Act.mv [Opd.t 8], Ins.mk (some 26) none Act.mv [Opd.t 8],
                  Ins.mk (some 27) none Act.len [Opd.t 26], Ins.mk (some 28) none (Act.bin BinOp.sub (EqK.nil 10)) [Opd.t 27, Opd.k (AV.d (DV.int IntKind.i64 (Int.ofNat 1)))], Ins.mk (some 29) none (Act.iad 2) [Opd.t 25, Opd.t 28], Ins.mk (some 30) none (Act.load (some 2)) [Opd.t 29],
                  Ins.mk (some 31) none Act.mv [Opd.t 6], Ins.mk none none (Act.store 2) [Opd.t 4, Opd.t 24], Ins.mk none none (Act.store 2) [Opd.t 5, Opd.t 30], Ins.mk (some 6) none Act.mv [Opd.t 31], Ins.mk (some 7) none Act.mv [Opd.k (AV.d (DV.int IntKind.i64 (Int.ofNat 0)))]])
              CC.ret)))))
    [RV.cell 4 (some 2), RV.cell 5 (some 2), RV.tmp 6, RV.tmp 7]
theorem code14_ok : F0 14 = some (.code code14) := by kernel_rfl
def code49 : CFn :=
  CFn.mk
    (CC.seq (CC.reg none [Ins.mk (some 2) none (Act.box 26) [Opd.t 0], Ins.mk (some 3) none (Act.box 26) [Opd.t 1], Ins.mk (some 4) none Act.mv [Opd.k (AV.d (DV.str []))]])
      (CC.seq (CC.reg none [Ins.mk (some 5) none Act.mv [Opd.k (AV.fn Mode.pure 108 [] [])]])
        (CC.seq
          (CC.block 0
            (CC.seq
              (CC.reg none
                [Ins.mk (some 7) none Act.mv [Opd.t 5], Ins.mk (some 8) none (Act.load (some 2)) [Opd.t 2], Ins.mk (some 9) none (Act.call false) [Opd.t 7, Opd.t 8], Ins.mk (some 10) none (Act.un UnOp.not) [Opd.t 9], Ins.mk (some 11) none Act.mv [Opd.t 10],
                  Ins.mk (some 12) (some (11, false)) Act.mv [Opd.t 5], Ins.mk (some 13) (some (11, false)) (Act.load (some 2)) [Opd.t 3], Ins.mk (some 14) (some (11, false)) (Act.call false) [Opd.t 12, Opd.t 13], Ins.mk (some 15) (some (11, false)) (Act.un UnOp.not) [Opd.t 14],
                  Ins.mk (some 16) none Act.pick [Opd.t 11, Opd.k (AV.d (DV.bool true)), Opd.t 15], Ins.mk (some 6) none Act.mv [Opd.t 16]])
              (CC.cond (Opd.t 6) (CC.seq (CC.reg none [Ins.mk (some 4) none Act.mv [Opd.k (AV.d (DV.str []))]]) CC.ret)
                (CC.seq (CC.reg none [Ins.mk (some 18) none (Act.load (some 2)) [Opd.t 2], Ins.mk (some 19) none (Act.load (some 2)) [Opd.t 3], Ins.mk (some 20) none (Act.bin BinOp.eql (EqK.cells 2 [(0, 1), (1, 1)])) [Opd.t 18, Opd.t 19], Ins.mk (some 17) none Act.mv [Opd.t 20]])
                  (CC.cond (Opd.t 17) (CC.seq (CC.reg none [Ins.mk (some 21) none (Act.load (some 2)) [Opd.t 2], Ins.mk (some 22) none (Act.call false) [Opd.k (AV.fn Mode.pure 20 [] []), Opd.t 21], Ins.mk (some 4) none Act.mv [Opd.t 22]]) CC.ret) CC.skip)))))
          (CC.seq (CC.fgt [2, 3, 4])
            (CC.seq
              (CC.reg none
                [Ins.mk (some 23) none (Act.load (some 2)) [Opd.t 2], Ins.mk (some 24) none (Act.load (some 2)) [Opd.t 3], Ins.mk (some 25) none (Act.bslT 26 2 [DV.int IntKind.i64 (Int.ofNat 0), DV.int IntKind.i64 (Int.ofNat 0)] 2 [0, 1]) [Opd.t 23, Opd.t 24],
                  Ins.mk (some 26) none (Act.call false) [Opd.k (AV.fn Mode.pure 107 [] []), Opd.t 25], Ins.mk (some 4) none Act.mv [Opd.t 26]])
              CC.ret)))))
    [RV.tmp 4]
theorem code49_ok : F0 49 = some (.code code49) := by kernel_rfl
def code108 : CFn :=
  CFn.mk
    (CC.seq (CC.reg none [Ins.mk (some 1) none (Act.box 26) [Opd.t 0], Ins.mk (some 2) none Act.mv [Opd.k (AV.d (DV.bool false))]])
      (CC.seq (CC.reg none [Ins.mk (some 3) none (Act.load (some 2)) [Opd.t 1], Ins.mk (some 4) none (Act.call false) [Opd.k (AV.fn Mode.pure 21 [] []), Opd.t 3, Opd.k (AV.d (DV.int IntKind.i64 (Int.ofNat 1)))], Ins.mk (some 2) none Act.mv [Opd.t 4]]) CC.ret))
    [RV.tmp 2]
theorem code108_ok : F0 108 = some (.code code108) := by kernel_rfl
def code12 : CFn :=
  CFn.mk
    (CC.seq
      (CC.reg none
        [Ins.mk (some 4) none
            (Act.new 27
              [AV.d (DV.int IntKind.i64 (Int.ofNat 0)), AV.d (DV.int IntKind.i64 (Int.ofNat 0)), AV.d (DV.int IntKind.i64 (Int.ofNat 0)), AV.d (DV.int IntKind.i64 (Int.ofNat 0)), AV.d (DV.int IntKind.i64 (Int.ofNat 0)), AV.d (DV.int IntKind.i64 (Int.ofNat 0)), AV.d (DV.int IntKind.i64 (Int.ofNat 0)),
                AV.d (DV.int IntKind.i64 (Int.ofNat 0))])
            [],
          Ins.mk (some 5) none Act.mv [Opd.k (AV.d (DV.int IntKind.i64 (Int.ofNat 0)))], Ins.mk (some 6) none Act.mv [Opd.k (AV.d (DV.int IntKind.i64 (Int.ofNat 0)))]])
      (CC.seq
        (CC.reg none
          [Ins.mk (some 9) none Act.mv [Opd.t 0], Ins.mk (some 10) none Act.mv [Opd.t 1], Ins.mk (some 11) none (Act.call false) [Opd.k (AV.fn Mode.pure 58 [] []), Opd.t 9, Opd.t 10, Opd.k (AV.d (DV.int IntKind.i64 (Int.ofNat 7))), Opd.k (AV.d (DV.int IntKind.i64 (Int.ofNat 4)))],
            Ins.mk (some 8) none Act.mv [Opd.t 11], Ins.mk (some 12) none (Act.ext 0) [Opd.t 8], Ins.mk (some 13) none (Act.ext 1) [Opd.t 8], Ins.mk (some 14) none (Act.ext 2) [Opd.t 8], Ins.mk (some 7) none Act.mv [Opd.t 12], Ins.mk (some 5) none Act.mv [Opd.t 13],
            Ins.mk (some 6) none Act.mv [Opd.t 14]])
        (CC.seq
          (CC.seq (CC.reg none [Ins.mk (some 15) none Act.mv [Opd.t 6], Ins.mk (some 16) none (Act.bin BinOp.neq (EqK.nil 10)) [Opd.t 15, Opd.k (AV.d (DV.int IntKind.i64 (Int.ofNat 0)))]])
            (CC.cond (Opd.t 16)
              (CC.seq (CC.reg none [Ins.mk (some 17) none (Act.load (some 8)) [Opd.t 4], Ins.mk (some 18) none Act.mv [Opd.t 5], Ins.mk (some 19) none Act.mv [Opd.t 6], Ins.mk none none (Act.storeT 8) [Opd.t 4, Opd.t 17], Ins.mk (some 5) none Act.mv [Opd.t 18], Ins.mk (some 6) none Act.mv [Opd.t 19]])
                CC.ret)
              CC.skip))
          (CC.seq (CC.fgt [4, 5, 6, 7])
            (CC.seq
              (CC.reg none
                [Ins.mk (some 20) none Act.mv [Opd.t 7], Ins.mk (some 21) none (Act.call false) [Opd.k (AV.fn Mode.pure 59 [] []), Opd.t 20], Ins.mk (some 22) none Act.mv [Opd.t 5], Ins.mk none none (Act.storeT 8) [Opd.t 4, Opd.t 21], Ins.mk (some 5) none Act.mv [Opd.t 22],
                  Ins.mk (some 6) none Act.mv [Opd.k (AV.d (DV.int IntKind.i64 (Int.ofNat 0)))]])
              CC.ret)))))
    [RV.cell 4 (some 8), RV.tmp 5, RV.tmp 6]
theorem code12_ok : F0 12 = some (.code code12) := by kernel_rfl
def code45 : CFn :=
  CFn.mk
    (CC.seq (CC.reg none [Ins.mk (some 1) none (Act.box 27) [Opd.t 0], Ins.mk (some 2) none Act.mv [Opd.k (AV.d (DV.bool false))]])
      (CC.seq
        (CC.seq (CC.reg none [Ins.mk (some 5) none (Act.load (some 8)) [Opd.t 1], Ins.mk (some 6) none Act.mv [Opd.k (AV.d (DV.int IntKind.i64 (Int.ofNat 0)))]])
          (CC.block 0
            (CC.loop [2, 5, 6]
              (CC.seq (CC.reg none [Ins.mk (some 7) none (Act.bin BinOp.lss (EqK.nil 10)) [Opd.t 6, Opd.k (AV.d (DV.int IntKind.i64 (Int.ofNat 4)))]])
                (CC.seq (CC.cond (Opd.t 7) CC.skip (CC.exit 0))
                  (CC.seq (CC.fgt [2, 5, 6])
                    (CC.seq
                      (CC.block 1
                        (CC.seq (CC.reg none [Ins.mk (some 8) none (Act.idxA 4 2 (some 2)) [Opd.t 5, Opd.t 6], Ins.mk (some 4) none (Act.new 26 [AV.d (DV.int IntKind.i64 (Int.ofNat 0)), AV.d (DV.int IntKind.i64 (Int.ofNat 0))]) [], Ins.mk none none (Act.storeT 2) [Opd.t 4, Opd.t 8]])
                          (CC.seq (CC.reg none [Ins.mk (some 9) none (Act.load (some 2)) [Opd.t 4], Ins.mk (some 10) none (Act.call false) [Opd.k (AV.fn Mode.pure 21 [] []), Opd.t 9, Opd.k (AV.d (DV.int IntKind.i64 (Int.ofNat 7)))], Ins.mk (some 11) none (Act.un UnOp.not) [Opd.t 10]])
                            (CC.cond (Opd.t 11) (CC.seq (CC.reg none [Ins.mk (some 2) none Act.mv [Opd.k (AV.d (DV.bool false))]]) CC.ret) CC.skip))))
                      (CC.seq (CC.fgt [2, 5, 6]) (CC.reg none [Ins.mk (some 12) none (Act.bin BinOp.add (EqK.nil 10)) [Opd.t 6, Opd.k (AV.d (DV.int IntKind.i64 (Int.ofNat 1)))], Ins.mk (some 6) none Act.mv [Opd.t 12]])))))))))
        (CC.seq (CC.fgt [2]) (CC.seq (CC.reg none [Ins.mk (some 2) none Act.mv [Opd.k (AV.d (DV.bool true))]]) CC.ret))))
    [RV.tmp 2]
theorem code45_ok : F0 45 = some (.code code45) := by kernel_rfl
def code47 : CFn :=
  CFn.mk
    (CC.seq (CC.reg none [Ins.mk (some 1) none (Act.box 27) [Opd.t 0], Ins.mk (some 2) none Act.mv [Opd.k (AV.d (DV.str []))]])
      (CC.seq
        (CC.seq (CC.reg none [Ins.mk (some 4) none (Act.load (some 8)) [Opd.t 1], Ins.mk (some 5) none (Act.call false) [Opd.k (AV.fn Mode.pure 45 [] []), Opd.t 4], Ins.mk (some 6) none (Act.un UnOp.not) [Opd.t 5]])
          (CC.cond (Opd.t 6) (CC.seq (CC.reg none [Ins.mk (some 2) none Act.mv [Opd.k (AV.d (DV.str []))]]) CC.ret) CC.skip))
        (CC.seq (CC.fgt [1, 2])
          (CC.seq (CC.reg none [Ins.mk (some 3) none Act.mv [Opd.k (AV.d (DV.int IntKind.i64 (Int.ofNat 1)))]])
            (CC.seq
              (CC.block 0
                (CC.loop [1, 2, 3]
                  (CC.seq
                    (CC.seq
                      (CC.reg (some [])
                        [Ins.mk (some 7) none Act.mv [Opd.t 3], Ins.mk (some 8) none (Act.bin BinOp.lss (EqK.nil 10)) [Opd.t 7, Opd.k (AV.d (DV.int IntKind.i64 (Int.ofNat 4)))], Ins.mk (some 9) none Act.mv [Opd.t 8], Ins.mk (some 10) (some (9, true)) Act.mv [Opd.t 3],
                          Ins.mk (some 11) (some (9, true)) (Act.cuta 4 2 false true) [Opd.t 1, Opd.t 10], Ins.mk (some 12) (some (9, true)) (Act.call true) [Opd.k (AV.fn Mode.pure 59 [] []), Opd.t 11], Ins.mk (some 13) (some (9, true)) (Act.load (some 8)) [Opd.t 1],
                          Ins.mk (some 14) (some (9, true)) (Act.bin BinOp.neq (EqK.cells 8 [(0, 1), (1, 1), (2, 1), (3, 1), (4, 1), (5, 1), (6, 1), (7, 1)])) [Opd.t 12, Opd.t 13], Ins.mk (some 15) none Act.pick [Opd.t 9, Opd.t 14, Opd.k (AV.d (DV.bool false))]])
                      (CC.cond (Opd.t 15) CC.skip (CC.exit 0)))
                    (CC.seq (CC.fgt [1, 2, 3]) (CC.block 1 (CC.reg none [Ins.mk (some 16) none Act.mv [Opd.t 3], Ins.mk (some 17) none (Act.bin BinOp.add (EqK.nil 10)) [Opd.t 16, Opd.k (AV.d (DV.int IntKind.i64 (Int.ofNat 1)))], Ins.mk (some 3) none Act.mv [Opd.t 17]]))))))
              (CC.seq (CC.fgt [1, 2, 3])
                (CC.seq (CC.reg none [Ins.mk (some 18) none Act.mv [Opd.t 3], Ins.mk (some 19) none (Act.cuta 4 2 false true) [Opd.t 1, Opd.t 18], Ins.mk (some 20) none (Act.call false) [Opd.k (AV.fn Mode.pure 107 [] []), Opd.t 19], Ins.mk (some 2) none Act.mv [Opd.t 20]]) CC.ret)))))))
    [RV.tmp 2]
theorem code47_ok : F0 47 = some (.code code47) := by kernel_rfl
def code56 : CFn :=
  CFn.mk
    (CC.seq (CC.reg none [Ins.mk (some 4) none Act.mv [Opd.k (AV.d DV.nilsl)], Ins.mk (some 5) none Act.mv [Opd.k (AV.d (DV.int IntKind.i64 (Int.ofNat 0)))], Ins.mk (some 6) none Act.mv [Opd.k (AV.d (DV.int IntKind.i64 (Int.ofNat 0)))]])
      (CC.seq
        (CC.seq
          (CC.reg none
            [Ins.mk (some 14) none Act.mv [Opd.t 0], Ins.mk (some 15) none Act.mv [Opd.t 1], Ins.mk (some 16) none (Act.bslT 9 1 [DV.str []] 1 [0]) [Opd.k (AV.d (DV.str [UInt8.ofNat 110, UInt8.ofNat 111, UInt8.ofNat 110, UInt8.ofNat 101]))],
              Ins.mk (some 17) none (Act.call false) [Opd.k (AV.fn Mode.pure 62 [] []), Opd.t 14, Opd.t 15, Opd.t 16], Ins.mk (some 13) none Act.mv [Opd.t 17], Ins.mk (some 18) none (Act.ext 0) [Opd.t 13], Ins.mk (some 19) none (Act.ext 1) [Opd.t 13], Ins.mk (some 7) none Act.mv [Opd.t 18],
              Ins.mk (some 8) none Act.mv [Opd.t 19]])
          (CC.seq (CC.reg none [Ins.mk (some 20) none Act.mv [Opd.t 7], Ins.mk (some 21) none (Act.bin BinOp.eql (EqK.nil 10)) [Opd.t 20, Opd.k (AV.d (DV.int IntKind.i64 (Int.ofNat 0)))]])
            (CC.cond (Opd.t 21) (CC.seq (CC.reg none [Ins.mk (some 22) none Act.mv [Opd.t 8], Ins.mk (some 4) none Act.mv [Opd.k (AV.d DV.nilsl)], Ins.mk (some 5) none Act.mv [Opd.t 22], Ins.mk (some 6) none Act.mv [Opd.k (AV.d (DV.int IntKind.i64 (Int.ofNat 0)))]]) CC.ret) CC.skip)))
        (CC.seq (CC.fgt [0, 1, 4, 5, 6])
          (CC.seq (CC.reg none [Ins.mk (some 9) none Act.mv [Opd.k (AV.d (DV.int IntKind.i64 (Int.ofNat 0)))]])
            (CC.seq (CC.reg none [Ins.mk (some 10) none Act.mv [Opd.k (AV.d DV.nilsl)]])
              (CC.seq (CC.reg none [Ins.mk (some 23) none Act.mv [Opd.t 1], Ins.mk (some 5) none Act.mv [Opd.t 23]])
                (CC.block 0
                  (CC.loop [0, 4, 5, 6, 9, 10]
                    (CC.seq
                      (CC.block 1
                        (CC.seq
                          (CC.seq (CC.reg none [Ins.mk (some 26) none Act.mv [Opd.t 9], Ins.mk (some 27) none (Act.bin BinOp.geq (EqK.nil 10)) [Opd.t 26, Opd.k (AV.d (DV.int IntKind.i64 (Int.ofNat 256)))]])
                            (CC.cond (Opd.t 27) (CC.seq (CC.reg none [Ins.mk (some 28) none Act.mv [Opd.t 5], Ins.mk (some 4) none Act.mv [Opd.k (AV.d DV.nilsl)], Ins.mk (some 5) none Act.mv [Opd.t 28], Ins.mk (some 6) none Act.mv [Opd.k (AV.d (DV.int IntKind.i64 (Int.ofNat 52)))]]) CC.ret) CC.skip))
                          (CC.seq (CC.fgt [0, 4, 5, 6, 9, 10])
                            (CC.seq (CC.reg none [Ins.mk (some 11) none (Act.new 140 [AV.d (DV.int IntKind.i64 (Int.ofNat 0)), AV.d (DV.int IntKind.i64 (Int.ofNat 0)), AV.d (DV.int IntKind.i64 (Int.ofNat 0)), AV.d (DV.int IntKind.i64 (Int.ofNat 0))]) []])
                              (CC.seq
                                (CC.seq (CC.reg none [Ins.mk (some 29) none Act.mv [Opd.k (AV.d (DV.int IntKind.i64 (Int.ofNat 0)))]])
                                  (CC.block 2
                                    (CC.loop [0, 4, 5, 6, 9, 10, 11, 29]
                                      (CC.seq (CC.reg none [Ins.mk (some 30) none (Act.bin BinOp.lss (EqK.nil 10)) [Opd.t 29, Opd.k (AV.d (DV.int IntKind.i64 (Int.ofNat 2)))]])
                                        (CC.seq (CC.cond (Opd.t 30) CC.skip (CC.exit 2))
                                          (CC.seq (CC.fgt [0, 4, 5, 6, 9, 10, 11, 29])
                                            (CC.seq
                                              (CC.block 3
                                                (CC.seq (CC.reg none [Ins.mk (some 31) none Act.mv [Opd.t 29], Ins.mk (some 12) none Act.mv [Opd.t 31]])
                                                  (CC.seq
                                                    (CC.reg none
                                                      [Ins.mk (some 33) none Act.mv [Opd.t 12], Ins.mk (some 34) none Act.mv [Opd.t 0], Ins.mk (some 35) none Act.mv [Opd.t 5],
                                                        Ins.mk (some 36) none (Act.call false) [Opd.k (AV.fn Mode.pure 24 [] []), Opd.t 34, Opd.t 35, Opd.k (AV.d (DV.int IntKind.i64 (Int.ofNat 0)))], Ins.mk (some 32) none Act.mv [Opd.t 36], Ins.mk (some 37) none (Act.ext 0) [Opd.t 32],
                                                        Ins.mk (some 38) none (Act.ext 1) [Opd.t 32], Ins.mk (some 39) none (Act.ext 2) [Opd.t 32], Ins.mk (some 40) none (Act.iadA 2 2) [Opd.t 11, Opd.t 33], Ins.mk none none (Act.storeT 2) [Opd.t 40, Opd.t 37], Ins.mk (some 5) none Act.mv [Opd.t 38],
                                                        Ins.mk (some 6) none Act.mv [Opd.t 39]])
                                                    (CC.seq (CC.reg none [Ins.mk (some 41) none Act.mv [Opd.t 6], Ins.mk (some 42) none (Act.bin BinOp.neq (EqK.nil 10)) [Opd.t 41, Opd.k (AV.d (DV.int IntKind.i64 (Int.ofNat 0)))]])
                                                      (CC.cond (Opd.t 42)
                                                        (CC.seq (CC.reg none [Ins.mk (some 43) none Act.mv [Opd.t 5], Ins.mk (some 44) none Act.mv [Opd.t 6], Ins.mk (some 4) none Act.mv [Opd.k (AV.d DV.nilsl)], Ins.mk (some 5) none Act.mv [Opd.t 43], Ins.mk (some 6) none Act.mv [Opd.t 44]]) CC.ret)
                                                        CC.skip)))))
                                              (CC.seq (CC.fgt [0, 4, 5, 6, 9, 10, 11, 29]) (CC.reg none [Ins.mk (some 45) none (Act.bin BinOp.add (EqK.nil 10)) [Opd.t 29, Opd.k (AV.d (DV.int IntKind.i64 (Int.ofNat 1)))], Ins.mk (some 29) none Act.mv [Opd.t 45]])))))))))
                                (CC.seq (CC.fgt [0, 4, 5, 6, 9, 10, 11])
                                  (CC.seq (CC.reg none [Ins.mk (some 46) none Act.mv [Opd.t 9], Ins.mk (some 47) none (Act.bin BinOp.add (EqK.nil 10)) [Opd.t 46, Opd.k (AV.d (DV.int IntKind.i64 (Int.ofNat 1)))], Ins.mk (some 9) none Act.mv [Opd.t 47]])
                                    (CC.seq
                                      (CC.reg none
                                        [Ins.mk (some 48) none Act.mv [Opd.t 10], Ins.mk (some 49) none (Act.iadA 2 2) [Opd.t 11, Opd.k (AV.d (DV.int IntKind.i64 (Int.ofNat 0)))], Ins.mk (some 50) none (Act.fad 1) [Opd.t 49], Ins.mk (some 51) none (Act.load none) [Opd.t 50],
                                          Ins.mk (some 52) none (Act.iadA 2 2) [Opd.t 11, Opd.k (AV.d (DV.int IntKind.i64 (Int.ofNat 1)))], Ins.mk (some 53) none (Act.fad 1) [Opd.t 52], Ins.mk (some 54) none (Act.load none) [Opd.t 53],
                                          Ins.mk (some 55) none (Act.build [AV.d (DV.int IntKind.i64 (Int.ofNat 0)), AV.d (DV.int IntKind.i64 (Int.ofNat 0))] [(0, 1), (1, 1)]) [Opd.t 51, Opd.t 54],
                                          Ins.mk (some 56) none (Act.bslT 90 2 [DV.int IntKind.i64 (Int.ofNat 0), DV.int IntKind.i64 (Int.ofNat 0)] 1 [0]) [Opd.t 55], Ins.mk (some 57) none (Act.app 90 2 16) [Opd.t 48, Opd.t 56], Ins.mk (some 10) none Act.mv [Opd.t 57]])
                                      (CC.seq
                                        (CC.seq (CC.reg none [Ins.mk (some 58) none Act.mv [Opd.t 0], Ins.mk (some 59) none Act.mv [Opd.t 5], Ins.mk (some 60) none (Act.call false) [Opd.k (AV.fn Mode.pure 109 [] []), Opd.t 58, Opd.t 59, Opd.k (AV.d (DV.str [UInt8.ofNat 44]))]])
                                          (CC.cond (Opd.t 60) (CC.exit 1) CC.skip))
                                        (CC.seq (CC.fgt [0, 4, 5, 6, 9, 10])
                                          (CC.seq
                                            (CC.reg none
                                              [Ins.mk (some 61) none Act.mv [Opd.t 4], Ins.mk (some 62) none Act.mv [Opd.t 10], Ins.mk (some 63) none (Act.bslT 88 1 [DV.nilsl] 1 [0]) [Opd.t 62], Ins.mk (some 64) none (Act.app 88 1 24) [Opd.t 61, Opd.t 63], Ins.mk (some 4) none Act.mv [Opd.t 64],
                                                Ins.mk (some 10) none Act.mv [Opd.k (AV.d DV.nilsl)]])
                                            (CC.seq
                                              (CC.reg none
                                                [Ins.mk (some 65) none Act.mv [Opd.t 0], Ins.mk (some 66) none Act.mv [Opd.t 5], Ins.mk (some 67) none (Act.call false) [Opd.k (AV.fn Mode.pure 109 [] []), Opd.t 65, Opd.t 66, Opd.k (AV.d (DV.str [UInt8.ofNat 47]))],
                                                  Ins.mk (some 68) none (Act.un UnOp.not) [Opd.t 67]])
                                              (CC.cond (Opd.t 68)
                                                (CC.seq
                                                  (CC.reg none
                                                    [Ins.mk (some 69) none Act.mv [Opd.t 4], Ins.mk (some 70) none Act.mv [Opd.t 5], Ins.mk (some 4) none Act.mv [Opd.t 69], Ins.mk (some 5) none Act.mv [Opd.t 70], Ins.mk (some 6) none Act.mv [Opd.k (AV.d (DV.int IntKind.i64 (Int.ofNat 0)))]])
                                                  CC.ret)
                                                CC.skip)))))))))))))
                      (CC.seq (CC.fgt [0, 4, 5, 6, 9, 10]) (CC.reg none [Ins.mk (some 24) none Act.mv [Opd.t 5], Ins.mk (some 25) none (Act.bin BinOp.add (EqK.nil 10)) [Opd.t 24, Opd.k (AV.d (DV.int IntKind.i64 (Int.ofNat 1)))], Ins.mk (some 5) none Act.mv [Opd.t 25]])))))))))))
    [RV.tmp 4, RV.tmp 5, RV.tmp 6]
theorem code56_ok : F0 56 = some (.code code56) := by kernel_rfl
def code39 : CFn :=
  CFn.mk
    (CC.seq (CC.reg none [Ins.mk (some 2) none Act.mv [Opd.k (AV.d (DV.bool false))]])
      (CC.seq (CC.reg none [Ins.mk (some 3) none Act.mv [Opd.k (AV.d (DV.int IntKind.i64 (Int.ofNat 256)))]])
        (CC.seq (CC.reg none [Ins.mk (some 4) none Act.mv [Opd.k (AV.fn Mode.pure 99 [] [])]])
          (CC.seq
            (CC.seq (CC.reg none [Ins.mk (some 9) none Act.mv [Opd.t 0], Ins.mk (some 10) none Act.len [Opd.t 9], Ins.mk (some 11) none Act.mv [Opd.k (AV.d (DV.int IntKind.i64 (Int.ofNat 0)))]])
              (CC.block 0
                (CC.loop [2, 3, 4, 9, 10, 11]
                  (CC.seq (CC.reg none [Ins.mk (some 12) none (Act.bin BinOp.lss (EqK.nil 10)) [Opd.t 11, Opd.t 10]])
                    (CC.seq (CC.cond (Opd.t 12) CC.skip (CC.exit 0))
                      (CC.seq (CC.fgt [2, 3, 4, 9, 10, 11])
                        (CC.seq
                          (CC.block 1
                            (CC.seq (CC.reg none [Ins.mk (some 13) none (Act.iad 1) [Opd.t 9, Opd.t 11], Ins.mk (some 14) none (Act.load none) [Opd.t 13], Ins.mk (some 6) none Act.mv [Opd.t 14]])
                              (CC.seq
                                (CC.seq
                                  (CC.reg none
                                    [Ins.mk (some 15) none Act.mv [Opd.t 6], Ins.mk (some 16) none Act.len [Opd.t 15], Ins.mk (some 17) none (Act.bin BinOp.eql (EqK.nil 10)) [Opd.t 16, Opd.k (AV.d (DV.int IntKind.i64 (Int.ofNat 0)))], Ins.mk (some 18) none Act.mv [Opd.t 17],
                                      Ins.mk (some 19) (some (18, false)) Act.mv [Opd.t 6], Ins.mk (some 20) (some (18, false)) Act.len [Opd.t 19], Ins.mk (some 21) (some (18, false)) Act.mv [Opd.t 3], Ins.mk (some 22) (some (18, false)) (Act.bin BinOp.gtr (EqK.nil 10)) [Opd.t 20, Opd.t 21],
                                      Ins.mk (some 23) none Act.pick [Opd.t 18, Opd.k (AV.d (DV.bool true)), Opd.t 22]])
                                  (CC.cond (Opd.t 23) (CC.seq (CC.reg none [Ins.mk (some 2) none Act.mv [Opd.k (AV.d (DV.bool false))]]) CC.ret) CC.skip))
                                (CC.seq (CC.fgt [2, 3, 4, 6, 9, 10, 11])
                                  (CC.seq (CC.reg none [Ins.mk (some 24) none Act.mv [Opd.t 3], Ins.mk (some 25) none Act.mv [Opd.t 6], Ins.mk (some 26) none Act.len [Opd.t 25], Ins.mk (some 27) none (Act.bin BinOp.sub (EqK.nil 10)) [Opd.t 24, Opd.t 26], Ins.mk (some 3) none Act.mv [Opd.t 27]])
                                    (CC.seq (CC.reg none [Ins.mk (some 28) none Act.mv [Opd.t 6], Ins.mk (some 29) none Act.len [Opd.t 28], Ins.mk (some 30) none Act.mv [Opd.k (AV.d (DV.int IntKind.i64 (Int.ofNat 0)))]])
                                      (CC.block 2
                                        (CC.loop [2, 3, 4, 9, 10, 11, 28, 29, 30]
                                          (CC.seq (CC.reg none [Ins.mk (some 31) none (Act.bin BinOp.lss (EqK.nil 10)) [Opd.t 30, Opd.t 29]])
                                            (CC.seq (CC.cond (Opd.t 31) CC.skip (CC.exit 2))
                                              (CC.seq (CC.fgt [2, 3, 4, 9, 10, 11, 28, 29, 30])
                                                (CC.seq
                                                  (CC.block 3
                                                    (CC.seq
                                                      (CC.reg none
                                                        [Ins.mk (some 32) none (Act.iad 2) [Opd.t 28, Opd.t 30], Ins.mk (some 33) none (Act.load (some 2)) [Opd.t 32], Ins.mk (some 8) none (Act.new 90 [AV.d (DV.int IntKind.i64 (Int.ofNat 0)), AV.d (DV.int IntKind.i64 (Int.ofNat 0))]) [],
                                                          Ins.mk none none (Act.storeT 2) [Opd.t 8, Opd.t 33]])
                                                      (CC.seq
                                                        (CC.reg none
                                                          [Ins.mk (some 34) none Act.mv [Opd.t 4], Ins.mk (some 35) none (Act.fad 0) [Opd.t 8], Ins.mk (some 36) none (Act.load none) [Opd.t 35], Ins.mk (some 37) none (Act.call false) [Opd.t 34, Opd.t 36],
                                                            Ins.mk (some 38) none (Act.un UnOp.not) [Opd.t 37], Ins.mk (some 39) none Act.mv [Opd.t 38], Ins.mk (some 40) (some (39, false)) Act.mv [Opd.t 4], Ins.mk (some 41) (some (39, false)) (Act.fad 1) [Opd.t 8],
                                                            Ins.mk (some 42) (some (39, false)) (Act.load none) [Opd.t 41], Ins.mk (some 43) (some (39, false)) (Act.call false) [Opd.t 40, Opd.t 42], Ins.mk (some 44) (some (39, false)) (Act.un UnOp.not) [Opd.t 43],
                                                            Ins.mk (some 45) none Act.pick [Opd.t 39, Opd.k (AV.d (DV.bool true)), Opd.t 44]])
                                                        (CC.cond (Opd.t 45) (CC.seq (CC.reg none [Ins.mk (some 2) none Act.mv [Opd.k (AV.d (DV.bool false))]]) CC.ret) CC.skip))))
                                                  (CC.seq (CC.fgt [2, 3, 4, 9, 10, 11, 28, 29, 30]) (CC.reg none [Ins.mk (some 46) none (Act.bin BinOp.add (EqK.nil 10)) [Opd.t 30, Opd.k (AV.d (DV.int IntKind.i64 (Int.ofNat 1)))], Ins.mk (some 30) none Act.mv [Opd.t 46]]))))))))))))))
                          (CC.seq (CC.fgt [2, 3, 4, 9, 10, 11]) (CC.reg none [Ins.mk (some 47) none (Act.bin BinOp.add (EqK.nil 10)) [Opd.t 11, Opd.k (AV.d (DV.int IntKind.i64 (Int.ofNat 1)))], Ins.mk (some 11) none Act.mv [Opd.t 47]])))))))))
            (CC.seq (CC.fgt [2]) (CC.seq (CC.reg none [Ins.mk (some 2) none Act.mv [Opd.k (AV.d (DV.bool true))]]) CC.ret))))))
    [RV.tmp 2]
theorem code39_ok : F0 39 = some (.code code39) := by kernel_rfl
def code99 : CFn :=
  CFn.mk
    (CC.seq (CC.reg none [Ins.mk (some 2) none Act.mv [Opd.k (AV.d (DV.bool false))]])
      (CC.seq
        (CC.reg none
          [Ins.mk (some 3) none Act.mv [Opd.t 0], Ins.mk (some 4) none (Act.bin BinOp.geq (EqK.nil 10)) [Opd.t 3, Opd.k (AV.d (DV.int IntKind.i64 (Int.ofNat 0)))], Ins.mk (some 5) none Act.mv [Opd.t 4], Ins.mk (some 6) (some (5, true)) Act.mv [Opd.t 0],
            Ins.mk (some 7) (some (5, true)) (Act.call false) [Opd.k (AV.fn Mode.pure 100 [] []), Opd.t 6], Ins.mk (some 8) none Act.pick [Opd.t 5, Opd.t 7, Opd.k (AV.d (DV.bool false))], Ins.mk (some 2) none Act.mv [Opd.t 8]])
        CC.ret))
    [RV.tmp 2]
theorem code99_ok : F0 99 = some (.code code99) := by kernel_rfl
def code43 : CFn :=
  CFn.mk
    (CC.seq (CC.reg none [Ins.mk (some 4) none Act.mv [Opd.k (AV.d (DV.bool false))]])
      (CC.seq (CC.reg none [Ins.mk (some 5) none (Act.new 134 [AV.d DV.nilf]) [], Ins.mk none none (Act.storeT 1) [Opd.t 5, Opd.k (AV.fn Mode.pure 103 [] [])]])
        (CC.seq
          (CC.reg none [Ins.mk (some 6) none Act.mv [Opd.t 0], Ins.mk (some 7) none Act.mv [Opd.t 1], Ins.mk (some 8) none (Act.mkf Mode.drop 105 0) [Opd.t 5], Ins.mk (some 9) none (Act.call false) [Opd.k (AV.fn Mode.drop 104 [] []), Opd.t 6, Opd.t 7, Opd.t 8], Ins.mk (some 4) none Act.mv [Opd.t 9]])
          CC.ret)))
    [RV.tmp 4]
theorem code43_ok : F0 43 = some (.code code43) := by kernel_rfl
def code103 : CFn :=
  CFn.mk
    (CC.seq (CC.reg none [Ins.mk (some 2) none (Act.box 90) [Opd.t 0], Ins.mk (some 3) none (Act.box 90) [Opd.t 1], Ins.mk (some 4) none Act.mv [Opd.k (AV.d (DV.bool false))]])
      (CC.seq (CC.reg none [Ins.mk (some 5) none (Act.load (some 2)) [Opd.t 2], Ins.mk (some 6) none (Act.load (some 2)) [Opd.t 3], Ins.mk (some 7) none (Act.bin BinOp.eql (EqK.cells 2 [(0, 1), (1, 1)])) [Opd.t 5, Opd.t 6], Ins.mk (some 4) none Act.mv [Opd.t 7]]) CC.ret))
    [RV.tmp 4]
theorem code103_ok : F0 103 = some (.code code103) := by kernel_rfl
def code105 : CFn :=
  CFn.mk
    (CC.seq (CC.reg none [Ins.mk (some 5) none Act.mv [Opd.k (AV.d (DV.bool false))]])
      (CC.seq (CC.reg none [Ins.mk (some 6) none Act.mv [Opd.t 0], Ins.mk (some 7) none Act.mv [Opd.t 1], Ins.mk (some 8) none (Act.load none) [Opd.t 2], Ins.mk (some 9) none (Act.call false) [Opd.k (AV.fn Mode.drop 106 [] []), Opd.t 6, Opd.t 7, Opd.t 8], Ins.mk (some 5) none Act.mv [Opd.t 9]])
        CC.ret))
    [RV.tmp 5]
theorem code105_ok : F0 105 = some (.code code105) := by kernel_rfl
def code41 : CFn :=
  CFn.mk
    (CC.seq (CC.reg none [Ins.mk (some 2) none Act.mv [Opd.k (AV.d (DV.str []))]])
      (CC.seq
        (CC.block 0
          (CC.seq (CC.reg none [Ins.mk (some 11) none Act.mv [Opd.t 0], Ins.mk (some 12) none Act.len [Opd.t 11], Ins.mk (some 13) none (Act.bin BinOp.eql (EqK.nil 10)) [Opd.t 12, Opd.k (AV.d (DV.int IntKind.i64 (Int.ofNat 0)))], Ins.mk (some 10) none Act.mv [Opd.t 13]])
            (CC.cond (Opd.t 10) (CC.seq (CC.reg none [Ins.mk (some 2) none Act.mv [Opd.k (AV.d (DV.str [UInt8.ofNat 110, UInt8.ofNat 111, UInt8.ofNat 110, UInt8.ofNat 101]))]]) CC.ret)
              (CC.seq (CC.reg none [Ins.mk (some 15) none Act.mv [Opd.t 0], Ins.mk (some 16) none (Act.call false) [Opd.k (AV.fn Mode.pure 39 [] []), Opd.t 15], Ins.mk (some 17) none (Act.un UnOp.not) [Opd.t 16], Ins.mk (some 14) none Act.mv [Opd.t 17]])
                (CC.cond (Opd.t 14) (CC.seq (CC.reg none [Ins.mk (some 2) none Act.mv [Opd.k (AV.d (DV.str []))]]) CC.ret) CC.skip)))))
        (CC.seq (CC.fgt [0, 2])
          (CC.seq (CC.reg none [Ins.mk (some 3) none Act.mv [Opd.k (AV.fn Mode.pure 101 [] [])]])
            (CC.seq (CC.reg none [Ins.mk (some 4) none Act.mv [Opd.k (AV.d DV.nilsl)]])
              (CC.seq
                (CC.seq (CC.reg none [Ins.mk (some 18) none Act.mv [Opd.t 0], Ins.mk (some 19) none Act.len [Opd.t 18], Ins.mk (some 20) none Act.mv [Opd.k (AV.d (DV.int IntKind.i64 (Int.ofNat 0)))]])
                  (CC.block 1
                    (CC.loop [2, 3, 4, 18, 19, 20]
                      (CC.seq (CC.reg none [Ins.mk (some 21) none (Act.bin BinOp.lss (EqK.nil 10)) [Opd.t 20, Opd.t 19]])
                        (CC.seq (CC.cond (Opd.t 21) CC.skip (CC.exit 1))
                          (CC.seq (CC.fgt [2, 3, 4, 18, 19, 20])
                            (CC.seq
                              (CC.block 2
                                (CC.seq (CC.reg none [Ins.mk (some 22) none (Act.iad 1) [Opd.t 18, Opd.t 20], Ins.mk (some 23) none (Act.load none) [Opd.t 22], Ins.mk (some 6) none Act.mv [Opd.t 23]])
                                  (CC.seq (CC.reg none [Ins.mk (some 7) none Act.mv [Opd.k (AV.d DV.nilsl)]])
                                    (CC.seq
                                      (CC.seq (CC.reg none [Ins.mk (some 24) none Act.mv [Opd.t 6], Ins.mk (some 25) none Act.len [Opd.t 24], Ins.mk (some 26) none Act.mv [Opd.k (AV.d (DV.int IntKind.i64 (Int.ofNat 0)))]])
                                        (CC.block 3
                                          (CC.loop [2, 3, 4, 7, 18, 19, 20, 24, 25, 26]
                                            (CC.seq (CC.reg none [Ins.mk (some 27) none (Act.bin BinOp.lss (EqK.nil 10)) [Opd.t 26, Opd.t 25]])
                                              (CC.seq (CC.cond (Opd.t 27) CC.skip (CC.exit 3))
                                                (CC.seq (CC.fgt [2, 3, 4, 7, 18, 19, 20, 24, 25, 26])
                                                  (CC.seq
                                                    (CC.block 4
                                                      (CC.seq
                                                        (CC.reg none
                                                          [Ins.mk (some 28) none (Act.iad 2) [Opd.t 24, Opd.t 26], Ins.mk (some 29) none (Act.load (some 2)) [Opd.t 28], Ins.mk (some 9) none (Act.new 90 [AV.d (DV.int IntKind.i64 (Int.ofNat 0)), AV.d (DV.int IntKind.i64 (Int.ofNat 0))]) [],
                                                            Ins.mk none none (Act.storeT 2) [Opd.t 9, Opd.t 29]])
                                                        (CC.reg (some [])
                                                          [Ins.mk (some 30) none Act.mv [Opd.t 7], Ins.mk (some 31) none Act.mv [Opd.t 3], Ins.mk (some 32) none (Act.fad 0) [Opd.t 9], Ins.mk (some 33) none (Act.load none) [Opd.t 32], Ins.mk (some 34) none (Act.call true) [Opd.t 31, Opd.t 33],
                                                            Ins.mk (some 35) none (Act.bin BinOp.add (EqK.nil 10)) [Opd.t 34, Opd.k (AV.d (DV.str [UInt8.ofNat 32]))], Ins.mk (some 36) none Act.mv [Opd.t 3], Ins.mk (some 37) none (Act.fad 1) [Opd.t 9], Ins.mk (some 38) none (Act.load none) [Opd.t 37],
                                                            Ins.mk (some 39) none (Act.call true) [Opd.t 36, Opd.t 38], Ins.mk (some 40) none (Act.bin BinOp.add (EqK.nil 10)) [Opd.t 35, Opd.t 39], Ins.mk (some 41) none (Act.bsl 9 1 [DV.str []] 1 [0]) [Opd.t 40],
                                                            Ins.mk (some 42) none (Act.app 9 1 16) [Opd.t 30, Opd.t 41], Ins.mk (some 7) none Act.mv [Opd.t 42]])))
                                                    (CC.seq (CC.fgt [2, 3, 4, 7, 18, 19, 20, 24, 25, 26]) (CC.reg none [Ins.mk (some 43) none (Act.bin BinOp.add (EqK.nil 10)) [Opd.t 26, Opd.k (AV.d (DV.int IntKind.i64 (Int.ofNat 1)))], Ins.mk (some 26) none Act.mv [Opd.t 43]])))))))))
                                      (CC.seq (CC.fgt [2, 3, 4, 7, 18, 19, 20])
                                        (CC.reg none
                                          [Ins.mk (some 44) none Act.mv [Opd.t 4], Ins.mk (some 45) none Act.mv [Opd.t 7], Ins.mk (some 46) none (Act.call false) [Opd.k (AV.fn Mode.pure 102 [] []), Opd.t 45, Opd.k (AV.d (DV.str [UInt8.ofNat 44, UInt8.ofNat 32]))],
                                            Ins.mk (some 47) none (Act.bslT 9 1 [DV.str []] 1 [0]) [Opd.t 46], Ins.mk (some 48) none (Act.app 9 1 16) [Opd.t 44, Opd.t 47], Ins.mk (some 4) none Act.mv [Opd.t 48]]))))))
                              (CC.seq (CC.fgt [2, 3, 4, 18, 19, 20]) (CC.reg none [Ins.mk (some 49) none (Act.bin BinOp.add (EqK.nil 10)) [Opd.t 20, Opd.k (AV.d (DV.int IntKind.i64 (Int.ofNat 1)))], Ins.mk (some 20) none Act.mv [Opd.t 49]])))))))))
                (CC.seq (CC.fgt [2, 4])
                  (CC.seq (CC.reg none [Ins.mk (some 50) none Act.mv [Opd.t 4], Ins.mk (some 51) none (Act.call false) [Opd.k (AV.fn Mode.pure 102 [] []), Opd.t 50, Opd.k (AV.d (DV.str [UInt8.ofNat 32, UInt8.ofNat 47, UInt8.ofNat 32]))], Ins.mk (some 2) none Act.mv [Opd.t 51]]) CC.ret))))))))
    [RV.tmp 2]
theorem code41_ok : F0 41 = some (.code code41) := by kernel_rfl
def code101 : CFn :=
  CFn.mk
    (CC.seq (CC.reg none [Ins.mk (some 2) none Act.mv [Opd.k (AV.d (DV.str []))]])
      (CC.seq
        (CC.reg none
          [Ins.mk (some 3) none Act.mv [Opd.t 0], Ins.mk (some 4) none (Act.call false) [Opd.k (AV.fn Mode.pure 68 [] []), Opd.t 3, Opd.k (AV.d (DV.int IntKind.i64 (Int.ofNat 64)))],
            Ins.mk (some 5) none (Act.bin BinOp.add (EqK.nil 10)) [Opd.t 4, Opd.k (AV.d (DV.str [UInt8.ofNat 112, UInt8.ofNat 120]))], Ins.mk (some 2) none Act.mv [Opd.t 5]])
        CC.ret))
    [RV.tmp 2]
theorem code101_ok : F0 101 = some (.code code101) := by kernel_rfl
def code104 : CFn :=
  CFn.mk
    (CC.seq (CC.reg none [Ins.mk (some 6) none Act.mv [Opd.k (AV.d (DV.bool false))]])
      (CC.seq
        (CC.seq (CC.reg none [Ins.mk (some 8) none Act.mv [Opd.t 0], Ins.mk (some 9) none Act.len [Opd.t 8], Ins.mk (some 10) none Act.mv [Opd.t 1], Ins.mk (some 11) none Act.len [Opd.t 10], Ins.mk (some 12) none (Act.bin BinOp.neq (EqK.nil 10)) [Opd.t 9, Opd.t 11]])
          (CC.cond (Opd.t 12) (CC.seq (CC.reg none [Ins.mk (some 6) none Act.mv [Opd.k (AV.d (DV.bool false))]]) CC.ret) CC.skip))
        (CC.seq (CC.fgt [0, 1, 2, 6])
          (CC.seq
            (CC.seq (CC.reg none [Ins.mk (some 13) none Act.mv [Opd.t 0], Ins.mk (some 14) none Act.len [Opd.t 13], Ins.mk (some 15) none Act.mv [Opd.k (AV.d (DV.int IntKind.i64 (Int.ofNat 0)))]])
              (CC.block 0
                (CC.loop [0, 1, 2, 6, 14, 15]
                  (CC.seq (CC.reg none [Ins.mk (some 16) none (Act.bin BinOp.lss (EqK.nil 10)) [Opd.t 15, Opd.t 14]])
                    (CC.seq (CC.cond (Opd.t 16) CC.skip (CC.exit 0))
                      (CC.seq (CC.fgt [0, 1, 2, 6, 14, 15])
                        (CC.seq
                          (CC.block 1
                            (CC.seq (CC.reg none [Ins.mk (some 17) none Act.mv [Opd.t 15], Ins.mk (some 7) none Act.mv [Opd.t 17]])
                              (CC.seq
                                (CC.reg (some [])
                                  [Ins.mk (some 18) none Act.mv [Opd.t 2], Ins.mk (some 19) none Act.mv [Opd.t 0], Ins.mk (some 20) none Act.mv [Opd.t 7], Ins.mk (some 21) none (Act.iad 1) [Opd.t 19, Opd.t 20], Ins.mk (some 22) none (Act.load none) [Opd.t 21], Ins.mk (some 23) none Act.mv [Opd.t 1],
                                    Ins.mk (some 24) none Act.mv [Opd.t 7], Ins.mk (some 25) none (Act.iad 1) [Opd.t 23, Opd.t 24], Ins.mk (some 26) none (Act.load none) [Opd.t 25], Ins.mk (some 27) none (Act.call false) [Opd.t 18, Opd.t 22, Opd.t 26],
                                    Ins.mk (some 28) none (Act.un UnOp.not) [Opd.t 27]])
                                (CC.cond (Opd.t 28) (CC.seq (CC.reg none [Ins.mk (some 6) none Act.mv [Opd.k (AV.d (DV.bool false))]]) CC.ret) CC.skip))))
                          (CC.seq (CC.fgt [0, 1, 2, 6, 14, 15]) (CC.reg none [Ins.mk (some 29) none (Act.bin BinOp.add (EqK.nil 10)) [Opd.t 15, Opd.k (AV.d (DV.int IntKind.i64 (Int.ofNat 1)))], Ins.mk (some 15) none Act.mv [Opd.t 29]])))))))))
            (CC.seq (CC.fgt [6]) (CC.seq (CC.reg none [Ins.mk (some 6) none Act.mv [Opd.k (AV.d (DV.bool true))]]) CC.ret))))))
    [RV.tmp 6]
theorem code104_ok : F0 104 = some (.code code104) := by kernel_rfl
def code106 : CFn :=
  CFn.mk
    (CC.seq (CC.reg none [Ins.mk (some 6) none Act.mv [Opd.k (AV.d (DV.bool false))]])
      (CC.seq
        (CC.seq (CC.reg none [Ins.mk (some 8) none Act.mv [Opd.t 0], Ins.mk (some 9) none Act.len [Opd.t 8], Ins.mk (some 10) none Act.mv [Opd.t 1], Ins.mk (some 11) none Act.len [Opd.t 10], Ins.mk (some 12) none (Act.bin BinOp.neq (EqK.nil 10)) [Opd.t 9, Opd.t 11]])
          (CC.cond (Opd.t 12) (CC.seq (CC.reg none [Ins.mk (some 6) none Act.mv [Opd.k (AV.d (DV.bool false))]]) CC.ret) CC.skip))
        (CC.seq (CC.fgt [0, 1, 2, 6])
          (CC.seq
            (CC.seq (CC.reg none [Ins.mk (some 13) none Act.mv [Opd.t 0], Ins.mk (some 14) none Act.len [Opd.t 13], Ins.mk (some 15) none Act.mv [Opd.k (AV.d (DV.int IntKind.i64 (Int.ofNat 0)))]])
              (CC.block 0
                (CC.loop [0, 1, 2, 6, 14, 15]
                  (CC.seq (CC.reg none [Ins.mk (some 16) none (Act.bin BinOp.lss (EqK.nil 10)) [Opd.t 15, Opd.t 14]])
                    (CC.seq (CC.cond (Opd.t 16) CC.skip (CC.exit 0))
                      (CC.seq (CC.fgt [0, 1, 2, 6, 14, 15])
                        (CC.seq
                          (CC.block 1
                            (CC.seq (CC.reg none [Ins.mk (some 17) none Act.mv [Opd.t 15], Ins.mk (some 7) none Act.mv [Opd.t 17]])
                              (CC.seq
                                (CC.reg (some [])
                                  [Ins.mk (some 18) none Act.mv [Opd.t 2], Ins.mk (some 19) none Act.mv [Opd.t 0], Ins.mk (some 20) none Act.mv [Opd.t 7], Ins.mk (some 21) none (Act.iad 2) [Opd.t 19, Opd.t 20], Ins.mk (some 22) none (Act.load (some 2)) [Opd.t 21],
                                    Ins.mk (some 23) none Act.mv [Opd.t 1], Ins.mk (some 24) none Act.mv [Opd.t 7], Ins.mk (some 25) none (Act.iad 2) [Opd.t 23, Opd.t 24], Ins.mk (some 26) none (Act.load (some 2)) [Opd.t 25], Ins.mk (some 27) none (Act.call false) [Opd.t 18, Opd.t 22, Opd.t 26],
                                    Ins.mk (some 28) none (Act.un UnOp.not) [Opd.t 27]])
                                (CC.cond (Opd.t 28) (CC.seq (CC.reg none [Ins.mk (some 6) none Act.mv [Opd.k (AV.d (DV.bool false))]]) CC.ret) CC.skip))))
                          (CC.seq (CC.fgt [0, 1, 2, 6, 14, 15]) (CC.reg none [Ins.mk (some 29) none (Act.bin BinOp.add (EqK.nil 10)) [Opd.t 15, Opd.k (AV.d (DV.int IntKind.i64 (Int.ofNat 1)))], Ins.mk (some 15) none Act.mv [Opd.t 29]])))))))))
            (CC.seq (CC.fgt [6]) (CC.seq (CC.reg none [Ins.mk (some 6) none Act.mv [Opd.k (AV.d (DV.bool true))]]) CC.ret))))))
    [RV.tmp 6]
theorem code106_ok : F0 106 = some (.code code106) := by kernel_rfl
def code59 : CFn :=
  CFn.mk
    (CC.seq
      (CC.reg none
        [Ins.mk (some 2) none
            (Act.new 27
              [AV.d (DV.int IntKind.i64 (Int.ofNat 0)), AV.d (DV.int IntKind.i64 (Int.ofNat 0)), AV.d (DV.int IntKind.i64 (Int.ofNat 0)), AV.d (DV.int IntKind.i64 (Int.ofNat 0)), AV.d (DV.int IntKind.i64 (Int.ofNat 0)), AV.d (DV.int IntKind.i64 (Int.ofNat 0)), AV.d (DV.int IntKind.i64 (Int.ofNat 0)),
                AV.d (DV.int IntKind.i64 (Int.ofNat 0))])
            []])
      (CC.seq
        (CC.seq (CC.reg none [Ins.mk (some 4) none Act.mv [Opd.k (AV.d (DV.int IntKind.i64 (Int.ofNat 0)))]])
          (CC.block 0
            (CC.loop [0, 2, 4]
              (CC.seq (CC.reg none [Ins.mk (some 5) none (Act.bin BinOp.lss (EqK.nil 10)) [Opd.t 4, Opd.k (AV.d (DV.int IntKind.i64 (Int.ofNat 4)))]])
                (CC.seq (CC.cond (Opd.t 5) CC.skip (CC.exit 0))
                  (CC.seq (CC.fgt [0, 2, 4])
                    (CC.seq
                      (CC.block 1
                        (CC.seq (CC.reg none [Ins.mk (some 6) none Act.mv [Opd.t 4], Ins.mk (some 3) none Act.mv [Opd.t 6]])
                          (CC.block 2
                            (CC.seq (CC.reg none [Ins.mk (some 15) none Act.mv [Opd.t 3], Ins.mk (some 16) none Act.mv [Opd.t 0], Ins.mk (some 17) none Act.len [Opd.t 16], Ins.mk (some 18) none (Act.bin BinOp.lss (EqK.nil 10)) [Opd.t 15, Opd.t 17], Ins.mk (some 14) none Act.mv [Opd.t 18]])
                              (CC.cond (Opd.t 14)
                                (CC.reg none
                                  [Ins.mk (some 19) none Act.mv [Opd.t 3], Ins.mk (some 20) none Act.mv [Opd.t 0], Ins.mk (some 21) none Act.mv [Opd.t 3], Ins.mk (some 22) none (Act.iad 2) [Opd.t 20, Opd.t 21], Ins.mk (some 23) none (Act.load (some 2)) [Opd.t 22],
                                    Ins.mk (some 24) none (Act.iadA 4 2) [Opd.t 2, Opd.t 19], Ins.mk none none (Act.storeT 2) [Opd.t 24, Opd.t 23]])
                                (CC.reg none
                                  [Ins.mk (some 7) none Act.mv [Opd.t 3], Ins.mk (some 8) none Act.mv [Opd.t 3], Ins.mk (some 9) none (Act.bin BinOp.sub (EqK.nil 10)) [Opd.t 8, Opd.k (AV.d (DV.int IntKind.i64 (Int.ofNat 2)))],
                                    Ins.mk (some 10) none Act.max [Opd.k (AV.d (DV.int IntKind.i64 (Int.ofNat 0))), Opd.t 9], Ins.mk (some 11) none (Act.iadA 4 2) [Opd.t 2, Opd.t 10], Ins.mk (some 12) none (Act.load (some 2)) [Opd.t 11], Ins.mk (some 13) none (Act.iadA 4 2) [Opd.t 2, Opd.t 7],
                                    Ins.mk none none (Act.storeT 2) [Opd.t 13, Opd.t 12]]))))))
                      (CC.seq (CC.fgt [0, 2, 4]) (CC.reg none [Ins.mk (some 25) none (Act.bin BinOp.add (EqK.nil 10)) [Opd.t 4, Opd.k (AV.d (DV.int IntKind.i64 (Int.ofNat 1)))], Ins.mk (some 4) none Act.mv [Opd.t 25]])))))))))
        (CC.seq (CC.fgt [2]) (CC.seq (CC.reg none [Ins.mk (some 26) none (Act.load (some 8)) [Opd.t 2], Ins.mk none none (Act.storeT 8) [Opd.t 2, Opd.t 26]]) CC.ret))))
    [RV.cell 2 (some 8)]
theorem code59_ok : F0 59 = some (.code code59) := by kernel_rfl
def code58 : CFn :=
  CFn.mk
    (CC.seq (CC.reg none [Ins.mk (some 8) none Act.mv [Opd.k (AV.d DV.nilsl)], Ins.mk (some 9) none Act.mv [Opd.k (AV.d (DV.int IntKind.i64 (Int.ofNat 0)))], Ins.mk (some 10) none Act.mv [Opd.k (AV.d (DV.int IntKind.i64 (Int.ofNat 0)))]])
      (CC.seq
        (CC.seq (CC.reg none [Ins.mk (some 14) none Act.mv [Opd.t 1], Ins.mk (some 9) none Act.mv [Opd.t 14]])
          (CC.block 0
            (CC.loop [0, 2, 3, 8, 9, 10]
              (CC.seq (CC.seq (CC.reg none [Ins.mk (some 15) none Act.mv [Opd.t 8], Ins.mk (some 16) none Act.len [Opd.t 15], Ins.mk (some 17) none Act.mv [Opd.t 3], Ins.mk (some 18) none (Act.bin BinOp.lss (EqK.nil 10)) [Opd.t 16, Opd.t 17]]) (CC.cond (Opd.t 18) CC.skip (CC.exit 0)))
                (CC.seq (CC.fgt [0, 2, 3, 8, 9, 10])
                  (CC.block 1
                    (CC.seq
                      (CC.reg none
                        [Ins.mk (some 20) none Act.mv [Opd.t 0], Ins.mk (some 21) none Act.mv [Opd.t 9], Ins.mk (some 22) none Act.mv [Opd.t 2], Ins.mk (some 23) none (Act.call false) [Opd.k (AV.fn Mode.pure 24 [] []), Opd.t 20, Opd.t 21, Opd.t 22], Ins.mk (some 19) none Act.mv [Opd.t 23],
                          Ins.mk (some 24) none (Act.ext 0) [Opd.t 19], Ins.mk (some 25) none (Act.ext 1) [Opd.t 19], Ins.mk (some 26) none (Act.ext 2) [Opd.t 19], Ins.mk (some 11) none (Act.new 26 [AV.d (DV.int IntKind.i64 (Int.ofNat 0)), AV.d (DV.int IntKind.i64 (Int.ofNat 0))]) [],
                          Ins.mk none none (Act.storeT 2) [Opd.t 11, Opd.t 24], Ins.mk (some 12) none Act.mv [Opd.t 25], Ins.mk (some 13) none Act.mv [Opd.t 26]])
                      (CC.seq
                        (CC.block 2
                          (CC.seq
                            (CC.reg none
                              [Ins.mk (some 28) none Act.mv [Opd.t 13], Ins.mk (some 29) none (Act.bin BinOp.eql (EqK.nil 10)) [Opd.t 28, Opd.k (AV.d (DV.int IntKind.i64 (Int.ofNat 50)))], Ins.mk (some 30) none Act.mv [Opd.t 29], Ins.mk (some 31) (some (30, true)) Act.mv [Opd.t 8],
                                Ins.mk (some 32) (some (30, true)) Act.len [Opd.t 31], Ins.mk (some 33) (some (30, true)) (Act.bin BinOp.gtr (EqK.nil 10)) [Opd.t 32, Opd.k (AV.d (DV.int IntKind.i64 (Int.ofNat 0)))], Ins.mk (some 34) none Act.pick [Opd.t 30, Opd.t 33, Opd.k (AV.d (DV.bool false))],
                                Ins.mk (some 27) none Act.mv [Opd.t 34]])
                            (CC.cond (Opd.t 27)
                              (CC.seq (CC.reg none [Ins.mk (some 35) none Act.mv [Opd.t 8], Ins.mk (some 36) none Act.mv [Opd.t 9], Ins.mk (some 8) none Act.mv [Opd.t 35], Ins.mk (some 9) none Act.mv [Opd.t 36], Ins.mk (some 10) none Act.mv [Opd.k (AV.d (DV.int IntKind.i64 (Int.ofNat 0)))]]) CC.ret)
                              (CC.seq (CC.reg none [Ins.mk (some 38) none Act.mv [Opd.t 13], Ins.mk (some 39) none (Act.bin BinOp.neq (EqK.nil 10)) [Opd.t 38, Opd.k (AV.d (DV.int IntKind.i64 (Int.ofNat 0)))], Ins.mk (some 37) none Act.mv [Opd.t 39]])
                                (CC.cond (Opd.t 37) (CC.seq (CC.reg none [Ins.mk (some 40) none Act.mv [Opd.t 12], Ins.mk (some 41) none Act.mv [Opd.t 13], Ins.mk (some 8) none Act.mv [Opd.k (AV.d DV.nilsl)], Ins.mk (some 9) none Act.mv [Opd.t 40], Ins.mk (some 10) none Act.mv [Opd.t 41]]) CC.ret)
                                  CC.skip)))))
                        (CC.seq (CC.fgt [0, 2, 3, 8, 9, 10, 11, 12])
                          (CC.seq
                            (CC.reg none
                              [Ins.mk (some 42) none Act.mv [Opd.t 8], Ins.mk (some 43) none (Act.load (some 2)) [Opd.t 11], Ins.mk (some 44) none (Act.bslT 26 2 [DV.int IntKind.i64 (Int.ofNat 0), DV.int IntKind.i64 (Int.ofNat 0)] 1 [0]) [Opd.t 43],
                                Ins.mk (some 45) none (Act.app 26 2 16) [Opd.t 42, Opd.t 44], Ins.mk (some 8) none Act.mv [Opd.t 45]])
                            (CC.reg none [Ins.mk (some 46) none Act.mv [Opd.t 12], Ins.mk (some 9) none Act.mv [Opd.t 46]])))))))))))
        (CC.seq (CC.fgt [8, 9, 10])
          (CC.seq (CC.reg none [Ins.mk (some 47) none Act.mv [Opd.t 8], Ins.mk (some 48) none Act.mv [Opd.t 9], Ins.mk (some 8) none Act.mv [Opd.t 47], Ins.mk (some 9) none Act.mv [Opd.t 48], Ins.mk (some 10) none Act.mv [Opd.k (AV.d (DV.int IntKind.i64 (Int.ofNat 0)))]]) CC.ret))))
    [RV.tmp 8, RV.tmp 9, RV.tmp 10]
theorem code58_ok : F0 58 = some (.code code58) := by kernel_rfl
def code107 : CFn :=
  CFn.mk
    (CC.seq (CC.reg none [Ins.mk (some 2) none Act.mv [Opd.k (AV.d (DV.str []))]])
      (CC.seq (CC.reg none [Ins.mk (some 3) none Act.mv [Opd.k (AV.d DV.nilsl)]])
        (CC.seq
          (CC.seq (CC.reg none [Ins.mk (some 6) none Act.mv [Opd.t 0], Ins.mk (some 7) none Act.len [Opd.t 6], Ins.mk (some 8) none Act.mv [Opd.k (AV.d (DV.int IntKind.i64 (Int.ofNat 0)))]])
            (CC.block 0
              (CC.loop [2, 3, 6, 7, 8]
                (CC.seq (CC.reg none [Ins.mk (some 9) none (Act.bin BinOp.lss (EqK.nil 10)) [Opd.t 8, Opd.t 7]])
                  (CC.seq (CC.cond (Opd.t 9) CC.skip (CC.exit 0))
                    (CC.seq (CC.fgt [2, 3, 6, 7, 8])
                      (CC.seq
                        (CC.block 1
                          (CC.seq
                            (CC.reg none
                              [Ins.mk (some 10) none (Act.iad 2) [Opd.t 6, Opd.t 8], Ins.mk (some 11) none (Act.load (some 2)) [Opd.t 10], Ins.mk (some 5) none (Act.new 26 [AV.d (DV.int IntKind.i64 (Int.ofNat 0)), AV.d (DV.int IntKind.i64 (Int.ofNat 0))]) [],
                                Ins.mk none none (Act.storeT 2) [Opd.t 5, Opd.t 11]])
                            (CC.reg none
                              [Ins.mk (some 12) none Act.mv [Opd.t 3], Ins.mk (some 13) none (Act.load (some 2)) [Opd.t 5], Ins.mk (some 14) none (Act.call false) [Opd.k (AV.fn Mode.pure 20 [] []), Opd.t 13], Ins.mk (some 15) none (Act.bslT 9 1 [DV.str []] 1 [0]) [Opd.t 14],
                                Ins.mk (some 16) none (Act.app 9 1 16) [Opd.t 12, Opd.t 15], Ins.mk (some 3) none Act.mv [Opd.t 16]])))
                        (CC.seq (CC.fgt [2, 3, 6, 7, 8]) (CC.reg none [Ins.mk (some 17) none (Act.bin BinOp.add (EqK.nil 10)) [Opd.t 8, Opd.k (AV.d (DV.int IntKind.i64 (Int.ofNat 1)))], Ins.mk (some 8) none Act.mv [Opd.t 17]])))))))))
          (CC.seq (CC.fgt [2, 3]) (CC.seq (CC.reg none [Ins.mk (some 18) none Act.mv [Opd.t 3], Ins.mk (some 19) none (Act.call false) [Opd.k (AV.fn Mode.pure 102 [] []), Opd.t 18, Opd.k (AV.d (DV.str [UInt8.ofNat 32]))], Ins.mk (some 2) none Act.mv [Opd.t 19]]) CC.ret)))))
    [RV.tmp 2]
theorem code107_ok : F0 107 = some (.code code107) := by kernel_rfl
def code155 : CFn :=
  CFn.mk
    (CC.seq (CC.reg none [Ins.mk (some 2) none Act.mv [Opd.k (AV.d (DV.int IntKind.i64 (Int.ofNat 0)))]])
      (CC.seq (CC.reg none [Ins.mk (some 3) none Act.mv [Opd.t 0], Ins.mk (some 4) none (Act.call false) [Opd.k (AV.fn Mode.pure 171 [] []), Opd.t 3], Ins.mk (some 5) none (Act.fld 4 none) [Opd.t 4], Ins.mk (some 2) none Act.mv [Opd.t 5]]) CC.ret))
    [RV.tmp 2]
theorem code155_ok : F0 155 = some (.code code155) := by kernel_rfl
def code124 : CFn :=
  CFn.mk
    (CC.seq (CC.reg none [Ins.mk (some 4) none Act.mv [Opd.k (AV.d (DV.int IntKind.i64 (Int.ofNat 0)))], Ins.mk (some 5) none Act.mv [Opd.k (AV.d (DV.int IntKind.i64 (Int.ofNat 0)))]])
      (CC.seq
        (CC.seq (CC.reg none [Ins.mk (some 11) none Act.mv [Opd.t 1], Ins.mk (some 12) none (Act.call false) [Opd.k (AV.fn Mode.pure 116 [] []), Opd.t 11], Ins.mk (some 13) none (Act.un UnOp.not) [Opd.t 12]])
          (CC.cond (Opd.t 13) (CC.seq (CC.reg none [Ins.mk (some 4) none Act.mv [Opd.k (AV.d (DV.int IntKind.i64 (Int.ofNat 0)))], Ins.mk (some 5) none Act.mv [Opd.k (AV.d (DV.int IntKind.i64 (Int.ofNat 2)))]]) CC.ret) CC.skip))
        (CC.seq (CC.fgt [0, 1, 4, 5])
          (CC.seq
            (CC.reg none
              [Ins.mk (some 14) none Act.mv [Opd.t 0], Ins.mk (some 15) none (Act.call false) [Opd.k (AV.fn Mode.pure 171 [] []), Opd.t 14], Ins.mk (some 6) none (Act.new 192 [AV.d (DV.bool false), AV.d (DV.str []), AV.d (DV.str []), AV.d (DV.str []), AV.d (DV.int IntKind.i64 (Int.ofNat 0))]) [],
                Ins.mk none none (Act.storeT 5) [Opd.t 6, Opd.t 15]])
            (CC.seq
              (CC.seq
                (CC.reg none
                  [Ins.mk (some 16) none (Act.fad 4) [Opd.t 6], Ins.mk (some 17) none (Act.load none) [Opd.t 16], Ins.mk (some 18) none (Act.bin BinOp.eql (EqK.nil 10)) [Opd.t 17, Opd.k (AV.d (DV.int IntKind.i64 (Int.ofNat 0)))], Ins.mk (some 19) none Act.mv [Opd.t 18],
                    Ins.mk (some 20) (some (19, false)) (Act.fad 4) [Opd.t 6], Ins.mk (some 21) (some (19, false)) (Act.load none) [Opd.t 20], Ins.mk (some 22) (some (19, false)) Act.mv [Opd.t 0], Ins.mk (some 23) (some (19, false)) Act.lens [Opd.t 22],
                    Ins.mk (some 24) (some (19, false)) (Act.bin BinOp.neq (EqK.nil 10)) [Opd.t 21, Opd.t 23], Ins.mk (some 25) none Act.pick [Opd.t 19, Opd.k (AV.d (DV.bool true)), Opd.t 24], Ins.mk (some 26) none Act.mv [Opd.t 25], Ins.mk (some 27) (some (26, false)) Act.mv [Opd.t 0],
                    Ins.mk (some 28) (some (26, false)) Act.lens [Opd.t 27], Ins.mk (some 29) (some (26, false)) (Act.bin BinOp.gtr (EqK.nil 10)) [Opd.t 28, Opd.k (AV.d (DV.int IntKind.i64 (Int.ofNat 300)))], Ins.mk (some 30) none Act.pick [Opd.t 26, Opd.k (AV.d (DV.bool true)), Opd.t 29]])
                (CC.cond (Opd.t 30) (CC.seq (CC.reg none [Ins.mk (some 4) none Act.mv [Opd.k (AV.d (DV.int IntKind.i64 (Int.ofNat 0)))], Ins.mk (some 5) none Act.mv [Opd.k (AV.d (DV.int IntKind.i64 (Int.ofNat 21)))]]) CC.ret) CC.skip))
              (CC.seq (CC.fgt [1, 4, 5, 6])
                (CC.seq
                  (CC.reg none
                    [Ins.mk (some 31) none (Act.fad 1) [Opd.t 6], Ins.mk (some 32) none (Act.load none) [Opd.t 31], Ins.mk (some 33) none (Act.fad 2) [Opd.t 6], Ins.mk (some 34) none (Act.load none) [Opd.t 33], Ins.mk (some 35) none (Act.bin BinOp.add (EqK.nil 10)) [Opd.t 32, Opd.t 34],
                      Ins.mk (some 36) none (Act.s2b 5) [Opd.t 35], Ins.mk (some 7) none Act.mv [Opd.t 36]])
                  (CC.seq
                    (CC.seq (CC.reg none [Ins.mk (some 37) none Act.mv [Opd.t 7], Ins.mk (some 38) none Act.len [Opd.t 37], Ins.mk (some 39) none Act.mv [Opd.k (AV.d (DV.int IntKind.i64 (Int.ofNat 0)))]])
                      (CC.block 0
                        (CC.loop [1, 4, 5, 6, 7, 38, 39]
                          (CC.seq (CC.reg none [Ins.mk (some 40) none (Act.bin BinOp.lss (EqK.nil 10)) [Opd.t 39, Opd.t 38]])
                            (CC.seq (CC.cond (Opd.t 40) CC.skip (CC.exit 0))
                              (CC.seq (CC.fgt [1, 4, 5, 6, 7, 38, 39])
                                (CC.seq
                                  (CC.block 1
                                    (CC.seq (CC.reg none [Ins.mk (some 41) none Act.mv [Opd.t 39], Ins.mk (some 8) none Act.mv [Opd.t 41]])
                                      (CC.reg none
                                        [Ins.mk (some 42) none Act.mv [Opd.t 7], Ins.mk (some 43) none Act.mv [Opd.t 8], Ins.mk (some 44) none (Act.iad 1) [Opd.t 42, Opd.t 43], Ins.mk (some 45) none (Act.load none) [Opd.t 44],
                                          Ins.mk (some 46) none (Act.bin BinOp.sub (EqK.nil 10)) [Opd.t 45, Opd.k (AV.d (DV.int IntKind.u8 (Int.ofNat 48)))], Ins.mk (some 47) none (Act.iad 1) [Opd.t 42, Opd.t 43], Ins.mk none none (Act.storeT 1) [Opd.t 47, Opd.t 46]])))
                                  (CC.seq (CC.fgt [1, 4, 5, 6, 7, 38, 39]) (CC.reg none [Ins.mk (some 48) none (Act.bin BinOp.add (EqK.nil 10)) [Opd.t 39, Opd.k (AV.d (DV.int IntKind.i64 (Int.ofNat 1)))], Ins.mk (some 39) none Act.mv [Opd.t 48]])))))))))
                    (CC.seq (CC.fgt [1, 4, 5, 6, 7])
                      (CC.seq
                        (CC.reg (some [])
                          [Ins.mk (some 50) none Act.mv [Opd.t 7], Ins.mk (some 51) none (Act.fad 1) [Opd.t 6], Ins.mk (some 52) none (Act.load none) [Opd.t 51], Ins.mk (some 53) none Act.lens [Opd.t 52], Ins.mk (some 54) none (Act.load (some 5)) [Opd.t 6],
                            Ins.mk (some 55) none (Act.call true) [Opd.k (AV.fn Mode.pure 173 [] []), Opd.t 54], Ins.mk (some 56) none (Act.bin BinOp.add (EqK.nil 10)) [Opd.t 53, Opd.t 55], Ins.mk (some 57) none Act.mv [Opd.t 1],
                            Ins.mk (some 58) none (Act.call true) [Opd.k (AV.fn Mode.pure 172 [] []), Opd.t 50, Opd.t 56, Opd.t 57], Ins.mk (some 49) none Act.mv [Opd.t 58], Ins.mk (some 59) none (Act.ext 0) [Opd.t 49], Ins.mk (some 60) none (Act.ext 1) [Opd.t 49],
                            Ins.mk (some 9) none Act.mv [Opd.t 59], Ins.mk (some 10) none Act.mv [Opd.t 60]])
                        (CC.seq
                          (CC.seq (CC.reg none [Ins.mk (some 61) none Act.mv [Opd.t 10], Ins.mk (some 62) none (Act.un UnOp.not) [Opd.t 61]])
                            (CC.cond (Opd.t 62) (CC.seq (CC.reg none [Ins.mk (some 4) none Act.mv [Opd.k (AV.d (DV.int IntKind.i64 (Int.ofNat 0)))], Ins.mk (some 5) none Act.mv [Opd.k (AV.d (DV.int IntKind.i64 (Int.ofNat 10)))]]) CC.ret) CC.skip))
                          (CC.seq (CC.fgt [4, 5, 6, 9])
                            (CC.seq
                              (CC.seq (CC.reg none [Ins.mk (some 63) none (Act.fad 0) [Opd.t 6], Ins.mk (some 64) none (Act.load none) [Opd.t 63]])
                                (CC.cond (Opd.t 64) (CC.seq (CC.reg none [Ins.mk (some 65) none Act.mv [Opd.t 9], Ins.mk (some 66) none (Act.un UnOp.neg) [Opd.t 65], Ins.mk (some 4) none Act.mv [Opd.t 66], Ins.mk (some 5) none Act.mv [Opd.k (AV.d (DV.int IntKind.i64 (Int.ofNat 0)))]]) CC.ret)
                                  CC.skip))
                              (CC.seq (CC.fgt [4, 5, 9]) (CC.seq (CC.reg none [Ins.mk (some 67) none Act.mv [Opd.t 9], Ins.mk (some 4) none Act.mv [Opd.t 67], Ins.mk (some 5) none Act.mv [Opd.k (AV.d (DV.int IntKind.i64 (Int.ofNat 0)))]]) CC.ret)))))))))))))))
    [RV.tmp 4, RV.tmp 5]
theorem code124_ok : F0 124 = some (.code code124) := by kernel_rfl
def code172 : CFn :=
  CFn.mk
    (CC.seq (CC.reg none [Ins.mk (some 6) none Act.mv [Opd.k (AV.d (DV.int IntKind.i64 (Int.ofNat 0)))], Ins.mk (some 7) none Act.mv [Opd.k (AV.d (DV.bool false))]])
      (CC.seq
        (CC.block 0
          (CC.loop [0, 1, 2, 6, 7]
            (CC.seq
              (CC.seq
                (CC.reg none
                  [Ins.mk (some 15) none Act.mv [Opd.t 0], Ins.mk (some 16) none Act.len [Opd.t 15], Ins.mk (some 17) none (Act.bin BinOp.gtr (EqK.nil 10)) [Opd.t 16, Opd.k (AV.d (DV.int IntKind.i64 (Int.ofNat 0)))], Ins.mk (some 18) none Act.mv [Opd.t 17],
                    Ins.mk (some 19) (some (18, true)) Act.mv [Opd.t 0], Ins.mk (some 20) (some (18, true)) (Act.iad 1) [Opd.t 19, Opd.k (AV.d (DV.int IntKind.i64 (Int.ofNat 0)))], Ins.mk (some 21) (some (18, true)) (Act.load none) [Opd.t 20],
                    Ins.mk (some 22) (some (18, true)) (Act.bin BinOp.eql (EqK.nil 10)) [Opd.t 21, Opd.k (AV.d (DV.int IntKind.u8 (Int.ofNat 0)))], Ins.mk (some 23) none Act.pick [Opd.t 18, Opd.t 22, Opd.k (AV.d (DV.bool false))]])
                (CC.cond (Opd.t 23) CC.skip (CC.exit 0)))
              (CC.seq (CC.fgt [0, 1, 2, 6, 7])
                (CC.block 1
                  (CC.seq (CC.reg none [Ins.mk (some 24) none Act.mv [Opd.t 0], Ins.mk (some 25) none (Act.cutr 1 true false) [Opd.t 24, Opd.k (AV.d (DV.int IntKind.i64 (Int.ofNat 1)))], Ins.mk (some 0) none Act.mv [Opd.t 25]])
                    (CC.reg none [Ins.mk (some 26) none Act.mv [Opd.t 1], Ins.mk (some 27) none (Act.bin BinOp.sub (EqK.nil 10)) [Opd.t 26, Opd.k (AV.d (DV.int IntKind.i64 (Int.ofNat 1)))], Ins.mk (some 1) none Act.mv [Opd.t 27]])))))))
        (CC.seq (CC.fgt [0, 1, 2, 6, 7])
          (CC.seq
            (CC.block 2
              (CC.seq
                (CC.reg none
                  [Ins.mk (some 29) none Act.mv [Opd.t 0], Ins.mk (some 30) none Act.len [Opd.t 29], Ins.mk (some 31) none (Act.bin BinOp.eql (EqK.nil 10)) [Opd.t 30, Opd.k (AV.d (DV.int IntKind.i64 (Int.ofNat 0)))], Ins.mk (some 32) none Act.mv [Opd.t 31],
                    Ins.mk (some 33) (some (32, false)) Act.mv [Opd.t 1], Ins.mk (some 34) (some (32, false)) (Act.bin BinOp.lss (EqK.nil 10)) [Opd.t 33, Opd.k (AV.d (DV.int IntKind.i64 (Int.negSucc 4)))], Ins.mk (some 35) none Act.pick [Opd.t 32, Opd.k (AV.d (DV.bool true)), Opd.t 34],
                    Ins.mk (some 28) none Act.mv [Opd.t 35]])
                (CC.cond (Opd.t 28) (CC.seq (CC.reg none [Ins.mk (some 6) none Act.mv [Opd.k (AV.d (DV.int IntKind.i64 (Int.ofNat 0)))], Ins.mk (some 7) none Act.mv [Opd.k (AV.d (DV.bool true))]]) CC.ret)
                  (CC.seq (CC.reg none [Ins.mk (some 37) none Act.mv [Opd.t 1], Ins.mk (some 38) none (Act.bin BinOp.gtr (EqK.nil 10)) [Opd.t 37, Opd.k (AV.d (DV.int IntKind.i64 (Int.ofNat 13)))], Ins.mk (some 36) none Act.mv [Opd.t 38]])
                    (CC.cond (Opd.t 36) (CC.seq (CC.reg none [Ins.mk (some 6) none Act.mv [Opd.k (AV.d (DV.int IntKind.i64 (Int.ofNat 0)))], Ins.mk (some 7) none Act.mv [Opd.k (AV.d (DV.bool false))]]) CC.ret) CC.skip)))))
            (CC.seq (CC.fgt [0, 1, 2, 6, 7])
              (CC.seq (CC.reg none [Ins.mk (some 8) none Act.mv [Opd.k (AV.d (DV.int IntKind.i64 (Int.ofNat 0)))]])
                (CC.seq
                  (CC.seq (CC.reg none [Ins.mk (some 39) none Act.mv [Opd.t 1], Ins.mk (some 40) none Act.max [Opd.k (AV.d (DV.int IntKind.i64 (Int.ofNat 0))), Opd.t 39], Ins.mk (some 41) none Act.mv [Opd.k (AV.d (DV.int IntKind.i64 (Int.ofNat 0)))]])
                    (CC.block 3
                      (CC.loop [0, 1, 2, 6, 7, 8, 40, 41]
                        (CC.seq (CC.reg none [Ins.mk (some 42) none (Act.bin BinOp.lss (EqK.nil 10)) [Opd.t 41, Opd.t 40]])
                          (CC.seq (CC.cond (Opd.t 42) CC.skip (CC.exit 3))
                            (CC.seq (CC.fgt [0, 1, 2, 6, 7, 8, 40, 41])
                              (CC.seq
                                (CC.block 4
                                  (CC.seq (CC.reg none [Ins.mk (some 43) none Act.mv [Opd.t 41], Ins.mk (some 9) none Act.mv [Opd.t 43]])
                                    (CC.seq (CC.reg none [Ins.mk (some 44) none Act.mv [Opd.t 8], Ins.mk (some 45) none (Act.bin BinOp.mul (EqK.nil 10)) [Opd.t 44, Opd.k (AV.d (DV.int IntKind.i64 (Int.ofNat 10)))], Ins.mk (some 8) none Act.mv [Opd.t 45]])
                                      (CC.seq (CC.reg none [Ins.mk (some 46) none Act.mv [Opd.t 9], Ins.mk (some 47) none Act.mv [Opd.t 0], Ins.mk (some 48) none Act.len [Opd.t 47], Ins.mk (some 49) none (Act.bin BinOp.lss (EqK.nil 10)) [Opd.t 46, Opd.t 48]])
                                        (CC.cond (Opd.t 49)
                                          (CC.reg none
                                            [Ins.mk (some 50) none Act.mv [Opd.t 8], Ins.mk (some 51) none Act.mv [Opd.t 0], Ins.mk (some 52) none Act.mv [Opd.t 9], Ins.mk (some 53) none (Act.iad 1) [Opd.t 51, Opd.t 52], Ins.mk (some 54) none (Act.load none) [Opd.t 53],
                                              Ins.mk (some 55) none (Act.cvi IntKind.i64) [Opd.t 54], Ins.mk (some 56) none (Act.bin BinOp.add (EqK.nil 10)) [Opd.t 50, Opd.t 55], Ins.mk (some 8) none Act.mv [Opd.t 56]])
                                          CC.skip)))))
                                (CC.seq (CC.fgt [0, 1, 2, 6, 7, 8, 40, 41]) (CC.reg none [Ins.mk (some 57) none (Act.bin BinOp.add (EqK.nil 10)) [Opd.t 41, Opd.k (AV.d (DV.int IntKind.i64 (Int.ofNat 1)))], Ins.mk (some 41) none Act.mv [Opd.t 57]])))))))))
                  (CC.seq (CC.fgt [0, 1, 2, 6, 7, 8])
                    (CC.seq (CC.reg none [Ins.mk (some 10) none Act.mv [Opd.k (AV.d DV.nilsl)]])
                      (CC.seq
                        (CC.seq
                          (CC.reg none
                            [Ins.mk (some 58) none Act.mv [Opd.t 1], Ins.mk (some 59) none (Act.un UnOp.neg) [Opd.t 58], Ins.mk (some 60) none Act.max [Opd.k (AV.d (DV.int IntKind.i64 (Int.ofNat 0))), Opd.t 59], Ins.mk (some 61) none Act.mv [Opd.k (AV.d (DV.int IntKind.i64 (Int.ofNat 0)))]])
                          (CC.block 5
                            (CC.loop [0, 1, 2, 6, 7, 8, 10, 60, 61]
                              (CC.seq (CC.reg none [Ins.mk (some 62) none (Act.bin BinOp.lss (EqK.nil 10)) [Opd.t 61, Opd.t 60]])
                                (CC.seq (CC.cond (Opd.t 62) CC.skip (CC.exit 5))
                                  (CC.seq (CC.fgt [0, 1, 2, 6, 7, 8, 10, 60, 61])
                                    (CC.seq
                                      (CC.block 6
                                        (CC.reg none
                                          [Ins.mk (some 63) none Act.mv [Opd.t 10], Ins.mk (some 64) none (Act.bslT 5 1 [DV.int IntKind.u8 (Int.ofNat 0)] 1 [0]) [Opd.k (AV.d (DV.int IntKind.u8 (Int.ofNat 0)))], Ins.mk (some 65) none (Act.app 5 1 1) [Opd.t 63, Opd.t 64],
                                            Ins.mk (some 10) none Act.mv [Opd.t 65]]))
                                      (CC.seq (CC.fgt [0, 1, 2, 6, 7, 8, 10, 60, 61]) (CC.reg none [Ins.mk (some 66) none (Act.bin BinOp.add (EqK.nil 10)) [Opd.t 61, Opd.k (AV.d (DV.int IntKind.i64 (Int.ofNat 1)))], Ins.mk (some 61) none Act.mv [Opd.t 66]])))))))))
                        (CC.seq (CC.fgt [0, 1, 2, 6, 7, 8, 10])
                          (CC.seq
                            (CC.reg none
                              [Ins.mk (some 67) none Act.mv [Opd.t 10], Ins.mk (some 68) none Act.mv [Opd.t 0], Ins.mk (some 69) none Act.mv [Opd.t 0], Ins.mk (some 70) none Act.len [Opd.t 69], Ins.mk (some 71) none Act.mv [Opd.t 1],
                                Ins.mk (some 72) none Act.max [Opd.k (AV.d (DV.int IntKind.i64 (Int.ofNat 0))), Opd.t 71], Ins.mk (some 73) none Act.min [Opd.t 70, Opd.t 72], Ins.mk (some 74) none (Act.cutr 1 true false) [Opd.t 68, Opd.t 73], Ins.mk (some 75) none (Act.app 5 1 1) [Opd.t 67, Opd.t 74],
                                Ins.mk (some 10) none Act.mv [Opd.t 75]])
                            (CC.seq (CC.reg none [Ins.mk (some 11) none Act.mv [Opd.k (AV.d (DV.int IntKind.i64 (Int.ofNat 0)))]])
                              (CC.seq
                                (CC.seq (CC.reg none [Ins.mk (some 76) none Act.mv [Opd.t 10], Ins.mk (some 77) none Act.len [Opd.t 76], Ins.mk (some 78) none (Act.bin BinOp.sub (EqK.nil 10)) [Opd.t 77, Opd.k (AV.d (DV.int IntKind.i64 (Int.ofNat 1)))], Ins.mk (some 12) none Act.mv [Opd.t 78]])
                                  (CC.block 7
                                    (CC.loop [2, 6, 7, 8, 10, 11, 12]
                                      (CC.seq (CC.seq (CC.reg none [Ins.mk (some 79) none Act.mv [Opd.t 12], Ins.mk (some 80) none (Act.bin BinOp.geq (EqK.nil 10)) [Opd.t 79, Opd.k (AV.d (DV.int IntKind.i64 (Int.ofNat 0)))]]) (CC.cond (Opd.t 80) CC.skip (CC.exit 7)))
                                        (CC.seq (CC.fgt [2, 6, 7, 8, 10, 11, 12])
                                          (CC.seq
                                            (CC.block 8
                                              (CC.seq
                                                (CC.reg none
                                                  [Ins.mk (some 83) none Act.mv [Opd.t 10], Ins.mk (some 84) none Act.mv [Opd.t 12], Ins.mk (some 85) none (Act.iad 1) [Opd.t 83, Opd.t 84], Ins.mk (some 86) none (Act.load none) [Opd.t 85], Ins.mk (some 87) none (Act.cvi IntKind.i64) [Opd.t 86],
                                                    Ins.mk (some 88) none Act.mv [Opd.t 2], Ins.mk (some 89) none (Act.bin BinOp.mul (EqK.nil 10)) [Opd.t 87, Opd.t 88], Ins.mk (some 90) none Act.mv [Opd.t 11], Ins.mk (some 91) none (Act.bin BinOp.add (EqK.nil 10)) [Opd.t 89, Opd.t 90],
                                                    Ins.mk (some 13) none Act.mv [Opd.t 91]])
                                                (CC.reg none
                                                  [Ins.mk (some 92) none Act.mv [Opd.t 10], Ins.mk (some 93) none Act.mv [Opd.t 12], Ins.mk (some 94) none Act.mv [Opd.t 13], Ins.mk (some 95) none (Act.bin BinOp.rem (EqK.nil 10)) [Opd.t 94, Opd.k (AV.d (DV.int IntKind.i64 (Int.ofNat 10)))],
                                                    Ins.mk (some 96) none (Act.cvi IntKind.u8) [Opd.t 95], Ins.mk (some 97) none Act.mv [Opd.t 13], Ins.mk (some 98) none (Act.bin BinOp.quo (EqK.nil 10)) [Opd.t 97, Opd.k (AV.d (DV.int IntKind.i64 (Int.ofNat 10)))],
                                                    Ins.mk (some 99) none (Act.iad 1) [Opd.t 92, Opd.t 93], Ins.mk none none (Act.storeT 1) [Opd.t 99, Opd.t 96], Ins.mk (some 11) none Act.mv [Opd.t 98]])))
                                            (CC.seq (CC.fgt [2, 6, 7, 8, 10, 11, 12])
                                              (CC.reg none [Ins.mk (some 81) none Act.mv [Opd.t 12], Ins.mk (some 82) none (Act.bin BinOp.sub (EqK.nil 10)) [Opd.t 81, Opd.k (AV.d (DV.int IntKind.i64 (Int.ofNat 1)))], Ins.mk (some 12) none Act.mv [Opd.t 82]]))))))))
                                (CC.seq (CC.fgt [2, 6, 7, 8, 10, 11])
                                  (CC.seq
                                    (CC.reg none
                                      [Ins.mk (some 100) none Act.mv [Opd.t 8], Ins.mk (some 101) none Act.mv [Opd.t 2], Ins.mk (some 102) none (Act.bin BinOp.mul (EqK.nil 10)) [Opd.t 100, Opd.t 101], Ins.mk (some 103) none Act.mv [Opd.t 11],
                                        Ins.mk (some 104) none (Act.bin BinOp.add (EqK.nil 10)) [Opd.t 102, Opd.t 103], Ins.mk (some 14) none Act.mv [Opd.t 104]])
                                    (CC.seq
                                      (CC.seq
                                        (CC.reg none
                                          [Ins.mk (some 105) none Act.mv [Opd.t 10], Ins.mk (some 106) none Act.len [Opd.t 105], Ins.mk (some 107) none (Act.bin BinOp.gtr (EqK.nil 10)) [Opd.t 106, Opd.k (AV.d (DV.int IntKind.i64 (Int.ofNat 0)))], Ins.mk (some 108) none Act.mv [Opd.t 107],
                                            Ins.mk (some 109) (some (108, true)) Act.mv [Opd.t 10], Ins.mk (some 110) (some (108, true)) (Act.iad 1) [Opd.t 109, Opd.k (AV.d (DV.int IntKind.i64 (Int.ofNat 0)))], Ins.mk (some 111) (some (108, true)) (Act.load none) [Opd.t 110],
                                            Ins.mk (some 112) (some (108, true)) (Act.bin BinOp.geq (EqK.nil 10)) [Opd.t 111, Opd.k (AV.d (DV.int IntKind.u8 (Int.ofNat 5)))], Ins.mk (some 113) none Act.pick [Opd.t 108, Opd.t 112, Opd.k (AV.d (DV.bool false))]])
                                        (CC.cond (Opd.t 113) (CC.reg none [Ins.mk (some 114) none Act.mv [Opd.t 14], Ins.mk (some 115) none (Act.bin BinOp.add (EqK.nil 10)) [Opd.t 114, Opd.k (AV.d (DV.int IntKind.i64 (Int.ofNat 1)))], Ins.mk (some 14) none Act.mv [Opd.t 115]]) CC.skip))
                                      (CC.seq (CC.fgt [6, 7, 14])
                                        (CC.seq
                                          (CC.reg none
                                            [Ins.mk (some 116) none Act.mv [Opd.t 14], Ins.mk (some 117) none Act.mv [Opd.t 14], Ins.mk (some 118) none (Act.bin BinOp.leq (EqK.nil 10)) [Opd.t 117, Opd.k (AV.d (DV.int IntKind.i64 (Int.ofNat 68719476736)))], Ins.mk (some 6) none Act.mv [Opd.t 116],
                                              Ins.mk (some 7) none Act.mv [Opd.t 118]])
                                          CC.ret)))))))))))))))))))
    [RV.tmp 6, RV.tmp 7]
theorem code172_ok : F0 172 = some (.code code172) := by kernel_rfl
def code9 : CFn :=
  CFn.mk
    (CC.seq (CC.reg none [Ins.mk (some 6) none (Act.box 27) [Opd.t 0], Ins.mk (some 7) none (Act.box 26) [Opd.t 1], Ins.mk (some 8) none (Act.box 26) [Opd.t 2], Ins.mk (some 12) none Act.mv [Opd.k (AV.d (DV.bool false))]])
      (CC.seq
        (CC.seq (CC.reg none [Ins.mk (some 30) none (Act.load (some 8)) [Opd.t 6], Ins.mk (some 31) none (Act.call false) [Opd.k (AV.fn Mode.pure 45 [] []), Opd.t 30]])
          (CC.cond (Opd.t 31)
            (CC.seq (CC.reg none [Ins.mk (some 32) none (Act.load (some 8)) [Opd.t 6], Ins.mk (some 33) none (Act.call false) [Opd.k (AV.fn Mode.pure 47 [] []), Opd.t 32], Ins.mk (some 34) none (Act.call false) [Opd.k (AV.fn Mode.pure 55 [] []), Opd.t 33], Ins.mk (some 13) none Act.mv [Opd.t 34]])
              (CC.seq
                (CC.reg none
                  [Ins.mk (some 36) none Act.mv [Opd.t 13], Ins.mk (some 37) none (Act.call false) [Opd.k (AV.fn Mode.pure 12 [] []), Opd.t 36, Opd.k (AV.d (DV.int IntKind.i64 (Int.ofNat 0)))], Ins.mk (some 35) none Act.mv [Opd.t 37], Ins.mk (some 38) none (Act.ext 0) [Opd.t 35],
                    Ins.mk (some 39) none (Act.ext 1) [Opd.t 35], Ins.mk (some 40) none (Act.ext 2) [Opd.t 35],
                    Ins.mk (some 14) none
                      (Act.new 27
                        [AV.d (DV.int IntKind.i64 (Int.ofNat 0)), AV.d (DV.int IntKind.i64 (Int.ofNat 0)), AV.d (DV.int IntKind.i64 (Int.ofNat 0)), AV.d (DV.int IntKind.i64 (Int.ofNat 0)), AV.d (DV.int IntKind.i64 (Int.ofNat 0)), AV.d (DV.int IntKind.i64 (Int.ofNat 0)),
                          AV.d (DV.int IntKind.i64 (Int.ofNat 0)), AV.d (DV.int IntKind.i64 (Int.ofNat 0))])
                      [],
                    Ins.mk none none (Act.storeT 8) [Opd.t 14, Opd.t 38], Ins.mk (some 15) none Act.mv [Opd.t 39], Ins.mk (some 16) none Act.mv [Opd.t 40]])
                (CC.seq
                  (CC.reg none
                    [Ins.mk (some 41) none Act.mv [Opd.t 16], Ins.mk (some 42) none (Act.bin BinOp.neq (EqK.nil 10)) [Opd.t 41, Opd.k (AV.d (DV.int IntKind.i64 (Int.ofNat 0)))], Ins.mk (some 43) none Act.mv [Opd.t 42], Ins.mk (some 44) (some (43, false)) (Act.load (some 8)) [Opd.t 14],
                      Ins.mk (some 45) (some (43, false)) (Act.load (some 8)) [Opd.t 6], Ins.mk (some 46) (some (43, false)) (Act.bin BinOp.neq (EqK.cells 8 [(0, 1), (1, 1), (2, 1), (3, 1), (4, 1), (5, 1), (6, 1), (7, 1)])) [Opd.t 44, Opd.t 45],
                      Ins.mk (some 47) none Act.pick [Opd.t 43, Opd.k (AV.d (DV.bool true)), Opd.t 46], Ins.mk (some 48) none Act.mv [Opd.t 47], Ins.mk (some 49) (some (48, false)) Act.mv [Opd.t 15], Ins.mk (some 50) (some (48, false)) Act.mv [Opd.t 13],
                      Ins.mk (some 51) (some (48, false)) Act.len [Opd.t 50], Ins.mk (some 52) (some (48, false)) (Act.bin BinOp.sub (EqK.nil 10)) [Opd.t 51, Opd.k (AV.d (DV.int IntKind.i64 (Int.ofNat 1)))], Ins.mk (some 53) (some (48, false)) (Act.bin BinOp.neq (EqK.nil 10)) [Opd.t 49, Opd.t 52],
                      Ins.mk (some 54) none Act.pick [Opd.t 48, Opd.k (AV.d (DV.bool true)), Opd.t 53]])
                  (CC.cond (Opd.t 54) (CC.seq (CC.reg none [Ins.mk (some 12) none Act.mv [Opd.k (AV.d (DV.bool false))]]) CC.ret) CC.skip))))
            CC.skip))
        (CC.seq (CC.fgt [3, 4, 5, 7, 8, 12])
          (CC.seq
            (CC.seq (CC.reg none [Ins.mk (some 55) none (Act.load (some 2)) [Opd.t 7], Ins.mk (some 56) none (Act.load (some 2)) [Opd.t 8], Ins.mk (some 57) none (Act.call false) [Opd.k (AV.fn Mode.pure 49 [] []), Opd.t 55, Opd.t 56], Ins.mk (some 17) none Act.mv [Opd.t 57]])
              (CC.seq (CC.reg none [Ins.mk (some 58) none Act.mv [Opd.t 17], Ins.mk (some 59) none (Act.bin BinOp.neq (EqK.nil 10)) [Opd.t 58, Opd.k (AV.d (DV.str []))]])
                (CC.cond (Opd.t 59)
                  (CC.seq (CC.reg none [Ins.mk (some 60) none Act.mv [Opd.t 17], Ins.mk (some 61) none (Act.call false) [Opd.k (AV.fn Mode.pure 55 [] []), Opd.t 60], Ins.mk (some 18) none Act.mv [Opd.t 61]])
                    (CC.seq
                      (CC.reg none
                        [Ins.mk (some 63) none Act.mv [Opd.t 18], Ins.mk (some 64) none (Act.call false) [Opd.k (AV.fn Mode.pure 14 [] []), Opd.t 63, Opd.k (AV.d (DV.int IntKind.i64 (Int.ofNat 0)))], Ins.mk (some 62) none Act.mv [Opd.t 64], Ins.mk (some 65) none (Act.ext 0) [Opd.t 62],
                          Ins.mk (some 66) none (Act.ext 1) [Opd.t 62], Ins.mk (some 67) none (Act.ext 2) [Opd.t 62], Ins.mk (some 68) none (Act.ext 3) [Opd.t 62], Ins.mk (some 19) none (Act.new 26 [AV.d (DV.int IntKind.i64 (Int.ofNat 0)), AV.d (DV.int IntKind.i64 (Int.ofNat 0))]) [],
                          Ins.mk (some 20) none (Act.new 26 [AV.d (DV.int IntKind.i64 (Int.ofNat 0)), AV.d (DV.int IntKind.i64 (Int.ofNat 0))]) [], Ins.mk none none (Act.storeT 2) [Opd.t 19, Opd.t 65], Ins.mk none none (Act.storeT 2) [Opd.t 20, Opd.t 66], Ins.mk (some 21) none Act.mv [Opd.t 67],
                          Ins.mk (some 22) none Act.mv [Opd.t 68]])
                      (CC.seq
                        (CC.reg none
                          [Ins.mk (some 69) none Act.mv [Opd.t 22], Ins.mk (some 70) none (Act.bin BinOp.neq (EqK.nil 10)) [Opd.t 69, Opd.k (AV.d (DV.int IntKind.i64 (Int.ofNat 0)))], Ins.mk (some 71) none Act.mv [Opd.t 70], Ins.mk (some 72) (some (71, false)) (Act.load (some 2)) [Opd.t 19],
                            Ins.mk (some 73) (some (71, false)) (Act.load (some 2)) [Opd.t 7], Ins.mk (some 74) (some (71, false)) (Act.bin BinOp.neq (EqK.cells 2 [(0, 1), (1, 1)])) [Opd.t 72, Opd.t 73], Ins.mk (some 75) none Act.pick [Opd.t 71, Opd.k (AV.d (DV.bool true)), Opd.t 74],
                            Ins.mk (some 76) none Act.mv [Opd.t 75], Ins.mk (some 77) (some (76, false)) (Act.load (some 2)) [Opd.t 20], Ins.mk (some 78) (some (76, false)) (Act.load (some 2)) [Opd.t 8],
                            Ins.mk (some 79) (some (76, false)) (Act.bin BinOp.neq (EqK.cells 2 [(0, 1), (1, 1)])) [Opd.t 77, Opd.t 78], Ins.mk (some 80) none Act.pick [Opd.t 76, Opd.k (AV.d (DV.bool true)), Opd.t 79], Ins.mk (some 81) none Act.mv [Opd.t 80],
                            Ins.mk (some 82) (some (81, false)) Act.mv [Opd.t 21], Ins.mk (some 83) (some (81, false)) Act.mv [Opd.t 18], Ins.mk (some 84) (some (81, false)) Act.len [Opd.t 83],
                            Ins.mk (some 85) (some (81, false)) (Act.bin BinOp.sub (EqK.nil 10)) [Opd.t 84, Opd.k (AV.d (DV.int IntKind.i64 (Int.ofNat 1)))], Ins.mk (some 86) (some (81, false)) (Act.bin BinOp.neq (EqK.nil 10)) [Opd.t 82, Opd.t 85],
                            Ins.mk (some 87) none Act.pick [Opd.t 81, Opd.k (AV.d (DV.bool true)), Opd.t 86]])
                        (CC.cond (Opd.t 87) (CC.seq (CC.reg none [Ins.mk (some 12) none Act.mv [Opd.k (AV.d (DV.bool false))]]) CC.ret) CC.skip))))
                  CC.skip)))
            (CC.seq (CC.fgt [3, 4, 5, 12])
              (CC.seq
                (CC.seq (CC.reg none [Ins.mk (some 88) none Act.mv [Opd.t 3], Ins.mk (some 89) none Act.mv [Opd.t 4], Ins.mk (some 90) none (Act.call false) [Opd.k (AV.fn Mode.pure 51 [] []), Opd.t 88, Opd.t 89]])
                  (CC.cond (Opd.t 90)
                    (CC.seq
                      (CC.reg none
                        [Ins.mk (some 92) none Act.mv [Opd.t 3], Ins.mk (some 93) none (Act.call false) [Opd.k (AV.fn Mode.pure 53 [] []), Opd.t 92], Ins.mk (some 94) none (Act.call false) [Opd.k (AV.fn Mode.pure 55 [] []), Opd.t 93], Ins.mk (some 95) none Act.mv [Opd.t 4],
                          Ins.mk (some 96) none (Act.call false) [Opd.k (AV.fn Mode.pure 16 [] []), Opd.t 94, Opd.k (AV.d (DV.int IntKind.i64 (Int.ofNat 0))), Opd.t 95], Ins.mk (some 91) none Act.mv [Opd.t 96], Ins.mk (some 97) none (Act.ext 0) [Opd.t 91], Ins.mk (some 98) none (Act.ext 1) [Opd.t 91],
                          Ins.mk (some 99) none (Act.ext 2) [Opd.t 91], Ins.mk (some 23) none Act.mv [Opd.t 97], Ins.mk (some 24) none Act.mv [Opd.t 98], Ins.mk (some 25) none Act.mv [Opd.t 99]])
                      (CC.seq
                        (CC.reg none
                          [Ins.mk (some 100) none Act.mv [Opd.t 25], Ins.mk (some 101) none (Act.bin BinOp.neq (EqK.nil 10)) [Opd.t 100, Opd.k (AV.d (DV.int IntKind.i64 (Int.ofNat 0)))], Ins.mk (some 102) none Act.mv [Opd.t 101], Ins.mk (some 103) (some (102, false)) Act.mv [Opd.t 23],
                            Ins.mk (some 104) (some (102, false)) Act.mv [Opd.t 3], Ins.mk (some 105) (some (102, false)) (Act.bin BinOp.neq (EqK.nil 10)) [Opd.t 103, Opd.t 104], Ins.mk (some 106) none Act.pick [Opd.t 102, Opd.k (AV.d (DV.bool true)), Opd.t 105],
                            Ins.mk (some 107) none Act.mv [Opd.t 106], Ins.mk (some 108) (some (107, false)) Act.mv [Opd.t 24], Ins.mk (some 109) (some (107, false)) (Act.bin BinOp.neq (EqK.nil 10)) [Opd.t 108, Opd.k (AV.d (DV.int IntKind.i64 (Int.ofNat 1)))],
                            Ins.mk (some 110) none Act.pick [Opd.t 107, Opd.k (AV.d (DV.bool true)), Opd.t 109]])
                        (CC.cond (Opd.t 110) (CC.seq (CC.reg none [Ins.mk (some 12) none Act.mv [Opd.k (AV.d (DV.bool false))]]) CC.ret) CC.skip)))
                    CC.skip))
                (CC.seq (CC.fgt [5, 12])
                  (CC.seq
                    (CC.seq
                      (CC.reg none
                        [Ins.mk (some 111) none Act.mv [Opd.t 5], Ins.mk (some 112) none (Act.call false) [Opd.k (AV.fn Mode.pure 38 [] []), Opd.t 111], Ins.mk (some 113) none (Act.un UnOp.not) [Opd.t 112], Ins.mk (some 114) none Act.mv [Opd.t 113],
                          Ins.mk (some 115) (some (114, false)) Act.mv [Opd.t 5], Ins.mk (some 116) (some (114, false)) (Act.call false) [Opd.k (AV.fn Mode.pure 39 [] []), Opd.t 115], Ins.mk (some 117) (some (114, false)) (Act.un UnOp.not) [Opd.t 116],
                          Ins.mk (some 118) none Act.pick [Opd.t 114, Opd.k (AV.d (DV.bool true)), Opd.t 117]])
                      (CC.cond (Opd.t 118) (CC.seq (CC.reg none [Ins.mk (some 119) none (Act.call false) [Opd.k (AV.fn Mode.pure 11 [] [])], Ins.mk (some 12) none Act.mv [Opd.t 119]]) CC.ret) CC.skip))
                    (CC.seq (CC.fgt [5, 12])
                      (CC.seq (CC.reg none [Ins.mk (some 120) none Act.mv [Opd.t 5], Ins.mk (some 121) none (Act.call false) [Opd.k (AV.fn Mode.pure 41 [] []), Opd.t 120], Ins.mk (some 122) none (Act.call false) [Opd.k (AV.fn Mode.pure 55 [] []), Opd.t 121], Ins.mk (some 26) none Act.mv [Opd.t 122]])
                        (CC.seq
                          (CC.reg none
                            [Ins.mk (some 124) none Act.mv [Opd.t 26], Ins.mk (some 125) none (Act.call false) [Opd.k (AV.fn Mode.pure 56 [] []), Opd.t 124, Opd.k (AV.d (DV.int IntKind.i64 (Int.ofNat 0)))], Ins.mk (some 123) none Act.mv [Opd.t 125], Ins.mk (some 126) none (Act.ext 0) [Opd.t 123],
                              Ins.mk (some 127) none (Act.ext 1) [Opd.t 123], Ins.mk (some 128) none (Act.ext 2) [Opd.t 123], Ins.mk (some 27) none Act.mv [Opd.t 126], Ins.mk (some 28) none Act.mv [Opd.t 127], Ins.mk (some 29) none Act.mv [Opd.t 128]])
                          (CC.seq
                            (CC.reg none
                              [Ins.mk (some 129) none Act.mv [Opd.t 29], Ins.mk (some 130) none (Act.bin BinOp.eql (EqK.nil 10)) [Opd.t 129, Opd.k (AV.d (DV.int IntKind.i64 (Int.ofNat 0)))], Ins.mk (some 131) none Act.mv [Opd.t 130], Ins.mk (some 132) (some (131, true)) Act.mv [Opd.t 28],
                                Ins.mk (some 133) (some (131, true)) Act.mv [Opd.t 26], Ins.mk (some 134) (some (131, true)) Act.len [Opd.t 133], Ins.mk (some 135) (some (131, true)) (Act.bin BinOp.sub (EqK.nil 10)) [Opd.t 134, Opd.k (AV.d (DV.int IntKind.i64 (Int.ofNat 1)))],
                                Ins.mk (some 136) (some (131, true)) (Act.bin BinOp.eql (EqK.nil 10)) [Opd.t 132, Opd.t 135], Ins.mk (some 137) none Act.pick [Opd.t 131, Opd.t 136, Opd.k (AV.d (DV.bool false))], Ins.mk (some 138) none Act.mv [Opd.t 137],
                                Ins.mk (some 139) (some (138, true)) Act.mv [Opd.t 27], Ins.mk (some 140) (some (138, true)) Act.mv [Opd.t 5], Ins.mk (some 141) (some (138, true)) (Act.call false) [Opd.k (AV.fn Mode.pure 43 [] []), Opd.t 139, Opd.t 140],
                                Ins.mk (some 142) none Act.pick [Opd.t 138, Opd.t 141, Opd.k (AV.d (DV.bool false))], Ins.mk (some 143) none Act.mv [Opd.t 142], Ins.mk (some 144) (some (143, true)) (Act.call false) [Opd.k (AV.fn Mode.pure 11 [] [])],
                                Ins.mk (some 145) none Act.pick [Opd.t 143, Opd.t 144, Opd.k (AV.d (DV.bool false))], Ins.mk (some 12) none Act.mv [Opd.t 145]])
                            CC.ret))))))))))))
    [RV.tmp 12]
theorem code9_ok : F0 9 = some (.code code9) := by kernel_rfl
def code38 : CFn :=
  CFn.mk
    (CC.seq (CC.reg none [Ins.mk (some 2) none Act.mv [Opd.k (AV.d (DV.bool false))]])
      (CC.seq (CC.reg none [Ins.mk (some 3) none Act.mv [Opd.k (AV.d (DV.int IntKind.i64 (Int.ofNat 0)))]])
        (CC.seq
          (CC.seq (CC.reg none [Ins.mk (some 6) none Act.mv [Opd.t 0], Ins.mk (some 7) none Act.len [Opd.t 6], Ins.mk (some 8) none Act.mv [Opd.k (AV.d (DV.int IntKind.i64 (Int.ofNat 0)))]])
            (CC.block 0
              (CC.loop [2, 3, 6, 7, 8]
                (CC.seq (CC.reg none [Ins.mk (some 9) none (Act.bin BinOp.lss (EqK.nil 10)) [Opd.t 8, Opd.t 7]])
                  (CC.seq (CC.cond (Opd.t 9) CC.skip (CC.exit 0))
                    (CC.seq (CC.fgt [2, 3, 6, 7, 8])
                      (CC.seq
                        (CC.block 1
                          (CC.seq (CC.reg none [Ins.mk (some 10) none (Act.iad 1) [Opd.t 6, Opd.t 8], Ins.mk (some 11) none (Act.load none) [Opd.t 10], Ins.mk (some 5) none Act.mv [Opd.t 11]])
                            (CC.seq
                              (CC.reg none
                                [Ins.mk (some 12) none Act.mv [Opd.t 3], Ins.mk (some 13) none Act.mv [Opd.t 5], Ins.mk (some 14) none Act.len [Opd.t 13], Ins.mk (some 15) none Act.min [Opd.t 14, Opd.k (AV.d (DV.int IntKind.i64 (Int.ofNat 1000)))],
                                  Ins.mk (some 16) none (Act.bin BinOp.add (EqK.nil 10)) [Opd.k (AV.d (DV.int IntKind.i64 (Int.ofNat 1))), Opd.t 15], Ins.mk (some 17) none (Act.bin BinOp.add (EqK.nil 10)) [Opd.t 12, Opd.t 16], Ins.mk (some 3) none Act.mv [Opd.t 17]])
                              (CC.seq (CC.reg none [Ins.mk (some 18) none Act.mv [Opd.t 3], Ins.mk (some 19) none (Act.bin BinOp.gtr (EqK.nil 10)) [Opd.t 18, Opd.k (AV.d (DV.int IntKind.i64 (Int.ofNat 600)))]])
                                (CC.cond (Opd.t 19) (CC.seq (CC.reg none [Ins.mk (some 2) none Act.mv [Opd.k (AV.d (DV.bool false))]]) CC.ret) CC.skip)))))
                        (CC.seq (CC.fgt [2, 3, 6, 7, 8]) (CC.reg none [Ins.mk (some 20) none (Act.bin BinOp.add (EqK.nil 10)) [Opd.t 8, Opd.k (AV.d (DV.int IntKind.i64 (Int.ofNat 1)))], Ins.mk (some 8) none Act.mv [Opd.t 20]])))))))))
          (CC.seq (CC.fgt [2]) (CC.seq (CC.reg none [Ins.mk (some 2) none Act.mv [Opd.k (AV.d (DV.bool true))]]) CC.ret)))))
    [RV.tmp 2]
theorem code38_ok : F0 38 = some (.code code38) := by kernel_rfl
def code55 : CFn :=
  CFn.mk
    (CC.seq (CC.reg none [Ins.mk (some 2) none Act.mv [Opd.k (AV.d DV.nilsl)]])
      (CC.seq
        (CC.reg none
          [Ins.mk (some 7) none Act.mv [Opd.t 0], Ins.mk (some 8) none (Act.s2b 5) [Opd.t 7], Ins.mk (some 9) none (Act.call false) [Opd.k (AV.fn Mode.pure 72 [] []), Opd.t 8], Ins.mk (some 6) none Act.mv [Opd.t 9], Ins.mk (some 10) none (Act.ext 0) [Opd.t 6],
            Ins.mk (some 11) none (Act.ext 1) [Opd.t 6], Ins.mk (some 12) none (Act.ext 2) [Opd.t 6], Ins.mk (some 3) none Act.mv [Opd.t 10], Ins.mk (some 4) none Act.mv [Opd.t 11], Ins.mk (some 5) none Act.mv [Opd.t 12]])
        (CC.seq (CC.reg none [Ins.mk (some 13) none Act.mv [Opd.t 3], Ins.mk (some 2) none Act.mv [Opd.t 13]]) CC.ret)))
    [RV.tmp 2]
theorem code55_ok : F0 55 = some (.code code55) := by kernel_rfl
def code204 : CFn :=
  CFn.mk
    (CC.seq (CC.reg none [Ins.mk (some 4) none Act.mv [Opd.k (AV.d (DV.str []))], Ins.mk (some 5) none Act.mv [Opd.k (AV.d (DV.int IntKind.i64 (Int.ofNat 0)))]])
      (CC.seq
        (CC.seq
          (CC.reg none
            [Ins.mk (some 10) none Act.mv [Opd.t 1], Ins.mk (some 11) none (Act.bin BinOp.lss (EqK.nil 10)) [Opd.t 10, Opd.k (AV.d (DV.int IntKind.i64 (Int.ofNat 0)))], Ins.mk (some 12) none Act.mv [Opd.t 11], Ins.mk (some 13) (some (12, false)) Act.mv [Opd.t 1],
              Ins.mk (some 14) (some (12, false)) Act.mv [Opd.t 0], Ins.mk (some 15) (some (12, false)) Act.lens [Opd.t 14], Ins.mk (some 16) (some (12, false)) (Act.bin BinOp.sub (EqK.nil 10)) [Opd.t 15, Opd.k (AV.d (DV.int IntKind.i64 (Int.ofNat 2)))],
              Ins.mk (some 17) (some (12, false)) (Act.bin BinOp.gtr (EqK.nil 10)) [Opd.t 13, Opd.t 16], Ins.mk (some 18) none Act.pick [Opd.t 12, Opd.k (AV.d (DV.bool true)), Opd.t 17], Ins.mk (some 19) none Act.mv [Opd.t 18], Ins.mk (some 20) (some (19, false)) Act.mv [Opd.t 0],
              Ins.mk (some 21) (some (19, false)) Act.mv [Opd.t 1], Ins.mk (some 22) (some (19, false)) Act.idxs [Opd.t 20, Opd.t 21], Ins.mk (some 23) (some (19, false)) (Act.bin BinOp.neq (EqK.nil 10)) [Opd.t 22, Opd.k (AV.d (DV.int IntKind.u8 (Int.ofNat 92)))],
              Ins.mk (some 24) none Act.pick [Opd.t 19, Opd.k (AV.d (DV.bool true)), Opd.t 23], Ins.mk (some 25) none Act.mv [Opd.t 24], Ins.mk (some 26) (some (25, false)) Act.mv [Opd.t 0], Ins.mk (some 27) (some (25, false)) Act.mv [Opd.t 1],
              Ins.mk (some 28) (some (25, false)) (Act.bin BinOp.add (EqK.nil 10)) [Opd.t 27, Opd.k (AV.d (DV.int IntKind.i64 (Int.ofNat 1)))], Ins.mk (some 29) (some (25, false)) Act.idxs [Opd.t 26, Opd.t 28],
              Ins.mk (some 30) (some (25, false)) (Act.call false) [Opd.k (AV.fn Mode.pure 196 [] []), Opd.t 29], Ins.mk (some 31) none Act.pick [Opd.t 25, Opd.k (AV.d (DV.bool true)), Opd.t 30]])
          (CC.cond (Opd.t 31) (CC.seq (CC.reg none [Ins.mk (some 4) none Act.mv [Opd.k (AV.d (DV.str []))], Ins.mk (some 5) none Act.mv [Opd.k (AV.d (DV.int IntKind.i64 (Int.ofNat 0)))]]) CC.ret) CC.skip))
        (CC.seq (CC.fgt [0, 1, 4, 5])
          (CC.seq (CC.reg none [Ins.mk (some 6) none Act.mv [Opd.k (AV.d (DV.int IntKind.i64 (Int.ofNat 0)))], Ins.mk (some 7) none Act.mv [Opd.k (AV.d (DV.int IntKind.i64 (Int.ofNat 0)))]])
            (CC.seq
              (CC.seq (CC.reg none [Ins.mk (some 32) none Act.mv [Opd.k (AV.d (DV.int IntKind.i64 (Int.ofNat 0)))]])
                (CC.block 0
                  (CC.loop [0, 1, 4, 5, 6, 7, 32]
                    (CC.seq (CC.reg none [Ins.mk (some 33) none (Act.bin BinOp.lss (EqK.nil 10)) [Opd.t 32, Opd.k (AV.d (DV.int IntKind.i64 (Int.ofNat 6)))]])
                      (CC.seq (CC.cond (Opd.t 33) CC.skip (CC.exit 0))
                        (CC.seq (CC.fgt [0, 1, 4, 5, 6, 7, 32])
                          (CC.seq
                            (CC.block 1
                              (CC.seq (CC.reg none [Ins.mk (some 34) none Act.mv [Opd.t 32], Ins.mk (some 8) none Act.mv [Opd.t 34]])
                                (CC.seq
                                  (CC.seq
                                    (CC.reg none
                                      [Ins.mk (some 35) none Act.mv [Opd.t 1], Ins.mk (some 36) none (Act.bin BinOp.add (EqK.nil 10)) [Opd.t 35, Opd.k (AV.d (DV.int IntKind.i64 (Int.ofNat 1)))], Ins.mk (some 37) none Act.mv [Opd.t 8],
                                        Ins.mk (some 38) none (Act.bin BinOp.add (EqK.nil 10)) [Opd.t 36, Opd.t 37], Ins.mk (some 39) none Act.mv [Opd.t 0], Ins.mk (some 40) none Act.lens [Opd.t 39], Ins.mk (some 41) none (Act.bin BinOp.geq (EqK.nil 10)) [Opd.t 38, Opd.t 40],
                                        Ins.mk (some 42) none Act.mv [Opd.t 41], Ins.mk (some 43) (some (42, false)) Act.mv [Opd.t 0], Ins.mk (some 44) (some (42, false)) Act.mv [Opd.t 1],
                                        Ins.mk (some 45) (some (42, false)) (Act.bin BinOp.add (EqK.nil 10)) [Opd.t 44, Opd.k (AV.d (DV.int IntKind.i64 (Int.ofNat 1)))], Ins.mk (some 46) (some (42, false)) Act.mv [Opd.t 8],
                                        Ins.mk (some 47) (some (42, false)) (Act.bin BinOp.add (EqK.nil 10)) [Opd.t 45, Opd.t 46], Ins.mk (some 48) (some (42, false)) Act.idxs [Opd.t 43, Opd.t 47], Ins.mk (some 49) (some (42, false)) (Act.call false) [Opd.k (AV.fn Mode.pure 228 [] []), Opd.t 48],
                                        Ins.mk (some 50) (some (42, false)) (Act.bin BinOp.lss (EqK.nil 10)) [Opd.t 49, Opd.k (AV.d (DV.int IntKind.i64 (Int.ofNat 0)))], Ins.mk (some 51) none Act.pick [Opd.t 42, Opd.k (AV.d (DV.bool true)), Opd.t 50]])
                                    (CC.cond (Opd.t 51) (CC.exit 0) CC.skip))
                                  (CC.seq (CC.fgt [0, 1, 4, 5, 6, 7, 8, 32])
                                    (CC.seq
                                      (CC.reg none
                                        [Ins.mk (some 52) none Act.mv [Opd.t 6], Ins.mk (some 53) none (Act.bin BinOp.shl (EqK.nil 10)) [Opd.t 52, Opd.k (AV.d (DV.int IntKind.u64 (Int.ofNat 4)))], Ins.mk (some 54) none Act.mv [Opd.t 0], Ins.mk (some 55) none Act.mv [Opd.t 1],
                                          Ins.mk (some 56) none (Act.bin BinOp.add (EqK.nil 10)) [Opd.t 55, Opd.k (AV.d (DV.int IntKind.i64 (Int.ofNat 1)))], Ins.mk (some 57) none Act.mv [Opd.t 8], Ins.mk (some 58) none (Act.bin BinOp.add (EqK.nil 10)) [Opd.t 56, Opd.t 57],
                                          Ins.mk (some 59) none Act.idxs [Opd.t 54, Opd.t 58], Ins.mk (some 60) none (Act.call false) [Opd.k (AV.fn Mode.pure 228 [] []), Opd.t 59], Ins.mk (some 61) none (Act.bin BinOp.add (EqK.nil 10)) [Opd.t 53, Opd.t 60], Ins.mk (some 6) none Act.mv [Opd.t 61]])
                                      (CC.reg none [Ins.mk (some 62) none Act.mv [Opd.t 7], Ins.mk (some 63) none (Act.bin BinOp.add (EqK.nil 10)) [Opd.t 62, Opd.k (AV.d (DV.int IntKind.i64 (Int.ofNat 1)))], Ins.mk (some 7) none Act.mv [Opd.t 63]]))))))
                            (CC.seq (CC.fgt [0, 1, 4, 5, 6, 7, 32]) (CC.reg none [Ins.mk (some 64) none (Act.bin BinOp.add (EqK.nil 10)) [Opd.t 32, Opd.k (AV.d (DV.int IntKind.i64 (Int.ofNat 1)))], Ins.mk (some 32) none Act.mv [Opd.t 64]])))))))))
              (CC.seq (CC.fgt [0, 1, 4, 5, 6, 7])
                (CC.seq
                  (CC.seq (CC.reg none [Ins.mk (some 65) none Act.mv [Opd.t 7], Ins.mk (some 66) none (Act.bin BinOp.eql (EqK.nil 10)) [Opd.t 65, Opd.k (AV.d (DV.int IntKind.i64 (Int.ofNat 0)))]])
                    (CC.cond (Opd.t 66)
                      (CC.seq
                        (CC.reg none
                          [Ins.mk (some 67) none Act.mv [Opd.t 0], Ins.mk (some 68) none Act.mv [Opd.t 1], Ins.mk (some 69) none (Act.bin BinOp.add (EqK.nil 10)) [Opd.t 68, Opd.k (AV.d (DV.int IntKind.i64 (Int.ofNat 1)))], Ins.mk (some 70) none Act.mv [Opd.t 1],
                            Ins.mk (some 71) none (Act.bin BinOp.add (EqK.nil 10)) [Opd.t 70, Opd.k (AV.d (DV.int IntKind.i64 (Int.ofNat 2)))], Ins.mk (some 72) none (Act.cuts true true) [Opd.t 67, Opd.t 69, Opd.t 71], Ins.mk (some 4) none Act.mv [Opd.t 72],
                            Ins.mk (some 5) none Act.mv [Opd.k (AV.d (DV.int IntKind.i64 (Int.ofNat 2)))]])
                        CC.ret)
                      CC.skip))
                  (CC.seq (CC.fgt [0, 1, 4, 5, 6, 7])
                    (CC.seq
                      (CC.reg none
                        [Ins.mk (some 73) none Act.mv [Opd.t 1], Ins.mk (some 74) none (Act.bin BinOp.add (EqK.nil 10)) [Opd.t 73, Opd.k (AV.d (DV.int IntKind.i64 (Int.ofNat 1)))], Ins.mk (some 75) none Act.mv [Opd.t 7], Ins.mk (some 76) none (Act.bin BinOp.add (EqK.nil 10)) [Opd.t 74, Opd.t 75],
                          Ins.mk (some 9) none Act.mv [Opd.t 76]])
                      (CC.seq
                        (CC.seq
                          (CC.reg none
                            [Ins.mk (some 77) none Act.mv [Opd.t 9], Ins.mk (some 78) none Act.mv [Opd.t 0], Ins.mk (some 79) none Act.lens [Opd.t 78], Ins.mk (some 80) none (Act.bin BinOp.lss (EqK.nil 10)) [Opd.t 77, Opd.t 79], Ins.mk (some 81) none Act.mv [Opd.t 80],
                              Ins.mk (some 82) (some (81, true)) Act.mv [Opd.t 0], Ins.mk (some 83) (some (81, true)) Act.mv [Opd.t 9], Ins.mk (some 84) (some (81, true)) Act.idxs [Opd.t 82, Opd.t 83], Ins.mk (some 85) (some (81, true)) (Act.call false) [Opd.k (AV.fn Mode.pure 153 [] []), Opd.t 84],
                              Ins.mk (some 86) none Act.pick [Opd.t 81, Opd.t 85, Opd.k (AV.d (DV.bool false))]])
                          (CC.cond (Opd.t 86) (CC.reg none [Ins.mk (some 87) none Act.mv [Opd.t 9], Ins.mk (some 88) none (Act.bin BinOp.add (EqK.nil 10)) [Opd.t 87, Opd.k (AV.d (DV.int IntKind.i64 (Int.ofNat 1)))], Ins.mk (some 9) none Act.mv [Opd.t 88]]) CC.skip))
                        (CC.seq (CC.fgt [1, 4, 5, 6, 9])
                          (CC.seq
                            (CC.reg none
                              [Ins.mk (some 89) none Act.mv [Opd.t 6], Ins.mk (some 90) none (Act.call false) [Opd.k (AV.fn Mode.pure 229 [] []), Opd.t 89], Ins.mk (some 91) none Act.mv [Opd.t 9], Ins.mk (some 92) none Act.mv [Opd.t 1],
                                Ins.mk (some 93) none (Act.bin BinOp.sub (EqK.nil 10)) [Opd.t 91, Opd.t 92], Ins.mk (some 4) none Act.mv [Opd.t 90], Ins.mk (some 5) none Act.mv [Opd.t 93]])
                            CC.ret))))))))))))
    [RV.tmp 4, RV.tmp 5]
theorem code204_ok : F0 204 = some (.code code204) := by kernel_rfl
def code199 : CFn :=
  CFn.mk
    (CC.seq (CC.reg none [Ins.mk (some 2) none Act.mv [Opd.k (AV.d (DV.bool false))]])
      (CC.seq
        (CC.reg none
          [Ins.mk (some 3) none Act.mv [Opd.t 0], Ins.mk (some 4) none (Act.bin BinOp.geq (EqK.nil 10)) [Opd.t 3, Opd.k (AV.d (DV.int IntKind.u8 (Int.ofNat 97)))], Ins.mk (some 5) none Act.mv [Opd.t 4], Ins.mk (some 6) (some (5, true)) Act.mv [Opd.t 0],
            Ins.mk (some 7) (some (5, true)) (Act.bin BinOp.leq (EqK.nil 10)) [Opd.t 6, Opd.k (AV.d (DV.int IntKind.u8 (Int.ofNat 122)))], Ins.mk (some 8) none Act.pick [Opd.t 5, Opd.t 7, Opd.k (AV.d (DV.bool false))], Ins.mk (some 9) none Act.mv [Opd.t 8],
            Ins.mk (some 10) (some (9, false)) Act.mv [Opd.t 0], Ins.mk (some 11) (some (9, false)) (Act.bin BinOp.geq (EqK.nil 10)) [Opd.t 10, Opd.k (AV.d (DV.int IntKind.u8 (Int.ofNat 65)))], Ins.mk (some 12) (some (9, false)) Act.mv [Opd.t 11], Ins.mk (some 13) (some (12, true)) Act.mv [Opd.t 0],
            Ins.mk (some 14) (some (12, true)) (Act.bin BinOp.leq (EqK.nil 10)) [Opd.t 13, Opd.k (AV.d (DV.int IntKind.u8 (Int.ofNat 90)))], Ins.mk (some 15) (some (9, false)) Act.pick [Opd.t 12, Opd.t 14, Opd.k (AV.d (DV.bool false))],
            Ins.mk (some 16) none Act.pick [Opd.t 9, Opd.k (AV.d (DV.bool true)), Opd.t 15], Ins.mk (some 17) none Act.mv [Opd.t 16], Ins.mk (some 18) (some (17, false)) Act.mv [Opd.t 0],
            Ins.mk (some 19) (some (17, false)) (Act.bin BinOp.eql (EqK.nil 10)) [Opd.t 18, Opd.k (AV.d (DV.int IntKind.u8 (Int.ofNat 95)))], Ins.mk (some 20) none Act.pick [Opd.t 17, Opd.k (AV.d (DV.bool true)), Opd.t 19], Ins.mk (some 21) none Act.mv [Opd.t 20],
            Ins.mk (some 22) (some (21, false)) Act.mv [Opd.t 0], Ins.mk (some 23) (some (21, false)) (Act.bin BinOp.geq (EqK.nil 10)) [Opd.t 22, Opd.k (AV.d (DV.int IntKind.u8 (Int.ofNat 128)))], Ins.mk (some 24) none Act.pick [Opd.t 21, Opd.k (AV.d (DV.bool true)), Opd.t 23],
            Ins.mk (some 2) none Act.mv [Opd.t 24]])
        CC.ret))
    [RV.tmp 2]
theorem code199_ok : F0 199 = some (.code code199) := by kernel_rfl
def code72 : CFn :=
  CFn.mk
    (CC.seq (CC.reg none [Ins.mk (some 2) none (Act.new 22 [AV.d DV.nilsl]) [], Ins.mk (some 3) none (Act.new 3 [AV.d (DV.int IntKind.i64 (Int.ofNat 0))]) [], Ins.mk (some 4) none (Act.new 28 [AV.d (DV.int IntKind.i64 (Int.ofNat 0))]) []])
      (CC.seq
        (CC.seq (CC.reg none [Ins.mk (some 8) none Act.mv [Opd.t 0], Ins.mk (some 9) none Act.len [Opd.t 8], Ins.mk (some 10) none (Act.bin BinOp.gtr (EqK.nil 10)) [Opd.t 9, Opd.k (AV.d (DV.int IntKind.i64 (Int.ofNat 262144)))]])
          (CC.cond (Opd.t 10)
            (CC.seq (CC.reg none [Ins.mk none none (Act.storeT 1) [Opd.t 2, Opd.k (AV.d DV.nilsl)], Ins.mk none none (Act.storeT 1) [Opd.t 3, Opd.k (AV.d (DV.int IntKind.i64 (Int.ofNat 262144)))], Ins.mk none none (Act.storeT 1) [Opd.t 4, Opd.k (AV.d (DV.int IntKind.i64 (Int.ofNat 52)))]]) CC.ret)
            CC.skip))
        (CC.seq (CC.fgt [0, 2, 3, 4])
          (CC.seq (CC.reg none [Ins.mk (some 11) none (Act.mkf Mode.drop 118 0) [Opd.t 2, Opd.t 3, Opd.t 4], Ins.mk none none Act.dfr [Opd.t 11]])
            (CC.seq
              (CC.reg none
                [Ins.mk (some 12) none Act.mv [Opd.t 0], Ins.mk (some 13) none Act.b2s [Opd.t 12], Ins.mk (some 14) none (Act.build [AV.d (DV.str []), AV.d (DV.int IntKind.i64 (Int.ofNat 0))] [(0, 1)]) [Opd.t 13], Ins.mk (some 15) none (Act.box 149) [Opd.t 14], Ins.mk (some 5) none Act.mv [Opd.t 15]])
              (CC.seq
                (CC.seq (CC.reg none [Ins.mk (some 16) none Act.mv [Opd.t 5], Ins.mk (some 17) none (Act.call false) [Opd.k (AV.fn Mode.drop 119 [] []), Opd.t 16]])
                  (CC.block 0
                    (CC.loop [2, 3, 4, 5]
                      (CC.seq
                        (CC.seq
                          (CC.reg (some [])
                            [Ins.mk (some 18) none Act.mv [Opd.t 5], Ins.mk (some 19) none Act.nilck [Opd.t 18], Ins.mk (some 20) none (Act.fad 1) [Opd.t 19], Ins.mk (some 21) none (Act.load none) [Opd.t 20], Ins.mk (some 22) none Act.mv [Opd.t 5], Ins.mk (some 23) none Act.nilck [Opd.t 22],
                              Ins.mk (some 24) none (Act.fad 0) [Opd.t 23], Ins.mk (some 25) none (Act.load none) [Opd.t 24], Ins.mk (some 26) none Act.lens [Opd.t 25], Ins.mk (some 27) none (Act.bin BinOp.lss (EqK.nil 10)) [Opd.t 21, Opd.t 26]])
                          (CC.cond (Opd.t 27) CC.skip (CC.exit 0)))
                        (CC.seq (CC.fgt [2, 3, 4, 5])
                          (CC.seq
                            (CC.block 1
                              (CC.seq (CC.reg none [Ins.mk (some 30) none Act.mv [Opd.t 5], Ins.mk (some 31) none Act.nilck [Opd.t 30], Ins.mk (some 32) none (Act.fad 1) [Opd.t 31], Ins.mk (some 33) none (Act.load none) [Opd.t 32], Ins.mk (some 6) none Act.mv [Opd.t 33]])
                                (CC.seq
                                  (CC.reg none
                                    [Ins.mk (some 34) none Act.mv [Opd.t 5], Ins.mk (some 35) none (Act.call false) [Opd.k (AV.fn Mode.drop 120 [] []), Opd.t 34],
                                      Ins.mk (some 7) none (Act.new 86 [AV.d (DV.int IntKind.i64 (Int.ofNat 0)), AV.d (DV.int IntKind.i64 (Int.ofNat 0)), AV.d (DV.str []), AV.d (DV.str [])]) [], Ins.mk none none (Act.storeT 4) [Opd.t 7, Opd.t 35]])
                                  (CC.seq
                                    (CC.seq (CC.reg none [Ins.mk (some 36) none (Act.load none) [Opd.t 2], Ins.mk (some 37) none Act.len [Opd.t 36], Ins.mk (some 38) none (Act.bin BinOp.geq (EqK.nil 10)) [Opd.t 37, Opd.k (AV.d (DV.int IntKind.i64 (Int.ofNat 65536)))]])
                                      (CC.cond (Opd.t 38) (CC.reg none [Ins.mk (some 39) none Act.mv [Opd.t 5], Ins.mk (some 40) none Act.mv [Opd.t 6], Ins.mk (some 41) none (Act.call false) [Opd.k (AV.fn Mode.drop 121 [] []), Opd.t 39, Opd.t 40, Opd.k (AV.d (DV.int IntKind.i64 (Int.ofNat 52)))]])
                                        CC.skip))
                                    (CC.seq (CC.fgt [2, 3, 4, 5, 7])
                                      (CC.reg none
                                        [Ins.mk (some 42) none (Act.load none) [Opd.t 2], Ins.mk (some 43) none (Act.load (some 4)) [Opd.t 7], Ins.mk (some 44) none (Act.bslT 86 4 [DV.int IntKind.i64 (Int.ofNat 0), DV.int IntKind.i64 (Int.ofNat 0), DV.str [], DV.str []] 1 [0]) [Opd.t 43],
                                          Ins.mk (some 45) none (Act.app 86 4 48) [Opd.t 42, Opd.t 44], Ins.mk none none (Act.storeT 1) [Opd.t 2, Opd.t 45]]))))))
                            (CC.seq (CC.fgt [2, 3, 4, 5]) (CC.reg none [Ins.mk (some 28) none Act.mv [Opd.t 5], Ins.mk (some 29) none (Act.call false) [Opd.k (AV.fn Mode.drop 119 [] []), Opd.t 28]]))))))))
                (CC.seq (CC.fgt [2, 3, 4, 5])
                  (CC.seq
                    (CC.reg (some [])
                      [Ins.mk (some 46) none (Act.load none) [Opd.t 2], Ins.mk (some 47) none Act.mv [Opd.t 5], Ins.mk (some 48) none Act.nilck [Opd.t 47], Ins.mk (some 49) none (Act.fad 0) [Opd.t 48], Ins.mk (some 50) none (Act.load none) [Opd.t 49], Ins.mk (some 51) none Act.lens [Opd.t 50],
                        Ins.mk (some 52) none (Act.build [AV.d (DV.int IntKind.i64 (Int.ofNat 0)), AV.d (DV.int IntKind.i64 (Int.ofNat 0)), AV.d (DV.str []), AV.d (DV.str [])] [(0, 1), (1, 1)]) [Opd.k (AV.d (DV.int IntKind.i64 (Int.ofNat 8))), Opd.t 51],
                        Ins.mk (some 53) none (Act.bsl 86 4 [DV.int IntKind.i64 (Int.ofNat 0), DV.int IntKind.i64 (Int.ofNat 0), DV.str [], DV.str []] 1 [0]) [Opd.t 52], Ins.mk (some 54) none (Act.app 86 4 48) [Opd.t 46, Opd.t 53], Ins.mk none none (Act.store 1) [Opd.t 2, Opd.t 54],
                        Ins.mk none none (Act.store 1) [Opd.t 3, Opd.k (AV.d (DV.int IntKind.i64 (Int.ofNat 0)))], Ins.mk none none (Act.store 1) [Opd.t 4, Opd.k (AV.d (DV.int IntKind.i64 (Int.ofNat 0)))]])
                    CC.ret))))))))
    [RV.cell 2 none, RV.cell 3 none, RV.cell 4 none]
theorem code72_ok : F0 72 = some (.code code72) := by kernel_rfl
def code118 : CFn :=
  CFn.mk
    (CC.seq (CC.reg none [Ins.mk (some 6) none Act.recov [], Ins.mk (some 3) none Act.mv [Opd.t 6]])
      (CC.seq (CC.reg none [Ins.mk (some 7) none Act.mv [Opd.t 3], Ins.mk (some 8) none (Act.bin BinOp.neq (EqK.nil 4)) [Opd.t 7, Opd.k (AV.d DV.nili)]])
        (CC.cond (Opd.t 8)
          (CC.seq
            (CC.reg none
              [Ins.mk (some 10) none Act.mv [Opd.t 3], Ins.mk (some 11) none (Act.tas 145 true (AV.agg [AV.d (DV.int IntKind.i64 (Int.ofNat 0)), AV.d (DV.int IntKind.i64 (Int.ofNat 0))])) [Opd.t 10], Ins.mk (some 9) none Act.mv [Opd.t 11], Ins.mk (some 12) none (Act.ext 0) [Opd.t 9],
                Ins.mk (some 13) none (Act.ext 1) [Opd.t 9], Ins.mk (some 4) none (Act.new 145 [AV.d (DV.int IntKind.i64 (Int.ofNat 0)), AV.d (DV.int IntKind.i64 (Int.ofNat 0))]) [], Ins.mk none none (Act.storeT 2) [Opd.t 4, Opd.t 12], Ins.mk (some 5) none Act.mv [Opd.t 13]])
            (CC.seq (CC.seq (CC.reg none [Ins.mk (some 14) none Act.mv [Opd.t 5], Ins.mk (some 15) none (Act.un UnOp.not) [Opd.t 14]]) (CC.cond (Opd.t 15) (CC.reg none [Ins.mk (some 16) none Act.mv [Opd.t 3], Ins.mk none none Act.panic [Opd.t 16]]) CC.skip))
              (CC.seq (CC.fgt [0, 1, 2, 4])
                (CC.reg (some [(17, 1, 0, 1), (19, 1, 0, 1), (19, 1, 1, 1)])
                  [Ins.mk (some 17) none (Act.fad 0) [Opd.t 4], Ins.mk (some 18) none (Act.load none) [Opd.t 17], Ins.mk (some 19) none (Act.fad 1) [Opd.t 4], Ins.mk (some 20) none (Act.load none) [Opd.t 19], Ins.mk none none (Act.store 1) [Opd.t 0, Opd.k (AV.d DV.nilsl)],
                    Ins.mk none none (Act.store 1) [Opd.t 1, Opd.t 18], Ins.mk none none (Act.store 1) [Opd.t 2, Opd.t 20]]))))
          CC.skip)))
    []
theorem code118_ok : F0 118 = some (.code code118) := by kernel_rfl
def code153 : CFn :=
  CFn.mk
    (CC.seq (CC.reg none [Ins.mk (some 2) none Act.mv [Opd.k (AV.d (DV.bool false))]])
      (CC.seq
        (CC.reg none
          [Ins.mk (some 3) none Act.mv [Opd.t 0], Ins.mk (some 4) none (Act.bin BinOp.eql (EqK.nil 10)) [Opd.t 3, Opd.k (AV.d (DV.int IntKind.u8 (Int.ofNat 32)))], Ins.mk (some 5) none Act.mv [Opd.t 4], Ins.mk (some 6) (some (5, false)) Act.mv [Opd.t 0],
            Ins.mk (some 7) (some (5, false)) (Act.bin BinOp.eql (EqK.nil 10)) [Opd.t 6, Opd.k (AV.d (DV.int IntKind.u8 (Int.ofNat 9)))], Ins.mk (some 8) none Act.pick [Opd.t 5, Opd.k (AV.d (DV.bool true)), Opd.t 7], Ins.mk (some 9) none Act.mv [Opd.t 8],
            Ins.mk (some 10) (some (9, false)) Act.mv [Opd.t 0], Ins.mk (some 11) (some (9, false)) (Act.call false) [Opd.k (AV.fn Mode.pure 196 [] []), Opd.t 10], Ins.mk (some 12) none Act.pick [Opd.t 9, Opd.k (AV.d (DV.bool true)), Opd.t 11], Ins.mk (some 2) none Act.mv [Opd.t 12]])
        CC.ret))
    [RV.tmp 2]
theorem code153_ok : F0 153 = some (.code code153) := by kernel_rfl
def code202 : CFn :=
  CFn.mk
    (CC.seq (CC.reg none [Ins.mk (some 2) none Act.mv [Opd.k (AV.d (DV.bool false))]])
      (CC.seq
        (CC.reg none
          [Ins.mk (some 3) none Act.mv [Opd.t 0], Ins.mk (some 4) none (Act.bin BinOp.geq (EqK.nil 10)) [Opd.t 3, Opd.k (AV.d (DV.int IntKind.u8 (Int.ofNat 48)))], Ins.mk (some 5) none Act.mv [Opd.t 4], Ins.mk (some 6) (some (5, true)) Act.mv [Opd.t 0],
            Ins.mk (some 7) (some (5, true)) (Act.bin BinOp.leq (EqK.nil 10)) [Opd.t 6, Opd.k (AV.d (DV.int IntKind.u8 (Int.ofNat 57)))], Ins.mk (some 8) none Act.pick [Opd.t 5, Opd.t 7, Opd.k (AV.d (DV.bool false))], Ins.mk (some 2) none Act.mv [Opd.t 8]])
        CC.ret))
    [RV.tmp 2]
theorem code202_ok : F0 202 = some (.code code202) := by kernel_rfl
def code196 : CFn :=
  CFn.mk
    (CC.seq (CC.reg none [Ins.mk (some 2) none Act.mv [Opd.k (AV.d (DV.bool false))]])
      (CC.seq
        (CC.reg none
          [Ins.mk (some 3) none Act.mv [Opd.t 0], Ins.mk (some 4) none (Act.bin BinOp.eql (EqK.nil 10)) [Opd.t 3, Opd.k (AV.d (DV.int IntKind.u8 (Int.ofNat 10)))], Ins.mk (some 5) none Act.mv [Opd.t 4], Ins.mk (some 6) (some (5, false)) Act.mv [Opd.t 0],
            Ins.mk (some 7) (some (5, false)) (Act.bin BinOp.eql (EqK.nil 10)) [Opd.t 6, Opd.k (AV.d (DV.int IntKind.u8 (Int.ofNat 13)))], Ins.mk (some 8) none Act.pick [Opd.t 5, Opd.k (AV.d (DV.bool true)), Opd.t 7], Ins.mk (some 9) none Act.mv [Opd.t 8],
            Ins.mk (some 10) (some (9, false)) Act.mv [Opd.t 0], Ins.mk (some 11) (some (9, false)) (Act.bin BinOp.eql (EqK.nil 10)) [Opd.t 10, Opd.k (AV.d (DV.int IntKind.u8 (Int.ofNat 12)))], Ins.mk (some 12) none Act.pick [Opd.t 9, Opd.k (AV.d (DV.bool true)), Opd.t 11],
            Ins.mk (some 2) none Act.mv [Opd.t 12]])
        CC.ret))
    [RV.tmp 2]
theorem code196_ok : F0 196 = some (.code code196) := by kernel_rfl
def code62 : CFn :=
  CFn.mk
    (CC.seq (CC.reg none [Ins.mk (some 6) none Act.mv [Opd.k (AV.d (DV.int IntKind.i64 (Int.ofNat 0)))], Ins.mk (some 7) none Act.mv [Opd.k (AV.d (DV.int IntKind.i64 (Int.ofNat 0)))]])
      (CC.seq
        (CC.seq
          (CC.reg none
            [Ins.mk (some 11) none Act.mv [Opd.t 0], Ins.mk (some 12) none Act.mv [Opd.t 1], Ins.mk (some 13) none (Act.call false) [Opd.k (AV.fn Mode.pure 73 [] []), Opd.t 11, Opd.t 12],
              Ins.mk (some 8) none (Act.new 86 [AV.d (DV.int IntKind.i64 (Int.ofNat 0)), AV.d (DV.int IntKind.i64 (Int.ofNat 0)), AV.d (DV.str []), AV.d (DV.str [])]) [], Ins.mk none none (Act.storeT 4) [Opd.t 8, Opd.t 13]])
          (CC.seq (CC.reg none [Ins.mk (some 14) none (Act.fad 0) [Opd.t 8], Ins.mk (some 15) none (Act.load none) [Opd.t 14], Ins.mk (some 16) none (Act.bin BinOp.eql (EqK.nil 10)) [Opd.t 15, Opd.k (AV.d (DV.int IntKind.i64 (Int.ofNat 1)))]])
            (CC.cond (Opd.t 16)
              (CC.seq (CC.reg none [Ins.mk (some 17) none Act.mv [Opd.t 2], Ins.mk (some 18) none Act.len [Opd.t 17], Ins.mk (some 19) none Act.mv [Opd.k (AV.d (DV.int IntKind.i64 (Int.ofNat 0)))]])
                (CC.block 0
                  (CC.loop [1, 6, 7, 8, 17, 18, 19]
                    (CC.seq (CC.reg none [Ins.mk (some 20) none (Act.bin BinOp.lss (EqK.nil 10)) [Opd.t 19, Opd.t 18]])
                      (CC.seq (CC.cond (Opd.t 20) CC.skip (CC.exit 0))
                        (CC.seq (CC.fgt [1, 6, 7, 8, 17, 18, 19])
                          (CC.seq
                            (CC.block 1
                              (CC.seq (CC.reg none [Ins.mk (some 21) none Act.mv [Opd.t 19], Ins.mk (some 22) none (Act.iad 1) [Opd.t 17, Opd.t 19], Ins.mk (some 23) none (Act.load none) [Opd.t 22], Ins.mk (some 9) none Act.mv [Opd.t 21], Ins.mk (some 10) none Act.mv [Opd.t 23]])
                                (CC.seq (CC.reg none [Ins.mk (some 24) none (Act.fad 2) [Opd.t 8], Ins.mk (some 25) none (Act.load none) [Opd.t 24], Ins.mk (some 26) none Act.mv [Opd.t 10], Ins.mk (some 27) none (Act.call false) [Opd.k (AV.fn Mode.pure 110 [] []), Opd.t 25, Opd.t 26]])
                                  (CC.cond (Opd.t 27)
                                    (CC.seq
                                      (CC.reg none
                                        [Ins.mk (some 28) none Act.mv [Opd.t 9], Ins.mk (some 29) none Act.mv [Opd.t 1], Ins.mk (some 30) none (Act.bin BinOp.add (EqK.nil 10)) [Opd.t 29, Opd.k (AV.d (DV.int IntKind.i64 (Int.ofNat 1)))], Ins.mk (some 6) none Act.mv [Opd.t 28],
                                          Ins.mk (some 7) none Act.mv [Opd.t 30]])
                                      CC.ret)
                                    CC.skip))))
                            (CC.seq (CC.fgt [1, 6, 7, 8, 17, 18, 19]) (CC.reg none [Ins.mk (some 31) none (Act.bin BinOp.add (EqK.nil 10)) [Opd.t 19, Opd.k (AV.d (DV.int IntKind.i64 (Int.ofNat 1)))], Ins.mk (some 19) none Act.mv [Opd.t 31]])))))))))
              CC.skip)))
        (CC.seq (CC.fgt [1, 6, 7]) (CC.seq (CC.reg none [Ins.mk (some 32) none Act.mv [Opd.t 1], Ins.mk (some 6) none Act.mv [Opd.k (AV.d (DV.int IntKind.i64 (Int.negSucc 0)))], Ins.mk (some 7) none Act.mv [Opd.t 32]]) CC.ret))))
    [RV.tmp 6, RV.tmp 7]
theorem code62_ok : F0 62 = some (.code code62) := by kernel_rfl
def code109 : CFn :=
  CFn.mk
    (CC.seq (CC.reg none [Ins.mk (some 6) none Act.mv [Opd.k (AV.d (DV.bool false))]])
      (CC.seq
        (CC.reg none
          [Ins.mk (some 8) none Act.mv [Opd.t 0], Ins.mk (some 9) none Act.mv [Opd.t 1], Ins.mk (some 10) none (Act.call false) [Opd.k (AV.fn Mode.pure 73 [] []), Opd.t 8, Opd.t 9],
            Ins.mk (some 7) none (Act.new 86 [AV.d (DV.int IntKind.i64 (Int.ofNat 0)), AV.d (DV.int IntKind.i64 (Int.ofNat 0)), AV.d (DV.str []), AV.d (DV.str [])]) [], Ins.mk none none (Act.storeT 4) [Opd.t 7, Opd.t 10]])
        (CC.seq
          (CC.reg none
            [Ins.mk (some 11) none (Act.fad 0) [Opd.t 7], Ins.mk (some 12) none (Act.load none) [Opd.t 11], Ins.mk (some 13) none (Act.bin BinOp.eql (EqK.nil 10)) [Opd.t 12, Opd.k (AV.d (DV.int IntKind.i64 (Int.ofNat 7)))], Ins.mk (some 14) none Act.mv [Opd.t 13],
              Ins.mk (some 15) (some (14, true)) (Act.fad 2) [Opd.t 7], Ins.mk (some 16) (some (14, true)) (Act.load none) [Opd.t 15], Ins.mk (some 17) (some (14, true)) Act.mv [Opd.t 2], Ins.mk (some 18) (some (14, true)) (Act.bin BinOp.eql (EqK.nil 10)) [Opd.t 16, Opd.t 17],
              Ins.mk (some 19) none Act.pick [Opd.t 14, Opd.t 18, Opd.k (AV.d (DV.bool false))], Ins.mk (some 6) none Act.mv [Opd.t 19]])
          CC.ret)))
    [RV.tmp 6]
theorem code109_ok : F0 109 = some (.code code109) := by kernel_rfl
def code154 : CFn :=
  CFn.mk
    (CC.seq (CC.reg none [Ins.mk (some 4) none Act.mv [Opd.k (AV.d (DV.bool false))]])
      (CC.seq (CC.reg none [Ins.mk (some 5) none Act.mv [Opd.t 0], Ins.mk (some 6) none Act.mv [Opd.t 1], Ins.mk (some 7) none (Act.call false) [Opd.k (AV.fn Mode.pure 197 [] []), Opd.t 5, Opd.t 6], Ins.mk (some 4) none Act.mv [Opd.t 7]]) CC.ret))
    [RV.tmp 4]
theorem code154_ok : F0 154 = some (.code code154) := by kernel_rfl
def code162 : CFn :=
  CFn.mk
    (CC.seq (CC.reg none [Ins.mk (some 4) none Act.mv [Opd.k (AV.d (DV.int IntKind.i64 (Int.ofNat 0)))]])
      (CC.seq (CC.reg none [Ins.mk (some 5) none Act.mv [Opd.t 0], Ins.mk (some 6) none Act.mv [Opd.t 1], Ins.mk (some 7) none (Act.call false) [Opd.k (AV.fn Mode.pure 206 [] []), Opd.t 5, Opd.t 6], Ins.mk (some 4) none Act.mv [Opd.t 7]]) CC.ret))
    [RV.tmp 4]
theorem code162_ok : F0 162 = some (.code code162) := by kernel_rfl
end Go.Proofs.YtapnjabhcdlhbaaGreatDoor.Ab
