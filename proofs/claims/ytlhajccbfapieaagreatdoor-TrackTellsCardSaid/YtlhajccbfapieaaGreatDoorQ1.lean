/- Some texts as one, one behind the other; what is not leaned on is left out. -/
import Derived.Test.YtlhajccbfapieaaGreatDoorAbSome
import Derived.Lib.Mul64
import Derived.Test.YtlhajccbfapieaaGreatDoorC00q
import Derived.Test.YtlhajccbfapieaaGreatDoorAbCfg
set_option linter.unusedSimpArgs false
set_option linter.unusedVariables false
namespace Go.Proofs.YtlhajccbfapieaaGreatDoor.Ab
open Go
set_option linter.unusedSimpArgs false
set_option maxRecDepth 100000
set_option linter.unusedVariables false
theorem wu {x : Int} : IntKind.wrap .u64 x = x % 18446744073709551616 := by simp [IntKind.wrap, IntKind.signed, IntKind.bits]
theorem u_rem {a b : Nat} : irem (a : Int) (b : Int) = ((a % b : Nat) : Int) := by unfold irem; rfl
theorem iz_u {n : Nat} (h : n ≠ 0) : iz (n : Int) = false := by rw [iz_f]; omega
end Go.Proofs.YtlhajccbfapieaaGreatDoor.Ab
namespace Go.Proofs.YtlhajccbfapieaaGreatDoor.Ab
open Go
set_option linter.unusedSimpArgs false
set_option maxRecDepth 100000
set_option linter.unusedVariables false
set_option maxHeartbeats 4000000
theorem pur_closed {F : Nat → Option Fn} {f n : Nat} {args : List AV} {c : CR} {rc' : Rec} (h : ((ext F n).call f args [] .no).map (fun r => (r.r.map (deepOwn 0 r.h), r.rc)) = some (some c, rc')) : Pur F f args [] .no c rc' := by
 cases hr : (ext F n).call f args [] .no with
 | none => rw [hr] at h; cases h
 | some r =>
  rw [hr] at h
  simp only [Option.map_some, Option.some.injEq, Prod.mk.injEq] at h
  exact ⟨r, ⟨n, hr⟩, h.1, h.2⟩
theorem indexByteString_ok (s : List UInt8) (c : UInt8) (h : Heap) : Pur F0 160 [S s, .d (.int .u8 c.toNat)] h .no (.ret (I (Lib.indexByte s c))) .no := by
 have e : Lib.indexByte s c = Lib.indexByte s (UInt8.ofNat ((c.toNat : Nat) : Int).toNat) := by rw [Int.toNat_natCast, UInt8.ofNat_toNat]
 rw [e]
 exact pur_known (g := kIndexByte) (by kernel_rfl) rfl
theorem indexByte_ok (s : List UInt8) (c : UInt8) : Pur F0 141 [S s, .d (.int .u8 c.toNat)] [] .no (.ret (I (Lib.indexByte s c))) .no := by
 refine pur_code (cf := cfn Tryz.f141) (by kernel_rfl) ?_
 conv => arg 3; reduce
 conv => whnf
 repeat' ((first | refine bt ?_ | refine bf ?_ | refine vpur_i (indexByteString_ok s c _) ?_ | refine vl ?_ | fail) <;> conv => whnf)
 exact ⟨rfl, rfl⟩
end Go.Proofs.YtlhajccbfapieaaGreatDoor.Ab
namespace Go.Proofs.YtlhajccbfapieaaGreatDoor.Ab
open Go
set_option linter.unusedSimpArgs false
set_option maxRecDepth 100000
set_option linter.unusedVariables false
set_option maxHeartbeats 4000000
def isPx (n : Int) : Bool := decide (-68719476736 ≤ n) && decide (n ≤ 68719476736)
theorem fixedIs_ok (n : Int) : Pur F0 83 [I n] [] .no (.ret (B (isPx n))) .no := by
 refine pur_code (cf := cfn Tryz.f83) (by kernel_rfl) ?_
 conv => arg 3; reduce
 conv => whnf
 repeat' ((first | refine bt ?_ | refine bf ?_ | refine vl ?_ | refine vb_i (fun h => ?_) (fun h => ?_) | fail) <;> conv => whnf)
 all_goals (refine ⟨?_, rfl⟩)
 all_goals (simp_all [isPx, ile_d] <;> omega)
end Go.Proofs.YtlhajccbfapieaaGreatDoor.Ab
namespace Go.Proofs.YtlhajccbfapieaaGreatDoor.Ab
open Go
set_option linter.unusedSimpArgs false
set_option maxRecDepth 100000
set_option linter.unusedVariables false
set_option maxHeartbeats 4000000
end Go.Proofs.YtlhajccbfapieaaGreatDoor.Ab
namespace Go.Proofs.YtlhajccbfapieaaGreatDoor.Ab
open Go
set_option linter.unusedSimpArgs false
set_option maxRecDepth 100000
set_option linter.unusedVariables false
set_option maxHeartbeats 4000000
end Go.Proofs.YtlhajccbfapieaaGreatDoor.Ab
namespace Go.Proofs.YtlhajccbfapieaaGreatDoor.Ab
open Go
set_option linter.unusedSimpArgs false
set_option maxRecDepth 100000
set_option linter.unusedVariables false
set_option maxHeartbeats 4000000
theorem refIs_ok (n : Int) : Pur F0 85 [I n] [] .no (.ret (B (isPx n))) .no := by
 refine pur_code (cf := cfn Tryz.f85) (by kernel_rfl) ?_
 conv => arg 3; reduce
 conv => whnf
 repeat' ((first | refine bt ?_ | refine bf ?_ | refine vl ?_ | refine vb_i (fun h => ?_) (fun h => ?_) | fail) <;> conv => whnf)
 all_goals (refine ⟨?_, rfl⟩)
 all_goals (simp_all [isPx, ile_d] <;> omega)
theorem n_ofn (n : Nat) : Int.ofNat n = ((n : Nat) : Int) := rfl
end Go.Proofs.YtlhajccbfapieaaGreatDoor.Ab
namespace Go.Proofs.YtlhajccbfapieaaGreatDoor.Ab
open Go
set_option linter.unusedSimpArgs false
set_option maxRecDepth 100000
set_option linter.unusedVariables false
set_option maxHeartbeats 4000000
end Go.Proofs.YtlhajccbfapieaaGreatDoor.Ab
namespace Go.Proofs.YtlhajccbfapieaaGreatDoor.Ab
open Go
set_option linter.unusedSimpArgs false
set_option maxRecDepth 100000
set_option linter.unusedVariables false
set_option maxHeartbeats 4000000
end Go.Proofs.YtlhajccbfapieaaGreatDoor.Ab
namespace Go.Proofs.YtlhajccbfapieaaGreatDoor.Ab
open Go
set_option linter.unusedSimpArgs false
set_option maxRecDepth 100000
set_option linter.unusedVariables false
def keyBit (k : Int) : Int := if k = 1 then 4 else if k = 4 then 8 else if k = 5 then 8 else if k = 7 then 32 else 0
theorem keyBit_ok (k : Int) : Pur F0 55 [I k] [] .no (.ret (I (keyBit k))) .no := by
 refine pur_code (cf := cfn Tryz.f55) (by kernel_rfl) ?_
 conv => arg 3; reduce
 conv => whnf
 repeat' ((first | refine bt ?_ | refine bf ?_ | refine vl ?_ | refine vb_i (fun h => ?_) (fun h => ?_) | fail) <;> conv => whnf)
 all_goals (refine ⟨?_, rfl⟩; simp_all [keyBit, ieq_t, ieq_f])
def keyText (k : Int) : List UInt8 := if k = 1 then [97, 117, 116, 111] else if k = 4 then [109, 105, 110, 45, 99, 111, 110, 116, 101, 110, 116] else if k = 5 then [109, 97, 120, 45, 99, 111, 110, 116, 101, 110, 116] else
 if k = 7 then [110, 111, 110, 101] else []
theorem keyText_ok (k : Int) : Pur F0 59 [I k] [] .no (.ret (S (keyText k))) .no := by
 refine pur_code (cf := cfn Tryz.f59) (by kernel_rfl) ?_
 conv => arg 3; reduce
 conv => whnf
 repeat' ((first | refine bt ?_ | refine bf ?_ | refine vl ?_ | refine vb_i (fun h => ?_) (fun h => ?_) | fail) <;> conv => whnf)
 all_goals (refine ⟨?_, rfl⟩; simp_all [keyText, ieq_t, ieq_f])
def hasBit (a b : Int) : Bool := ilt 0 (iand .i64 a b)
def within (n a most : Int) : Bool := if n < 0 then (if hasBit a 2 = true then ile (isub .i64 0 most) n else false) else ile n most
theorem good1_ok (k n a most : Int) (t u : Nat) : Drp F0 2 54 [I most, .ptr 0 0, .ptr 1 0] [⟨.mine, t, .fix [I k, I n]⟩, ⟨.mine, u, .fix [I a]⟩] .no (.ret (B (within n a most)))
 [⟨.mine, t, .fix [I k, I n]⟩, ⟨.mine, u, .fix [I a]⟩] .no := by
 refine drp_code (cf := cfn Tryz.f54) (by kernel_rfl) ?_
 conv => arg 3; reduce
 conv => whnf
 repeat' ((first | refine bt ?_ | refine bf ?_ | refine vl ?_ | refine vb_i (fun h => ?_) (fun h => ?_) | fail) <;> conv => whnf)
 all_goals (refine ⟨?_, rfl, rfl⟩; simp_all [within, hasBit, ilt_d, ile_d] <;> omega)
def goodL (k n a : Int) : Bool :=
 if k = 2 then within n a 68719476736 else if k = 3 then (hasBit a 1 && within n a 1073741824) else if k = 6 then (hasBit a 16 && decide (0 ≤ n) && decide (n ≤ 1073741824)) else decide (n = 0) && hasBit a (keyBit k)
theorem good_ok (k n a : Int) : Pur F0 27 [.agg [I k, I n], I a] [] .no (.ret (B (goodL k n a))) .no := by
 refine pur_code (cf := cfn Tryz.f27) (by kernel_rfl) ?_
 conv => arg 3; reduce
 conv => whnf
 repeat' ((first | refine bt ?_ | refine bf ?_ | refine vdrp_i (good1_ok _ _ _ _ _ _) ?_ | refine vpur_i (keyBit_ok _) ?_ | refine vl ?_ | refine vb_i (fun h => ?_) (fun h => ?_) | fail) <;> conv => whnf)
 all_goals (refine ⟨?_, rfl⟩; simp_all [goodL, hasBit, ieq_d, ilt_d, ile_d] <;> omega)
end Go.Proofs.YtlhajccbfapieaaGreatDoor.Ab
namespace Go.Proofs.YtlhajccbfapieaaGreatDoor.Ab
open Go
set_option linter.unusedSimpArgs false
set_option maxRecDepth 100000
set_option linter.unusedVariables false
set_option maxHeartbeats 4000000
theorem g_ofn (n : Nat) : Int.ofNat n = ((n : Nat) : Int) := rfl
theorem g_in {x : Int} (h1 : -9223372036854775808 ≤ x) (h2 : x ≤ 9223372036854775807) : IntKind.wrap .i64 x = x := IntWalk.i64_in _ ⟨h1, h2⟩
theorem g_quo {a b : Nat} (ha : a ≤ 4611686018427387904) : iquo .i64 (a : Int) (b : Int) = ((a / b : Nat) : Int) := by
 unfold iquo
 have e : ((a : Int).tdiv (b : Int)) = ((a / b : Nat) : Int) := rfl
 have := Nat.div_le_self a b
 rw [e]
 generalize a / b = q at *
 rw [g_in (by omega) (by omega)]
theorem iandp (a : Int) (b : Nat) (hb : b < 64) : 0 < iand .i64 a b ↔ ((a % 18446744073709551616).toNat &&& b) ≠ 0 := by
 have hA : (BitVec.ofInt 64 a).toNat = (a % 18446744073709551616).toNat := by rw [BitVec.toNat_ofInt]; rfl
 have hB : (BitVec.ofInt 64 (b : Int)).toNat = b := by rw [BitVec.toNat_ofInt]; omega
 have hlt : (a % 18446744073709551616).toNat &&& b ≤ b := Nat.and_le_right
 have hw : iand .i64 a b = (((a % 18446744073709551616).toNat &&& b : Nat) : Int) := by
  unfold iand
  show IntKind.wrap .i64 ((BitVec.ofInt 64 a &&& BitVec.ofInt 64 (b : Int)).toNat : Int) = _
  rw [BitVec.toNat_and, hA, hB]
  generalize (a % 18446744073709551616).toNat &&& b = z at *
  exact IntWalk.i64_in _ ⟨by omega, by omega⟩
 rw [hw]
 omega
theorem and_pow (x k : Nat) : (x &&& 2 ^ k) ≠ 0 ↔ x / 2 ^ k % 2 = 1 := by
 have ht : x.testBit k = decide (x / 2 ^ k % 2 = 1) := Nat.testBit_eq_decide_div_mod_eq
 constructor
 · intro h
   refine Classical.byContradiction fun hn => h ?_
   apply Nat.eq_of_testBit_eq
   intro i
   rw [Nat.testBit_and, Nat.testBit_two_pow, Nat.zero_testBit]
   by_cases hi : k = i
   · subst hi; rw [ht, decide_eq_false hn]; rfl
   · simp [hi]
 · intro h e
   have := congrArg (fun y => Nat.testBit y k) e
   simp only [Nat.testBit_and, Nat.testBit_two_pow, Nat.zero_testBit, ht, h] at this
   simp at this
def six (a : Int) : Nat := (a % 64).toNat
theorem hasB (a : Int) (k : Nat) (hk : k < 6) : hasBit a ((2 ^ k : Nat) : Int) = decide (six a / 2 ^ k % 2 = 1) := by
 unfold hasBit six
 rw [ilt_d]
 have h2 : 2 ^ k < 64 := Nat.pow_lt_pow_right (by decide) hk
 rw [Bool.eq_iff_iff, decide_eq_true_eq, decide_eq_true_eq, iandp a _ h2, and_pow]
 have e : (a % 64).toNat = (a % 18446744073709551616).toNat % 64 := by omega
 rw [e]
 generalize (a % 18446744073709551616).toNat = x
 have : k = 0 ∨ k = 1 ∨ k = 2 ∨ k = 3 ∨ k = 4 ∨ k = 5 := by omega
 rcases this with rfl | rfl | rfl | rfl | rfl | rfl <;> simp only [Nat.reducePow] <;> omega
theorem six_lt (a : Int) : six a < 64 := by unfold six; omega
theorem bits_ok (a : Int) : Pur F0 56 [I a] [] .no (.ret (I (six a))) .no := by
 refine pur_code (cf := cfn Tryz.f56) (by kernel_rfl) ?_
 conv => arg 3; reduce
 conv => whnf
 have hz : iz (Int.ofNat 64) = false := by rw [iz_f]; decide
 repeat' ((first | refine bt ?_ | refine bf ?_ | refine vl ?_ | refine vb_i (fun h => ?_) (fun h => ?_) | fail) <;> conv => whnf)
 refine ⟨congrArg CR.ret (I_eq ?_), rfl⟩
 have h := six_lt a
 have e : irem (icast .u64 a) (Int.ofNat 64) = (six a : Int) := by
  obtain ⟨x, hx⟩ : ∃ x : Nat, icast .u64 a = (x : Int) := ⟨(icast .u64 a).toNat, by unfold icast; rw [wu]; omega⟩
  have hx' := hx
  unfold icast at hx'
  rw [wu] at hx'
  rw [hx, g_ofn, u_rem]
  unfold six
  omega
 rw [e, icast64 (by omega) (by omega)]
theorem has_ok (a b : Nat) (ha : a < 64) (hb : 0 < b) : Pur F0 57 [I a, I b] [] .no (.ret (B (decide (a / b % 2 = 1)))) .no := by
 refine pur_code (cf := cfn Tryz.f57) (by kernel_rfl) ?_
 conv => arg 3; reduce
 conv => whnf
 have hz : iz (b : Int) = false := iz_u (by omega)
 have hz2 : iz (Int.ofNat 2) = false := by rw [iz_f]; decide
 repeat' ((first | refine bt ?_ | refine bf ?_ | refine vl ?_ | refine vb_i (fun h => ?_) (fun h => ?_) | fail) <;> conv => whnf)
 refine ⟨congrArg CR.ret (congrArg AV.d (congrArg DV.bool ?_)), rfl⟩
 have e : irem (iquo .i64 (a : Int) (b : Int)) (Int.ofNat 2) = ((a / b % 2 : Nat) : Int) := by rw [g_quo (by omega), g_ofn, u_rem]
 rw [e, ieq_d, g_ofn]
 rw [Bool.eq_iff_iff, decide_eq_true_eq, decide_eq_true_eq]
 exact ⟨fun h => Int.ofNat.inj h, fun h => by rw [h]⟩
theorem lit0 : Int.ofNat 0 = 0 := rfl
theorem lit1 : Int.ofNat 1 = 1 := rfl
theorem lit2 : Int.ofNat 2 = 2 := rfl
theorem lit3 : Int.ofNat 3 = 3 := rfl
theorem lit4 : Int.ofNat 4 = 4 := rfl
theorem lit5 : Int.ofNat 5 = 5 := rfl
theorem lit6 : Int.ofNat 6 = 6 := rfl
theorem lit7 : Int.ofNat 7 = 7 := rfl
theorem litA : Int.ofNat 68719476736 = 68719476736 := rfl
theorem litB : Int.ofNat 1073741824 = 1073741824 := rfl
theorem litC : Int.negSucc 68719476735 = -68719476736 := rfl
theorem litD : Int.negSucc 1073741823 = -1073741824 := rfl
theorem lit63 : Int.ofNat 63 = 63 := rfl
theorem lit64 : Int.ofNat 64 = 64 := rfl
theorem litK : Int.ofNat 1000 = 1000 := rfl
theorem sub1 : isub .i64 0 68719476736 = -68719476736 := by rw [isub64] <;> decide
theorem sub2 : isub .i64 0 1073741824 = -1073741824 := by rw [isub64] <;> decide
theorem has0 (a : Int) : hasBit a 0 = false := by
 unfold hasBit
 rw [ilt_f]
 have : ¬ 0 < iand .i64 a ((0 : Nat) : Int) := by rw [iandp a 0 (by decide)]; simp
 exact Int.not_lt.1 this
theorem rgood_ok (k n a : Int) : Pur F0 28 [.agg [I k, I n], I a] [] .no (.ret (B (goodL k n a))) .no := by
 refine pur_code (cf := cfn Tryz.f28) (by kernel_rfl) ?_
 conv => arg 3; reduce
 conv => whnf
 have h := six_lt a
 have b1 : hasBit a 1 = decide (six a / 1 % 2 = 1) := hasB a 0 (by decide)
 have b2 : hasBit a 2 = decide (six a / 2 % 2 = 1) := hasB a 1 (by decide)
 have b4 : hasBit a 4 = decide (six a / 4 % 2 = 1) := hasB a 2 (by decide)
 have b8 : hasBit a 8 = decide (six a / 8 % 2 = 1) := hasB a 3 (by decide)
 have b16 : hasBit a 16 = decide (six a / 16 % 2 = 1) := hasB a 4 (by decide)
 have b32 : hasBit a 32 = decide (six a / 32 % 2 = 1) := hasB a 5 (by decide)
 have c1 : Pur F0 57 [I (six a), I 1] [] .no (.ret (B (hasBit a 1))) .no := by rw [b1]; exact has_ok (six a) 1 h (by decide)
 have c2 : Pur F0 57 [I (six a), I 2] [] .no (.ret (B (hasBit a 2))) .no := by rw [b2]; exact has_ok (six a) 2 h (by decide)
 have c4 : Pur F0 57 [I (six a), I 4] [] .no (.ret (B (hasBit a 4))) .no := by rw [b4]; exact has_ok (six a) 4 h (by decide)
 have c8 : Pur F0 57 [I (six a), I 8] [] .no (.ret (B (hasBit a 8))) .no := by rw [b8]; exact has_ok (six a) 8 h (by decide)
 have c16 : Pur F0 57 [I (six a), I 16] [] .no (.ret (B (hasBit a 16))) .no := by rw [b16]; exact has_ok (six a) 16 h (by decide)
 have c32 : Pur F0 57 [I (six a), I 32] [] .no (.ret (B (hasBit a 32))) .no := by rw [b32]; exact has_ok (six a) 32 h (by decide)
 have bo := bits_ok a
 clear b1 b2 b4 b8 b16 b32
 generalize six a = m at *
 repeat' ((first | refine bt ?_ | refine bf ?_ | refine vpur_i bo ?_ | refine vpur_i c1 ?_ | refine vpur_i c2 ?_ | refine vpur_i c4 ?_ | refine vpur_i c8 ?_ | refine vpur_i c16 ?_ | refine vpur_i c32 ?_ | refine vl ?_ | refine vb_i (fun h => ?_) (fun h => ?_) | fail) <;> conv => whnf)
 all_goals clear bo c1 c2 c4 c8 c16 c32
 all_goals refine ⟨congrArg CR.ret (congrArg AV.d (congrArg DV.bool ?_)), rfl⟩
 all_goals simp only [ieq_t, ieq_f, ile_t, ile_f, ile_d, ieq_d, ilt_d, lit2, lit3, lit1, lit4, lit5, lit6, lit7, litA, litB, lit0, litC, litD] at *
 all_goals have h0 := has0 a
 all_goals try subst k
 all_goals simp only [goodL, within, keyBit, ile_d, sub1, sub2]
 all_goals (simp_all <;> first | omega | ((repeat' split) <;> (try simp_all) <;> omega))
end Go.Proofs.YtlhajccbfapieaaGreatDoor.Ab
namespace Go.Proofs.YtlhajccbfapieaaGreatDoor.Ab
open Go
set_option linter.unusedSimpArgs false
set_option maxRecDepth 100000
set_option linter.unusedVariables false
set_option maxHeartbeats 4000000
end Go.Proofs.YtlhajccbfapieaaGreatDoor.Ab
namespace Go.Proofs.YtlhajccbfapieaaGreatDoor.Ab
open Go
set_option linter.unusedSimpArgs false
theorem retB {a b : Bool} (h : a = b) : CR.ret (B a) = CR.ret (B b) := by rw [h]
noncomputable def pb (p : Prop) : Bool := @decide p (Classical.propDecidable p)
theorem pb_t {p : Prop} (h : p) : pb p = true := by unfold pb; exact @decide_eq_true _ (Classical.propDecidable p) h
theorem pb_f {p : Prop} (h : ¬ p) : pb p = false := by unfold pb; exact @decide_eq_false _ (Classical.propDecidable p) h
theorem pb_iff {p : Prop} : pb p = true ↔ p := by
 by_cases h : p
 · rw [pb_t h]; simp [h]
 · rw [pb_f h]; simp [h]
theorem pb_ff {p : Prop} : pb p = false ↔ ¬ p := by
 by_cases h : p
 · rw [pb_t h]; simp [h]
 · rw [pb_f h]; simp [h]
theorem pb_congr {p q : Prop} (h : p ↔ q) : pb p = pb q := by
 by_cases hp : p
 · rw [pb_t hp, pb_t (h.1 hp)]
 · rw [pb_f hp, pb_f fun hq => hp (h.2 hq)]
def lkU : List (Nat × AV) → Nat → Option AV
 | [], _ => none
 | (u, v) :: l, t => match Nat.beq t u with
  | true => some v
  | false => lkU l t
def updE (t : Nat) (v : AV) : Option AV → Nat × AV
 | some w => (t, w)
 | none => (t, v)
def updL : List (Nat × AV) → List (Nat × AV) → List (Nat × AV)
 | [], _ => []
 | (t, v) :: l, u => updE t v (lkU u t) :: updL l u
section
variable {F : Nat → Option Fn}
def Upto {α : Type} (n : Nat) (I : Nat → α → Prop) : Type := { p : Nat × α // p.1 ≤ n ∧ I p.1 p.2 }
def qCnt {σ : Type} (fr : σ → List (Nat × AV)) (h : σ → Heap) (meas : σ → Nat) (ds : List (Mode × Nat × List AV)) (rc : Rec) (m : Nat) : Rec → List (Nat × AV) → Heap → List (Mode × Nat × List AV) → Prop :=
 fun rc' vs g ds' => ∃ s', meas s' < m ∧ vs = fr s' ∧ g = h s' ∧ ds' = ds ∧ rc' = rc
theorem vloop_cnh {α : Type} {keep : List Nat} {c : CC} {K : KK} {n0 : Nat} {ds : List (Mode × Nat × List AV)} {rc : Rec} {fr0 : List (Nat × AV)} {h0 : Heap} (n : Nat) (I : Nat → α → Prop) (u : Nat → α → List (Nat × AV)) (h : Nat → α → Heap)
 (x : α) (hx : I 0 x) (e1 : updL fr0 (u 0 x) = fr0) (e2 : h 0 x = h0)
 (step : ∀ k x (hk : k ≤ n) (hI : I k x), vC F n0 c (look (updL fr0 (u k x))) (h k x) ds rc (kRound keep n0 (qCnt (σ := Upto n I) (fun p => updL fr0 (u p.1.1 p.1.2)) (fun p => h p.1.1 p.1.2) (fun p => n - p.1.1) ds rc (n - k)) K)) :
 vloop F keep c ⟨look fr0, h0, ds, rc, n0⟩ (kLoop K) := by
 rw [← e2]
 have key : vloop F keep c ⟨look (updL fr0 (u 0 x)), h 0 x, ds, rc, n0⟩ (kLoop K) :=
  vloop_by (σ := Upto n I) (fun p => updL fr0 (u p.1.1 p.1.2)) (fun p => h p.1.1 p.1.2) (fun p => n - p.1.1) (fun p => step p.1.1 p.1.2 p.2.1 p.2.2) ⟨(0, x), Nat.zero_le _, hx⟩
 rwa [e1] at key
theorem vloop_cnt {α : Type} {keep : List Nat} {c : CC} {K : KK} {n0 : Nat} {ds : List (Mode × Nat × List AV)} {rc : Rec} {fr0 : List (Nat × AV)} {h0 : Heap} (n : Nat) (I : Nat → α → Prop) (u : Nat → α → List (Nat × AV))
 (x : α) (hx : I 0 x) (e1 : updL fr0 (u 0 x) = fr0)
 (step : ∀ k x (hk : k ≤ n) (hI : I k x), vC F n0 c (look (updL fr0 (u k x))) h0 ds rc (kRound keep n0 (qCnt (σ := Upto n I) (fun p => updL fr0 (u p.1.1 p.1.2)) (fun _ => h0) (fun p => n - p.1.1) ds rc (n - k)) K)) :
 vloop F keep c ⟨look fr0, h0, ds, rc, n0⟩ (kLoop K) := vloop_cnh n I u (fun _ _ => h0) x hx e1 rfl step
end
theorem get_in {α : Type} {l : List α} {k : Nat} (h : k < l.length) : ∃ x, l[k]? = some x := ⟨l[k], List.getElem?_eq_getElem h⟩
theorem get_map {α β : Type} {f : α → β} {l : List α} {k : Nat} {x : α} (h : l[k]? = some x) : (l.map f)[k]? = some (f x) := by rw [List.getElem?_map, h]; rfl
theorem iget_map {α β : Type} {f : α → β} {l : List α} {k : Nat} {x : α} (h : l[k]? = some x) : iget (l.map f) (k : Int) = some (f x) := iget_t (get_map h)
theorem lt_len {α β : Type} {f : α → β} {l : List α} {k : Nat} (h : k < l.length) : ilt (k : Int) ((l.map f).length : Int) = true := by rw [ilt_t, List.length_map]; omega
theorem nlt_len {α β : Type} {f : α → β} {l : List α} {k : Nat} (h : ¬ k < l.length) : ilt (k : Int) ((l.map f).length : Int) = false := by rw [ilt_f, List.length_map]; omega
theorem upto_succ {α : Type} {l : List α} {k : Nat} {P : Nat → α → Prop} (h : ∀ i x, i < k → l[i]? = some x → P i x) {x : α} (hx : l[k]? = some x) (hp : P k x) : ∀ i y, i < k + 1 → l[i]? = some y → P i y := by
 intro i y hi hy
 rcases Nat.lt_or_ge i k with h1 | h1
 · exact h i y h1 hy
 · have : i = k := by omega
   subst this
   rw [hx] at hy
   cases hy
   exact hp
end Go.Proofs.YtlhajccbfapieaaGreatDoor.Ab
namespace Go.Proofs.YtlhajccbfapieaaGreatDoor.Ab
open Go
set_option linter.unusedSimpArgs false
set_option maxRecDepth 100000
set_option linter.unusedVariables false
set_option maxHeartbeats 4000000
structure Trk where
 ak : Int
 an : Int
 bk : Int
 bn : Int
 fit : Bool
 lk : Int
 ln : Int
 deriving Inhabited
def trkRow (t : Trk) : List DV := [.int .i64 t.ak, .int .i64 t.an, .int .i64 t.bk, .int .i64 t.bn, .bool t.fit, .int .i64 t.lk, .int .i64 t.ln]
def trkL (t : Trk) : List AV := [I t.ak, I t.an, I t.bk, I t.bn, B t.fit, I t.lk, I t.ln]
def trkA (t : Trk) : AV := .agg (trkL t)
def lenK (k : Int) : Bool := decide (k = 2 ∨ k = 3)
def fixedT (t : Trk) : Bool := !t.fit && (lenK t.ak || lenK t.bk)
def rightT (t : Trk) : Bool := if t.fit = true then decide (t.ak = 1) && decide (t.an = 0) && decide (t.bk = 5) && decide (t.bn = 0) && lenK t.lk && goodL t.lk t.ln 1 else decide (t.lk = 0) && decide (t.ln = 0) && goodL t.ak t.an 13 && goodL t.bk t.bn 29
theorem lit13 : Int.ofNat 13 = 13 := rfl
theorem lit29 : Int.ofNat 29 = 29 := rfl
theorem auto_ok : Pur F0 53 [] [] .no (.ret (.agg [I 1, I 0])) .no := by
 refine pur_code code53_ok ?_
 conv => whnf
 repeat' ((first | refine bt ?_ | refine bf ?_ | refine vl ?_ | fail) <;> conv => whnf)
 exact ⟨rfl, rfl⟩
theorem fit_ok (k n : Int) : Pur F0 26 [.agg [I k, I n]] [] .no (.ret (.agg [I 1, I 0, I 5, I 0, B true, I k, I n])) .no := by
 refine pur_code code26_ok ?_
 conv => whnf
 repeat' ((first | refine bt ?_ | refine bf ?_ | refine vpur_i auto_ok ?_ | refine vl ?_ | fail) <;> conv => whnf)
 exact ⟨rfl, rfl⟩
theorem isLen_ok (k n : Int) : Pur F0 24 [.agg [I k, I n]] [] .no (.ret (B (lenK k))) .no := by
 refine pur_code code24_ok ?_
 conv => whnf
 repeat' ((first | refine bt ?_ | refine bf ?_ | refine vl ?_ | refine vb_i (fun h => ?_) (fun h => ?_) | fail) <;> conv => whnf)
 all_goals (refine ⟨retB ?_, rfl⟩; simp_all [lenK, ieq_t, ieq_f, ieq_d, lit2, lit3])
theorem risLen_ok (k n : Int) : Pur F0 25 [.agg [I k, I n]] [] .no (.ret (B (lenK k))) .no := by
 refine pur_code code25_ok ?_
 conv => whnf
 repeat' ((first | refine bt ?_ | refine bf ?_ | refine vl ?_ | refine vb_i (fun h => ?_) (fun h => ?_) | fail) <;> conv => whnf)
 all_goals (refine ⟨retB ?_, rfl⟩; simp_all [lenK, ieq_t, ieq_f, ieq_d, lit2, lit3])
theorem fixed_ok (t : Trk) : Pur F0 8 [trkA t] [] .no (.ret (B (fixedT t))) .no := by
 obtain ⟨ak, an, bk, bn, fit, lk, ln⟩ := t
 refine pur_code code8_ok ?_
 conv => whnf
 repeat' ((first | refine bt ?_ | refine bf ?_ | refine vpur_i (isLen_ok _ _) ?_ | refine vl ?_ | refine vb_i (fun h => ?_) (fun h => ?_) | fail) <;> conv => whnf)
 all_goals (refine ⟨retB ?_, rfl⟩; simp_all [fixedT])
theorem rfixed_ok (t : Trk) : Pur F0 9 [trkA t] [] .no (.ret (B (fixedT t))) .no := by
 obtain ⟨ak, an, bk, bn, fit, lk, ln⟩ := t
 refine pur_code code9_ok ?_
 conv => whnf
 repeat' ((first | refine bt ?_ | refine bf ?_ | refine vpur_i (risLen_ok _ _) ?_ | refine vl ?_ | refine vb_i (fun h => ?_) (fun h => ?_) | fail) <;> conv => whnf)
 all_goals (refine ⟨retB ?_, rfl⟩; simp_all [fixedT])
theorem right_ok (t : Trk) : Pur F0 10 [trkA t] [] .no (.ret (B (rightT t))) .no := by
 obtain ⟨ak, an, bk, bn, fit, lk, ln⟩ := t
 refine pur_code code10_ok ?_
 conv => whnf
 repeat' ((first | refine bt ?_ | refine bf ?_ | refine vpur_i (isLen_ok _ _) ?_ | refine vpur_i (fit_ok _ _) ?_ | refine vpur_i (good_ok _ _ _) ?_ | refine vl ?_ | refine vb_i (fun h => ?_) (fun h => ?_) | fail) <;> conv => whnf)
 all_goals (refine ⟨retB ?_, rfl⟩; simp_all [rightT, ieq_t, ieq_f, ieq_d, lit0, lit1, lit5, lit13, lit29])
theorem rright_ok (t : Trk) : Pur F0 11 [trkA t] [] .no (.ret (B (rightT t))) .no := by
 obtain ⟨ak, an, bk, bn, fit, lk, ln⟩ := t
 refine pur_code code11_ok ?_
 conv => whnf
 repeat' ((first | refine bt ?_ | refine bf ?_ | refine vpur_i (risLen_ok _ _) ?_ | refine vpur_i (rgood_ok _ _ _) ?_ | refine vl ?_ | refine vb_i (fun h => ?_) (fun h => ?_) | fail) <;> conv => whnf)
 all_goals (refine ⟨retB ?_, rfl⟩; simp_all [rightT, ieq_t, ieq_f, ieq_d, lit0, lit1, lit5, lit13, lit29])
end Go.Proofs.YtlhajccbfapieaaGreatDoor.Ab
