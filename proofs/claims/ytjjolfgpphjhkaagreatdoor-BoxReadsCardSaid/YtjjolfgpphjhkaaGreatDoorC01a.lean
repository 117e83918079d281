/- Layer 1 (fixed): whole numbers of 64 bits, as they are read. -/
import Derived.Test.YtjjolfgpphjhkaaGreatDoorAbSome
import Derived.Lib.Mul64
namespace Go.Proofs.YtjjolfgpphjhkaaGreatDoor.Ab
open Go
set_option linter.unusedSimpArgs false
set_option maxRecDepth 100000
set_option linter.unusedVariables false

abbrev U (n : Int) : AV := .d (.int .u64 n)
theorem wu {x : Int} : IntKind.wrap .u64 x = x % 18446744073709551616 := by simp [IntKind.wrap, IntKind.signed, IntKind.bits]
theorem u_add {a b : Nat} : iadd .u64 (a : Int) (b : Int) = (((a + b) % 18446744073709551616 : Nat) : Int) := by unfold iadd; rw [wu]; omega
theorem u_mul {a b : Nat} : imul .u64 (a : Int) (b : Int) = (((a * b) % 18446744073709551616 : Nat) : Int) := by
  unfold imul; rw [wu, ← Int.natCast_mul]; omega
theorem u_sub {a b : Nat} (h : b ≤ a) (ha : a < 18446744073709551616) : isub .u64 (a : Int) (b : Int) = ((a - b : Nat) : Int) := by unfold isub; rw [wu]; omega
theorem u_sub' {a b : Nat} (hb : b ≤ 18446744073709551616) : isub .u64 (a : Int) (b : Int) = (((a + (18446744073709551616 - b)) % 18446744073709551616 : Nat) : Int) := by unfold isub; rw [wu]; omega
theorem u_quo {a b : Nat} (ha : a < 18446744073709551616) : iquo .u64 (a : Int) (b : Int) = ((a / b : Nat) : Int) := by
  unfold iquo
  have e : ((a : Int).tdiv (b : Int)) = ((a / b : Nat) : Int) := rfl
  rw [e, wu]
  have := Nat.div_le_self a b
  generalize a / b = q at *
  omega
theorem u_rem {a b : Nat} : irem (a : Int) (b : Int) = ((a % b : Nat) : Int) := by unfold irem; rfl
theorem u_shr {a : Nat} (n : Nat) (hn : n ≤ 64) : ishr .u64 (a : Int) n = ((a / 2 ^ n : Nat) : Int) := by
  unfold ishr
  have e : min n (IntKind.bits .u64) = n := Nat.min_eq_left hn
  rw [e]
  show Int.fdiv (a : Int) (((2 : Nat) : Int) ^ n) = _
  rw [← Int.natCast_pow]
  rw [Int.fdiv_eq_ediv_of_nonneg _ (Int.natCast_nonneg _)]
  rfl
theorem u_shl {a : Nat} (n : Nat) (hn : n ≤ 64) : ishl .u64 (a : Int) n = (((a * 2 ^ n) % 18446744073709551616 : Nat) : Int) := by
  unfold ishl
  have e : min n (IntKind.bits .u64) = n := Nat.min_eq_left hn
  rw [e, wu]
  show ((a : Int) * ((2 : Nat) : Int) ^ n) % _ = _
  rw [← Int.natCast_pow, ← Int.natCast_mul]
  omega
theorem ofInt_nat {x : Nat} (hx : x < 18446744073709551616) : (BitVec.ofInt 64 (x : Int)).toNat = x := by rw [BitVec.toNat_ofInt]; omega
theorem u_and {x y : Nat} (hx : x < 18446744073709551616) (hy : y < 18446744073709551616) : iand .u64 (x : Int) (y : Int) = ((x &&& y : Nat) : Int) := by
  unfold iand
  show IntKind.wrap .u64 (((BitVec.ofInt 64 (x : Int) &&& BitVec.ofInt 64 (y : Int)).toNat : Nat) : Int) = _
  rw [BitVec.toNat_and, ofInt_nat hx, ofInt_nat hy, wu]
  have : x &&& y ≤ x := Nat.and_le_left
  omega
theorem u_mask {x : Nat} (hx : x < 18446744073709551616) : iand .u64 (x : Int) (Int.ofNat 4294967295) = ((x % 4294967296 : Nat) : Int) := by
  rw [Int.ofNat_eq_natCast, u_and hx (by decide)]
  have := Nat.and_two_pow_sub_one_eq_mod x 32
  simp only [Nat.reducePow, Nat.reduceSub] at this
  rw [this]
theorem u_or {x y : Nat} (hx : x < 18446744073709551616) (hy : y < 18446744073709551616) : ior .u64 (x : Int) (y : Int) = ((x ||| y : Nat) : Int) := by
  unfold ior
  show IntKind.wrap .u64 (((BitVec.ofInt 64 (x : Int) ||| BitVec.ofInt 64 (y : Int)).toNat : Nat) : Int) = _
  rw [BitVec.toNat_or, ofInt_nat hx, ofInt_nat hy, wu]
  have : x ||| y < 2 ^ 64 := Nat.or_lt_two_pow (by simpa using hx) (by simpa using hy)
  omega
theorem or_add {h l n : Nat} (hl : l < 2 ^ n) : (h * 2 ^ n) ||| l = h * 2 ^ n + l := by
  rw [← Nat.shiftLeft_eq, Nat.shiftLeft_add_eq_or_of_lt hl]
theorem u_castI {a : Int} (h0 : 0 ≤ a) (h : a < 18446744073709551616) : icast .u64 a = a := by unfold icast; rw [wu]; omega
theorem iz_u {n : Nat} (h : n ≠ 0) : iz (n : Int) = false := by rw [iz_f]; omega
theorem U_eq {a b : Int} (h : a = b) : U a = U b := by rw [h]
end Go.Proofs.YtjjolfgpphjhkaaGreatDoor.Ab
