/- Layer 1 (fixed): products and quotients; a part of a length: the program. -/
import Derived.Test.YtapnjabhcdlhbaaGreatDoorC01a
import Derived.Test.YtapnjabhcdlhbaaGreatDoorC00a
namespace Go.Proofs.YtapnjabhcdlhbaaGreatDoor.Ab
open Go
set_option linter.unusedSimpArgs false
set_option maxRecDepth 100000
set_option linter.unusedVariables false
set_option maxHeartbeats 4000000

def isPx (n : Int) : Bool := decide (-68719476736 ≤ n) && decide (n ≤ 68719476736)
theorem fixedIs_ok (n : Int) : Pur F0 100 [I n] [] .no (.ret (B (isPx n))) .no := by
  refine pur_code (cf := cfn Tryz.f100) (by kernel_rfl) ?_
  conv => arg 3; reduce
  conv => whnf
  repeat' (first
    | (refine vb_t rfl ?_; conv => whnf)
    | (refine vb_f rfl ?_; conv => whnf)
    | (refine vb_t (by assumption) ?_; conv => whnf)
    | (refine vb_f (by assumption) ?_; conv => whnf)
    | (refine vb_i (fun h => ?_) (fun h => ?_) <;> conv => whnf)
    | fail)
  all_goals (refine ⟨?_, rfl⟩)
  all_goals (simp_all [isPx, ile_d] <;> omega)
theorem u_cast {n : Int} (h1 : -1000000000000 ≤ n) (h2 : n ≤ 1000000000000) (h : 0 ≤ n) : icast .u64 n = n := by unfold icast; rw [wu]; omega
theorem u_neg {n : Int} (h1 : -1000000000000 ≤ n) (h2 : n ≤ 1000000000000) : isub .u64 0 (icast .u64 n) = (-n) % 18446744073709551616 := by unfold isub icast; rw [wu, wu]; omega
theorem size_ok (n : Int) (h1 : -1000000000000 ≤ n) (h2 : n ≤ 1000000000000) : Pur F0 184 [I n] [] .no (.ret (U n.natAbs)) .no := by
  refine pur_code (cf := cfn Tryz.f184) (by kernel_rfl) ?_
  conv => arg 3; reduce
  conv => whnf
  repeat' (first
    | (refine vb_t rfl ?_; conv => whnf)
    | (refine vb_f rfl ?_; conv => whnf)
    | (refine vb_t (by assumption) ?_; conv => whnf)
    | (refine vb_f (by assumption) ?_; conv => whnf)
    | (refine vb_i (fun h => ?_) (fun h => ?_) <;> conv => whnf)
    | fail)
  all_goals (refine ⟨congrArg CR.ret (U_eq ?_), rfl⟩)
  · rw [u_neg h1 h2]; rw [ilt_t] at *; simp only [Int.ofNat_eq_natCast] at *; omega
  · rw [ilt_f] at *; simp only [Int.ofNat_eq_natCast] at *; rw [u_cast h1 h2 (by omega)]; omega
theorem tn32 : (Int.ofNat 32).toNat = 32 := rfl
theorem mul64_ok (x y : Nat) (hx : x < 18446744073709551616) (hy : y < 18446744073709551616) :
    Pur F0 183 [U x, U y] [] .no (.ret (.tup [U (x * y / 18446744073709551616 : Nat), U (x * y % 18446744073709551616 : Nat)])) .no := by
  refine pur_code (cf := cfn Tryz.f183) (by kernel_rfl) ?_
  conv => arg 3; reduce
  conv => whnf
  repeat' (first
    | (refine vb_t rfl ?_; conv => whnf)
    | (refine vb_f rfl ?_; conv => whnf)
    | (refine vb_t (by assumption) ?_; conv => whnf)
    | (refine vb_f (by assumption) ?_; conv => whnf)
    | (refine vb_i (fun h => ?_) (fun h => ?_) <;> conv => whnf)
    | fail)
  obtain ⟨h1, h2, h3, h4⟩ := Lib.mul64_hi x y hx hy
  have hx1 : x / 4294967296 < 4294967296 := by omega
  have e1 : ishr .u64 (x : Int) (Int.ofNat 32).toNat = ((x / 4294967296 : Nat) : Int) := u_shr 32 (by decide)
  have e2 : ishr .u64 (y : Int) (Int.ofNat 32).toNat = ((y / 4294967296 : Nat) : Int) := u_shr 32 (by decide)
  have e3 : ∀ z : Nat, ishr .u64 (z : Int) (Int.ofNat 32).toNat = ((z / 4294967296 : Nat) : Int) := fun z => u_shr 32 (by decide)
  have e4 : ∀ z : Nat, iand .u64 ((z % 18446744073709551616 : Nat) : Int) (Int.ofNat 4294967295) = ((z % 18446744073709551616 % 4294967296 : Nat) : Int) := fun z => u_mask (by omega)
  have m1 : x / 4294967296 * (y / 4294967296) ≤ 18446744065119617025 := Lib.half_mul_le (by omega) (by omega)
  have m2 : x / 4294967296 * (y % 4294967296) ≤ 18446744065119617025 := Lib.half_mul_le (by omega) (by omega)
  have m3 : x % 4294967296 * (y / 4294967296) ≤ 18446744065119617025 := Lib.half_mul_le (by omega) (by omega)
  have m4 : x % 4294967296 * (y % 4294967296) ≤ 18446744065119617025 := Lib.half_mul_le (by omega) (by omega)
  refine ⟨?_, rfl⟩
  simp only [e1, e2, u_mask hx, u_mask hy, u_mul, u_add, e3, e4]
  rw [show ∀ a b c d : Int, a = c → b = d → CR.ret (AV.tup [.d (.int .u64 a), .d (.int .u64 b)]) = CR.ret (AV.tup [U c, U d]) from fun a b c d h h' => by rw [h, h']]
  · rw [← h4]
    generalize x / 4294967296 * (y / 4294967296) = a at *
    generalize x / 4294967296 * (y % 4294967296) = b at *
    generalize x % 4294967296 * (y / 4294967296) = c at *
    generalize x % 4294967296 * (y % 4294967296) = d at *
    have q1 : a % 18446744073709551616 = a := by omega
    have q2 : b % 18446744073709551616 = b := by omega
    have q3 : c % 18446744073709551616 = c := by omega
    have q4 : d % 18446744073709551616 = d := by omega
    rw [q1, q2, q3, q4]
    have q5 : (b + d / 4294967296) % 18446744073709551616 = b + d / 4294967296 := by omega
    rw [q5]
    have q6 : ((b + d / 4294967296) % 4294967296 + c) % 18446744073709551616 = (b + d / 4294967296) % 4294967296 + c := by omega
    rw [q6]
    have h5 : x * y / 18446744073709551616 < 18446744073709551616 := by
      apply Nat.div_lt_of_lt_mul
      exact Nat.mul_lt_mul_of_lt_of_lt hx hy
    omega
  · rfl
end Go.Proofs.YtapnjabhcdlhbaaGreatDoor.Ab
