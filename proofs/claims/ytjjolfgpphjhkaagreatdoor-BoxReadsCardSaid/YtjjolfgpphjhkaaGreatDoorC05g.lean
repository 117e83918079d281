/- Layer 5 (value), the reference: may a size be. -/
import Derived.Test.YtjjolfgpphjhkaaGreatDoorC01a
import Derived.Test.YtjjolfgpphjhkaaGreatDoorC05a
namespace Go.Proofs.YtjjolfgpphjhkaaGreatDoor.Ab
open Go
set_option linter.unusedSimpArgs false
set_option maxRecDepth 100000
set_option linter.unusedVariables false
set_option maxHeartbeats 4000000

theorem g_ofn (n : Nat) : Int.ofNat n = ((n : Nat) : Int) := rfl
theorem g_in {x : Int} (h1 : -9223372036854775808 ≤ x) (h2 : x ≤ 9223372036854775807) : IntKind.wrap .i64 x = x := IntWalk.i64_in _ ⟨h1, h2⟩
theorem g_quo {a b : Nat} (ha : a ≤ 4611686018427387904) : iquo .i64 (a : Int) (b : Int) = ((a / b : Nat) : Int) := by
  unfold iquo
  have e : ((a : Int).tdiv (b : Int)) = ((a / b : Nat) : Int) := rfl
  have := Nat.div_le_self a b
  rw [e]
  generalize a / b = q at *
  rw [g_in (by omega) (by omega)]
theorem iandp (a : Int) (b : Nat) (hb : b < 64) : 0 < iand .i64 a b ↔ ((a % 18446744073709551616).toNat &&& b) ≠ 0 := by
  have hA : (BitVec.ofInt 64 a).toNat = (a % 18446744073709551616).toNat := by rw [BitVec.toNat_ofInt]; rfl
  have hB : (BitVec.ofInt 64 (b : Int)).toNat = b := by rw [BitVec.toNat_ofInt]; omega
  have hlt : (a % 18446744073709551616).toNat &&& b ≤ b := Nat.and_le_right
  have hw : iand .i64 a b = (((a % 18446744073709551616).toNat &&& b : Nat) : Int) := by
    unfold iand
    show IntKind.wrap .i64 ((BitVec.ofInt 64 a &&& BitVec.ofInt 64 (b : Int)).toNat : Int) = _
    rw [BitVec.toNat_and, hA, hB]
    generalize (a % 18446744073709551616).toNat &&& b = z at *
    exact IntWalk.i64_in _ ⟨by omega, by omega⟩
  rw [hw]
  omega
theorem and_pow (x k : Nat) : (x &&& 2 ^ k) ≠ 0 ↔ x / 2 ^ k % 2 = 1 := by
  have ht : x.testBit k = decide (x / 2 ^ k % 2 = 1) := Nat.testBit_eq_decide_div_mod_eq
  constructor
  · intro h
    refine Classical.byContradiction fun hn => h ?_
    apply Nat.eq_of_testBit_eq
    intro i
    rw [Nat.testBit_and, Nat.testBit_two_pow, Nat.zero_testBit]
    by_cases hi : k = i
    · subst hi; rw [ht, decide_eq_false hn]; rfl
    · simp [hi]
  · intro h e
    have := congrArg (fun y => Nat.testBit y k) e
    simp only [Nat.testBit_and, Nat.testBit_two_pow, Nat.zero_testBit, ht, h] at this
    simp at this
/-- allow's six bits. -/
def six (a : Int) : Nat := (a % 64).toNat
theorem hasB (a : Int) (k : Nat) (hk : k < 6) : hasBit a ((2 ^ k : Nat) : Int) = decide (six a / 2 ^ k % 2 = 1) := by
  unfold hasBit six
  rw [ilt_d]
  have h2 : 2 ^ k < 64 := Nat.pow_lt_pow_right (by decide) hk
  rw [Bool.eq_iff_iff, decide_eq_true_eq, decide_eq_true_eq, iandp a _ h2, and_pow]
  have e : (a % 64).toNat = (a % 18446744073709551616).toNat % 64 := by omega
  rw [e]
  generalize (a % 18446744073709551616).toNat = x
  have : k = 0 ∨ k = 1 ∨ k = 2 ∨ k = 3 ∨ k = 4 ∨ k = 5 := by omega
  rcases this with rfl | rfl | rfl | rfl | rfl | rfl <;> simp only [Nat.reducePow] <;> omega
theorem six_lt (a : Int) : six a < 64 := by unfold six; omega
/-- Has allow a bit: by division. -/
theorem bits_ok (a : Int) : Pur F0 78 [I a] [] .no (.ret (I (six a))) .no := by
  refine pur_code (cf := cfn Tryz.f78) (by kernel_rfl) ?_
  conv => arg 3; reduce
  conv => whnf
  have hz : iz (Int.ofNat 64) = false := by rw [iz_f]; decide
  repeat' (first
    | (refine vb_t rfl ?_; conv => whnf)
    | (refine vb_f rfl ?_; conv => whnf)
    | (refine vb_t (by assumption) ?_; conv => whnf)
    | (refine vb_f (by assumption) ?_; conv => whnf)
    | (refine vb_i (fun h => ?_) (fun h => ?_) <;> conv => whnf)
    | fail)
  refine ⟨congrArg CR.ret (I_eq ?_), rfl⟩
  have h := six_lt a
  have e : irem (icast .u64 a) (Int.ofNat 64) = (six a : Int) := by
    obtain ⟨x, hx⟩ : ∃ x : Nat, icast .u64 a = (x : Int) := ⟨(icast .u64 a).toNat, by unfold icast; rw [wu]; omega⟩
    have hx' := hx
    unfold icast at hx'
    rw [wu] at hx'
    rw [hx, g_ofn, u_rem]
    unfold six
    omega
  rw [e, icast64 (by omega) (by omega)]
theorem has_ok (a b : Nat) (ha : a < 64) (hb : 0 < b) : Pur F0 79 [I a, I b] [] .no (.ret (B (decide (a / b % 2 = 1)))) .no := by
  refine pur_code (cf := cfn Tryz.f79) (by kernel_rfl) ?_
  conv => arg 3; reduce
  conv => whnf
  have hz : iz (b : Int) = false := iz_u (by omega)
  have hz2 : iz (Int.ofNat 2) = false := by rw [iz_f]; decide
  repeat' (first
    | (refine vb_t rfl ?_; conv => whnf)
    | (refine vb_f rfl ?_; conv => whnf)
    | (refine vb_t (by assumption) ?_; conv => whnf)
    | (refine vb_f (by assumption) ?_; conv => whnf)
    | (refine vb_i (fun h => ?_) (fun h => ?_) <;> conv => whnf)
    | fail)
  refine ⟨congrArg CR.ret (congrArg AV.d (congrArg DV.bool ?_)), rfl⟩
  have e : irem (iquo .i64 (a : Int) (b : Int)) (Int.ofNat 2) = ((a / b % 2 : Nat) : Int) := by rw [g_quo (by omega), g_ofn, u_rem]
  rw [e, ieq_d, g_ofn]
  rw [Bool.eq_iff_iff, decide_eq_true_eq, decide_eq_true_eq]
  exact ⟨fun h => Int.ofNat.inj h, fun h => by rw [h]⟩
theorem lit0 : Int.ofNat 0 = 0 := rfl
theorem lit1 : Int.ofNat 1 = 1 := rfl
theorem lit2 : Int.ofNat 2 = 2 := rfl
theorem lit3 : Int.ofNat 3 = 3 := rfl
theorem lit4 : Int.ofNat 4 = 4 := rfl
theorem lit5 : Int.ofNat 5 = 5 := rfl
theorem lit6 : Int.ofNat 6 = 6 := rfl
theorem lit7 : Int.ofNat 7 = 7 := rfl
theorem litA : Int.ofNat 68719476736 = 68719476736 := rfl
theorem litB : Int.ofNat 1073741824 = 1073741824 := rfl
theorem litC : Int.negSucc 68719476735 = -68719476736 := rfl
theorem litD : Int.negSucc 1073741823 = -1073741824 := rfl
theorem lit63 : Int.ofNat 63 = 63 := rfl
theorem lit64 : Int.ofNat 64 = 64 := rfl
theorem litK : Int.ofNat 1000 = 1000 := rfl
theorem sub1 : isub .i64 0 68719476736 = -68719476736 := by rw [isub64] <;> decide
theorem sub2 : isub .i64 0 1073741824 = -1073741824 := by rw [isub64] <;> decide
theorem has0 (a : Int) : hasBit a 0 = false := by
  unfold hasBit
  rw [ilt_f]
  have : ¬ 0 < iand .i64 a ((0 : Nat) : Int) := by rw [iandp a 0 (by decide)]; simp
  exact Int.not_lt.1 this
theorem rgood_ok (k n a : Int) : Pur F0 52 [.agg [I k, I n], I a] [] .no (.ret (B (goodL k n a))) .no := by
  refine pur_code (cf := cfn Tryz.f52) (by kernel_rfl) ?_
  conv => arg 3; reduce
  conv => whnf
  have h := six_lt a
  have b1 : hasBit a 1 = decide (six a / 1 % 2 = 1) := hasB a 0 (by decide)
  have b2 : hasBit a 2 = decide (six a / 2 % 2 = 1) := hasB a 1 (by decide)
  have b4 : hasBit a 4 = decide (six a / 4 % 2 = 1) := hasB a 2 (by decide)
  have b8 : hasBit a 8 = decide (six a / 8 % 2 = 1) := hasB a 3 (by decide)
  have b16 : hasBit a 16 = decide (six a / 16 % 2 = 1) := hasB a 4 (by decide)
  have b32 : hasBit a 32 = decide (six a / 32 % 2 = 1) := hasB a 5 (by decide)
  have c1 : Pur F0 79 [I (six a), I 1] [] .no (.ret (B (hasBit a 1))) .no := by rw [b1]; exact has_ok (six a) 1 h (by decide)
  have c2 : Pur F0 79 [I (six a), I 2] [] .no (.ret (B (hasBit a 2))) .no := by rw [b2]; exact has_ok (six a) 2 h (by decide)
  have c4 : Pur F0 79 [I (six a), I 4] [] .no (.ret (B (hasBit a 4))) .no := by rw [b4]; exact has_ok (six a) 4 h (by decide)
  have c8 : Pur F0 79 [I (six a), I 8] [] .no (.ret (B (hasBit a 8))) .no := by rw [b8]; exact has_ok (six a) 8 h (by decide)
  have c16 : Pur F0 79 [I (six a), I 16] [] .no (.ret (B (hasBit a 16))) .no := by rw [b16]; exact has_ok (six a) 16 h (by decide)
  have c32 : Pur F0 79 [I (six a), I 32] [] .no (.ret (B (hasBit a 32))) .no := by rw [b32]; exact has_ok (six a) 32 h (by decide)
  have bo := bits_ok a
  clear b1 b2 b4 b8 b16 b32
  generalize six a = m at *
  repeat' (first
    | (refine vb_t rfl ?_; conv => whnf)
    | (refine vb_f rfl ?_; conv => whnf)
    | (refine vb_t (by assumption) ?_; conv => whnf)
    | (refine vb_f (by assumption) ?_; conv => whnf)
    | (refine vpur_i bo ?_; conv => whnf)
    | (refine vpur_i c1 ?_; conv => whnf)
    | (refine vpur_i c2 ?_; conv => whnf)
    | (refine vpur_i c4 ?_; conv => whnf)
    | (refine vpur_i c8 ?_; conv => whnf)
    | (refine vpur_i c16 ?_; conv => whnf)
    | (refine vpur_i c32 ?_; conv => whnf)
    | (refine vb_i (fun h => ?_) (fun h => ?_) <;> conv => whnf)
    | fail)
  all_goals clear bo c1 c2 c4 c8 c16 c32
  all_goals refine ⟨congrArg CR.ret (congrArg AV.d (congrArg DV.bool ?_)), rfl⟩
  all_goals simp only [ieq_t, ieq_f, ile_t, ile_f, ile_d, ieq_d, ilt_d, lit2, lit3, lit1, lit4, lit5, lit6, lit7, litA, litB, lit0, litC, litD] at *
  all_goals have h0 := has0 a
  all_goals try subst k
  all_goals simp only [goodL, within, keyBit, ile_d, sub1, sub2]
  all_goals (simp_all <;> first | omega | ((repeat' split) <;> (try simp_all) <;> omega))
end Go.Proofs.YtjjolfgpphjhkaaGreatDoor.Ab
