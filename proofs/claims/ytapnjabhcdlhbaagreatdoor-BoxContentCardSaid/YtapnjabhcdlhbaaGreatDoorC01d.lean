/- Layer 1 (fixed): a part of a length: the program. -/
import Derived.Test.YtapnjabhcdlhbaaGreatDoorC01c
namespace Go.Proofs.YtapnjabhcdlhbaaGreatDoor.Ab
open Go
set_option linter.unusedSimpArgs false
set_option maxRecDepth 100000
set_option linter.unusedVariables false
set_option maxHeartbeats 4000000

theorem wi {x : Int} : IntKind.wrap .i64 x = if x % 18446744073709551616 ≥ 9223372036854775808 then x % 18446744073709551616 - 18446744073709551616 else x % 18446744073709551616 := by
  show (if (true && decide (x % 18446744073709551616 ≥ 9223372036854775808)) = true then x % 18446744073709551616 - 18446744073709551616 else x % 18446744073709551616) = _
  by_cases h : x % 18446744073709551616 ≥ 9223372036854775808 <;> simp [h]
theorem neg_cast (n : Nat) (h : n ≤ 4611686018427387904) : icast .i64 (isub .u64 0 (n : Int)) = -(n : Int) := by
  unfold icast isub
  rw [wu, wi]
  split <;> omega
theorem pos_cast (n : Nat) (h : n ≤ 4611686018427387904) : icast .i64 (n : Int) = (n : Int) := by
  unfold icast
  rw [wi]
  split <;> omega
theorem mul_sign (a b : Int) : a * b = if decide (a < 0) = decide (b < 0) then ((a.natAbs * b.natAbs : Nat) : Int) else -((a.natAbs * b.natAbs : Nat) : Int) := by
  rw [Int.natCast_mul]
  have ha : a = (a.natAbs : Int) ∧ ¬ a < 0 ∨ a = -(a.natAbs : Int) ∧ a < 0 := by omega
  have hb : b = (b.natAbs : Int) ∧ ¬ b < 0 ∨ b = -(b.natAbs : Int) ∧ b < 0 := by omega
  generalize (a.natAbs : Int) = A at *
  generalize (b.natAbs : Int) = B at *
  rcases ha with ⟨ea, ha⟩ | ⟨ea, ha⟩ <;> rcases hb with ⟨eb, hb⟩ | ⟨eb, hb⟩
  · rw [decide_eq_false ha, decide_eq_false hb, if_pos rfl, ea, eb]
  · rw [decide_eq_false ha, decide_eq_true hb, if_neg (by decide), ea, eb, Int.mul_neg]
  · rw [decide_eq_true ha, decide_eq_false hb, if_neg (by decide), ea, eb, Int.neg_mul]
  · rw [decide_eq_true ha, decide_eq_true hb, if_pos rfl, ea, eb, Int.neg_mul_neg]
theorem below_d (a b : Int) : (!(!ilt a (Int.ofNat 0) == ilt b (Int.ofNat 0)) == ilt 100000 (Int.ofNat 0)) = !(decide (decide (a < 0) = decide (b < 0))) := by
  have t3 : ilt 100000 (Int.ofNat 0) = false := by rw [ilt_f]; decide
  rw [t3, ilt_d, ilt_d]
  show (!(!decide (a < 0) == decide (b < 0)) == false) = _
  cases decide (a < 0) <;> cases decide (b < 0) <;> rfl
theorem mulDiv_ok (a b : Int) (h1 : -68719476736 ≤ a) (h2 : a ≤ 68719476736) (h3 : -1073741824 ≤ b) (h4 : b ≤ 1073741824) :
    Pur F0 138 [I a, I b, I 100000] [] .no (.ret (.tup [I (a * b / 100000), I 0])) .no := by
  refine pur_code (cf := cfn Tryz.f138) (by kernel_rfl) ?_
  conv => arg 3; reduce
  conv => whnf
  have s1 := size_ok a (by omega) (by omega)
  have s2 := size_ok b (by omega) (by omega)
  have s3 := size_ok 100000 (by omega) (by omega)
  have m := mul64_ok a.natAbs b.natAbs (by omega) (by omega)
  have hx : a.natAbs * b.natAbs ≤ 68719476736 * 1073741824 := Nat.mul_le_mul (by omega) (by omega)
  obtain ⟨x, hxe⟩ : ∃ x : Nat, a.natAbs * b.natAbs = x := ⟨_, rfl⟩
  rw [hxe] at m hx
  have d := div64_ok (x / 18446744073709551616) (x % 18446744073709551616) (by omega) (by omega)
  have hN : x / 18446744073709551616 * 18446744073709551616 + x % 18446744073709551616 = x := by omega
  rw [hN] at d
  have t1 : ieq 100000 (Int.ofNat 0) = false := by rw [ieq_f]; decide
  have t2 : ile (((100000 : Int).natAbs : Nat) : Int) ((x / 18446744073709551616 : Nat) : Int) = false := by rw [ile_f]; show ((x / 18446744073709551616 : Nat) : Int) < ((100000 : Nat) : Int); omega
  have t4 : ile (Int.ofNat 9223372036854775808) ((x / 100000 : Nat) : Int) = false := by rw [ile_f]; simp only [Int.ofNat_eq_natCast]; omega
  have t5 : ile ((x / 100000 : Nat) : Int) (Int.ofNat 9223372036854775808) = true := by rw [ile_t]; simp only [Int.ofNat_eq_natCast]; omega
  have hm := mul_sign a b
  have hbe := below_d a b
  rw [hxe] at hm
  have hq : x / 100000 ≤ 1000000000000000 := by omega
  by_cases hs : decide (a < 0) = decide (b < 0)
  · rw [if_pos hs] at hm
    rw [decide_eq_true hs] at hbe
    repeat' (first
      | (refine vb_t rfl ?_; conv => whnf)
      | (refine vb_f rfl ?_; conv => whnf)
      | (refine vb_t (by assumption) ?_; conv => whnf)
      | (refine vb_f (by assumption) ?_; conv => whnf)
      | (refine vb_f hbe ?_; conv => whnf)
      | (refine vpur_i s1 ?_; conv => whnf)
      | (refine vpur_i s2 ?_; conv => whnf)
      | (refine vpur_i s3 ?_; conv => whnf)
      | (refine vpur_i m ?_; conv => whnf)
      | (refine vpur_i d ?_; conv => whnf)
      | (refine vb_i (fun h => ?_) (fun h => ?_) <;> conv => whnf)
      | fail)
    refine ⟨congrArg CR.ret (congrArg AV.tup (cons_eq (I_eq ?_) rfl)), rfl⟩
    rw [hm, pos_cast _ (by omega)]; omega
  · rw [if_neg hs] at hm
    rw [decide_eq_false hs] at hbe
    repeat' (first
      | (refine vb_t rfl ?_; conv => whnf)
      | (refine vb_f rfl ?_; conv => whnf)
      | (refine vb_t (by assumption) ?_; conv => whnf)
      | (refine vb_f (by assumption) ?_; conv => whnf)
      | (refine vb_t hbe ?_; conv => whnf)
      | (refine vpur_i s1 ?_; conv => whnf)
      | (refine vpur_i s2 ?_; conv => whnf)
      | (refine vpur_i s3 ?_; conv => whnf)
      | (refine vpur_i m ?_; conv => whnf)
      | (refine vpur_i d ?_; conv => whnf)
      | (refine vb_i (fun h => ?_) (fun h => ?_) <;> conv => whnf)
      | fail)
    · refine ⟨congrArg CR.ret (congrArg AV.tup (cons_eq (I_eq ?_) rfl)), rfl⟩
      rw [ilt_t] at h
      simp only [Int.ofNat_eq_natCast] at h
      have e1 : (x / 100000 + 1) % 18446744073709551616 = x / 100000 + 1 := by omega
      rw [show Int.ofNat 1 = ((1 : Nat) : Int) from rfl, u_add, e1, hm, neg_cast _ (by omega)]; omega
    · refine ⟨congrArg CR.ret (congrArg AV.tup (cons_eq (I_eq ?_) rfl)), rfl⟩
      rw [ilt_f] at h
      simp only [Int.ofNat_eq_natCast] at h
      rw [hm, neg_cast _ (by omega)]; omega
/-- A part of a length, in thousandths of a hundredth. -/
def pct (m b : Int) : Int × Int := if isPx b = true ∧ -1073741824 ≤ m ∧ m ≤ 1073741824 then (if isPx (b * m / 100000) = true then (b * m / 100000, 0) else (0, 10)) else (0, 2)
theorem percent_ok (m b : Int) : Pur F0 94 [I m, I b] [] .no (.ret (.tup [I (pct m b).1, I (pct m b).2])) .no := by
  refine pur_code (cf := cfn Tryz.f94) (by kernel_rfl) ?_
  conv => arg 3; reduce
  conv => whnf
  by_cases hc : isPx b = true ∧ -1073741824 ≤ m ∧ m ≤ 1073741824
  · have hp : pct m b = if isPx (b * m / 100000) = true then (b * m / 100000, 0) else (0, 10) := if_pos hc
    obtain ⟨h1, h2, h3⟩ := hc
    have hb : -68719476736 ≤ b ∧ b ≤ 68719476736 := by simpa [isPx] using h1
    have d := mulDiv_ok b m hb.1 hb.2 h2 h3
    have t1 : (!isPx b) = false := by rw [h1]; rfl
    have t2 : ilt m (Int.negSucc 1073741823) = false := by rw [ilt_f]; omega
    have t3 : ilt (Int.ofNat 1073741824) m = false := by rw [ilt_f]; simp only [Int.ofNat_eq_natCast]; omega
    have t4 : (!ieq 0 (Int.ofNat 0)) = false := by rw [ieq_d]; rfl
    by_cases h4 : isPx (b * m / 100000) = true
    · have t5 : (!isPx (b * m / 100000)) = false := by rw [h4]; rfl
      rw [if_pos h4] at hp
      repeat' (first
        | (refine vb_t rfl ?_; conv => whnf)
        | (refine vb_f rfl ?_; conv => whnf)
        | (refine vb_t (by assumption) ?_; conv => whnf)
        | (refine vb_f (by assumption) ?_; conv => whnf)
        | (refine vpur_i (fixedIs_ok _) ?_; conv => whnf)
        | (refine vpur_i d ?_; conv => whnf)
        | fail)
      rw [hp]; exact ⟨rfl, rfl⟩
    · have t5 : (!isPx (b * m / 100000)) = true := by simpa using h4
      rw [if_neg h4] at hp
      repeat' (first
        | (refine vb_t rfl ?_; conv => whnf)
        | (refine vb_f rfl ?_; conv => whnf)
        | (refine vb_t (by assumption) ?_; conv => whnf)
        | (refine vb_f (by assumption) ?_; conv => whnf)
        | (refine vpur_i (fixedIs_ok _) ?_; conv => whnf)
        | (refine vpur_i d ?_; conv => whnf)
        | fail)
      rw [hp]; exact ⟨rfl, rfl⟩
  · have hp : pct m b = (0, 2) := if_neg hc
    repeat' (first
      | (refine vb_t rfl ?_; conv => whnf)
      | (refine vb_f rfl ?_; conv => whnf)
      | (refine vb_t (by assumption) ?_; conv => whnf)
      | (refine vb_f (by assumption) ?_; conv => whnf)
      | (refine vpur_i (fixedIs_ok _) ?_; conv => whnf)
      | (refine vb_i (fun h => ?_) (fun h => ?_) <;> conv => whnf)
      | fail)
    all_goals first
      | (rw [hp]; exact ⟨rfl, rfl⟩)
      | (exfalso
         simp only [ilt_f, Int.ofNat_eq_natCast, Bool.not_eq_false'] at *
         apply hc
         refine ⟨by assumption, by omega, by omega⟩)
end Go.Proofs.YtapnjabhcdlhbaaGreatDoor.Ab
