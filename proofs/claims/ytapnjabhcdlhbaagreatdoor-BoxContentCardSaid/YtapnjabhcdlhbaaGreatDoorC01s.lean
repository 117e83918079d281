/- Layer 1 (fixed): a part of a length: the document's answer is the program's. -/
import Derived.Test.YtapnjabhcdlhbaaGreatDoorC01q
import Derived.Test.YtapnjabhcdlhbaaGreatDoorC00k
namespace Go.Proofs.YtapnjabhcdlhbaaGreatDoor.Ab
open Go
set_option linter.unusedSimpArgs false
set_option maxRecDepth 100000
set_option linter.unusedVariables false
set_option maxHeartbeats 4000000

theorem rmulDiv_ok (a b : Int) (h1 : -68719476736 ≤ a) (h2 : a ≤ 68719476736) (h3 : -1073741824 ≤ b) (h4 : b ≤ 1073741824) :
    Pur F0 140 [I a, I b, I 100000] [] .no (.ret (.tup [I (a * b / 100000), I 0])) .no := by
  refine pur_code code140_ok ?_
  conv => whnf
  have s1 := rsize_ok a (by omega) (by omega)
  have s2 := rsize_ok b (by omega) (by omega)
  have s3 := rsize_ok 100000 (by omega) (by omega)
  have m := product_ok a.natAbs b.natAbs (by omega) (by omega)
  have hx : a.natAbs * b.natAbs ≤ 68719476736 * 1073741824 := Nat.mul_le_mul (by omega) (by omega)
  obtain ⟨x, hxe⟩ : ∃ x : Nat, a.natAbs * b.natAbs = x := ⟨_, rfl⟩
  rw [hxe] at m hx
  have d := quotient_ok x (by omega)
  have t1 : ieq 100000 (Int.ofNat 0) = false := by rw [ieq_f]; decide
  have hm := mul_sign a b
  rw [hxe] at hm
  have hbe := below_d a b
  have hq : x / 100000 ≤ 1000000000000000 := by omega
  have qh : x / 100000 / 18446744073709551616 = 0 := by omega
  have ql : x / 100000 % 18446744073709551616 = x / 100000 := by omega
  have z1 : ilt (Int.ofNat 0) ((x / 100000 / 18446744073709551616 : Nat) : Int) = false := by rw [qh, ilt_f]; decide
  have z2 : ilt (Int.ofNat 9223372036854775807) ((x / 100000 % 18446744073709551616 : Nat) : Int) = false := by rw [ql, ilt_f]; simp only [Int.ofNat_eq_natCast]; omega
  have qh1 : (x / 100000 + 1) / 18446744073709551616 = 0 := by omega
  have ql1 : (x / 100000 + 1) % 18446744073709551616 = x / 100000 + 1 := by omega
  have z3 : ilt (Int.ofNat 0) (((x / 100000 + 1) / 18446744073709551616 : Nat) : Int) = false := by rw [qh1, ilt_f]; decide
  have z4 : ilt (Int.ofNat 9223372036854775807) (((x / 100000 + 1) % 18446744073709551616 : Nat) : Int) = false := by rw [ql1, ilt_f]; simp only [Int.ofNat_eq_natCast]; omega
  have pl := plus_ok (x / 100000) 1 (by omega) (by decide)
  by_cases hs : decide (a < 0) = decide (b < 0)
  · rw [if_pos hs] at hm
    rw [decide_eq_true hs] at hbe
    repeat' (first
      | (refine vb_t rfl ?_; conv => whnf)
      | (refine vb_f rfl ?_; conv => whnf)
      | (refine vb_t (by assumption) ?_; conv => whnf)
      | (refine vb_f (by assumption) ?_; conv => whnf)
      | (refine vpur_i s1 ?_; conv => whnf)
      | (refine vpur_i s2 ?_; conv => whnf)
      | (refine vpur_i s3 ?_; conv => whnf)
      | (refine vpur_i m ?_; conv => whnf)
      | (refine vpur_i d ?_; conv => whnf)
      | fail)
    refine ⟨congrArg CR.ret (congrArg AV.tup (cons_eq (I_eq ?_) rfl)), rfl⟩
    rw [hm, ql, pos_cast _ (by omega)]; omega
  · rw [if_neg hs] at hm
    rw [decide_eq_false hs] at hbe
    have fin0 : x % 100000 = 0 → icast .i64 (isub .u64 (Int.ofNat 0) ((x / 100000 % 18446744073709551616 : Nat) : Int)) = a * b / 100000 := by
      intro h
      have e : isub .u64 (Int.ofNat 0) ((x / 100000 % 18446744073709551616 : Nat) : Int) = isub .u64 0 ((x / 100000 % 18446744073709551616 : Nat) : Int) := rfl
      rw [e, hm, ql, neg_cast _ (by omega)]; omega
    have fin1 : x % 100000 ≠ 0 → icast .i64 (isub .u64 (Int.ofNat 0) (((x / 100000 + 1) % 18446744073709551616 : Nat) : Int)) = a * b / 100000 := by
      intro h
      have e : isub .u64 (Int.ofNat 0) (((x / 100000 + 1) % 18446744073709551616 : Nat) : Int) = isub .u64 0 (((x / 100000 + 1) % 18446744073709551616 : Nat) : Int) := rfl
      rw [e, hm, ql1, neg_cast _ (by omega)]; omega
    by_cases hl : x % 100000 = 0
    · have w1 : ilt (Int.ofNat 0) ((x % 100000 : Nat) : Int) = false := by rw [hl, ilt_f]; decide
      by_cases hz : x / 100000 = 0
      · have w2 : (!(ieq ((x / 100000 / 18446744073709551616 : Nat) : Int) (Int.ofNat 0) && ieq ((x / 100000 % 18446744073709551616 : Nat) : Int) (Int.ofNat 0))) = false := by rw [qh, ql, hz]; simp [ieq_d]
        repeat' (first
          | (refine vb_t rfl ?_; conv => whnf)
          | (refine vb_f rfl ?_; conv => whnf)
          | (refine vb_t (by assumption) ?_; conv => whnf)
          | (refine vb_f (by assumption) ?_; conv => whnf)
          | (refine vpur_i s1 ?_; conv => whnf)
          | (refine vpur_i s2 ?_; conv => whnf)
          | (refine vpur_i s3 ?_; conv => whnf)
          | (refine vpur_i m ?_; conv => whnf)
          | (refine vpur_i d ?_; conv => whnf)
          | (refine vpur_i pl ?_; conv => whnf)
          | fail)
        refine ⟨congrArg CR.ret (congrArg AV.tup (cons_eq (I_eq ?_) rfl)), rfl⟩
        rw [hm, ql, pos_cast _ (by omega)]; omega
      · have w2 : (!(ieq ((x / 100000 / 18446744073709551616 : Nat) : Int) (Int.ofNat 0) && ieq ((x / 100000 % 18446744073709551616 : Nat) : Int) (Int.ofNat 0))) = true := by rw [qh, ql]; simp [ieq_d]; omega
        repeat' (first
          | (refine vb_t rfl ?_; conv => whnf)
          | (refine vb_f rfl ?_; conv => whnf)
          | (refine vb_t (by assumption) ?_; conv => whnf)
          | (refine vb_f (by assumption) ?_; conv => whnf)
          | (refine vpur_i s1 ?_; conv => whnf)
          | (refine vpur_i s2 ?_; conv => whnf)
          | (refine vpur_i s3 ?_; conv => whnf)
          | (refine vpur_i m ?_; conv => whnf)
          | (refine vpur_i d ?_; conv => whnf)
          | (refine vpur_i pl ?_; conv => whnf)
          | fail)
        refine ⟨congrArg CR.ret (congrArg AV.tup (cons_eq (I_eq ?_) rfl)), rfl⟩
        exact fin0 hl
    · have w1 : ilt (Int.ofNat 0) ((x % 100000 : Nat) : Int) = true := by rw [ilt_t]; simp only [Int.ofNat_eq_natCast]; omega
      by_cases hz : x / 100000 = 0
      · have w2 : (!(ieq ((x / 100000 / 18446744073709551616 : Nat) : Int) (Int.ofNat 0) && ieq ((x / 100000 % 18446744073709551616 : Nat) : Int) (Int.ofNat 0))) = false := by rw [qh, ql, hz]; simp [ieq_d]
        repeat' (first
          | (refine vb_t rfl ?_; conv => whnf)
          | (refine vb_f rfl ?_; conv => whnf)
          | (refine vb_t (by assumption) ?_; conv => whnf)
          | (refine vb_f (by assumption) ?_; conv => whnf)
          | (refine vpur_i s1 ?_; conv => whnf)
          | (refine vpur_i s2 ?_; conv => whnf)
          | (refine vpur_i s3 ?_; conv => whnf)
          | (refine vpur_i m ?_; conv => whnf)
          | (refine vpur_i d ?_; conv => whnf)
          | (refine vpur_i pl ?_; conv => whnf)
          | fail)
        refine ⟨congrArg CR.ret (congrArg AV.tup (cons_eq (I_eq ?_) rfl)), rfl⟩
        exact fin1 hl
      · have w2 : (!(ieq ((x / 100000 / 18446744073709551616 : Nat) : Int) (Int.ofNat 0) && ieq ((x / 100000 % 18446744073709551616 : Nat) : Int) (Int.ofNat 0))) = true := by rw [qh, ql]; simp [ieq_d]; omega
        repeat' (first
          | (refine vb_t rfl ?_; conv => whnf)
          | (refine vb_f rfl ?_; conv => whnf)
          | (refine vb_t (by assumption) ?_; conv => whnf)
          | (refine vb_f (by assumption) ?_; conv => whnf)
          | (refine vpur_i s1 ?_; conv => whnf)
          | (refine vpur_i s2 ?_; conv => whnf)
          | (refine vpur_i s3 ?_; conv => whnf)
          | (refine vpur_i m ?_; conv => whnf)
          | (refine vpur_i d ?_; conv => whnf)
          | (refine vpur_i pl ?_; conv => whnf)
          | fail)
        refine ⟨congrArg CR.ret (congrArg AV.tup (cons_eq (I_eq ?_) rfl)), rfl⟩
        exact fin1 hl
theorem rpercent_ok (m b : Int) : Pur F0 95 [I m, I b] [] .no (.ret (.tup [I (pct m b).1, I (pct m b).2])) .no := by
  refine pur_code (cf := cfn Tryz.f95) (by kernel_rfl) ?_
  conv => arg 3; reduce
  conv => whnf
  by_cases hc : isPx b = true ∧ -1073741824 ≤ m ∧ m ≤ 1073741824
  · have hp : pct m b = if isPx (b * m / 100000) = true then (b * m / 100000, 0) else (0, 10) := if_pos hc
    obtain ⟨h1, h2, h3⟩ := hc
    have hb : -68719476736 ≤ b ∧ b ≤ 68719476736 := by simpa [isPx] using h1
    have d := rmulDiv_ok b m hb.1 hb.2 h2 h3
    have t1 : (!isPx b) = false := by rw [h1]; rfl
    have t2 : ilt m (Int.negSucc 1073741823) = false := by rw [ilt_f]; omega
    have t3 : ilt (Int.ofNat 1073741824) m = false := by rw [ilt_f]; simp only [Int.ofNat_eq_natCast]; omega
    have t4 : (!ieq 0 (Int.ofNat 0)) = false := by rw [ieq_d]; rfl
    by_cases h4 : isPx (b * m / 100000) = true
    · have t5 : (!isPx (b * m / 100000)) = false := by rw [h4]; rfl
      rw [if_pos h4] at hp
      repeat' (first
        | (refine vb_t rfl ?_; conv => whnf)
        | (refine vb_f rfl ?_; conv => whnf)
        | (refine vb_t (by assumption) ?_; conv => whnf)
        | (refine vb_f (by assumption) ?_; conv => whnf)
        | (refine vpur_i (refIs_ok _) ?_; conv => whnf)
        | (refine vpur_i d ?_; conv => whnf)
        | fail)
      rw [hp]; exact ⟨rfl, rfl⟩
    · have t5 : (!isPx (b * m / 100000)) = true := by simpa using h4
      rw [if_neg h4] at hp
      repeat' (first
        | (refine vb_t rfl ?_; conv => whnf)
        | (refine vb_f rfl ?_; conv => whnf)
        | (refine vb_t (by assumption) ?_; conv => whnf)
        | (refine vb_f (by assumption) ?_; conv => whnf)
        | (refine vpur_i (refIs_ok _) ?_; conv => whnf)
        | (refine vpur_i d ?_; conv => whnf)
        | fail)
      rw [hp]; exact ⟨rfl, rfl⟩
  · have hp : pct m b = (0, 2) := if_neg hc
    repeat' (first
      | (refine vb_t rfl ?_; conv => whnf)
      | (refine vb_f rfl ?_; conv => whnf)
      | (refine vb_t (by assumption) ?_; conv => whnf)
      | (refine vb_f (by assumption) ?_; conv => whnf)
      | (refine vpur_i (refIs_ok _) ?_; conv => whnf)
      | (refine vb_i (fun h => ?_) (fun h => ?_) <;> conv => whnf)
      | fail)
    all_goals first
      | (rw [hp]; exact ⟨rfl, rfl⟩)
      | (exfalso
         simp only [ilt_f, Int.ofNat_eq_natCast, Bool.not_eq_false'] at *
         apply hc
         refine ⟨by assumption, by omega, by omega⟩)
end Go.Proofs.YtapnjabhcdlhbaaGreatDoor.Ab
