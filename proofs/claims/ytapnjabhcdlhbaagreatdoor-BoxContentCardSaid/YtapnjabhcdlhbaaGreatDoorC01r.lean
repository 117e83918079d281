/- Layer 1 (fixed): a part of a length: the document's answer. -/
import Derived.Test.YtapnjabhcdlhbaaGreatDoorC01d
namespace Go.Proofs.YtapnjabhcdlhbaaGreatDoor.Ab
open Go
set_option linter.unusedSimpArgs false
set_option maxRecDepth 100000
set_option linter.unusedVariables false
set_option maxHeartbeats 4000000

theorem refIs_ok (n : Int) : Pur F0 139 [I n] [] .no (.ret (B (isPx n))) .no := by
  refine pur_code (cf := cfn Tryz.f139) (by kernel_rfl) ?_
  conv => arg 3; reduce
  conv => whnf
  repeat' (first
    | (refine vb_t rfl ?_; conv => whnf)
    | (refine vb_f rfl ?_; conv => whnf)
    | (refine vb_t (by assumption) ?_; conv => whnf)
    | (refine vb_f (by assumption) ?_; conv => whnf)
    | (refine vb_i (fun h => ?_) (fun h => ?_) <;> conv => whnf)
    | fail)
  all_goals (refine ⟨?_, rfl⟩)
  all_goals (simp_all [isPx, ile_d] <;> omega)
theorem rsize_ok (n : Int) (h1 : -1000000000000 ≤ n) (h2 : n ≤ 1000000000000) : Pur F0 188 [I n] [] .no (.ret (U n.natAbs)) .no := by
  refine pur_code (cf := cfn Tryz.f188) (by kernel_rfl) ?_
  conv => arg 3; reduce
  conv => whnf
  repeat' (first
    | (refine vb_t rfl ?_; conv => whnf)
    | (refine vb_f rfl ?_; conv => whnf)
    | (refine vb_t (by assumption) ?_; conv => whnf)
    | (refine vb_f (by assumption) ?_; conv => whnf)
    | (refine vb_i (fun h => ?_) (fun h => ?_) <;> conv => whnf)
    | fail)
  all_goals (refine ⟨congrArg CR.ret (U_eq ?_), rfl⟩)
  · have e : isub .u64 (Int.ofNat 0) (icast .u64 n) = isub .u64 0 (icast .u64 n) := rfl
    rw [e, u_neg h1 h2]; rw [ilt_t] at *; simp only [Int.ofNat_eq_natCast] at *; omega
  · rw [ilt_f] at *; simp only [Int.ofNat_eq_natCast] at *; rw [u_cast h1 h2 (by omega)]; omega
/-- A number of 128 bits. -/
def wideA (w : Nat) : AV := .agg [U (w / 18446744073709551616 : Nat), U (w % 18446744073709551616 : Nat)]
abbrev wideL (w : Nat) : List AV := [U (w / 18446744073709551616 : Nat), U (w % 18446744073709551616 : Nat)]
theorem agg2_eq {a b c d : Int} (h : a = c) (k : b = d) : AV.agg [U a, U b] = .agg [U c, U d] := by rw [h, k]
theorem fix2_eq {a b c d : Int} {o : Own} {t : Nat} (h : a = c) (k : b = d) : (⟨o, t, .fix [U a, U b]⟩ : Obj) = ⟨o, t, .fix [U c, U d]⟩ := by rw [h, k]
theorem n_ofn (n : Nat) : Int.ofNat n = ((n : Nat) : Int) := rfl
theorem tw_hi (w one : Nat) (hw : 2 * w + one < 340282366920938463463374607431768211456) (h1 : one ≤ 1) :
    iadd .u64 (imul .u64 (Int.ofNat 2) ((w / 18446744073709551616 : Nat) : Int)) (iquo .u64 ((w % 18446744073709551616 : Nat) : Int) (Int.ofNat 9223372036854775808)) = (((2 * w + one) / 18446744073709551616 : Nat) : Int) := by
  rw [n_ofn, n_ofn, u_mul, u_quo (by omega), u_add]
  have : (2 * (w / 18446744073709551616) % 18446744073709551616 + w % 18446744073709551616 / 9223372036854775808) % 18446744073709551616 = (2 * w + one) / 18446744073709551616 := by omega
  rw [this]
theorem tw_lo (w one : Nat) (h1 : one ≤ 1) :
    iadd .u64 (imul .u64 (Int.ofNat 2) ((w % 18446744073709551616 : Nat) : Int)) (one : Int) = (((2 * w + one) % 18446744073709551616 : Nat) : Int) := by
  rw [n_ofn, u_mul, u_add]
  have : (2 * (w % 18446744073709551616) % 18446744073709551616 + one) % 18446744073709551616 = (2 * w + one) % 18446744073709551616 := by omega
  rw [this]
theorem twice_ok (w one : Nat) (hw : 2 * w + one < 340282366920938463463374607431768211456) (h1 : one ≤ 1) : Pur F0 218 [wideA w, U one] [] .no (.ret (wideA (2 * w + one))) .no := by
  refine pur_code (cf := cfn Tryz.f218) (by kernel_rfl) ?_
  conv => arg 3; reduce
  conv => whnf
  have t : iz (Int.ofNat 9223372036854775808) = false := by rw [iz_f]; decide
  repeat' (first
    | (refine vb_t rfl ?_; conv => whnf)
    | (refine vb_f rfl ?_; conv => whnf)
    | (refine vb_t (by assumption) ?_; conv => whnf)
    | (refine vb_f (by assumption) ?_; conv => whnf)
    | (refine vb_i (fun h => ?_) (fun h => ?_) <;> conv => whnf)
    | fail)
  exact ⟨congrArg CR.ret (agg2_eq (tw_hi w one hw h1) (tw_lo w one h1)), rfl⟩
theorem pl_lo (w n : Nat) : iadd .u64 ((w % 18446744073709551616 : Nat) : Int) (n : Int) = (((w + n) % 18446744073709551616 : Nat) : Int) := by
  rw [u_add]
  have : (w % 18446744073709551616 + n) % 18446744073709551616 = (w + n) % 18446744073709551616 := by omega
  rw [this]
theorem plus_ok (w n : Nat) (hw : w + n < 340282366920938463463374607431768211456) (h1 : n < 18446744073709551616) : Pur F0 189 [wideA w, U n] [] .no (.ret (wideA (w + n))) .no := by
  refine pur_code (cf := cfn Tryz.f189) (by kernel_rfl) ?_
  conv => arg 3; reduce
  conv => whnf
  repeat' (first
    | (refine vb_t rfl ?_; conv => whnf)
    | (refine vb_f rfl ?_; conv => whnf)
    | (refine vb_t (by assumption) ?_; conv => whnf)
    | (refine vb_f (by assumption) ?_; conv => whnf)
    | (refine vb_i (fun h => ?_) (fun h => ?_) <;> conv => whnf)
    | fail)
  · refine ⟨congrArg CR.ret (agg2_eq ?_ (pl_lo w n)), rfl⟩
    rw [pl_lo, ilt_t] at h
    rw [n_ofn, u_add]
    have : (w / 18446744073709551616 + 1) % 18446744073709551616 = (w + n) / 18446744073709551616 := by omega
    rw [this]
  · refine ⟨congrArg CR.ret (agg2_eq ?_ (pl_lo w n)), rfl⟩
    rw [pl_lo, ilt_f] at h
    have : w / 18446744073709551616 = (w + n) / 18446744073709551616 := by omega
    rw [this]
theorem top_bit (b : Nat) (i : Nat) (hi : i < 64) : 9223372036854775808 / 2 ^ i = 2 ^ (63 - i) ∧ b / 2 ^ (64 - (i + 1)) = 2 * (b / 2 ^ (64 - i)) + b / 2 ^ (63 - i) % 2 := by
  constructor
  · rw [show 9223372036854775808 = 2 ^ 63 from rfl, Nat.pow_div (by omega) (by decide)]
  · have e1 : 64 - (i + 1) = 63 - i := by omega
    have e2 : b / 2 ^ (64 - i) = b / 2 ^ (63 - i) / 2 := by
      rw [Nat.div_div_eq_div_mul, show 64 - i = (63 - i) + 1 by omega, Nat.pow_succ]
    rw [e1, e2]
    omega
theorem prod_lt (a b i : Nat) (ha : a < 18446744073709551616) (hb : b < 18446744073709551616) : a * (b / 2 ^ i) ≤ 18446744073709551615 * 18446744073709551615 := by
  have := Nat.div_le_self b (2 ^ i)
  exact Nat.mul_le_mul (by omega) (by omega)
theorem half_pow (i : Nat) : 9223372036854775808 / 2 ^ i / 2 = 9223372036854775808 / 2 ^ (i + 1) := by rw [Nat.div_div_eq_div_mul, Nat.pow_succ]
theorem pow_le63 (i : Nat) : 9223372036854775808 / 2 ^ i ≤ 9223372036854775808 := Nat.div_le_self _ _
theorem product_ok (a b : Nat) (ha : a < 18446744073709551616) (hb : b < 18446744073709551616) : Pur F0 187 [U a, U b] [] .no (.ret (wideA (a * b))) .no := by
  refine pur_code (cf := cfn Tryz.f187) (by kernel_rfl) ?_
  conv => arg 3; reduce
  conv => whnf
  refine vloop_eq2 (fr' := [(0, U a), (1, U b), (4, .ptr 0 0), (5, .ptr 1 0), (6, U (9223372036854775808 / 2 ^ 0 : Nat)), (7, I (0 : Nat))])
    (h' := [⟨.mine, 210, .fix [U (Int.ofNat 0), U (Int.ofNat 0)]⟩, ⟨.mine, 210, .fix (wideL (a * (b / 2 ^ (64 - 0))))⟩]) rfl ?_ ?_
  · have : a * (b / 2 ^ (64 - 0)) = 0 := by rw [Nat.div_eq_of_lt (by simpa using hb), Nat.mul_zero]
    rw [this]
    rfl
  refine vloop_by (σ := { i : Nat // i ≤ 64 }) (fun i => [(0, U a), (1, U b), (4, .ptr 0 0), (5, .ptr 1 0), (6, U (9223372036854775808 / 2 ^ i.1 : Nat)), (7, I i.1)])
    (fun i => [⟨.mine, 210, .fix [U (Int.ofNat 0), U (Int.ofNat 0)]⟩, ⟨.mine, 210, .fix (wideL (a * (b / 2 ^ (64 - i.1))))⟩]) (fun i => 64 - i.1) ?_ ⟨0, by decide⟩
  rintro ⟨i, hi⟩
  have hl := prod_lt a b (64 - i) ha hb
  have hl2 := prod_lt a b (64 - (i + 1)) ha hb
  obtain ⟨W, hW⟩ : ∃ W : Nat, a * (b / 2 ^ (64 - i)) = W := ⟨_, rfl⟩
  simp only [hW]
  rw [hW] at hl
  conv => whnf
  refine vb_i (fun h => ?_) (fun h => ?_) <;> conv => whnf
  · have hlt : i < 64 := by (first | omega | (simp only [ilt_t, ilt_f, ile_t, ile_f, ieq_t, ieq_f, ofn, List.length_map, Bool.not_eq_true', Bool.not_eq_false'] at *; omega))
    obtain ⟨k1, k2⟩ := top_bit b i hlt
    have hb2 : a * (b / 2 ^ (64 - (i + 1))) = 2 * W + a * (b / 2 ^ (63 - i) % 2) := by
      rw [k2, Nat.mul_add, ← hW, Nat.mul_left_comm]
    have tw := twice_ok W 0 (by omega) (by omega)
    have hz : iz ((9223372036854775808 / 2 ^ i : Nat) : Int) = false := iz_u (by rw [k1]; exact Nat.ne_of_gt (Nat.two_pow_pos _))
    have hz2 : iz (Int.ofNat 2) = false := by rw [iz_f]; decide
    have e2 : irem (iquo .u64 (b : Int) ((9223372036854775808 / 2 ^ i : Nat) : Int)) (Int.ofNat 2) = ((b / 2 ^ (63 - i) % 2 : Nat) : Int) := by
      rw [u_quo hb, n_ofn, u_rem, k1]
    have hn : iquo .u64 ((9223372036854775808 / 2 ^ i : Nat) : Int) (Int.ofNat 2) = ((9223372036854775808 / 2 ^ (i + 1) : Nat) : Int) := by
      have := pow_le63 i
      rw [n_ofn, u_quo (by omega), half_pow]
    rcases Nat.mod_two_eq_zero_or_one (b / 2 ^ (63 - i)) with h2 | h2
    · have q : ieq (irem (iquo .u64 (b : Int) ((9223372036854775808 / 2 ^ i : Nat) : Int)) (Int.ofNat 2)) (Int.ofNat 1) = false := by rw [e2, h2, ieq_f]; decide
      repeat' (first
        | (refine vb_t rfl ?_; conv => whnf)
        | (refine vb_f rfl ?_; conv => whnf)
        | (refine vb_t (by assumption) ?_; conv => whnf)
        | (refine vb_f (by assumption) ?_; conv => whnf)
        | (refine vpur_i tw ?_; conv => whnf)
        | fail)
      rw [h2, Nat.mul_zero] at hb2
      refine ⟨⟨i + 1, hlt⟩, by simp only; omega, cons_eq rfl (cons_eq rfl (cons_eq rfl (cons_eq rfl (cons_eq (slot_eq (U_eq hn)) (cons_eq (slot_eq (I_eq (iadd_one (i := i) (by omega)))) rfl))))), cons_eq rfl (cons_eq ?_ rfl), rfl, rfl⟩
      simp only [hb2]
    · have q : ieq (irem (iquo .u64 (b : Int) ((9223372036854775808 / 2 ^ i : Nat) : Int)) (Int.ofNat 2)) (Int.ofNat 1) = true := by rw [e2, h2, ieq_t]; rfl
      rw [h2, Nat.mul_one] at hb2
      have pl := plus_ok (2 * W + 0) a (by omega) ha
      repeat' (first
        | (refine vb_t rfl ?_; conv => whnf)
        | (refine vb_f rfl ?_; conv => whnf)
        | (refine vb_t (by assumption) ?_; conv => whnf)
        | (refine vb_f (by assumption) ?_; conv => whnf)
        | (refine vpur_i tw ?_; conv => whnf)
        | (refine vpur_i pl ?_; conv => whnf)
        | fail)
      refine ⟨⟨i + 1, hlt⟩, by simp only; omega, cons_eq rfl (cons_eq rfl (cons_eq rfl (cons_eq rfl (cons_eq (slot_eq (U_eq hn)) (cons_eq (slot_eq (I_eq (iadd_one (i := i) (by omega)))) rfl))))), cons_eq rfl (cons_eq ?_ rfl), rfl, rfl⟩
      simp only [hb2, Nat.add_zero]
  · have : i = 64 := by (first | omega | (simp only [ilt_t, ilt_f, ile_t, ile_f, ieq_t, ieq_f, ofn, List.length_map, Bool.not_eq_true', Bool.not_eq_false'] at *; omega))
    subst this
    have : a * b = W := by rw [← hW]; simp
    rw [this]
    repeat' (first
      | (refine vb_t rfl ?_; conv => whnf)
      | (refine vb_f rfl ?_; conv => whnf)
      | (refine vb_t (by assumption) ?_; conv => whnf)
      | (refine vb_f (by assumption) ?_; conv => whnf)
      | fail)
    exact ⟨rfl, rfl⟩
end Go.Proofs.YtapnjabhcdlhbaaGreatDoor.Ab
