/- Layer 1 (fixed): a quotient, bit by bit: the document's answer. -/
import Derived.Test.YtapnjabhcdlhbaaGreatDoorC01r
namespace Go.Proofs.YtapnjabhcdlhbaaGreatDoor.Ab
open Go
set_option linter.unusedSimpArgs false
set_option maxRecDepth 100000
set_option linter.unusedVariables false
set_option maxHeartbeats 4000000

theorem bit_hi (w i : Nat) (hi : 64 ≤ i) : w / 18446744073709551616 / 2 ^ (i - 64) = w / 2 ^ i := by
  rw [Nat.div_div_eq_div_mul, show 18446744073709551616 = 2 ^ 64 from rfl, ← Nat.pow_add, show 64 + (i - 64) = i by omega]
theorem bit_lo (w i : Nat) (hi : i < 64) : w % 18446744073709551616 / 2 ^ i % 2 = w / 2 ^ i % 2 := by
  obtain ⟨h, l, e1, e2⟩ : ∃ h l : Nat, w = 18446744073709551616 * h + l ∧ w % 18446744073709551616 = l := ⟨w / 18446744073709551616, _, by omega, rfl⟩
  rw [e2, e1, show 18446744073709551616 = 2 ^ i * 2 ^ (64 - i) by rw [← Nat.pow_add, show i + (64 - i) = 64 by omega], Nat.mul_assoc, Nat.mul_add_div (Nat.two_pow_pos _), show 64 - i = (63 - i) + 1 by omega, Nat.pow_succ]
  rw [show 2 ^ (63 - i) * 2 * h = 2 * (2 ^ (63 - i) * h) by rw [Nat.mul_comm (2 ^ (63 - i)) 2, Nat.mul_assoc]]
  omega
theorem down_one {k : Nat} (h1 : 1 ≤ k) (h : k < 9223372036854775807) : isub .i64 ((k : Int) - 1) (Int.ofNat 1) = ((k - 1 : Nat) : Int) - 1 := by rw [isub64] <;> simp <;> omega
theorem half_two (H j : Nat) : H / 2 ^ j / 2 = H / 2 ^ (j + 1) := by rw [Nat.div_div_eq_div_mul, Nat.pow_succ]
theorem div_lt_u (H j : Nat) (h : H < 18446744073709551616) : H / 2 ^ j < 18446744073709551616 := Nat.lt_of_le_of_lt (Nat.div_le_self _ _) h
theorem q_step (V t : Nat) (ht : t ≤ 1) : (2 * V + t) / 100000 = 2 * (V / 100000) + (if 100000 ≤ 2 * (V % 100000) + t then 1 else 0) ∧ (2 * V + t) % 100000 = (if 100000 ≤ 2 * (V % 100000) + t then 2 * (V % 100000) + t - 100000 else 2 * (V % 100000) + t) := by
  split <;> constructor <;> omega
theorem q_sub (r2 : Nat) (h : 100000 ≤ r2) (h2 : r2 < 200000) : ∃ r3 : Nat, r2 - 100000 = r3 ∧ isub .u64 ((r2 % 18446744073709551616 : Nat) : Int) ((100000 : Nat) : Int) = ((r3 % 18446744073709551616 : Nat) : Int) ∧ r3 / 18446744073709551616 = 0 := by
  refine ⟨r2 - 100000, rfl, ?_, by omega⟩
  have e : r2 % 18446744073709551616 - 100000 = (r2 - 100000) % 18446744073709551616 := by omega
  rw [u_sub (by omega) (by omega), e]
theorem quotient_ok (w : Nat) (hw : w < 340282366920938463463374607431768211456) : Pur F0 186 [wideA w, U (100000 : Nat)] [] .no (.ret (.tup [wideA (w / 100000), U (w % 100000 : Nat)])) .no := by
  refine pur_code (cf := cfn Tryz.f186) (by kernel_rfl) ?_
  conv => arg 3; reduce
  conv => whnf
  refine vloop_eq2 (fr' := [(1, U (100000 : Nat)), (2, .ptr 0 0), (4, .ptr 1 0), (5, U (Int.ofNat 0)), (6, .ptr 2 0), (7, .ptr 3 0), (8, I (((128 : Nat) : Int) - 1))])
    (h' := [⟨.mine, 210, .fix (wideL w)⟩, ⟨.mine, 210, .fix [U (Int.ofNat 0), U (Int.ofNat 0)]⟩, ⟨.mine, 210, .fix (wideL (w / 2 ^ 128 / 100000))⟩, ⟨.mine, 210, .fix (wideL (w / 2 ^ 128 % 100000))⟩]) rfl ?_ ?_
  · rw [Nat.div_eq_of_lt (b := 2 ^ 128) (by simpa using hw)]
    rfl
  refine vloop_by (σ := { k : Nat // k ≤ 128 }) (fun k => [(1, U (100000 : Nat)), (2, .ptr 0 0), (4, .ptr 1 0), (5, U (Int.ofNat 0)), (6, .ptr 2 0), (7, .ptr 3 0), (8, I ((k.1 : Int) - 1))])
    (fun k => [⟨.mine, 210, .fix (wideL w)⟩, ⟨.mine, 210, .fix [U (Int.ofNat 0), U (Int.ofNat 0)]⟩, ⟨.mine, 210, .fix (wideL (w / 2 ^ k.1 / 100000))⟩, ⟨.mine, 210, .fix (wideL (w / 2 ^ k.1 % 100000))⟩]) (fun k => k.1) ?_ ⟨128, by decide⟩
  rintro ⟨k, hk⟩
  simp only
  have hz2 : iz (Int.ofNat 2) = false := by rw [iz_f]; decide
  have hwk : w / 2 ^ k < 340282366920938463463374607431768211456 := Nat.lt_of_le_of_lt (Nat.div_le_self _ _) hw
  conv => whnf
  refine vb_i (fun h => ?_) (fun h => ?_) <;> conv => whnf
  · have hk1 : 1 ≤ k := by (first | omega | (simp only [ilt_t, ilt_f, ile_t, ile_f, ieq_t, ieq_f, ofn, List.length_map, Bool.not_eq_true', Bool.not_eq_false'] at *; omega))
    have hkb : k - 1 ≤ 128 := by omega
    have hkm : k - 1 < k := by omega
    have hdn := down_one hk1 (by omega)
    have hV : w / 2 ^ (k - 1) = 2 * (w / 2 ^ k) + w / 2 ^ (k - 1) % 2 := by
      have : w / 2 ^ k = w / 2 ^ (k - 1) / 2 := by rw [half_two, show k - 1 + 1 = k by omega]
      omega
    refine vb_i (fun h => ?_) (fun h => ?_) <;> conv => whnf
    · have hlt : k - 1 < 64 := by (first | omega | (simp only [ilt_t, ilt_f, ile_t, ile_f, ieq_t, ieq_f, ofn, List.length_map, Bool.not_eq_true', Bool.not_eq_false'] at *; omega))
      have hH : w % 18446744073709551616 < 18446744073709551616 := Nat.mod_lt _ (by decide)
      have hbit : w % 18446744073709551616 / 2 ^ (k - 1) % 2 = w / 2 ^ (k - 1) % 2 := bit_lo w (k - 1) hlt
      refine vloop_eq2 (fr' := [(1, U (100000 : Nat)), (2, .ptr 0 0), (4, .ptr 1 0), (5, U (Int.ofNat 0)), (6, .ptr 2 0), (7, .ptr 3 0), (8, I ((k : Int) - 1)), (10, U ((w % 18446744073709551616) / 2 ^ 0 : Nat)), (11, I ((k - 1) : Nat)), (12, I (0 : Nat))])
        (h' := [⟨.mine, 210, .fix (wideL w)⟩, ⟨.mine, 210, .fix [U (Int.ofNat 0), U (Int.ofNat 0)]⟩, ⟨.mine, 210, .fix (wideL (w / 2 ^ k / 100000))⟩, ⟨.mine, 210, .fix (wideL (w / 2 ^ k % 100000))⟩]) ?_ rfl ?_
      · exact cons_eq rfl (cons_eq rfl (cons_eq rfl (cons_eq rfl (cons_eq rfl (cons_eq rfl (cons_eq rfl (cons_eq (slot_eq (U_eq (by simp))) (cons_eq (slot_eq (I_eq (by omega))) rfl))))))))
      refine vloop_by (σ := { j : Nat // j ≤ (k - 1) }) (fun j => [(1, U (100000 : Nat)), (2, .ptr 0 0), (4, .ptr 1 0), (5, U (Int.ofNat 0)), (6, .ptr 2 0), (7, .ptr 3 0), (8, I ((k : Int) - 1)), (10, U ((w % 18446744073709551616) / 2 ^ j.1 : Nat)), (11, I ((k - 1) : Nat)), (12, I j.1)])
        (fun _ => [⟨.mine, 210, .fix (wideL w)⟩, ⟨.mine, 210, .fix [U (Int.ofNat 0), U (Int.ofNat 0)]⟩, ⟨.mine, 210, .fix (wideL (w / 2 ^ k / 100000))⟩, ⟨.mine, 210, .fix (wideL (w / 2 ^ k % 100000))⟩]) (fun j => (k - 1) - j.1) ?_ ⟨0, Nat.zero_le _⟩
      rintro ⟨j, hj⟩
      conv => whnf
      refine vb_i (fun h => ?_) (fun h => ?_) <;> conv => whnf
      · have hlt : j < (k - 1) := by (first | omega | (simp only [ilt_t, ilt_f, ile_t, ile_f, ieq_t, ieq_f, ofn, List.length_map, Bool.not_eq_true', Bool.not_eq_false'] at *; omega))
        have e : iquo .u64 (((w % 18446744073709551616) / 2 ^ j : Nat) : Int) (Int.ofNat 2) = (((w % 18446744073709551616) / 2 ^ (j + 1) : Nat) : Int) := by rw [n_ofn, u_quo (div_lt_u _ _ hH), half_two]
        repeat' (first
          | (refine vb_t rfl ?_; conv => whnf)
          | (refine vb_f rfl ?_; conv => whnf)
          | (refine vb_t (by assumption) ?_; conv => whnf)
          | (refine vb_f (by assumption) ?_; conv => whnf)
          | fail)
        exact ⟨⟨j + 1, hlt⟩, by simp only; omega, cons_eq rfl (cons_eq rfl (cons_eq rfl (cons_eq rfl (cons_eq rfl (cons_eq rfl (cons_eq rfl (cons_eq (slot_eq (U_eq e)) (cons_eq rfl (cons_eq (slot_eq (I_eq (iadd_one (i := j) (by omega)))) rfl))))))))), rfl, rfl, rfl⟩
      · have hje : j = (k - 1) := by (first | omega | (simp only [ilt_t, ilt_f, ile_t, ile_f, ieq_t, ieq_f, ofn, List.length_map, Bool.not_eq_true', Bool.not_eq_false'] at *; omega))
        subst hje
        have e1 : irem (((w % 18446744073709551616) / 2 ^ (k - 1) : Nat) : Int) (Int.ofNat 2) = ((w / 2 ^ (k - 1) % 2 : Nat) : Int) := by rw [n_ofn, u_rem, hbit]
        rw [e1]
        have tr := twice_ok (w / 2 ^ k % 100000) (w / 2 ^ (k - 1) % 2) (by omega) (by omega)
        have hr2 : 2 * (w / 2 ^ k % 100000) + w / 2 ^ (k - 1) % 2 < 200000 := by omega
        obtain ⟨r2, hr2e⟩ : ∃ r2 : Nat, 2 * (w / 2 ^ k % 100000) + w / 2 ^ (k - 1) % 2 = r2 := ⟨_, rfl⟩
        rw [hr2e] at tr hr2
        have q1 : ilt (Int.ofNat 0) ((r2 / 18446744073709551616 : Nat) : Int) = false := by rw [ilt_f, show r2 / 18446744073709551616 = 0 by omega]; decide
        have eq1 := (q_step (w / 2 ^ k) (w / 2 ^ (k - 1) % 2) (by omega)).1
        have eq2 := (q_step (w / 2 ^ k) (w / 2 ^ (k - 1) % 2) (by omega)).2
        rw [← hV, hr2e] at eq1 eq2
        by_cases hge : 100000 ≤ r2
        · rw [if_pos hge] at eq1 eq2
          have q2 : ile ((100000 : Nat) : Int) ((r2 % 18446744073709551616 : Nat) : Int) = true := by rw [ile_t]; omega
          have tq := twice_ok (w / 2 ^ k / 100000) 1 (by omega) (by omega)
          obtain ⟨r3, g1, g2, g3⟩ := q_sub r2 hge hr2
          rw [g1] at eq2
          clear hge hr2 g1
          repeat' (first
            | (refine vb_t rfl ?_; conv => whnf)
            | (refine vb_f rfl ?_; conv => whnf)
            | (refine vb_t (by assumption) ?_; conv => whnf)
            | (refine vb_f (by assumption) ?_; conv => whnf)
            | (refine vpur_i tr ?_; conv => whnf)
            | (refine vpur_i tq ?_; conv => whnf)
            | fail)
          refine ⟨⟨k - 1, hkb⟩, hkm, cons_eq rfl (cons_eq rfl (cons_eq rfl (cons_eq rfl (cons_eq rfl (cons_eq rfl (cons_eq (slot_eq (I_eq hdn)) rfl)))))), cons_eq rfl (cons_eq rfl (cons_eq (fix2_eq ?_ ?_) (cons_eq (fix2_eq ?_ ?_) rfl))), rfl, rfl⟩
          · rw [eq1]
          · rw [eq1]
          · rw [eq2, g3]; rfl
          · rw [eq2]; exact g2
        · rw [if_neg hge] at eq1 eq2
          have q2 : ile ((100000 : Nat) : Int) ((r2 % 18446744073709551616 : Nat) : Int) = false := by rw [ile_f]; omega
          have tq := twice_ok (w / 2 ^ k / 100000) 0 (by omega) (by omega)
          repeat' (first
            | (refine vb_t rfl ?_; conv => whnf)
            | (refine vb_f rfl ?_; conv => whnf)
            | (refine vb_t (by assumption) ?_; conv => whnf)
            | (refine vb_f (by assumption) ?_; conv => whnf)
            | (refine vpur_i tr ?_; conv => whnf)
            | (refine vpur_i tq ?_; conv => whnf)
            | fail)
          refine ⟨⟨k - 1, hkb⟩, hkm, cons_eq rfl (cons_eq rfl (cons_eq rfl (cons_eq rfl (cons_eq rfl (cons_eq rfl (cons_eq (slot_eq (I_eq hdn)) rfl)))))), cons_eq rfl (cons_eq rfl (cons_eq (fix2_eq ?_ ?_) (cons_eq (fix2_eq ?_ ?_) rfl))), rfl, rfl⟩
          · rw [eq1]
          · rw [eq1]
          · rw [eq2]
          · rw [eq2]
    · have hge : 64 ≤ k - 1 := by (first | omega | (simp only [ilt_t, ilt_f, ile_t, ile_f, ieq_t, ieq_f, ofn, List.length_map, Bool.not_eq_true', Bool.not_eq_false'] at *; omega))
      have hH : w / 18446744073709551616 < 18446744073709551616 := by omega
      have hbit : w / 18446744073709551616 / 2 ^ (k - 1 - 64) % 2 = w / 2 ^ (k - 1) % 2 := by rw [bit_hi w (k - 1) hge]
      have e64 : isub .i64 ((k : Int) - 1) (Int.ofNat 64) = ((k - 1 - 64 : Nat) : Int) := by rw [isub64] <;> simp <;> omega
      refine vloop_eq2 (fr' := [(1, U (100000 : Nat)), (2, .ptr 0 0), (4, .ptr 1 0), (5, U (Int.ofNat 0)), (6, .ptr 2 0), (7, .ptr 3 0), (8, I ((k : Int) - 1)), (10, U ((w / 18446744073709551616) / 2 ^ 0 : Nat)), (11, I ((k - 1 - 64) : Nat)), (12, I (0 : Nat))])
        (h' := [⟨.mine, 210, .fix (wideL w)⟩, ⟨.mine, 210, .fix [U (Int.ofNat 0), U (Int.ofNat 0)]⟩, ⟨.mine, 210, .fix (wideL (w / 2 ^ k / 100000))⟩, ⟨.mine, 210, .fix (wideL (w / 2 ^ k % 100000))⟩]) ?_ rfl ?_
      · exact cons_eq rfl (cons_eq rfl (cons_eq rfl (cons_eq rfl (cons_eq rfl (cons_eq rfl (cons_eq rfl (cons_eq (slot_eq (U_eq (by simp))) (cons_eq (slot_eq (I_eq e64)) rfl))))))))
      refine vloop_by (σ := { j : Nat // j ≤ (k - 1 - 64) }) (fun j => [(1, U (100000 : Nat)), (2, .ptr 0 0), (4, .ptr 1 0), (5, U (Int.ofNat 0)), (6, .ptr 2 0), (7, .ptr 3 0), (8, I ((k : Int) - 1)), (10, U ((w / 18446744073709551616) / 2 ^ j.1 : Nat)), (11, I ((k - 1 - 64) : Nat)), (12, I j.1)])
        (fun _ => [⟨.mine, 210, .fix (wideL w)⟩, ⟨.mine, 210, .fix [U (Int.ofNat 0), U (Int.ofNat 0)]⟩, ⟨.mine, 210, .fix (wideL (w / 2 ^ k / 100000))⟩, ⟨.mine, 210, .fix (wideL (w / 2 ^ k % 100000))⟩]) (fun j => (k - 1 - 64) - j.1) ?_ ⟨0, Nat.zero_le _⟩
      rintro ⟨j, hj⟩
      conv => whnf
      refine vb_i (fun h => ?_) (fun h => ?_) <;> conv => whnf
      · have hlt : j < (k - 1 - 64) := by (first | omega | (simp only [ilt_t, ilt_f, ile_t, ile_f, ieq_t, ieq_f, ofn, List.length_map, Bool.not_eq_true', Bool.not_eq_false'] at *; omega))
        have e : iquo .u64 (((w / 18446744073709551616) / 2 ^ j : Nat) : Int) (Int.ofNat 2) = (((w / 18446744073709551616) / 2 ^ (j + 1) : Nat) : Int) := by rw [n_ofn, u_quo (div_lt_u _ _ hH), half_two]
        repeat' (first
          | (refine vb_t rfl ?_; conv => whnf)
          | (refine vb_f rfl ?_; conv => whnf)
          | (refine vb_t (by assumption) ?_; conv => whnf)
          | (refine vb_f (by assumption) ?_; conv => whnf)
          | fail)
        exact ⟨⟨j + 1, hlt⟩, by simp only; omega, cons_eq rfl (cons_eq rfl (cons_eq rfl (cons_eq rfl (cons_eq rfl (cons_eq rfl (cons_eq rfl (cons_eq (slot_eq (U_eq e)) (cons_eq rfl (cons_eq (slot_eq (I_eq (iadd_one (i := j) (by omega)))) rfl))))))))), rfl, rfl, rfl⟩
      · have hje : j = (k - 1 - 64) := by (first | omega | (simp only [ilt_t, ilt_f, ile_t, ile_f, ieq_t, ieq_f, ofn, List.length_map, Bool.not_eq_true', Bool.not_eq_false'] at *; omega))
        subst hje
        have e1 : irem (((w / 18446744073709551616) / 2 ^ (k - 1 - 64) : Nat) : Int) (Int.ofNat 2) = ((w / 2 ^ (k - 1) % 2 : Nat) : Int) := by rw [n_ofn, u_rem, hbit]
        rw [e1]
        have tr := twice_ok (w / 2 ^ k % 100000) (w / 2 ^ (k - 1) % 2) (by omega) (by omega)
        have hr2 : 2 * (w / 2 ^ k % 100000) + w / 2 ^ (k - 1) % 2 < 200000 := by omega
        obtain ⟨r2, hr2e⟩ : ∃ r2 : Nat, 2 * (w / 2 ^ k % 100000) + w / 2 ^ (k - 1) % 2 = r2 := ⟨_, rfl⟩
        rw [hr2e] at tr hr2
        have q1 : ilt (Int.ofNat 0) ((r2 / 18446744073709551616 : Nat) : Int) = false := by rw [ilt_f, show r2 / 18446744073709551616 = 0 by omega]; decide
        have eq1 := (q_step (w / 2 ^ k) (w / 2 ^ (k - 1) % 2) (by omega)).1
        have eq2 := (q_step (w / 2 ^ k) (w / 2 ^ (k - 1) % 2) (by omega)).2
        rw [← hV, hr2e] at eq1 eq2
        by_cases hge : 100000 ≤ r2
        · rw [if_pos hge] at eq1 eq2
          have q2 : ile ((100000 : Nat) : Int) ((r2 % 18446744073709551616 : Nat) : Int) = true := by rw [ile_t]; omega
          have tq := twice_ok (w / 2 ^ k / 100000) 1 (by omega) (by omega)
          obtain ⟨r3, g1, g2, g3⟩ := q_sub r2 hge hr2
          rw [g1] at eq2
          clear hge hr2 g1
          repeat' (first
            | (refine vb_t rfl ?_; conv => whnf)
            | (refine vb_f rfl ?_; conv => whnf)
            | (refine vb_t (by assumption) ?_; conv => whnf)
            | (refine vb_f (by assumption) ?_; conv => whnf)
            | (refine vpur_i tr ?_; conv => whnf)
            | (refine vpur_i tq ?_; conv => whnf)
            | fail)
          refine ⟨⟨k - 1, hkb⟩, hkm, cons_eq rfl (cons_eq rfl (cons_eq rfl (cons_eq rfl (cons_eq rfl (cons_eq rfl (cons_eq (slot_eq (I_eq hdn)) rfl)))))), cons_eq rfl (cons_eq rfl (cons_eq (fix2_eq ?_ ?_) (cons_eq (fix2_eq ?_ ?_) rfl))), rfl, rfl⟩
          · rw [eq1]
          · rw [eq1]
          · rw [eq2, g3]; rfl
          · rw [eq2]; exact g2
        · rw [if_neg hge] at eq1 eq2
          have q2 : ile ((100000 : Nat) : Int) ((r2 % 18446744073709551616 : Nat) : Int) = false := by rw [ile_f]; omega
          have tq := twice_ok (w / 2 ^ k / 100000) 0 (by omega) (by omega)
          repeat' (first
            | (refine vb_t rfl ?_; conv => whnf)
            | (refine vb_f rfl ?_; conv => whnf)
            | (refine vb_t (by assumption) ?_; conv => whnf)
            | (refine vb_f (by assumption) ?_; conv => whnf)
            | (refine vpur_i tr ?_; conv => whnf)
            | (refine vpur_i tq ?_; conv => whnf)
            | fail)
          refine ⟨⟨k - 1, hkb⟩, hkm, cons_eq rfl (cons_eq rfl (cons_eq rfl (cons_eq rfl (cons_eq rfl (cons_eq rfl (cons_eq (slot_eq (I_eq hdn)) rfl)))))), cons_eq rfl (cons_eq rfl (cons_eq (fix2_eq ?_ ?_) (cons_eq (fix2_eq ?_ ?_) rfl))), rfl, rfl⟩
          · rw [eq1]
          · rw [eq1]
          · rw [eq2]
          · rw [eq2]
  · have : k = 0 := by (first | omega | (simp only [ilt_t, ilt_f, ile_t, ile_f, ieq_t, ieq_f, ofn, List.length_map, Bool.not_eq_true', Bool.not_eq_false'] at *; omega))
    subst this
    repeat' (first
      | (refine vb_t rfl ?_; conv => whnf)
      | (refine vb_f rfl ?_; conv => whnf)
      | (refine vb_t (by assumption) ?_; conv => whnf)
      | (refine vb_f (by assumption) ?_; conv => whnf)
      | fail)
    rw [Nat.pow_zero, Nat.div_one]
    refine ⟨congrArg CR.ret (congrArg AV.tup (cons_eq rfl (cons_eq (U_eq ?_) rfl))), rfl⟩
    rw [Nat.mod_eq_of_lt (a := w % 100000) (b := 18446744073709551616) (by omega)]
end Go.Proofs.YtapnjabhcdlhbaaGreatDoor.Ab
