/- Layer 2 (number): a number's text. -/
import Derived.Test.YtapnjabhcdlhbaaGreatDoorC01r
import Derived.Test.YtapnjabhcdlhbaaGreatDoorC02a
import Derived.Lib.ItoaLen
namespace Go.Proofs.YtapnjabhcdlhbaaGreatDoor.Ab
open Go
set_option linter.unusedSimpArgs false
set_option maxRecDepth 100000
set_option linter.unusedVariables false
set_option maxHeartbeats 4000000

/-- The digits behind the point. -/
def fracT (sc : Nat) : Nat → Nat → List UInt8
  | 0, _ => []
  | k + 1, l => if l = 0 then [] else Lib.decDigits (l * 10 / sc) ++ fracT sc k (l * 10 % sc)
def posText (m sc : Nat) : List UInt8 := Lib.decDigits (m / sc) ++ ((if 0 < m % sc then [46] else []) ++ fracT sc 6 (m % sc))
def isSc (n : Int) : Prop := n = 1 ∨ n = 64 ∨ n = 1000
instance (n : Int) : Decidable (isSc n) := by unfold isSc; infer_instance
def numText (n sc : Int) : List UInt8 := if isPx n = true ∧ isSc sc then (if n < 0 then [45] else []) ++ posText n.natAbs sc.toNat else []
theorem itoa_nat (u : Nat) : Lib.itoa (u : Int) = Lib.decDigits u := by unfold Lib.itoa; rw [if_neg (by omega)]; simp
theorem dec_le (u : Nat) (h : u < 18446744073709551616) : (Lib.decDigits u).length ≤ 20 := by rw [Lib.decDigits_length]; exact Lib.nDigits_le20 u h
theorem itoa_ok (u : Nat) (hu : u ≤ 4611686018427387904) (h : Heap) : Pur F0 117 [I u] h .no (.ret (S (Lib.decDigits u))) .no := by
  refine pur_known (g := kItoa) (by kernel_rfl) ?_
  unfold kItoa
  have : (decide (-9223372036854775808 ≤ (u : Int)) && decide ((u : Int) ≤ 9223372036854775807)) = true := by simp; omega
  simp only [this, itoa_nat]
theorem itoa_ok' {x : Int} {u : Nat} (hx : x = u) (hu : u ≤ 4611686018427387904) (h : Heap) : Pur F0 117 [I x] h .no (.ret (S (Lib.decDigits u))) .no := by subst hx; exact itoa_ok u hu h
theorem i_in {x : Int} (h1 : -9223372036854775808 ≤ x) (h2 : x ≤ 9223372036854775807) : IntKind.wrap .i64 x = x := IntWalk.i64_in _ ⟨h1, h2⟩
theorem i_quo {a b : Nat} (ha : a ≤ 4611686018427387904) : iquo .i64 (a : Int) (b : Int) = ((a / b : Nat) : Int) := by
  unfold iquo
  have e : ((a : Int).tdiv (b : Int)) = ((a / b : Nat) : Int) := rfl
  have := Nat.div_le_self a b
  rw [e]
  generalize a / b = q at *
  rw [i_in (by omega) (by omega)]
theorem i_mulr {a : Nat} (h : a ≤ 1000000) : imul .i64 (a : Int) (Int.ofNat 10) = ((a * 10 : Nat) : Int) := by rw [n_ofn, imul64 (by omega) (by omega), Int.natCast_mul]
theorem i_mull {a : Nat} (h : a ≤ 1000000) : imul .i64 (Int.ofNat 10) (a : Int) = ((a * 10 : Nat) : Int) := by rw [n_ofn, imul64 (by omega) (by omega), ← Int.natCast_mul, Nat.mul_comm]
theorem frac_zero (k f : Nat) : fracT k f 0 = [] := by cases f <;> simp [fracT]
theorem frac_succ (k f l : Nat) (h : l ≠ 0) : fracT k (f + 1) l = Lib.decDigits (l * 10 / k) ++ fracT k f (l * 10 % k) := by simp [fracT, h]
theorem pow_mod (k f l : Nat) (h : l * 10 ^ (f + 1) % k = 0) : l * 10 % k * 10 ^ f % k = 0 := by
  rw [Nat.mul_mod, Nat.mod_mod, ← Nat.mul_mod, Nat.mul_assoc, ← Nat.pow_succ']
  exact h
theorem pow_first (k l : Nat) (hk : k = 1 ∨ k = 64 ∨ k = 1000) : l * 10 ^ 6 % k = 0 := by
  rcases hk with rfl | rfl | rfl <;> omega
theorem dig_small (l k : Nat) (h : l < k) : (Lib.decDigits (l * 10 / k)).length ≤ 20 := by
  have : l * 10 / k < 10 := by apply Nat.div_lt_of_lt_mul; rw [Nat.mul_comm]; omega
  exact dec_le _ (by omega)
theorem ndText_ok (n sc : Int) : Pur F0 68 [I n, I sc] [] .no (.ret (S (numText n sc))) .no := by
  by_cases hg : isPx n = true ∧ isSc sc
  · obtain ⟨hp, hsc⟩ := hg
    obtain ⟨k, rfl⟩ : ∃ k : Nat, sc = (k : Int) := ⟨sc.toNat, by unfold isSc at hsc; omega⟩
    have hk : k = 1 ∨ k = 64 ∨ k = 1000 := by unfold isSc at hsc; omega
    have hN : numText n k = (if n < 0 then [45] else []) ++ (Lib.decDigits (n.natAbs / k) ++ ((if 0 < n.natAbs % k then [46] else []) ++ fracT k 6 (n.natAbs % k))) := by
      unfold numText; rw [if_pos ⟨hp, hsc⟩]; rfl
    have hb : -68719476736 ≤ n ∧ n ≤ 68719476736 := by simpa [isPx] using hp
    obtain ⟨m, hm0⟩ : ∃ m : Nat, n.natAbs = m := ⟨_, rfl⟩
    have hmb : m ≤ 68719476736 := by omega
    rw [hm0] at hN
    refine pur_code (cf := cfn Tryz.f68) (by kernel_rfl) ?_
    conv => arg 3; reduce
    conv => whnf
    have q1 : (!isPx n) = false := by rw [hp]; rfl
    have q2 : (!decide ((k : Int) = 1 ∨ (k : Int) = 64 ∨ (k : Int) = 1000)) = false := by simp; unfold isSc at hsc; omega
    have q4 : iz (k : Int) = false := iz_u (by omega)
    by_cases hn : n < 0
    · rw [if_pos hn] at hN
      have q3 : ilt n (Int.ofNat 0) = true := by rw [ilt_t]; exact hn
      have hmm : isub .i64 0 n = (m : Int) := by rw [isub64 (by omega) (by omega)]; omega
      repeat' (first
        | (refine vb_t rfl ?_; conv => whnf)
        | (refine vb_f rfl ?_; conv => whnf)
        | (refine vb_t (by assumption) ?_; conv => whnf)
        | (refine vb_f (by assumption) ?_; conv => whnf)
        | (refine vpur_i (fixedIs_ok _) ?_; conv => whnf)
        | (refine vpur_i (isScale_ok _) ?_; conv => whnf)
        | fail)
      have hx0 : iquo .i64 (isub .i64 0 n) (k : Int) = ((m / k : Nat) : Int) := by rw [hmm, i_quo (by omega)]
      have hr0 : irem (isub .i64 0 n) (k : Int) = ((m % k : Nat) : Int) := by rw [hmm, u_rem]
      have hmk : m / k ≤ m := Nat.div_le_self _ _
      have hd0 := dec_le (m / k) (by omega)
      have hlk0 : m % k < k := Nat.mod_lt _ (by omega)
      by_cases hl : 0 < m % k
      · have q5 : ilt (Int.ofNat 0) (irem (isub .i64 0 n) (k : Int)) = true := by rw [hr0, ilt_t]; simp only [Int.ofNat_eq_natCast]; omega
        repeat' (first
          | (refine vb_t rfl ?_; conv => whnf)
          | (refine vb_f rfl ?_; conv => whnf)
          | (refine vb_t (by assumption) ?_; conv => whnf)
          | (refine vb_f (by assumption) ?_; conv => whnf)
          | (refine vpur_i (itoa_ok' hx0 (by omega) []) ?_; conv => whnf)
          | (refine vb_t (roomS_t (by simp; omega)) ?_; conv => whnf)
          | fail)
        rw [hr0]
        obtain ⟨l0, hl0⟩ : ∃ l0 : Nat, m % k = l0 := ⟨_, rfl⟩
        rw [if_pos hl, hl0] at hN
        rw [hl0] at hlk0 ⊢
        have hlk := hlk0
        have hl6 := pow_first k l0 hk
        obtain ⟨s0, hs⟩ : ∃ s0 : List UInt8, ([45] ++ Lib.decDigits (m / k)) ++ [46] = s0 := ⟨_, rfl⟩
        have hs0 : s0.length + 30 * 6 ≤ 400 := by rw [← hs]; simp; omega
        refine vloop_eq2 (fr' := [(1, I k), (4, S []), (5, S s0), (6, I l0)]) (h' := []) ?_ rfl ?_
        · subst hs; rfl
        obtain ⟨T, hTe⟩ : ∃ T : List UInt8, numText n k = T := ⟨_, rfl⟩
        have hT : s0 ++ fracT k 6 l0 = T := by rw [← hTe, hN, ← hs]; simp
        rw [hTe]
        refine vloop_by (σ := { x : List UInt8 × Nat × Nat // x.1 ++ fracT k x.2.2 x.2.1 = T ∧ x.2.1 < k ∧ x.2.1 * 10 ^ x.2.2 % k = 0 ∧ x.1.length + 30 * x.2.2 ≤ 400 }) (fun x => [(1, I k), (4, S []), (5, S x.1.1), (6, I x.1.2.1)]) (fun _ => []) (fun x => x.1.2.2) ?_ ⟨(s0, l0, 6), hT, hlk, hl6, hs0⟩
        rintro ⟨⟨s, l, f⟩, g1, g2, g3, g4⟩
        simp only at g1 g2 g3 g4
        conv => whnf
        refine vb_i (fun h => ?_) (fun h => ?_) <;> conv => whnf
        · have hl0 : l ≠ 0 := by (first | omega | (simp only [ilt_t, ilt_f, ile_t, ile_f, ieq_t, ieq_f, ofn, List.length_map, Bool.not_eq_true', Bool.not_eq_false'] at *; omega))
          cases f with
          | zero => exact absurd (by simpa [Nat.mod_eq_of_lt g2] using g3) hl0
          | succ f =>
            rw [frac_succ _ _ _ hl0] at g1
            have hm : imul .i64 (l : Int) (Int.ofNat 10) = ((l * 10 : Nat) : Int) := i_mulr (by omega)
            have hx : iquo .i64 (imul .i64 (l : Int) (Int.ofNat 10)) (k : Int) = ((l * 10 / k : Nat) : Int) := by rw [hm, i_quo (by omega)]
            have hr : irem (imul .i64 (l : Int) (Int.ofNat 10)) (k : Int) = ((l * 10 % k : Nat) : Int) := by rw [hm, u_rem]
            have hd := dig_small l k g2
            have hrm : roomS (s.length + (Lib.decDigits (l * 10 / k)).length) = true := roomS_t (by omega)
            repeat' (first
              | (refine vb_t rfl ?_; conv => whnf)
              | (refine vb_f rfl ?_; conv => whnf)
              | (refine vb_t (by assumption) ?_; conv => whnf)
              | (refine vb_f (by assumption) ?_; conv => whnf)
              | (refine vpur_i (itoa_ok' hx (Nat.le_trans (Nat.div_le_self _ _) (by omega)) []) ?_; conv => whnf)
              | (refine vb_t hrm ?_; conv => whnf)
              | fail)
            refine ⟨⟨(s ++ Lib.decDigits (l * 10 / k), l * 10 % k, f), by simp only [List.append_assoc]; exact g1, Nat.mod_lt _ (by omega), pow_mod k f l g3, by simp only [List.length_append]; omega⟩, by simp only; omega, cons_eq rfl (cons_eq rfl (cons_eq rfl (cons_eq (slot_eq (I_eq hr)) rfl))), rfl, rfl, rfl⟩
        · have hl0 : l = 0 := by (first | omega | (simp only [ilt_t, ilt_f, ile_t, ile_f, ieq_t, ieq_f, ofn, List.length_map, Bool.not_eq_true', Bool.not_eq_false'] at *; omega))
          subst hl0
          rw [frac_zero, List.append_nil] at g1
          subst g1
          repeat' (first
            | (refine vb_t rfl ?_; conv => whnf)
            | (refine vb_f rfl ?_; conv => whnf)
            | (refine vb_t (by assumption) ?_; conv => whnf)
            | (refine vb_f (by assumption) ?_; conv => whnf)
            | fail)
          exact ⟨rfl, rfl⟩
      · have q5 : ilt (Int.ofNat 0) (irem (isub .i64 0 n) (k : Int)) = false := by rw [hr0, ilt_f]; simp only [Int.ofNat_eq_natCast]; omega
        repeat' (first
          | (refine vb_t rfl ?_; conv => whnf)
          | (refine vb_f rfl ?_; conv => whnf)
          | (refine vb_t (by assumption) ?_; conv => whnf)
          | (refine vb_f (by assumption) ?_; conv => whnf)
          | (refine vpur_i (itoa_ok' hx0 (by omega) []) ?_; conv => whnf)
          | (refine vb_t (roomS_t (by simp; omega)) ?_; conv => whnf)
          | fail)
        rw [hr0]
        obtain ⟨l0, hl0⟩ : ∃ l0 : Nat, m % k = l0 := ⟨_, rfl⟩
        rw [if_neg hl, hl0] at hN
        rw [hl0] at hlk0 ⊢
        have hlk := hlk0
        have hl6 := pow_first k l0 hk
        obtain ⟨s0, hs⟩ : ∃ s0 : List UInt8, [45] ++ Lib.decDigits (m / k) = s0 := ⟨_, rfl⟩
        have hs0 : s0.length + 30 * 6 ≤ 400 := by rw [← hs]; simp; omega
        refine vloop_eq2 (fr' := [(1, I k), (4, S []), (5, S s0), (6, I l0)]) (h' := []) ?_ rfl ?_
        · subst hs; rfl
        obtain ⟨T, hTe⟩ : ∃ T : List UInt8, numText n k = T := ⟨_, rfl⟩
        have hT : s0 ++ fracT k 6 l0 = T := by rw [← hTe, hN, ← hs]; simp
        rw [hTe]
        refine vloop_by (σ := { x : List UInt8 × Nat × Nat // x.1 ++ fracT k x.2.2 x.2.1 = T ∧ x.2.1 < k ∧ x.2.1 * 10 ^ x.2.2 % k = 0 ∧ x.1.length + 30 * x.2.2 ≤ 400 }) (fun x => [(1, I k), (4, S []), (5, S x.1.1), (6, I x.1.2.1)]) (fun _ => []) (fun x => x.1.2.2) ?_ ⟨(s0, l0, 6), hT, hlk, hl6, hs0⟩
        rintro ⟨⟨s, l, f⟩, g1, g2, g3, g4⟩
        simp only at g1 g2 g3 g4
        conv => whnf
        refine vb_i (fun h => ?_) (fun h => ?_) <;> conv => whnf
        · have hl0 : l ≠ 0 := by (first | omega | (simp only [ilt_t, ilt_f, ile_t, ile_f, ieq_t, ieq_f, ofn, List.length_map, Bool.not_eq_true', Bool.not_eq_false'] at *; omega))
          cases f with
          | zero => exact absurd (by simpa [Nat.mod_eq_of_lt g2] using g3) hl0
          | succ f =>
            rw [frac_succ _ _ _ hl0] at g1
            have hm : imul .i64 (l : Int) (Int.ofNat 10) = ((l * 10 : Nat) : Int) := i_mulr (by omega)
            have hx : iquo .i64 (imul .i64 (l : Int) (Int.ofNat 10)) (k : Int) = ((l * 10 / k : Nat) : Int) := by rw [hm, i_quo (by omega)]
            have hr : irem (imul .i64 (l : Int) (Int.ofNat 10)) (k : Int) = ((l * 10 % k : Nat) : Int) := by rw [hm, u_rem]
            have hd := dig_small l k g2
            have hrm : roomS (s.length + (Lib.decDigits (l * 10 / k)).length) = true := roomS_t (by omega)
            repeat' (first
              | (refine vb_t rfl ?_; conv => whnf)
              | (refine vb_f rfl ?_; conv => whnf)
              | (refine vb_t (by assumption) ?_; conv => whnf)
              | (refine vb_f (by assumption) ?_; conv => whnf)
              | (refine vpur_i (itoa_ok' hx (Nat.le_trans (Nat.div_le_self _ _) (by omega)) []) ?_; conv => whnf)
              | (refine vb_t hrm ?_; conv => whnf)
              | fail)
            refine ⟨⟨(s ++ Lib.decDigits (l * 10 / k), l * 10 % k, f), by simp only [List.append_assoc]; exact g1, Nat.mod_lt _ (by omega), pow_mod k f l g3, by simp only [List.length_append]; omega⟩, by simp only; omega, cons_eq rfl (cons_eq rfl (cons_eq rfl (cons_eq (slot_eq (I_eq hr)) rfl))), rfl, rfl, rfl⟩
        · have hl0 : l = 0 := by (first | omega | (simp only [ilt_t, ilt_f, ile_t, ile_f, ieq_t, ieq_f, ofn, List.length_map, Bool.not_eq_true', Bool.not_eq_false'] at *; omega))
          subst hl0
          rw [frac_zero, List.append_nil] at g1
          subst g1
          repeat' (first
            | (refine vb_t rfl ?_; conv => whnf)
            | (refine vb_f rfl ?_; conv => whnf)
            | (refine vb_t (by assumption) ?_; conv => whnf)
            | (refine vb_f (by assumption) ?_; conv => whnf)
            | fail)
          exact ⟨rfl, rfl⟩
    · rw [if_neg hn] at hN
      have q3 : ilt n (Int.ofNat 0) = false := by rw [ilt_f]; simp only [Int.ofNat_eq_natCast]; omega
      have hmm : n = (m : Int) := by omega
      repeat' (first
        | (refine vb_t rfl ?_; conv => whnf)
        | (refine vb_f rfl ?_; conv => whnf)
        | (refine vb_t (by assumption) ?_; conv => whnf)
        | (refine vb_f (by assumption) ?_; conv => whnf)
        | (refine vpur_i (fixedIs_ok _) ?_; conv => whnf)
        | (refine vpur_i (isScale_ok _) ?_; conv => whnf)
        | fail)
      have hx0 : iquo .i64 (n) (k : Int) = ((m / k : Nat) : Int) := by rw [hmm, i_quo (by omega)]
      have hr0 : irem (n) (k : Int) = ((m % k : Nat) : Int) := by rw [hmm, u_rem]
      have hmk : m / k ≤ m := Nat.div_le_self _ _
      have hd0 := dec_le (m / k) (by omega)
      have hlk0 : m % k < k := Nat.mod_lt _ (by omega)
      by_cases hl : 0 < m % k
      · have q5 : ilt (Int.ofNat 0) (irem (n) (k : Int)) = true := by rw [hr0, ilt_t]; simp only [Int.ofNat_eq_natCast]; omega
        repeat' (first
          | (refine vb_t rfl ?_; conv => whnf)
          | (refine vb_f rfl ?_; conv => whnf)
          | (refine vb_t (by assumption) ?_; conv => whnf)
          | (refine vb_f (by assumption) ?_; conv => whnf)
          | (refine vpur_i (itoa_ok' hx0 (by omega) []) ?_; conv => whnf)
          | (refine vb_t (roomS_t (by simp; omega)) ?_; conv => whnf)
          | fail)
        rw [hr0]
        obtain ⟨l0, hl0⟩ : ∃ l0 : Nat, m % k = l0 := ⟨_, rfl⟩
        rw [if_pos hl, hl0] at hN
        rw [hl0] at hlk0 ⊢
        have hlk := hlk0
        have hl6 := pow_first k l0 hk
        obtain ⟨s0, hs⟩ : ∃ s0 : List UInt8, ([] ++ Lib.decDigits (m / k)) ++ [46] = s0 := ⟨_, rfl⟩
        have hs0 : s0.length + 30 * 6 ≤ 400 := by rw [← hs]; simp; omega
        refine vloop_eq2 (fr' := [(1, I k), (4, S []), (5, S s0), (6, I l0)]) (h' := []) ?_ rfl ?_
        · subst hs; rfl
        obtain ⟨T, hTe⟩ : ∃ T : List UInt8, numText n k = T := ⟨_, rfl⟩
        have hT : s0 ++ fracT k 6 l0 = T := by rw [← hTe, hN, ← hs]; simp
        rw [hTe]
        refine vloop_by (σ := { x : List UInt8 × Nat × Nat // x.1 ++ fracT k x.2.2 x.2.1 = T ∧ x.2.1 < k ∧ x.2.1 * 10 ^ x.2.2 % k = 0 ∧ x.1.length + 30 * x.2.2 ≤ 400 }) (fun x => [(1, I k), (4, S []), (5, S x.1.1), (6, I x.1.2.1)]) (fun _ => []) (fun x => x.1.2.2) ?_ ⟨(s0, l0, 6), hT, hlk, hl6, hs0⟩
        rintro ⟨⟨s, l, f⟩, g1, g2, g3, g4⟩
        simp only at g1 g2 g3 g4
        conv => whnf
        refine vb_i (fun h => ?_) (fun h => ?_) <;> conv => whnf
        · have hl0 : l ≠ 0 := by (first | omega | (simp only [ilt_t, ilt_f, ile_t, ile_f, ieq_t, ieq_f, ofn, List.length_map, Bool.not_eq_true', Bool.not_eq_false'] at *; omega))
          cases f with
          | zero => exact absurd (by simpa [Nat.mod_eq_of_lt g2] using g3) hl0
          | succ f =>
            rw [frac_succ _ _ _ hl0] at g1
            have hm : imul .i64 (l : Int) (Int.ofNat 10) = ((l * 10 : Nat) : Int) := i_mulr (by omega)
            have hx : iquo .i64 (imul .i64 (l : Int) (Int.ofNat 10)) (k : Int) = ((l * 10 / k : Nat) : Int) := by rw [hm, i_quo (by omega)]
            have hr : irem (imul .i64 (l : Int) (Int.ofNat 10)) (k : Int) = ((l * 10 % k : Nat) : Int) := by rw [hm, u_rem]
            have hd := dig_small l k g2
            have hrm : roomS (s.length + (Lib.decDigits (l * 10 / k)).length) = true := roomS_t (by omega)
            repeat' (first
              | (refine vb_t rfl ?_; conv => whnf)
              | (refine vb_f rfl ?_; conv => whnf)
              | (refine vb_t (by assumption) ?_; conv => whnf)
              | (refine vb_f (by assumption) ?_; conv => whnf)
              | (refine vpur_i (itoa_ok' hx (Nat.le_trans (Nat.div_le_self _ _) (by omega)) []) ?_; conv => whnf)
              | (refine vb_t hrm ?_; conv => whnf)
              | fail)
            refine ⟨⟨(s ++ Lib.decDigits (l * 10 / k), l * 10 % k, f), by simp only [List.append_assoc]; exact g1, Nat.mod_lt _ (by omega), pow_mod k f l g3, by simp only [List.length_append]; omega⟩, by simp only; omega, cons_eq rfl (cons_eq rfl (cons_eq rfl (cons_eq (slot_eq (I_eq hr)) rfl))), rfl, rfl, rfl⟩
        · have hl0 : l = 0 := by (first | omega | (simp only [ilt_t, ilt_f, ile_t, ile_f, ieq_t, ieq_f, ofn, List.length_map, Bool.not_eq_true', Bool.not_eq_false'] at *; omega))
          subst hl0
          rw [frac_zero, List.append_nil] at g1
          subst g1
          repeat' (first
            | (refine vb_t rfl ?_; conv => whnf)
            | (refine vb_f rfl ?_; conv => whnf)
            | (refine vb_t (by assumption) ?_; conv => whnf)
            | (refine vb_f (by assumption) ?_; conv => whnf)
            | fail)
          exact ⟨rfl, rfl⟩
      · have q5 : ilt (Int.ofNat 0) (irem (n) (k : Int)) = false := by rw [hr0, ilt_f]; simp only [Int.ofNat_eq_natCast]; omega
        repeat' (first
          | (refine vb_t rfl ?_; conv => whnf)
          | (refine vb_f rfl ?_; conv => whnf)
          | (refine vb_t (by assumption) ?_; conv => whnf)
          | (refine vb_f (by assumption) ?_; conv => whnf)
          | (refine vpur_i (itoa_ok' hx0 (by omega) []) ?_; conv => whnf)
          | (refine vb_t (roomS_t (by simp; omega)) ?_; conv => whnf)
          | fail)
        rw [hr0]
        obtain ⟨l0, hl0⟩ : ∃ l0 : Nat, m % k = l0 := ⟨_, rfl⟩
        rw [if_neg hl, hl0] at hN
        rw [hl0] at hlk0 ⊢
        have hlk := hlk0
        have hl6 := pow_first k l0 hk
        obtain ⟨s0, hs⟩ : ∃ s0 : List UInt8, [] ++ Lib.decDigits (m / k) = s0 := ⟨_, rfl⟩
        have hs0 : s0.length + 30 * 6 ≤ 400 := by rw [← hs]; simp; omega
        refine vloop_eq2 (fr' := [(1, I k), (4, S []), (5, S s0), (6, I l0)]) (h' := []) ?_ rfl ?_
        · subst hs; rfl
        obtain ⟨T, hTe⟩ : ∃ T : List UInt8, numText n k = T := ⟨_, rfl⟩
        have hT : s0 ++ fracT k 6 l0 = T := by rw [← hTe, hN, ← hs]; simp
        rw [hTe]
        refine vloop_by (σ := { x : List UInt8 × Nat × Nat // x.1 ++ fracT k x.2.2 x.2.1 = T ∧ x.2.1 < k ∧ x.2.1 * 10 ^ x.2.2 % k = 0 ∧ x.1.length + 30 * x.2.2 ≤ 400 }) (fun x => [(1, I k), (4, S []), (5, S x.1.1), (6, I x.1.2.1)]) (fun _ => []) (fun x => x.1.2.2) ?_ ⟨(s0, l0, 6), hT, hlk, hl6, hs0⟩
        rintro ⟨⟨s, l, f⟩, g1, g2, g3, g4⟩
        simp only at g1 g2 g3 g4
        conv => whnf
        refine vb_i (fun h => ?_) (fun h => ?_) <;> conv => whnf
        · have hl0 : l ≠ 0 := by (first | omega | (simp only [ilt_t, ilt_f, ile_t, ile_f, ieq_t, ieq_f, ofn, List.length_map, Bool.not_eq_true', Bool.not_eq_false'] at *; omega))
          cases f with
          | zero => exact absurd (by simpa [Nat.mod_eq_of_lt g2] using g3) hl0
          | succ f =>
            rw [frac_succ _ _ _ hl0] at g1
            have hm : imul .i64 (l : Int) (Int.ofNat 10) = ((l * 10 : Nat) : Int) := i_mulr (by omega)
            have hx : iquo .i64 (imul .i64 (l : Int) (Int.ofNat 10)) (k : Int) = ((l * 10 / k : Nat) : Int) := by rw [hm, i_quo (by omega)]
            have hr : irem (imul .i64 (l : Int) (Int.ofNat 10)) (k : Int) = ((l * 10 % k : Nat) : Int) := by rw [hm, u_rem]
            have hd := dig_small l k g2
            have hrm : roomS (s.length + (Lib.decDigits (l * 10 / k)).length) = true := roomS_t (by omega)
            repeat' (first
              | (refine vb_t rfl ?_; conv => whnf)
              | (refine vb_f rfl ?_; conv => whnf)
              | (refine vb_t (by assumption) ?_; conv => whnf)
              | (refine vb_f (by assumption) ?_; conv => whnf)
              | (refine vpur_i (itoa_ok' hx (Nat.le_trans (Nat.div_le_self _ _) (by omega)) []) ?_; conv => whnf)
              | (refine vb_t hrm ?_; conv => whnf)
              | fail)
            refine ⟨⟨(s ++ Lib.decDigits (l * 10 / k), l * 10 % k, f), by simp only [List.append_assoc]; exact g1, Nat.mod_lt _ (by omega), pow_mod k f l g3, by simp only [List.length_append]; omega⟩, by simp only; omega, cons_eq rfl (cons_eq rfl (cons_eq rfl (cons_eq (slot_eq (I_eq hr)) rfl))), rfl, rfl, rfl⟩
        · have hl0 : l = 0 := by (first | omega | (simp only [ilt_t, ilt_f, ile_t, ile_f, ieq_t, ieq_f, ofn, List.length_map, Bool.not_eq_true', Bool.not_eq_false'] at *; omega))
          subst hl0
          rw [frac_zero, List.append_nil] at g1
          subst g1
          repeat' (first
            | (refine vb_t rfl ?_; conv => whnf)
            | (refine vb_f rfl ?_; conv => whnf)
            | (refine vb_t (by assumption) ?_; conv => whnf)
            | (refine vb_f (by assumption) ?_; conv => whnf)
            | fail)
          exact ⟨rfl, rfl⟩
  · have hN : numText n sc = [] := by unfold numText; rw [if_neg hg]
    rw [hN]
    refine pur_code (cf := cfn Tryz.f68) (by kernel_rfl) ?_
    conv => arg 3; reduce
    conv => whnf
    repeat' (first
      | (refine vb_t rfl ?_; conv => whnf)
      | (refine vb_f rfl ?_; conv => whnf)
      | (refine vb_t (by assumption) ?_; conv => whnf)
      | (refine vb_f (by assumption) ?_; conv => whnf)
      | (refine vpur_i (fixedIs_ok _) ?_; conv => whnf)
      | (refine vpur_i (isScale_ok _) ?_; conv => whnf)
      | (refine vb_i (fun h => ?_) (fun h => ?_) <;> conv => whnf)
      | fail)
    all_goals first
      | exact ⟨rfl, rfl⟩
      | (simp_all [isSc]; done)
theorem rowByte_dig (u : Nat) : textOf [[DV.int .u8 (icast .u8 (iadd .i64 (Int.ofNat 48) ((u % 10 : Nat) : Int)))]] = some [UInt8.ofNat (48 + u % 10)] := by
  have e : icast .u8 (iadd .i64 (Int.ofNat 48) ((u % 10 : Nat) : Int)) = ((UInt8.ofNat (48 + u % 10)).toNat : Int) := by
    rw [n_ofn, iadd64 (by omega) (by omega)]
    unfold icast
    simp only [IntKind.wrap, IntKind.signed, IntKind.bits, Bool.false_and, Bool.false_eq_true, if_false]
    rw [UInt8.toNat_ofNat']
    omega
  rw [e]
  exact textOf_bytes [UInt8.ofNat (48 + u % 10)]
theorem dec_small (u : Nat) (h : u < 10) : Lib.decDigits u = [UInt8.ofNat (48 + u % 10)] := by rw [Lib.decDigits_one h, Nat.mod_eq_of_lt h]
theorem dec_big (u : Nat) (h : ¬ u < 10) : Lib.decDigits u = Lib.decDigits (u / 10) ++ [UInt8.ofNat (48 + u % 10)] := by rw [Lib.decDigits, dif_neg h]
theorem whole_ok (u : Nat) (hu : u ≤ 4611686018427387904) : Pur F0 141 [I u] [] .no (.ret (S (Lib.decDigits u))) .no := by
  refine pur_code (cf := cfn Tryz.f141) (by kernel_rfl) ?_
  conv => arg 3; reduce
  conv => whnf
  have hl0 := dec_le u (by omega)
  refine vloop_by (σ := { x : Nat × List UInt8 // (if x.1 = 0 ∧ x.2 ≠ [] then x.2 else Lib.decDigits x.1 ++ x.2) = Lib.decDigits u ∧ x.1 ≤ u ∧ (x.1 = 0 → x.2 = []) }) (fun x => [(0, I x.1.1), (2, S []), (3, S x.1.2)]) (fun _ => []) (fun x => x.1.1 + (if x.1.2 = [] then 1 else 0)) ?_ ⟨(u, []), by simp, Nat.le_refl _, fun _ => rfl⟩
  rintro ⟨⟨n, s⟩, g1, g2, g3⟩
  simp only at g1 g2 g3
  have hg : Lib.decDigits n ++ s = Lib.decDigits u := by
    by_cases hn : n = 0
    · have := g3 hn; subst this; simpa using g1
    · rw [if_neg (by simp [hn])] at g1; exact g1
  have hlen : s.length ≤ 20 := by
    have := congrArg List.length hg
    simp only [List.length_append] at this
    omega
  have hz : iz (Int.ofNat 10) = false := iz_ten
  have e1 : irem (n : Int) (Int.ofNat 10) = ((n % 10 : Nat) : Int) := by rw [n_ofn, u_rem]
  have e2 : iquo .i64 (n : Int) (Int.ofNat 10) = ((n / 10 : Nat) : Int) := by rw [n_ofn, i_quo (by omega)]
  have ht : textOf (List.drop 0 (List.take 1 [[DV.int .u8 (icast .u8 (iadd .i64 (Int.ofNat 48) (irem (n : Int) (Int.ofNat 10))))]])) = some [UInt8.ofNat (48 + n % 10)] := by rw [e1]; exact rowByte_dig n
  have hrm : roomS (([UInt8.ofNat (48 + n % 10)] : List UInt8).length + s.length) = true := roomS_t (by simp; omega)
  conv => whnf
  by_cases hs : n < 10
  · have q : ieq (iquo .i64 (n : Int) (Int.ofNat 10)) (Int.ofNat 0) = true := by rw [e2, ieq_t]; simp only [Int.ofNat_eq_natCast]; omega
    rw [dec_small n hs] at hg
    repeat' (first
      | (refine vb_t rfl ?_; conv => whnf)
      | (refine vb_f rfl ?_; conv => whnf)
      | (refine vb_t (by assumption) ?_; conv => whnf)
      | (refine vb_f (by assumption) ?_; conv => whnf)
      | (refine vo_i ht ?_; conv => whnf)
      | (refine vb_t hrm ?_; conv => whnf)
      | fail)
    exact ⟨congrArg CR.ret (S_eq hg), rfl⟩
  · have q : ieq (iquo .i64 (n : Int) (Int.ofNat 10)) (Int.ofNat 0) = false := by rw [e2, ieq_f]; simp only [Int.ofNat_eq_natCast]; omega
    rw [dec_big n hs, List.append_assoc] at hg
    repeat' (first
      | (refine vb_t rfl ?_; conv => whnf)
      | (refine vb_f rfl ?_; conv => whnf)
      | (refine vb_t (by assumption) ?_; conv => whnf)
      | (refine vb_f (by assumption) ?_; conv => whnf)
      | (refine vo_i ht ?_; conv => whnf)
      | (refine vb_t hrm ?_; conv => whnf)
      | fail)
    refine ⟨⟨(n / 10, [UInt8.ofNat (48 + n % 10)] ++ s), ?_, by omega, fun h => by omega⟩, ?_, cons_eq (slot_eq (I_eq e2)) rfl, rfl, rfl, rfl⟩
    · simp only
      rw [if_neg (by omega)]; exact hg
    · simp only
      rw [if_neg (by simp)]
      split <;> omega
theorem whole_ok' {x : Int} {u : Nat} (hx : x = u) (hu : u ≤ 4611686018427387904) (h : Heap) (hh : h = [] := by rfl) : Pur F0 141 [I x] h .no (.ret (S (Lib.decDigits u))) .no := by subst hx hh; exact whole_ok u hu
theorem rtext_ok (n sc : Int) : Pur F0 98 [I n, I sc] [] .no (.ret (S (numText n sc))) .no := by
  by_cases hg : isPx n = true ∧ isSc sc
  · obtain ⟨hp, hsc⟩ := hg
    obtain ⟨k, rfl⟩ : ∃ k : Nat, sc = (k : Int) := ⟨sc.toNat, by unfold isSc at hsc; omega⟩
    have hk : k = 1 ∨ k = 64 ∨ k = 1000 := by unfold isSc at hsc; omega
    have hN : numText n k = (if n < 0 then [45] else []) ++ (Lib.decDigits (n.natAbs / k) ++ ((if 0 < n.natAbs % k then [46] else []) ++ fracT k 6 (n.natAbs % k))) := by
      unfold numText; rw [if_pos ⟨hp, hsc⟩]; rfl
    have hb : -68719476736 ≤ n ∧ n ≤ 68719476736 := by simpa [isPx] using hp
    obtain ⟨m, hm0⟩ : ∃ m : Nat, n.natAbs = m := ⟨_, rfl⟩
    have hmb : m ≤ 68719476736 := by omega
    rw [hm0] at hN
    refine pur_code (cf := cfn Tryz.f98) (by kernel_rfl) ?_
    conv => arg 3; reduce
    conv => whnf
    have q1 : (!isPx n) = false := by rw [hp]; rfl
    have q4 : iz (k : Int) = false := iz_u (by omega)
    have t1 : k = 1 ∧ (!ieq (k : Int) (Int.ofNat 1)) = false ∨ k ≠ 1 ∧ (!ieq (k : Int) (Int.ofNat 1)) = true := by simp only [Bool.not_eq_true', Bool.not_eq_false', ieq_t, ieq_f, Int.ofNat_eq_natCast]; omega
    have t2 : k = 64 ∧ (!ieq (k : Int) (Int.ofNat 64)) = false ∨ k ≠ 64 ∧ (!ieq (k : Int) (Int.ofNat 64)) = true := by simp only [Bool.not_eq_true', Bool.not_eq_false', ieq_t, ieq_f, Int.ofNat_eq_natCast]; omega
    have t3 : k = 1000 ∧ (!ieq (k : Int) (Int.ofNat 1000)) = false ∨ k ≠ 1000 ∧ (!ieq (k : Int) (Int.ofNat 1000)) = true := by simp only [Bool.not_eq_true', Bool.not_eq_false', ieq_t, ieq_f, Int.ofNat_eq_natCast]; omega
    have t4 : (!ieq (k : Int) (Int.ofNat 1)) = false ∨ (!ieq (k : Int) (Int.ofNat 1)) = true ∧ ((!ieq (k : Int) (Int.ofNat 64)) = false ∨ (!ieq (k : Int) (Int.ofNat 64)) = true ∧ (!ieq (k : Int) (Int.ofNat 1000)) = false) := by
      rcases t1 with ⟨a1, a2⟩ | ⟨a1, a2⟩
      · exact .inl a2
      rcases t2 with ⟨b1, b2⟩ | ⟨b1, b2⟩
      · exact .inr ⟨a2, .inl b2⟩
      rcases t3 with ⟨c1, c2⟩ | ⟨c1, c2⟩
      · exact .inr ⟨a2, .inr ⟨b2, c2⟩⟩
      · omega
    clear t1 t2 t3
    by_cases hn : n < 0
    · rw [if_pos hn] at hN
      have q3 : ilt n (Int.ofNat 0) = true := by rw [ilt_t]; exact hn
      have hmm : isub .i64 (Int.ofNat 0) n = (m : Int) := by
        have e : isub .i64 (Int.ofNat 0) n = isub .i64 0 n := rfl
        rw [e, isub64 (by omega) (by omega)]; omega
      rcases t4 with t4 | ⟨t4, t5 | ⟨t5, t6⟩⟩
      · repeat' (first
          | (refine vb_t rfl ?_; conv => whnf)
          | (refine vb_f rfl ?_; conv => whnf)
          | (refine vb_t (by assumption) ?_; conv => whnf)
          | (refine vb_f (by assumption) ?_; conv => whnf)
          | (refine vpur_i (refIs_ok _) ?_; conv => whnf)
          | fail)
        have hx0 : iquo .i64 (isub .i64 (Int.ofNat 0) n) (k : Int) = ((m / k : Nat) : Int) := by rw [hmm, i_quo (by omega)]
        have hr0 : irem (isub .i64 (Int.ofNat 0) n) (k : Int) = ((m % k : Nat) : Int) := by rw [hmm, u_rem]
        have hmk : m / k ≤ m := Nat.div_le_self _ _
        have hd0 := dec_le (m / k) (by omega)
        have hlk0 : m % k < k := Nat.mod_lt _ (by omega)
        by_cases hl : 0 < m % k
        · have q5 : ilt (Int.ofNat 0) (irem (isub .i64 (Int.ofNat 0) n) (k : Int)) = true := by rw [hr0, ilt_t]; simp only [Int.ofNat_eq_natCast]; omega
          repeat' (first
            | (refine vb_t rfl ?_; conv => whnf)
            | (refine vb_f rfl ?_; conv => whnf)
            | (refine vb_t (by assumption) ?_; conv => whnf)
            | (refine vb_f (by assumption) ?_; conv => whnf)
            | (refine vpur_i (whole_ok' hx0 (by omega) []) ?_; conv => whnf)
            | (refine vb_t (roomS_t (by simp; omega)) ?_; conv => whnf)
            | fail)
          rw [hr0]
          obtain ⟨l0, hl0⟩ : ∃ l0 : Nat, m % k = l0 := ⟨_, rfl⟩
          rw [if_pos hl, hl0] at hN
          rw [hl0] at hlk0 ⊢
          have hlk := hlk0
          have hl6 := pow_first k l0 hk
          obtain ⟨s0, hs⟩ : ∃ s0 : List UInt8, ([45] ++ Lib.decDigits (m / k)) ++ [46] = s0 := ⟨_, rfl⟩
          have hs0 : s0.length + 30 * 6 ≤ 400 := by rw [← hs]; simp; omega
          refine vloop_eq2 (fr' := [(1, I k), (4, S []), (5, S s0), (6, I l0)]) (h' := []) ?_ rfl ?_
          · subst hs; rfl
          obtain ⟨T, hTe⟩ : ∃ T : List UInt8, numText n k = T := ⟨_, rfl⟩
          have hT : s0 ++ fracT k 6 l0 = T := by rw [← hTe, hN, ← hs]; simp
          rw [hTe]
          refine vloop_by (σ := { x : List UInt8 × Nat × Nat // x.1 ++ fracT k x.2.2 x.2.1 = T ∧ x.2.1 < k ∧ x.2.1 * 10 ^ x.2.2 % k = 0 ∧ x.1.length + 30 * x.2.2 ≤ 400 }) (fun x => [(1, I k), (4, S []), (5, S x.1.1), (6, I x.1.2.1)]) (fun _ => []) (fun x => x.1.2.2) ?_ ⟨(s0, l0, 6), hT, hlk, hl6, hs0⟩
          rintro ⟨⟨s, l, f⟩, g1, g2, g3, g4⟩
          simp only at g1 g2 g3 g4
          conv => whnf
          refine vb_i (fun h => ?_) (fun h => ?_) <;> conv => whnf
          · have hl0 : l ≠ 0 := by (first | omega | (simp only [ilt_t, ilt_f, ile_t, ile_f, ieq_t, ieq_f, ofn, List.length_map, Bool.not_eq_true', Bool.not_eq_false'] at *; omega))
            cases f with
            | zero => exact absurd (by simpa [Nat.mod_eq_of_lt g2] using g3) hl0
            | succ f =>
              rw [frac_succ _ _ _ hl0] at g1
              have hm : imul .i64 (Int.ofNat 10) (l : Int) = ((l * 10 : Nat) : Int) := i_mull (by omega)
              have hx : iquo .i64 (imul .i64 (Int.ofNat 10) (l : Int)) (k : Int) = ((l * 10 / k : Nat) : Int) := by rw [hm, i_quo (by omega)]
              have hr : irem (imul .i64 (Int.ofNat 10) (l : Int)) (k : Int) = ((l * 10 % k : Nat) : Int) := by rw [hm, u_rem]
              have hd := dig_small l k g2
              have hrm : roomS (s.length + (Lib.decDigits (l * 10 / k)).length) = true := roomS_t (by omega)
              repeat' (first
                | (refine vb_t rfl ?_; conv => whnf)
                | (refine vb_f rfl ?_; conv => whnf)
                | (refine vb_t (by assumption) ?_; conv => whnf)
                | (refine vb_f (by assumption) ?_; conv => whnf)
                | (refine vpur_i (whole_ok' hx (Nat.le_trans (Nat.div_le_self _ _) (by omega)) []) ?_; conv => whnf)
                | (refine vb_t hrm ?_; conv => whnf)
                | fail)
              refine ⟨⟨(s ++ Lib.decDigits (l * 10 / k), l * 10 % k, f), by simp only [List.append_assoc]; exact g1, Nat.mod_lt _ (by omega), pow_mod k f l g3, by simp only [List.length_append]; omega⟩, by simp only; omega, cons_eq rfl (cons_eq rfl (cons_eq rfl (cons_eq (slot_eq (I_eq hr)) rfl))), rfl, rfl, rfl⟩
          · have hl0 : l = 0 := by (first | omega | (simp only [ilt_t, ilt_f, ile_t, ile_f, ieq_t, ieq_f, ofn, List.length_map, Bool.not_eq_true', Bool.not_eq_false'] at *; omega))
            subst hl0
            rw [frac_zero, List.append_nil] at g1
            subst g1
            repeat' (first
              | (refine vb_t rfl ?_; conv => whnf)
              | (refine vb_f rfl ?_; conv => whnf)
              | (refine vb_t (by assumption) ?_; conv => whnf)
              | (refine vb_f (by assumption) ?_; conv => whnf)
              | fail)
            exact ⟨rfl, rfl⟩
        · have q5 : ilt (Int.ofNat 0) (irem (isub .i64 (Int.ofNat 0) n) (k : Int)) = false := by rw [hr0, ilt_f]; simp only [Int.ofNat_eq_natCast]; omega
          repeat' (first
            | (refine vb_t rfl ?_; conv => whnf)
            | (refine vb_f rfl ?_; conv => whnf)
            | (refine vb_t (by assumption) ?_; conv => whnf)
            | (refine vb_f (by assumption) ?_; conv => whnf)
            | (refine vpur_i (whole_ok' hx0 (by omega) []) ?_; conv => whnf)
            | (refine vb_t (roomS_t (by simp; omega)) ?_; conv => whnf)
            | fail)
          rw [hr0]
          obtain ⟨l0, hl0⟩ : ∃ l0 : Nat, m % k = l0 := ⟨_, rfl⟩
          rw [if_neg hl, hl0] at hN
          rw [hl0] at hlk0 ⊢
          have hlk := hlk0
          have hl6 := pow_first k l0 hk
          obtain ⟨s0, hs⟩ : ∃ s0 : List UInt8, [45] ++ Lib.decDigits (m / k) = s0 := ⟨_, rfl⟩
          have hs0 : s0.length + 30 * 6 ≤ 400 := by rw [← hs]; simp; omega
          refine vloop_eq2 (fr' := [(1, I k), (4, S []), (5, S s0), (6, I l0)]) (h' := []) ?_ rfl ?_
          · subst hs; rfl
          obtain ⟨T, hTe⟩ : ∃ T : List UInt8, numText n k = T := ⟨_, rfl⟩
          have hT : s0 ++ fracT k 6 l0 = T := by rw [← hTe, hN, ← hs]; simp
          rw [hTe]
          refine vloop_by (σ := { x : List UInt8 × Nat × Nat // x.1 ++ fracT k x.2.2 x.2.1 = T ∧ x.2.1 < k ∧ x.2.1 * 10 ^ x.2.2 % k = 0 ∧ x.1.length + 30 * x.2.2 ≤ 400 }) (fun x => [(1, I k), (4, S []), (5, S x.1.1), (6, I x.1.2.1)]) (fun _ => []) (fun x => x.1.2.2) ?_ ⟨(s0, l0, 6), hT, hlk, hl6, hs0⟩
          rintro ⟨⟨s, l, f⟩, g1, g2, g3, g4⟩
          simp only at g1 g2 g3 g4
          conv => whnf
          refine vb_i (fun h => ?_) (fun h => ?_) <;> conv => whnf
          · have hl0 : l ≠ 0 := by (first | omega | (simp only [ilt_t, ilt_f, ile_t, ile_f, ieq_t, ieq_f, ofn, List.length_map, Bool.not_eq_true', Bool.not_eq_false'] at *; omega))
            cases f with
            | zero => exact absurd (by simpa [Nat.mod_eq_of_lt g2] using g3) hl0
            | succ f =>
              rw [frac_succ _ _ _ hl0] at g1
              have hm : imul .i64 (Int.ofNat 10) (l : Int) = ((l * 10 : Nat) : Int) := i_mull (by omega)
              have hx : iquo .i64 (imul .i64 (Int.ofNat 10) (l : Int)) (k : Int) = ((l * 10 / k : Nat) : Int) := by rw [hm, i_quo (by omega)]
              have hr : irem (imul .i64 (Int.ofNat 10) (l : Int)) (k : Int) = ((l * 10 % k : Nat) : Int) := by rw [hm, u_rem]
              have hd := dig_small l k g2
              have hrm : roomS (s.length + (Lib.decDigits (l * 10 / k)).length) = true := roomS_t (by omega)
              repeat' (first
                | (refine vb_t rfl ?_; conv => whnf)
                | (refine vb_f rfl ?_; conv => whnf)
                | (refine vb_t (by assumption) ?_; conv => whnf)
                | (refine vb_f (by assumption) ?_; conv => whnf)
                | (refine vpur_i (whole_ok' hx (Nat.le_trans (Nat.div_le_self _ _) (by omega)) []) ?_; conv => whnf)
                | (refine vb_t hrm ?_; conv => whnf)
                | fail)
              refine ⟨⟨(s ++ Lib.decDigits (l * 10 / k), l * 10 % k, f), by simp only [List.append_assoc]; exact g1, Nat.mod_lt _ (by omega), pow_mod k f l g3, by simp only [List.length_append]; omega⟩, by simp only; omega, cons_eq rfl (cons_eq rfl (cons_eq rfl (cons_eq (slot_eq (I_eq hr)) rfl))), rfl, rfl, rfl⟩
          · have hl0 : l = 0 := by (first | omega | (simp only [ilt_t, ilt_f, ile_t, ile_f, ieq_t, ieq_f, ofn, List.length_map, Bool.not_eq_true', Bool.not_eq_false'] at *; omega))
            subst hl0
            rw [frac_zero, List.append_nil] at g1
            subst g1
            repeat' (first
              | (refine vb_t rfl ?_; conv => whnf)
              | (refine vb_f rfl ?_; conv => whnf)
              | (refine vb_t (by assumption) ?_; conv => whnf)
              | (refine vb_f (by assumption) ?_; conv => whnf)
              | fail)
            exact ⟨rfl, rfl⟩
      · repeat' (first
          | (refine vb_t rfl ?_; conv => whnf)
          | (refine vb_f rfl ?_; conv => whnf)
          | (refine vb_t (by assumption) ?_; conv => whnf)
          | (refine vb_f (by assumption) ?_; conv => whnf)
          | (refine vpur_i (refIs_ok _) ?_; conv => whnf)
          | fail)
        have hx0 : iquo .i64 (isub .i64 (Int.ofNat 0) n) (k : Int) = ((m / k : Nat) : Int) := by rw [hmm, i_quo (by omega)]
        have hr0 : irem (isub .i64 (Int.ofNat 0) n) (k : Int) = ((m % k : Nat) : Int) := by rw [hmm, u_rem]
        have hmk : m / k ≤ m := Nat.div_le_self _ _
        have hd0 := dec_le (m / k) (by omega)
        have hlk0 : m % k < k := Nat.mod_lt _ (by omega)
        by_cases hl : 0 < m % k
        · have q5 : ilt (Int.ofNat 0) (irem (isub .i64 (Int.ofNat 0) n) (k : Int)) = true := by rw [hr0, ilt_t]; simp only [Int.ofNat_eq_natCast]; omega
          repeat' (first
            | (refine vb_t rfl ?_; conv => whnf)
            | (refine vb_f rfl ?_; conv => whnf)
            | (refine vb_t (by assumption) ?_; conv => whnf)
            | (refine vb_f (by assumption) ?_; conv => whnf)
            | (refine vpur_i (whole_ok' hx0 (by omega) []) ?_; conv => whnf)
            | (refine vb_t (roomS_t (by simp; omega)) ?_; conv => whnf)
            | fail)
          rw [hr0]
          obtain ⟨l0, hl0⟩ : ∃ l0 : Nat, m % k = l0 := ⟨_, rfl⟩
          rw [if_pos hl, hl0] at hN
          rw [hl0] at hlk0 ⊢
          have hlk := hlk0
          have hl6 := pow_first k l0 hk
          obtain ⟨s0, hs⟩ : ∃ s0 : List UInt8, ([45] ++ Lib.decDigits (m / k)) ++ [46] = s0 := ⟨_, rfl⟩
          have hs0 : s0.length + 30 * 6 ≤ 400 := by rw [← hs]; simp; omega
          refine vloop_eq2 (fr' := [(1, I k), (4, S []), (5, S s0), (6, I l0)]) (h' := []) ?_ rfl ?_
          · subst hs; rfl
          obtain ⟨T, hTe⟩ : ∃ T : List UInt8, numText n k = T := ⟨_, rfl⟩
          have hT : s0 ++ fracT k 6 l0 = T := by rw [← hTe, hN, ← hs]; simp
          rw [hTe]
          refine vloop_by (σ := { x : List UInt8 × Nat × Nat // x.1 ++ fracT k x.2.2 x.2.1 = T ∧ x.2.1 < k ∧ x.2.1 * 10 ^ x.2.2 % k = 0 ∧ x.1.length + 30 * x.2.2 ≤ 400 }) (fun x => [(1, I k), (4, S []), (5, S x.1.1), (6, I x.1.2.1)]) (fun _ => []) (fun x => x.1.2.2) ?_ ⟨(s0, l0, 6), hT, hlk, hl6, hs0⟩
          rintro ⟨⟨s, l, f⟩, g1, g2, g3, g4⟩
          simp only at g1 g2 g3 g4
          conv => whnf
          refine vb_i (fun h => ?_) (fun h => ?_) <;> conv => whnf
          · have hl0 : l ≠ 0 := by (first | omega | (simp only [ilt_t, ilt_f, ile_t, ile_f, ieq_t, ieq_f, ofn, List.length_map, Bool.not_eq_true', Bool.not_eq_false'] at *; omega))
            cases f with
            | zero => exact absurd (by simpa [Nat.mod_eq_of_lt g2] using g3) hl0
            | succ f =>
              rw [frac_succ _ _ _ hl0] at g1
              have hm : imul .i64 (Int.ofNat 10) (l : Int) = ((l * 10 : Nat) : Int) := i_mull (by omega)
              have hx : iquo .i64 (imul .i64 (Int.ofNat 10) (l : Int)) (k : Int) = ((l * 10 / k : Nat) : Int) := by rw [hm, i_quo (by omega)]
              have hr : irem (imul .i64 (Int.ofNat 10) (l : Int)) (k : Int) = ((l * 10 % k : Nat) : Int) := by rw [hm, u_rem]
              have hd := dig_small l k g2
              have hrm : roomS (s.length + (Lib.decDigits (l * 10 / k)).length) = true := roomS_t (by omega)
              repeat' (first
                | (refine vb_t rfl ?_; conv => whnf)
                | (refine vb_f rfl ?_; conv => whnf)
                | (refine vb_t (by assumption) ?_; conv => whnf)
                | (refine vb_f (by assumption) ?_; conv => whnf)
                | (refine vpur_i (whole_ok' hx (Nat.le_trans (Nat.div_le_self _ _) (by omega)) []) ?_; conv => whnf)
                | (refine vb_t hrm ?_; conv => whnf)
                | fail)
              refine ⟨⟨(s ++ Lib.decDigits (l * 10 / k), l * 10 % k, f), by simp only [List.append_assoc]; exact g1, Nat.mod_lt _ (by omega), pow_mod k f l g3, by simp only [List.length_append]; omega⟩, by simp only; omega, cons_eq rfl (cons_eq rfl (cons_eq rfl (cons_eq (slot_eq (I_eq hr)) rfl))), rfl, rfl, rfl⟩
          · have hl0 : l = 0 := by (first | omega | (simp only [ilt_t, ilt_f, ile_t, ile_f, ieq_t, ieq_f, ofn, List.length_map, Bool.not_eq_true', Bool.not_eq_false'] at *; omega))
            subst hl0
            rw [frac_zero, List.append_nil] at g1
            subst g1
            repeat' (first
              | (refine vb_t rfl ?_; conv => whnf)
              | (refine vb_f rfl ?_; conv => whnf)
              | (refine vb_t (by assumption) ?_; conv => whnf)
              | (refine vb_f (by assumption) ?_; conv => whnf)
              | fail)
            exact ⟨rfl, rfl⟩
        · have q5 : ilt (Int.ofNat 0) (irem (isub .i64 (Int.ofNat 0) n) (k : Int)) = false := by rw [hr0, ilt_f]; simp only [Int.ofNat_eq_natCast]; omega
          repeat' (first
            | (refine vb_t rfl ?_; conv => whnf)
            | (refine vb_f rfl ?_; conv => whnf)
            | (refine vb_t (by assumption) ?_; conv => whnf)
            | (refine vb_f (by assumption) ?_; conv => whnf)
            | (refine vpur_i (whole_ok' hx0 (by omega) []) ?_; conv => whnf)
            | (refine vb_t (roomS_t (by simp; omega)) ?_; conv => whnf)
            | fail)
          rw [hr0]
          obtain ⟨l0, hl0⟩ : ∃ l0 : Nat, m % k = l0 := ⟨_, rfl⟩
          rw [if_neg hl, hl0] at hN
          rw [hl0] at hlk0 ⊢
          have hlk := hlk0
          have hl6 := pow_first k l0 hk
          obtain ⟨s0, hs⟩ : ∃ s0 : List UInt8, [45] ++ Lib.decDigits (m / k) = s0 := ⟨_, rfl⟩
          have hs0 : s0.length + 30 * 6 ≤ 400 := by rw [← hs]; simp; omega
          refine vloop_eq2 (fr' := [(1, I k), (4, S []), (5, S s0), (6, I l0)]) (h' := []) ?_ rfl ?_
          · subst hs; rfl
          obtain ⟨T, hTe⟩ : ∃ T : List UInt8, numText n k = T := ⟨_, rfl⟩
          have hT : s0 ++ fracT k 6 l0 = T := by rw [← hTe, hN, ← hs]; simp
          rw [hTe]
          refine vloop_by (σ := { x : List UInt8 × Nat × Nat // x.1 ++ fracT k x.2.2 x.2.1 = T ∧ x.2.1 < k ∧ x.2.1 * 10 ^ x.2.2 % k = 0 ∧ x.1.length + 30 * x.2.2 ≤ 400 }) (fun x => [(1, I k), (4, S []), (5, S x.1.1), (6, I x.1.2.1)]) (fun _ => []) (fun x => x.1.2.2) ?_ ⟨(s0, l0, 6), hT, hlk, hl6, hs0⟩
          rintro ⟨⟨s, l, f⟩, g1, g2, g3, g4⟩
          simp only at g1 g2 g3 g4
          conv => whnf
          refine vb_i (fun h => ?_) (fun h => ?_) <;> conv => whnf
          · have hl0 : l ≠ 0 := by (first | omega | (simp only [ilt_t, ilt_f, ile_t, ile_f, ieq_t, ieq_f, ofn, List.length_map, Bool.not_eq_true', Bool.not_eq_false'] at *; omega))
            cases f with
            | zero => exact absurd (by simpa [Nat.mod_eq_of_lt g2] using g3) hl0
            | succ f =>
              rw [frac_succ _ _ _ hl0] at g1
              have hm : imul .i64 (Int.ofNat 10) (l : Int) = ((l * 10 : Nat) : Int) := i_mull (by omega)
              have hx : iquo .i64 (imul .i64 (Int.ofNat 10) (l : Int)) (k : Int) = ((l * 10 / k : Nat) : Int) := by rw [hm, i_quo (by omega)]
              have hr : irem (imul .i64 (Int.ofNat 10) (l : Int)) (k : Int) = ((l * 10 % k : Nat) : Int) := by rw [hm, u_rem]
              have hd := dig_small l k g2
              have hrm : roomS (s.length + (Lib.decDigits (l * 10 / k)).length) = true := roomS_t (by omega)
              repeat' (first
                | (refine vb_t rfl ?_; conv => whnf)
                | (refine vb_f rfl ?_; conv => whnf)
                | (refine vb_t (by assumption) ?_; conv => whnf)
                | (refine vb_f (by assumption) ?_; conv => whnf)
                | (refine vpur_i (whole_ok' hx (Nat.le_trans (Nat.div_le_self _ _) (by omega)) []) ?_; conv => whnf)
                | (refine vb_t hrm ?_; conv => whnf)
                | fail)
              refine ⟨⟨(s ++ Lib.decDigits (l * 10 / k), l * 10 % k, f), by simp only [List.append_assoc]; exact g1, Nat.mod_lt _ (by omega), pow_mod k f l g3, by simp only [List.length_append]; omega⟩, by simp only; omega, cons_eq rfl (cons_eq rfl (cons_eq rfl (cons_eq (slot_eq (I_eq hr)) rfl))), rfl, rfl, rfl⟩
          · have hl0 : l = 0 := by (first | omega | (simp only [ilt_t, ilt_f, ile_t, ile_f, ieq_t, ieq_f, ofn, List.length_map, Bool.not_eq_true', Bool.not_eq_false'] at *; omega))
            subst hl0
            rw [frac_zero, List.append_nil] at g1
            subst g1
            repeat' (first
              | (refine vb_t rfl ?_; conv => whnf)
              | (refine vb_f rfl ?_; conv => whnf)
              | (refine vb_t (by assumption) ?_; conv => whnf)
              | (refine vb_f (by assumption) ?_; conv => whnf)
              | fail)
            exact ⟨rfl, rfl⟩
      · repeat' (first
          | (refine vb_t rfl ?_; conv => whnf)
          | (refine vb_f rfl ?_; conv => whnf)
          | (refine vb_t (by assumption) ?_; conv => whnf)
          | (refine vb_f (by assumption) ?_; conv => whnf)
          | (refine vpur_i (refIs_ok _) ?_; conv => whnf)
          | fail)
        have hx0 : iquo .i64 (isub .i64 (Int.ofNat 0) n) (k : Int) = ((m / k : Nat) : Int) := by rw [hmm, i_quo (by omega)]
        have hr0 : irem (isub .i64 (Int.ofNat 0) n) (k : Int) = ((m % k : Nat) : Int) := by rw [hmm, u_rem]
        have hmk : m / k ≤ m := Nat.div_le_self _ _
        have hd0 := dec_le (m / k) (by omega)
        have hlk0 : m % k < k := Nat.mod_lt _ (by omega)
        by_cases hl : 0 < m % k
        · have q5 : ilt (Int.ofNat 0) (irem (isub .i64 (Int.ofNat 0) n) (k : Int)) = true := by rw [hr0, ilt_t]; simp only [Int.ofNat_eq_natCast]; omega
          repeat' (first
            | (refine vb_t rfl ?_; conv => whnf)
            | (refine vb_f rfl ?_; conv => whnf)
            | (refine vb_t (by assumption) ?_; conv => whnf)
            | (refine vb_f (by assumption) ?_; conv => whnf)
            | (refine vpur_i (whole_ok' hx0 (by omega) []) ?_; conv => whnf)
            | (refine vb_t (roomS_t (by simp; omega)) ?_; conv => whnf)
            | fail)
          rw [hr0]
          obtain ⟨l0, hl0⟩ : ∃ l0 : Nat, m % k = l0 := ⟨_, rfl⟩
          rw [if_pos hl, hl0] at hN
          rw [hl0] at hlk0 ⊢
          have hlk := hlk0
          have hl6 := pow_first k l0 hk
          obtain ⟨s0, hs⟩ : ∃ s0 : List UInt8, ([45] ++ Lib.decDigits (m / k)) ++ [46] = s0 := ⟨_, rfl⟩
          have hs0 : s0.length + 30 * 6 ≤ 400 := by rw [← hs]; simp; omega
          refine vloop_eq2 (fr' := [(1, I k), (4, S []), (5, S s0), (6, I l0)]) (h' := []) ?_ rfl ?_
          · subst hs; rfl
          obtain ⟨T, hTe⟩ : ∃ T : List UInt8, numText n k = T := ⟨_, rfl⟩
          have hT : s0 ++ fracT k 6 l0 = T := by rw [← hTe, hN, ← hs]; simp
          rw [hTe]
          refine vloop_by (σ := { x : List UInt8 × Nat × Nat // x.1 ++ fracT k x.2.2 x.2.1 = T ∧ x.2.1 < k ∧ x.2.1 * 10 ^ x.2.2 % k = 0 ∧ x.1.length + 30 * x.2.2 ≤ 400 }) (fun x => [(1, I k), (4, S []), (5, S x.1.1), (6, I x.1.2.1)]) (fun _ => []) (fun x => x.1.2.2) ?_ ⟨(s0, l0, 6), hT, hlk, hl6, hs0⟩
          rintro ⟨⟨s, l, f⟩, g1, g2, g3, g4⟩
          simp only at g1 g2 g3 g4
          conv => whnf
          refine vb_i (fun h => ?_) (fun h => ?_) <;> conv => whnf
          · have hl0 : l ≠ 0 := by (first | omega | (simp only [ilt_t, ilt_f, ile_t, ile_f, ieq_t, ieq_f, ofn, List.length_map, Bool.not_eq_true', Bool.not_eq_false'] at *; omega))
            cases f with
            | zero => exact absurd (by simpa [Nat.mod_eq_of_lt g2] using g3) hl0
            | succ f =>
              rw [frac_succ _ _ _ hl0] at g1
              have hm : imul .i64 (Int.ofNat 10) (l : Int) = ((l * 10 : Nat) : Int) := i_mull (by omega)
              have hx : iquo .i64 (imul .i64 (Int.ofNat 10) (l : Int)) (k : Int) = ((l * 10 / k : Nat) : Int) := by rw [hm, i_quo (by omega)]
              have hr : irem (imul .i64 (Int.ofNat 10) (l : Int)) (k : Int) = ((l * 10 % k : Nat) : Int) := by rw [hm, u_rem]
              have hd := dig_small l k g2
              have hrm : roomS (s.length + (Lib.decDigits (l * 10 / k)).length) = true := roomS_t (by omega)
              repeat' (first
                | (refine vb_t rfl ?_; conv => whnf)
                | (refine vb_f rfl ?_; conv => whnf)
                | (refine vb_t (by assumption) ?_; conv => whnf)
                | (refine vb_f (by assumption) ?_; conv => whnf)
                | (refine vpur_i (whole_ok' hx (Nat.le_trans (Nat.div_le_self _ _) (by omega)) []) ?_; conv => whnf)
                | (refine vb_t hrm ?_; conv => whnf)
                | fail)
              refine ⟨⟨(s ++ Lib.decDigits (l * 10 / k), l * 10 % k, f), by simp only [List.append_assoc]; exact g1, Nat.mod_lt _ (by omega), pow_mod k f l g3, by simp only [List.length_append]; omega⟩, by simp only; omega, cons_eq rfl (cons_eq rfl (cons_eq rfl (cons_eq (slot_eq (I_eq hr)) rfl))), rfl, rfl, rfl⟩
          · have hl0 : l = 0 := by (first | omega | (simp only [ilt_t, ilt_f, ile_t, ile_f, ieq_t, ieq_f, ofn, List.length_map, Bool.not_eq_true', Bool.not_eq_false'] at *; omega))
            subst hl0
            rw [frac_zero, List.append_nil] at g1
            subst g1
            repeat' (first
              | (refine vb_t rfl ?_; conv => whnf)
              | (refine vb_f rfl ?_; conv => whnf)
              | (refine vb_t (by assumption) ?_; conv => whnf)
              | (refine vb_f (by assumption) ?_; conv => whnf)
              | fail)
            exact ⟨rfl, rfl⟩
        · have q5 : ilt (Int.ofNat 0) (irem (isub .i64 (Int.ofNat 0) n) (k : Int)) = false := by rw [hr0, ilt_f]; simp only [Int.ofNat_eq_natCast]; omega
          repeat' (first
            | (refine vb_t rfl ?_; conv => whnf)
            | (refine vb_f rfl ?_; conv => whnf)
            | (refine vb_t (by assumption) ?_; conv => whnf)
            | (refine vb_f (by assumption) ?_; conv => whnf)
            | (refine vpur_i (whole_ok' hx0 (by omega) []) ?_; conv => whnf)
            | (refine vb_t (roomS_t (by simp; omega)) ?_; conv => whnf)
            | fail)
          rw [hr0]
          obtain ⟨l0, hl0⟩ : ∃ l0 : Nat, m % k = l0 := ⟨_, rfl⟩
          rw [if_neg hl, hl0] at hN
          rw [hl0] at hlk0 ⊢
          have hlk := hlk0
          have hl6 := pow_first k l0 hk
          obtain ⟨s0, hs⟩ : ∃ s0 : List UInt8, [45] ++ Lib.decDigits (m / k) = s0 := ⟨_, rfl⟩
          have hs0 : s0.length + 30 * 6 ≤ 400 := by rw [← hs]; simp; omega
          refine vloop_eq2 (fr' := [(1, I k), (4, S []), (5, S s0), (6, I l0)]) (h' := []) ?_ rfl ?_
          · subst hs; rfl
          obtain ⟨T, hTe⟩ : ∃ T : List UInt8, numText n k = T := ⟨_, rfl⟩
          have hT : s0 ++ fracT k 6 l0 = T := by rw [← hTe, hN, ← hs]; simp
          rw [hTe]
          refine vloop_by (σ := { x : List UInt8 × Nat × Nat // x.1 ++ fracT k x.2.2 x.2.1 = T ∧ x.2.1 < k ∧ x.2.1 * 10 ^ x.2.2 % k = 0 ∧ x.1.length + 30 * x.2.2 ≤ 400 }) (fun x => [(1, I k), (4, S []), (5, S x.1.1), (6, I x.1.2.1)]) (fun _ => []) (fun x => x.1.2.2) ?_ ⟨(s0, l0, 6), hT, hlk, hl6, hs0⟩
          rintro ⟨⟨s, l, f⟩, g1, g2, g3, g4⟩
          simp only at g1 g2 g3 g4
          conv => whnf
          refine vb_i (fun h => ?_) (fun h => ?_) <;> conv => whnf
          · have hl0 : l ≠ 0 := by (first | omega | (simp only [ilt_t, ilt_f, ile_t, ile_f, ieq_t, ieq_f, ofn, List.length_map, Bool.not_eq_true', Bool.not_eq_false'] at *; omega))
            cases f with
            | zero => exact absurd (by simpa [Nat.mod_eq_of_lt g2] using g3) hl0
            | succ f =>
              rw [frac_succ _ _ _ hl0] at g1
              have hm : imul .i64 (Int.ofNat 10) (l : Int) = ((l * 10 : Nat) : Int) := i_mull (by omega)
              have hx : iquo .i64 (imul .i64 (Int.ofNat 10) (l : Int)) (k : Int) = ((l * 10 / k : Nat) : Int) := by rw [hm, i_quo (by omega)]
              have hr : irem (imul .i64 (Int.ofNat 10) (l : Int)) (k : Int) = ((l * 10 % k : Nat) : Int) := by rw [hm, u_rem]
              have hd := dig_small l k g2
              have hrm : roomS (s.length + (Lib.decDigits (l * 10 / k)).length) = true := roomS_t (by omega)
              repeat' (first
                | (refine vb_t rfl ?_; conv => whnf)
                | (refine vb_f rfl ?_; conv => whnf)
                | (refine vb_t (by assumption) ?_; conv => whnf)
                | (refine vb_f (by assumption) ?_; conv => whnf)
                | (refine vpur_i (whole_ok' hx (Nat.le_trans (Nat.div_le_self _ _) (by omega)) []) ?_; conv => whnf)
                | (refine vb_t hrm ?_; conv => whnf)
                | fail)
              refine ⟨⟨(s ++ Lib.decDigits (l * 10 / k), l * 10 % k, f), by simp only [List.append_assoc]; exact g1, Nat.mod_lt _ (by omega), pow_mod k f l g3, by simp only [List.length_append]; omega⟩, by simp only; omega, cons_eq rfl (cons_eq rfl (cons_eq rfl (cons_eq (slot_eq (I_eq hr)) rfl))), rfl, rfl, rfl⟩
          · have hl0 : l = 0 := by (first | omega | (simp only [ilt_t, ilt_f, ile_t, ile_f, ieq_t, ieq_f, ofn, List.length_map, Bool.not_eq_true', Bool.not_eq_false'] at *; omega))
            subst hl0
            rw [frac_zero, List.append_nil] at g1
            subst g1
            repeat' (first
              | (refine vb_t rfl ?_; conv => whnf)
              | (refine vb_f rfl ?_; conv => whnf)
              | (refine vb_t (by assumption) ?_; conv => whnf)
              | (refine vb_f (by assumption) ?_; conv => whnf)
              | fail)
            exact ⟨rfl, rfl⟩
    · rw [if_neg hn] at hN
      have q3 : ilt n (Int.ofNat 0) = false := by rw [ilt_f]; simp only [Int.ofNat_eq_natCast]; omega
      have hmm : n = (m : Int) := by omega
      rcases t4 with t4 | ⟨t4, t5 | ⟨t5, t6⟩⟩
      · repeat' (first
          | (refine vb_t rfl ?_; conv => whnf)
          | (refine vb_f rfl ?_; conv => whnf)
          | (refine vb_t (by assumption) ?_; conv => whnf)
          | (refine vb_f (by assumption) ?_; conv => whnf)
          | (refine vpur_i (refIs_ok _) ?_; conv => whnf)
          | fail)
        have hx0 : iquo .i64 (n) (k : Int) = ((m / k : Nat) : Int) := by rw [hmm, i_quo (by omega)]
        have hr0 : irem (n) (k : Int) = ((m % k : Nat) : Int) := by rw [hmm, u_rem]
        have hmk : m / k ≤ m := Nat.div_le_self _ _
        have hd0 := dec_le (m / k) (by omega)
        have hlk0 : m % k < k := Nat.mod_lt _ (by omega)
        by_cases hl : 0 < m % k
        · have q5 : ilt (Int.ofNat 0) (irem (n) (k : Int)) = true := by rw [hr0, ilt_t]; simp only [Int.ofNat_eq_natCast]; omega
          repeat' (first
            | (refine vb_t rfl ?_; conv => whnf)
            | (refine vb_f rfl ?_; conv => whnf)
            | (refine vb_t (by assumption) ?_; conv => whnf)
            | (refine vb_f (by assumption) ?_; conv => whnf)
            | (refine vpur_i (whole_ok' hx0 (by omega) []) ?_; conv => whnf)
            | (refine vb_t (roomS_t (by simp; omega)) ?_; conv => whnf)
            | fail)
          rw [hr0]
          obtain ⟨l0, hl0⟩ : ∃ l0 : Nat, m % k = l0 := ⟨_, rfl⟩
          rw [if_pos hl, hl0] at hN
          rw [hl0] at hlk0 ⊢
          have hlk := hlk0
          have hl6 := pow_first k l0 hk
          obtain ⟨s0, hs⟩ : ∃ s0 : List UInt8, ([] ++ Lib.decDigits (m / k)) ++ [46] = s0 := ⟨_, rfl⟩
          have hs0 : s0.length + 30 * 6 ≤ 400 := by rw [← hs]; simp; omega
          refine vloop_eq2 (fr' := [(1, I k), (4, S []), (5, S s0), (6, I l0)]) (h' := []) ?_ rfl ?_
          · subst hs; rfl
          obtain ⟨T, hTe⟩ : ∃ T : List UInt8, numText n k = T := ⟨_, rfl⟩
          have hT : s0 ++ fracT k 6 l0 = T := by rw [← hTe, hN, ← hs]; simp
          rw [hTe]
          refine vloop_by (σ := { x : List UInt8 × Nat × Nat // x.1 ++ fracT k x.2.2 x.2.1 = T ∧ x.2.1 < k ∧ x.2.1 * 10 ^ x.2.2 % k = 0 ∧ x.1.length + 30 * x.2.2 ≤ 400 }) (fun x => [(1, I k), (4, S []), (5, S x.1.1), (6, I x.1.2.1)]) (fun _ => []) (fun x => x.1.2.2) ?_ ⟨(s0, l0, 6), hT, hlk, hl6, hs0⟩
          rintro ⟨⟨s, l, f⟩, g1, g2, g3, g4⟩
          simp only at g1 g2 g3 g4
          conv => whnf
          refine vb_i (fun h => ?_) (fun h => ?_) <;> conv => whnf
          · have hl0 : l ≠ 0 := by (first | omega | (simp only [ilt_t, ilt_f, ile_t, ile_f, ieq_t, ieq_f, ofn, List.length_map, Bool.not_eq_true', Bool.not_eq_false'] at *; omega))
            cases f with
            | zero => exact absurd (by simpa [Nat.mod_eq_of_lt g2] using g3) hl0
            | succ f =>
              rw [frac_succ _ _ _ hl0] at g1
              have hm : imul .i64 (Int.ofNat 10) (l : Int) = ((l * 10 : Nat) : Int) := i_mull (by omega)
              have hx : iquo .i64 (imul .i64 (Int.ofNat 10) (l : Int)) (k : Int) = ((l * 10 / k : Nat) : Int) := by rw [hm, i_quo (by omega)]
              have hr : irem (imul .i64 (Int.ofNat 10) (l : Int)) (k : Int) = ((l * 10 % k : Nat) : Int) := by rw [hm, u_rem]
              have hd := dig_small l k g2
              have hrm : roomS (s.length + (Lib.decDigits (l * 10 / k)).length) = true := roomS_t (by omega)
              repeat' (first
                | (refine vb_t rfl ?_; conv => whnf)
                | (refine vb_f rfl ?_; conv => whnf)
                | (refine vb_t (by assumption) ?_; conv => whnf)
                | (refine vb_f (by assumption) ?_; conv => whnf)
                | (refine vpur_i (whole_ok' hx (Nat.le_trans (Nat.div_le_self _ _) (by omega)) []) ?_; conv => whnf)
                | (refine vb_t hrm ?_; conv => whnf)
                | fail)
              refine ⟨⟨(s ++ Lib.decDigits (l * 10 / k), l * 10 % k, f), by simp only [List.append_assoc]; exact g1, Nat.mod_lt _ (by omega), pow_mod k f l g3, by simp only [List.length_append]; omega⟩, by simp only; omega, cons_eq rfl (cons_eq rfl (cons_eq rfl (cons_eq (slot_eq (I_eq hr)) rfl))), rfl, rfl, rfl⟩
          · have hl0 : l = 0 := by (first | omega | (simp only [ilt_t, ilt_f, ile_t, ile_f, ieq_t, ieq_f, ofn, List.length_map, Bool.not_eq_true', Bool.not_eq_false'] at *; omega))
            subst hl0
            rw [frac_zero, List.append_nil] at g1
            subst g1
            repeat' (first
              | (refine vb_t rfl ?_; conv => whnf)
              | (refine vb_f rfl ?_; conv => whnf)
              | (refine vb_t (by assumption) ?_; conv => whnf)
              | (refine vb_f (by assumption) ?_; conv => whnf)
              | fail)
            exact ⟨rfl, rfl⟩
        · have q5 : ilt (Int.ofNat 0) (irem (n) (k : Int)) = false := by rw [hr0, ilt_f]; simp only [Int.ofNat_eq_natCast]; omega
          repeat' (first
            | (refine vb_t rfl ?_; conv => whnf)
            | (refine vb_f rfl ?_; conv => whnf)
            | (refine vb_t (by assumption) ?_; conv => whnf)
            | (refine vb_f (by assumption) ?_; conv => whnf)
            | (refine vpur_i (whole_ok' hx0 (by omega) []) ?_; conv => whnf)
            | (refine vb_t (roomS_t (by simp; omega)) ?_; conv => whnf)
            | fail)
          rw [hr0]
          obtain ⟨l0, hl0⟩ : ∃ l0 : Nat, m % k = l0 := ⟨_, rfl⟩
          rw [if_neg hl, hl0] at hN
          rw [hl0] at hlk0 ⊢
          have hlk := hlk0
          have hl6 := pow_first k l0 hk
          obtain ⟨s0, hs⟩ : ∃ s0 : List UInt8, [] ++ Lib.decDigits (m / k) = s0 := ⟨_, rfl⟩
          have hs0 : s0.length + 30 * 6 ≤ 400 := by rw [← hs]; simp; omega
          refine vloop_eq2 (fr' := [(1, I k), (4, S []), (5, S s0), (6, I l0)]) (h' := []) ?_ rfl ?_
          · subst hs; rfl
          obtain ⟨T, hTe⟩ : ∃ T : List UInt8, numText n k = T := ⟨_, rfl⟩
          have hT : s0 ++ fracT k 6 l0 = T := by rw [← hTe, hN, ← hs]; simp
          rw [hTe]
          refine vloop_by (σ := { x : List UInt8 × Nat × Nat // x.1 ++ fracT k x.2.2 x.2.1 = T ∧ x.2.1 < k ∧ x.2.1 * 10 ^ x.2.2 % k = 0 ∧ x.1.length + 30 * x.2.2 ≤ 400 }) (fun x => [(1, I k), (4, S []), (5, S x.1.1), (6, I x.1.2.1)]) (fun _ => []) (fun x => x.1.2.2) ?_ ⟨(s0, l0, 6), hT, hlk, hl6, hs0⟩
          rintro ⟨⟨s, l, f⟩, g1, g2, g3, g4⟩
          simp only at g1 g2 g3 g4
          conv => whnf
          refine vb_i (fun h => ?_) (fun h => ?_) <;> conv => whnf
          · have hl0 : l ≠ 0 := by (first | omega | (simp only [ilt_t, ilt_f, ile_t, ile_f, ieq_t, ieq_f, ofn, List.length_map, Bool.not_eq_true', Bool.not_eq_false'] at *; omega))
            cases f with
            | zero => exact absurd (by simpa [Nat.mod_eq_of_lt g2] using g3) hl0
            | succ f =>
              rw [frac_succ _ _ _ hl0] at g1
              have hm : imul .i64 (Int.ofNat 10) (l : Int) = ((l * 10 : Nat) : Int) := i_mull (by omega)
              have hx : iquo .i64 (imul .i64 (Int.ofNat 10) (l : Int)) (k : Int) = ((l * 10 / k : Nat) : Int) := by rw [hm, i_quo (by omega)]
              have hr : irem (imul .i64 (Int.ofNat 10) (l : Int)) (k : Int) = ((l * 10 % k : Nat) : Int) := by rw [hm, u_rem]
              have hd := dig_small l k g2
              have hrm : roomS (s.length + (Lib.decDigits (l * 10 / k)).length) = true := roomS_t (by omega)
              repeat' (first
                | (refine vb_t rfl ?_; conv => whnf)
                | (refine vb_f rfl ?_; conv => whnf)
                | (refine vb_t (by assumption) ?_; conv => whnf)
                | (refine vb_f (by assumption) ?_; conv => whnf)
                | (refine vpur_i (whole_ok' hx (Nat.le_trans (Nat.div_le_self _ _) (by omega)) []) ?_; conv => whnf)
                | (refine vb_t hrm ?_; conv => whnf)
                | fail)
              refine ⟨⟨(s ++ Lib.decDigits (l * 10 / k), l * 10 % k, f), by simp only [List.append_assoc]; exact g1, Nat.mod_lt _ (by omega), pow_mod k f l g3, by simp only [List.length_append]; omega⟩, by simp only; omega, cons_eq rfl (cons_eq rfl (cons_eq rfl (cons_eq (slot_eq (I_eq hr)) rfl))), rfl, rfl, rfl⟩
          · have hl0 : l = 0 := by (first | omega | (simp only [ilt_t, ilt_f, ile_t, ile_f, ieq_t, ieq_f, ofn, List.length_map, Bool.not_eq_true', Bool.not_eq_false'] at *; omega))
            subst hl0
            rw [frac_zero, List.append_nil] at g1
            subst g1
            repeat' (first
              | (refine vb_t rfl ?_; conv => whnf)
              | (refine vb_f rfl ?_; conv => whnf)
              | (refine vb_t (by assumption) ?_; conv => whnf)
              | (refine vb_f (by assumption) ?_; conv => whnf)
              | fail)
            exact ⟨rfl, rfl⟩
      · repeat' (first
          | (refine vb_t rfl ?_; conv => whnf)
          | (refine vb_f rfl ?_; conv => whnf)
          | (refine vb_t (by assumption) ?_; conv => whnf)
          | (refine vb_f (by assumption) ?_; conv => whnf)
          | (refine vpur_i (refIs_ok _) ?_; conv => whnf)
          | fail)
        have hx0 : iquo .i64 (n) (k : Int) = ((m / k : Nat) : Int) := by rw [hmm, i_quo (by omega)]
        have hr0 : irem (n) (k : Int) = ((m % k : Nat) : Int) := by rw [hmm, u_rem]
        have hmk : m / k ≤ m := Nat.div_le_self _ _
        have hd0 := dec_le (m / k) (by omega)
        have hlk0 : m % k < k := Nat.mod_lt _ (by omega)
        by_cases hl : 0 < m % k
        · have q5 : ilt (Int.ofNat 0) (irem (n) (k : Int)) = true := by rw [hr0, ilt_t]; simp only [Int.ofNat_eq_natCast]; omega
          repeat' (first
            | (refine vb_t rfl ?_; conv => whnf)
            | (refine vb_f rfl ?_; conv => whnf)
            | (refine vb_t (by assumption) ?_; conv => whnf)
            | (refine vb_f (by assumption) ?_; conv => whnf)
            | (refine vpur_i (whole_ok' hx0 (by omega) []) ?_; conv => whnf)
            | (refine vb_t (roomS_t (by simp; omega)) ?_; conv => whnf)
            | fail)
          rw [hr0]
          obtain ⟨l0, hl0⟩ : ∃ l0 : Nat, m % k = l0 := ⟨_, rfl⟩
          rw [if_pos hl, hl0] at hN
          rw [hl0] at hlk0 ⊢
          have hlk := hlk0
          have hl6 := pow_first k l0 hk
          obtain ⟨s0, hs⟩ : ∃ s0 : List UInt8, ([] ++ Lib.decDigits (m / k)) ++ [46] = s0 := ⟨_, rfl⟩
          have hs0 : s0.length + 30 * 6 ≤ 400 := by rw [← hs]; simp; omega
          refine vloop_eq2 (fr' := [(1, I k), (4, S []), (5, S s0), (6, I l0)]) (h' := []) ?_ rfl ?_
          · subst hs; rfl
          obtain ⟨T, hTe⟩ : ∃ T : List UInt8, numText n k = T := ⟨_, rfl⟩
          have hT : s0 ++ fracT k 6 l0 = T := by rw [← hTe, hN, ← hs]; simp
          rw [hTe]
          refine vloop_by (σ := { x : List UInt8 × Nat × Nat // x.1 ++ fracT k x.2.2 x.2.1 = T ∧ x.2.1 < k ∧ x.2.1 * 10 ^ x.2.2 % k = 0 ∧ x.1.length + 30 * x.2.2 ≤ 400 }) (fun x => [(1, I k), (4, S []), (5, S x.1.1), (6, I x.1.2.1)]) (fun _ => []) (fun x => x.1.2.2) ?_ ⟨(s0, l0, 6), hT, hlk, hl6, hs0⟩
          rintro ⟨⟨s, l, f⟩, g1, g2, g3, g4⟩
          simp only at g1 g2 g3 g4
          conv => whnf
          refine vb_i (fun h => ?_) (fun h => ?_) <;> conv => whnf
          · have hl0 : l ≠ 0 := by (first | omega | (simp only [ilt_t, ilt_f, ile_t, ile_f, ieq_t, ieq_f, ofn, List.length_map, Bool.not_eq_true', Bool.not_eq_false'] at *; omega))
            cases f with
            | zero => exact absurd (by simpa [Nat.mod_eq_of_lt g2] using g3) hl0
            | succ f =>
              rw [frac_succ _ _ _ hl0] at g1
              have hm : imul .i64 (Int.ofNat 10) (l : Int) = ((l * 10 : Nat) : Int) := i_mull (by omega)
              have hx : iquo .i64 (imul .i64 (Int.ofNat 10) (l : Int)) (k : Int) = ((l * 10 / k : Nat) : Int) := by rw [hm, i_quo (by omega)]
              have hr : irem (imul .i64 (Int.ofNat 10) (l : Int)) (k : Int) = ((l * 10 % k : Nat) : Int) := by rw [hm, u_rem]
              have hd := dig_small l k g2
              have hrm : roomS (s.length + (Lib.decDigits (l * 10 / k)).length) = true := roomS_t (by omega)
              repeat' (first
                | (refine vb_t rfl ?_; conv => whnf)
                | (refine vb_f rfl ?_; conv => whnf)
                | (refine vb_t (by assumption) ?_; conv => whnf)
                | (refine vb_f (by assumption) ?_; conv => whnf)
                | (refine vpur_i (whole_ok' hx (Nat.le_trans (Nat.div_le_self _ _) (by omega)) []) ?_; conv => whnf)
                | (refine vb_t hrm ?_; conv => whnf)
                | fail)
              refine ⟨⟨(s ++ Lib.decDigits (l * 10 / k), l * 10 % k, f), by simp only [List.append_assoc]; exact g1, Nat.mod_lt _ (by omega), pow_mod k f l g3, by simp only [List.length_append]; omega⟩, by simp only; omega, cons_eq rfl (cons_eq rfl (cons_eq rfl (cons_eq (slot_eq (I_eq hr)) rfl))), rfl, rfl, rfl⟩
          · have hl0 : l = 0 := by (first | omega | (simp only [ilt_t, ilt_f, ile_t, ile_f, ieq_t, ieq_f, ofn, List.length_map, Bool.not_eq_true', Bool.not_eq_false'] at *; omega))
            subst hl0
            rw [frac_zero, List.append_nil] at g1
            subst g1
            repeat' (first
              | (refine vb_t rfl ?_; conv => whnf)
              | (refine vb_f rfl ?_; conv => whnf)
              | (refine vb_t (by assumption) ?_; conv => whnf)
              | (refine vb_f (by assumption) ?_; conv => whnf)
              | fail)
            exact ⟨rfl, rfl⟩
        · have q5 : ilt (Int.ofNat 0) (irem (n) (k : Int)) = false := by rw [hr0, ilt_f]; simp only [Int.ofNat_eq_natCast]; omega
          repeat' (first
            | (refine vb_t rfl ?_; conv => whnf)
            | (refine vb_f rfl ?_; conv => whnf)
            | (refine vb_t (by assumption) ?_; conv => whnf)
            | (refine vb_f (by assumption) ?_; conv => whnf)
            | (refine vpur_i (whole_ok' hx0 (by omega) []) ?_; conv => whnf)
            | (refine vb_t (roomS_t (by simp; omega)) ?_; conv => whnf)
            | fail)
          rw [hr0]
          obtain ⟨l0, hl0⟩ : ∃ l0 : Nat, m % k = l0 := ⟨_, rfl⟩
          rw [if_neg hl, hl0] at hN
          rw [hl0] at hlk0 ⊢
          have hlk := hlk0
          have hl6 := pow_first k l0 hk
          obtain ⟨s0, hs⟩ : ∃ s0 : List UInt8, [] ++ Lib.decDigits (m / k) = s0 := ⟨_, rfl⟩
          have hs0 : s0.length + 30 * 6 ≤ 400 := by rw [← hs]; simp; omega
          refine vloop_eq2 (fr' := [(1, I k), (4, S []), (5, S s0), (6, I l0)]) (h' := []) ?_ rfl ?_
          · subst hs; rfl
          obtain ⟨T, hTe⟩ : ∃ T : List UInt8, numText n k = T := ⟨_, rfl⟩
          have hT : s0 ++ fracT k 6 l0 = T := by rw [← hTe, hN, ← hs]; simp
          rw [hTe]
          refine vloop_by (σ := { x : List UInt8 × Nat × Nat // x.1 ++ fracT k x.2.2 x.2.1 = T ∧ x.2.1 < k ∧ x.2.1 * 10 ^ x.2.2 % k = 0 ∧ x.1.length + 30 * x.2.2 ≤ 400 }) (fun x => [(1, I k), (4, S []), (5, S x.1.1), (6, I x.1.2.1)]) (fun _ => []) (fun x => x.1.2.2) ?_ ⟨(s0, l0, 6), hT, hlk, hl6, hs0⟩
          rintro ⟨⟨s, l, f⟩, g1, g2, g3, g4⟩
          simp only at g1 g2 g3 g4
          conv => whnf
          refine vb_i (fun h => ?_) (fun h => ?_) <;> conv => whnf
          · have hl0 : l ≠ 0 := by (first | omega | (simp only [ilt_t, ilt_f, ile_t, ile_f, ieq_t, ieq_f, ofn, List.length_map, Bool.not_eq_true', Bool.not_eq_false'] at *; omega))
            cases f with
            | zero => exact absurd (by simpa [Nat.mod_eq_of_lt g2] using g3) hl0
            | succ f =>
              rw [frac_succ _ _ _ hl0] at g1
              have hm : imul .i64 (Int.ofNat 10) (l : Int) = ((l * 10 : Nat) : Int) := i_mull (by omega)
              have hx : iquo .i64 (imul .i64 (Int.ofNat 10) (l : Int)) (k : Int) = ((l * 10 / k : Nat) : Int) := by rw [hm, i_quo (by omega)]
              have hr : irem (imul .i64 (Int.ofNat 10) (l : Int)) (k : Int) = ((l * 10 % k : Nat) : Int) := by rw [hm, u_rem]
              have hd := dig_small l k g2
              have hrm : roomS (s.length + (Lib.decDigits (l * 10 / k)).length) = true := roomS_t (by omega)
              repeat' (first
                | (refine vb_t rfl ?_; conv => whnf)
                | (refine vb_f rfl ?_; conv => whnf)
                | (refine vb_t (by assumption) ?_; conv => whnf)
                | (refine vb_f (by assumption) ?_; conv => whnf)
                | (refine vpur_i (whole_ok' hx (Nat.le_trans (Nat.div_le_self _ _) (by omega)) []) ?_; conv => whnf)
                | (refine vb_t hrm ?_; conv => whnf)
                | fail)
              refine ⟨⟨(s ++ Lib.decDigits (l * 10 / k), l * 10 % k, f), by simp only [List.append_assoc]; exact g1, Nat.mod_lt _ (by omega), pow_mod k f l g3, by simp only [List.length_append]; omega⟩, by simp only; omega, cons_eq rfl (cons_eq rfl (cons_eq rfl (cons_eq (slot_eq (I_eq hr)) rfl))), rfl, rfl, rfl⟩
          · have hl0 : l = 0 := by (first | omega | (simp only [ilt_t, ilt_f, ile_t, ile_f, ieq_t, ieq_f, ofn, List.length_map, Bool.not_eq_true', Bool.not_eq_false'] at *; omega))
            subst hl0
            rw [frac_zero, List.append_nil] at g1
            subst g1
            repeat' (first
              | (refine vb_t rfl ?_; conv => whnf)
              | (refine vb_f rfl ?_; conv => whnf)
              | (refine vb_t (by assumption) ?_; conv => whnf)
              | (refine vb_f (by assumption) ?_; conv => whnf)
              | fail)
            exact ⟨rfl, rfl⟩
      · repeat' (first
          | (refine vb_t rfl ?_; conv => whnf)
          | (refine vb_f rfl ?_; conv => whnf)
          | (refine vb_t (by assumption) ?_; conv => whnf)
          | (refine vb_f (by assumption) ?_; conv => whnf)
          | (refine vpur_i (refIs_ok _) ?_; conv => whnf)
          | fail)
        have hx0 : iquo .i64 (n) (k : Int) = ((m / k : Nat) : Int) := by rw [hmm, i_quo (by omega)]
        have hr0 : irem (n) (k : Int) = ((m % k : Nat) : Int) := by rw [hmm, u_rem]
        have hmk : m / k ≤ m := Nat.div_le_self _ _
        have hd0 := dec_le (m / k) (by omega)
        have hlk0 : m % k < k := Nat.mod_lt _ (by omega)
        by_cases hl : 0 < m % k
        · have q5 : ilt (Int.ofNat 0) (irem (n) (k : Int)) = true := by rw [hr0, ilt_t]; simp only [Int.ofNat_eq_natCast]; omega
          repeat' (first
            | (refine vb_t rfl ?_; conv => whnf)
            | (refine vb_f rfl ?_; conv => whnf)
            | (refine vb_t (by assumption) ?_; conv => whnf)
            | (refine vb_f (by assumption) ?_; conv => whnf)
            | (refine vpur_i (whole_ok' hx0 (by omega) []) ?_; conv => whnf)
            | (refine vb_t (roomS_t (by simp; omega)) ?_; conv => whnf)
            | fail)
          rw [hr0]
          obtain ⟨l0, hl0⟩ : ∃ l0 : Nat, m % k = l0 := ⟨_, rfl⟩
          rw [if_pos hl, hl0] at hN
          rw [hl0] at hlk0 ⊢
          have hlk := hlk0
          have hl6 := pow_first k l0 hk
          obtain ⟨s0, hs⟩ : ∃ s0 : List UInt8, ([] ++ Lib.decDigits (m / k)) ++ [46] = s0 := ⟨_, rfl⟩
          have hs0 : s0.length + 30 * 6 ≤ 400 := by rw [← hs]; simp; omega
          refine vloop_eq2 (fr' := [(1, I k), (4, S []), (5, S s0), (6, I l0)]) (h' := []) ?_ rfl ?_
          · subst hs; rfl
          obtain ⟨T, hTe⟩ : ∃ T : List UInt8, numText n k = T := ⟨_, rfl⟩
          have hT : s0 ++ fracT k 6 l0 = T := by rw [← hTe, hN, ← hs]; simp
          rw [hTe]
          refine vloop_by (σ := { x : List UInt8 × Nat × Nat // x.1 ++ fracT k x.2.2 x.2.1 = T ∧ x.2.1 < k ∧ x.2.1 * 10 ^ x.2.2 % k = 0 ∧ x.1.length + 30 * x.2.2 ≤ 400 }) (fun x => [(1, I k), (4, S []), (5, S x.1.1), (6, I x.1.2.1)]) (fun _ => []) (fun x => x.1.2.2) ?_ ⟨(s0, l0, 6), hT, hlk, hl6, hs0⟩
          rintro ⟨⟨s, l, f⟩, g1, g2, g3, g4⟩
          simp only at g1 g2 g3 g4
          conv => whnf
          refine vb_i (fun h => ?_) (fun h => ?_) <;> conv => whnf
          · have hl0 : l ≠ 0 := by (first | omega | (simp only [ilt_t, ilt_f, ile_t, ile_f, ieq_t, ieq_f, ofn, List.length_map, Bool.not_eq_true', Bool.not_eq_false'] at *; omega))
            cases f with
            | zero => exact absurd (by simpa [Nat.mod_eq_of_lt g2] using g3) hl0
            | succ f =>
              rw [frac_succ _ _ _ hl0] at g1
              have hm : imul .i64 (Int.ofNat 10) (l : Int) = ((l * 10 : Nat) : Int) := i_mull (by omega)
              have hx : iquo .i64 (imul .i64 (Int.ofNat 10) (l : Int)) (k : Int) = ((l * 10 / k : Nat) : Int) := by rw [hm, i_quo (by omega)]
              have hr : irem (imul .i64 (Int.ofNat 10) (l : Int)) (k : Int) = ((l * 10 % k : Nat) : Int) := by rw [hm, u_rem]
              have hd := dig_small l k g2
              have hrm : roomS (s.length + (Lib.decDigits (l * 10 / k)).length) = true := roomS_t (by omega)
              repeat' (first
                | (refine vb_t rfl ?_; conv => whnf)
                | (refine vb_f rfl ?_; conv => whnf)
                | (refine vb_t (by assumption) ?_; conv => whnf)
                | (refine vb_f (by assumption) ?_; conv => whnf)
                | (refine vpur_i (whole_ok' hx (Nat.le_trans (Nat.div_le_self _ _) (by omega)) []) ?_; conv => whnf)
                | (refine vb_t hrm ?_; conv => whnf)
                | fail)
              refine ⟨⟨(s ++ Lib.decDigits (l * 10 / k), l * 10 % k, f), by simp only [List.append_assoc]; exact g1, Nat.mod_lt _ (by omega), pow_mod k f l g3, by simp only [List.length_append]; omega⟩, by simp only; omega, cons_eq rfl (cons_eq rfl (cons_eq rfl (cons_eq (slot_eq (I_eq hr)) rfl))), rfl, rfl, rfl⟩
          · have hl0 : l = 0 := by (first | omega | (simp only [ilt_t, ilt_f, ile_t, ile_f, ieq_t, ieq_f, ofn, List.length_map, Bool.not_eq_true', Bool.not_eq_false'] at *; omega))
            subst hl0
            rw [frac_zero, List.append_nil] at g1
            subst g1
            repeat' (first
              | (refine vb_t rfl ?_; conv => whnf)
              | (refine vb_f rfl ?_; conv => whnf)
              | (refine vb_t (by assumption) ?_; conv => whnf)
              | (refine vb_f (by assumption) ?_; conv => whnf)
              | fail)
            exact ⟨rfl, rfl⟩
        · have q5 : ilt (Int.ofNat 0) (irem (n) (k : Int)) = false := by rw [hr0, ilt_f]; simp only [Int.ofNat_eq_natCast]; omega
          repeat' (first
            | (refine vb_t rfl ?_; conv => whnf)
            | (refine vb_f rfl ?_; conv => whnf)
            | (refine vb_t (by assumption) ?_; conv => whnf)
            | (refine vb_f (by assumption) ?_; conv => whnf)
            | (refine vpur_i (whole_ok' hx0 (by omega) []) ?_; conv => whnf)
            | (refine vb_t (roomS_t (by simp; omega)) ?_; conv => whnf)
            | fail)
          rw [hr0]
          obtain ⟨l0, hl0⟩ : ∃ l0 : Nat, m % k = l0 := ⟨_, rfl⟩
          rw [if_neg hl, hl0] at hN
          rw [hl0] at hlk0 ⊢
          have hlk := hlk0
          have hl6 := pow_first k l0 hk
          obtain ⟨s0, hs⟩ : ∃ s0 : List UInt8, [] ++ Lib.decDigits (m / k) = s0 := ⟨_, rfl⟩
          have hs0 : s0.length + 30 * 6 ≤ 400 := by rw [← hs]; simp; omega
          refine vloop_eq2 (fr' := [(1, I k), (4, S []), (5, S s0), (6, I l0)]) (h' := []) ?_ rfl ?_
          · subst hs; rfl
          obtain ⟨T, hTe⟩ : ∃ T : List UInt8, numText n k = T := ⟨_, rfl⟩
          have hT : s0 ++ fracT k 6 l0 = T := by rw [← hTe, hN, ← hs]; simp
          rw [hTe]
          refine vloop_by (σ := { x : List UInt8 × Nat × Nat // x.1 ++ fracT k x.2.2 x.2.1 = T ∧ x.2.1 < k ∧ x.2.1 * 10 ^ x.2.2 % k = 0 ∧ x.1.length + 30 * x.2.2 ≤ 400 }) (fun x => [(1, I k), (4, S []), (5, S x.1.1), (6, I x.1.2.1)]) (fun _ => []) (fun x => x.1.2.2) ?_ ⟨(s0, l0, 6), hT, hlk, hl6, hs0⟩
          rintro ⟨⟨s, l, f⟩, g1, g2, g3, g4⟩
          simp only at g1 g2 g3 g4
          conv => whnf
          refine vb_i (fun h => ?_) (fun h => ?_) <;> conv => whnf
          · have hl0 : l ≠ 0 := by (first | omega | (simp only [ilt_t, ilt_f, ile_t, ile_f, ieq_t, ieq_f, ofn, List.length_map, Bool.not_eq_true', Bool.not_eq_false'] at *; omega))
            cases f with
            | zero => exact absurd (by simpa [Nat.mod_eq_of_lt g2] using g3) hl0
            | succ f =>
              rw [frac_succ _ _ _ hl0] at g1
              have hm : imul .i64 (Int.ofNat 10) (l : Int) = ((l * 10 : Nat) : Int) := i_mull (by omega)
              have hx : iquo .i64 (imul .i64 (Int.ofNat 10) (l : Int)) (k : Int) = ((l * 10 / k : Nat) : Int) := by rw [hm, i_quo (by omega)]
              have hr : irem (imul .i64 (Int.ofNat 10) (l : Int)) (k : Int) = ((l * 10 % k : Nat) : Int) := by rw [hm, u_rem]
              have hd := dig_small l k g2
              have hrm : roomS (s.length + (Lib.decDigits (l * 10 / k)).length) = true := roomS_t (by omega)
              repeat' (first
                | (refine vb_t rfl ?_; conv => whnf)
                | (refine vb_f rfl ?_; conv => whnf)
                | (refine vb_t (by assumption) ?_; conv => whnf)
                | (refine vb_f (by assumption) ?_; conv => whnf)
                | (refine vpur_i (whole_ok' hx (Nat.le_trans (Nat.div_le_self _ _) (by omega)) []) ?_; conv => whnf)
                | (refine vb_t hrm ?_; conv => whnf)
                | fail)
              refine ⟨⟨(s ++ Lib.decDigits (l * 10 / k), l * 10 % k, f), by simp only [List.append_assoc]; exact g1, Nat.mod_lt _ (by omega), pow_mod k f l g3, by simp only [List.length_append]; omega⟩, by simp only; omega, cons_eq rfl (cons_eq rfl (cons_eq rfl (cons_eq (slot_eq (I_eq hr)) rfl))), rfl, rfl, rfl⟩
          · have hl0 : l = 0 := by (first | omega | (simp only [ilt_t, ilt_f, ile_t, ile_f, ieq_t, ieq_f, ofn, List.length_map, Bool.not_eq_true', Bool.not_eq_false'] at *; omega))
            subst hl0
            rw [frac_zero, List.append_nil] at g1
            subst g1
            repeat' (first
              | (refine vb_t rfl ?_; conv => whnf)
              | (refine vb_f rfl ?_; conv => whnf)
              | (refine vb_t (by assumption) ?_; conv => whnf)
              | (refine vb_f (by assumption) ?_; conv => whnf)
              | fail)
            exact ⟨rfl, rfl⟩
  · have hN : numText n sc = [] := by unfold numText; rw [if_neg hg]
    rw [hN]
    refine pur_code (cf := cfn Tryz.f98) (by kernel_rfl) ?_
    conv => arg 3; reduce
    conv => whnf
    repeat' (first
      | (refine vb_t rfl ?_; conv => whnf)
      | (refine vb_f rfl ?_; conv => whnf)
      | (refine vb_t (by assumption) ?_; conv => whnf)
      | (refine vb_f (by assumption) ?_; conv => whnf)
      | (refine vpur_i (refIs_ok _) ?_; conv => whnf)
      | (refine vb_i (fun h => ?_) (fun h => ?_) <;> conv => whnf)
      | fail)
    all_goals first
      | exact ⟨rfl, rfl⟩
      | (exfalso
         simp only [Bool.not_eq_true', Bool.not_eq_false', ieq_t, ieq_f, Int.ofNat_eq_natCast] at *
         apply hg
         refine ⟨by assumption, ?_⟩
         unfold isSc
         omega)
end Go.Proofs.YtapnjabhcdlhbaaGreatDoor.Ab
