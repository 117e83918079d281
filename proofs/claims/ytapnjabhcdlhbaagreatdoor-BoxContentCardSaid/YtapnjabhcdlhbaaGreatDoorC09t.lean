/- Layer 9 (box): margins, gaps, alignment: whether they may be, and their texts. -/
import Derived.Test.YtapnjabhcdlhbaaGreatDoorC05t
import Derived.Test.YtapnjabhcdlhbaaGreatDoorC00k
namespace Go.Proofs.YtapnjabhcdlhbaaGreatDoor.Ab
open Go
set_option linter.unusedSimpArgs false
set_option maxRecDepth 100000
set_option linter.unusedVariables false
set_option maxHeartbeats 4000000

theorem ia0 : iadd .i64 (Int.ofNat 0) (Int.ofNat 1) = Int.ofNat 1 := by rw [iadd64] <;> decide
theorem ia1 : iadd .i64 (Int.ofNat 1) (Int.ofNat 1) = Int.ofNat 2 := by rw [iadd64] <;> decide
theorem ia2 : iadd .i64 (Int.ofNat 2) (Int.ofNat 1) = Int.ofNat 3 := by rw [iadd64] <;> decide
theorem ia3 : iadd .i64 (Int.ofNat 3) (Int.ofNat 1) = Int.ofNat 4 := by rw [iadd64] <;> decide
theorem lt4 : ilt (Int.ofNat 0) (Int.ofNat 4) = true ∧ ilt (Int.ofNat 1) (Int.ofNat 4) = true ∧ ilt (Int.ofNat 2) (Int.ofNat 4) = true ∧ ilt (Int.ofNat 3) (Int.ofNat 4) = true ∧ ilt (Int.ofNat 4) (Int.ofNat 4) = false := by
  simp only [ilt_t, ilt_f]; decide
theorem in4 : (ile 0 (Int.ofNat 0) && ilt (Int.ofNat 0) (Int.ofNat 4)) = true ∧ (ile 0 (Int.ofNat 1) && ilt (Int.ofNat 1) (Int.ofNat 4)) = true ∧ (ile 0 (Int.ofNat 2) && ilt (Int.ofNat 2) (Int.ofNat 4)) = true ∧ (ile 0 (Int.ofNat 3) && ilt (Int.ofNat 3) (Int.ofNat 4)) = true := by
  simp only [Bool.and_eq_true, ile_t, ilt_t]; decide
theorem mgood_ok (k0 n0 k1 n1 k2 n2 k3 n3 : Int) : Pur F0 45 [.agg [I k0, I n0, I k1, I n1, I k2, I n2, I k3, I n3]] [] .no (.ret (B (goodL k0 n0 7 && goodL k1 n1 7 && goodL k2 n2 7 && goodL k3 n3 7))) .no := by
  refine pur_code code45_ok ?_
  conv => whnf
  obtain ⟨a0, a1, a2, a3, a4⟩ := lt4
  obtain ⟨b0, b1, b2, b3⟩ := in4
  repeat' (first
    | (refine vb_t rfl ?_; conv => whnf)
    | (refine vb_f rfl ?_; conv => whnf)
    | (refine vb_t (by assumption) ?_; conv => whnf)
    | (refine vb_f (by assumption) ?_; conv => whnf)
    | (simp only [ia0, ia1, ia2, ia3]; conv => whnf)
    | (refine vloop_once ?_; conv => whnf)
    | (refine vpur_i (good_ok _ _ _) ?_; conv => whnf)
    | (refine vb_i (fun h => ?_) (fun h => ?_) <;> conv => whnf)
    | fail)
  all_goals refine ⟨congrArg CR.ret (congrArg AV.d (congrArg DV.bool ?_)), by trivial⟩
  all_goals clear a0 a1 a2 a3 a4 b0 b1 b2 b3
  all_goals simp only [Bool.not_eq_true', Bool.not_eq_false', lit7] at *
  all_goals simp_all
theorem rmgood_ok (k0 n0 k1 n1 k2 n2 k3 n3 : Int) : Pur F0 46 [.agg [I k0, I n0, I k1, I n1, I k2, I n2, I k3, I n3]] [] .no (.ret (B (goodL k0 n0 7 && goodL k1 n1 7 && goodL k2 n2 7 && goodL k3 n3 7))) .no := by
  refine pur_code code46_ok ?_
  conv => whnf
  obtain ⟨a0, a1, a2, a3, a4⟩ := lt4
  obtain ⟨b0, b1, b2, b3⟩ := in4
  repeat' (first
    | (refine vb_t rfl ?_; conv => whnf)
    | (refine vb_f rfl ?_; conv => whnf)
    | (refine vb_t (by assumption) ?_; conv => whnf)
    | (refine vb_f (by assumption) ?_; conv => whnf)
    | (simp only [ia0, ia1, ia2, ia3]; conv => whnf)
    | (refine vloop_once ?_; conv => whnf)
    | (refine vpur_i (rgood_ok _ _ _) ?_; conv => whnf)
    | (refine vb_i (fun h => ?_) (fun h => ?_) <;> conv => whnf)
    | fail)
  all_goals refine ⟨congrArg CR.ret (congrArg AV.d (congrArg DV.bool ?_)), by trivial⟩
  all_goals clear a0 a1 a2 a3 a4 b0 b1 b2 b3
  all_goals simp only [Bool.not_eq_true', Bool.not_eq_false', lit7] at *
  all_goals simp_all
/-- Four of one to four. -/
abbrev LR (k n : Int) : List DV := [.int .i64 k, .int .i64 n]
theorem imx1 : imax (Int.ofNat 0) (isub .i64 (Int.ofNat 1) (Int.ofNat 2)) = Int.ofNat 0 := by rw [isub64 (by decide) (by decide)]; unfold imax; rfl
theorem imx2 : imax (Int.ofNat 0) (isub .i64 (Int.ofNat 2) (Int.ofNat 2)) = Int.ofNat 0 := by rw [isub64 (by decide) (by decide)]; unfold imax; rfl
theorem imx3 : imax (Int.ofNat 0) (isub .i64 (Int.ofNat 3) (Int.ofNat 2)) = Int.ofNat 1 := by rw [isub64 (by decide) (by decide)]; unfold imax; rfl
theorem ltN : ilt (Int.ofNat 0) ((1 : Nat) : Int) = true ∧ ilt (Int.ofNat 1) ((1 : Nat) : Int) = false ∧ ilt (Int.ofNat 2) ((1 : Nat) : Int) = false ∧ ilt (Int.ofNat 3) ((1 : Nat) : Int) = false ∧
    ilt (Int.ofNat 0) ((2 : Nat) : Int) = true ∧ ilt (Int.ofNat 1) ((2 : Nat) : Int) = true ∧ ilt (Int.ofNat 2) ((2 : Nat) : Int) = false ∧ ilt (Int.ofNat 3) ((2 : Nat) : Int) = false ∧
    ilt (Int.ofNat 0) ((3 : Nat) : Int) = true ∧ ilt (Int.ofNat 1) ((3 : Nat) : Int) = true ∧ ilt (Int.ofNat 2) ((3 : Nat) : Int) = true ∧ ilt (Int.ofNat 3) ((3 : Nat) : Int) = false := by
  simp only [ilt_t, ilt_f]; decide
theorem four1_ok (k0 n0 : Int) : Pur F0 59 [.d (.sl 2 [LR k0 n0])] [] .no (.ret (.agg [I k0, I n0, I k0, I n0, I k0, I n0, I k0, I n0])) .no := by
  refine pur_code code59_ok ?_
  conv => whnf
  obtain ⟨a0, a1, a2, a3, a4⟩ := lt4
  obtain ⟨b0, b1, b2, b3⟩ := in4
  obtain ⟨c10, c11, c12, c13, c20, c21, c22, c23, c30, c31, c32, c33⟩ := ltN
  repeat' (first
    | (refine vb_t rfl ?_; conv => whnf)
    | (refine vb_f rfl ?_; conv => whnf)
    | (refine vb_t (by assumption) ?_; conv => whnf)
    | (refine vb_f (by assumption) ?_; conv => whnf)
    | (simp only [ia0, ia1, ia2, ia3, imx1, imx2, imx3]; conv => whnf)
    | (refine vloop_once ?_; conv => whnf)
    | (refine vo_i (iget_t rfl) ?_; conv => whnf)
    | fail)
  exact ⟨by trivial, by trivial⟩
theorem four2_ok (k0 n0 k1 n1 : Int) : Pur F0 59 [.d (.sl 2 [LR k0 n0, LR k1 n1])] [] .no (.ret (.agg [I k0, I n0, I k1, I n1, I k0, I n0, I k1, I n1])) .no := by
  refine pur_code code59_ok ?_
  conv => whnf
  obtain ⟨a0, a1, a2, a3, a4⟩ := lt4
  obtain ⟨b0, b1, b2, b3⟩ := in4
  obtain ⟨c10, c11, c12, c13, c20, c21, c22, c23, c30, c31, c32, c33⟩ := ltN
  repeat' (first
    | (refine vb_t rfl ?_; conv => whnf)
    | (refine vb_f rfl ?_; conv => whnf)
    | (refine vb_t (by assumption) ?_; conv => whnf)
    | (refine vb_f (by assumption) ?_; conv => whnf)
    | (simp only [ia0, ia1, ia2, ia3, imx1, imx2, imx3]; conv => whnf)
    | (refine vloop_once ?_; conv => whnf)
    | (refine vo_i (iget_t rfl) ?_; conv => whnf)
    | fail)
  exact ⟨by trivial, by trivial⟩
theorem four3_ok (k0 n0 k1 n1 k2 n2 : Int) : Pur F0 59 [.d (.sl 2 [LR k0 n0, LR k1 n1, LR k2 n2])] [] .no (.ret (.agg [I k0, I n0, I k1, I n1, I k2, I n2, I k1, I n1])) .no := by
  refine pur_code code59_ok ?_
  conv => whnf
  obtain ⟨a0, a1, a2, a3, a4⟩ := lt4
  obtain ⟨b0, b1, b2, b3⟩ := in4
  obtain ⟨c10, c11, c12, c13, c20, c21, c22, c23, c30, c31, c32, c33⟩ := ltN
  repeat' (first
    | (refine vb_t rfl ?_; conv => whnf)
    | (refine vb_f rfl ?_; conv => whnf)
    | (refine vb_t (by assumption) ?_; conv => whnf)
    | (refine vb_f (by assumption) ?_; conv => whnf)
    | (simp only [ia0, ia1, ia2, ia3, imx1, imx2, imx3]; conv => whnf)
    | (refine vloop_once ?_; conv => whnf)
    | (refine vo_i (iget_t rfl) ?_; conv => whnf)
    | fail)
  exact ⟨by trivial, by trivial⟩
theorem eqN : ieq ((1 : Nat) : Int) (Int.ofNat 1) = true ∧ ieq ((2 : Nat) : Int) (Int.ofNat 1) = false ∧ ieq ((3 : Nat) : Int) (Int.ofNat 1) = false ∧ ieq ((4 : Nat) : Int) (Int.ofNat 1) = false ∧
    ieq ((2 : Nat) : Int) (Int.ofNat 2) = true ∧ ieq ((3 : Nat) : Int) (Int.ofNat 2) = false ∧ ieq ((4 : Nat) : Int) (Int.ofNat 2) = false ∧
    ieq ((3 : Nat) : Int) (Int.ofNat 3) = true ∧ ieq ((4 : Nat) : Int) (Int.ofNat 3) = false := by
  simp only [ieq_t, ieq_f]; decide
theorem rfour1_ok (k0 n0 : Int) : Pur F0 61 [.d (.sl 2 [LR k0 n0])] [] .no (.ret (.agg [I k0, I n0, I k0, I n0, I k0, I n0, I k0, I n0])) .no := by
  refine pur_code code61_ok ?_
  conv => whnf
  obtain ⟨c11, c21, c31, c41, c22, c32, c42, c33, c43⟩ := eqN
  repeat' (first
    | (refine vb_t rfl ?_; conv => whnf)
    | (refine vb_f rfl ?_; conv => whnf)
    | (refine vb_t (by assumption) ?_; conv => whnf)
    | (refine vb_f (by assumption) ?_; conv => whnf)
    | (refine vo_i (iget_t rfl) ?_; conv => whnf)
    | fail)
  exact ⟨by trivial, by trivial⟩
theorem rfour2_ok (k0 n0 k1 n1 : Int) : Pur F0 61 [.d (.sl 2 [LR k0 n0, LR k1 n1])] [] .no (.ret (.agg [I k0, I n0, I k1, I n1, I k0, I n0, I k1, I n1])) .no := by
  refine pur_code code61_ok ?_
  conv => whnf
  obtain ⟨c11, c21, c31, c41, c22, c32, c42, c33, c43⟩ := eqN
  repeat' (first
    | (refine vb_t rfl ?_; conv => whnf)
    | (refine vb_f rfl ?_; conv => whnf)
    | (refine vb_t (by assumption) ?_; conv => whnf)
    | (refine vb_f (by assumption) ?_; conv => whnf)
    | (refine vo_i (iget_t rfl) ?_; conv => whnf)
    | fail)
  exact ⟨by trivial, by trivial⟩
theorem rfour3_ok (k0 n0 k1 n1 k2 n2 : Int) : Pur F0 61 [.d (.sl 2 [LR k0 n0, LR k1 n1, LR k2 n2])] [] .no (.ret (.agg [I k0, I n0, I k1, I n1, I k2, I n2, I k1, I n1])) .no := by
  refine pur_code code61_ok ?_
  conv => whnf
  obtain ⟨c11, c21, c31, c41, c22, c32, c42, c33, c43⟩ := eqN
  repeat' (first
    | (refine vb_t rfl ?_; conv => whnf)
    | (refine vb_f rfl ?_; conv => whnf)
    | (refine vb_t (by assumption) ?_; conv => whnf)
    | (refine vb_f (by assumption) ?_; conv => whnf)
    | (refine vo_i (iget_t rfl) ?_; conv => whnf)
    | fail)
  exact ⟨by trivial, by trivial⟩
theorem rfour4_ok (k0 n0 k1 n1 k2 n2 k3 n3 : Int) : Pur F0 61 [.d (.sl 2 [LR k0 n0, LR k1 n1, LR k2 n2, LR k3 n3])] [] .no (.ret (.agg [I k0, I n0, I k1, I n1, I k2, I n2, I k3, I n3])) .no := by
  refine pur_code code61_ok ?_
  conv => whnf
  obtain ⟨c11, c21, c31, c41, c22, c32, c42, c33, c43⟩ := eqN
  repeat' (first
    | (refine vb_t rfl ?_; conv => whnf)
    | (refine vb_f rfl ?_; conv => whnf)
    | (refine vb_t (by assumption) ?_; conv => whnf)
    | (refine vb_f (by assumption) ?_; conv => whnf)
    | (refine vo_i (iget_t rfl) ?_; conv => whnf)
    | fail)
  exact ⟨by trivial, by trivial⟩
end Go.Proofs.YtapnjabhcdlhbaaGreatDoor.Ab
