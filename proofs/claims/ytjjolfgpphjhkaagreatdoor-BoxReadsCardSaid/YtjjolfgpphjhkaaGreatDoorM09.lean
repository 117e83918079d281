/- Some texts as one, one behind the other. -/
import Derived.Test.YtjjolfgpphjhkaaGreatDoorC05g
import Derived.Test.YtjjolfgpphjhkaaGreatDoorAbSome
import Derived.Test.YtjjolfgpphjhkaaGreatDoorC00r
import Derived.Test.YtjjolfgpphjhkaaGreatDoorC00a
import Derived.Test.YtjjolfgpphjhkaaGreatDoorM05
import Derived.Test.YtjjolfgpphjhkaaGreatDoorAbTy
/- Layer 9 (box): four of one to four. -/
namespace Go.Proofs.YtjjolfgpphjhkaaGreatDoor.Ab
open Go
set_option linter.unusedSimpArgs false
set_option maxRecDepth 100000
set_option linter.unusedVariables false
set_option maxHeartbeats 4000000

theorem ia0 : iadd .i64 (Int.ofNat 0) (Int.ofNat 1) = Int.ofNat 1 := by rw [iadd64] <;> decide
theorem ia1 : iadd .i64 (Int.ofNat 1) (Int.ofNat 1) = Int.ofNat 2 := by rw [iadd64] <;> decide
theorem ia2 : iadd .i64 (Int.ofNat 2) (Int.ofNat 1) = Int.ofNat 3 := by rw [iadd64] <;> decide
theorem ia3 : iadd .i64 (Int.ofNat 3) (Int.ofNat 1) = Int.ofNat 4 := by rw [iadd64] <;> decide
theorem lt4 : ilt (Int.ofNat 0) (Int.ofNat 4) = true ∧ ilt (Int.ofNat 1) (Int.ofNat 4) = true ∧ ilt (Int.ofNat 2) (Int.ofNat 4) = true ∧ ilt (Int.ofNat 3) (Int.ofNat 4) = true ∧ ilt (Int.ofNat 4) (Int.ofNat 4) = false := by
  simp only [ilt_t, ilt_f]; decide
theorem in4 : (ile 0 (Int.ofNat 0) && ilt (Int.ofNat 0) (Int.ofNat 4)) = true ∧ (ile 0 (Int.ofNat 1) && ilt (Int.ofNat 1) (Int.ofNat 4)) = true ∧ (ile 0 (Int.ofNat 2) && ilt (Int.ofNat 2) (Int.ofNat 4)) = true ∧ (ile 0 (Int.ofNat 3) && ilt (Int.ofNat 3) (Int.ofNat 4)) = true := by
  simp only [Bool.and_eq_true, ile_t, ilt_t]; decide
/-- Four of one to four. -/
abbrev LR (k n : Int) : List DV := [.int .i64 k, .int .i64 n]
theorem imx1 : imax (Int.ofNat 0) (isub .i64 (Int.ofNat 1) (Int.ofNat 2)) = Int.ofNat 0 := by rw [isub64 (by decide) (by decide)]; unfold imax; rfl
theorem imx2 : imax (Int.ofNat 0) (isub .i64 (Int.ofNat 2) (Int.ofNat 2)) = Int.ofNat 0 := by rw [isub64 (by decide) (by decide)]; unfold imax; rfl
theorem imx3 : imax (Int.ofNat 0) (isub .i64 (Int.ofNat 3) (Int.ofNat 2)) = Int.ofNat 1 := by rw [isub64 (by decide) (by decide)]; unfold imax; rfl
theorem ltN : ilt (Int.ofNat 0) ((1 : Nat) : Int) = true ∧ ilt (Int.ofNat 1) ((1 : Nat) : Int) = false ∧ ilt (Int.ofNat 2) ((1 : Nat) : Int) = false ∧ ilt (Int.ofNat 3) ((1 : Nat) : Int) = false ∧
    ilt (Int.ofNat 0) ((2 : Nat) : Int) = true ∧ ilt (Int.ofNat 1) ((2 : Nat) : Int) = true ∧ ilt (Int.ofNat 2) ((2 : Nat) : Int) = false ∧ ilt (Int.ofNat 3) ((2 : Nat) : Int) = false ∧
    ilt (Int.ofNat 0) ((3 : Nat) : Int) = true ∧ ilt (Int.ofNat 1) ((3 : Nat) : Int) = true ∧ ilt (Int.ofNat 2) ((3 : Nat) : Int) = true ∧ ilt (Int.ofNat 3) ((3 : Nat) : Int) = false := by
  simp only [ilt_t, ilt_f]; decide
theorem four1_ok (k0 n0 : Int) : Pur F0 18 [.d (.sl 2 [LR k0 n0])] [] .no (.ret (.agg [I k0, I n0, I k0, I n0, I k0, I n0, I k0, I n0])) .no := by
  refine pur_code code18_ok ?_
  conv => whnf
  obtain ⟨a0, a1, a2, a3, a4⟩ := lt4
  obtain ⟨b0, b1, b2, b3⟩ := in4
  obtain ⟨c10, c11, c12, c13, c20, c21, c22, c23, c30, c31, c32, c33⟩ := ltN
  repeat' (first
    | (refine vb_t rfl ?_; conv => whnf)
    | (refine vb_f rfl ?_; conv => whnf)
    | (refine vb_t (by assumption) ?_; conv => whnf)
    | (refine vb_f (by assumption) ?_; conv => whnf)
    | (simp only [ia0, ia1, ia2, ia3, imx1, imx2, imx3]; conv => whnf)
    | (refine vloop_once ?_; conv => whnf)
    | (refine vo_i (iget_t rfl) ?_; conv => whnf)
    | fail)
  exact ⟨by trivial, by trivial⟩
theorem four2_ok (k0 n0 k1 n1 : Int) : Pur F0 18 [.d (.sl 2 [LR k0 n0, LR k1 n1])] [] .no (.ret (.agg [I k0, I n0, I k1, I n1, I k0, I n0, I k1, I n1])) .no := by
  refine pur_code code18_ok ?_
  conv => whnf
  obtain ⟨a0, a1, a2, a3, a4⟩ := lt4
  obtain ⟨b0, b1, b2, b3⟩ := in4
  obtain ⟨c10, c11, c12, c13, c20, c21, c22, c23, c30, c31, c32, c33⟩ := ltN
  repeat' (first
    | (refine vb_t rfl ?_; conv => whnf)
    | (refine vb_f rfl ?_; conv => whnf)
    | (refine vb_t (by assumption) ?_; conv => whnf)
    | (refine vb_f (by assumption) ?_; conv => whnf)
    | (simp only [ia0, ia1, ia2, ia3, imx1, imx2, imx3]; conv => whnf)
    | (refine vloop_once ?_; conv => whnf)
    | (refine vo_i (iget_t rfl) ?_; conv => whnf)
    | fail)
  exact ⟨by trivial, by trivial⟩
theorem four3_ok (k0 n0 k1 n1 k2 n2 : Int) : Pur F0 18 [.d (.sl 2 [LR k0 n0, LR k1 n1, LR k2 n2])] [] .no (.ret (.agg [I k0, I n0, I k1, I n1, I k2, I n2, I k1, I n1])) .no := by
  refine pur_code code18_ok ?_
  conv => whnf
  obtain ⟨a0, a1, a2, a3, a4⟩ := lt4
  obtain ⟨b0, b1, b2, b3⟩ := in4
  obtain ⟨c10, c11, c12, c13, c20, c21, c22, c23, c30, c31, c32, c33⟩ := ltN
  repeat' (first
    | (refine vb_t rfl ?_; conv => whnf)
    | (refine vb_f rfl ?_; conv => whnf)
    | (refine vb_t (by assumption) ?_; conv => whnf)
    | (refine vb_f (by assumption) ?_; conv => whnf)
    | (simp only [ia0, ia1, ia2, ia3, imx1, imx2, imx3]; conv => whnf)
    | (refine vloop_once ?_; conv => whnf)
    | (refine vo_i (iget_t rfl) ?_; conv => whnf)
    | fail)
  exact ⟨by trivial, by trivial⟩
theorem eqN : ieq ((1 : Nat) : Int) (Int.ofNat 1) = true ∧ ieq ((2 : Nat) : Int) (Int.ofNat 1) = false ∧ ieq ((3 : Nat) : Int) (Int.ofNat 1) = false ∧ ieq ((4 : Nat) : Int) (Int.ofNat 1) = false ∧
    ieq ((2 : Nat) : Int) (Int.ofNat 2) = true ∧ ieq ((3 : Nat) : Int) (Int.ofNat 2) = false ∧ ieq ((4 : Nat) : Int) (Int.ofNat 2) = false ∧
    ieq ((3 : Nat) : Int) (Int.ofNat 3) = true ∧ ieq ((4 : Nat) : Int) (Int.ofNat 3) = false := by
  simp only [ieq_t, ieq_f]; decide
theorem rfour1_ok (k0 n0 : Int) : Pur F0 20 [.d (.sl 2 [LR k0 n0])] [] .no (.ret (.agg [I k0, I n0, I k0, I n0, I k0, I n0, I k0, I n0])) .no := by
  refine pur_code code20_ok ?_
  conv => whnf
  obtain ⟨c11, c21, c31, c41, c22, c32, c42, c33, c43⟩ := eqN
  repeat' (first
    | (refine vb_t rfl ?_; conv => whnf)
    | (refine vb_f rfl ?_; conv => whnf)
    | (refine vb_t (by assumption) ?_; conv => whnf)
    | (refine vb_f (by assumption) ?_; conv => whnf)
    | (refine vo_i (iget_t rfl) ?_; conv => whnf)
    | fail)
  exact ⟨by trivial, by trivial⟩
theorem rfour2_ok (k0 n0 k1 n1 : Int) : Pur F0 20 [.d (.sl 2 [LR k0 n0, LR k1 n1])] [] .no (.ret (.agg [I k0, I n0, I k1, I n1, I k0, I n0, I k1, I n1])) .no := by
  refine pur_code code20_ok ?_
  conv => whnf
  obtain ⟨c11, c21, c31, c41, c22, c32, c42, c33, c43⟩ := eqN
  repeat' (first
    | (refine vb_t rfl ?_; conv => whnf)
    | (refine vb_f rfl ?_; conv => whnf)
    | (refine vb_t (by assumption) ?_; conv => whnf)
    | (refine vb_f (by assumption) ?_; conv => whnf)
    | (refine vo_i (iget_t rfl) ?_; conv => whnf)
    | fail)
  exact ⟨by trivial, by trivial⟩
theorem rfour3_ok (k0 n0 k1 n1 k2 n2 : Int) : Pur F0 20 [.d (.sl 2 [LR k0 n0, LR k1 n1, LR k2 n2])] [] .no (.ret (.agg [I k0, I n0, I k1, I n1, I k2, I n2, I k1, I n1])) .no := by
  refine pur_code code20_ok ?_
  conv => whnf
  obtain ⟨c11, c21, c31, c41, c22, c32, c42, c33, c43⟩ := eqN
  repeat' (first
    | (refine vb_t rfl ?_; conv => whnf)
    | (refine vb_f rfl ?_; conv => whnf)
    | (refine vb_t (by assumption) ?_; conv => whnf)
    | (refine vb_f (by assumption) ?_; conv => whnf)
    | (refine vo_i (iget_t rfl) ?_; conv => whnf)
    | fail)
  exact ⟨by trivial, by trivial⟩
theorem rfour4_ok (k0 n0 k1 n1 k2 n2 k3 n3 : Int) : Pur F0 20 [.d (.sl 2 [LR k0 n0, LR k1 n1, LR k2 n2, LR k3 n3])] [] .no (.ret (.agg [I k0, I n0, I k1, I n1, I k2, I n2, I k3, I n3])) .no := by
  refine pur_code code20_ok ?_
  conv => whnf
  obtain ⟨c11, c21, c31, c41, c22, c32, c42, c33, c43⟩ := eqN
  repeat' (first
    | (refine vb_t rfl ?_; conv => whnf)
    | (refine vb_f rfl ?_; conv => whnf)
    | (refine vb_t (by assumption) ?_; conv => whnf)
    | (refine vb_f (by assumption) ?_; conv => whnf)
    | (refine vo_i (iget_t rfl) ?_; conv => whnf)
    | fail)
  exact ⟨by trivial, by trivial⟩
theorem ltN4 : ilt (Int.ofNat 0) ((4 : Nat) : Int) = true ∧ ilt (Int.ofNat 1) ((4 : Nat) : Int) = true ∧ ilt (Int.ofNat 2) ((4 : Nat) : Int) = true ∧ ilt (Int.ofNat 3) ((4 : Nat) : Int) = true := by
  simp only [ilt_t, ilt_f]; decide
theorem four4_ok (k0 n0 k1 n1 k2 n2 k3 n3 : Int) : Pur F0 18 [.d (.sl 2 [LR k0 n0, LR k1 n1, LR k2 n2, LR k3 n3])] [] .no (.ret (.agg [I k0, I n0, I k1, I n1, I k2, I n2, I k3, I n3])) .no := by
  obtain ⟨d0, d1, d2, d3⟩ := ltN4
  refine pur_code code18_ok ?_
  conv => whnf
  obtain ⟨a0, a1, a2, a3, a4⟩ := lt4
  obtain ⟨b0, b1, b2, b3⟩ := in4
  obtain ⟨c10, c11, c12, c13, c20, c21, c22, c23, c30, c31, c32, c33⟩ := ltN
  repeat' (first
    | (refine vb_t rfl ?_; conv => whnf)
    | (refine vb_f rfl ?_; conv => whnf)
    | (refine vb_t (by assumption) ?_; conv => whnf)
    | (refine vb_f (by assumption) ?_; conv => whnf)
    | (simp only [ia0, ia1, ia2, ia3, imx1, imx2, imx3]; conv => whnf)
    | (refine vloop_once ?_; conv => whnf)
    | (refine vo_i (iget_t rfl) ?_; conv => whnf)
    | fail)
  exact ⟨by trivial, by trivial⟩
end Go.Proofs.YtjjolfgpphjhkaaGreatDoor.Ab
/- Layer 9 (box): alignment. -/
namespace Go.Proofs.YtjjolfgpphjhkaaGreatDoor.Ab
open Go
set_option linter.unusedSimpArgs false
set_option maxRecDepth 100000
set_option linter.unusedVariables false
set_option maxHeartbeats 4000000

def alText (k : Int) : List UInt8 := if k = 1 then [97, 117, 116, 111] else if k = 2 then [110, 111, 114, 109, 97, 108] else if k = 3 then [115, 116, 97, 114, 116] else if k = 4 then [101, 110, 100] else if k = 5 then [99, 101, 110, 116, 101, 114] else if k = 6 then [115, 116, 114, 101, 116, 99, 104] else if k = 7 then [115, 112, 97, 99, 101, 45, 98, 101, 116, 119, 101, 101, 110] else if k = 8 then [115, 112, 97, 99, 101, 45, 97, 114, 111, 117, 110, 100] else if k = 9 then [115, 112, 97, 99, 101, 45, 101, 118, 101, 110, 108, 121] else []
def alRows : List (List DV) := [[DV.str [97, 117, 116, 111]], [DV.str [110, 111, 114, 109, 97, 108]], [DV.str [115, 116, 97, 114, 116]], [DV.str [101, 110, 100]], [DV.str [99, 101, 110, 116, 101, 114]], [DV.str [115, 116, 114, 101, 116, 99, 104]], [DV.str [115, 112, 97, 99, 101, 45, 98, 101, 116, 119, 101, 101, 110]], [DV.str [115, 112, 97, 99, 101, 45, 97, 114, 111, 117, 110, 100]], [DV.str [115, 112, 97, 99, 101, 45, 101, 118, 101, 110, 108, 121]]]
def alGood (k s : Int) : Bool := decide (k = 1 ∧ s = 1 ∨ (2 ≤ k ∧ k ≤ 6) ∧ 1 ≤ s ∧ s ≤ 3 ∨ (7 ≤ k ∧ k ≤ 9) ∧ s = 3)
theorem lit8 : Int.ofNat 8 = 8 := rfl
theorem lit9 : Int.ofNat 9 = 9 := rfl
theorem alText_ok (k : Int) : Pur F0 22 [I k] [] .no (.ret (S (alText k))) .no := by
  refine pur_code code22_ok ?_
  conv => whnf
  repeat' (first
    | (refine vb_t rfl ?_; conv => whnf)
    | (refine vb_f rfl ?_; conv => whnf)
    | (refine vb_t (by assumption) ?_; conv => whnf)
    | (refine vb_f (by assumption) ?_; conv => whnf)
    | (refine vb_i (fun h => ?_) (fun h => ?_) <;> conv => whnf)
    | fail)
  all_goals refine ⟨congrArg CR.ret (S_eq ?_), by trivial⟩
  all_goals simp only [ieq_t, ieq_f, lit1, lit2, lit3, lit4, lit5, lit6, lit7, lit8, lit9] at *
  all_goals (unfold alText; simp_all)
theorem aligns_ok : Pur F0 25 [] [] .no (.ret (.d (.sl 1 alRows))) .no := pur_closed (n := 20) (by kernel_rfl)
theorem al_row (k : Int) (h1 : 1 ≤ k) (h2 : k ≤ 9) : iget alRows (isub .i64 k (Int.ofNat 1)) = some [DV.str (alText k)] := by
  have : k = 1 ∨ k = 2 ∨ k = 3 ∨ k = 4 ∨ k = 5 ∨ k = 6 ∨ k = 7 ∨ k = 8 ∨ k = 9 := by omega
  rw [lit1, isub64 (by omega) (by omega)]
  rcases this with rfl | rfl | rfl | rfl | rfl | rfl | rfl | rfl | rfl <;> (unfold iget; rfl)
theorem alText_nil (k : Int) : alText k = [] ↔ ¬ (1 ≤ k ∧ k ≤ 9) := by
  constructor
  · intro h hk
    have : k = 1 ∨ k = 2 ∨ k = 3 ∨ k = 4 ∨ k = 5 ∨ k = 6 ∨ k = 7 ∨ k = 8 ∨ k = 9 := by omega
    rcases this with rfl | rfl | rfl | rfl | rfl | rfl | rfl | rfl | rfl <;> simp [alText] at h
  · intro hk; unfold alText; (repeat rw [if_neg (by omega)])
theorem alGood_ok (k s : Int) : Pur F0 23 [I k, I s] [] .no (.ret (B (alGood k s))) .no := by
  refine pur_code code23_ok ?_
  conv => whnf
  repeat' (first
    | (refine vb_t rfl ?_; conv => whnf)
    | (refine vb_f rfl ?_; conv => whnf)
    | (refine vb_t (by assumption) ?_; conv => whnf)
    | (refine vb_f (by assumption) ?_; conv => whnf)
    | (refine vpur_i (alText_ok _) ?_; conv => whnf)
    | (refine vb_i (fun h => ?_) (fun h => ?_) <;> conv => whnf)
    | fail)
  all_goals refine ⟨congrArg CR.ret (congrArg AV.d (congrArg DV.bool ?_)), by trivial⟩
  all_goals unfold alGood
  all_goals simp only [ieq_t, ieq_f, ieq_d, ile_t, ile_f, ile_d, ilt_d, lit1, lit2, lit3, lit4, lit5, lit6, lit7, lit8, lit9, Bool.not_eq_true', Bool.not_eq_false', seq_t, seq_f, ne_eq, alText_nil, decide_eq_true_eq, decide_eq_false_iff_not] at *
  all_goals first
    | (rw [decide_eq_decide]; omega)
    | omega
    | (rw [eq_comm, decide_eq_false_iff_not]; omega)
    | (rw [eq_comm, decide_eq_true_eq]; omega)
theorem ralGood_ok (k s : Int) : Pur F0 26 [I k, I s] [] .no (.ret (B (alGood k s))) .no := by
  refine pur_code code26_ok ?_
  conv => whnf
  repeat' (first
    | (refine vb_t rfl ?_; conv => whnf)
    | (refine vb_f rfl ?_; conv => whnf)
    | (refine vb_t (by assumption) ?_; conv => whnf)
    | (refine vb_f (by assumption) ?_; conv => whnf)
    | (refine vb_i (fun h => ?_) (fun h => ?_) <;> conv => whnf)
    | fail)
  all_goals refine ⟨congrArg CR.ret (congrArg AV.d (congrArg DV.bool ?_)), by trivial⟩
  all_goals unfold alGood
  all_goals simp only [ieq_t, ieq_f, ieq_d, ile_t, ile_f, ile_d, ilt_t, ilt_f, ilt_d, lit1, lit2, lit3, lit4, lit5, lit6, lit7, lit8, lit9, Bool.not_eq_true', Bool.not_eq_false', decide_eq_true_eq, decide_eq_false_iff_not] at *
  all_goals first
    | (rw [decide_eq_decide]; omega)
    | omega
    | (rw [eq_comm, decide_eq_false_iff_not]; omega)
    | (rw [eq_comm, decide_eq_true_eq]; omega)
end Go.Proofs.YtjjolfgpphjhkaaGreatDoor.Ab
/- Layer 9 (box): the examples of its chapter. -/
namespace Go.Proofs.YtjjolfgpphjhkaaGreatDoor.Ab
open Go
set_option linter.unusedSimpArgs false
set_option maxRecDepth 100000
set_option linter.unusedVariables false
set_option maxHeartbeats 4000000

theorem lives09_ok : Pur F0 5 [] [] .no (.ret (B true)) .no := pur_closed (n := 100) (by kernel_rfl)
end Go.Proofs.YtjjolfgpphjhkaaGreatDoor.Ab
/- Layer 9 (box): margins and gaps are read alike. -/
namespace Go.Proofs.YtjjolfgpphjhkaaGreatDoor.Ab
open Go
set_option linter.unusedSimpArgs false
set_option maxRecDepth 100000
set_option linter.unusedVariables false
set_option maxHeartbeats 4000000

def lenRow (p : Int × Int) : List DV := LR p.1 p.2
/-- Sizes read, as long as there are any, up to so many. -/
def someS (rd : Int → Int × Int × Int × Int) : Nat → List (Int × Int) → Int → List (Int × Int) × Int × Int
  | 0, acc, a => (acc, a, 0)
  | f + 1, acc, a => if (rd a).2.2.2 = 50 ∧ acc ≠ [] then (acc, a, 0) else if (rd a).2.2.2 ≠ 0 then ([], (rd a).2.2.1, (rd a).2.2.2) else someS rd f (acc ++ [((rd a).1, (rd a).2.1)]) (rd a).2.2.1
theorem someS_len (rd : Int → Int × Int × Int × Int) : ∀ (f : Nat) (acc : List (Int × Int)) (a : Int), (someS rd f acc a).2.2 = 0 → acc.length ≤ (someS rd f acc a).1.length ∧ (someS rd f acc a).1.length ≤ acc.length + f ∧ (0 < f → (someS rd f acc a).1 ≠ [])
  | 0, acc, a, h => ⟨Nat.le_refl _, Nat.le_refl _, fun h => by omega⟩
  | f + 1, acc, a, h => by
    unfold someS at h ⊢
    by_cases h1 : (rd a).2.2.2 = 50 ∧ acc ≠ []
    · rw [if_pos h1]
      exact ⟨Nat.le_refl _, by show acc.length ≤ _; omega, fun _ => h1.2⟩
    · rw [if_neg h1] at h ⊢
      by_cases h2 : (rd a).2.2.2 ≠ 0
      · rw [if_pos h2] at h
        exact (h2 h).elim
      · rw [if_neg h2] at h ⊢
        obtain ⟨g1, g2, g3⟩ := someS_len rd f _ _ h
        rw [List.length_append, List.length_singleton] at g1 g2
        exact ⟨by omega, by omega, fun _ e => by rw [e] at g1; simp at g1⟩
def lensD (l : List (Int × Int)) : DV := match l with
  | [] => .nilsl
  | l => .sl 2 (l.map lenRow)
def lensV : Option (Nat × List (Int × Int)) → AV
  | none => .d .nilsl
  | some (g, l) => .osl 0 g 0 l.length
def lensH (ty : Nat) : Option (Nat × List (Int × Int)) → Heap
  | none => []
  | some (g, l) => [⟨.mine, ty, .arr true g 2 (l.map lenRow)⟩]
def lens : Option (Nat × List (Int × Int)) → List (Int × Int)
  | none => []
  | some (_, l) => l
theorem lensD_ne {l : List (Int × Int)} (h : l ≠ []) : lensD l = .sl 2 (l.map lenRow) := by
  cases l with
  | nil => exact (h rfl).elim
  | cons a t => rfl
theorem len_snoc (l : List (Int × Int)) (k n : Int) : l.map lenRow ++ [[DV.int .i64 k, DV.int .i64 n]] = (l ++ [(k, n)]).map lenRow := by rw [List.map_append]; rfl
def rdS (l : List Tok) (allow : Int) (a : Int) : Int × Int × Int × Int := readS (wordS l a) a allow
def someA (R : List (Int × Int) × Int × Int) : AV := .tup [.d (lensD R.1), I R.2.1, I R.2.2]
theorem some_ok (l : List Tok) (v : DV) (hv : toksA l v) (hl : ∀ t ∈ l, tokOk t) (at_ allow : Int) (most : Nat) (hm : most ≤ 10) (hm0 : 0 < most) :
    Pur F0 17 [.d v, I at_, I allow, I (most : Int)] [] .no (.ret (someA (someS (rdS l allow) most [] at_))) .no := by
  have hrd := fun a => read_ok l v hv hl a allow
  obtain ⟨R, hR⟩ : ∃ R, someS (rdS l allow) most [] at_ = R := ⟨_, rfl⟩
  rw [hR]
  clear hv
  refine pur_code code17_ok ?_
  conv => whnf
  refine vloop_by (σ := { x : Option (Nat × List (Int × Int)) × Int × Nat // (lens x.1).length + x.2.2 = most ∧ someS (rdS l allow) x.2.2 (lens x.1) x.2.1 = R ∧ (x.1 = none ∨ lens x.1 ≠ []) })
    (fun x => [(0, .d v), (2, I allow), (3, I (most : Int)), (8, lensV x.1.1), (9, I x.1.2.1), (10, I (Int.ofNat 0))]) (fun x => lensH 26 x.1.1) (fun x => x.1.2.2) ?_ ⟨(none, at_, most), by simp [lens], hR, .inl rfl⟩
  rintro ⟨⟨x, a, f⟩, hf, hs, hne⟩
  simp only at hf hs hne
  obtain ⟨⟨k, n, nx, e⟩, hr⟩ : ∃ r, rdS l allow a = r := ⟨_, rfl⟩
  have hread := hrd a
  have hr' : readS (wordS l a) a allow = (k, n, nx, e) := hr
  rw [hr'] at hread
  rcases x with _ | ⟨g, L⟩
  · have hf' : f = most := by simpa [lens] using hf
    subst hf'
    obtain ⟨f, rfl⟩ : ∃ m, f = m + 1 := ⟨f - 1, by omega⟩
    have hs2 : (if e = 50 ∧ ([] : List (Int × Int)) ≠ [] then (([], a, 0) : List (Int × Int) × Int × Int) else if e ≠ 0 then ([], nx, e) else someS (rdS l allow) f [(k, n)] nx) = R := by
      rw [← hs]; show _ = someS (rdS l allow) (f + 1) [] a; rw [someS, hr]; rfl
    rw [if_neg (fun h => h.2 rfl)] at hs2
    have q1 : ilt (0 : Int) ((f + 1 : Nat) : Int) = true := by rw [ilt_t]; omega
    have q2 : ilt (Int.ofNat 0) (0 : Int) = false := by rw [ilt_f]; decide
    conv => whnf
    by_cases he : e = 0
    · have z1 : ieq e (Int.ofNat 50) = false := by rw [ieq_f, he]; decide
      have z2 : (!ieq e (Int.ofNat 0)) = false := by rw [show ieq e (Int.ofNat 0) = true from by rw [ieq_t, he]; rfl]; rfl
      rw [if_neg (fun h => h he)] at hs2
      repeat' (first
        | (refine vb_t rfl ?_; conv => whnf)
        | (refine vb_f rfl ?_; conv => whnf)
        | (refine vb_t (by assumption) ?_; conv => whnf)
        | (refine vb_f (by assumption) ?_; conv => whnf)
        | (refine vpur_i hread ?_; conv => whnf)
        | (refine vb_t (room_t (by simp <;> omega)) ?_; conv => whnf)
        | fail)
      exact ⟨⟨(some (0, [(k, n)]), nx, f), by show 1 + f = f + 1; omega, hs2, .inr (by simp [lens])⟩, by simp only; omega, cons_eq rfl (cons_eq rfl (cons_eq rfl (cons_eq rfl (cons_eq rfl rfl)))), rfl, rfl, rfl⟩
    · rw [if_pos he] at hs2
      subst hs2
      have z2 : (!ieq e (Int.ofNat 0)) = true := by rw [show ieq e (Int.ofNat 0) = false from by rw [ieq_f]; exact he]; rfl
      by_cases h50 : e = 50
      · have z1 : ieq e (Int.ofNat 50) = true := by rw [ieq_t, h50]; rfl
        repeat' (first
          | (refine vb_t rfl ?_; conv => whnf)
          | (refine vb_f rfl ?_; conv => whnf)
          | (refine vb_t (by assumption) ?_; conv => whnf)
          | (refine vb_f (by assumption) ?_; conv => whnf)
          | (refine vpur_i hread ?_; conv => whnf)
          | fail)
        exact ⟨rfl, rfl⟩
      · have z1 : ieq e (Int.ofNat 50) = false := by rw [ieq_f]; exact h50
        repeat' (first
          | (refine vb_t rfl ?_; conv => whnf)
          | (refine vb_f rfl ?_; conv => whnf)
          | (refine vb_t (by assumption) ?_; conv => whnf)
          | (refine vb_f (by assumption) ?_; conv => whnf)
          | (refine vpur_i hread ?_; conv => whnf)
          | fail)
        exact ⟨rfl, rfl⟩
  · have hL0 : L ≠ [] := hne.resolve_left (fun h => by cases h)
    have hLl : L.length + f = most := hf
    have hLp := List.length_pos_iff.2 hL0
    have hq : ieq (L.length : Int) ((L.map lenRow).length : Int) = true := by rw [ieq_t]; simp
    have hgg : Nat.beq g g = true := by simp
    have hem : (L.map lenRow).isEmpty = false := by
      cases L with
      | nil => exact (hL0 rfl).elim
      | cons c t => rfl
    have hdr : ((L.map lenRow).take L.length).drop 0 = L.map lenRow := by rw [List.drop_zero, List.take_of_length_le (by simp)]
    have q2 : ilt (Int.ofNat 0) (L.length : Int) = true := by rw [ilt_t, ofn]; omega
    conv => whnf
    cases f with
    | zero =>
      have hs2 : (L, a, (0 : Int)) = R := hs
      subst hs2
      have q1 : ilt (L.length : Int) (most : Int) = false := by rw [ilt_f]; omega
      repeat' (first
        | (refine vb_t rfl ?_; conv => whnf)
        | (refine vb_f rfl ?_; conv => whnf)
        | (refine vb_t (by assumption) ?_; conv => whnf)
        | (refine vb_f (by assumption) ?_; conv => whnf)
        | fail)
      refine ⟨congrArg CR.ret ?_, rfl⟩
      show AV.tup [.d (.sl 2 (((L.map lenRow).take L.length).drop 0)), I a, I 0] = _
      unfold someA
      rw [hdr, lensD_ne hL0]
    | succ f =>
      have q1 : ilt (L.length : Int) (most : Int) = true := by rw [ilt_t]; omega
      have hs2 : (if e = 50 ∧ L ≠ [] then ((L, a, 0) : List (Int × Int) × Int × Int) else if e ≠ 0 then ([], nx, e) else someS (rdS l allow) f (L ++ [(k, n)]) nx) = R := by
        rw [← hs]; show _ = someS (rdS l allow) (f + 1) L a; rw [someS, hr]
      by_cases he : e = 0
      · have z1 : ieq e (Int.ofNat 50) = false := by rw [ieq_f, he]; decide
        have z2 : (!ieq e (Int.ofNat 0)) = false := by rw [show ieq e (Int.ofNat 0) = true from by rw [ieq_t, he]; rfl]; rfl
        rw [if_neg (fun h => by rw [he] at h; exact absurd h.1 (by decide)), if_neg (fun h => h he)] at hs2
        repeat' (first
          | (refine vb_t rfl ?_; conv => whnf)
          | (refine vb_f rfl ?_; conv => whnf)
          | (refine vb_t (by assumption) ?_; conv => whnf)
          | (refine vb_f (by assumption) ?_; conv => whnf)
          | (refine vpur_i hread ?_; conv => whnf)
          | (refine vb_t (room_t (by simp <;> omega)) ?_; conv => whnf)
          | fail)
        exact ⟨⟨(some (g + 1, L ++ [(k, n)]), nx, f), by show (L ++ [(k, n)]).length + f = most; rw [List.length_append, List.length_singleton]; omega, hs2, .inr (by simp [lens])⟩, by simp only; omega,
          cons_eq rfl (cons_eq rfl (cons_eq rfl (cons_eq (slot_eq (osl_eq rfl (by simp))) (cons_eq rfl rfl)))), cons_eq (arr_eq (len_snoc L k n)) rfl, rfl, rfl⟩
      · have z2 : (!ieq e (Int.ofNat 0)) = true := by rw [show ieq e (Int.ofNat 0) = false from by rw [ieq_f]; exact he]; rfl
        by_cases h50 : e = 50
        · have z1 : ieq e (Int.ofNat 50) = true := by rw [ieq_t, h50]; rfl
          rw [if_pos ⟨h50, hL0⟩] at hs2
          subst hs2
          repeat' (first
            | (refine vb_t rfl ?_; conv => whnf)
            | (refine vb_f rfl ?_; conv => whnf)
            | (refine vb_t (by assumption) ?_; conv => whnf)
            | (refine vb_f (by assumption) ?_; conv => whnf)
            | (refine vpur_i hread ?_; conv => whnf)
            | fail)
          refine ⟨congrArg CR.ret ?_, rfl⟩
          show AV.tup [.d (.sl 2 (((L.map lenRow).take L.length).drop 0)), I a, I 0] = _
          unfold someA
          rw [hdr, lensD_ne hL0]
        · have z1 : ieq e (Int.ofNat 50) = false := by rw [ieq_f]; exact h50
          rw [if_neg (fun h => h50 h.1), if_pos he] at hs2
          subst hs2
          repeat' (first
            | (refine vb_t rfl ?_; conv => whnf)
            | (refine vb_f rfl ?_; conv => whnf)
            | (refine vb_t (by assumption) ?_; conv => whnf)
            | (refine vb_f (by assumption) ?_; conv => whnf)
            | (refine vpur_i hread ?_; conv => whnf)
            | fail)
          exact ⟨rfl, rfl⟩
end Go.Proofs.YtjjolfgpphjhkaaGreatDoor.Ab
/- Layer 9 (box): margins, gaps, alignment, order are read alike; the law BoxReads walked. -/
namespace Go.Proofs.YtjjolfgpphjhkaaGreatDoor.Ab
open Go
set_option linter.unusedSimpArgs false
set_option maxRecDepth 100000
set_option linter.unusedVariables false
set_option maxHeartbeats 4000000

theorem rsome_ok (l : List Tok) (v : DV) (hv : toksA l v) (hl : ∀ t ∈ l, tokOk t) (at_ allow : Int) (most : Nat) (hm : most ≤ 10) (hm0 : 0 < most) :
    Pur F0 19 [.d v, I at_, I allow, I (most : Int)] [] .no (.ret (someA (someS (rdS l allow) most [] at_))) .no := by
  have hrd := fun a => rread_ok l v hv hl a allow
  obtain ⟨R, hR⟩ : ∃ R, someS (rdS l allow) most [] at_ = R := ⟨_, rfl⟩
  rw [hR]
  clear hv
  refine pur_code code19_ok ?_
  conv => whnf
  refine vloop_by (σ := { x : Option (Nat × List (Int × Int)) × Int × Nat // (lens x.1).length + x.2.2 = most ∧ someS (rdS l allow) x.2.2 (lens x.1) x.2.1 = R ∧ (x.1 = none ∨ lens x.1 ≠ []) })
    (fun x => [(0, .d v), (1, I x.1.2.1), (2, I allow), (3, I (most : Int)), (8, .d .nilsl), (9, I (Int.ofNat 0)), (10, I (Int.ofNat 0)), (11, lensV x.1.1)]) (fun x => lensH 26 x.1.1) (fun x => x.1.2.2) ?_ ⟨(none, at_, most), by simp [lens], hR, .inl rfl⟩
  rintro ⟨⟨x, a, f⟩, hf, hs, hne⟩
  simp only at hf hs hne
  obtain ⟨⟨k, n, nx, e⟩, hr⟩ : ∃ r, rdS l allow a = r := ⟨_, rfl⟩
  have hread := hrd a
  have hr' : readS (wordS l a) a allow = (k, n, nx, e) := hr
  rw [hr'] at hread
  rcases x with _ | ⟨g, L⟩
  · have hf' : f = most := by simpa [lens] using hf
    subst hf'
    obtain ⟨f, rfl⟩ : ∃ m, f = m + 1 := ⟨f - 1, by omega⟩
    have hs2 : (if e = 50 ∧ ([] : List (Int × Int)) ≠ [] then (([], a, 0) : List (Int × Int) × Int × Int) else if e ≠ 0 then ([], nx, e) else someS (rdS l allow) f [(k, n)] nx) = R := by
      rw [← hs]; show _ = someS (rdS l allow) (f + 1) [] a; rw [someS, hr]; rfl
    rw [if_neg (fun h => h.2 rfl)] at hs2
    have q1 : ilt (0 : Int) ((f + 1 : Nat) : Int) = true := by rw [ilt_t]; omega
    have q2 : ilt (Int.ofNat 0) (0 : Int) = false := by rw [ilt_f]; decide
    conv => whnf
    by_cases he : e = 0
    · have z1 : ieq e (Int.ofNat 50) = false := by rw [ieq_f, he]; decide
      have z2 : (!ieq e (Int.ofNat 0)) = false := by rw [show ieq e (Int.ofNat 0) = true from by rw [ieq_t, he]; rfl]; rfl
      rw [if_neg (fun h => h he)] at hs2
      repeat' (first
        | (refine vb_t rfl ?_; conv => whnf)
        | (refine vb_f rfl ?_; conv => whnf)
        | (refine vb_t (by assumption) ?_; conv => whnf)
        | (refine vb_f (by assumption) ?_; conv => whnf)
        | (refine vpur_i hread ?_; conv => whnf)
        | (refine vb_t (room_t (by simp <;> omega)) ?_; conv => whnf)
        | fail)
      exact ⟨⟨(some (0, [(k, n)]), nx, f), by show 1 + f = f + 1; omega, hs2, .inr (by simp [lens])⟩, by simp only; omega, rfl, rfl, rfl, rfl⟩
    · rw [if_pos he] at hs2
      subst hs2
      have z2 : (!ieq e (Int.ofNat 0)) = true := by rw [show ieq e (Int.ofNat 0) = false from by rw [ieq_f]; exact he]; rfl
      by_cases h50 : e = 50
      · have z1 : ieq e (Int.ofNat 50) = true := by rw [ieq_t, h50]; rfl
        repeat' (first
          | (refine vb_t rfl ?_; conv => whnf)
          | (refine vb_f rfl ?_; conv => whnf)
          | (refine vb_t (by assumption) ?_; conv => whnf)
          | (refine vb_f (by assumption) ?_; conv => whnf)
          | (refine vpur_i hread ?_; conv => whnf)
          | fail)
        exact ⟨rfl, rfl⟩
      · have z1 : ieq e (Int.ofNat 50) = false := by rw [ieq_f]; exact h50
        repeat' (first
          | (refine vb_t rfl ?_; conv => whnf)
          | (refine vb_f rfl ?_; conv => whnf)
          | (refine vb_t (by assumption) ?_; conv => whnf)
          | (refine vb_f (by assumption) ?_; conv => whnf)
          | (refine vpur_i hread ?_; conv => whnf)
          | fail)
        exact ⟨rfl, rfl⟩
  · have hL0 : L ≠ [] := hne.resolve_left (fun h => by cases h)
    have hLl : L.length + f = most := hf
    have hLp := List.length_pos_iff.2 hL0
    have hq : ieq (L.length : Int) ((L.map lenRow).length : Int) = true := by rw [ieq_t]; simp
    have hgg : Nat.beq g g = true := by simp
    have hem : (L.map lenRow).isEmpty = false := by
      cases L with
      | nil => exact (hL0 rfl).elim
      | cons c t => rfl
    have hdr : ((L.map lenRow).take L.length).drop 0 = L.map lenRow := by rw [List.drop_zero, List.take_of_length_le (by simp)]
    have q2 : ilt (Int.ofNat 0) (L.length : Int) = true := by rw [ilt_t, ofn]; omega
    conv => whnf
    cases f with
    | zero =>
      have hs2 : (L, a, (0 : Int)) = R := hs
      subst hs2
      have q1 : ilt (L.length : Int) (most : Int) = false := by rw [ilt_f]; omega
      repeat' (first
        | (refine vb_t rfl ?_; conv => whnf)
        | (refine vb_f rfl ?_; conv => whnf)
        | (refine vb_t (by assumption) ?_; conv => whnf)
        | (refine vb_f (by assumption) ?_; conv => whnf)
        | fail)
      refine ⟨congrArg CR.ret ?_, rfl⟩
      show AV.tup [.d (.sl 2 (((L.map lenRow).take L.length).drop 0)), I a, I 0] = _
      unfold someA
      rw [hdr, lensD_ne hL0]
    | succ f =>
      have q1 : ilt (L.length : Int) (most : Int) = true := by rw [ilt_t]; omega
      have hs2 : (if e = 50 ∧ L ≠ [] then ((L, a, 0) : List (Int × Int) × Int × Int) else if e ≠ 0 then ([], nx, e) else someS (rdS l allow) f (L ++ [(k, n)]) nx) = R := by
        rw [← hs]; show _ = someS (rdS l allow) (f + 1) L a; rw [someS, hr]
      by_cases he : e = 0
      · have z1 : ieq e (Int.ofNat 50) = false := by rw [ieq_f, he]; decide
        have z2 : (!ieq e (Int.ofNat 0)) = false := by rw [show ieq e (Int.ofNat 0) = true from by rw [ieq_t, he]; rfl]; rfl
        rw [if_neg (fun h => by rw [he] at h; exact absurd h.1 (by decide)), if_neg (fun h => h he)] at hs2
        repeat' (first
          | (refine vb_t rfl ?_; conv => whnf)
          | (refine vb_f rfl ?_; conv => whnf)
          | (refine vb_t (by assumption) ?_; conv => whnf)
          | (refine vb_f (by assumption) ?_; conv => whnf)
          | (refine vpur_i hread ?_; conv => whnf)
          | (refine vb_t (room_t (by simp <;> omega)) ?_; conv => whnf)
          | fail)
        exact ⟨⟨(some (g + 1, L ++ [(k, n)]), nx, f), by show (L ++ [(k, n)]).length + f = most; rw [List.length_append, List.length_singleton]; omega, hs2, .inr (by simp [lens])⟩, by simp only; omega,
          cons_eq rfl (cons_eq rfl (cons_eq rfl (cons_eq rfl (cons_eq rfl (cons_eq rfl (cons_eq rfl (cons_eq (slot_eq (osl_eq rfl (by simp))) rfl))))))), cons_eq (arr_eq (len_snoc L k n)) rfl, rfl, rfl⟩
      · have z2 : (!ieq e (Int.ofNat 0)) = true := by rw [show ieq e (Int.ofNat 0) = false from by rw [ieq_f]; exact he]; rfl
        by_cases h50 : e = 50
        · have z1 : ieq e (Int.ofNat 50) = true := by rw [ieq_t, h50]; rfl
          rw [if_pos ⟨h50, hL0⟩] at hs2
          subst hs2
          repeat' (first
            | (refine vb_t rfl ?_; conv => whnf)
            | (refine vb_f rfl ?_; conv => whnf)
            | (refine vb_t (by assumption) ?_; conv => whnf)
            | (refine vb_f (by assumption) ?_; conv => whnf)
            | (refine vpur_i hread ?_; conv => whnf)
            | fail)
          refine ⟨congrArg CR.ret ?_, rfl⟩
          show AV.tup [.d (.sl 2 (((L.map lenRow).take L.length).drop 0)), I a, I 0] = _
          unfold someA
          rw [hdr, lensD_ne hL0]
        · have z1 : ieq e (Int.ofNat 50) = false := by rw [ieq_f]; exact h50
          rw [if_neg (fun h => h50 h.1), if_pos he] at hs2
          subst hs2
          repeat' (first
            | (refine vb_t rfl ?_; conv => whnf)
            | (refine vb_f rfl ?_; conv => whnf)
            | (refine vb_t (by assumption) ?_; conv => whnf)
            | (refine vb_f (by assumption) ?_; conv => whnf)
            | (refine vpur_i hread ?_; conv => whnf)
            | fail)
          exact ⟨rfl, rfl⟩
/-! Margins. -/
def fourI : List (Int × Int) → List Int
  | [(a, b)] => [a, b, a, b, a, b, a, b]
  | [(a, b), (c, d)] => [a, b, c, d, a, b, c, d]
  | [(a, b), (c, d), (e, f)] => [a, b, c, d, e, f, c, d]
  | [(a, b), (c, d), (e, f), (g, h)] => [a, b, c, d, e, f, g, h]
  | _ => [0, 0, 0, 0, 0, 0, 0, 0]
def marA (R : List (Int × Int) × Int × Int) : AV := .tup [.agg ((if R.2.2 = 0 then fourI R.1 else [0, 0, 0, 0, 0, 0, 0, 0]).map I), I R.2.1, I R.2.2]
theorem margin_ok (l : List Tok) (v : DV) (hv : toksA l v) (hl : ∀ t ∈ l, tokOk t) (at_ : Int) : Pur F0 6 [.d v, I at_] [] .no (.ret (marA (someS (rdS l 7) 4 [] at_))) .no := by
  have hs := some_ok l v hv hl at_ 7 4 (by decide) (by decide)
  obtain ⟨R, hR⟩ : ∃ R, someS (rdS l 7) 4 [] at_ = R := ⟨_, rfl⟩
  rw [hR] at hs ⊢
  by_cases he : R.2.2 = 0
  · have hlen := someS_len (rdS l 7) 4 [] at_ (by rw [hR]; exact he)
    rw [hR] at hlen
    obtain ⟨L, nx, e⟩ := R
    simp only at he hlen
    subst he
    obtain ⟨_, h2, h3⟩ := hlen
    have h2 : L.length ≤ 4 := by simpa using h2
    have z2 : (!ieq (0 : Int) (Int.ofNat 0)) = false := by rw [show ieq (0 : Int) (Int.ofNat 0) = true from by rw [ieq_t]; rfl]; rfl
    rcases L with _ | ⟨⟨a, b⟩, _ | ⟨⟨c, d⟩, _ | ⟨⟨e, f⟩, _ | ⟨⟨g, h⟩, _ | ⟨x, L⟩⟩⟩⟩⟩
    · exact (h3 (by decide) rfl).elim
    · refine pur_code code6_ok ?_
      conv => whnf
      repeat' (first
        | (refine vb_t rfl ?_; conv => whnf)
        | (refine vb_f rfl ?_; conv => whnf)
        | (refine vb_t (by assumption) ?_; conv => whnf)
        | (refine vb_f (by assumption) ?_; conv => whnf)
        | (refine vpur_i hs ?_; conv => whnf)
        | (refine vpur_i (four1_ok a b) ?_; conv => whnf)
        | fail)
      exact ⟨rfl, rfl⟩
    · refine pur_code code6_ok ?_
      conv => whnf
      repeat' (first
        | (refine vb_t rfl ?_; conv => whnf)
        | (refine vb_f rfl ?_; conv => whnf)
        | (refine vb_t (by assumption) ?_; conv => whnf)
        | (refine vb_f (by assumption) ?_; conv => whnf)
        | (refine vpur_i hs ?_; conv => whnf)
        | (refine vpur_i (four2_ok a b c d) ?_; conv => whnf)
        | fail)
      exact ⟨rfl, rfl⟩
    · refine pur_code code6_ok ?_
      conv => whnf
      repeat' (first
        | (refine vb_t rfl ?_; conv => whnf)
        | (refine vb_f rfl ?_; conv => whnf)
        | (refine vb_t (by assumption) ?_; conv => whnf)
        | (refine vb_f (by assumption) ?_; conv => whnf)
        | (refine vpur_i hs ?_; conv => whnf)
        | (refine vpur_i (four3_ok a b c d e f) ?_; conv => whnf)
        | fail)
      exact ⟨rfl, rfl⟩
    · refine pur_code code6_ok ?_
      conv => whnf
      repeat' (first
        | (refine vb_t rfl ?_; conv => whnf)
        | (refine vb_f rfl ?_; conv => whnf)
        | (refine vb_t (by assumption) ?_; conv => whnf)
        | (refine vb_f (by assumption) ?_; conv => whnf)
        | (refine vpur_i hs ?_; conv => whnf)
        | (refine vpur_i (four4_ok a b c d e f g h) ?_; conv => whnf)
        | fail)
      exact ⟨rfl, rfl⟩
    · simp only [List.length_cons] at h2; omega
  · obtain ⟨L, nx, e⟩ := R
    simp only at he
    have z2 : (!ieq e (Int.ofNat 0)) = true := by rw [show ieq e (Int.ofNat 0) = false from by rw [ieq_f]; exact he]; rfl
    have hM : marA (L, nx, e) = .tup [.agg [I 0, I 0, I 0, I 0, I 0, I 0, I 0, I 0], I nx, I e] := by unfold marA; rw [if_neg he]; rfl
    rw [hM]
    refine pur_code code6_ok ?_
    conv => whnf
    repeat' (first
      | (refine vb_t rfl ?_; conv => whnf)
      | (refine vb_f rfl ?_; conv => whnf)
      | (refine vb_t (by assumption) ?_; conv => whnf)
      | (refine vb_f (by assumption) ?_; conv => whnf)
      | (refine vpur_i hs ?_; conv => whnf)
      | fail)
    exact ⟨rfl, rfl⟩
theorem rmargin_ok (l : List Tok) (v : DV) (hv : toksA l v) (hl : ∀ t ∈ l, tokOk t) (at_ : Int) : Pur F0 7 [.d v, I at_] [] .no (.ret (marA (someS (rdS l 7) 4 [] at_))) .no := by
  have hs := rsome_ok l v hv hl at_ 7 4 (by decide) (by decide)
  obtain ⟨R, hR⟩ : ∃ R, someS (rdS l 7) 4 [] at_ = R := ⟨_, rfl⟩
  rw [hR] at hs ⊢
  by_cases he : R.2.2 = 0
  · have hlen := someS_len (rdS l 7) 4 [] at_ (by rw [hR]; exact he)
    rw [hR] at hlen
    obtain ⟨L, nx, e⟩ := R
    simp only at he hlen
    subst he
    obtain ⟨_, h2, h3⟩ := hlen
    have h2 : L.length ≤ 4 := by simpa using h2
    have z2 : (!ieq (0 : Int) (Int.ofNat 0)) = false := by rw [show ieq (0 : Int) (Int.ofNat 0) = true from by rw [ieq_t]; rfl]; rfl
    rcases L with _ | ⟨⟨a, b⟩, _ | ⟨⟨c, d⟩, _ | ⟨⟨e, f⟩, _ | ⟨⟨g, h⟩, _ | ⟨x, L⟩⟩⟩⟩⟩
    · exact (h3 (by decide) rfl).elim
    · refine pur_code code7_ok ?_
      conv => whnf
      repeat' (first
        | (refine vb_t rfl ?_; conv => whnf)
        | (refine vb_f rfl ?_; conv => whnf)
        | (refine vb_t (by assumption) ?_; conv => whnf)
        | (refine vb_f (by assumption) ?_; conv => whnf)
        | (refine vpur_i hs ?_; conv => whnf)
        | (refine vpur_i (rfour1_ok a b) ?_; conv => whnf)
        | fail)
      exact ⟨rfl, rfl⟩
    · refine pur_code code7_ok ?_
      conv => whnf
      repeat' (first
        | (refine vb_t rfl ?_; conv => whnf)
        | (refine vb_f rfl ?_; conv => whnf)
        | (refine vb_t (by assumption) ?_; conv => whnf)
        | (refine vb_f (by assumption) ?_; conv => whnf)
        | (refine vpur_i hs ?_; conv => whnf)
        | (refine vpur_i (rfour2_ok a b c d) ?_; conv => whnf)
        | fail)
      exact ⟨rfl, rfl⟩
    · refine pur_code code7_ok ?_
      conv => whnf
      repeat' (first
        | (refine vb_t rfl ?_; conv => whnf)
        | (refine vb_f rfl ?_; conv => whnf)
        | (refine vb_t (by assumption) ?_; conv => whnf)
        | (refine vb_f (by assumption) ?_; conv => whnf)
        | (refine vpur_i hs ?_; conv => whnf)
        | (refine vpur_i (rfour3_ok a b c d e f) ?_; conv => whnf)
        | fail)
      exact ⟨rfl, rfl⟩
    · refine pur_code code7_ok ?_
      conv => whnf
      repeat' (first
        | (refine vb_t rfl ?_; conv => whnf)
        | (refine vb_f rfl ?_; conv => whnf)
        | (refine vb_t (by assumption) ?_; conv => whnf)
        | (refine vb_f (by assumption) ?_; conv => whnf)
        | (refine vpur_i hs ?_; conv => whnf)
        | (refine vpur_i (rfour4_ok a b c d e f g h) ?_; conv => whnf)
        | fail)
      exact ⟨rfl, rfl⟩
    · simp only [List.length_cons] at h2; omega
  · obtain ⟨L, nx, e⟩ := R
    simp only at he
    have z2 : (!ieq e (Int.ofNat 0)) = true := by rw [show ieq e (Int.ofNat 0) = false from by rw [ieq_f]; exact he]; rfl
    have hM : marA (L, nx, e) = .tup [.agg [I 0, I 0, I 0, I 0, I 0, I 0, I 0, I 0], I nx, I e] := by unfold marA; rw [if_neg he]; rfl
    rw [hM]
    refine pur_code code7_ok ?_
    conv => whnf
    repeat' (first
      | (refine vb_t rfl ?_; conv => whnf)
      | (refine vb_f rfl ?_; conv => whnf)
      | (refine vb_t (by assumption) ?_; conv => whnf)
      | (refine vb_f (by assumption) ?_; conv => whnf)
      | (refine vpur_i hs ?_; conv => whnf)
      | fail)
    exact ⟨rfl, rfl⟩
/-! Gaps. -/
def gapA (R : List (Int × Int) × Int × Int) : AV := .tup (match R.1 with
  | [(a, b)] => [.agg [I a, I b], .agg [I a, I b], I R.2.1, I R.2.2]
  | [(a, b), (c, d)] => [.agg [I a, I b], .agg [I c, I d], I R.2.1, I R.2.2]
  | _ => [.agg [I 0, I 0], .agg [I 0, I 0], I R.2.1, I R.2.2])
theorem someS_nil (rd : Int → Int × Int × Int × Int) : ∀ (f : Nat) (acc : List (Int × Int)) (a : Int), (someS rd f acc a).2.2 ≠ 0 → (someS rd f acc a).1 = []
  | 0, acc, a, h => (h rfl).elim
  | f + 1, acc, a, h => by
    unfold someS at h ⊢
    by_cases h1 : (rd a).2.2.2 = 50 ∧ acc ≠ []
    · rw [if_pos h1] at h; exact (h rfl).elim
    · rw [if_neg h1] at h ⊢
      by_cases h2 : (rd a).2.2.2 ≠ 0
      · rw [if_pos h2]
      · rw [if_neg h2] at h ⊢
        exact someS_nil rd f _ _ h
theorem gap_ok (l : List Tok) (v : DV) (hv : toksA l v) (hl : ∀ t ∈ l, tokOk t) (at_ : Int) : Pur F0 8 [.d v, I at_] [] .no (.ret (gapA (someS (rdS l 1) 2 [] at_))) .no := by
  have hs := some_ok l v hv hl at_ 1 2 (by decide) (by decide)
  obtain ⟨R, hR⟩ : ∃ R, someS (rdS l 1) 2 [] at_ = R := ⟨_, rfl⟩
  rw [hR] at hs ⊢
  by_cases he : R.2.2 = 0
  · have hlen := someS_len (rdS l 1) 2 [] at_ (by rw [hR]; exact he)
    rw [hR] at hlen
    obtain ⟨L, nx, e⟩ := R
    simp only at he hlen
    subst he
    obtain ⟨_, h2, h3⟩ := hlen
    have h2 : L.length ≤ 2 := by simpa using h2
    have z2 : (!ieq (0 : Int) (Int.ofNat 0)) = false := by rw [show ieq (0 : Int) (Int.ofNat 0) = true from by rw [ieq_t]; rfl]; rfl
    rcases L with _ | ⟨⟨a, b⟩, _ | ⟨⟨c, d⟩, _ | ⟨x, L⟩⟩⟩
    · exact (h3 (by decide) rfl).elim
    · have g0 : iget [LR a b] (Int.ofNat 0) = some (LR a b) := iget_t (n := 0) rfl
      have g1 : iget [LR a b] (isub .i64 (([LR a b].length : Nat) : Int) (Int.ofNat 1)) = some (LR a b) := by
        rw [show isub .i64 (([LR a b].length : Nat) : Int) (Int.ofNat 1) = ((0 : Nat) : Int) from by show isub .i64 1 1 = 0; rw [isub64 (by decide) (by decide)]; rfl]; exact iget_t rfl
      refine pur_code code8_ok ?_
      conv => whnf
      repeat' (first
        | (refine vb_t rfl ?_; conv => whnf)
        | (refine vb_f rfl ?_; conv => whnf)
        | (refine vb_t (by assumption) ?_; conv => whnf)
        | (refine vb_f (by assumption) ?_; conv => whnf)
        | (refine vpur_i hs ?_; conv => whnf)
        | (refine vo_i g0 ?_; conv => whnf)
        | (refine vo_i g1 ?_; conv => whnf)
        | fail)
      exact ⟨rfl, rfl⟩
    · have g0 : iget [LR a b, LR c d] (Int.ofNat 0) = some (LR a b) := iget_t (n := 0) rfl
      have g1 : iget [LR a b, LR c d] (isub .i64 (([LR a b, LR c d].length : Nat) : Int) (Int.ofNat 1)) = some (LR c d) := by
        rw [show isub .i64 (([LR a b, LR c d].length : Nat) : Int) (Int.ofNat 1) = ((1 : Nat) : Int) from by show isub .i64 2 1 = 1; rw [isub64 (by decide) (by decide)]; rfl]; exact iget_t rfl
      refine pur_code code8_ok ?_
      conv => whnf
      repeat' (first
        | (refine vb_t rfl ?_; conv => whnf)
        | (refine vb_f rfl ?_; conv => whnf)
        | (refine vb_t (by assumption) ?_; conv => whnf)
        | (refine vb_f (by assumption) ?_; conv => whnf)
        | (refine vpur_i hs ?_; conv => whnf)
        | (refine vo_i g0 ?_; conv => whnf)
        | (refine vo_i g1 ?_; conv => whnf)
        | fail)
      exact ⟨rfl, rfl⟩
    · simp only [List.length_cons] at h2; omega
  · have hnil := someS_nil (rdS l 1) 2 [] at_ (by rw [hR]; exact he)
    rw [hR] at hnil
    obtain ⟨L, nx, e⟩ := R
    simp only at he hnil
    subst hnil
    have z2 : (!ieq e (Int.ofNat 0)) = true := by rw [show ieq e (Int.ofNat 0) = false from by rw [ieq_f]; exact he]; rfl
    refine pur_code code8_ok ?_
    conv => whnf
    repeat' (first
      | (refine vb_t rfl ?_; conv => whnf)
      | (refine vb_f rfl ?_; conv => whnf)
      | (refine vb_t (by assumption) ?_; conv => whnf)
      | (refine vb_f (by assumption) ?_; conv => whnf)
      | (refine vpur_i hs ?_; conv => whnf)
      | fail)
    exact ⟨rfl, rfl⟩
theorem rgap_ok (l : List Tok) (v : DV) (hv : toksA l v) (hl : ∀ t ∈ l, tokOk t) (at_ : Int) : Pur F0 9 [.d v, I at_] [] .no (.ret (gapA (someS (rdS l 1) 2 [] at_))) .no := by
  have hs := rsome_ok l v hv hl at_ 1 2 (by decide) (by decide)
  obtain ⟨R, hR⟩ : ∃ R, someS (rdS l 1) 2 [] at_ = R := ⟨_, rfl⟩
  rw [hR] at hs ⊢
  by_cases he : R.2.2 = 0
  · have hlen := someS_len (rdS l 1) 2 [] at_ (by rw [hR]; exact he)
    rw [hR] at hlen
    obtain ⟨L, nx, e⟩ := R
    simp only at he hlen
    subst he
    obtain ⟨_, h2, h3⟩ := hlen
    have h2 : L.length ≤ 2 := by simpa using h2
    have z2 : (!ieq (0 : Int) (Int.ofNat 0)) = false := by rw [show ieq (0 : Int) (Int.ofNat 0) = true from by rw [ieq_t]; rfl]; rfl
    rcases L with _ | ⟨⟨a, b⟩, _ | ⟨⟨c, d⟩, _ | ⟨x, L⟩⟩⟩
    · exact (h3 (by decide) rfl).elim
    · have g0 : iget [LR a b] (Int.ofNat 0) = some (LR a b) := iget_t (n := 0) rfl
      have g1 : iget [LR a b] (isub .i64 (([LR a b].length : Nat) : Int) (Int.ofNat 1)) = some (LR a b) := by
        rw [show isub .i64 (([LR a b].length : Nat) : Int) (Int.ofNat 1) = ((0 : Nat) : Int) from by show isub .i64 1 1 = 0; rw [isub64 (by decide) (by decide)]; rfl]; exact iget_t rfl
      refine pur_code code9_ok ?_
      conv => whnf
      repeat' (first
        | (refine vb_t rfl ?_; conv => whnf)
        | (refine vb_f rfl ?_; conv => whnf)
        | (refine vb_t (by assumption) ?_; conv => whnf)
        | (refine vb_f (by assumption) ?_; conv => whnf)
        | (refine vpur_i hs ?_; conv => whnf)
        | (refine vo_i g0 ?_; conv => whnf)
        | (refine vo_i g1 ?_; conv => whnf)
        | fail)
      exact ⟨rfl, rfl⟩
    · have g0 : iget [LR a b, LR c d] (Int.ofNat 0) = some (LR a b) := iget_t (n := 0) rfl
      have g1 : iget [LR a b, LR c d] (isub .i64 (([LR a b, LR c d].length : Nat) : Int) (Int.ofNat 1)) = some (LR c d) := by
        rw [show isub .i64 (([LR a b, LR c d].length : Nat) : Int) (Int.ofNat 1) = ((1 : Nat) : Int) from by show isub .i64 2 1 = 1; rw [isub64 (by decide) (by decide)]; rfl]; exact iget_t rfl
      refine pur_code code9_ok ?_
      conv => whnf
      repeat' (first
        | (refine vb_t rfl ?_; conv => whnf)
        | (refine vb_f rfl ?_; conv => whnf)
        | (refine vb_t (by assumption) ?_; conv => whnf)
        | (refine vb_f (by assumption) ?_; conv => whnf)
        | (refine vpur_i hs ?_; conv => whnf)
        | (refine vo_i g0 ?_; conv => whnf)
        | (refine vo_i g1 ?_; conv => whnf)
        | fail)
      exact ⟨rfl, rfl⟩
    · simp only [List.length_cons] at h2; omega
  · have hnil := someS_nil (rdS l 1) 2 [] at_ (by rw [hR]; exact he)
    rw [hR] at hnil
    obtain ⟨L, nx, e⟩ := R
    simp only at he hnil
    subst hnil
    have z2 : (!ieq e (Int.ofNat 0)) = true := by rw [show ieq e (Int.ofNat 0) = false from by rw [ieq_f]; exact he]; rfl
    refine pur_code code9_ok ?_
    conv => whnf
    repeat' (first
      | (refine vb_t rfl ?_; conv => whnf)
      | (refine vb_f rfl ?_; conv => whnf)
      | (refine vb_t (by assumption) ?_; conv => whnf)
      | (refine vb_f (by assumption) ?_; conv => whnf)
      | (refine vpur_i hs ?_; conv => whnf)
      | fail)
    exact ⟨rfl, rfl⟩
end Go.Proofs.YtjjolfgpphjhkaaGreatDoor.Ab
/- Layer 9 (box): alignment and order are read alike; whole numbers. -/
namespace Go.Proofs.YtjjolfgpphjhkaaGreatDoor.Ab
open Go
set_option linter.unusedSimpArgs false
set_option maxRecDepth 100000
set_option linter.unusedVariables false
set_option maxHeartbeats 4000000

/-! Whole numbers. -/
def hasPE (s : List UInt8) : Bool := s.any fun c => decide (c = 46) || decide (c = 101) || decide (c = 69)
def intS (t : Tok) (at_ : Int) : Int × Int × Int :=
  if t.kind ≠ 3 ∨ hasPE t.num = true then (0, at_, 50) else if (sc5 t.num 1).2 ≠ 0 then (0, at_, (sc5 t.num 1).2) else ((sc5 t.num 1).1, iadd .i64 at_ 1, 0)
def triA (x : Int × Int × Int) : AV := .tup [I x.1, I x.2.1, I x.2.2]
theorem indexByte_mem (c : UInt8) : ∀ s : List UInt8, (0 ≤ Lib.indexByte s c) = (c ∈ s)
  | [] => by unfold Lib.indexByte; simp
  | b :: l => by
    have ih := indexByte_mem c l
    have h3 := Lib.indexByte_ge l c
    unfold Lib.indexByte
    by_cases hb : b = c
    · subst hb; simp
    · have e : (b == c) = false := by simpa using hb
      simp only [e, Bool.false_eq_true, if_false, beq_iff_eq, List.mem_cons]
      rw [eq_iff_iff]
      have hcb : ¬ c = b := fun h => hb h.symm
      simp only [hcb, false_or]
      split
      · rename_i h
        rw [← ih, h]
      · rename_i h
        rw [← ih]; omega
theorem scontains_ok (s : List UInt8) (c : UInt8) : Pur F0 38 [S s, S [c]] [] .no (.ret (B (decide (c ∈ s)))) .no := by
  obtain ⟨i, hi, he⟩ := index_ok s c
  have h2 : Pur F0 54 [S s, S [c]] [] .no (.ret (I i)) .no := by
    refine pur_code code54_ok ?_
    conv => whnf
    repeat' (first
      | (refine vb_t rfl ?_; conv => whnf)
      | (refine vb_f rfl ?_; conv => whnf)
      | (refine vb_t (by assumption) ?_; conv => whnf)
      | (refine vb_f (by assumption) ?_; conv => whnf)
      | (refine vpur_i hi ?_; conv => whnf)
      | fail)
    exact ⟨rfl, rfl⟩
  refine pur_code code38_ok ?_
  conv => whnf
  repeat' (first
    | (refine vb_t rfl ?_; conv => whnf)
    | (refine vb_f rfl ?_; conv => whnf)
    | (refine vb_t (by assumption) ?_; conv => whnf)
    | (refine vb_f (by assumption) ?_; conv => whnf)
    | (refine vpur_i h2 ?_; conv => whnf)
    | fail)
  refine ⟨congrArg CR.ret (congrArg AV.d (congrArg DV.bool ?_)), rfl⟩
  show ile (Int.ofNat 0) i = _
  rw [ile_d, ofn, he]
  have := indexByte_mem c s
  rw [decide_eq_decide]
  exact iff_of_eq this
theorem hasPE_eq (s : List UInt8) : hasPE s = (decide (46 ∈ s) || decide (101 ∈ lower s)) := by
  rw [Bool.eq_iff_iff]
  unfold hasPE lower
  simp only [List.any_eq_true, Bool.or_eq_true, decide_eq_true_eq, List.mem_map]
  constructor
  · rintro ⟨c, hc, (h | h) | h⟩
    · exact .inl (h ▸ hc)
    · exact .inr ⟨c, hc, low_e.2 (.inl h)⟩
    · exact .inr ⟨c, hc, low_e.2 (.inr h)⟩
  · rintro (h | ⟨c, hc, h⟩)
    · exact ⟨46, h, .inl (.inl rfl)⟩
    · rcases low_e.1 h with h | h
      · exact ⟨c, hc, .inl (.inr h)⟩
      · exact ⟨c, hc, .inr h⟩
theorem integer_ok (l : List Tok) (v : DV) (hv : toksA l v) (hl : ∀ t ∈ l, tokOk t) (at_ : Int) : Pur F0 27 [.d v, I at_] [] .no (.ret (triA (intS (wordS l at_) at_))) .no := by
  have ht := word_ok l v hv at_
  obtain ⟨h1, h2⟩ := wordS_ok hl at_
  generalize wordS l at_ = t at *
  have c1 := scontains_ok t.num 46
  have c2 := scontains_ok (lower t.num) 101
  have lo := lower_ok t.num (by omega)
  have hpe := hasPE_eq t.num
  have hy := scaled5_ok t.num 1 (.inl rfl) (by omega)
  refine pur_code code27_ok ?_
  conv => whnf
  unfold intS
  by_cases k3 : t.kind = 3
  case neg =>
    have q1 : (!ieq t.kind (Int.ofNat 3)) = true := by rw [show ieq t.kind (Int.ofNat 3) = false from by rw [ieq_f]; exact k3]; rfl
    rw [if_pos (.inl k3)]
    repeat' (first
      | (refine vb_t rfl ?_; conv => whnf)
      | (refine vb_f rfl ?_; conv => whnf)
      | (refine vb_t (by assumption) ?_; conv => whnf)
      | (refine vb_f (by assumption) ?_; conv => whnf)
      | (refine vpur_i ht ?_; conv => whnf)
      | fail)
    exact ⟨rfl, rfl⟩
  have q1 : (!ieq t.kind (Int.ofNat 3)) = false := by rw [show ieq t.kind (Int.ofNat 3) = true from by rw [ieq_t]; exact k3]; rfl
  by_cases h46 : (46 : UInt8) ∈ t.num
  · rw [decide_eq_true h46] at c1 hpe
    rw [if_pos (.inr (by rw [hpe]; rfl))]
    repeat' (first
      | (refine vb_t rfl ?_; conv => whnf)
      | (refine vb_f rfl ?_; conv => whnf)
      | (refine vb_t (by assumption) ?_; conv => whnf)
      | (refine vb_f (by assumption) ?_; conv => whnf)
      | (refine vpur_i ht ?_; conv => whnf)
      | (refine vpur_i c1 ?_; conv => whnf)
      | fail)
    exact ⟨rfl, rfl⟩
  rw [decide_eq_false h46] at c1 hpe
  by_cases h101 : (101 : UInt8) ∈ lower t.num
  · rw [decide_eq_true h101] at c2 hpe
    rw [if_pos (.inr (by rw [hpe]; rfl))]
    repeat' (first
      | (refine vb_t rfl ?_; conv => whnf)
      | (refine vb_f rfl ?_; conv => whnf)
      | (refine vb_t (by assumption) ?_; conv => whnf)
      | (refine vb_f (by assumption) ?_; conv => whnf)
      | (refine vpur_i ht ?_; conv => whnf)
      | (refine vpur_i c1 ?_; conv => whnf)
      | (refine vpur_i lo ?_; conv => whnf)
      | (refine vpur_i c2 ?_; conv => whnf)
      | fail)
    exact ⟨rfl, rfl⟩
  rw [decide_eq_false h101] at c2 hpe
  rw [if_neg (fun h => by rcases h with h | h; exact h k3; rw [hpe] at h; cases h)]
  generalize sc5 t.num 1 = y at *
  obtain ⟨n, e⟩ := y
  simp only at hy ⊢
  by_cases he : e = 0
  · have z2 : (!ieq e (Int.ofNat 0)) = false := by rw [show ieq e (Int.ofNat 0) = true from by rw [ieq_t, he]; rfl]; rfl
    rw [if_neg (fun h => h he)]
    repeat' (first
      | (refine vb_t rfl ?_; conv => whnf)
      | (refine vb_f rfl ?_; conv => whnf)
      | (refine vb_t (by assumption) ?_; conv => whnf)
      | (refine vb_f (by assumption) ?_; conv => whnf)
      | (refine vpur_i ht ?_; conv => whnf)
      | (refine vpur_i c1 ?_; conv => whnf)
      | (refine vpur_i lo ?_; conv => whnf)
      | (refine vpur_i c2 ?_; conv => whnf)
      | (refine vpur_i hy ?_; conv => whnf)
      | fail)
    exact ⟨rfl, rfl⟩
  · have z2 : (!ieq e (Int.ofNat 0)) = true := by rw [show ieq e (Int.ofNat 0) = false from by rw [ieq_f]; exact he]; rfl
    rw [if_pos he]
    repeat' (first
      | (refine vb_t rfl ?_; conv => whnf)
      | (refine vb_f rfl ?_; conv => whnf)
      | (refine vb_t (by assumption) ?_; conv => whnf)
      | (refine vb_f (by assumption) ?_; conv => whnf)
      | (refine vpur_i ht ?_; conv => whnf)
      | (refine vpur_i c1 ?_; conv => whnf)
      | (refine vpur_i lo ?_; conv => whnf)
      | (refine vpur_i c2 ?_; conv => whnf)
      | (refine vpur_i hy ?_; conv => whnf)
      | fail)
    exact ⟨rfl, rfl⟩
theorem rinteger_ok (l : List Tok) (v : DV) (hv : toksA l v) (hl : ∀ t ∈ l, tokOk t) (at_ : Int) : Pur F0 29 [.d v, I at_] [] .no (.ret (triA (intS (wordS l at_) at_))) .no := by
  have ht := rword_ok l v hv at_
  obtain ⟨h1, h2⟩ := wordS_ok hl at_
  generalize wordS l at_ = t at *
  have hy := rvalue_ok t.num 1 (.inl rfl) (by omega)
  obtain ⟨he, hn⟩ := numV_err t.num 1
  obtain ⟨V, hV⟩ : ∃ V, triA (intS t at_) = V := ⟨_, rfl⟩
  rw [hV]
  unfold intS at hV
  refine pur_code code29_ok ?_
  conv => whnf
  by_cases k3 : t.kind = 3
  case neg =>
    have q1 : (!ieq t.kind (Int.ofNat 3)) = true := by rw [show ieq t.kind (Int.ofNat 3) = false from by rw [ieq_f]; exact k3]; rfl
    rw [if_pos (.inl k3)] at hV
    subst hV
    repeat' (first
      | (refine vb_t rfl ?_; conv => whnf)
      | (refine vb_f rfl ?_; conv => whnf)
      | (refine vb_t (by assumption) ?_; conv => whnf)
      | (refine vb_f (by assumption) ?_; conv => whnf)
      | (refine vpur_i ht ?_; conv => whnf)
      | fail)
    exact ⟨rfl, rfl⟩
  have q1 : (!ieq t.kind (Int.ofNat 3)) = false := by rw [show ieq t.kind (Int.ofNat 3) = true from by rw [ieq_t]; exact k3]; rfl
  repeat' (first
    | (refine vb_t rfl ?_; conv => whnf)
    | (refine vb_f rfl ?_; conv => whnf)
    | (refine vb_t (by assumption) ?_; conv => whnf)
    | (refine vb_f (by assumption) ?_; conv => whnf)
    | (refine vpur_i ht ?_; conv => whnf)
    | fail)
  refine vloop_by (σ := { i : Nat // i ≤ t.num.length ∧ hasPE (t.num.take i) = false }) (fun i => [(1, I at_), (4, I (Int.ofNat 0)), (5, I (Int.ofNat 0)), (6, I (Int.ofNat 0)), (7, .ptr 0 0), (8, I (i.1 : Int))])
    (fun _ => [⟨.mine, 45, .fix [I t.kind, I t.at_, S t.text, S t.num]⟩]) (fun i => t.num.length - i.1) ?_ ⟨0, Nat.zero_le _, rfl⟩
  rintro ⟨i, hi, hno⟩
  conv => whnf
  by_cases hlt : i < t.num.length
  · have q2 : ilt (i : Int) (t.num.length : Int) = true := by rw [ilt_t]; omega
    obtain ⟨c, hc⟩ : ∃ c, t.num[i]? = some c := ⟨t.num[i], List.getElem?_eq_getElem hlt⟩
    have hg : iget t.num (i : Int) = some c := iget_t hc
    have hall : (c = 46 ∨ c = 101 ∨ c = 69) → hasPE t.num = true := fun h => by
      unfold hasPE; rw [List.any_eq_true]
      exact ⟨c, List.mem_of_getElem? hc, by simp only [Bool.or_eq_true, decide_eq_true_eq]; rcases h with h | h | h; exact .inl (.inl h); exact .inl (.inr h); exact .inr h⟩
    by_cases h3 : c = 46
    · have t1 : ieq (c.toNat : Int) (Int.ofNat 46) = true := ieq_c 46 rfl h3
      rw [if_pos (.inr (hall (.inl h3)))] at hV
      subst hV
      repeat' (first
        | (refine vb_t rfl ?_; conv => whnf)
        | (refine vb_f rfl ?_; conv => whnf)
        | (refine vb_t (by assumption) ?_; conv => whnf)
        | (refine vb_f (by assumption) ?_; conv => whnf)
        | (refine vo_i hg ?_; conv => whnf)
        | fail)
      exact ⟨rfl, rfl⟩
    have t1 : ieq (c.toNat : Int) (Int.ofNat 46) = false := ieq_nc 46 rfl h3
    by_cases h4 : c = 101
    · have t2 : ieq (c.toNat : Int) (Int.ofNat 101) = true := ieq_c 101 rfl h4
      rw [if_pos (.inr (hall (.inr (.inl h4))))] at hV
      subst hV
      repeat' (first
        | (refine vb_t rfl ?_; conv => whnf)
        | (refine vb_f rfl ?_; conv => whnf)
        | (refine vb_t (by assumption) ?_; conv => whnf)
        | (refine vb_f (by assumption) ?_; conv => whnf)
        | (refine vo_i hg ?_; conv => whnf)
        | fail)
      exact ⟨rfl, rfl⟩
    have t2 : ieq (c.toNat : Int) (Int.ofNat 101) = false := ieq_nc 101 rfl h4
    by_cases h5 : c = 69
    · have t3 : ieq (c.toNat : Int) (Int.ofNat 69) = true := ieq_c 69 rfl h5
      rw [if_pos (.inr (hall (.inr (.inr h5))))] at hV
      subst hV
      repeat' (first
        | (refine vb_t rfl ?_; conv => whnf)
        | (refine vb_f rfl ?_; conv => whnf)
        | (refine vb_t (by assumption) ?_; conv => whnf)
        | (refine vb_f (by assumption) ?_; conv => whnf)
        | (refine vo_i hg ?_; conv => whnf)
        | fail)
      exact ⟨rfl, rfl⟩
    have t3 : ieq (c.toNat : Int) (Int.ofNat 69) = false := ieq_nc 69 rfl h5
    repeat' (first
      | (refine vb_t rfl ?_; conv => whnf)
      | (refine vb_f rfl ?_; conv => whnf)
      | (refine vb_t (by assumption) ?_; conv => whnf)
      | (refine vb_f (by assumption) ?_; conv => whnf)
      | (refine vo_i hg ?_; conv => whnf)
      | fail)
    refine ⟨⟨i + 1, by omega, ?_⟩, by simp only; omega, cons_eq rfl (cons_eq rfl (cons_eq rfl (cons_eq rfl (cons_eq rfl (cons_eq (slot_eq (I_eq (iadd_one (i := i) (by omega)))) rfl))))), rfl, rfl, rfl⟩
    unfold hasPE at hno ⊢
    rw [List.take_add_one, hc, List.any_append, hno]
    simp [h3, h4, h5]
  · have q2 : ilt (i : Int) (t.num.length : Int) = false := by rw [ilt_f]; omega
    rw [List.take_of_length_le (by omega)] at hno
    rw [if_neg (fun h => by rcases h with h | h; exact h k3; rw [hno] at h; cases h)] at hV
    unfold sc5 at hV
    generalize numV t.num 1 = y at *
    obtain ⟨n, e⟩ := y
    simp only at hy hV he hn
    rcases he with rfl | rfl | rfl
    · have z1 : ieq (0 : Int) (Int.ofNat 10) = false := by rw [ieq_f]; decide
      have z2 : (!ieq (0 : Int) (Int.ofNat 0)) = false := by rw [show ieq (0 : Int) (Int.ofNat 0) = true from by rw [ieq_t]; rfl]; rfl
      rw [show (if (0 : Int) = 21 then (50 : Int) else 0) = 0 from by decide, if_neg (by decide : ¬ (0 : Int) ≠ 0)] at hV
      subst hV
      repeat' (first
        | (refine vb_t rfl ?_; conv => whnf)
        | (refine vb_f rfl ?_; conv => whnf)
        | (refine vb_t (by assumption) ?_; conv => whnf)
        | (refine vb_f (by assumption) ?_; conv => whnf)
        | (refine vpur_i hy ?_; conv => whnf)
        | fail)
      exact ⟨rfl, rfl⟩
    · have z1 : ieq (10 : Int) (Int.ofNat 10) = true := by rw [ieq_t]; rfl
      rw [show (if (10 : Int) = 21 then (50 : Int) else 10) = 10 from by decide, if_pos (by decide : (10 : Int) ≠ 0)] at hV
      subst hV
      repeat' (first
        | (refine vb_t rfl ?_; conv => whnf)
        | (refine vb_f rfl ?_; conv => whnf)
        | (refine vb_t (by assumption) ?_; conv => whnf)
        | (refine vb_f (by assumption) ?_; conv => whnf)
        | (refine vpur_i hy ?_; conv => whnf)
        | fail)
      exact ⟨rfl, rfl⟩
    · have z1 : ieq (21 : Int) (Int.ofNat 10) = false := by rw [ieq_f]; decide
      have z2 : (!ieq (21 : Int) (Int.ofNat 0)) = true := by rw [show ieq (21 : Int) (Int.ofNat 0) = false from by rw [ieq_f]; decide]; rfl
      rw [show (if (21 : Int) = 21 then (50 : Int) else 21) = 50 from by decide, if_pos (by decide : (50 : Int) ≠ 0)] at hV
      subst hV
      repeat' (first
        | (refine vb_t rfl ?_; conv => whnf)
        | (refine vb_f rfl ?_; conv => whnf)
        | (refine vb_t (by assumption) ?_; conv => whnf)
        | (refine vb_f (by assumption) ?_; conv => whnf)
        | (refine vpur_i hy ?_; conv => whnf)
        | fail)
      exact ⟨rfl, rfl⟩
theorem intS_zero {t : Tok} {at_ : Int} (h : (intS t at_).2.2 ≠ 0) : (intS t at_).1 = 0 := by
  unfold intS at h ⊢
  split
  · rfl
  · rename_i h1
    rw [if_neg h1] at h
    split
    · rfl
    · rename_i h2; rw [if_neg h2] at h; exact (h rfl).elim
/-! The order. -/
def ordS (x : Int × Int × Int) (at_ : Int) : Int × Int × Int := if x.2.2 = 10 ∨ 1048576 < x.1 ∨ x.1 < -1048576 then (0, at_, 52) else x
theorem clamp_ok (n : Int) : Pur F0 28 [I n, I (Int.negSucc 1048575), I (Int.ofNat 1048576)] [] .no (.ret (I (if 1048576 < n then 1048576 else if n < -1048576 then -1048576 else n))) .no := by
  refine pur_code code28_ok ?_
  conv => whnf
  repeat' (first
    | (refine vb_t rfl ?_; conv => whnf)
    | (refine vb_f rfl ?_; conv => whnf)
    | (refine vb_t (by assumption) ?_; conv => whnf)
    | (refine vb_f (by assumption) ?_; conv => whnf)
    | fail)
  refine ⟨congrArg CR.ret (I_eq ?_), rfl⟩
  show imax (Int.negSucc 1048575) (imin n (Int.ofNat 1048576)) = _
  rw [imax_d, imin_d, ofn]
  (repeat' split) <;> omega
theorem order_ok (l : List Tok) (v : DV) (hv : toksA l v) (hl : ∀ t ∈ l, tokOk t) (at_ : Int) : Pur F0 12 [.d v, I at_] [] .no (.ret (triA (ordS (intS (wordS l at_) at_) at_))) .no := by
  have hi := integer_ok l v hv hl at_
  generalize intS (wordS l at_) at_ = x at *
  obtain ⟨n, nx, e⟩ := x
  have hc := clamp_ok n
  refine pur_code code12_ok ?_
  conv => whnf
  unfold ordS
  by_cases h10 : e = 10
  · have q1 : ieq e (Int.ofNat 10) = true := by rw [ieq_t]; exact h10
    rw [if_pos (.inl h10)]
    repeat' (first
      | (refine vb_t rfl ?_; conv => whnf)
      | (refine vb_f rfl ?_; conv => whnf)
      | (refine vb_t (by assumption) ?_; conv => whnf)
      | (refine vb_f (by assumption) ?_; conv => whnf)
      | (refine vpur_i hi ?_; conv => whnf)
      | fail)
    exact ⟨rfl, rfl⟩
  have q1 : ieq e (Int.ofNat 10) = false := by rw [ieq_f]; exact h10
  by_cases hb : 1048576 < n ∨ n < -1048576
  · have q2 : (!ieq (if 1048576 < n then 1048576 else if n < -1048576 then -1048576 else n) n) = true := by
      rw [show ieq (if 1048576 < n then 1048576 else if n < -1048576 then -1048576 else n) n = false from by rw [ieq_f]; (repeat' split) <;> omega]; rfl
    rw [if_pos (.inr hb)]
    repeat' (first
      | (refine vb_t rfl ?_; conv => whnf)
      | (refine vb_f rfl ?_; conv => whnf)
      | (refine vb_t (by assumption) ?_; conv => whnf)
      | (refine vb_f (by assumption) ?_; conv => whnf)
      | (refine vpur_i hi ?_; conv => whnf)
      | (refine vpur_i hc ?_; conv => whnf)
      | fail)
    exact ⟨rfl, rfl⟩
  · have q2 : (!ieq (if 1048576 < n then 1048576 else if n < -1048576 then -1048576 else n) n) = false := by
      rw [show ieq (if 1048576 < n then 1048576 else if n < -1048576 then -1048576 else n) n = true from by rw [ieq_t]; (repeat' split) <;> omega]; rfl
    rw [if_neg (fun h => by rcases h with h | h; exact h10 h; exact hb h)]
    repeat' (first
      | (refine vb_t rfl ?_; conv => whnf)
      | (refine vb_f rfl ?_; conv => whnf)
      | (refine vb_t (by assumption) ?_; conv => whnf)
      | (refine vb_f (by assumption) ?_; conv => whnf)
      | (refine vpur_i hi ?_; conv => whnf)
      | (refine vpur_i hc ?_; conv => whnf)
      | fail)
    exact ⟨rfl, rfl⟩
theorem rorder_ok (l : List Tok) (v : DV) (hv : toksA l v) (hl : ∀ t ∈ l, tokOk t) (at_ : Int) : Pur F0 13 [.d v, I at_] [] .no (.ret (triA (ordS (intS (wordS l at_) at_) at_))) .no := by
  have hi := rinteger_ok l v hv hl at_
  have hz := intS_zero (t := wordS l at_) (at_ := at_)
  generalize intS (wordS l at_) at_ = x at *
  obtain ⟨n, nx, e⟩ := x
  simp only at hz
  refine pur_code code13_ok ?_
  conv => whnf
  unfold ordS
  by_cases h10 : e = 10
  · have q1 : ieq e (Int.ofNat 10) = true := by rw [ieq_t]; exact h10
    rw [if_pos (.inl h10)]
    repeat' (first
      | (refine vb_t rfl ?_; conv => whnf)
      | (refine vb_f rfl ?_; conv => whnf)
      | (refine vb_t (by assumption) ?_; conv => whnf)
      | (refine vb_f (by assumption) ?_; conv => whnf)
      | (refine vpur_i hi ?_; conv => whnf)
      | fail)
    exact ⟨rfl, rfl⟩
  have q1 : ieq e (Int.ofNat 10) = false := by rw [ieq_f]; exact h10
  by_cases h0 : e = 0
  case neg =>
    have q0 : ieq e (Int.ofNat 0) = false := by rw [ieq_f]; exact h0
    have hn := hz h0
    rw [if_neg (fun h => by rcases h with h | h; exact h10 h; simp only at h; omega)]
    repeat' (first
      | (refine vb_t rfl ?_; conv => whnf)
      | (refine vb_f rfl ?_; conv => whnf)
      | (refine vb_t (by assumption) ?_; conv => whnf)
      | (refine vb_f (by assumption) ?_; conv => whnf)
      | (refine vpur_i hi ?_; conv => whnf)
      | fail)
    exact ⟨rfl, rfl⟩
  have q0 : ieq e (Int.ofNat 0) = true := by rw [ieq_t]; exact h0
  by_cases hb1 : 1048576 < n
  · have q2 : ilt (Int.ofNat 1048576) n = true := by rw [ilt_t]; exact hb1
    rw [if_pos (.inr (.inl hb1))]
    repeat' (first
      | (refine vb_t rfl ?_; conv => whnf)
      | (refine vb_f rfl ?_; conv => whnf)
      | (refine vb_t (by assumption) ?_; conv => whnf)
      | (refine vb_f (by assumption) ?_; conv => whnf)
      | (refine vpur_i hi ?_; conv => whnf)
      | fail)
    exact ⟨rfl, rfl⟩
  have q2 : ilt (Int.ofNat 1048576) n = false := by rw [ilt_f]; exact Int.not_lt.1 hb1
  by_cases hb2 : n < -1048576
  · have q3 : ilt n (Int.negSucc 1048575) = true := by rw [ilt_t]; exact hb2
    rw [if_pos (.inr (.inr hb2))]
    repeat' (first
      | (refine vb_t rfl ?_; conv => whnf)
      | (refine vb_f rfl ?_; conv => whnf)
      | (refine vb_t (by assumption) ?_; conv => whnf)
      | (refine vb_f (by assumption) ?_; conv => whnf)
      | (refine vpur_i hi ?_; conv => whnf)
      | fail)
    exact ⟨rfl, rfl⟩
  have q3 : ilt n (Int.negSucc 1048575) = false := by rw [ilt_f]; exact Int.not_lt.1 hb2
  rw [if_neg (fun h => by rcases h with h | h | h; exact h10 h; exact hb1 h; exact hb2 h)]
  repeat' (first
    | (refine vb_t rfl ?_; conv => whnf)
    | (refine vb_f rfl ?_; conv => whnf)
    | (refine vb_t (by assumption) ?_; conv => whnf)
    | (refine vb_f (by assumption) ?_; conv => whnf)
    | (refine vpur_i hi ?_; conv => whnf)
    | fail)
  exact ⟨rfl, rfl⟩
/-! Alignment. -/
def alWs : List (List UInt8) := [[97, 117, 116, 111], [110, 111, 114, 109, 97, 108], [115, 116, 97, 114, 116], [101, 110, 100], [99, 101, 110, 116, 101, 114], [115, 116, 114, 101, 116, 99, 104], [115, 112, 97, 99, 101, 45, 98, 101, 116, 119, 101, 101, 110], [115, 112, 97, 99, 101, 45, 97, 114, 111, 117, 110, 100], [115, 112, 97, 99, 101, 45, 101, 118, 101, 110, 108, 121]]
def featAl : List (List UInt8) := [[98, 97, 115, 101, 108, 105, 110, 101], [102, 105, 114, 115, 116], [108, 97, 115, 116], [115, 97, 102, 101], [117, 110, 115, 97, 102, 101], [108, 101, 102, 116], [114, 105, 103, 104, 116], [102, 108, 101, 120, 45, 115, 116, 97, 114, 116], [102, 108, 101, 120, 45, 101, 110, 100], [115, 101, 108, 102, 45, 115, 116, 97, 114, 116], [115, 101, 108, 102, 45, 101, 110, 100], [108, 101, 103, 97, 99, 121], [105, 110, 104, 101, 114, 105, 116], [105, 110, 105, 116, 105, 97, 108], [117, 110, 115, 101, 116], [114, 101, 118, 101, 114, 116]]
def alS (t : Tok) (at_ set : Int) : Int × Int × Int :=
  if 0 ≤ kwS t alWs ∧ alGood (kwS t alWs + 1) set = true then (kwS t alWs + 1, iadd .i64 at_ 1, 0)
  else if 0 ≤ kwS t featAl then (0, at_, 51) else (0, at_, 50)
theorem kwS_ge (t : Tok) (ws : List (List UInt8)) : kwS t ws = -1 ∨ 0 ≤ kwS t ws ∧ kwS t ws < ws.length := by
  unfold kwS
  split
  · rcases kwFrom_ge t.text ws 0 with h | h
    · exact .inl h
    · exact .inr ⟨by omega, by omega⟩
  · exact .inl rfl
theorem kwFrom_at (s : List UInt8) : ∀ (ws : List (List UInt8)) (i j : Nat), kwFrom s ws i = ((i + j : Nat) : Int) → ∃ w, ws[j]? = some w ∧ lower s = lower w
  | [], i, j, h => by unfold kwFrom at h; omega
  | w :: l, i, j, h => by
    rw [kwFrom] at h
    split at h
    · rename_i hm
      have : j = 0 := by omega
      subst this
      exact ⟨w, rfl, hm⟩
    · cases j with
      | zero =>
        have := kwFrom_ge s l (i + 1)
        omega
      | succ j =>
        obtain ⟨w', h1, h2⟩ := kwFrom_at s l (i + 1) j (by rw [h]; congr 1; omega)
        exact ⟨w', by simpa using h1, h2⟩
theorem al_get : ∀ j : Nat, j < 9 → alWs[j]? = some (alText ((j : Int) + 1)) := by decide
theorem al_low : ∀ j : Nat, j < 9 → lower (alText ((j : Int) + 1)) = alText ((j : Int) + 1) ∧ (alText ((j : Int) + 1)).length ≤ 20 := by decide
theorem al_hit {s : List UInt8} {j : Nat} (hj : j < 9) (h : lower s = alText ((j : Int) + 1)) : kwFrom s alWs 0 = (j : Int) := by
  have hc : ∀ (ws : List (List UInt8)) (i : Nat), kwFrom s ws i = kwFrom (alText ((j : Int) + 1)) ws i := by
    intro ws
    induction ws with
    | nil => intro i; rfl
    | cons w l ih => intro i; rw [kwFrom, kwFrom, ih, h, (al_low j hj).1]
  rw [hc]
  have : ∀ j : Nat, j < 9 → kwFrom (alText ((j : Int) + 1)) alWs 0 = (j : Int) := by decide
  exact this j hj
end Go.Proofs.YtjjolfgpphjhkaaGreatDoor.Ab
/- Layer 9 (box): alignment is read alike; the law BoxReads walked. -/
namespace Go.Proofs.YtjjolfgpphjhkaaGreatDoor.Ab
open Go
set_option linter.unusedSimpArgs false
set_option maxRecDepth 100000
set_option linter.unusedVariables false
set_option maxHeartbeats 4000000

theorem alRows_eq : alRows = alWs.map strRow := rfl
theorem alS_none {t : Tok} {at_ set : Int} (h : ¬ (0 ≤ kwS t alWs ∧ alGood (kwS t alWs + 1) set = true)) : alS t at_ set = if 0 ≤ kwS t featAl then (0, at_, 51) else (0, at_, 50) := by unfold alS; rw [if_neg h]
theorem ralign_ok (l : List Tok) (v : DV) (hv : toksA l v) (hl : ∀ t ∈ l, tokOk t) (at_ set : Int) : Pur F0 11 [.d v, I at_, I set] [] .no (.ret (triA (alS (wordS l at_) at_ set))) .no := by
  have h1 := rkeyword_ok l v hv hl at_ alWs (by decide) (by decide)
  have h2 := rkeyword_ok l v hv hl at_ featAl (by decide) (by decide)
  have hal := aligns_ok
  rw [alRows_eq] at hal
  generalize wordS l at_ = t at *
  have hg1 := kwS_ge t alWs
  have hg2 := kwS_ge t featAl
  unfold kwA at h1 h2
  obtain ⟨V, hV⟩ : ∃ V, triA (alS t at_ set) = V := ⟨_, rfl⟩
  rw [hV]
  unfold alS at hV
  generalize kwS t alWs = k at *
  generalize kwS t featAl = f at *
  have hk9 : k < 9 := by rcases hg1 with h | h; omega; exact h.2
  refine pur_code code11_ok ?_
  conv => whnf
  by_cases hk : 0 ≤ k
  · have q1 : ile (Int.ofNat 0) k = true := by rw [ile_t]; exact hk
    rw [if_neg (by omega)] at h1
    have e1 : iadd .i64 k (Int.ofNat 1) = k + 1 := by rw [ofn, iadd64 (by omega) (by omega)]; rfl
    have hgo := ralGood_ok (k + 1) set
    rw [← e1] at hgo
    rw [e1] at hgo
    have hgo' : Pur F0 26 [I (iadd .i64 k (Int.ofNat 1)), I set] [] .no (.ret (B (alGood (k + 1) set))) .no := by rw [e1]; exact ralGood_ok (k + 1) set
    by_cases ha : alGood (k + 1) set = true
    · rw [if_pos ⟨hk, ha⟩] at hV
      subst hV
      rw [ha] at hgo'
      repeat' (first
        | (refine vb_t rfl ?_; conv => whnf)
        | (refine vb_f rfl ?_; conv => whnf)
        | (refine vb_t (by assumption) ?_; conv => whnf)
        | (refine vb_f (by assumption) ?_; conv => whnf)
        | (refine vpur_i hal ?_; conv => whnf)
        | (refine vpur_i h1 ?_; conv => whnf)
        | (refine vpur_i hgo' ?_; conv => whnf)
        | fail)
      refine ⟨congrArg CR.ret ?_, rfl⟩
      show AV.tup [I (iadd .i64 k (Int.ofNat 1)), I (iadd .i64 at_ 1), I 0] = _
      rw [e1]; rfl
    · rw [if_neg (fun h => ha h.2)] at hV
      rw [Bool.not_eq_true] at ha
      rw [ha] at hgo'
      by_cases hf : 0 ≤ f
      · have q2 : ile (Int.ofNat 0) f = true := by rw [ile_t]; exact hf
        rw [if_pos hf] at hV
        subst hV
        repeat' (first
          | (refine vb_t rfl ?_; conv => whnf)
          | (refine vb_f rfl ?_; conv => whnf)
          | (refine vb_t (by assumption) ?_; conv => whnf)
          | (refine vb_f (by assumption) ?_; conv => whnf)
          | (refine vpur_i hal ?_; conv => whnf)
          | (refine vpur_i h1 ?_; conv => whnf)
          | (refine vpur_i hgo' ?_; conv => whnf)
          | (refine vpur_i h2 ?_; conv => whnf)
          | fail)
        exact ⟨rfl, rfl⟩
      · have q2 : ile (Int.ofNat 0) f = false := by rw [ile_f]; exact Int.not_le.1 hf
        rw [if_neg hf] at hV
        subst hV
        repeat' (first
          | (refine vb_t rfl ?_; conv => whnf)
          | (refine vb_f rfl ?_; conv => whnf)
          | (refine vb_t (by assumption) ?_; conv => whnf)
          | (refine vb_f (by assumption) ?_; conv => whnf)
          | (refine vpur_i hal ?_; conv => whnf)
          | (refine vpur_i h1 ?_; conv => whnf)
          | (refine vpur_i hgo' ?_; conv => whnf)
          | (refine vpur_i h2 ?_; conv => whnf)
          | fail)
        exact ⟨rfl, rfl⟩
  · have q1 : ile (Int.ofNat 0) k = false := by rw [ile_f]; exact Int.not_le.1 hk
    rw [if_neg (fun h => hk h.1)] at hV
    by_cases hf : 0 ≤ f
    · have q2 : ile (Int.ofNat 0) f = true := by rw [ile_t]; exact hf
      rw [if_pos hf] at hV
      subst hV
      repeat' (first
        | (refine vb_t rfl ?_; conv => whnf)
        | (refine vb_f rfl ?_; conv => whnf)
        | (refine vb_t (by assumption) ?_; conv => whnf)
        | (refine vb_f (by assumption) ?_; conv => whnf)
        | (refine vpur_i hal ?_; conv => whnf)
        | (refine vpur_i h1 ?_; conv => whnf)
        | (refine vpur_i h2 ?_; conv => whnf)
        | fail)
      exact ⟨rfl, rfl⟩
    · have q2 : ile (Int.ofNat 0) f = false := by rw [ile_f]; exact Int.not_le.1 hf
      rw [if_neg hf] at hV
      subst hV
      repeat' (first
        | (refine vb_t rfl ?_; conv => whnf)
        | (refine vb_f rfl ?_; conv => whnf)
        | (refine vb_t (by assumption) ?_; conv => whnf)
        | (refine vb_f (by assumption) ?_; conv => whnf)
        | (refine vpur_i hal ?_; conv => whnf)
        | (refine vpur_i h1 ?_; conv => whnf)
        | (refine vpur_i h2 ?_; conv => whnf)
        | fail)
      exact ⟨rfl, rfl⟩
theorem kw_one (t : Tok) (w : List UInt8) : kwS t [w] = if t.kind = 1 ∧ lower t.text = lower w then 0 else -1 := by
  unfold kwS
  by_cases h1 : t.kind = 1
  · rw [if_pos h1, kwFrom]
    by_cases h2 : lower t.text = lower w
    · rw [if_pos h2, if_pos ⟨h1, h2⟩]; rfl
    · rw [if_neg h2, if_neg (fun h => h2 h.2)]; rfl
  · rw [if_neg h1, if_neg (fun h => h1 h.1)]
theorem align_ok (l : List Tok) (v : DV) (hv : toksA l v) (hl : ∀ t ∈ l, tokOk t) (at_ set : Int) : Pur F0 10 [.d v, I at_, I set] [] .no (.ret (triA (alS (wordS l at_) at_ set))) .no := by
  have hkw := fun w (hw : w.length ≤ 1000) => keyword_ok l v hv hl at_ [w] (fun x hx => by rw [List.mem_singleton.1 hx]; exact hw) (by simp)
  have h2 := keyword_ok l v hv hl at_ featAl (by decide) (by decide)
  generalize wordS l at_ = t at *
  have hg2 := kwS_ge t featAl
  unfold kwA at h2
  obtain ⟨V, hV⟩ : ∃ V, triA (alS t at_ set) = V := ⟨_, rfl⟩
  rw [hV]
  refine pur_code code10_ok ?_
  conv => whnf
  refine vloop_by (σ := { j : Nat // j ≤ 9 ∧ ∀ i : Nat, i < j → ¬ (t.kind = 1 ∧ lower t.text = alText ((i : Int) + 1) ∧ alGood ((i : Int) + 1) set = true) }) (fun j => [(0, .d v), (1, I at_), (2, I set), (6, I (Int.ofNat 0)), (7, I (Int.ofNat 0)), (8, I (Int.ofNat 0)), (9, I ((j.1 + 1 : Nat) : Int))])
    (fun _ => []) (fun j => 9 - j.1) ?_ ⟨0, by decide, fun i h => by omega⟩
  rintro ⟨j, hj, hno⟩
  conv => whnf
  by_cases hlt : j < 9
  · have q1 : ile ((j + 1 : Nat) : Int) (Int.ofNat 9) = true := by rw [ile_t, ofn]; omega
    have ej : ((j + 1 : Nat) : Int) = (j : Int) + 1 := by omega
    obtain ⟨lw, ll⟩ := al_low j hlt
    have ht := alText_ok ((j + 1 : Nat) : Int)
    rw [ej] at ht q1
    have hk := hkw (alText ((j : Int) + 1)) (by omega)
    unfold kwA at hk
    rw [kw_one, lw] at hk
    have hgo := alGood_ok ((j : Int) + 1) set
    by_cases hm : t.kind = 1 ∧ lower t.text = alText ((j : Int) + 1)
    · rw [if_pos hm, if_neg (by decide)] at hk
      have z1 : ieq (0 : Int) (Int.ofNat 0) = true := by rw [ieq_t]; rfl
      by_cases ha : alGood ((j : Int) + 1) set = true
      · have hkS : kwS t alWs = (j : Int) := by unfold kwS; rw [if_pos hm.1]; exact al_hit hlt hm.2
        have hA : alS t at_ set = ((j : Int) + 1, iadd .i64 at_ 1, 0) := by unfold alS; rw [hkS, if_pos ⟨by omega, ha⟩]
        rw [hA] at hV
        subst hV
        rw [ha] at hgo
        repeat' (first
          | (refine vb_t rfl ?_; conv => whnf)
          | (refine vb_f rfl ?_; conv => whnf)
          | (refine vb_t (by assumption) ?_; conv => whnf)
          | (refine vb_f (by assumption) ?_; conv => whnf)
          | (refine vpur_i ht ?_; conv => whnf)
          | (refine vpur_i hk ?_; conv => whnf)
          | (refine vpur_i hgo ?_; conv => whnf)
          | fail)
        exact ⟨rfl, rfl⟩
      · rw [Bool.not_eq_true] at ha
        rw [ha] at hgo
        repeat' (first
          | (refine vb_t rfl ?_; conv => whnf)
          | (refine vb_f rfl ?_; conv => whnf)
          | (refine vb_t (by assumption) ?_; conv => whnf)
          | (refine vb_f (by assumption) ?_; conv => whnf)
          | (refine vpur_i ht ?_; conv => whnf)
          | (refine vpur_i hk ?_; conv => whnf)
          | (refine vpur_i hgo ?_; conv => whnf)
          | fail)
        exact ⟨⟨j + 1, by omega, fun i hi h => by
          by_cases e : i = j
          · subst e; rw [ha] at h; cases h.2.2
          · exact hno i (by omega) h⟩, by simp only; omega, cons_eq rfl (cons_eq rfl (cons_eq rfl (cons_eq rfl (cons_eq rfl (cons_eq rfl (cons_eq (slot_eq (I_eq (iadd_one (i := j + 1) (by omega)))) rfl)))))), rfl, rfl, rfl⟩
    · rw [if_neg hm, if_pos rfl] at hk
      have z1 : ieq (-1 : Int) (Int.ofNat 0) = false := by rw [ieq_f]; decide
      repeat' (first
        | (refine vb_t rfl ?_; conv => whnf)
        | (refine vb_f rfl ?_; conv => whnf)
        | (refine vb_t (by assumption) ?_; conv => whnf)
        | (refine vb_f (by assumption) ?_; conv => whnf)
        | (refine vpur_i ht ?_; conv => whnf)
        | (refine vpur_i hk ?_; conv => whnf)
        | (refine vpur_i hgo ?_; conv => whnf)
        | fail)
      exact ⟨⟨j + 1, by omega, fun i hi h => by
        by_cases e : i = j
        · subst e; exact hm ⟨h.1, h.2.1⟩
        · exact hno i (by omega) h⟩, by simp only; omega, cons_eq rfl (cons_eq rfl (cons_eq rfl (cons_eq rfl (cons_eq rfl (cons_eq rfl (cons_eq (slot_eq (I_eq (iadd_one (i := j + 1) (by omega)))) rfl)))))), rfl, rfl, rfl⟩
  · obtain rfl : j = 9 := by omega
    have q1 : ile ((9 + 1 : Nat) : Int) (Int.ofNat 9) = false := by rw [ile_f]; decide
    have hnone : ¬ (0 ≤ kwS t alWs ∧ alGood (kwS t alWs + 1) set = true) := fun ⟨h0, ha⟩ => by
      rcases kwS_ge t alWs with h | ⟨_, h9⟩
      · omega
      · have h9 : kwS t alWs < 9 := h9
        obtain ⟨i, hi⟩ : ∃ i : Nat, kwS t alWs = (i : Int) := ⟨(kwS t alWs).toNat, by omega⟩
        rw [hi] at ha h9
        have hk1 : t.kind = 1 := by
          refine Classical.byContradiction fun hk => ?_
          unfold kwS at hi; rw [if_neg hk] at hi; omega
        unfold kwS at hi
        rw [if_pos hk1] at hi
        obtain ⟨w, hw, hm⟩ := kwFrom_at t.text alWs 0 i (by rw [hi, Nat.zero_add])
        rw [al_get i (by omega)] at hw
        cases hw
        rw [(al_low i (by omega)).1] at hm
        exact hno i (by omega) ⟨hk1, hm, ha⟩
    rw [alS_none hnone] at hV
    generalize kwS t featAl = f at *
    by_cases hf : 0 ≤ f
    · have q2 : ile (Int.ofNat 0) f = true := by rw [ile_t]; exact hf
      rw [if_pos hf] at hV
      subst hV
      repeat' (first
        | (refine vb_t rfl ?_; conv => whnf)
        | (refine vb_f rfl ?_; conv => whnf)
        | (refine vb_t (by assumption) ?_; conv => whnf)
        | (refine vb_f (by assumption) ?_; conv => whnf)
        | (refine vpur_i h2 ?_; conv => whnf)
        | fail)
      exact ⟨rfl, rfl⟩
    · have q2 : ile (Int.ofNat 0) f = false := by rw [ile_f]; exact Int.not_le.1 hf
      rw [if_neg hf] at hV
      subst hV
      repeat' (first
        | (refine vb_t rfl ?_; conv => whnf)
        | (refine vb_f rfl ?_; conv => whnf)
        | (refine vb_t (by assumption) ?_; conv => whnf)
        | (refine vb_f (by assumption) ?_; conv => whnf)
        | (refine vpur_i h2 ?_; conv => whnf)
        | fail)
      exact ⟨rfl, rfl⟩
/-! The law. -/
theorem few_ok (l : List Tok) (v : DV) (hv : toksA l v) : ∃ b : Bool, Pur F0 4 [.d v] [] .no (.ret (B b)) .no ∧ (b = true → ∀ t ∈ l, tokOk t) := by
  refine pur_ret (σ := Bool) (g := B) (Q := fun b => b = true → ∀ t ∈ l, tokOk t) code4_ok ?_
  rcases hv with ⟨rfl, rfl⟩ | rfl
  · conv => whnf
    have q1 : ilt (Int.ofNat 1200) (0 : Int) = false := by rw [ilt_f]; decide
    have q2 : ilt (Int.ofNat 0) (0 : Int) = false := by rw [ilt_f]; decide
    repeat' (first
      | (refine vb_t rfl ?_; conv => whnf)
      | (refine vb_f rfl ?_; conv => whnf)
      | (refine vb_t (by assumption) ?_; conv => whnf)
      | (refine vb_f (by assumption) ?_; conv => whnf)
      | (refine vloop_once ?_; conv => whnf)
      | fail)
    exact ⟨_, rfl, rfl, fun _ t h => by cases h⟩
  · conv => whnf
    by_cases hlen : 1200 < l.length
    · have q1 : ilt (Int.ofNat 1200) ((l.map tokRow).length : Int) = true := by rw [ilt_t, List.length_map, ofn]; omega
      repeat' (first
        | (refine vb_t rfl ?_; conv => whnf)
        | (refine vb_f rfl ?_; conv => whnf)
        | (refine vb_t (by assumption) ?_; conv => whnf)
        | (refine vb_f (by assumption) ?_; conv => whnf)
        | fail)
      exact ⟨_, rfl, rfl, fun h => by cases h⟩
    have q1 : ilt (Int.ofNat 1200) ((l.map tokRow).length : Int) = false := by rw [ilt_f, List.length_map, ofn]; omega
    repeat' (first
      | (refine vb_t rfl ?_; conv => whnf)
      | (refine vb_f rfl ?_; conv => whnf)
      | (refine vb_t (by assumption) ?_; conv => whnf)
      | (refine vb_f (by assumption) ?_; conv => whnf)
      | fail)
    refine vloop_eq2 (fr' := [(2, B false), (8, .d (.sl 4 (l.map tokRow))), (9, I (l.length : Int)), (10, I ((0 : Nat) : Int))]) (h' := []) (cons_eq rfl (cons_eq rfl (cons_eq (slot_eq (I_eq (by rw [List.length_map]))) rfl))) rfl ?_
    refine vloop_by (σ := { i : Nat // i ≤ l.length ∧ ∀ t ∈ l.take i, tokOk t }) (fun i => [(2, B false), (8, .d (.sl 4 (l.map tokRow))), (9, I (l.length : Int)), (10, I (i.1 : Int))]) (fun _ => []) (fun i => l.length - i.1) ?_ ⟨0, Nat.zero_le _, fun t h => by cases h⟩
    rintro ⟨i, hi, hall⟩
    conv => whnf
    by_cases hlt : i < l.length
    · have q2 : ilt (i : Int) (l.length : Int) = true := by rw [ilt_t]; omega
      obtain ⟨t, ht⟩ : ∃ t, l[i]? = some t := ⟨l[i], List.getElem?_eq_getElem hlt⟩
      have hg : iget (l.map tokRow) (i : Int) = some (tokRow t) := iget_t (by rw [List.getElem?_map, ht]; rfl)
      by_cases h1 : 400 < t.num.length
      · have q3 : ilt (Int.ofNat 400) (t.num.length : Int) = true := by rw [ilt_t, ofn]; omega
        repeat' (first
          | (refine vb_t rfl ?_; conv => whnf)
          | (refine vb_f rfl ?_; conv => whnf)
          | (refine vb_t (by assumption) ?_; conv => whnf)
          | (refine vb_f (by assumption) ?_; conv => whnf)
          | (refine vo_i hg ?_; conv => whnf)
          | fail)
        exact ⟨_, rfl, rfl, fun h => by cases h⟩
      have q3 : ilt (Int.ofNat 400) (t.num.length : Int) = false := by rw [ilt_f, ofn]; omega
      by_cases h2 : 400 < t.text.length
      · have q4 : ilt (Int.ofNat 400) (t.text.length : Int) = true := by rw [ilt_t, ofn]; omega
        repeat' (first
          | (refine vb_t rfl ?_; conv => whnf)
          | (refine vb_f rfl ?_; conv => whnf)
          | (refine vb_t (by assumption) ?_; conv => whnf)
          | (refine vb_f (by assumption) ?_; conv => whnf)
          | (refine vo_i hg ?_; conv => whnf)
          | fail)
        exact ⟨_, rfl, rfl, fun h => by cases h⟩
      have q4 : ilt (Int.ofNat 400) (t.text.length : Int) = false := by rw [ilt_f, ofn]; omega
      repeat' (first
        | (refine vb_t rfl ?_; conv => whnf)
        | (refine vb_f rfl ?_; conv => whnf)
        | (refine vb_t (by assumption) ?_; conv => whnf)
        | (refine vb_f (by assumption) ?_; conv => whnf)
        | (refine vo_i hg ?_; conv => whnf)
        | fail)
      refine ⟨⟨i + 1, by omega, fun x hx => ?_⟩, by simp only; omega, cons_eq rfl (cons_eq rfl (cons_eq rfl (cons_eq (slot_eq (I_eq (iadd_one (i := i) (by omega)))) rfl))), rfl, rfl, rfl⟩
      rw [List.take_add_one, ht] at hx
      rcases List.mem_append.1 hx with hx | hx
      · exact hall x hx
      · have : x = t := by simpa using hx
        subst this
        exact ⟨by omega, by omega⟩
    · have q2 : ilt (i : Int) (l.length : Int) = false := by rw [ilt_f]; omega
      rw [List.take_of_length_le (by omega)] at hall
      repeat' (first
        | (refine vb_t rfl ?_; conv => whnf)
        | (refine vb_f rfl ?_; conv => whnf)
        | (refine vb_t (by assumption) ?_; conv => whnf)
        | (refine vb_f (by assumption) ?_; conv => whnf)
        | fail)
      exact ⟨_, rfl, rfl, fun _ => hall⟩
end Go.Proofs.YtjjolfgpphjhkaaGreatDoor.Ab
/- Layer 9 (box): the law BoxReads walked. -/
namespace Go.Proofs.YtjjolfgpphjhkaaGreatDoor.Ab
open Go
set_option linter.unusedSimpArgs false
set_option maxRecDepth 100000
set_option linter.unusedVariables false
set_option maxHeartbeats 4000000

theorem nieq_self (a : Int) : (!ieq a a) = false := by rw [show ieq a a = true from by rw [ieq_t]]; rfl
theorem ieq_same (a : Int) : ieq a a = true := by rw [ieq_t]
theorem boxReads_ok (l : List Tok) (v : DV) (hv : toksA l v) (at_ set : Int) : Pur F0 3 [.d v, I at_, I set] [] .no (.ret (B true)) .no := by
  obtain ⟨b, hb, hfew⟩ := few_ok l v hv
  cases b with
  | false =>
    refine pur_code code3_ok ?_
    conv => whnf
    repeat' (first
      | (refine vb_t rfl ?_; conv => whnf)
      | (refine vb_f rfl ?_; conv => whnf)
      | (refine vb_t (by assumption) ?_; conv => whnf)
      | (refine vb_f (by assumption) ?_; conv => whnf)
      | (refine vpur_i hb ?_; conv => whnf)
      | (refine vpur_i lives09_ok ?_; conv => whnf)
      | fail)
    exact ⟨rfl, rfl⟩
  | true =>
    have hl := hfew rfl
    have m1 := margin_ok l v hv hl at_
    have m2 := rmargin_ok l v hv hl at_
    have g1 := gap_ok l v hv hl at_
    have g2 := rgap_ok l v hv hl at_
    have a1 := align_ok l v hv hl at_ set
    have a2 := ralign_ok l v hv hl at_ set
    have o1 := order_ok l v hv hl at_
    have o2 := rorder_ok l v hv hl at_
    generalize alS (wordS l at_) at_ set = A at *
    generalize ordS (intS (wordS l at_) at_) at_ = O at *
    generalize someS (rdS l 1) 2 [] at_ = G at *
    generalize someS (rdS l 7) 4 [] at_ = M at *
    clear hv hl hfew
    obtain ⟨A1, A2, A3⟩ := A
    obtain ⟨O1, O2, O3⟩ := O
    have hG : ∃ x y z w p q : Int, gapA G = .tup [.agg [I x, I y], .agg [I z, I w], I p, I q] := by
      unfold gapA
      split
      · exact ⟨_, _, _, _, _, _, rfl⟩
      · exact ⟨_, _, _, _, _, _, rfl⟩
      · exact ⟨_, _, _, _, _, _, rfl⟩
    have hF : ∀ L : List (Int × Int), ∃ a b c d e f g h : Int, fourI L = [a, b, c, d, e, f, g, h] := fun L => by
      unfold fourI
      split <;> exact ⟨_, _, _, _, _, _, _, _, rfl⟩
    have hM : ∃ a b c d e f g h p q : Int, marA M = .tup [.agg [I a, I b, I c, I d, I e, I f, I g, I h], I p, I q] := by
      unfold marA
      split
      · obtain ⟨a, b, c, d, e, f, g, h, hx⟩ := hF M.1
        rw [hx]
        exact ⟨a, b, c, d, e, f, g, h, _, _, rfl⟩
      · exact ⟨0, 0, 0, 0, 0, 0, 0, 0, _, _, rfl⟩
    obtain ⟨x, y, z, w, p, q, hG⟩ := hG
    obtain ⟨a, b, c, d, e, f, g, h, r, s, hM⟩ := hM
    rw [hG] at g1 g2
    rw [hM] at m1 m2
    clear hF hG hM
    have s1 := ieq_same a
    have s2 := ieq_same b
    have s3 := ieq_same c
    have s4 := ieq_same d
    have s5 := ieq_same e
    have s6 := ieq_same f
    have s7 := ieq_same g
    have s8 := ieq_same h
    have s9 := ieq_same x
    have s10 := ieq_same y
    have s11 := ieq_same z
    have s12 := ieq_same w
    have t1 := ieq_same A1
    have t2 := ieq_same A2
    have t3 := ieq_same A3
    have t4 := ieq_same O1
    have t5 := ieq_same O2
    have t6 := ieq_same O3
    have n1 := nieq_self r
    have n2 := nieq_self s
    have n3 := nieq_self p
    have n4 := nieq_self q
    have n5 := nieq_self A1
    have n6 := nieq_self A2
    have n7 := nieq_self A3
    have E8 : (!(ieq a a && (ieq b b && (ieq c c && (ieq d d && (ieq e e && (ieq f f && (ieq g g && ieq h h)))))))) = false := by rw [s1, s2, s3, s4, s5, s6, s7, s8]; rfl
    have E2 : (!(ieq x x && ieq y y)) = false := by rw [s9, s10]; rfl
    have E3 : (!(ieq z z && ieq w w)) = false := by rw [s11, s12]; rfl
    refine pur_code code3_ok ?_
    conv => whnf
    repeat' (first
      | (refine vb_t rfl ?_; conv => whnf)
      | (refine vb_f rfl ?_; conv => whnf)
      | (refine vb_t (by assumption) ?_; conv => whnf)
      | (refine vb_f (by assumption) ?_; conv => whnf)
      | (rw [E8]; conv => whnf)
      | (rw [E2]; conv => whnf)
      | (rw [E3]; conv => whnf)
      | (refine vpur_i hb ?_; conv => whnf)
      | (refine vpur_i lives09_ok ?_; conv => whnf)
      | (refine vpur_i m1 ?_; conv => whnf)
      | (refine vpur_i m2 ?_; conv => whnf)
      | (refine vpur_i g1 ?_; conv => whnf)
      | (refine vpur_i g2 ?_; conv => whnf)
      | (refine vpur_i a1 ?_; conv => whnf)
      | (refine vpur_i a2 ?_; conv => whnf)
      | (refine vpur_i o1 ?_; conv => whnf)
      | (refine vpur_i o2 ?_; conv => whnf)
      | fail)
    exact ⟨rfl, rfl⟩
end Go.Proofs.YtjjolfgpphjhkaaGreatDoor.Ab
