/- Layer 9 (box): alignment; the law BoxTells. -/
import Derived.Test.YtapnjabhcdlhbaaGreatDoorC09u
import Derived.Test.YtapnjabhcdlhbaaGreatDoorC09l
namespace Go.Proofs.YtapnjabhcdlhbaaGreatDoor.Ab
open Go
set_option linter.unusedSimpArgs false
set_option maxRecDepth 100000
set_option linter.unusedVariables false
set_option maxHeartbeats 4000000

def alText (k : Int) : List UInt8 := if k = 1 then [97, 117, 116, 111] else if k = 2 then [110, 111, 114, 109, 97, 108] else if k = 3 then [115, 116, 97, 114, 116] else if k = 4 then [101, 110, 100] else if k = 5 then [99, 101, 110, 116, 101, 114] else if k = 6 then [115, 116, 114, 101, 116, 99, 104] else if k = 7 then [115, 112, 97, 99, 101, 45, 98, 101, 116, 119, 101, 101, 110] else if k = 8 then [115, 112, 97, 99, 101, 45, 97, 114, 111, 117, 110, 100] else if k = 9 then [115, 112, 97, 99, 101, 45, 101, 118, 101, 110, 108, 121] else []
def alRows : List (List DV) := [[DV.str [97, 117, 116, 111]], [DV.str [110, 111, 114, 109, 97, 108]], [DV.str [115, 116, 97, 114, 116]], [DV.str [101, 110, 100]], [DV.str [99, 101, 110, 116, 101, 114]], [DV.str [115, 116, 114, 101, 116, 99, 104]], [DV.str [115, 112, 97, 99, 101, 45, 98, 101, 116, 119, 101, 101, 110]], [DV.str [115, 112, 97, 99, 101, 45, 97, 114, 111, 117, 110, 100]], [DV.str [115, 112, 97, 99, 101, 45, 101, 118, 101, 110, 108, 121]]]
def alGood (k s : Int) : Bool := decide (k = 1 ∧ s = 1 ∨ (2 ≤ k ∧ k ≤ 6) ∧ 1 ≤ s ∧ s ≤ 3 ∨ (7 ≤ k ∧ k ≤ 9) ∧ s = 3)
theorem lit8 : Int.ofNat 8 = 8 := rfl
theorem lit9 : Int.ofNat 9 = 9 := rfl
theorem alText_ok (k : Int) : Pur F0 53 [I k] [] .no (.ret (S (alText k))) .no := by
  refine pur_code code53_ok ?_
  conv => whnf
  repeat' (first
    | (refine vb_t rfl ?_; conv => whnf)
    | (refine vb_f rfl ?_; conv => whnf)
    | (refine vb_t (by assumption) ?_; conv => whnf)
    | (refine vb_f (by assumption) ?_; conv => whnf)
    | (refine vb_i (fun h => ?_) (fun h => ?_) <;> conv => whnf)
    | fail)
  all_goals refine ⟨congrArg CR.ret (S_eq ?_), by trivial⟩
  all_goals simp only [ieq_t, ieq_f, lit1, lit2, lit3, lit4, lit5, lit6, lit7, lit8, lit9] at *
  all_goals (unfold alText; simp_all)
theorem aligns_ok : Pur F0 64 [] [] .no (.ret (.d (.sl 1 alRows))) .no := pur_closed (n := 20) (by kernel_rfl)
theorem al_row (k : Int) (h1 : 1 ≤ k) (h2 : k ≤ 9) : iget alRows (isub .i64 k (Int.ofNat 1)) = some [DV.str (alText k)] := by
  have : k = 1 ∨ k = 2 ∨ k = 3 ∨ k = 4 ∨ k = 5 ∨ k = 6 ∨ k = 7 ∨ k = 8 ∨ k = 9 := by omega
  rw [lit1, isub64 (by omega) (by omega)]
  rcases this with rfl | rfl | rfl | rfl | rfl | rfl | rfl | rfl | rfl <;> (unfold iget; rfl)
theorem ralText_ok (k : Int) : Pur F0 54 [I k] [] .no (.ret (S (alText k))) .no := by
  refine pur_code code54_ok ?_
  conv => whnf
  by_cases hk : 1 ≤ k ∧ k ≤ 9
  · have t1 : ilt k (Int.ofNat 1) = false := by rw [ilt_f, lit1]; omega
    have t2 : ilt (Int.ofNat 9) k = false := by rw [ilt_f, lit9]; omega
    have hw := al_row k hk.1 hk.2
    repeat' (first
      | (refine vb_t rfl ?_; conv => whnf)
      | (refine vb_f rfl ?_; conv => whnf)
      | (refine vb_t (by assumption) ?_; conv => whnf)
      | (refine vb_f (by assumption) ?_; conv => whnf)
      | (refine vpur_i aligns_ok ?_; conv => whnf)
      | (refine vo_i hw ?_; conv => whnf)
      | fail)
    exact ⟨by trivial, by trivial⟩
  · have ha : alText k = [] := by unfold alText; (repeat rw [if_neg (by omega)])
    rw [ha]
    repeat' (first
      | (refine vb_t rfl ?_; conv => whnf)
      | (refine vb_f rfl ?_; conv => whnf)
      | (refine vb_t (by assumption) ?_; conv => whnf)
      | (refine vb_f (by assumption) ?_; conv => whnf)
      | (refine vb_i (fun h => ?_) (fun h => ?_) <;> conv => whnf)
      | fail)
    all_goals first
      | exact ⟨by trivial, by trivial⟩
      | (exfalso; apply hk; simp only [ilt_f, lit1, lit9] at *; omega)
theorem alText_nil (k : Int) : alText k = [] ↔ ¬ (1 ≤ k ∧ k ≤ 9) := by
  constructor
  · intro h hk
    have : k = 1 ∨ k = 2 ∨ k = 3 ∨ k = 4 ∨ k = 5 ∨ k = 6 ∨ k = 7 ∨ k = 8 ∨ k = 9 := by omega
    rcases this with rfl | rfl | rfl | rfl | rfl | rfl | rfl | rfl | rfl <;> simp [alText] at h
  · intro hk; unfold alText; (repeat rw [if_neg (by omega)])
theorem alGood_ok (k s : Int) : Pur F0 51 [I k, I s] [] .no (.ret (B (alGood k s))) .no := by
  refine pur_code code51_ok ?_
  conv => whnf
  repeat' (first
    | (refine vb_t rfl ?_; conv => whnf)
    | (refine vb_f rfl ?_; conv => whnf)
    | (refine vb_t (by assumption) ?_; conv => whnf)
    | (refine vb_f (by assumption) ?_; conv => whnf)
    | (refine vpur_i (alText_ok _) ?_; conv => whnf)
    | (refine vb_i (fun h => ?_) (fun h => ?_) <;> conv => whnf)
    | fail)
  all_goals refine ⟨congrArg CR.ret (congrArg AV.d (congrArg DV.bool ?_)), by trivial⟩
  all_goals unfold alGood
  all_goals simp only [ieq_t, ieq_f, ieq_d, ile_t, ile_f, ile_d, ilt_d, lit1, lit2, lit3, lit4, lit5, lit6, lit7, lit8, lit9, Bool.not_eq_true', Bool.not_eq_false', seq_t, seq_f, ne_eq, alText_nil, decide_eq_true_eq, decide_eq_false_iff_not] at *
  all_goals first
    | (rw [decide_eq_decide]; omega)
    | omega
    | (rw [eq_comm, decide_eq_false_iff_not]; omega)
    | (rw [eq_comm, decide_eq_true_eq]; omega)
theorem ralGood_ok (k s : Int) : Pur F0 52 [I k, I s] [] .no (.ret (B (alGood k s))) .no := by
  refine pur_code code52_ok ?_
  conv => whnf
  repeat' (first
    | (refine vb_t rfl ?_; conv => whnf)
    | (refine vb_f rfl ?_; conv => whnf)
    | (refine vb_t (by assumption) ?_; conv => whnf)
    | (refine vb_f (by assumption) ?_; conv => whnf)
    | (refine vb_i (fun h => ?_) (fun h => ?_) <;> conv => whnf)
    | fail)
  all_goals refine ⟨congrArg CR.ret (congrArg AV.d (congrArg DV.bool ?_)), by trivial⟩
  all_goals unfold alGood
  all_goals simp only [ieq_t, ieq_f, ieq_d, ile_t, ile_f, ile_d, ilt_t, ilt_f, ilt_d, lit1, lit2, lit3, lit4, lit5, lit6, lit7, lit8, lit9, Bool.not_eq_true', Bool.not_eq_false', decide_eq_true_eq, decide_eq_false_iff_not] at *
  all_goals first
    | (rw [decide_eq_decide]; omega)
    | omega
    | (rw [eq_comm, decide_eq_false_iff_not]; omega)
    | (rw [eq_comm, decide_eq_true_eq]; omega)
theorem boxTells_ok (k0 n0 k1 n1 k2 n2 k3 n3 p0 q0 p1 q1 k s : Int) : Pur F0 8 [.agg [I k0, I n0, I k1, I n1, I k2, I n2, I k3, I n3], .agg [I p0, I q0], .agg [I p1, I q1], I k, I s] [] .no (.ret (B true)) .no := by
  refine pur_code code8_ok ?_
  conv => whnf
  have h1 : ∀ b : Bool, (b == b) = true := fun b => by simp
  have h2 : ∀ t : List UInt8, seq t t = true := fun t => by rw [seq_t]
  repeat' (first
    | (refine vb_t rfl ?_; conv => whnf)
    | (refine vb_f rfl ?_; conv => whnf)
    | (refine vb_t (by assumption) ?_; conv => whnf)
    | (refine vb_f (by assumption) ?_; conv => whnf)
    | (refine vpur_i (mgood_ok _ _ _ _ _ _ _ _) ?_; conv => whnf)
    | (refine vpur_i (rmgood_ok _ _ _ _ _ _ _ _) ?_; conv => whnf)
    | (refine vpur_i (mText_ok _ _ _ _ _ _ _ _) ?_; conv => whnf)
    | (refine vpur_i (rmText_ok _ _ _ _ _ _ _ _) ?_; conv => whnf)
    | (refine vpur_i (gapText_ok _ _ _ _) ?_; conv => whnf)
    | (refine vpur_i (rgapText_ok _ _ _ _) ?_; conv => whnf)
    | (refine vpur_i (alGood_ok _ _) ?_; conv => whnf)
    | (refine vpur_i (ralGood_ok _ _) ?_; conv => whnf)
    | (refine vpur_i (alText_ok _) ?_; conv => whnf)
    | (refine vpur_i (ralText_ok _) ?_; conv => whnf)
    | (refine vpur_i lives09_ok ?_; conv => whnf)
    | (refine vb_t (h1 _) ?_; conv => whnf)
    | (refine vb_t (h2 _) ?_; conv => whnf)
    | fail)
  exact ⟨by trivial, by trivial⟩
end Go.Proofs.YtapnjabhcdlhbaaGreatDoor.Ab
