/- Layer 9 (box): the texts of margins and gaps. -/
import Derived.Test.YtapnjabhcdlhbaaGreatDoorC09t
namespace Go.Proofs.YtapnjabhcdlhbaaGreatDoor.Ab
open Go
set_option linter.unusedSimpArgs false
set_option maxRecDepth 100000
set_option linter.unusedVariables false
set_option maxHeartbeats 4000000

theorem rowStrs_map : ∀ l : List (List UInt8), rowStrs (l.map fun s => [DV.str s]) = some l
  | [] => rfl
  | s :: l => by simp only [List.map_cons, rowStrs, rowStr, rowStrs_map l]
theorem join_ok (l : List (List UInt8)) (sep : List UInt8) (h1 : l.length ≤ 140737488355328) (h2 : (Lib.join l sep).length ≤ 140737488355328) (h : Heap) : Pur F0 102 [.d (.sl 1 (l.map fun s => [DV.str s])), S sep] h .no (.ret (S (Lib.join l sep))) .no := by
  refine pur_known (g := kJoin) (by kernel_rfl) ?_
  have e : (decide (l.length ≤ 140737488355328) && decide ((Lib.join l sep).length ≤ 140737488355328)) = true := by simp [h1, h2]
  simp only [kJoin, rowStrs_map, e]
theorem join_nil_ok (sep : List UInt8) (h : Heap) : Pur F0 102 [.d .nilsl, S sep] h .no (.ret (S [])) .no := pur_known (g := kJoin) (by kernel_rfl) rfl
theorem keyText_le (k : Int) : (keyText k).length ≤ 11 := by unfold keyText; (repeat' split) <;> decide
theorem valText_len (k n : Int) : (valText k n).length ≤ 210 := by
  have h1 := numText_len n 64
  have h2 := numText_len n 1000
  have h3 := keyText_le k
  unfold valText
  (repeat' split) <;> (try rw [List.length_append]) <;> (try simp only [List.length_cons, List.length_nil]) <;> omega
theorem join1 (a : List UInt8) : Lib.join [a] [32] = a := Lib.join_one a [32]
theorem join2 (a b : List UInt8) : Lib.join [a, b] [32] = a ++ ([32] ++ b) := by simp [Lib.join_cons, Lib.joinTail]
theorem join3 (a b c : List UInt8) : Lib.join [a, b, c] [32] = a ++ ([32] ++ (b ++ ([32] ++ c))) := by simp [Lib.join_cons, Lib.joinTail]
theorem join4 (a b c d : List UInt8) : Lib.join [a, b, c, d] [32] = a ++ ([32] ++ (b ++ ([32] ++ (c ++ ([32] ++ d))))) := by simp [Lib.join_cons, Lib.joinTail]
theorem ltM : ilt (Int.ofNat 1) ((1 : Nat) : Int) = false ∧ ilt (Int.ofNat 2) ((2 : Nat) : Int) = false ∧ ilt (Int.ofNat 3) ((3 : Nat) : Int) = false ∧ ilt (Int.ofNat 0) ((4 : Nat) : Int) = true ∧ ilt (Int.ofNat 1) ((4 : Nat) : Int) = true ∧ ilt (Int.ofNat 2) ((4 : Nat) : Int) = true ∧ ilt (Int.ofNat 3) ((4 : Nat) : Int) = true ∧ ilt (Int.ofNat 4) ((4 : Nat) : Int) = false := by
  simp only [ilt_t, ilt_f]; decide
theorem texts1_ok (k0 n0 : Int) : Pur F0 107 [.d (.sl 2 [LR k0 n0])] [] .no (.ret (S (Lib.join [valText k0 n0] [32]))) .no := by
  have j := join_ok [valText k0 n0] [32] (by simp) (by rw [join1]; have := valText_len k0 n0; omega) []
  refine pur_code code107_ok ?_
  conv => whnf
  obtain ⟨c10, c11, c12, c13, c20, c21, c22, c23, c30, c31, c32, c33⟩ := ltN
  obtain ⟨d1, d2, d3, e0, e1, e2, e3, e4⟩ := ltM
  repeat' (first
    | (refine vb_t rfl ?_; conv => whnf)
    | (refine vb_f rfl ?_; conv => whnf)
    | (refine vb_t (by assumption) ?_; conv => whnf)
    | (refine vb_f (by assumption) ?_; conv => whnf)
    | (simp only [ia0, ia1, ia2, ia3]; conv => whnf)
    | (refine vloop_once ?_; conv => whnf)
    | (refine vo_i (iget_t rfl) ?_; conv => whnf)
    | (refine vpur_i (vtext_ok _ _) ?_; conv => whnf)
    | (refine vb_t (room_t (by simp)) ?_; conv => whnf)
    | (refine vb_t (by simp [ieq_t]) ?_; conv => whnf)
    | (refine vpur_i j ?_; conv => whnf)
    | fail)
  exact ⟨by trivial, by trivial⟩
theorem texts2_ok (k0 n0 k1 n1 : Int) : Pur F0 107 [.d (.sl 2 [LR k0 n0, LR k1 n1])] [] .no (.ret (S (Lib.join [valText k0 n0, valText k1 n1] [32]))) .no := by
  have j := join_ok [valText k0 n0, valText k1 n1] [32] (by simp) (by rw [join2]; have := valText_len k0 n0; have := valText_len k1 n1; simp; omega) []
  refine pur_code code107_ok ?_
  conv => whnf
  obtain ⟨c10, c11, c12, c13, c20, c21, c22, c23, c30, c31, c32, c33⟩ := ltN
  obtain ⟨d1, d2, d3, e0, e1, e2, e3, e4⟩ := ltM
  repeat' (first
    | (refine vb_t rfl ?_; conv => whnf)
    | (refine vb_f rfl ?_; conv => whnf)
    | (refine vb_t (by assumption) ?_; conv => whnf)
    | (refine vb_f (by assumption) ?_; conv => whnf)
    | (simp only [ia0, ia1, ia2, ia3]; conv => whnf)
    | (refine vloop_once ?_; conv => whnf)
    | (refine vo_i (iget_t rfl) ?_; conv => whnf)
    | (refine vpur_i (vtext_ok _ _) ?_; conv => whnf)
    | (refine vb_t (room_t (by simp)) ?_; conv => whnf)
    | (refine vb_t (by simp [ieq_t]) ?_; conv => whnf)
    | (refine vpur_i j ?_; conv => whnf)
    | fail)
  exact ⟨by trivial, by trivial⟩
theorem texts3_ok (k0 n0 k1 n1 k2 n2 : Int) : Pur F0 107 [.d (.sl 2 [LR k0 n0, LR k1 n1, LR k2 n2])] [] .no (.ret (S (Lib.join [valText k0 n0, valText k1 n1, valText k2 n2] [32]))) .no := by
  have j := join_ok [valText k0 n0, valText k1 n1, valText k2 n2] [32] (by simp) (by rw [join3]; have := valText_len k0 n0; have := valText_len k1 n1; have := valText_len k2 n2; simp; omega) []
  refine pur_code code107_ok ?_
  conv => whnf
  obtain ⟨c10, c11, c12, c13, c20, c21, c22, c23, c30, c31, c32, c33⟩ := ltN
  obtain ⟨d1, d2, d3, e0, e1, e2, e3, e4⟩ := ltM
  repeat' (first
    | (refine vb_t rfl ?_; conv => whnf)
    | (refine vb_f rfl ?_; conv => whnf)
    | (refine vb_t (by assumption) ?_; conv => whnf)
    | (refine vb_f (by assumption) ?_; conv => whnf)
    | (simp only [ia0, ia1, ia2, ia3]; conv => whnf)
    | (refine vloop_once ?_; conv => whnf)
    | (refine vo_i (iget_t rfl) ?_; conv => whnf)
    | (refine vpur_i (vtext_ok _ _) ?_; conv => whnf)
    | (refine vb_t (room_t (by simp)) ?_; conv => whnf)
    | (refine vb_t (by simp [ieq_t]) ?_; conv => whnf)
    | (refine vpur_i j ?_; conv => whnf)
    | fail)
  exact ⟨by trivial, by trivial⟩
theorem texts4_ok (k0 n0 k1 n1 k2 n2 k3 n3 : Int) : Pur F0 107 [.d (.sl 2 [LR k0 n0, LR k1 n1, LR k2 n2, LR k3 n3])] [] .no (.ret (S (Lib.join [valText k0 n0, valText k1 n1, valText k2 n2, valText k3 n3] [32]))) .no := by
  have j := join_ok [valText k0 n0, valText k1 n1, valText k2 n2, valText k3 n3] [32] (by simp) (by rw [join4]; have := valText_len k0 n0; have := valText_len k1 n1; have := valText_len k2 n2; have := valText_len k3 n3; simp; omega) []
  refine pur_code code107_ok ?_
  conv => whnf
  obtain ⟨c10, c11, c12, c13, c20, c21, c22, c23, c30, c31, c32, c33⟩ := ltN
  obtain ⟨d1, d2, d3, e0, e1, e2, e3, e4⟩ := ltM
  repeat' (first
    | (refine vb_t rfl ?_; conv => whnf)
    | (refine vb_f rfl ?_; conv => whnf)
    | (refine vb_t (by assumption) ?_; conv => whnf)
    | (refine vb_f (by assumption) ?_; conv => whnf)
    | (simp only [ia0, ia1, ia2, ia3]; conv => whnf)
    | (refine vloop_once ?_; conv => whnf)
    | (refine vo_i (iget_t rfl) ?_; conv => whnf)
    | (refine vpur_i (vtext_ok _ _) ?_; conv => whnf)
    | (refine vb_t (room_t (by simp)) ?_; conv => whnf)
    | (refine vb_t (by simp [ieq_t]) ?_; conv => whnf)
    | (refine vpur_i j ?_; conv => whnf)
    | fail)
  exact ⟨by trivial, by trivial⟩
/-- Gaps' text. -/
def gapText (k0 n0 k1 n1 : Int) : List UInt8 := if goodL k0 n0 1 = true ∧ goodL k1 n1 1 = true then (if k0 = k1 ∧ n0 = n1 then valText k0 n0 else valText k0 n0 ++ ([32] ++ valText k1 n1)) else []
theorem gap1_ok (k n : Int) : Pur F0 108 [.agg [I k, I n]] [] .no (.ret (B (goodL k n 1))) .no := by
  refine pur_code code108_ok ?_
  conv => whnf
  repeat' (first
    | (refine vb_t rfl ?_; conv => whnf)
    | (refine vb_f rfl ?_; conv => whnf)
    | (refine vb_t (by assumption) ?_; conv => whnf)
    | (refine vb_f (by assumption) ?_; conv => whnf)
    | (refine vpur_i (good_ok _ _ _) ?_; conv => whnf)
    | fail)
  exact ⟨by trivial, by trivial⟩
theorem gapText_ok (k0 n0 k1 n1 : Int) : Pur F0 49 [.agg [I k0, I n0], .agg [I k1, I n1]] [] .no (.ret (S (gapText k0 n0 k1 n1))) .no := by
  refine pur_code code49_ok ?_
  conv => whnf
  repeat' (first
    | (refine vb_t rfl ?_; conv => whnf)
    | (refine vb_f rfl ?_; conv => whnf)
    | (refine vb_t (by assumption) ?_; conv => whnf)
    | (refine vb_f (by assumption) ?_; conv => whnf)
    | (refine vpur_i (gap1_ok _ _) ?_; conv => whnf)
    | (refine vpur_i (vtext_ok _ _) ?_; conv => whnf)
    | (refine vpur_i (texts2_ok _ _ _ _) ?_; conv => whnf)
    | (refine vb_i (fun h => ?_) (fun h => ?_) <;> conv => whnf)
    | fail)
  all_goals refine ⟨congrArg CR.ret (S_eq ?_), by trivial⟩
  all_goals unfold gapText
  · simp_all
  · simp_all
  · simp_all [ieq_d]
  · rw [if_pos (by simp_all), if_neg (by simp_all [ieq_d]), join2]
theorem rgapText_ok (k0 n0 k1 n1 : Int) : Pur F0 50 [.agg [I k0, I n0], .agg [I k1, I n1]] [] .no (.ret (S (gapText k0 n0 k1 n1))) .no := by
  refine pur_code code50_ok ?_
  conv => whnf
  have l0 := valText_len k0 n0
  have l1 := valText_len k1 n1
  have r1 : roomS ((valText k0 n0).length + ([32] : List UInt8).length) = true := roomS_t (by simp; omega)
  have r2 : roomS ((valText k0 n0 ++ [32]).length + (valText k1 n1).length) = true := roomS_t (by simp; omega)
  repeat' (first
    | (refine vb_t rfl ?_; conv => whnf)
    | (refine vb_f rfl ?_; conv => whnf)
    | (refine vb_t (by assumption) ?_; conv => whnf)
    | (refine vb_f (by assumption) ?_; conv => whnf)
    | (refine vpur_i (rgood_ok _ _ _) ?_; conv => whnf)
    | (refine vpur_i (rvtext_ok _ _) ?_; conv => whnf)
    | (refine vb_i (fun h => ?_) (fun h => ?_) <;> conv => whnf)
    | fail)
  all_goals refine ⟨congrArg CR.ret (S_eq ?_), by trivial⟩
  all_goals unfold gapText
  all_goals clear r1 r2 l0 l1
  all_goals simp only [lit1, Bool.not_eq_true', Bool.not_eq_false'] at *
  · simp_all
  · simp_all
  · simp_all [ieq_d]
  · rw [if_pos (by simp_all), if_neg (by simp_all [ieq_d])]
    exact List.append_assoc _ _ _
/-- How many margins are told. -/
def prEq (k0 n0 k1 n1 : Int) : Bool := decide (k0 = k1 ∧ n0 = n1)
def mText (k0 n0 k1 n1 k2 n2 k3 n3 : Int) : List UInt8 :=
  if (goodL k0 n0 7 && goodL k1 n1 7 && goodL k2 n2 7 && goodL k3 n3 7) = true then
    (if (prEq k0 n0 k1 n1 && prEq k0 n0 k2 n2 && prEq k0 n0 k3 n3) = true then valText k0 n0
     else if (prEq k0 n0 k2 n2 && prEq k1 n1 k3 n3) = true then Lib.join [valText k0 n0, valText k1 n1] [32]
     else if prEq k1 n1 k3 n3 = true then Lib.join [valText k0 n0, valText k1 n1, valText k2 n2] [32]
     else Lib.join [valText k0 n0, valText k1 n1, valText k2 n2, valText k3 n3] [32]) else []
theorem ieq_self (a : Int) : ieq a a = true := by rw [ieq_t]
theorem prEq_d (a b c d : Int) : prEq a b c d = (ieq a c && ieq b d) := by simp [prEq, ieq_d]
theorem mText_ok (k0 n0 k1 n1 k2 n2 k3 n3 : Int) : Pur F0 47 [.agg [I k0, I n0, I k1, I n1, I k2, I n2, I k3, I n3]] [] .no (.ret (S (mText k0 n0 k1 n1 k2 n2 k3 n3))) .no := by
  refine pur_code code47_ok ?_
  conv => whnf
  obtain ⟨a0, a1, a2, a3, a4⟩ := lt4
  repeat' (first
    | (refine vb_t rfl ?_; conv => whnf)
    | (refine vb_f rfl ?_; conv => whnf)
    | (refine vb_t (by assumption) ?_; conv => whnf)
    | (refine vb_f (by assumption) ?_; conv => whnf)
    | (simp only [ia0, ia1, ia2, ia3]; conv => whnf)
    | (refine vloop_once ?_; conv => whnf)
    | (refine vpur_i (mgood_ok _ _ _ _ _ _ _ _) ?_; conv => whnf)
    | (refine vo_i (icut_e (i := 0) (j := 1) rfl rfl (by simp) (by simp)) ?_; conv => whnf)
    | (refine vpur_i (four1_ok _ _) ?_; conv => whnf)
    | (refine vpur_i (four2_ok _ _ _ _) ?_; conv => whnf)
    | (refine vpur_i (four3_ok _ _ _ _ _ _) ?_; conv => whnf)
    | (refine vo_i (icut_e (i := 0) (j := 2) rfl rfl (by simp) (by simp)) ?_; conv => whnf)
    | (refine vo_i (icut_e (i := 0) (j := 3) rfl rfl (by simp) (by simp)) ?_; conv => whnf)
    | (refine vo_i (icut_e (i := 0) (j := 4) rfl rfl (by simp) (by simp)) ?_; conv => whnf)
    | (refine vpur_i (texts1_ok _ _) ?_; conv => whnf)
    | (refine vpur_i (texts2_ok _ _ _ _) ?_; conv => whnf)
    | (refine vpur_i (texts3_ok _ _ _ _ _ _) ?_; conv => whnf)
    | (refine vpur_i (texts4_ok _ _ _ _ _ _ _ _) ?_; conv => whnf)
    | (refine vb_i (fun h => ?_) (fun h => ?_) <;> conv => whnf)
    | fail)
  all_goals clear a0 a1 a2 a3 a4
  all_goals refine ⟨congrArg CR.ret (S_eq ?_), by trivial⟩
  all_goals unfold mText
  all_goals generalize (goodL k0 n0 7 && goodL k1 n1 7 && goodL k2 n2 7 && goodL k3 n3 7) = g at *
  all_goals simp only [ieq_self, Bool.true_and, Bool.not_eq_true', Bool.not_eq_false', prEq_d, join1, Bool.and_assoc] at *
  all_goals simp only [*]
  all_goals first | rfl | (simp_all; done)
theorem ia4 : iadd .i64 (Int.ofNat 4) (Int.ofNat 1) = Int.ofNat 5 := by rw [iadd64] <;> decide
theorem leN : ile (Int.ofNat 1) (Int.ofNat 4) = true ∧ ile (Int.ofNat 2) (Int.ofNat 4) = true ∧ ile (Int.ofNat 3) (Int.ofNat 4) = true ∧ ile (Int.ofNat 4) (Int.ofNat 4) = true ∧ ile (Int.ofNat 5) (Int.ofNat 4) = false := by
  simp only [ile_t, ile_f]; decide
theorem ltK : ilt (Int.ofNat 0) (Int.ofNat 1) = true ∧ ilt (Int.ofNat 1) (Int.ofNat 1) = false ∧ ilt (Int.ofNat 0) (Int.ofNat 2) = true ∧ ilt (Int.ofNat 1) (Int.ofNat 2) = true ∧ ilt (Int.ofNat 2) (Int.ofNat 2) = false ∧
    ilt (Int.ofNat 0) (Int.ofNat 3) = true ∧ ilt (Int.ofNat 1) (Int.ofNat 3) = true ∧ ilt (Int.ofNat 2) (Int.ofNat 3) = true ∧ ilt (Int.ofNat 3) (Int.ofNat 3) = false ∧ ilt (Int.ofNat 0) (Int.ofNat 0) = false := by
  simp only [ilt_t, ilt_f]; decide
theorem cuN : (ile 0 0 && ile 0 (Int.ofNat 1) && ile (Int.ofNat 1) (((4 : Nat) : Int) - ((0 : Nat) : Int)) && (ieq 0 0 || ilt 0 (((4 : Nat) : Int) - ((0 : Nat) : Int)))) = true ∧
    (ile 0 0 && ile 0 (Int.ofNat 2) && ile (Int.ofNat 2) (((4 : Nat) : Int) - ((0 : Nat) : Int)) && (ieq 0 0 || ilt 0 (((4 : Nat) : Int) - ((0 : Nat) : Int)))) = true ∧
    (ile 0 0 && ile 0 (Int.ofNat 3) && ile (Int.ofNat 3) (((4 : Nat) : Int) - ((0 : Nat) : Int)) && (ieq 0 0 || ilt 0 (((4 : Nat) : Int) - ((0 : Nat) : Int)))) = true ∧
    (ile 0 0 && ile 0 (Int.ofNat 4) && ile (Int.ofNat 4) (((4 : Nat) : Int) - ((0 : Nat) : Int)) && (ieq 0 0 || ilt 0 (((4 : Nat) : Int) - ((0 : Nat) : Int)))) = true := by
  simp only [Bool.and_eq_true, Bool.or_eq_true, ile_t, ieq_t, ilt_t]; decide
theorem rmText_ok (k0 n0 k1 n1 k2 n2 k3 n3 : Int) : Pur F0 48 [.agg [I k0, I n0, I k1, I n1, I k2, I n2, I k3, I n3]] [] .no (.ret (S (mText k0 n0 k1 n1 k2 n2 k3 n3))) .no := by
  refine pur_code code48_ok ?_
  conv => whnf
  obtain ⟨a0, a1, a2, a3, a4⟩ := lt4
  obtain ⟨b0, b1, b2, b3⟩ := in4
  obtain ⟨c1, c2, c3, c4, c5⟩ := leN
  obtain ⟨d01, d11, d02, d12, d22, d03, d13, d23, d33, d00⟩ := ltK
  obtain ⟨u1, u2, u3, u4⟩ := cuN
  have l0 := valText_len k0 n0
  have l1 := valText_len k1 n1
  have l2 := valText_len k2 n2
  have l3 := valText_len k3 n3
  have self : (!(ieq k0 k0 && (ieq n0 n0 && (ieq k1 k1 && (ieq n1 n1 && (ieq k2 k2 && (ieq n2 n2 && (ieq k3 k3 && ieq n3 n3)))))))) = false := by simp [ieq_self]
  repeat' (first
    | (refine vb_t rfl ?_; conv => whnf)
    | (refine vb_f rfl ?_; conv => whnf)
    | (refine vb_t (by assumption) ?_; conv => whnf)
    | (refine vb_f (by assumption) ?_; conv => whnf)
    | (simp only [ia0, ia1, ia2, ia3, ia4]; conv => whnf)
    | (refine vloop_once ?_; conv => whnf)
    | (refine vpur_i (rmgood_ok _ _ _ _ _ _ _ _) ?_; conv => whnf)
    | (refine vo_i (icut_e (i := 0) (j := 1) rfl rfl (by simp) (by simp)) ?_; conv => whnf)
    | (refine vpur_i (rfour1_ok _ _) ?_; conv => whnf)
    | (refine vpur_i (rfour2_ok _ _ _ _) ?_; conv => whnf)
    | (refine vpur_i (rfour3_ok _ _ _ _ _ _) ?_; conv => whnf)
    | (refine vo_i (icut_e (i := 0) (j := 2) rfl rfl (by simp) (by simp)) ?_; conv => whnf)
    | (refine vo_i (icut_e (i := 0) (j := 3) rfl rfl (by simp) (by simp)) ?_; conv => whnf)
    | (refine vo_i (icut_e (i := 0) (j := 4) rfl rfl (by simp) (by simp)) ?_; conv => whnf)
    | (refine vpur_i (rfour4_ok _ _ _ _ _ _ _ _) ?_; conv => whnf)
    | (refine vpur_i (rvtext_ok _ _) ?_; conv => whnf)
    | (refine vb_t (roomS_t (by simp only [List.length_append, List.length_cons, List.length_nil]; omega)) ?_; conv => whnf)
    | (refine vb_i (fun h => ?_) (fun h => ?_) <;> conv => whnf)
    | fail)
  all_goals clear a0 a1 a2 a3 a4 b0 b1 b2 b3 c1 c2 c3 c4 c5 d01 d11 d02 d12 d22 d03 d13 d23 d33 d00 l0 l1 l2 l3 u1 u2 u3 u4 self
  all_goals refine ⟨congrArg CR.ret (S_eq ?_), by trivial⟩
  all_goals unfold mText
  all_goals generalize (goodL k0 n0 7 && goodL k1 n1 7 && goodL k2 n2 7 && goodL k3 n3 7) = g at *
  all_goals simp only [ieq_self, Bool.true_and, Bool.not_eq_true', Bool.not_eq_false', prEq_d, join1, join2, join3, join4, Bool.and_assoc, List.nil_append, List.append_assoc] at *
  all_goals simp only [*]
  all_goals first | rfl | (simp_all; done)
end Go.Proofs.YtapnjabhcdlhbaaGreatDoor.Ab
