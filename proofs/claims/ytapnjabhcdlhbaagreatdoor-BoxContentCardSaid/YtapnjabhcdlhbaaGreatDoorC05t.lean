/- Layer 5 (value): texts and lengths: program and reference alike. -/
import Derived.Test.YtapnjabhcdlhbaaGreatDoorC01s
import Derived.Test.YtapnjabhcdlhbaaGreatDoorC02t
import Derived.Test.YtapnjabhcdlhbaaGreatDoorC05a
namespace Go.Proofs.YtapnjabhcdlhbaaGreatDoor.Ab
open Go
set_option linter.unusedSimpArgs false
set_option maxRecDepth 100000
set_option linter.unusedVariables false
set_option maxHeartbeats 4000000

theorem iandp (a : Int) (b : Nat) (hb : b < 64) : 0 < iand .i64 a b ↔ ((a % 18446744073709551616).toNat &&& b) ≠ 0 := by
  have hA : (BitVec.ofInt 64 a).toNat = (a % 18446744073709551616).toNat := by rw [BitVec.toNat_ofInt]; rfl
  have hB : (BitVec.ofInt 64 (b : Int)).toNat = b := by rw [BitVec.toNat_ofInt]; omega
  have hlt : (a % 18446744073709551616).toNat &&& b ≤ b := Nat.and_le_right
  have hw : iand .i64 a b = (((a % 18446744073709551616).toNat &&& b : Nat) : Int) := by
    unfold iand
    show IntKind.wrap .i64 ((BitVec.ofInt 64 a &&& BitVec.ofInt 64 (b : Int)).toNat : Int) = _
    rw [BitVec.toNat_and, hA, hB]
    generalize (a % 18446744073709551616).toNat &&& b = z at *
    exact IntWalk.i64_in _ ⟨by omega, by omega⟩
  rw [hw]
  omega
theorem and_pow (x k : Nat) : (x &&& 2 ^ k) ≠ 0 ↔ x / 2 ^ k % 2 = 1 := by
  have ht : x.testBit k = decide (x / 2 ^ k % 2 = 1) := Nat.testBit_eq_decide_div_mod_eq
  constructor
  · intro h
    refine Classical.byContradiction fun hn => h ?_
    apply Nat.eq_of_testBit_eq
    intro i
    rw [Nat.testBit_and, Nat.testBit_two_pow, Nat.zero_testBit]
    by_cases hi : k = i
    · subst hi; rw [ht, decide_eq_false hn]; rfl
    · simp [hi]
  · intro h e
    have := congrArg (fun y => Nat.testBit y k) e
    simp only [Nat.testBit_and, Nat.testBit_two_pow, Nat.zero_testBit, ht, h] at this
    simp at this
/-- allow's six bits. -/
def six (a : Int) : Nat := (a % 64).toNat
theorem hasB (a : Int) (k : Nat) (hk : k < 6) : hasBit a ((2 ^ k : Nat) : Int) = decide (six a / 2 ^ k % 2 = 1) := by
  unfold hasBit six
  rw [ilt_d]
  have h2 : 2 ^ k < 64 := Nat.pow_lt_pow_right (by decide) hk
  rw [Bool.eq_iff_iff, decide_eq_true_eq, decide_eq_true_eq, iandp a _ h2, and_pow]
  have e : (a % 64).toNat = (a % 18446744073709551616).toNat % 64 := by omega
  rw [e]
  generalize (a % 18446744073709551616).toNat = x
  have : k = 0 ∨ k = 1 ∨ k = 2 ∨ k = 3 ∨ k = 4 ∨ k = 5 := by omega
  rcases this with rfl | rfl | rfl | rfl | rfl | rfl <;> simp only [Nat.reducePow] <;> omega
theorem six_lt (a : Int) : six a < 64 := by unfold six; omega
/-- Has allow a bit: by division. -/
theorem bits_ok (a : Int) : Pur F0 96 [I a] [] .no (.ret (I (six a))) .no := by
  refine pur_code (cf := cfn Tryz.f96) (by kernel_rfl) ?_
  conv => arg 3; reduce
  conv => whnf
  have hz : iz (Int.ofNat 64) = false := by rw [iz_f]; decide
  repeat' (first
    | (refine vb_t rfl ?_; conv => whnf)
    | (refine vb_f rfl ?_; conv => whnf)
    | (refine vb_t (by assumption) ?_; conv => whnf)
    | (refine vb_f (by assumption) ?_; conv => whnf)
    | (refine vb_i (fun h => ?_) (fun h => ?_) <;> conv => whnf)
    | fail)
  refine ⟨congrArg CR.ret (I_eq ?_), rfl⟩
  have h := six_lt a
  have e : irem (icast .u64 a) (Int.ofNat 64) = (six a : Int) := by
    obtain ⟨x, hx⟩ : ∃ x : Nat, icast .u64 a = (x : Int) := ⟨(icast .u64 a).toNat, by unfold icast; rw [wu]; omega⟩
    have hx' := hx
    unfold icast at hx'
    rw [wu] at hx'
    rw [hx, n_ofn, u_rem]
    unfold six
    omega
  rw [e, icast64 (by omega) (by omega)]
theorem has_ok (a b : Nat) (ha : a < 64) (hb : 0 < b) : Pur F0 97 [I a, I b] [] .no (.ret (B (decide (a / b % 2 = 1)))) .no := by
  refine pur_code (cf := cfn Tryz.f97) (by kernel_rfl) ?_
  conv => arg 3; reduce
  conv => whnf
  have hz : iz (b : Int) = false := iz_u (by omega)
  have hz2 : iz (Int.ofNat 2) = false := by rw [iz_f]; decide
  repeat' (first
    | (refine vb_t rfl ?_; conv => whnf)
    | (refine vb_f rfl ?_; conv => whnf)
    | (refine vb_t (by assumption) ?_; conv => whnf)
    | (refine vb_f (by assumption) ?_; conv => whnf)
    | (refine vb_i (fun h => ?_) (fun h => ?_) <;> conv => whnf)
    | fail)
  refine ⟨congrArg CR.ret (congrArg AV.d (congrArg DV.bool ?_)), rfl⟩
  have e : irem (iquo .i64 (a : Int) (b : Int)) (Int.ofNat 2) = ((a / b % 2 : Nat) : Int) := by rw [i_quo (by omega), n_ofn, u_rem]
  rw [e, ieq_d, n_ofn]
  rw [Bool.eq_iff_iff, decide_eq_true_eq, decide_eq_true_eq]
  exact ⟨fun h => Int.ofNat.inj h, fun h => by rw [h]⟩
theorem lit0 : Int.ofNat 0 = 0 := rfl
theorem lit1 : Int.ofNat 1 = 1 := rfl
theorem lit2 : Int.ofNat 2 = 2 := rfl
theorem lit3 : Int.ofNat 3 = 3 := rfl
theorem lit4 : Int.ofNat 4 = 4 := rfl
theorem lit5 : Int.ofNat 5 = 5 := rfl
theorem lit6 : Int.ofNat 6 = 6 := rfl
theorem lit7 : Int.ofNat 7 = 7 := rfl
theorem litA : Int.ofNat 68719476736 = 68719476736 := rfl
theorem litB : Int.ofNat 1073741824 = 1073741824 := rfl
theorem litC : Int.negSucc 68719476735 = -68719476736 := rfl
theorem litD : Int.negSucc 1073741823 = -1073741824 := rfl
theorem lit63 : Int.ofNat 63 = 63 := rfl
theorem lit64 : Int.ofNat 64 = 64 := rfl
theorem litK : Int.ofNat 1000 = 1000 := rfl
theorem sub1 : isub .i64 0 68719476736 = -68719476736 := by rw [isub64] <;> decide
theorem sub2 : isub .i64 0 1073741824 = -1073741824 := by rw [isub64] <;> decide
theorem has0 (a : Int) : hasBit a 0 = false := by
  unfold hasBit
  rw [ilt_f]
  have : ¬ 0 < iand .i64 a ((0 : Nat) : Int) := by rw [iandp a 0 (by decide)]; simp
  exact Int.not_lt.1 this
theorem rgood_ok (k n a : Int) : Pur F0 36 [.agg [I k, I n], I a] [] .no (.ret (B (goodL k n a))) .no := by
  refine pur_code (cf := cfn Tryz.f36) (by kernel_rfl) ?_
  conv => arg 3; reduce
  conv => whnf
  have h := six_lt a
  have b1 : hasBit a 1 = decide (six a / 1 % 2 = 1) := hasB a 0 (by decide)
  have b2 : hasBit a 2 = decide (six a / 2 % 2 = 1) := hasB a 1 (by decide)
  have b4 : hasBit a 4 = decide (six a / 4 % 2 = 1) := hasB a 2 (by decide)
  have b8 : hasBit a 8 = decide (six a / 8 % 2 = 1) := hasB a 3 (by decide)
  have b16 : hasBit a 16 = decide (six a / 16 % 2 = 1) := hasB a 4 (by decide)
  have b32 : hasBit a 32 = decide (six a / 32 % 2 = 1) := hasB a 5 (by decide)
  have c1 : Pur F0 97 [I (six a), I 1] [] .no (.ret (B (hasBit a 1))) .no := by rw [b1]; exact has_ok (six a) 1 h (by decide)
  have c2 : Pur F0 97 [I (six a), I 2] [] .no (.ret (B (hasBit a 2))) .no := by rw [b2]; exact has_ok (six a) 2 h (by decide)
  have c4 : Pur F0 97 [I (six a), I 4] [] .no (.ret (B (hasBit a 4))) .no := by rw [b4]; exact has_ok (six a) 4 h (by decide)
  have c8 : Pur F0 97 [I (six a), I 8] [] .no (.ret (B (hasBit a 8))) .no := by rw [b8]; exact has_ok (six a) 8 h (by decide)
  have c16 : Pur F0 97 [I (six a), I 16] [] .no (.ret (B (hasBit a 16))) .no := by rw [b16]; exact has_ok (six a) 16 h (by decide)
  have c32 : Pur F0 97 [I (six a), I 32] [] .no (.ret (B (hasBit a 32))) .no := by rw [b32]; exact has_ok (six a) 32 h (by decide)
  have bo := bits_ok a
  clear b1 b2 b4 b8 b16 b32
  generalize six a = m at *
  repeat' (first
    | (refine vb_t rfl ?_; conv => whnf)
    | (refine vb_f rfl ?_; conv => whnf)
    | (refine vb_t (by assumption) ?_; conv => whnf)
    | (refine vb_f (by assumption) ?_; conv => whnf)
    | (refine vpur_i bo ?_; conv => whnf)
    | (refine vpur_i c1 ?_; conv => whnf)
    | (refine vpur_i c2 ?_; conv => whnf)
    | (refine vpur_i c4 ?_; conv => whnf)
    | (refine vpur_i c8 ?_; conv => whnf)
    | (refine vpur_i c16 ?_; conv => whnf)
    | (refine vpur_i c32 ?_; conv => whnf)
    | (refine vb_i (fun h => ?_) (fun h => ?_) <;> conv => whnf)
    | fail)
  all_goals clear bo c1 c2 c4 c8 c16 c32
  all_goals refine ⟨congrArg CR.ret (congrArg AV.d (congrArg DV.bool ?_)), rfl⟩
  all_goals simp only [ieq_t, ieq_f, ile_t, ile_f, ile_d, ieq_d, ilt_d, lit2, lit3, lit1, lit4, lit5, lit6, lit7, litA, litB, lit0, litC, litD] at *
  all_goals have h0 := has0 a
  all_goals try subst k
  all_goals simp only [goodL, within, keyBit, ile_d, sub1, sub2]
  all_goals (simp_all <;> first | omega | ((repeat' split) <;> (try simp_all) <;> omega))
theorem frac_len (sc : Nat) : ∀ (f l : Nat), l < sc → (fracT sc f l).length ≤ 20 * f
  | 0, l, h => by simp [fracT]
  | f + 1, l, h => by
    unfold fracT
    split
    · simp
    · have h1 := frac_len sc f (l * 10 % sc) (Nat.mod_lt _ (by omega))
      have h2 := dig_small l sc h
      rw [List.length_append]
      omega
theorem numText_len (n sc : Int) : (numText n sc).length ≤ 200 := by
  unfold numText
  split
  · rename_i h
    obtain ⟨h1, h2⟩ := h
    have hb : -68719476736 ≤ n ∧ n ≤ 68719476736 := by simpa [isPx] using h1
    have hk : 0 < sc.toNat := by unfold isSc at h2; omega
    unfold posText
    have h3 := frac_len sc.toNat 6 (n.natAbs % sc.toNat) (Nat.mod_lt _ hk)
    have h4 := dec_le (n.natAbs / sc.toNat) (Nat.lt_of_le_of_lt (Nat.div_le_self _ _) (by omega))
    simp only [List.length_append]
    (repeat' split) <;> simp only [List.length_cons, List.length_nil] <;> omega
  · simp
/-- A size's text. -/
def valText (k n : Int) : List UInt8 := if goodL k n 63 = true then (if k = 2 then numText n 64 ++ [112, 120] else if k = 3 then numText n 1000 ++ [37] else if k = 6 then numText n 1000 ++ [102, 114] else keyText k) else []
theorem vtext_ok (k n : Int) : Pur F0 20 [.agg [I k, I n]] [] .no (.ret (S (valText k n))) .no := by
  refine pur_code (cf := cfn Tryz.f20) (by kernel_rfl) ?_
  conv => arg 3; reduce
  conv => whnf
  have l1 := numText_len n 64
  have l2 := numText_len n 1000
  have r1 : roomS ((numText n (Int.ofNat 64)).length + ([112, 120] : List UInt8).length) = true := roomS_t (Nat.le_trans (Nat.add_le_add_right l1 2) (by decide))
  have r2 : roomS ((numText n (Int.ofNat 1000)).length + ([37] : List UInt8).length) = true := roomS_t (Nat.le_trans (Nat.add_le_add_right l2 1) (by decide))
  have r3 : roomS ((numText n (Int.ofNat 1000)).length + ([102, 114] : List UInt8).length) = true := roomS_t (Nat.le_trans (Nat.add_le_add_right l2 2) (by decide))
  repeat' (first
    | (refine vb_t rfl ?_; conv => whnf)
    | (refine vb_f rfl ?_; conv => whnf)
    | (refine vb_t (by assumption) ?_; conv => whnf)
    | (refine vb_f (by assumption) ?_; conv => whnf)
    | (refine vpur_i (good_ok _ _ _) ?_; conv => whnf)
    | (refine vpur_i (ndText_ok _ _) ?_; conv => whnf)
    | (refine vpur_i (keyText_ok _) ?_; conv => whnf)
    | (refine vb_i (fun h => ?_) (fun h => ?_) <;> conv => whnf)
    | fail)
  all_goals refine ⟨congrArg CR.ret (S_eq ?_), rfl⟩
  all_goals clear r1 r2 r3 l1 l2
  all_goals simp only [Bool.not_eq_true', Bool.not_eq_false', ieq_t, ieq_f, lit2, lit3, lit6, lit63, lit64, litK] at *
  all_goals (unfold valText; simp_all)
/-- What stands in the table of keywords. -/
theorem kw_row (k : Int) (h1 : 1 ≤ k) (h2 : k ≤ 7) : iget [[DV.str [97, 117, 116, 111]], [DV.str []], [DV.str []], [DV.str [109, 105, 110, 45, 99, 111, 110, 116, 101, 110, 116]], [DV.str [109, 97, 120, 45, 99, 111, 110, 116, 101, 110, 116]], [DV.str []], [DV.str [110, 111, 110, 101]]] (isub .i64 k (Int.ofNat 1)) = some [DV.str (keyText k)] := by
  have : k = 1 ∨ k = 2 ∨ k = 3 ∨ k = 4 ∨ k = 5 ∨ k = 6 ∨ k = 7 := by omega
  rw [lit1, isub64 (by omega) (by omega)]
  rcases this with rfl | rfl | rfl | rfl | rfl | rfl | rfl <;> (unfold iget; rfl)
theorem kw_row2 (k : Int) (h1 : 1 ≤ k) (h2 : k ≤ 7) : ([[DV.str [97, 117, 116, 111]], [DV.str []], [DV.str []], [DV.str [109, 105, 110, 45, 99, 111, 110, 116, 101, 110, 116]], [DV.str [109, 97, 120, 45, 99, 111, 110, 116, 101, 110, 116]], [DV.str []], [DV.str [110, 111, 110, 101]]] : List (List DV))[0 + (isub .i64 k (Int.ofNat 1)).toNat]? = some [DV.str (keyText k)] := by
  have : k = 1 ∨ k = 2 ∨ k = 3 ∨ k = 4 ∨ k = 5 ∨ k = 6 ∨ k = 7 := by omega
  rw [lit1, isub64 (by omega) (by omega)]
  rcases this with rfl | rfl | rfl | rfl | rfl | rfl | rfl <;> rfl
theorem good_kind (k n a : Int) (h : goodL k n a = true) : 1 ≤ k ∧ k ≤ 7 := by
  unfold goodL keyBit at h
  have h0 := has0 a
  (repeat' split at h) <;> first | omega | (simp [h0] at h)
theorem rvtext_ok (k n : Int) : Pur F0 37 [.agg [I k, I n]] [] .no (.ret (S (valText k n))) .no := by
  refine pur_code (cf := cfn Tryz.f37) (by kernel_rfl) ?_
  conv => arg 3; reduce
  conv => whnf
  have l1 := numText_len n 64
  have l2 := numText_len n 1000
  have r1 : roomS ((numText n (Int.ofNat 64)).length + ([112, 120] : List UInt8).length) = true := roomS_t (Nat.le_trans (Nat.add_le_add_right l1 2) (by decide))
  have r2 : roomS ((numText n (Int.ofNat 1000)).length + ([37] : List UInt8).length) = true := roomS_t (Nat.le_trans (Nat.add_le_add_right l2 1) (by decide))
  have r3 : roomS ((numText n (Int.ofNat 1000)).length + ([102, 114] : List UInt8).length) = true := roomS_t (Nat.le_trans (Nat.add_le_add_right l2 2) (by decide))
  by_cases hg : goodL k n 63 = true
  · obtain ⟨k1, k7⟩ := good_kind k n 63 hg
    have hw := kw_row k k1 k7
    have hq : (!goodL k n (Int.ofNat 63)) = false := by rw [lit63, hg]; rfl
    repeat' (first
      | (refine vb_t rfl ?_; conv => whnf)
      | (refine vb_f rfl ?_; conv => whnf)
      | (refine vb_t (by assumption) ?_; conv => whnf)
      | (refine vb_f (by assumption) ?_; conv => whnf)
      | (refine vpur_i (rgood_ok _ _ _) ?_; conv => whnf)
      | (refine vpur_i (rtext_ok _ _) ?_; conv => whnf)
      | (refine vb_i (fun h => ?_) (fun h => ?_) <;> conv => whnf)
      | fail)
    rotate_left 3
    · clear r1 r2 r3 l1 l2
      refine vo_i hw ?_
      conv => whnf
      refine vb_t rfl ?_
      conv => whnf
      refine vo_i (kw_row2 k k1 k7) ?_
      conv => whnf
      refine ⟨congrArg CR.ret (S_eq ?_), rfl⟩
      clear hw hq
      simp only [Bool.not_eq_true', Bool.not_eq_false', ieq_t, ieq_f, lit2, lit3, lit6, lit63, lit64, litK] at *
      unfold valText
      simp_all
    all_goals refine ⟨congrArg CR.ret (S_eq ?_), rfl⟩
    all_goals clear r1 r2 r3 l1 l2 hw hq
    all_goals simp only [Bool.not_eq_true', Bool.not_eq_false', ieq_t, ieq_f, lit2, lit3, lit6, lit63, lit64, litK] at *
    all_goals (unfold valText; simp_all)
  · have hq : (!goodL k n (Int.ofNat 63)) = true := by rw [lit63]; simpa using hg
    repeat' (first
      | (refine vb_t rfl ?_; conv => whnf)
      | (refine vb_f rfl ?_; conv => whnf)
      | (refine vb_t (by assumption) ?_; conv => whnf)
      | (refine vb_f (by assumption) ?_; conv => whnf)
      | (refine vpur_i (rgood_ok _ _ _) ?_; conv => whnf)
      | fail)
    exact ⟨congrArg CR.ret (S_eq (by unfold valText; rw [if_neg hg])), rfl⟩
/-- A size's length. -/
def lenR (k n b : Int) (d : Bool) : Int × Bool × Int := if k = 2 then (n, true, 0) else if k = 3 ∧ d = true then ((pct n b).1, decide ((pct n b).2 = 0), (pct n b).2) else (0, false, 0)
theorem lenR_eq {x y : Int × Bool × Int} (h : x = y) : CR.ret (AV.tup [I x.1, B x.2.1, I x.2.2]) = CR.ret (AV.tup [I y.1, B y.2.1, I y.2.2]) := by rw [h]
theorem resolve_ok (k n b : Int) (d : Bool) : Pur F0 34 [.agg [I k, I n], I b, B d] [] .no (.ret (.tup [I (lenR k n b d).1, B (lenR k n b d).2.1, I (lenR k n b d).2.2])) .no := by
  refine pur_code code34_ok ?_
  conv => whnf
  have hn : ieq n n = true := by rw [ieq_t]
  repeat' (first
    | (refine vb_t rfl ?_; conv => whnf)
    | (refine vb_f rfl ?_; conv => whnf)
    | (refine vb_t (by assumption) ?_; conv => whnf)
    | (refine vb_f (by assumption) ?_; conv => whnf)
    | (refine vpur_i (percent_ok _ _) ?_; conv => whnf)
    | (refine vb_i (fun h => ?_) (fun h => ?_) <;> conv => whnf)
    | fail)
  · refine ⟨lenR_eq (x := (n, true, 0)) ?_, rfl⟩
    simp_all [lenR, ieq_d, lit2]
  · refine ⟨lenR_eq (x := ((pct n b).1, ieq (pct n b).2 (Int.ofNat 0), (pct n b).2)) ?_, rfl⟩
    simp_all [lenR, ieq_d, lit2, lit3, lit0]
  · refine ⟨lenR_eq (x := (0, false, 0)) ?_, rfl⟩
    simp_all [lenR, ieq_d, lit2, lit3, lit0]
  · refine ⟨lenR_eq (x := (0, false, 0)) ?_, rfl⟩
    simp_all [lenR, ieq_d, lit2, lit3, lit0]
theorem rresolve_ok (k n b : Int) (d : Bool) : Pur F0 35 [.agg [I k, I n], I b, B d] [] .no (.ret (.tup [I (lenR k n b d).1, B (lenR k n b d).2.1, I (lenR k n b d).2.2])) .no := by
  refine pur_code (cf := cfn Tryz.f35) (by kernel_rfl) ?_
  conv => arg 3; reduce
  conv => whnf
  repeat' (first
    | (refine vb_t rfl ?_; conv => whnf)
    | (refine vb_f rfl ?_; conv => whnf)
    | (refine vb_t (by assumption) ?_; conv => whnf)
    | (refine vb_f (by assumption) ?_; conv => whnf)
    | (refine vpur_i (rpercent_ok _ _) ?_; conv => whnf)
    | (refine vb_i (fun h => ?_) (fun h => ?_) <;> conv => whnf)
    | fail)
  · refine ⟨lenR_eq (x := (n, true, 0)) ?_, rfl⟩
    simp_all [lenR, ieq_d, lit2]
  · refine ⟨lenR_eq (x := ((pct n b).1, ieq (pct n b).2 (Int.ofNat 0), (pct n b).2)) ?_, rfl⟩
    simp_all [lenR, ieq_d, lit2, lit3, lit0]
  · refine ⟨lenR_eq (x := (0, false, 0)) ?_, rfl⟩
    simp_all [lenR, ieq_d, lit2, lit3, lit0]
  · refine ⟨lenR_eq (x := (0, false, 0)) ?_, rfl⟩
    simp_all [lenR, ieq_d, lit2, lit3, lit0]
end Go.Proofs.YtapnjabhcdlhbaaGreatDoor.Ab
