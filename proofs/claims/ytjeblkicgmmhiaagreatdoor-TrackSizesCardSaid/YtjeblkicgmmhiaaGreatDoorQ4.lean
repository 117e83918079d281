/- Some texts as one, one behind the other; what is not leaned on is left out. -/
import Derived.Test.YtjeblkicgmmhiaaGreatDoorQ2
import Derived.Test.YtjeblkicgmmhiaaGreatDoorQ3
import Derived.Test.YtjeblkicgmmhiaaGreatDoorC00q
import Derived.Lib.IndexLaws
import Derived.Test.YtjeblkicgmmhiaaGreatDoorAbTy
namespace Go.Proofs.YtjeblkicgmmhiaaGreatDoor.Ab
open Go
set_option linter.unusedSimpArgs false
set_option maxRecDepth 100000
set_option linter.unusedVariables false
set_option maxHeartbeats 4000000
theorem iand2 (a : Int) : 0 ≤ iand .i64 a 2 := by
  have hA : (BitVec.ofInt 64 a).toNat = (a % 18446744073709551616).toNat := by rw [BitVec.toNat_ofInt]; rfl
  have hB : (BitVec.ofInt 64 (2 : Int)).toNat = 2 := by rw [BitVec.toNat_ofInt]; rfl
  have hlt : (a % 18446744073709551616).toNat &&& 2 ≤ 2 := Nat.and_le_right
  unfold iand
  show 0 ≤ IntKind.wrap .i64 ((BitVec.ofInt 64 a &&& BitVec.ofInt 64 (2 : Int)).toNat : Int)
  rw [BitVec.toNat_and, hA, hB]
  generalize (a % 18446744073709551616).toNat &&& 2 = z at *
  rw [IntWalk.i64_in _ ⟨by omega, by omega⟩]
  omega
theorem alt_within {n a most : Int} (h1 : 1 ≤ most) (hs : isub .i64 0 most = -most) (hn : within n a most = false) : (0 < n ∨ within (-1) a most = true) ↔ ¬ (n < 0 ∧ iand .i64 a 2 = 0) := by
  have hi := iand2 a
  obtain ⟨x, hx⟩ : ∃ x, iand .i64 a 2 = x := ⟨_, rfl⟩
  have w : ∀ m, within m a most = if m < 0 then (if 0 < x then decide (-most ≤ m) else false) else decide (m ≤ most) := fun m => by
    unfold within hasBit
    rw [hx, hs, ilt_d, ile_d, ile_d]
    simp only [decide_eq_true_eq]
  rw [hx] at hi ⊢
  rw [w] at hn ⊢
  rw [if_pos (by decide)]
  by_cases hn0 : n < 0
  · by_cases h0 : 0 < x
    · rw [if_pos h0]
      exact ⟨fun _ h => by omega, fun _ => .inr (by rw [decide_eq_true_eq]; omega)⟩
    · rw [if_neg h0]
      refine ⟨fun h => ?_, fun h => (h ⟨hn0, by omega⟩).elim⟩
      rcases h with h | h
      · omega
      · cases h
  · rw [if_neg hn0, decide_eq_false_iff_not] at hn
    exact ⟨fun _ h => by omega, fun _ => .inl (by omega)⟩
theorem read_alt {k n a : Int} (hk : k = 2 ∨ k = 3 ∨ k = 6) (h0 : goodL k 0 a = true) (hn : goodL k n a = false) : (0 < n ∨ goodL k (-1) a = true) ↔ ¬ (n < 0 ∧ (iand .i64 a 2 = 0 ∨ k = 6)) := by
  have s1 : isub .i64 0 68719476736 = -68719476736 := by rw [isub64] <;> decide
  have s2 : isub .i64 0 1073741824 = -1073741824 := by rw [isub64] <;> decide
  rcases hk with rfl | rfl | rfl
  · have e : ∀ m, goodL 2 m a = within m a 68719476736 := fun m => by unfold goodL; rw [if_pos rfl]
    rw [e] at hn ⊢
    rw [alt_within (by decide) s1 hn]
    simp
  · have e : ∀ m, goodL 3 m a = (hasBit a 1 && within m a 1073741824) := fun m => by unfold goodL; rw [if_neg (by decide), if_pos rfl]
    rw [e] at h0 hn ⊢
    rw [Bool.and_eq_true] at h0
    rw [h0.1, Bool.true_and] at hn ⊢
    rw [alt_within (by decide) s2 hn]
    simp
  · have e : ∀ m, goodL 6 m a = (hasBit a 16 && decide (0 ≤ m) && decide (m ≤ 1073741824)) := fun m => by unfold goodL; rw [if_neg (by decide), if_neg (by decide), if_pos rfl]
    rw [e] at h0 hn ⊢
    simp only [Bool.and_eq_true] at h0
    rw [h0.1.1, Bool.true_and] at hn ⊢
    simp only [Bool.and_eq_false_iff, decide_eq_false_iff_not, Bool.and_eq_true, decide_eq_true_eq, or_true, and_true] at *
    omega
theorem shapeS_k {t : Tok} (h : (shapeS t).2 ≠ 0) : (shapeS t).1 = 2 ∨ (shapeS t).1 = 3 ∨ (shapeS t).1 = 6 := by
  revert h
  unfold shapeS
  (repeat' split) <;> simp
theorem rread_ok (l : List Tok) (v : DV) (hv : toksA l v) (hl : ∀ t ∈ l, tokOk t) (at_ allow : Int) : Pur F0 37 [.d v, I at_, I allow] [] .no (.ret (readA (readS (wordS l at_) at_ allow))) .no := by
  have ht := rword_ok l v hv at_
  obtain ⟨h1, h2⟩ := wordS_ok hl at_
  generalize wordS l at_ = t at *
  have hf := rfeature_ok t ⟨h1, h2⟩
  have hx := rkind_ok t ⟨h1, h2⟩
  clear hv
  refine pur_code code37_ok ?_
  conv => whnf
  by_cases hf1 : featB t = true
  · rw [hf1] at hf
    have hR : readS t at_ allow = (0, 0, at_, 51) := by unfold readS; rw [if_pos hf1]
    rw [hR]
    repeat' ((first | refine vb_t rfl ?_ | refine vb_f rfl ?_ | refine vb_t (by assumption) ?_ | refine vb_f (by assumption) ?_ | refine vpur_i ht ?_ | refine vpur_i hf ?_ | refine vor_l ?_ | fail) <;> conv => whnf)
    exact ⟨rfl, rfl⟩
  rw [Bool.not_eq_true] at hf1
  rw [hf1] at hf
  by_cases hg0 : (shapeS t).1 = 0 ∨ goodL (shapeS t).1 0 allow = false
  · have hR : readS t at_ allow = (0, 0, at_, 50) := by unfold readS; rw [if_neg (by rw [hf1]; decide), if_pos hg0]
    rw [hR]
    by_cases hk0 : (shapeS t).1 = 0
    · have q : ieq (shapeS t).1 (Int.ofNat 0) = true := by rw [ieq_t, hk0]; rfl
      repeat' ((first | refine vb_t rfl ?_ | refine vb_f rfl ?_ | refine vb_t (by assumption) ?_ | refine vb_f (by assumption) ?_ | refine vpur_i ht ?_ | refine vpur_i hf ?_ | refine vpur_i hx ?_ | refine vor_l ?_ | fail) <;> conv => whnf)
      exact ⟨rfl, rfl⟩
    · have q : ieq (shapeS t).1 (Int.ofNat 0) = false := by rw [ieq_f, ofn]; exact hk0
      have hg1 : goodL (shapeS t).1 0 allow = false := hg0.resolve_left hk0
      have q2 : (!goodL (shapeS t).1 0 allow) = true := by rw [hg1]; rfl
      repeat' ((first | refine vb_t rfl ?_ | refine vb_f rfl ?_ | refine vb_t (by assumption) ?_ | refine vb_f (by assumption) ?_ | refine vpur_i ht ?_ | refine vpur_i hf ?_ | refine vpur_i hx ?_ | refine vpur_i (rgood_ok _ _ _) ?_ | refine vor_l ?_ | fail) <;> conv => whnf)
      exact ⟨rfl, rfl⟩
  have hk0 : (shapeS t).1 ≠ 0 := fun h => hg0 (.inl h)
  have hg1 : goodL (shapeS t).1 0 allow = true := by
    cases h : goodL (shapeS t).1 0 allow with
    | true => rfl
    | false => exact (hg0 (.inr h)).elim
  have q : ieq (shapeS t).1 (Int.ofNat 0) = false := by rw [ieq_f, ofn]; exact hk0
  have q2 : (!goodL (shapeS t).1 0 allow) = false := by rw [hg1]; rfl
  by_cases hs0 : (shapeS t).2 = 0
  · have hR : readS t at_ allow = ((shapeS t).1, 0, iadd .i64 at_ 1, 0) := by unfold readS; rw [if_neg (by rw [hf1]; decide), if_neg hg0, if_pos hs0]
    rw [hR]
    have q3 : ieq ((shapeS t).2 : Int) (Int.ofNat 0) = true := by rw [ieq_t, hs0]; rfl
    repeat' ((first | refine vb_t rfl ?_ | refine vb_f rfl ?_ | refine vb_t (by assumption) ?_ | refine vb_f (by assumption) ?_ | refine vpur_i ht ?_ | refine vpur_i hf ?_ | refine vpur_i hx ?_ | refine vpur_i (rgood_ok _ _ _) ?_ | refine vor_l ?_ | fail) <;> conv => whnf)
    exact ⟨rfl, rfl⟩
  have q3 : ieq ((shapeS t).2 : Int) (Int.ofNat 0) = false := by rw [ieq_f, ofn]; omega
  have hy := rvalue_ok t.num (shapeS t).2 (by have := shapeS_sc t; omega) (by omega)
  obtain ⟨he, hn⟩ := numV_err t.num (shapeS t).2
  have hkk := shapeS_k hs0
  have hR : readS t at_ allow = if (sc5 t.num (shapeS t).2).2 ≠ 0 then (0, 0, at_, (sc5 t.num (shapeS t).2).2) else if goodL (shapeS t).1 (sc5 t.num (shapeS t).2).1 allow = true then ((shapeS t).1, (sc5 t.num (shapeS t).2).1, iadd .i64 at_ 1, 0) else if (sc5 t.num (shapeS t).2).1 < 0 ∧ (iand .i64 allow 2 = 0 ∨ (shapeS t).1 = 6) then (0, 0, at_, 50) else (0, 0, at_, 10) := by
    unfold readS; rw [if_neg (by rw [hf1]; decide), if_neg hg0, if_neg hs0]
  unfold sc5 at hR
  rw [hR]
  clear hR hg0
  generalize (shapeS t).1 = k at *
  generalize numV t.num (shapeS t).2 = y at *
  obtain ⟨n, e⟩ := y
  simp only at he hn hy ⊢
  rcases he with rfl | rfl | rfl
  · have z1 : ieq (0 : Int) (Int.ofNat 10) = false := by rw [ieq_f]; decide
    have z2 : (!ieq (0 : Int) (Int.ofNat 0)) = false := by rw [show ieq (0 : Int) (Int.ofNat 0) = true from by rw [ieq_t]; rfl]; rfl
    rw [show (if (0 : Int) = 21 then (50 : Int) else 0) = 0 from by decide, if_neg (by decide : ¬ (0 : Int) ≠ 0)]
    by_cases hgn : goodL k n allow = true
    · rw [if_pos hgn]
      have hgo := rgood_ok k n allow
      rw [hgn] at hgo
      repeat' ((first | refine vb_t rfl ?_ | refine vb_f rfl ?_ | refine vb_t (by assumption) ?_ | refine vb_f (by assumption) ?_ | refine vpur_i ht ?_ | refine vpur_i hf ?_ | refine vpur_i hx ?_ | refine vpur_i hy ?_ | refine vpur_i hgo ?_ | refine vpur_i (rgood_ok k 0 allow) ?_ | refine vor_l ?_ | fail) <;> conv => whnf)
      exact ⟨rfl, rfl⟩
    · rw [if_neg hgn]
      rw [Bool.not_eq_true] at hgn
      have hgo := rgood_ok k n allow
      rw [hgn] at hgo
      have halt := read_alt hkk hg1 hgn
      by_cases hbad : n < 0 ∧ (iand .i64 allow 2 = 0 ∨ k = 6)
      · rw [if_pos hbad]
        have h5 : ¬ (0 < n ∨ goodL k (-1) allow = true) := fun h => halt.1 h hbad
        have q5 : ilt (Int.ofNat 0) n = false := by rw [ilt_f, ofn]; omega
        have h6 : goodL k (-1) allow = false := by
          cases h : goodL k (-1) allow with
          | true => exact (h5 (.inr h)).elim
          | false => rfl
        have hgm := rgood_ok k (-1) allow
        rw [h6] at hgm
        repeat' ((first | refine vb_t rfl ?_ | refine vb_f rfl ?_ | refine vb_t (by assumption) ?_ | refine vb_f (by assumption) ?_ | refine vpur_i ht ?_ | refine vpur_i hf ?_ | refine vpur_i hx ?_ | refine vpur_i hy ?_ | refine vpur_i hgo ?_ | refine vpur_i (rgood_ok k 0 allow) ?_ | refine vpur_i hgm ?_ | refine vor_l ?_ | fail) <;> conv => whnf)
        exact ⟨rfl, rfl⟩
      · rw [if_neg hbad]
        by_cases h0n : 0 < n
        · have q5 : ilt (Int.ofNat 0) n = true := by rw [ilt_t, ofn]; omega
          repeat' ((first | refine vb_t rfl ?_ | refine vb_f rfl ?_ | refine vb_t (by assumption) ?_ | refine vb_f (by assumption) ?_ | refine vpur_i ht ?_ | refine vpur_i hf ?_ | refine vpur_i hx ?_ | refine vpur_i hy ?_ | refine vpur_i hgo ?_ | refine vpur_i (rgood_ok k 0 allow) ?_ | refine vor_l ?_ | fail) <;> conv => whnf)
          exact ⟨rfl, rfl⟩
        · have q5 : ilt (Int.ofNat 0) n = false := by rw [ilt_f, ofn]; omega
          have h6 : goodL k (-1) allow = true := (halt.2 hbad).resolve_left h0n
          have hgm := rgood_ok k (-1) allow
          rw [h6] at hgm
          repeat' ((first | refine vb_t rfl ?_ | refine vb_f rfl ?_ | refine vb_t (by assumption) ?_ | refine vb_f (by assumption) ?_ | refine vpur_i ht ?_ | refine vpur_i hf ?_ | refine vpur_i hx ?_ | refine vpur_i hy ?_ | refine vpur_i hgo ?_ | refine vpur_i (rgood_ok k 0 allow) ?_ | refine vpur_i hgm ?_ | refine vor_l ?_ | fail) <;> conv => whnf)
          exact ⟨rfl, rfl⟩
  · have z1 : ieq (10 : Int) (Int.ofNat 10) = true := by rw [ieq_t]; rfl
    rw [show (if (10 : Int) = 21 then (50 : Int) else 10) = 10 from by decide, if_pos (by decide : (10 : Int) ≠ 0)]
    repeat' ((first | refine vb_t rfl ?_ | refine vb_f rfl ?_ | refine vb_t (by assumption) ?_ | refine vb_f (by assumption) ?_ | refine vpur_i ht ?_ | refine vpur_i hf ?_ | refine vpur_i hx ?_ | refine vpur_i hy ?_ | refine vpur_i (rgood_ok k 0 allow) ?_ | refine vor_l ?_ | fail) <;> conv => whnf)
    exact ⟨rfl, rfl⟩
  · have z1 : ieq (21 : Int) (Int.ofNat 10) = false := by rw [ieq_f]; decide
    have z2 : (!ieq (21 : Int) (Int.ofNat 0)) = true := by rw [show ieq (21 : Int) (Int.ofNat 0) = false from by rw [ieq_f]; decide]; rfl
    rw [show (if (21 : Int) = 21 then (50 : Int) else 21) = 50 from by decide, if_pos (by decide : (50 : Int) ≠ 0)]
    repeat' ((first | refine vb_t rfl ?_ | refine vb_f rfl ?_ | refine vb_t (by assumption) ?_ | refine vb_f (by assumption) ?_ | refine vpur_i ht ?_ | refine vpur_i hf ?_ | refine vpur_i hx ?_ | refine vpur_i hy ?_ | refine vpur_i (rgood_ok k 0 allow) ?_ | refine vor_l ?_ | fail) <;> conv => whnf)
    exact ⟨rfl, rfl⟩
/-! Keywords. -/
end Go.Proofs.YtjeblkicgmmhiaaGreatDoor.Ab
namespace Go.Proofs.YtjeblkicgmmhiaaGreatDoor.Ab
open Go
set_option linter.unusedSimpArgs false
set_option maxRecDepth 100000
set_option linter.unusedVariables false
set_option maxHeartbeats 4000000
theorem B_eqq {a b : Bool} (h : a = b) : B a = B b := by rw [h]
theorem vsign_ok (l : List Tok) (v : DV) (hv : toksA l v) (at_ : Int) (x : List UInt8) (b : Bool) (hb : b = decide ((wordS l at_).kind = 7 ∧ (wordS l at_).text = x)) : Pur F0 88 [.d v, I at_, S x] [] .no (.ret (B b)) .no := by
  have ht := word_ok l v hv at_
  generalize wordS l at_ = t at *
  refine pur_code code88_ok ?_
  conv => whnf
  by_cases h7 : t.kind = 7
  · have q1 : ieq t.kind (Int.ofNat 7) = true := by rw [ieq_t]; exact h7
    by_cases hx : t.text = x
    · have q2 : seq t.text x = true := by rw [seq_t]; exact hx
      rw [decide_eq_true ⟨h7, hx⟩] at hb
      subst hb
      repeat' ((first | refine vb_t rfl ?_ | refine vb_f rfl ?_ | refine vb_t (by assumption) ?_ | refine vb_f (by assumption) ?_ | refine vpur_i ht ?_ | refine vor_l ?_ | fail) <;> conv => whnf)
      exact ⟨congrArg CR.ret (B_eqq q2), rfl⟩
    · have q2 : seq t.text x = false := by rw [seq_f]; exact hx
      rw [decide_eq_false (fun h => hx h.2)] at hb
      subst hb
      repeat' ((first | refine vb_t rfl ?_ | refine vb_f rfl ?_ | refine vb_t (by assumption) ?_ | refine vb_f (by assumption) ?_ | refine vpur_i ht ?_ | refine vor_l ?_ | fail) <;> conv => whnf)
      exact ⟨congrArg CR.ret (B_eqq q2), rfl⟩
  · have q1 : ieq t.kind (Int.ofNat 7) = false := by rw [ieq_f]; exact h7
    rw [decide_eq_false (fun h => h7 h.1)] at hb
    subst hb
    repeat' ((first | refine vb_t rfl ?_ | refine vb_f rfl ?_ | refine vb_t (by assumption) ?_ | refine vb_f (by assumption) ?_ | refine vpur_i ht ?_ | refine vor_l ?_ | fail) <;> conv => whnf)
    exact ⟨rfl, rfl⟩
theorem rsignR_ok (l : List Tok) (v : DV) (hv : toksA l v) (at_ : Int) (x : List UInt8) (b : Bool) (hb : b = decide ((wordS l at_).kind = 7 ∧ (wordS l at_).text = x)) : Pur F0 38 [.d v, I at_, S x] [] .no (.ret (B b)) .no := by
  have ht := rword_ok l v hv at_
  generalize wordS l at_ = t at *
  refine pur_code code38_ok ?_
  conv => whnf
  by_cases h7 : t.kind = 7
  · have q1 : ieq t.kind (Int.ofNat 7) = true := by rw [ieq_t]; exact h7
    by_cases hx : t.text = x
    · have q2 : seq t.text x = true := by rw [seq_t]; exact hx
      rw [decide_eq_true ⟨h7, hx⟩] at hb
      subst hb
      repeat' ((first | refine vb_t rfl ?_ | refine vb_f rfl ?_ | refine vb_t (by assumption) ?_ | refine vb_f (by assumption) ?_ | refine vpur_i ht ?_ | refine vor_l ?_ | fail) <;> conv => whnf)
      exact ⟨congrArg CR.ret (B_eqq q2), rfl⟩
    · have q2 : seq t.text x = false := by rw [seq_f]; exact hx
      rw [decide_eq_false (fun h => hx h.2)] at hb
      subst hb
      repeat' ((first | refine vb_t rfl ?_ | refine vb_f rfl ?_ | refine vb_t (by assumption) ?_ | refine vb_f (by assumption) ?_ | refine vpur_i ht ?_ | refine vor_l ?_ | fail) <;> conv => whnf)
      exact ⟨congrArg CR.ret (B_eqq q2), rfl⟩
  · have q1 : ieq t.kind (Int.ofNat 7) = false := by rw [ieq_f]; exact h7
    rw [decide_eq_false (fun h => h7 h.1)] at hb
    subst hb
    repeat' ((first | refine vb_t rfl ?_ | refine vb_f rfl ?_ | refine vb_t (by assumption) ?_ | refine vb_f (by assumption) ?_ | refine vpur_i ht ?_ | refine vor_l ?_ | fail) <;> conv => whnf)
    exact ⟨rfl, rfl⟩
end Go.Proofs.YtjeblkicgmmhiaaGreatDoor.Ab
namespace Go.Proofs.YtjeblkicgmmhiaaGreatDoor.Ab
open Go
set_option linter.unusedSimpArgs false
set_option maxRecDepth 100000
set_option linter.unusedVariables false
set_option maxHeartbeats 4000000
/-- A reader of words. -/
def rdrO (v : DV) (i n : Int) : Obj := ⟨.mine, 78, .fix [.d v, I i, I n]⟩
/-- A word that is wrong. -/
def fltA (i e : Int) : AV := .ifc 119 (.agg [I i, I e])
def fnS (t : Tok) (name : List UInt8) : Bool := decide (t.kind = 2 ∧ lower t.text = lower name)
def sgS (t : Tok) (x : List UInt8) : Bool := decide (t.kind = 7 ∧ t.text = x)
theorem fail_ok (v : DV) (i n a e : Int) : Drp F0 1 75 [.ptr 0 0, I a, I e] [rdrO v i n] .no (.pan (fltA a e)) [rdrO v i n] .no := by
  refine drp_code code75_ok ?_
  conv => whnf
  repeat' ((first | refine vb_t rfl ?_ | refine vb_f rfl ?_ | refine vb_t (by assumption) ?_ | refine vb_f (by assumption) ?_ | refine vor_l ?_ | fail) <;> conv => whnf)
  exact ⟨rfl, rfl, rfl⟩
theorem function_ok (l : List Tok) (i n : Int) (name : List UInt8) (hl : ∀ t ∈ l, tokOk t) (hn : name.length ≤ 1000) :
    Drp F0 1 77 [.ptr 0 0, S name] [rdrO (.sl 4 (l.map tokRow)) i n] .no (.ret (B (fnS (wordS l i) name))) [rdrO (.sl 4 (l.map tokRow)) i n] .no := by
  obtain ⟨h1, h2⟩ := wordS_ok hl i
  refine drp_code code77_ok ?_
  conv => whnf
  by_cases h0 : i < 0
  · have q : ilt i (Int.ofNat 0) = true := by rw [ilt_t]; exact h0
    have hw : fnS (wordS l i) name = false := by rw [wordS_lt h0]; rfl
    rw [hw]
    repeat' ((first | refine vb_t rfl ?_ | refine vb_f rfl ?_ | refine vb_t (by assumption) ?_ | refine vb_f (by assumption) ?_ | refine vor_l ?_ | fail) <;> conv => whnf)
    exact ⟨rfl, rfl, rfl⟩
  have q : ilt i (Int.ofNat 0) = false := by rw [ilt_f]; (first | omega | (simp only [ilt_t, ilt_f, ile_t, ile_f, ieq_t, ieq_f, ofn, List.length_map, Bool.not_eq_true', Bool.not_eq_false'] at *; omega))
  by_cases hlen : (l.length : Int) ≤ i
  · have q2 : ile ((l.map tokRow).length : Int) i = true := by rw [ile_t, List.length_map]; exact hlen
    have hw : fnS (wordS l i) name = false := by rw [wordS_ge hlen]; rfl
    rw [hw]
    repeat' ((first | refine vb_t rfl ?_ | refine vb_f rfl ?_ | refine vb_t (by assumption) ?_ | refine vb_f (by assumption) ?_ | refine vor_l ?_ | fail) <;> conv => whnf)
    exact ⟨rfl, rfl, rfl⟩
  have q2 : ile ((l.map tokRow).length : Int) i = false := by rw [ile_f, List.length_map]; omega
  have hg := wordS_in (l := l) (i := i) (by omega) (by omega)
  generalize wordS l i = t at *
  have his := is_ok t.text name (by omega) (by omega)
  unfold fnS
  by_cases k2 : t.kind = 2
  · have q3 : ieq t.kind (Int.ofNat 2) = true := by rw [ieq_t]; exact k2
    by_cases hm : lower t.text = lower name
    · have q4 : seq (lower t.text) (lower name) = true := by rw [seq_t]; exact hm
      rw [q4] at his
      rw [decide_eq_true ⟨k2, hm⟩]
      repeat' ((first | refine vb_t rfl ?_ | refine vb_f rfl ?_ | refine vb_t (by assumption) ?_ | refine vb_f (by assumption) ?_ | refine vo_i hg ?_ | refine vpur_i his ?_ | refine vor_l ?_ | fail) <;> conv => whnf)
      exact ⟨rfl, rfl, rfl⟩
    · have q4 : seq (lower t.text) (lower name) = false := by rw [seq_f]; exact hm
      rw [q4] at his
      rw [decide_eq_false (fun h => hm h.2)]
      repeat' ((first | refine vb_t rfl ?_ | refine vb_f rfl ?_ | refine vb_t (by assumption) ?_ | refine vb_f (by assumption) ?_ | refine vo_i hg ?_ | refine vpur_i his ?_ | refine vor_l ?_ | fail) <;> conv => whnf)
      exact ⟨rfl, rfl, rfl⟩
  · have q3 : ieq t.kind (Int.ofNat 2) = false := by rw [ieq_f]; exact k2
    rw [decide_eq_false (fun h => k2 h.1)]
    repeat' ((first | refine vb_t rfl ?_ | refine vb_f rfl ?_ | refine vb_t (by assumption) ?_ | refine vb_f (by assumption) ?_ | refine vo_i hg ?_ | refine vpur_i his ?_ | refine vor_l ?_ | fail) <;> conv => whnf)
    exact ⟨rfl, rfl, rfl⟩
/-- What is read at a place: of what kind, how much, where it ends, the error. -/
def rd6 (l : List Tok) (allow i : Int) : Int × Int × Int × Int := readS (wordS l i) i allow
/-- What a step of a reader comes to: where it stands, and what it tells; or a fault. -/
def lenR' (r : Int × Int × Int × Int) : CR := if r.2.2.2 = 0 then .ret (.agg [I r.1, I r.2.1]) else .pan (fltA r.2.2.1 r.2.2.2)
theorem length_ok (l : List Tok) (i n allow : Int) (hl : ∀ t ∈ l, tokOk t) (r : Int × Int × Int × Int) (hr : rd6 l allow i = r) :
    Drp F0 1 78 [.ptr 0 0, I allow] [rdrO (.sl 4 (l.map tokRow)) i n] .no (lenR' r) [rdrO (.sl 4 (l.map tokRow)) (if r.2.2.2 = 0 then r.2.2.1 else i) n] .no := by
  have hrd := read_ok l (.sl 4 (l.map tokRow)) (.inr rfl) hl i allow
  unfold rd6 at hr
  rw [hr] at hrd
  obtain ⟨k, m, nx, e⟩ := r
  unfold lenR'
  simp only
  refine drp_code code78_ok ?_
  conv => whnf
  by_cases he : e = 0
  · have z2 : (!ieq e (Int.ofNat 0)) = false := by rw [show ieq e (Int.ofNat 0) = true from by rw [ieq_t, he]; rfl]; rfl
    rw [if_pos he, if_pos he]
    repeat' ((first | refine vb_t rfl ?_ | refine vb_f rfl ?_ | refine vb_t (by assumption) ?_ | refine vb_f (by assumption) ?_ | refine vpur_i hrd ?_ | refine vor_l ?_ | fail) <;> conv => whnf)
    exact ⟨rfl, rfl, rfl⟩
  · have z2 : (!ieq e (Int.ofNat 0)) = true := by rw [show ieq e (Int.ofNat 0) = false from by rw [ieq_f]; exact he]; rfl
    rw [if_neg he, if_neg he]
    repeat' ((first | refine vb_t rfl ?_ | refine vb_f rfl ?_ | refine vb_t (by assumption) ?_ | refine vb_f (by assumption) ?_ | refine vpur_i hrd ?_ | refine vdrp_i (fail_ok _ _ _ _ _) ?_ | refine vor_l ?_ | fail) <;> conv => whnf)
    exact ⟨rfl, rfl, rfl⟩
theorem rsign_ok' (l : List Tok) (i n : Int) (x : List UInt8) : Drp F0 1 79 [.ptr 0 0, S x] [rdrO (.sl 4 (l.map tokRow)) i n] .no (if sgS (wordS l i) x = true then .ret (.tup []) else .pan (fltA i 50)) [rdrO (.sl 4 (l.map tokRow)) (if sgS (wordS l i) x = true then iadd .i64 i 1 else i) n] .no := by
  have hs := vsign_ok l (.sl 4 (l.map tokRow)) (.inr rfl) i x (sgS (wordS l i) x) rfl
  generalize sgS (wordS l i) x = b at *
  refine drp_code code79_ok ?_
  conv => whnf
  cases b
  · rw [if_neg (by decide), if_neg (by decide)]
    repeat' ((first | refine vb_t rfl ?_ | refine vb_f rfl ?_ | refine vb_t (by assumption) ?_ | refine vb_f (by assumption) ?_ | refine vpur_i hs ?_ | refine vdrp_i (fail_ok _ _ _ _ _) ?_ | refine vor_l ?_ | fail) <;> conv => whnf)
    exact ⟨rfl, rfl, rfl⟩
  · rw [if_pos rfl, if_pos rfl]
    repeat' ((first | refine vb_t rfl ?_ | refine vb_f rfl ?_ | refine vb_t (by assumption) ?_ | refine vb_f (by assumption) ?_ | refine vpur_i hs ?_ | refine vor_l ?_ | fail) <;> conv => whnf)
    exact ⟨rfl, rfl, rfl⟩
def oneL (k n : Int) : List AV := if k = 6 then [I 1, I 0, I k, I n, B false, I 0, I 0] else [I k, I n, I k, I n, B false, I 0, I 0]
theorem one_ok (k n : Int) : Pur F0 81 [.agg [I k, I n]] [] .no (.ret (.agg (oneL k n))) .no := by
  unfold oneL
  refine pur_code code81_ok ?_
  conv => whnf
  by_cases h6 : k = 6
  · have q : ieq k (Int.ofNat 6) = true := by rw [ieq_t]; exact h6
    rw [if_pos h6]
    repeat' ((first | refine vb_t rfl ?_ | refine vb_f rfl ?_ | refine vb_t (by assumption) ?_ | refine vb_f (by assumption) ?_ | refine vpur_i auto_ok ?_ | refine vor_l ?_ | fail) <;> conv => whnf)
    exact ⟨rfl, rfl⟩
  · have q : ieq k (Int.ofNat 6) = false := by rw [ieq_f]; exact h6
    rw [if_neg h6]
    repeat' ((first | refine vb_t rfl ?_ | refine vb_f rfl ?_ | refine vb_t (by assumption) ?_ | refine vb_f (by assumption) ?_ | refine vpur_i auto_ok ?_ | refine vor_l ?_ | fail) <;> conv => whnf)
    exact ⟨rfl, rfl⟩
end Go.Proofs.YtjeblkicgmmhiaaGreatDoor.Ab
namespace Go.Proofs.YtjeblkicgmmhiaaGreatDoor.Ab
open Go
set_option linter.unusedSimpArgs false
set_option maxRecDepth 100000
set_option linter.unusedVariables false
set_option maxHeartbeats 4000000
def trk00 : Trk := ⟨0, 0, 0, 0, false, 0, 0⟩
def oneT (k n : Int) : Trk := if k = 6 then ⟨1, 0, k, n, false, 0, 0⟩ else ⟨k, n, k, n, false, 0, 0⟩
theorem oneT_a (k n : Int) : trkA (oneT k n) = .agg (oneL k n) := by
  unfold oneT oneL
  split <;> rfl
def fitW : List UInt8 := [102, 105, 116, 45, 99, 111, 110, 116, 101, 110, 116]
def mmW : List UInt8 := [109, 105, 110, 109, 97, 120]
/-- A size that is read: the track, where it ends, the error. -/
def sz6 (l : List Tok) (i : Int) : Trk × Int × Int :=
  if fnS (wordS l i) fitW = true then
    if (rd6 l 1 (iadd .i64 i 1)).2.2.2 = 0 then
      if sgS (wordS l (rd6 l 1 (iadd .i64 i 1)).2.2.1) [41] = true then
        (⟨1, 0, 5, 0, true, (rd6 l 1 (iadd .i64 i 1)).1, (rd6 l 1 (iadd .i64 i 1)).2.1⟩, iadd .i64 (rd6 l 1 (iadd .i64 i 1)).2.2.1 1, 0)
      else (trk00, (rd6 l 1 (iadd .i64 i 1)).2.2.1, 50)
    else (trk00, (rd6 l 1 (iadd .i64 i 1)).2.2.1, (rd6 l 1 (iadd .i64 i 1)).2.2.2)
  else if fnS (wordS l i) mmW = true then
    if (rd6 l 13 (iadd .i64 i 1)).2.2.2 = 0 then
      if sgS (wordS l (rd6 l 13 (iadd .i64 i 1)).2.2.1) [44] = true then
        if (rd6 l 29 (iadd .i64 (rd6 l 13 (iadd .i64 i 1)).2.2.1 1)).2.2.2 = 0 then
          if sgS (wordS l (rd6 l 29 (iadd .i64 (rd6 l 13 (iadd .i64 i 1)).2.2.1 1)).2.2.1) [41] = true then
            (⟨(rd6 l 13 (iadd .i64 i 1)).1, (rd6 l 13 (iadd .i64 i 1)).2.1, (rd6 l 29 (iadd .i64 (rd6 l 13 (iadd .i64 i 1)).2.2.1 1)).1, (rd6 l 29 (iadd .i64 (rd6 l 13 (iadd .i64 i 1)).2.2.1 1)).2.1, false, 0, 0⟩,
              iadd .i64 (rd6 l 29 (iadd .i64 (rd6 l 13 (iadd .i64 i 1)).2.2.1 1)).2.2.1 1, 0)
          else (trk00, (rd6 l 29 (iadd .i64 (rd6 l 13 (iadd .i64 i 1)).2.2.1 1)).2.2.1, 50)
        else (trk00, (rd6 l 29 (iadd .i64 (rd6 l 13 (iadd .i64 i 1)).2.2.1 1)).2.2.1, (rd6 l 29 (iadd .i64 (rd6 l 13 (iadd .i64 i 1)).2.2.1 1)).2.2.2)
      else (trk00, (rd6 l 13 (iadd .i64 i 1)).2.2.1, 50)
    else (trk00, (rd6 l 13 (iadd .i64 i 1)).2.2.1, (rd6 l 13 (iadd .i64 i 1)).2.2.2)
  else if (rd6 l 29 i).2.2.2 = 0 then (oneT (rd6 l 29 i).1 (rd6 l 29 i).2.1, (rd6 l 29 i).2.2.1, 0)
  else (trk00, (rd6 l 29 i).2.2.1, (rd6 l 29 i).2.2.2)
def szR (r : Trk × Int × Int) : CR := if r.2.2 = 0 then .ret (trkA r.1) else .pan (fltA r.2.1 r.2.2)
abbrev tkV (l : List Tok) : DV := .sl 4 (l.map tokRow)
theorem length_t (l : List Tok) (i n allow : Int) (hl : ∀ t ∈ l, tokOk t) (k m nx e : Int) (hr : rd6 l allow i = (k, m, nx, e)) (he : e = 0) :
    Drp F0 1 78 [.ptr 0 0, I allow] [rdrO (tkV l) i n] .no (.ret (.agg [I k, I m])) [rdrO (tkV l) nx n] .no := by
  have h := length_ok l i n allow hl _ hr
  unfold lenR' at h
  simp only at h
  rw [if_pos he, if_pos he] at h
  exact h
theorem length_f (l : List Tok) (i n allow : Int) (hl : ∀ t ∈ l, tokOk t) (k m nx e : Int) (hr : rd6 l allow i = (k, m, nx, e)) (he : e ≠ 0) :
    Drp F0 1 78 [.ptr 0 0, I allow] [rdrO (tkV l) i n] .no (.pan (fltA nx e)) [rdrO (tkV l) i n] .no := by
  have h := length_ok l i n allow hl _ hr
  unfold lenR' at h
  simp only at h
  rw [if_neg he, if_neg he] at h
  exact h
theorem rsign_t (l : List Tok) (i n : Int) (x : List UInt8) (h : sgS (wordS l i) x = true) : Drp F0 1 79 [.ptr 0 0, S x] [rdrO (tkV l) i n] .no (.ret (.tup [])) [rdrO (tkV l) (iadd .i64 i 1) n] .no := by
  have h1 := rsign_ok' l i n x
  rw [if_pos h, if_pos h] at h1
  exact h1
theorem rsign_f (l : List Tok) (i n : Int) (x : List UInt8) (h : ¬ sgS (wordS l i) x = true) : Drp F0 1 79 [.ptr 0 0, S x] [rdrO (tkV l) i n] .no (.pan (fltA i 50)) [rdrO (tkV l) i n] .no := by
  have h1 := rsign_ok' l i n x
  rw [if_neg h, if_neg h] at h1
  exact h1
theorem szR_t {t : Trk} {a e : Int} (h : e = 0) : szR (t, a, e) = .ret (trkA t) := if_pos h
theorem szR_f {t : Trk} {a e : Int} (h : e ≠ 0) : szR (t, a, e) = .pan (fltA a e) := if_neg h
theorem bf {b : Bool} (h : ¬ b = true) : b = false := by cases b <;> simp_all
theorem size6_ok (l : List Tok) (i n : Int) (hl : ∀ t ∈ l, tokOk t) : ∃ i' : Int, Drp F0 1 35 [.ptr 0 0] [rdrO (tkV l) i n] .no (szR (sz6 l i)) [rdrO (tkV l) i' n] .no ∧ ((sz6 l i).2.2 = 0 → i' = (sz6 l i).2.1) := by
  have hf1 := function_ok l i n fitW hl (by decide)
  have hf2 := function_ok l i n mmW hl (by decide)
  unfold sz6
  by_cases c1 : fnS (wordS l i) fitW = true
  · rw [if_pos c1]
    rw [c1] at hf1
    rcases hr : rd6 l 1 (iadd .i64 i 1) with ⟨k, m, nx, e⟩
    simp only
    by_cases he : e = 0
    · rw [if_pos he]
      have hL := length_t l (iadd .i64 i 1) n 1 hl k m nx e hr he
      by_cases c2 : sgS (wordS l nx) [41] = true
      · rw [if_pos c2]
        have hs := rsign_t l nx n [41] c2
        refine ⟨iadd .i64 nx 1, ?_, fun _ => rfl⟩
        rw [szR_t rfl]
        refine drp_code code35_ok ?_
        conv => whnf
        repeat' ((first | refine vb_t rfl ?_ | refine vb_f rfl ?_ | refine vb_t (by assumption) ?_ | refine vb_f (by assumption) ?_ | refine vdrp_i hf1 ?_ | refine vdrp_i hf2 ?_ | refine vdrp_i hL ?_ | refine vdrp_i hs ?_ | refine vpur_i (fit_ok _ _) ?_ | refine vor_l ?_ | fail) <;> conv => whnf)
        exact ⟨rfl, rfl, rfl⟩
      · rw [if_neg c2]
        have hs := rsign_f l nx n [41] c2
        refine ⟨nx, ?_, fun _ => rfl⟩
        rw [szR_f (by decide)]
        refine drp_code code35_ok ?_
        conv => whnf
        repeat' ((first | refine vb_t rfl ?_ | refine vb_f rfl ?_ | refine vb_t (by assumption) ?_ | refine vb_f (by assumption) ?_ | refine vdrp_i hf1 ?_ | refine vdrp_i hf2 ?_ | refine vdrp_i hL ?_ | refine vdrp_i hs ?_ | refine vpur_i (fit_ok _ _) ?_ | refine vor_l ?_ | fail) <;> conv => whnf)
        exact ⟨rfl, rfl, rfl⟩
    · rw [if_neg he]
      have hL := length_f l (iadd .i64 i 1) n 1 hl k m nx e hr he
      refine ⟨iadd .i64 i 1, ?_, fun h => (he h).elim⟩
      rw [szR_f he]
      refine drp_code code35_ok ?_
      conv => whnf
      repeat' ((first | refine vb_t rfl ?_ | refine vb_f rfl ?_ | refine vb_t (by assumption) ?_ | refine vb_f (by assumption) ?_ | refine vdrp_i hf1 ?_ | refine vdrp_i hf2 ?_ | refine vdrp_i hL ?_ | refine vor_l ?_ | fail) <;> conv => whnf)
      exact ⟨rfl, rfl, rfl⟩
  · rw [if_neg c1]
    rw [bf c1] at hf1
    by_cases c2 : fnS (wordS l i) mmW = true
    · rw [if_pos c2]
      rw [c2] at hf2
      rcases hr : rd6 l 13 (iadd .i64 i 1) with ⟨k, m, nx, e⟩
      simp only
      by_cases he : e = 0
      · rw [if_pos he]
        have hL := length_t l (iadd .i64 i 1) n 13 hl k m nx e hr he
        by_cases c3 : sgS (wordS l nx) [44] = true
        · rw [if_pos c3]
          have hs := rsign_t l nx n [44] c3
          rcases hr2 : rd6 l 29 (iadd .i64 nx 1) with ⟨k2, m2, nx2, e2⟩
          simp only
          by_cases he2 : e2 = 0
          · rw [if_pos he2]
            have hL2 := length_t l (iadd .i64 nx 1) n 29 hl k2 m2 nx2 e2 hr2 he2
            by_cases c4 : sgS (wordS l nx2) [41] = true
            · rw [if_pos c4]
              have hs2 := rsign_t l nx2 n [41] c4
              refine ⟨iadd .i64 nx2 1, ?_, fun _ => rfl⟩
              rw [szR_t rfl]
              refine drp_code code35_ok ?_
              conv => whnf
              repeat' ((first | refine vb_t rfl ?_ | refine vb_f rfl ?_ | refine vb_t (by assumption) ?_ | refine vb_f (by assumption) ?_ | refine vdrp_i hf1 ?_ | refine vdrp_i hf2 ?_ | refine vdrp_i hL ?_ | refine vdrp_i hs ?_ | refine vdrp_i hL2 ?_ | refine vdrp_i hs2 ?_ | refine vor_l ?_ | fail) <;> conv => whnf)
              exact ⟨rfl, rfl, rfl⟩
            · rw [if_neg c4]
              have hs2 := rsign_f l nx2 n [41] c4
              refine ⟨nx2, ?_, fun _ => rfl⟩
              rw [szR_f (by decide)]
              refine drp_code code35_ok ?_
              conv => whnf
              repeat' ((first | refine vb_t rfl ?_ | refine vb_f rfl ?_ | refine vb_t (by assumption) ?_ | refine vb_f (by assumption) ?_ | refine vdrp_i hf1 ?_ | refine vdrp_i hf2 ?_ | refine vdrp_i hL ?_ | refine vdrp_i hs ?_ | refine vdrp_i hL2 ?_ | refine vdrp_i hs2 ?_ | refine vor_l ?_ | fail) <;> conv => whnf)
              exact ⟨rfl, rfl, rfl⟩
          · rw [if_neg he2]
            have hL2 := length_f l (iadd .i64 nx 1) n 29 hl k2 m2 nx2 e2 hr2 he2
            refine ⟨iadd .i64 nx 1, ?_, fun h => (he2 h).elim⟩
            rw [szR_f he2]
            refine drp_code code35_ok ?_
            conv => whnf
            repeat' ((first | refine vb_t rfl ?_ | refine vb_f rfl ?_ | refine vb_t (by assumption) ?_ | refine vb_f (by assumption) ?_ | refine vdrp_i hf1 ?_ | refine vdrp_i hf2 ?_ | refine vdrp_i hL ?_ | refine vdrp_i hs ?_ | refine vdrp_i hL2 ?_ | refine vor_l ?_ | fail) <;> conv => whnf)
            exact ⟨rfl, rfl, rfl⟩
        · rw [if_neg c3]
          have hs := rsign_f l nx n [44] c3
          refine ⟨nx, ?_, fun _ => rfl⟩
          rw [szR_f (by decide)]
          refine drp_code code35_ok ?_
          conv => whnf
          repeat' ((first | refine vb_t rfl ?_ | refine vb_f rfl ?_ | refine vb_t (by assumption) ?_ | refine vb_f (by assumption) ?_ | refine vdrp_i hf1 ?_ | refine vdrp_i hf2 ?_ | refine vdrp_i hL ?_ | refine vdrp_i hs ?_ | refine vor_l ?_ | fail) <;> conv => whnf)
          exact ⟨rfl, rfl, rfl⟩
      · rw [if_neg he]
        have hL := length_f l (iadd .i64 i 1) n 13 hl k m nx e hr he
        refine ⟨iadd .i64 i 1, ?_, fun h => (he h).elim⟩
        rw [szR_f he]
        refine drp_code code35_ok ?_
        conv => whnf
        repeat' ((first | refine vb_t rfl ?_ | refine vb_f rfl ?_ | refine vb_t (by assumption) ?_ | refine vb_f (by assumption) ?_ | refine vdrp_i hf1 ?_ | refine vdrp_i hf2 ?_ | refine vdrp_i hL ?_ | refine vor_l ?_ | fail) <;> conv => whnf)
        exact ⟨rfl, rfl, rfl⟩
    · rw [if_neg c2]
      rw [bf c2] at hf2
      rcases hr : rd6 l 29 i with ⟨k, m, nx, e⟩
      simp only
      by_cases he : e = 0
      · rw [if_pos he]
        have hL := length_t l i n 29 hl k m nx e hr he
        refine ⟨nx, ?_, fun _ => rfl⟩
        rw [szR_t rfl]
        have ho := one_ok k m
        rw [← oneT_a] at ho
        generalize oneT k m = T at ho
        obtain ⟨a1, a2, a3, a4, a5, a6, a7⟩ := T
        refine drp_code code35_ok ?_
        conv => whnf
        repeat' ((first | refine vb_t rfl ?_ | refine vb_f rfl ?_ | refine vb_t (by assumption) ?_ | refine vb_f (by assumption) ?_ | refine vdrp_i hf1 ?_ | refine vdrp_i hf2 ?_ | refine vdrp_i hL ?_ | refine vpur_i ho ?_ | refine vor_l ?_ | fail) <;> conv => whnf)
        exact ⟨rfl, rfl, rfl⟩
      · rw [if_neg he]
        have hL := length_f l i n 29 hl k m nx e hr he
        refine ⟨i, ?_, fun h => (he h).elim⟩
        rw [szR_f he]
        refine drp_code code35_ok ?_
        conv => whnf
        repeat' ((first | refine vb_t rfl ?_ | refine vb_f rfl ?_ | refine vb_t (by assumption) ?_ | refine vb_f (by assumption) ?_ | refine vdrp_i hf1 ?_ | refine vdrp_i hf2 ?_ | refine vdrp_i hL ?_ | refine vor_l ?_ | fail) <;> conv => whnf)
        exact ⟨rfl, rfl, rfl⟩
theorem rfun_ok (l : List Tok) (i : Int) (name : List UInt8) (hl : ∀ t ∈ l, tokOk t) (hn : name.length ≤ 1000) (v : DV) (hv : toksA l v) :
    Pur F0 36 [.d v, I i, S name] [] .no (.ret (B (fnS (wordS l i) name))) .no := by
  obtain ⟨h1, h2⟩ := wordS_ok hl i
  have ht := rword_ok l v hv i
  generalize wordS l i = t at *
  have his := ris_ok t.text name (by omega) (by omega)
  unfold fnS
  refine pur_code code36_ok ?_
  conv => whnf
  by_cases k2 : t.kind = 2
  · have q3 : ieq t.kind (Int.ofNat 2) = true := by rw [ieq_t]; exact k2
    by_cases hm : lower t.text = lower name
    · have q4 : seq (lower t.text) (lower name) = true := by rw [seq_t]; exact hm
      rw [q4] at his
      rw [decide_eq_true ⟨k2, hm⟩]
      repeat' ((first | refine vb_t rfl ?_ | refine vb_f rfl ?_ | refine vb_t (by assumption) ?_ | refine vb_f (by assumption) ?_ | refine vpur_i ht ?_ | refine vpur_i his ?_ | refine vor_l ?_ | fail) <;> conv => whnf)
      exact ⟨rfl, rfl⟩
    · have q4 : seq (lower t.text) (lower name) = false := by rw [seq_f]; exact hm
      rw [q4] at his
      rw [decide_eq_false (fun h => hm h.2)]
      repeat' ((first | refine vb_t rfl ?_ | refine vb_f rfl ?_ | refine vb_t (by assumption) ?_ | refine vb_f (by assumption) ?_ | refine vpur_i ht ?_ | refine vpur_i his ?_ | refine vor_l ?_ | fail) <;> conv => whnf)
      exact ⟨rfl, rfl⟩
  · have q3 : ieq t.kind (Int.ofNat 2) = false := by rw [ieq_f]; exact k2
    rw [decide_eq_false (fun h => k2 h.1)]
    repeat' ((first | refine vb_t rfl ?_ | refine vb_f rfl ?_ | refine vb_t (by assumption) ?_ | refine vb_f (by assumption) ?_ | refine vpur_i ht ?_ | refine vpur_i his ?_ | refine vor_l ?_ | fail) <;> conv => whnf)
    exact ⟨rfl, rfl⟩
theorem rone_ok (k n : Int) : Pur F0 39 [.agg [I k, I n]] [] .no (.ret (trkA (oneT k n))) .no := by
  unfold oneT
  refine pur_code code39_ok ?_
  conv => whnf
  by_cases h6 : k = 6
  · have q : ieq k (Int.ofNat 6) = true := by rw [ieq_t]; exact h6
    rw [if_pos h6]
    repeat' ((first | refine vb_t rfl ?_ | refine vb_f rfl ?_ | refine vb_t (by assumption) ?_ | refine vb_f (by assumption) ?_ | refine vor_l ?_ | fail) <;> conv => whnf)
    exact ⟨rfl, rfl⟩
  · have q : ieq k (Int.ofNat 6) = false := by rw [ieq_f]; exact h6
    rw [if_neg h6]
    repeat' ((first | refine vb_t rfl ?_ | refine vb_f rfl ?_ | refine vb_t (by assumption) ?_ | refine vb_f (by assumption) ?_ | refine vor_l ?_ | fail) <;> conv => whnf)
    exact ⟨rfl, rfl⟩
def sz6A (r : Trk × Int × Int) : AV := .tup [trkA r.1, I r.2.1, I r.2.2]
theorem rsg_ok (l : List Tok) (v : DV) (hv : toksA l v) (i : Int) (x : List UInt8) : Pur F0 38 [.d v, I i, S x] [] .no (.ret (B (sgS (wordS l i) x))) .no := rsignR_ok l v hv i x _ rfl
theorem rrd_ok (l : List Tok) (v : DV) (hv : toksA l v) (hl : ∀ t ∈ l, tokOk t) (i allow : Int) (k m nx e : Int) (hr : rd6 l allow i = (k, m, nx, e)) : Pur F0 37 [.d v, I i, I allow] [] .no (.ret (.tup [.agg [I k, I m], I nx, I e])) .no := by
  have h := rread_ok l v hv hl i allow
  unfold rd6 at hr
  rw [hr] at h
  exact h
theorem rsize6_ok (l : List Tok) (v : DV) (hv : toksA l v) (i : Int) (hl : ∀ t ∈ l, tokOk t) : Pur F0 12 [.d v, I i] [] .no (.ret (sz6A (sz6 l i))) .no := by
  have hf1 := rfun_ok l i fitW hl (by decide) v hv
  have hf2 := rfun_ok l i mmW hl (by decide) v hv
  unfold sz6
  have hx : (!true) = false := rfl
  have hy : (!false) = true := rfl
  by_cases c1 : fnS (wordS l i) fitW = true
  · rw [if_pos c1]
    rw [c1] at hf1
    rcases hr : rd6 l 1 (iadd .i64 i 1) with ⟨k, m, nx, e⟩
    have hL := rrd_ok l v hv hl _ _ _ _ _ _ hr
    have hs := rsg_ok l v hv nx [41]
    simp only
    by_cases he : e = 0
    · rw [if_pos he]
      have z : (!ieq e (Int.ofNat 0)) = false := by rw [show ieq e (Int.ofNat 0) = true from by rw [ieq_t, he]; rfl]; rfl
      by_cases c2 : sgS (wordS l nx) [41] = true
      · rw [if_pos c2]
        rw [c2] at hs
        refine pur_code code12_ok ?_
        conv => whnf
        repeat' ((first | refine vb_t rfl ?_ | refine vb_f rfl ?_ | refine vb_t (by assumption) ?_ | refine vb_f (by assumption) ?_ | refine vpur_i hf1 ?_ | refine vpur_i hf2 ?_ | refine vpur_i hL ?_ | refine vpur_i hs ?_ | refine vor_l ?_ | fail) <;> conv => whnf)
        exact ⟨rfl, rfl⟩
      · rw [if_neg c2]
        rw [bf c2] at hs
        refine pur_code code12_ok ?_
        conv => whnf
        repeat' ((first | refine vb_t rfl ?_ | refine vb_f rfl ?_ | refine vb_t (by assumption) ?_ | refine vb_f (by assumption) ?_ | refine vpur_i hf1 ?_ | refine vpur_i hf2 ?_ | refine vpur_i hL ?_ | refine vpur_i hs ?_ | refine vor_l ?_ | fail) <;> conv => whnf)
        exact ⟨rfl, rfl⟩
    · rw [if_neg he]
      have z : (!ieq e (Int.ofNat 0)) = true := by rw [show ieq e (Int.ofNat 0) = false from by rw [ieq_f]; exact he]; rfl
      refine pur_code code12_ok ?_
      conv => whnf
      repeat' ((first | refine vb_t rfl ?_ | refine vb_f rfl ?_ | refine vb_t (by assumption) ?_ | refine vb_f (by assumption) ?_ | refine vpur_i hf1 ?_ | refine vpur_i hf2 ?_ | refine vpur_i hL ?_ | refine vpur_i hs ?_ | refine vor_l ?_ | fail) <;> conv => whnf)
      exact ⟨rfl, rfl⟩
  · rw [if_neg c1]
    rw [bf c1] at hf1
    by_cases c2 : fnS (wordS l i) mmW = true
    · rw [if_pos c2]
      rw [c2] at hf2
      rcases hr : rd6 l 13 (iadd .i64 i 1) with ⟨k, m, nx, e⟩
      have hL := rrd_ok l v hv hl _ _ _ _ _ _ hr
      have hs := rsg_ok l v hv nx [44]
      simp only
      by_cases he : e = 0
      · rw [if_pos he]
        have z : (!ieq e (Int.ofNat 0)) = false := by rw [show ieq e (Int.ofNat 0) = true from by rw [ieq_t, he]; rfl]; rfl
        by_cases c3 : sgS (wordS l nx) [44] = true
        · rw [if_pos c3]
          rw [c3] at hs
          rcases hr2 : rd6 l 29 (iadd .i64 nx 1) with ⟨k2, m2, nx2, e2⟩
          have hL2 := rrd_ok l v hv hl _ _ _ _ _ _ hr2
          have hs2 := rsg_ok l v hv nx2 [41]
          simp only
          by_cases he2 : e2 = 0
          · rw [if_pos he2]
            have z2 : (!ieq e2 (Int.ofNat 0)) = false := by rw [show ieq e2 (Int.ofNat 0) = true from by rw [ieq_t, he2]; rfl]; rfl
            by_cases c4 : sgS (wordS l nx2) [41] = true
            · rw [if_pos c4]
              rw [c4] at hs2
              refine pur_code code12_ok ?_
              conv => whnf
              repeat' ((first | refine vb_t rfl ?_ | refine vb_f rfl ?_ | refine vb_t (by assumption) ?_ | refine vb_f (by assumption) ?_ | refine vpur_i hf1 ?_ | refine vpur_i hf2 ?_ | refine vpur_i hL ?_ | refine vpur_i hs ?_ | refine vpur_i hL2 ?_ | refine vpur_i hs2 ?_ | refine vor_l ?_ | fail) <;> conv => whnf)
              exact ⟨rfl, rfl⟩
            · rw [if_neg c4]
              rw [bf c4] at hs2
              refine pur_code code12_ok ?_
              conv => whnf
              repeat' ((first | refine vb_t rfl ?_ | refine vb_f rfl ?_ | refine vb_t (by assumption) ?_ | refine vb_f (by assumption) ?_ | refine vpur_i hf1 ?_ | refine vpur_i hf2 ?_ | refine vpur_i hL ?_ | refine vpur_i hs ?_ | refine vpur_i hL2 ?_ | refine vpur_i hs2 ?_ | refine vor_l ?_ | fail) <;> conv => whnf)
              exact ⟨rfl, rfl⟩
          · rw [if_neg he2]
            have z2 : (!ieq e2 (Int.ofNat 0)) = true := by rw [show ieq e2 (Int.ofNat 0) = false from by rw [ieq_f]; exact he2]; rfl
            refine pur_code code12_ok ?_
            conv => whnf
            repeat' ((first | refine vb_t rfl ?_ | refine vb_f rfl ?_ | refine vb_t (by assumption) ?_ | refine vb_f (by assumption) ?_ | refine vpur_i hf1 ?_ | refine vpur_i hf2 ?_ | refine vpur_i hL ?_ | refine vpur_i hs ?_ | refine vpur_i hL2 ?_ | refine vpur_i hs2 ?_ | refine vor_l ?_ | fail) <;> conv => whnf)
            exact ⟨rfl, rfl⟩
        · rw [if_neg c3]
          rw [bf c3] at hs
          refine pur_code code12_ok ?_
          conv => whnf
          repeat' ((first | refine vb_t rfl ?_ | refine vb_f rfl ?_ | refine vb_t (by assumption) ?_ | refine vb_f (by assumption) ?_ | refine vpur_i hf1 ?_ | refine vpur_i hf2 ?_ | refine vpur_i hL ?_ | refine vpur_i hs ?_ | refine vor_l ?_ | fail) <;> conv => whnf)
          exact ⟨rfl, rfl⟩
      · rw [if_neg he]
        have z : (!ieq e (Int.ofNat 0)) = true := by rw [show ieq e (Int.ofNat 0) = false from by rw [ieq_f]; exact he]; rfl
        refine pur_code code12_ok ?_
        conv => whnf
        repeat' ((first | refine vb_t rfl ?_ | refine vb_f rfl ?_ | refine vb_t (by assumption) ?_ | refine vb_f (by assumption) ?_ | refine vpur_i hf1 ?_ | refine vpur_i hf2 ?_ | refine vpur_i hL ?_ | refine vpur_i hs ?_ | refine vor_l ?_ | fail) <;> conv => whnf)
        exact ⟨rfl, rfl⟩
    · rw [if_neg c2]
      rw [bf c2] at hf2
      rcases hr : rd6 l 29 i with ⟨k, m, nx, e⟩
      have hL := rrd_ok l v hv hl _ _ _ _ _ _ hr
      have ho := rone_ok k m
      simp only
      by_cases he : e = 0
      · rw [if_pos he]
        have z : (!ieq e (Int.ofNat 0)) = false := by rw [show ieq e (Int.ofNat 0) = true from by rw [ieq_t, he]; rfl]; rfl
        generalize oneT k m = T at ho
        obtain ⟨a1, a2, a3, a4, a5, a6, a7⟩ := T
        refine pur_code code12_ok ?_
        conv => whnf
        repeat' ((first | refine vb_t rfl ?_ | refine vb_f rfl ?_ | refine vb_t (by assumption) ?_ | refine vb_f (by assumption) ?_ | refine vpur_i hf1 ?_ | refine vpur_i hf2 ?_ | refine vpur_i hL ?_ | refine vpur_i ho ?_ | refine vor_l ?_ | fail) <;> conv => whnf)
        exact ⟨rfl, rfl⟩
      · rw [if_neg he]
        have z : (!ieq e (Int.ofNat 0)) = true := by rw [show ieq e (Int.ofNat 0) = false from by rw [ieq_f]; exact he]; rfl
        refine pur_code code12_ok ?_
        conv => whnf
        repeat' ((first | refine vb_t rfl ?_ | refine vb_f rfl ?_ | refine vb_t (by assumption) ?_ | refine vb_f (by assumption) ?_ | refine vpur_i hf1 ?_ | refine vpur_i hf2 ?_ | refine vpur_i hL ?_ | refine vpur_i ho ?_ | refine vor_l ?_ | fail) <;> conv => whnf)
        exact ⟨rfl, rfl⟩
end Go.Proofs.YtjeblkicgmmhiaaGreatDoor.Ab
namespace Go.Proofs.YtjeblkicgmmhiaaGreatDoor.Ab
open Go
set_option linter.unusedSimpArgs false
set_option maxRecDepth 100000
set_option linter.unusedVariables false
set_option maxHeartbeats 4000000
def inO (a : Int) : Obj := ⟨.mine, 3, .fix [I a]⟩
def erO (a : Int) : Obj := ⟨.mine, 29, .fix [I a]⟩
def tkO (t : Trk) : Obj := ⟨.mine, 28, .fix ((trkRow t).map .d)⟩
theorem clrS_ok (a1 a2 a3 a4 : Int) (a5 : Bool) (a6 a7 : Int) : Drp F0 1 34 [.ptr 0 0] [tkO ⟨a1, a2, a3, a4, a5, a6, a7⟩] .no (.ret (.tup [])) [tkO trk00] .no := by
  refine drp_code code34_ok ?_
  conv => whnf
  repeat' ((first | refine vb_t rfl ?_ | refine vb_f rfl ?_ | refine vb_t (by assumption) ?_ | refine vb_f (by assumption) ?_ | refine vor_l ?_ | fail) <;> conv => whnf)
  exact ⟨rfl, rfl, rfl⟩
theorem caughtS_no (a b : Int) (t : Trk) : Drp F0 3 33 [.ptr 0 0, .ptr 1 0, .fn .drop 34 [] [.ptr 2 0]] [inO a, erO b, tkO t] .calm (.ret (.tup [])) [inO a, erO b, tkO t] .calm := by
  refine drp_code code33_ok ?_
  conv => whnf
  repeat' ((first | refine vb_t rfl ?_ | refine vb_f rfl ?_ | refine vb_t (by assumption) ?_ | refine vb_f (by assumption) ?_ | refine vor_l ?_ | fail) <;> conv => whnf)
  exact ⟨rfl, rfl, rfl⟩
theorem caughtS_ft (x y a b : Int) (a1 a2 a3 a4 : Int) (a5 : Bool) (a6 a7 : Int) : Drp F0 3 33 [.ptr 0 0, .ptr 1 0, .fn .drop 34 [] [.ptr 2 0]] [inO a, erO b, tkO ⟨a1, a2, a3, a4, a5, a6, a7⟩] (.live (fltA x y)) (.ret (.tup [])) [inO x, erO y, tkO trk00] .took := by
  have hc := clrS_ok a1 a2 a3 a4 a5 a6 a7
  refine drp_code code33_ok ?_
  conv => whnf
  repeat' ((first | refine vb_t rfl ?_ | refine vb_f rfl ?_ | refine vb_t (by assumption) ?_ | refine vb_f (by assumption) ?_ | refine vdrp_i hc ?_ | refine vor_l ?_ | fail) <;> conv => whnf)
  exact ⟨rfl, rfl, rfl⟩
theorem sz6_err (l : List Tok) (i : Int) (h : (sz6 l i).2.2 ≠ 0) : (sz6 l i).1 = trk00 := by
  unfold sz6 at h ⊢
  (repeat' split) <;> first | rfl | simp_all
theorem tsize_ok (l : List Tok) (i : Int) (hl : ∀ t ∈ l, tokOk t) : Pur F0 11 [.d (tkV l), I i] [] .no (.ret (sz6A (sz6 l i))) .no := by
  obtain ⟨i', hS, hi⟩ := size6_ok l i 0 hl
  have hE := sz6_err l i
  rcases hz : sz6 l i with ⟨⟨a1, a2, a3, a4, a5, a6, a7⟩, nx, e⟩
  rw [hz] at hS hi hE
  by_cases he : e = 0
  · rw [szR_t he] at hS
    obtain rfl : i' = nx := hi he
    subst he
    clear hE hi
    have hC := caughtS_no 0 0 trk00
    have hC2 := caughtS_no i' 0 ⟨a1, a2, a3, a4, a5, a6, a7⟩
    refine pur_code code11_ok ?_
    conv => whnf
    repeat' ((first | refine vb_t rfl ?_ | refine vb_f rfl ?_ | refine vb_t (by assumption) ?_ | refine vb_f (by assumption) ?_ | refine vdrp_i hS ?_ | refine vdrp_i hC2 ?_ | refine vor_l ?_ | fail) <;> conv => whnf)
    exact ⟨rfl, rfl⟩
  · rw [szR_f he] at hS
    have hE' := hE he
    simp only [trk00, Trk.mk.injEq] at hE'
    obtain ⟨rfl, rfl, rfl, rfl, rfl, rfl, rfl⟩ := hE'
    have hC := caughtS_ft nx e 0 0 0 0 0 0 false 0 0
    refine pur_code code11_ok ?_
    conv => whnf
    repeat' ((first | refine vb_t rfl ?_ | refine vb_f rfl ?_ | refine vb_t (by assumption) ?_ | refine vb_f (by assumption) ?_ | refine vdrp_i hS ?_ | refine vdrp_i hC ?_ | refine vor_l ?_ | fail) <;> conv => whnf)
    exact ⟨rfl, rfl⟩
end Go.Proofs.YtjeblkicgmmhiaaGreatDoor.Ab
namespace Go.Proofs.YtjeblkicgmmhiaaGreatDoor.Ab
open Go
set_option linter.unusedSimpArgs false
set_option maxRecDepth 100000
set_option linter.unusedVariables false
set_option maxHeartbeats 4000000
/-- May a text be a name? -/
def nameB (s : List UInt8) : Bool := decide (s ≠ []) && decide (s.length ≤ 64) && decide (0 ∉ s)
theorem index0 (s : List UInt8) : Lib.indexByte s 0 < 0 ↔ 0 ∉ s := by
  induction s with
  | nil => simp [Lib.indexByte]
  | cons b l ih =>
    have h := Lib.indexByte_ge l 0
    unfold Lib.indexByte
    by_cases hb : b = 0
    · subst hb; simp
    · have hb' : (b == 0) = false := by simpa using hb
      rw [if_neg (by rw [hb']; decide)]
      by_cases hl : Lib.indexByte l 0 = -1
      · have hl' : (Lib.indexByte l 0 == -1) = true := by simpa using hl
        rw [if_pos hl']
        have : 0 ∉ l := ih.1 (by omega)
        simp [this, Ne.symm hb]
      · have hl' : (Lib.indexByte l 0 == -1) = false := by simpa using hl
        rw [if_neg (by rw [hl']; decide)]
        have : ¬ (0 ∉ l) := fun h' => hl (by have := ih.2 h'; omega)
        constructor
        · intro h'; omega
        · intro h'; exact (this fun hm => h' (List.mem_cons_of_mem _ hm)).elim
theorem indexByteS_ok (s : List UInt8) (c : UInt8) : Pur F0 154 [S s, .d (.int .u8 c.toNat)] [] .no (.ret (I (Lib.indexByte s c))) .no := by
  refine pur_code (cf := cfn Tryz.f154) (by kernel_rfl) ?_
  conv => arg 3; reduce
  conv => whnf
  repeat' ((first | refine vb_t rfl ?_ | refine vb_f rfl ?_ | refine vb_t (by assumption) ?_ | refine vb_f (by assumption) ?_ | refine vpur_i (indexByte_ok s c) ?_ | refine vor_l ?_ | fail) <;> conv => whnf)
  exact ⟨rfl, rfl⟩
theorem name_ok (s : List UInt8) : Pur F0 129 [S s] [] .no (.ret (B (nameB s))) .no := by
  have h0 := index0 s
  have hi : Pur F0 154 [S s, .d (.int .u8 (Int.ofNat 0))] [] .no (.ret (I (Lib.indexByte s 0))) .no := indexByteS_ok s 0
  refine pur_code code129_ok ?_
  conv => whnf
  repeat' ((first | refine vb_t rfl ?_ | refine vb_f rfl ?_ | refine vb_t (by assumption) ?_ | refine vb_f (by assumption) ?_ | refine vpur_i hi ?_ | refine vor_l ?_ | refine vb_i (fun h => ?_) (fun h => ?_) | fail) <;> conv => whnf)
  all_goals (refine ⟨retB ?_, rfl⟩; simp_all [nameB, seq_t, seq_f, ile_t, ile_f, ilt_d, lit0])
  all_goals omega
/-- May a text be a line's or an area's name? -/
def customW : List (List UInt8) := [[115, 112, 97, 110], [97, 117, 116, 111], [105, 110, 105, 116, 105, 97, 108], [105, 110, 104, 101, 114, 105, 116], [117, 110, 115, 101, 116], [100, 101, 102, 97, 117, 108, 116], [114, 101, 118, 101, 114, 116]]
def customB (s : List UInt8) : Bool := !anyW s customW && nameB s
theorem custom_ok (s : List UInt8) (hs : s.length ≤ 1000000) : Pur F0 89 [S s] [] .no (.ret (B (customB s))) .no := by
  have e1 : anyW s customW = customW.any fun w => decide (lower s = w) := anyW_id _ (by decide)
  refine pur_code code89_ok ?_
  conv => whnf
  repeat' ((first | refine vb_t rfl ?_ | refine vb_f rfl ?_ | refine vb_t (by assumption) ?_ | refine vb_f (by assumption) ?_ | refine vpur_i (lower_ok s (by omega)) ?_ | refine vpur_i (name_ok s) ?_ | refine vor_l ?_ | refine vb_i (fun h => ?_) (fun h => ?_) | fail) <;> conv => whnf)
  all_goals refine ⟨retB ?_, rfl⟩
  all_goals simp only [seq_t, seq_f] at *
  all_goals (unfold customB; rw [e1]; clear e1)
  all_goals generalize lower s = u at *
  all_goals simp_all [customW]
theorem rnought4_ok (s : List UInt8) (hs : s.length ≤ 1000000) : Pur F0 157 [S s] [] .no (.ret (B (decide (0 ∈ s)))) .no := by
  refine pur_code code157_ok ?_
  conv => whnf
  refine vloop_by (σ := { k : Nat // k ≤ s.length ∧ 0 ∉ s.take k }) (fun k => [(0, S s), (2, B false), (3, I (k.1 : Int))]) (fun _ => []) (fun k => s.length - k.1) ?_ ⟨0, Nat.zero_le _, by simp⟩
  rintro ⟨k, hk, hno⟩
  conv => whnf
  by_cases hlt : k < s.length
  · obtain ⟨c, hc⟩ : ∃ c, s[k]? = some c := ⟨s[k], List.getElem?_eq_getElem hlt⟩
    have q : ilt (k : Int) (s.length : Int) = true := by rw [ilt_t]; omega
    have hg : iget s (k : Int) = some c := iget_t hc
    by_cases h0 : c = 0
    · have q2 : ieq (c.toNat : Int) (Int.ofNat 0) = true := by rw [ieq_t, h0]; rfl
      have hm : 0 ∈ s := by rw [← h0]; exact List.mem_of_getElem? hc
      rw [decide_eq_true hm]
      repeat' ((first | refine vb_t rfl ?_ | refine vb_f rfl ?_ | refine vb_t (by assumption) ?_ | refine vb_f (by assumption) ?_ | refine vo_i hg ?_ | refine vor_l ?_ | fail) <;> conv => whnf)
      exact ⟨rfl, rfl⟩
    · have q2 : ieq (c.toNat : Int) (Int.ofNat 0) = false := by
        rw [ieq_f]; intro e; exact h0 (UInt8.toNat_inj.1 (Int.ofNat.inj e))
      repeat' ((first | refine vb_t rfl ?_ | refine vb_f rfl ?_ | refine vb_t (by assumption) ?_ | refine vb_f (by assumption) ?_ | refine vo_i hg ?_ | refine vor_l ?_ | fail) <;> conv => whnf)
      refine ⟨⟨k + 1, by omega, ?_⟩, by simp only; omega, cons_eq rfl (cons_eq rfl (cons_eq (slot_eq (I_eq (iadd_one (i := k) (by omega)))) rfl)), rfl, rfl, rfl⟩
      rw [List.take_add_one, hc]
      simp [hno, Ne.symm h0]
  · have q : ilt (k : Int) (s.length : Int) = false := by rw [ilt_f]; omega
    have hke : k = s.length := by omega
    subst hke
    rw [List.take_length] at hno
    rw [decide_eq_false hno]
    repeat' ((first | refine vb_t rfl ?_ | refine vb_f rfl ?_ | refine vb_t (by assumption) ?_ | refine vb_f (by assumption) ?_ | refine vor_l ?_ | fail) <;> conv => whnf)
    exact ⟨rfl, rfl⟩
theorem rname_ok (s : List UInt8) (hs : s.length ≤ 1000000) : Pur F0 130 [S s] [] .no (.ret (B (nameB s))) .no := by
  have hn := rnought4_ok s hs
  refine pur_code code130_ok ?_
  conv => whnf
  repeat' ((first | refine vb_t rfl ?_ | refine vb_f rfl ?_ | refine vb_t (by assumption) ?_ | refine vb_f (by assumption) ?_ | refine vpur_i hn ?_ | refine vor_l ?_ | refine vb_i (fun h => ?_) (fun h => ?_) | fail) <;> conv => whnf)
  all_goals (refine ⟨retB ?_, rfl⟩; simp_all [nameB, seq_t, seq_f, ile_t, ile_f])
  all_goals omega
theorem rcustom_ok (s : List UInt8) (hs : s.length ≤ 1000000) : Pur F0 90 [S s] [] .no (.ret (B (customB s))) .no := by
  have hn := rname_ok s hs
  refine pur_code code90_ok ?_
  conv => whnf
  repeat' ((first | refine vb_t rfl ?_ | refine vb_f rfl ?_ | refine vb_t (by assumption) ?_ | refine vb_f (by assumption) ?_ | refine vor_l ?_ | fail) <;> conv => whnf)
  refine vloop_eq2 (fr' := [(0, S s), (2, B false), (3, .osl 0 0 0 7), (4, I 0)]) (h' := [⟨.mine, 9, .arr false 0 1 (customW.map wsRow)⟩]) rfl rfl ?_
  refine vloop_cnt (α := Unit) 7 (fun k _ => anyW s (customW.take k) = false) (fun k _ => [(4, I (k : Int))]) () rfl rfl ?_
  intro k _ hk hI
  conv => whnf
  by_cases hlt : k < 7
  · obtain ⟨w, hw⟩ : ∃ w, customW[k]? = some w := get_in (by simpa [customW] using hlt)
    have hm := get_map (f := wsRow) hw
    have hg : iget (((customW.map wsRow).take 7).drop 0) (k : Int) = some (wsRow w) := iget_sl (by rw [Nat.zero_add]; exact hm) (by omega)
    have hm2 : (customW.map wsRow)[0 + (k : Int).toNat]? = some (wsRow w) := by rw [Nat.zero_add, Int.toNat_natCast]; exact hm
    have hwl : w.length ≤ 1000000 := by
      have : ∀ w ∈ customW, w.length ≤ 10 := by decide
      have := this w (List.mem_of_getElem? hw)
      omega
    by_cases hq : lower s = lower w
    · have q2 : seq (lower s) (lower w) = true := by rw [seq_t]; exact hq
      have hA : customB s = false := by
        have : anyW s customW = true := by unfold anyW; rw [List.any_eq_true]; exact ⟨w, List.mem_of_getElem? hw, by simpa using hq⟩
        unfold customB; rw [this]; rfl
      rw [hA]
      repeat' ((first | refine vb_t rfl ?_ | refine vb_f rfl ?_ | refine vb_t (by assumption) ?_ | refine vb_f (by assumption) ?_ | refine vb_t (by (first | omega | (simp only [ilt_t, ilt_f, ile_t, ile_f, ieq_t, ieq_f, ofn, List.length_map, Bool.not_eq_true', Bool.not_eq_false'] at *; omega))) ?_ | refine vo_i hg ?_ | refine vo_i hm2 ?_ | refine vpur_i (ris_ok s w hs hwl) ?_ | refine vor_l ?_ | fail) <;> conv => whnf)
      exact ⟨rfl, rfl⟩
    · have q2 : seq (lower s) (lower w) = false := by rw [seq_f]; exact hq
      repeat' ((first | refine vb_t rfl ?_ | refine vb_f rfl ?_ | refine vb_t (by assumption) ?_ | refine vb_f (by assumption) ?_ | refine vb_t (by (first | omega | (simp only [ilt_t, ilt_f, ile_t, ile_f, ieq_t, ieq_f, ofn, List.length_map, Bool.not_eq_true', Bool.not_eq_false'] at *; omega))) ?_ | refine vo_i hg ?_ | refine vo_i hm2 ?_ | refine vpur_i (ris_ok s w hs hwl) ?_ | refine vor_l ?_ | fail) <;> conv => whnf)
      refine ⟨⟨(k + 1, ()), (by omega), ?_⟩, (by simp only; omega), (by repeat' (first | exact rfl | exact slot_eq (I_eq (iadd_one (by omega))) | (refine cons_eq ?_ ?_) | assumption)), rfl, rfl, rfl⟩
      simp only []
      unfold anyW at hI ⊢
      rw [List.take_add_one, hw, List.any_append, hI]
      simpa using hq
  · have hA : customB s = nameB s := by
      rw [List.take_of_length_le (by simp [customW]; omega)] at hI
      unfold customB; rw [hI]; rfl
    rw [hA]
    repeat' ((first | refine vb_t rfl ?_ | refine vb_f rfl ?_ | refine vb_t (by assumption) ?_ | refine vb_f (by assumption) ?_ | refine vb_f (by (first | omega | (simp only [ilt_t, ilt_f, ile_t, ile_f, ieq_t, ieq_f, ofn, List.length_map, Bool.not_eq_true', Bool.not_eq_false'] at *; omega))) ?_ | refine vpur_i hn ?_ | refine vor_l ?_ | fail) <;> conv => whnf)
    exact ⟨rfl, rfl⟩
end Go.Proofs.YtjeblkicgmmhiaaGreatDoor.Ab
namespace Go.Proofs.YtjeblkicgmmhiaaGreatDoor.Ab
open Go Go.ChangeShapes Go.WideShapes Go.RowKit
set_option linter.unusedSimpArgs false
set_option maxRecDepth 100000
set_option linter.unusedVariables false
end Go.Proofs.YtjeblkicgmmhiaaGreatDoor.Ab
namespace Go.Proofs.YtjeblkicgmmhiaaGreatDoor.Ab
open Go
set_option linter.unusedSimpArgs false
set_option maxRecDepth 100000
set_option linter.unusedVariables false
set_option maxHeartbeats 4000000
/-- Names from a place on, behind others: at most so many more. -/
def nmGo (l : List Tok) : Nat → List (List UInt8) → Int → List (List UInt8) × Int × Int
  | f, acc, p =>
    if sgS (wordS l p) [93] = true then (acc, iadd .i64 p 1, 0)
    else if (wordS l p).kind = 1 ∧ customB (wordS l p).text = true then
      match f with
      | 0 => ([], p, 52)
      | f + 1 => nmGo l f (acc ++ [(wordS l p).text]) (iadd .i64 p 1)
    else ([], p, 50)
theorem nmGo_sign {l : List Tok} {f : Nat} {acc : List (List UInt8)} {p : Int} (h : sgS (wordS l p) [93] = true) : nmGo l f acc p = (acc, iadd .i64 p 1, 0) := by
  unfold nmGo; rw [if_pos h]
theorem nmGo_bad {l : List Tok} {f : Nat} {acc : List (List UInt8)} {p : Int} (h : sgS (wordS l p) [93] = false) (h2 : ¬ ((wordS l p).kind = 1 ∧ customB (wordS l p).text = true)) : nmGo l f acc p = ([], p, 50) := by
  unfold nmGo; rw [if_neg (by rw [h]; decide), if_neg h2]
theorem nmGo_lim {l : List Tok} {acc : List (List UInt8)} {p : Int} (h : sgS (wordS l p) [93] = false) (h2 : (wordS l p).kind = 1 ∧ customB (wordS l p).text = true) : nmGo l 0 acc p = ([], p, 52) := by
  unfold nmGo; rw [if_neg (by rw [h]; decide), if_pos h2]
theorem nmGo_next {l : List Tok} {f : Nat} {acc : List (List UInt8)} {p : Int} (h : sgS (wordS l p) [93] = false) (h2 : (wordS l p).kind = 1 ∧ customB (wordS l p).text = true) : nmGo l (f + 1) acc p = nmGo l f (acc ++ [(wordS l p).text]) (iadd .i64 p 1) := by
  conv => lhs; unfold nmGo
  rw [if_neg (by rw [h]; decide), if_pos h2]
def nsV : Option (Nat × List (List UInt8)) → AV
  | none => .d .nilsl
  | some (g, o) => .osl 1 g 0 o.length
def nsH : Option (Nat × List (List UInt8)) → Heap
  | none => []
  | some (g, o) => [⟨.mine, 9, .arr true g 1 (o.map wsRow)⟩]
def nsL : Option (Nat × List (List UInt8)) → List (List UInt8)
  | none => []
  | some (_, o) => o
theorem count6_ok (v : DV) (i n a : Int) (h : n < 256) : Drp F0 1 45 [.ptr 0 0, I a] [rdrO v i n] .no (.ret (.tup [])) [rdrO v i (iadd .i64 n 1)] .no := by
  have q : ile (Int.ofNat 256) n = false := by rw [ile_f]; exact h
  refine drp_code code45_ok ?_
  conv => whnf
  repeat' ((first | refine vb_t rfl ?_ | refine vb_f rfl ?_ | refine vb_t (by assumption) ?_ | refine vb_f (by assumption) ?_ | refine vor_l ?_ | fail) <;> conv => whnf)
  exact ⟨rfl, rfl, rfl⟩
def nmRow (w : List (List DV)) : List DV := [.int .i64 1, .sl 1 w, .int .i64 0, .int .i64 0, .int .i64 0, .int .i64 0, .bool false, .int .i64 0, .int .i64 0, .int .i64 0, .nilsl]
def nmH (v : DV) (i n : Int) (g : Nat) (ns : List (List UInt8)) (w : List (List DV)) : Heap := [rdrO v i n, ⟨.frozen, 9, .arr true g 1 (ns.map wsRow)⟩, ⟨.mine, 69, .arr false 0 11 [nmRow w]⟩, ⟨.mine, 69, .arr true 0 11 [nmRow w]⟩]
theorem nm_key {v : DV} {i n : Int} {g : Nat} {ns : List (List UInt8)} {w w' : List (List DV)} (h : w = w') : (⟨.ret (.osl 3 0 0 1), nmH v i n g ns w, .no⟩ : CRes) = ⟨.ret (.osl 3 0 0 1), nmH v i n g ns w', .no⟩ := by rw [h]
/-- How the names are told: none; a list of one piece; or a fault. -/
def NmQ (l : List Tok) (n : Int) (r : List (List UInt8) × Int × Int) (q : CRes) : Prop :=
  (r.1 = [] ∧ r.2.2 = 0 ∧ q = ⟨.ret (.d .nilsl), [rdrO (tkV l) r.2.1 n], .no⟩) ∨
  (r.1 ≠ [] ∧ r.2.2 = 0 ∧ ∃ g : Nat, q = ⟨.ret (.osl 3 0 0 1), nmH (tkV l) r.2.1 (iadd .i64 n 1) g r.1 (r.1.map wsRow), .no⟩) ∨
  (r.2.2 ≠ 0 ∧ r.1 = [] ∧ ∃ x, q = ⟨.pan (fltA r.2.1 r.2.2), rdrO (tkV l) r.2.1 n :: nsH x, .no⟩)
theorem names6_ok (l : List Tok) (i n : Int) (hl : ∀ t ∈ l, tokOk t) (hlen : l.length ≤ 1000000) (hi : 0 ≤ i) (hn : n < 256) (h0 : sgS (wordS l i) [91] = true) (r : List (List UInt8) × Int × Int) (hr : nmGo l 16 [] (iadd .i64 i 1) = r) :
    ∃ q : CRes, CallsTo F0 41 [.ptr 0 0, .d .nilsl] [rdrO (tkV l) i n] .no q ∧ NmQ l n r q := by
  have hs := rsign_t l i n [91] h0
  have hil : i < l.length := Decidable.byContradiction fun h => by
    rw [wordS_ge (by omega)] at h0
    exact absurd h0 (by decide)
  have hia : iadd .i64 i 1 = i + 1 := iadd64 (by omega) (by omega)
  · obtain ⟨ns, nx, e⟩ := r
    refine calls_some (Q := NmQ l n (ns, nx, e)) code41_ok ?_
    conv => whnf
    repeat' ((first | refine vb_t rfl ?_ | refine vb_f rfl ?_ | refine vb_t (by assumption) ?_ | refine vb_f (by assumption) ?_ | refine vdrp_i hs ?_ | refine vor_l ?_ | fail) <;> conv => whnf)
    refine vloop_cnh (α := Option (Nat × List (List UInt8)) × Int) 17 (fun k x => (nsL x.1).length = k ∧ k ≤ 16 ∧ 0 ≤ x.2 ∧ x.2 ≤ l.length ∧ nmGo l (16 - k) (nsL x.1) x.2 = (ns, nx, e) ∧ (x.1.isSome = true → nsL x.1 ≠ [])) (fun k x => [(6, nsV x.1)]) (fun k x => rdrO (tkV l) x.2 n :: nsH x.1) (none, iadd .i64 i 1) ⟨rfl, by omega, by simp only [hia]; omega, by simp only [hia]; omega, hr, fun h => by cases h⟩ rfl rfl ?_
    rintro k ⟨x, p⟩ hk ⟨hxl, hk16, hp0, hp1, hR, hne⟩
    simp only at hxl hp0 hp1 hR hne
    have hsg := vsign_ok l (tkV l) (.inr rfl) p [93] _ rfl
    rw [show decide ((wordS l p).kind = 7 ∧ (wordS l p).text = [93]) = sgS (wordS l p) [93] from rfl] at hsg
    have hpa : iadd .i64 p 1 = p + 1 := iadd64 (by omega) (by omega)
    by_cases hS : sgS (wordS l p) [93] = true
    · rw [nmGo_sign hS] at hR
      simp only [Prod.mk.injEq] at hR
      obtain ⟨rfl, rfl, rfl⟩ := hR
      rw [hS] at hsg
      have hx : (!true) = false := rfl
      rcases x with _ | ⟨g, o⟩
      · conv => whnf
        have hz : ieq (0 : Int) (Int.ofNat 0) = true := by rw [ieq_t]; rfl
        repeat' ((first | refine vb_t rfl ?_ | refine vb_f rfl ?_ | refine vb_t (by assumption) ?_ | refine vb_f (by assumption) ?_ | refine vpur_i hsg ?_ | refine vor_l ?_ | fail) <;> conv => whnf)
        exact .inl ⟨rfl, rfl, rfl⟩
      · have ho : o ≠ [] := hne rfl
        rcases o with _ | ⟨c, t⟩
        · exact (ho rfl).elim
        have hz : ieq ((c :: t).length : Int) (Int.ofNat 0) = false := by rw [ieq_f, lit0, List.length_cons]; omega
        have hgg : Nat.beq g g = true := by simp
        conv => whnf
        repeat' ((first | refine vb_t rfl ?_ | refine vb_f rfl ?_ | refine vb_t (by assumption) ?_ | refine vb_f (by assumption) ?_ | refine vpur_i hsg ?_ | refine vdrp_i (count6_ok _ _ _ _ hn) ?_ | refine vb_t (room_t (by simp <;> omega)) ?_ | refine vor_l ?_ | fail) <;> conv => whnf)
        have e : List.drop 0 (List.take (c :: t).length ((c :: t).map wsRow)) = (c :: t).map wsRow := by rw [List.drop_zero, List.take_of_length_le (by simp)]
        exact .inr (.inl ⟨by simp [nsL], rfl, g, nm_key e⟩)
    · have hS := bf hS
      rw [hS] at hsg
      have hx : (!false) = true := rfl
      by_cases hp : p < l.length
      · have q1 : ile ((l.map tokRow).length : Int) p = false := by rw [ile_f, List.length_map]; exact hp
        have hg := wordS_in (l := l) (i := p) hp0 hp
        obtain ⟨ht1, ht2⟩ := wordS_ok hl p
        have hcu := custom_ok (wordS l p).text (by omega)
        generalize hw : wordS l p = tk at *
        by_cases h1 : tk.kind = 1
        · have q2 : (!ieq tk.kind (Int.ofNat 1)) = false := by rw [Bool.not_eq_false', ieq_t]; exact h1
          by_cases hc : customB tk.text = true
          · rw [hc] at hcu
            have hxx : (!true) = false := rfl
            by_cases h16 : k = 16
            · subst h16
              rw [nmGo_lim (by rw [hw]; exact hS) (by rw [hw]; exact ⟨h1, hc⟩)] at hR
              simp only [Prod.mk.injEq] at hR
              obtain ⟨rfl, rfl, rfl⟩ := hR
              rcases x with _ | ⟨g, o⟩
              · cases hxl
              · have hz : ile (Int.ofNat 16) (o.length : Int) = true := by rw [ile_t, show o.length = 16 from hxl]; decide
                conv => whnf
                repeat' ((first | refine vb_t rfl ?_ | refine vb_f rfl ?_ | refine vb_t (by assumption) ?_ | refine vb_f (by assumption) ?_ | refine vpur_i hsg ?_ | refine vo_i hg ?_ | refine vpur_i hcu ?_ | refine vdrp_i (fail_ok _ _ _ _ _) ?_ | refine vor_l ?_ | fail) <;> conv => whnf)
                first | exact .inr (.inr ⟨by simp, rfl, none, rfl⟩) | exact .inr (.inr ⟨by simp, rfl, some (_, _), rfl⟩)
            · rw [show 16 - k = (16 - (k + 1)) + 1 by omega, nmGo_next (by rw [hw]; exact hS) (by rw [hw]; exact ⟨h1, hc⟩), hw] at hR
              rcases x with _ | ⟨g, o⟩
              · obtain rfl : k = 0 := hxl.symm
                have hz : ile (Int.ofNat 16) (0 : Int) = false := by rw [ile_f]; decide
                conv => whnf
                repeat' ((first | refine vb_t rfl ?_ | refine vb_f rfl ?_ | refine vb_t (by assumption) ?_ | refine vb_f (by assumption) ?_ | refine vpur_i hsg ?_ | refine vo_i hg ?_ | refine vpur_i hcu ?_ | refine vb_t (room_t (by simp <;> omega)) ?_ | refine vor_l ?_ | fail) <;> conv => whnf)
                exact ⟨⟨(1, (some (0, [tk.text]), iadd .i64 p 1)), (by omega), rfl, (by omega), (by simp only; omega), (by simp only; omega), hR, fun _ => by simp [nsL]⟩, (by simp only; omega), rfl, rfl, rfl, rfl⟩
              · have hok : o.length = k := hxl
                have hz : ile (Int.ofNat 16) (o.length : Int) = false := by rw [ile_f, ofn]; omega
                have hgg : Nat.beq g g = true := by simp
                have hq : ieq (o.length : Int) ((o.map wsRow).length : Int) = true := by rw [ieq_t]; simp
                conv => whnf
                repeat' ((first | refine vb_t rfl ?_ | refine vb_f rfl ?_ | refine vb_t (by assumption) ?_ | refine vb_f (by assumption) ?_ | refine vpur_i hsg ?_ | refine vo_i hg ?_ | refine vpur_i hcu ?_ | refine vb_t (room_t (by simp <;> omega)) ?_ | refine vor_l ?_ | fail) <;> conv => whnf)
                refine ⟨⟨(k + 1, (some (g + 1, o ++ [tk.text]), iadd .i64 p 1)), (by omega), (by simp [nsL, hok]), (by omega), (by simp only; omega), (by simp only; omega), hR, fun _ => by simp [nsL]⟩, (by simp only; omega), ?_, ?_, rfl, rfl⟩
                · repeat' (first | exact rfl | exact slot_eq (osl_eq rfl (by simp)) | refine cons_eq ?_ ?_)
                · exact cons_eq rfl (cons_eq (arr_eq (by rw [List.map_append]; rfl)) rfl)
          · have hcu' := hcu
            rw [bf hc] at hcu'
            have hxx : (!false) = true := rfl
            rw [nmGo_bad (by rw [hw]; exact hS) (by rw [hw]; exact fun h => hc h.2)] at hR
            simp only [Prod.mk.injEq] at hR
            obtain ⟨rfl, rfl, rfl⟩ := hR
            rcases x with _ | ⟨g, o⟩
            · conv => whnf
              repeat' ((first | refine vb_t rfl ?_ | refine vb_f rfl ?_ | refine vb_t (by assumption) ?_ | refine vb_f (by assumption) ?_ | refine vpur_i hsg ?_ | refine vo_i hg ?_ | refine vpur_i hcu' ?_ | refine vdrp_i (fail_ok _ _ _ _ _) ?_ | refine vor_l ?_ | fail) <;> conv => whnf)
              first | exact .inr (.inr ⟨by simp, rfl, none, rfl⟩) | exact .inr (.inr ⟨by simp, rfl, some (_, _), rfl⟩)
            · conv => whnf
              repeat' ((first | refine vb_t rfl ?_ | refine vb_f rfl ?_ | refine vb_t (by assumption) ?_ | refine vb_f (by assumption) ?_ | refine vpur_i hsg ?_ | refine vo_i hg ?_ | refine vpur_i hcu' ?_ | refine vdrp_i (fail_ok _ _ _ _ _) ?_ | refine vor_l ?_ | fail) <;> conv => whnf)
              first | exact .inr (.inr ⟨by simp, rfl, none, rfl⟩) | exact .inr (.inr ⟨by simp, rfl, some (_, _), rfl⟩)
        · have q2 : (!ieq tk.kind (Int.ofNat 1)) = true := by rw [Bool.not_eq_true', ieq_f]; exact h1
          rw [nmGo_bad (by rw [hw]; exact hS) (by rw [hw]; exact fun h => h1 h.1)] at hR
          simp only [Prod.mk.injEq] at hR
          obtain ⟨rfl, rfl, rfl⟩ := hR
          rcases x with _ | ⟨g, o⟩
          · conv => whnf
            repeat' ((first | refine vb_t rfl ?_ | refine vb_f rfl ?_ | refine vb_t (by assumption) ?_ | refine vb_f (by assumption) ?_ | refine vpur_i hsg ?_ | refine vo_i hg ?_ | refine vdrp_i (fail_ok _ _ _ _ _) ?_ | refine vor_l ?_ | fail) <;> conv => whnf)
            first | exact .inr (.inr ⟨by simp, rfl, none, rfl⟩) | exact .inr (.inr ⟨by simp, rfl, some (_, _), rfl⟩)
          · conv => whnf
            repeat' ((first | refine vb_t rfl ?_ | refine vb_f rfl ?_ | refine vb_t (by assumption) ?_ | refine vb_f (by assumption) ?_ | refine vpur_i hsg ?_ | refine vo_i hg ?_ | refine vdrp_i (fail_ok _ _ _ _ _) ?_ | refine vor_l ?_ | fail) <;> conv => whnf)
            first | exact .inr (.inr ⟨by simp, rfl, none, rfl⟩) | exact .inr (.inr ⟨by simp, rfl, some (_, _), rfl⟩)
      · have q1 : ile ((l.map tokRow).length : Int) p = true := by rw [ile_t, List.length_map]; omega
        rw [nmGo_bad hS (by rw [wordS_ge (by omega)]; intro h; exact absurd h.1 (by decide))] at hR
        simp only [Prod.mk.injEq] at hR
        obtain ⟨rfl, rfl, rfl⟩ := hR
        rcases x with _ | ⟨g, o⟩
        · conv => whnf
          repeat' ((first | refine vb_t rfl ?_ | refine vb_f rfl ?_ | refine vb_t (by assumption) ?_ | refine vb_f (by assumption) ?_ | refine vpur_i hsg ?_ | refine vdrp_i (fail_ok _ _ _ _ _) ?_ | refine vor_l ?_ | fail) <;> conv => whnf)
          first | exact .inr (.inr ⟨by simp, rfl, none, rfl⟩) | exact .inr (.inr ⟨by simp, rfl, some (_, _), rfl⟩)
        · conv => whnf
          repeat' ((first | refine vb_t rfl ?_ | refine vb_f rfl ?_ | refine vb_t (by assumption) ?_ | refine vb_f (by assumption) ?_ | refine vpur_i hsg ?_ | refine vdrp_i (fail_ok _ _ _ _ _) ?_ | refine vor_l ?_ | fail) <;> conv => whnf)
          first | exact .inr (.inr ⟨by simp, rfl, none, rfl⟩) | exact .inr (.inr ⟨by simp, rfl, some (_, _), rfl⟩)
def nmW (ns : List (List UInt8)) : DV := match ns with
  | [] => .nilsl
  | ns => .sl 1 (ns.map wsRow)
def nsV0 : Option (Nat × List (List UInt8)) → AV
  | none => .d .nilsl
  | some (g, o) => .osl 0 g 0 o.length
theorem bracket_ok (l : List Tok) (i : Int) (hl : ∀ t ∈ l, tokOk t) (hlen : l.length ≤ 1000000) (hi : 0 ≤ i) (h0 : i < l.length) :
    Pur F0 42 [.d (tkV l), I i] [] .no (.ret (.tup [.d (nmW (nmGo l 16 [] (iadd .i64 i 1)).1), I (nmGo l 16 [] (iadd .i64 i 1)).2.1, I (nmGo l 16 [] (iadd .i64 i 1)).2.2])) .no := by
  have hia : iadd .i64 i 1 = i + 1 := iadd64 (by omega) (by omega)
  rcases hr : nmGo l 16 [] (iadd .i64 i 1) with ⟨ns, nx, e⟩
  simp only
  refine pur_code code42_ok ?_
  conv => whnf
  repeat' ((first | refine vb_t rfl ?_ | refine vb_f rfl ?_ | refine vb_t (by assumption) ?_ | refine vb_f (by assumption) ?_ | refine vor_l ?_ | fail) <;> conv => whnf)
  refine vloop_cnh (α := Option (Nat × List (List UInt8)) × Int) 17 (fun k x => (nsL x.1).length = k ∧ k ≤ 16 ∧ 0 ≤ x.2 ∧ x.2 ≤ l.length ∧ nmGo l (16 - k) (nsL x.1) x.2 = (ns, nx, e) ∧ (x.1.isSome = true → nsL x.1 ≠ [])) (fun k x => [(7, nsV0 x.1), (8, I x.2)]) (fun k x => nsH x.1) (none, iadd .i64 i 1) ⟨rfl, by omega, by simp only [hia]; omega, by simp only [hia]; omega, hr, fun h => by cases h⟩ rfl rfl ?_
  rintro k ⟨x, p⟩ hk ⟨hxl, hk16, hp0, hp1, hR, hne⟩
  simp only at hxl hp0 hp1 hR hne
  have hsg := rsg_ok l (tkV l) (.inr rfl) p [93]
  have hpa : iadd .i64 p 1 = p + 1 := iadd64 (by omega) (by omega)
  have hwd := rword_ok l (tkV l) (.inr rfl) p
  by_cases hS : sgS (wordS l p) [93] = true
  · rw [nmGo_sign hS] at hR
    simp only [Prod.mk.injEq] at hR
    obtain ⟨rfl, rfl, rfl⟩ := hR
    rw [hS] at hsg
    have hx : (!true) = false := rfl
    rcases x with _ | ⟨g, o⟩
    · conv => whnf
      repeat' ((first | refine vb_t rfl ?_ | refine vb_f rfl ?_ | refine vb_t (by assumption) ?_ | refine vb_f (by assumption) ?_ | refine vpur_i hsg ?_ | refine vor_l ?_ | fail) <;> conv => whnf)
      exact ⟨rfl, rfl⟩
    · rcases o with _ | ⟨c, t⟩
      · exact (hne rfl rfl).elim
      have hgg : Nat.beq g g = true := by simp
      conv => whnf
      repeat' ((first | refine vb_t rfl ?_ | refine vb_f rfl ?_ | refine vb_t (by assumption) ?_ | refine vb_f (by assumption) ?_ | refine vpur_i hsg ?_ | refine vor_l ?_ | fail) <;> conv => whnf)
      refine ⟨?_, rfl⟩
      show CR.ret (AV.tup [.d (.sl 1 ((((c :: t).map wsRow).take (c :: t).length).drop 0)), I (iadd .i64 p 1), I 0]) = _
      rw [List.drop_zero, List.take_of_length_le (by simp)]
      rfl
  · have hS := bf hS
    rw [hS] at hsg
    have hx : (!false) = true := rfl
    have hpl : (wordS l p).kind = 1 → p < l.length := fun h => Decidable.byContradiction fun hn => by
      rw [wordS_ge (by omega)] at h
      exact absurd h (by decide)
    obtain ⟨ht1, ht2⟩ := wordS_ok hl p
    have hcu := rcustom_ok (wordS l p).text (by omega)
    generalize hw : wordS l p = tk at *
    by_cases h1 : tk.kind = 1
    · have q2 : (!ieq tk.kind (Int.ofNat 1)) = false := by rw [Bool.not_eq_false', ieq_t]; exact h1
      have hp := hpl h1
      by_cases hc : customB tk.text = true
      · rw [hc] at hcu
        have hxx : (!true) = false := rfl
        by_cases h16 : k = 16
        · subst h16
          rw [nmGo_lim (by rw [hw]; exact hS) (by rw [hw]; exact ⟨h1, hc⟩)] at hR
          simp only [Prod.mk.injEq] at hR
          obtain ⟨rfl, rfl, rfl⟩ := hR
          rcases x with _ | ⟨g, o⟩
          · cases hxl
          · have hz : ile (Int.ofNat 16) (o.length : Int) = true := by rw [ile_t, show o.length = 16 from hxl]; decide
            conv => whnf
            repeat' ((first | refine vb_t rfl ?_ | refine vb_f rfl ?_ | refine vb_t (by assumption) ?_ | refine vb_f (by assumption) ?_ | refine vpur_i hsg ?_ | refine vpur_i hwd ?_ | refine vpur_i hcu ?_ | refine vor_l ?_ | fail) <;> conv => whnf)
            exact ⟨rfl, rfl⟩
        · rw [show 16 - k = (16 - (k + 1)) + 1 by omega, nmGo_next (by rw [hw]; exact hS) (by rw [hw]; exact ⟨h1, hc⟩), hw] at hR
          rcases x with _ | ⟨g, o⟩
          · obtain rfl : k = 0 := hxl.symm
            have hz : ile (Int.ofNat 16) (0 : Int) = false := by rw [ile_f]; decide
            conv => whnf
            repeat' ((first | refine vb_t rfl ?_ | refine vb_f rfl ?_ | refine vb_t (by assumption) ?_ | refine vb_f (by assumption) ?_ | refine vpur_i hsg ?_ | refine vpur_i hwd ?_ | refine vpur_i hcu ?_ | refine vb_t (room_t (by simp <;> omega)) ?_ | refine vor_l ?_ | fail) <;> conv => whnf)
            exact ⟨⟨(1, (some (0, [tk.text]), iadd .i64 p 1)), (by omega), rfl, (by omega), (by simp only; omega), (by simp only; omega), hR, fun _ => by simp [nsL]⟩, (by simp only; omega), rfl, rfl, rfl, rfl⟩
          · have hok : o.length = k := hxl
            have hz : ile (Int.ofNat 16) (o.length : Int) = false := by rw [ile_f, ofn]; omega
            have hgg : Nat.beq g g = true := by simp
            have hq : ieq (o.length : Int) ((o.map wsRow).length : Int) = true := by rw [ieq_t]; simp
            conv => whnf
            repeat' ((first | refine vb_t rfl ?_ | refine vb_f rfl ?_ | refine vb_t (by assumption) ?_ | refine vb_f (by assumption) ?_ | refine vpur_i hsg ?_ | refine vpur_i hwd ?_ | refine vpur_i hcu ?_ | refine vb_t (room_t (by simp <;> omega)) ?_ | refine vor_l ?_ | fail) <;> conv => whnf)
            refine ⟨⟨(k + 1, (some (g + 1, o ++ [tk.text]), iadd .i64 p 1)), (by omega), (by simp [nsL, hok]), (by omega), (by simp only; omega), (by simp only; omega), hR, fun _ => by simp [nsL]⟩, (by simp only; omega), ?_, ?_, rfl, rfl⟩
            · repeat' (first | exact rfl | exact slot_eq (osl_eq rfl (by simp)) | refine cons_eq ?_ ?_)
            · exact cons_eq (arr_eq (by rw [List.map_append]; rfl)) rfl
      · have hcu' := hcu
        rw [bf hc] at hcu'
        have hxx : (!false) = true := rfl
        rw [nmGo_bad (by rw [hw]; exact hS) (by rw [hw]; exact fun h => hc h.2)] at hR
        simp only [Prod.mk.injEq] at hR
        obtain ⟨rfl, rfl, rfl⟩ := hR
        rcases x with _ | ⟨g, o⟩
        · conv => whnf
          repeat' ((first | refine vb_t rfl ?_ | refine vb_f rfl ?_ | refine vb_t (by assumption) ?_ | refine vb_f (by assumption) ?_ | refine vpur_i hsg ?_ | refine vpur_i hwd ?_ | refine vpur_i hcu' ?_ | refine vor_l ?_ | fail) <;> conv => whnf)
          exact ⟨rfl, rfl⟩
        · conv => whnf
          repeat' ((first | refine vb_t rfl ?_ | refine vb_f rfl ?_ | refine vb_t (by assumption) ?_ | refine vb_f (by assumption) ?_ | refine vpur_i hsg ?_ | refine vpur_i hwd ?_ | refine vpur_i hcu' ?_ | refine vor_l ?_ | fail) <;> conv => whnf)
          exact ⟨rfl, rfl⟩
    · have q2 : (!ieq tk.kind (Int.ofNat 1)) = true := by rw [Bool.not_eq_true', ieq_f]; exact h1
      rw [nmGo_bad (by rw [hw]; exact hS) (by rw [hw]; exact fun h => h1 h.1)] at hR
      simp only [Prod.mk.injEq] at hR
      obtain ⟨rfl, rfl, rfl⟩ := hR
      rcases x with _ | ⟨g, o⟩
      · conv => whnf
        repeat' ((first | refine vb_t rfl ?_ | refine vb_f rfl ?_ | refine vb_t (by assumption) ?_ | refine vb_f (by assumption) ?_ | refine vpur_i hsg ?_ | refine vpur_i hwd ?_ | refine vor_l ?_ | fail) <;> conv => whnf)
        exact ⟨rfl, rfl⟩
      · conv => whnf
        repeat' ((first | refine vb_t rfl ?_ | refine vb_f rfl ?_ | refine vb_t (by assumption) ?_ | refine vb_f (by assumption) ?_ | refine vpur_i hsg ?_ | refine vpur_i hwd ?_ | refine vor_l ?_ | fail) <;> conv => whnf)
        exact ⟨rfl, rfl⟩
end Go.Proofs.YtjeblkicgmmhiaaGreatDoor.Ab
namespace Go.Proofs.YtjeblkicgmmhiaaGreatDoor.Ab
open Go
set_option linter.unusedSimpArgs false
set_option maxRecDepth 100000
set_option linter.unusedVariables false
set_option maxHeartbeats 4000000
def nm6 (l : List Tok) (i : Int) : List (List UInt8) × Int × Int := if sgS (wordS l i) [91] = true then nmGo l 16 [] (iadd .i64 i 1) else ([], i, 50)
def nm6A (r : List (List UInt8) × Int × Int) : AV := .tup [.d (nmW r.1), I r.2.1, I r.2.2]
theorem sgS_in {l : List Tok} {i : Int} {x : List UInt8} (h : sgS (wordS l i) x = true) : 0 ≤ i ∧ i < l.length := by
  have h7 : (wordS l i).kind = 7 := by unfold sgS at h; exact (of_decide_eq_true h).1
  constructor
  · refine Decidable.byContradiction fun h0 => ?_
    rw [wordS_lt (by omega)] at h7
    exact absurd h7 (by decide)
  · refine Decidable.byContradiction fun h0 => ?_
    rw [wordS_ge (by omega)] at h7
    exact absurd h7 (by decide)
theorem rnames_ok (l : List Tok) (i : Int) (hl : ∀ t ∈ l, tokOk t) (hlen : l.length ≤ 1000000) : Pur F0 14 [.d (tkV l), I i] [] .no (.ret (nm6A (nm6 l i))) .no := by
  have hs := rsg_ok l (tkV l) (.inr rfl) i [91]
  have hx : (!true) = false := rfl
  have hy : (!false) = true := rfl
  unfold nm6
  by_cases h : sgS (wordS l i) [91] = true
  · rw [if_pos h]
    rw [h] at hs
    have hb := bracket_ok l i hl hlen (sgS_in h).1 (sgS_in h).2
    generalize nmGo l 16 [] (iadd .i64 i 1) = r at *
    obtain ⟨ns, nx, e⟩ := r
    refine pur_code code14_ok ?_
    conv => whnf
    repeat' ((first | refine vb_t rfl ?_ | refine vb_f rfl ?_ | refine vb_t (by assumption) ?_ | refine vb_f (by assumption) ?_ | refine vpur_i hs ?_ | refine vpur_i hb ?_ | refine vor_l ?_ | fail) <;> conv => whnf)
    exact ⟨rfl, rfl⟩
  · rw [if_neg h]
    rw [bf h] at hs
    refine pur_code code14_ok ?_
    conv => whnf
    repeat' ((first | refine vb_t rfl ?_ | refine vb_f rfl ?_ | refine vb_t (by assumption) ?_ | refine vb_f (by assumption) ?_ | refine vpur_i hs ?_ | refine vor_l ?_ | fail) <;> conv => whnf)
    exact ⟨rfl, rfl⟩
def lsO (v : DV) : Obj := ⟨.mine, 34, .fix [.d v]⟩
theorem clrN_ok (v : DV) : Drp F0 1 40 [.ptr 0 0] [lsO v] .no (.ret (.tup [])) [lsO .nilsl] .no := by
  refine drp_code code40_ok ?_
  conv => whnf
  repeat' ((first | refine vb_t rfl ?_ | refine vb_f rfl ?_ | refine vb_t (by assumption) ?_ | refine vb_f (by assumption) ?_ | refine vor_l ?_ | fail) <;> conv => whnf)
  exact ⟨rfl, rfl, rfl⟩
theorem caughtN_no (a b : Int) (v : DV) : Drp F0 3 33 [.ptr 0 0, .ptr 1 0, .fn .drop 40 [] [.ptr 2 0]] [inO a, erO b, lsO v] .calm (.ret (.tup [])) [inO a, erO b, lsO v] .calm := by
  refine drp_code code33_ok ?_
  conv => whnf
  repeat' ((first | refine vb_t rfl ?_ | refine vb_f rfl ?_ | refine vb_t (by assumption) ?_ | refine vb_f (by assumption) ?_ | refine vor_l ?_ | fail) <;> conv => whnf)
  exact ⟨rfl, rfl, rfl⟩
theorem caughtN_ft (x y a b : Int) (v : DV) : Drp F0 3 33 [.ptr 0 0, .ptr 1 0, .fn .drop 40 [] [.ptr 2 0]] [inO a, erO b, lsO v] (.live (fltA x y)) (.ret (.tup [])) [inO x, erO y, lsO .nilsl] .took := by
  have hc := clrN_ok v
  refine drp_code code33_ok ?_
  conv => whnf
  repeat' ((first | refine vb_t rfl ?_ | refine vb_f rfl ?_ | refine vb_t (by assumption) ?_ | refine vb_f (by assumption) ?_ | refine vdrp_i hc ?_ | refine vor_l ?_ | fail) <;> conv => whnf)
  exact ⟨rfl, rfl, rfl⟩
theorem tnames_ok (l : List Tok) (i : Int) (hl : ∀ t ∈ l, tokOk t) (hlen : l.length ≤ 1000000) : Pur F0 13 [.d (tkV l), I i] [] .no (.ret (nm6A (nm6 l i))) .no := by
  unfold nm6
  by_cases h : sgS (wordS l i) [91] = true
  · rw [if_pos h]
    obtain ⟨q, hc, hq⟩ := names6_ok l i 0 hl hlen (sgS_in h).1 (by decide) h _ rfl
    generalize nmGo l 16 [] (iadd .i64 i 1) = r at *
    obtain ⟨ns, nx, e⟩ := r
    rcases hq with ⟨rfl, rfl, rfl⟩ | ⟨hn, rfl, g, rfl⟩ | ⟨he, rfl, x, rfl⟩
    · have hC := caughtN_no nx 0 .nilsl
      refine pur_code code13_ok ?_
      conv => whnf
      repeat' ((first | refine vb_t rfl ?_ | refine vb_f rfl ?_ | refine vb_t (by assumption) ?_ | refine vb_f (by assumption) ?_ | refine vcall_i hc ?_ | refine vor_l ?_ | fail) <;> conv => whnf)
      refine vloop_once ?_
      conv => whnf
      repeat' ((first | refine vb_t rfl ?_ | refine vb_f rfl ?_ | refine vb_t (by assumption) ?_ | refine vb_f (by assumption) ?_ | refine vb_f (by (first | omega | (simp only [ilt_t, ilt_f, ile_t, ile_f, ieq_t, ieq_f, ofn, List.length_map, Bool.not_eq_true', Bool.not_eq_false'] at *; omega))) ?_ | refine vdrp_i hC ?_ | refine vor_l ?_ | fail) <;> conv => whnf)
      exact ⟨rfl, rfl⟩
    · have hC := caughtN_no nx 0 (.sl 1 (ns.map wsRow))
      refine pur_code code13_ok ?_
      conv => whnf
      repeat' ((first | refine vb_t rfl ?_ | refine vb_f rfl ?_ | refine vb_t (by assumption) ?_ | refine vb_f (by assumption) ?_ | refine vcall_i hc ?_ | refine vor_l ?_ | fail) <;> conv => whnf)
      refine vloop_once ?_
      conv => whnf
      have i0 : iadd .i64 (Int.ofNat 0) (Int.ofNat 1) = 1 := by rw [iadd64 (by decide) (by decide)]; rfl
      have g1 : iget (List.drop 0 (List.take 1 [nmRow (ns.map wsRow)])) (Int.ofNat 0) = some (nmRow (ns.map wsRow)) := iget_t rfl
      have g2 : ([nmRow (ns.map wsRow)] : List (List DV))[0 + (Int.ofNat 0).toNat]? = some (nmRow (ns.map wsRow)) := rfl
      repeat' ((first | refine vb_t rfl ?_ | refine vb_f rfl ?_ | refine vb_t (by assumption) ?_ | refine vb_f (by assumption) ?_ | refine vb_t (by (first | omega | (simp only [ilt_t, ilt_f, ile_t, ile_f, ieq_t, ieq_f, ofn, List.length_map, Bool.not_eq_true', Bool.not_eq_false'] at *; omega))) ?_ | refine vo_i g1 ?_ | refine vo_i g2 ?_ | refine vor_l ?_ | fail) <;> conv => whnf)
      refine vloop_once ?_
      conv => whnf
      repeat' ((first | refine vb_t rfl ?_ | refine vb_f rfl ?_ | refine vb_t (by assumption) ?_ | refine vb_f (by assumption) ?_ | refine vb_f (by rw [i0]; (first | omega | (simp only [ilt_t, ilt_f, ile_t, ile_f, ieq_t, ieq_f, ofn, List.length_map, Bool.not_eq_true', Bool.not_eq_false'] at *; omega))) ?_ | refine vdrp_i hC ?_ | refine vor_l ?_ | fail) <;> conv => whnf)
      rcases ns with _ | ⟨a, ns⟩
      · exact (hn rfl).elim
      · exact ⟨rfl, rfl⟩
    · have hC := caughtN_ft nx e 0 0 .nilsl
      rcases x with _ | ⟨g, o⟩
      · refine pur_code code13_ok ?_
        conv => whnf
        repeat' ((first | refine vb_t rfl ?_ | refine vb_f rfl ?_ | refine vb_t (by assumption) ?_ | refine vb_f (by assumption) ?_ | refine vcall_i hc ?_ | refine vdrp_i hC ?_ | refine vor_l ?_ | fail) <;> conv => whnf)
        exact ⟨rfl, rfl⟩
      · refine pur_code code13_ok ?_
        conv => whnf
        repeat' ((first | refine vb_t rfl ?_ | refine vb_f rfl ?_ | refine vb_t (by assumption) ?_ | refine vb_f (by assumption) ?_ | refine vcall_i hc ?_ | refine vdrp_i hC ?_ | refine vor_l ?_ | fail) <;> conv => whnf)
        exact ⟨rfl, rfl⟩
  · rw [if_neg h]
    have hC := caughtN_ft i 50 0 0 .nilsl
    have hc : CallsTo F0 41 [.ptr 0 0, .d .nilsl] [rdrO (tkV l) i 0] .no ⟨.pan (fltA i 50), [rdrO (tkV l) i 0], .no⟩ := by
      have hs := rsign_f l i 0 [91] h
      refine calls_code code41_ok ?_
      conv => whnf
      repeat' ((first | refine vb_t rfl ?_ | refine vb_f rfl ?_ | refine vb_t (by assumption) ?_ | refine vb_f (by assumption) ?_ | refine vdrp_i hs ?_ | refine vor_l ?_ | fail) <;> conv => whnf)
      exact rfl
    refine pur_code code13_ok ?_
    conv => whnf
    repeat' ((first | refine vb_t rfl ?_ | refine vb_f rfl ?_ | refine vb_t (by assumption) ?_ | refine vb_f (by assumption) ?_ | refine vcall_i hc ?_ | refine vdrp_i hC ?_ | refine vor_l ?_ | fail) <;> conv => whnf)
    exact ⟨rfl, rfl⟩
end Go.Proofs.YtjeblkicgmmhiaaGreatDoor.Ab
namespace Go.Proofs.YtjeblkicgmmhiaaGreatDoor.Ab
open Go
set_option linter.unusedSimpArgs false
set_option maxRecDepth 100000
set_option linter.unusedVariables false
set_option maxHeartbeats 4000000
/-- Does a size begin here. -/
def beS (l : List Tok) (i : Int) : Bool := decide ((rd6 l 29 i).2.2.2 = 0) || (fnS (wordS l i) mmW || fnS (wordS l i) fitW)
theorem beS_ok (l : List Tok) (i n : Int) (hl : ∀ t ∈ l, tokOk t) : Drp F0 1 44 [.ptr 0 0] [rdrO (tkV l) i n] .no (.ret (B (beS l i))) [rdrO (tkV l) i n] .no := by
  have hr := read_ok l (tkV l) (.inr rfl) hl i 29
  have hf1 := function_ok l i n fitW hl (by decide)
  have hf2 := function_ok l i n mmW hl (by decide)
  unfold beS rd6
  generalize readS (wordS l i) i 29 = r at *
  obtain ⟨k, m, nx, e⟩ := r
  generalize fnS (wordS l i) mmW = a at *
  generalize fnS (wordS l i) fitW = b at *
  simp only
  by_cases he : e = 0
  · have q : ieq e (Int.ofNat 0) = true := by rw [ieq_t]; exact he
    rw [decide_eq_true he]
    refine drp_code code44_ok ?_
    conv => whnf
    repeat' ((first | refine vb_t rfl ?_ | refine vb_f rfl ?_ | refine vb_t (by assumption) ?_ | refine vb_f (by assumption) ?_ | refine vpur_i hr ?_ | refine vdrp_i hf1 ?_ | refine vdrp_i hf2 ?_ | refine vor_l ?_ | fail) <;> conv => whnf)
    exact ⟨rfl, rfl, rfl⟩
  · have q : ieq e (Int.ofNat 0) = false := by rw [ieq_f]; exact he
    rw [decide_eq_false he]
    cases a <;> cases b
    all_goals
      refine drp_code code44_ok ?_
      conv => whnf
      repeat' ((first | refine vb_t rfl ?_ | refine vb_f rfl ?_ | refine vb_t (by assumption) ?_ | refine vb_f (by assumption) ?_ | refine vpur_i hr ?_ | refine vdrp_i hf1 ?_ | refine vdrp_i hf2 ?_ | refine vor_l ?_ | fail) <;> conv => whnf)
      exact ⟨rfl, rfl, rfl⟩
theorem rbeS_ok (l : List Tok) (i : Int) (hl : ∀ t ∈ l, tokOk t) : Pur F0 46 [.d (tkV l), I i] [] .no (.ret (B (beS l i))) .no := by
  have hr := rread_ok l (tkV l) (.inr rfl) hl i 29
  have hf1 := rfun_ok l i fitW hl (by decide) (tkV l) (.inr rfl)
  have hf2 := rfun_ok l i mmW hl (by decide) (tkV l) (.inr rfl)
  unfold beS rd6
  generalize readS (wordS l i) i 29 = r at *
  obtain ⟨k, m, nx, e⟩ := r
  generalize fnS (wordS l i) mmW = a at *
  generalize fnS (wordS l i) fitW = b at *
  simp only
  by_cases he : e = 0
  · have q : ieq e (Int.ofNat 0) = true := by rw [ieq_t]; exact he
    rw [decide_eq_true he]
    refine pur_code code46_ok ?_
    conv => whnf
    repeat' ((first | refine vb_t rfl ?_ | refine vb_f rfl ?_ | refine vb_t (by assumption) ?_ | refine vb_f (by assumption) ?_ | refine vpur_i hr ?_ | refine vpur_i hf1 ?_ | refine vpur_i hf2 ?_ | refine vor_l ?_ | fail) <;> conv => whnf)
    exact ⟨rfl, rfl⟩
  · have q : ieq e (Int.ofNat 0) = false := by rw [ieq_f]; exact he
    rw [decide_eq_false he]
    cases a <;> cases b
    all_goals
      refine pur_code code46_ok ?_
      conv => whnf
      repeat' ((first | refine vb_t rfl ?_ | refine vb_f rfl ?_ | refine vb_t (by assumption) ?_ | refine vb_f (by assumption) ?_ | refine vpur_i hr ?_ | refine vpur_i hf1 ?_ | refine vpur_i hf2 ?_ | refine vor_l ?_ | fail) <;> conv => whnf)
      exact ⟨rfl, rfl⟩
/-- Sizes from a place on, behind others: at most so many more. -/
def ssGo (l : List Tok) : Nat → List Trk → Int → List Trk × Int × Int
  | f, acc, p =>
    if beS l p = true then
      match f with
      | 0 => ([], p, 52)
      | f + 1 => if (sz6 l p).2.2 = 0 then ssGo l f (acc ++ [(sz6 l p).1]) (sz6 l p).2.1 else ([], (sz6 l p).2.1, (sz6 l p).2.2)
    else (acc, p, 0)
def ss6 (l : List Tok) (i : Int) : List Trk × Int × Int :=
  if (sz6 l i).2.2 = 0 then ssGo l 255 [(sz6 l i).1] (sz6 l i).2.1 else ([], (sz6 l i).2.1, (sz6 l i).2.2)
def tsW (ts : List Trk) : DV := match ts with
  | [] => .nilsl
  | ts => .sl 7 (ts.map trkRow)
def ss6A (r : List Trk × Int × Int) : AV := .tup [.d (tsW r.1), I r.2.1, I r.2.2]
theorem ssGo_end {l : List Tok} {f : Nat} {acc : List Trk} {p : Int} (h : beS l p = false) : ssGo l f acc p = (acc, p, 0) := by
  unfold ssGo; rw [if_neg (by rw [h]; decide)]
theorem ssGo_lim {l : List Tok} {acc : List Trk} {p : Int} (h : beS l p = true) : ssGo l 0 acc p = ([], p, 52) := by
  unfold ssGo; rw [if_pos h]
theorem ssGo_err {l : List Tok} {f : Nat} {acc : List Trk} {p : Int} (h : beS l p = true) {t : Trk} {nx e : Int} (hz : sz6 l p = (t, nx, e)) (he : e ≠ 0) : ssGo l (f + 1) acc p = ([], nx, e) := by
  conv => lhs; unfold ssGo
  rw [if_pos h, hz]
  simp only
  rw [if_neg he]
theorem ssGo_next {l : List Tok} {f : Nat} {acc : List Trk} {p : Int} (h : beS l p = true) {t : Trk} {nx : Int} (hz : sz6 l p = (t, nx, 0)) : ssGo l (f + 1) acc p = ssGo l f (acc ++ [t]) nx := by
  conv => lhs; unfold ssGo
  rw [if_pos h, hz]
  rfl
theorem rsizes_ok (l : List Tok) (i : Int) (hl : ∀ t ∈ l, tokOk t) : Pur F0 17 [.d (tkV l), I i] [] .no (.ret (ss6A (ss6 l i))) .no := by
  have hz0 := rsize6_ok l (tkV l) (.inr rfl) i hl
  unfold ss6
  rcases hz : sz6 l i with ⟨⟨a1, a2, a3, a4, a5, a6, a7⟩, nx, e⟩
  rw [hz] at hz0
  simp only
  by_cases he : e = 0
  · rw [if_pos he]
    have z : (!ieq e (Int.ofNat 0)) = false := by rw [show ieq e (Int.ofNat 0) = true from by rw [ieq_t, he]; rfl]; rfl
    rcases hr : ssGo l 255 [⟨a1, a2, a3, a4, a5, a6, a7⟩] nx with ⟨ts, ny, ee⟩
    refine pur_code code17_ok ?_
    conv => whnf
    repeat' ((first | refine vb_t rfl ?_ | refine vb_f rfl ?_ | refine vb_t (by assumption) ?_ | refine vb_f (by assumption) ?_ | refine vpur_i hz0 ?_ | refine vor_l ?_ | fail) <;> conv => whnf)
    refine vloop_cnh (α := Nat × List Trk × Int) 256 (fun k x => x.2.1.length = k + 1 ∧ k ≤ 255 ∧ ssGo l (255 - k) x.2.1 x.2.2 = (ts, ny, ee)) (fun k x => [(8, I x.2.2), (10, .osl 0 x.1 0 x.2.1.length)]) (fun k x => [⟨.mine, 28, .arr false x.1 7 (x.2.1.map trkRow)⟩]) (0, [⟨a1, a2, a3, a4, a5, a6, a7⟩], nx) ⟨rfl, by omega, hr⟩ rfl rfl ?_
    clear hr hz0 hz z he
    rintro k ⟨g, acc, p⟩ hk ⟨hacc, hk2, hR⟩
    simp only at hacc hR
    have hb := rbeS_ok l p hl
    have hgg : Nat.beq g g = true := by simp
    by_cases hB : beS l p = true
    · rw [hB] at hb
      by_cases h255 : k = 255
      · subst h255
        rw [ssGo_lim hB] at hR
        simp only [Prod.mk.injEq] at hR
        obtain ⟨rfl, rfl, rfl⟩ := hR
        have q : ile (Int.ofNat 256) (acc.length : Int) = true := by rw [ile_t, hacc]; decide
        conv => whnf
        repeat' ((first | refine vb_t rfl ?_ | refine vb_f rfl ?_ | refine vb_t (by assumption) ?_ | refine vb_f (by assumption) ?_ | refine vpur_i hb ?_ | refine vor_l ?_ | fail) <;> conv => whnf)
        exact ⟨rfl, rfl⟩
      · have q : ile (Int.ofNat 256) (acc.length : Int) = false := by rw [ile_f, ofn]; omega
        have hz1 := rsize6_ok l (tkV l) (.inr rfl) p hl
        rcases hz : sz6 l p with ⟨⟨b1, b2, b3, b4, b5, b6, b7⟩, n2, e2⟩
        rw [hz] at hz1
        rw [show 255 - k = (255 - (k + 1)) + 1 by omega] at hR
        by_cases he2 : e2 = 0
        · have z2 : (!ieq e2 (Int.ofNat 0)) = false := by rw [show ieq e2 (Int.ofNat 0) = true from by rw [ieq_t, he2]; rfl]; rfl
          rw [he2] at hz
          rw [ssGo_next hB hz] at hR
          have hq : ieq (acc.length : Int) ((acc.map trkRow).length : Int) = true := by rw [ieq_t]; simp
          conv => whnf
          repeat' ((first | refine vb_t rfl ?_ | refine vb_f rfl ?_ | refine vb_t (by assumption) ?_ | refine vb_f (by assumption) ?_ | refine vpur_i hb ?_ | refine vpur_i hz1 ?_ | refine vb_t (room_t (by simp <;> omega)) ?_ | refine vor_l ?_ | fail) <;> conv => whnf)
          refine ⟨⟨(k + 1, (g + 1, acc ++ [⟨b1, b2, b3, b4, b5, b6, b7⟩], n2)), (by omega), (by simp [hacc]), (by omega), hR⟩, (by simp only; omega), ?_, ?_, rfl, rfl⟩
          · repeat' (first | exact rfl | exact slot_eq (osl_eq rfl (by simp)) | refine cons_eq ?_ ?_)
          · exact cons_eq (arr_eq (by rw [List.map_append]; rfl)) rfl
        · have z2 : (!ieq e2 (Int.ofNat 0)) = true := by rw [show ieq e2 (Int.ofNat 0) = false from by rw [ieq_f]; exact he2]; rfl
          rw [ssGo_err hB hz he2] at hR
          simp only [Prod.mk.injEq] at hR
          obtain ⟨rfl, rfl, rfl⟩ := hR
          conv => whnf
          repeat' ((first | refine vb_t rfl ?_ | refine vb_f rfl ?_ | refine vb_t (by assumption) ?_ | refine vb_f (by assumption) ?_ | refine vpur_i hb ?_ | refine vpur_i hz1 ?_ | refine vor_l ?_ | fail) <;> conv => whnf)
          exact ⟨rfl, rfl⟩
    · rw [bf hB] at hb
      rw [ssGo_end (bf hB)] at hR
      simp only [Prod.mk.injEq] at hR
      obtain ⟨rfl, rfl, rfl⟩ := hR
      conv => whnf
      repeat' ((first | refine vb_t rfl ?_ | refine vb_f rfl ?_ | refine vb_t (by assumption) ?_ | refine vb_f (by assumption) ?_ | refine vpur_i hb ?_ | refine vor_l ?_ | fail) <;> conv => whnf)
      refine ⟨?_, rfl⟩
      rcases acc with _ | ⟨a, t⟩
      · cases hacc
      · show CR.ret (AV.tup [.d (.sl 7 ((((a :: t).map trkRow).take (a :: t).length).drop 0)), I p, I 0]) = _
        rw [List.drop_zero, List.take_of_length_le (by simp)]
        rfl
  · rw [if_neg he]
    have z : (!ieq e (Int.ofNat 0)) = true := by rw [show ieq e (Int.ofNat 0) = false from by rw [ieq_f]; exact he]; rfl
    refine pur_code code17_ok ?_
    conv => whnf
    repeat' ((first | refine vb_t rfl ?_ | refine vb_f rfl ?_ | refine vb_t (by assumption) ?_ | refine vb_f (by assumption) ?_ | refine vpur_i hz0 ?_ | refine vor_l ?_ | fail) <;> conv => whnf)
    exact ⟨rfl, rfl⟩
def lsA (a : AV) : Obj := ⟨.mine, 40, .fix [a]⟩
def tsO (g : Nat) (ts : List Trk) : Obj := ⟨.mine, 28, .arr true g 7 (ts.map trkRow)⟩
theorem clrT0_ok : Drp F0 1 43 [.ptr 0 0] [lsA (.d .nilsl)] .no (.ret (.tup [])) [lsA (.d .nilsl)] .no := by
  refine drp_code code43_ok ?_
  conv => whnf
  repeat' ((first | refine vb_t rfl ?_ | refine vb_f rfl ?_ | refine vb_t (by assumption) ?_ | refine vb_f (by assumption) ?_ | refine vor_l ?_ | fail) <;> conv => whnf)
  exact ⟨rfl, rfl, rfl⟩
theorem clrT1_ok (g n : Nat) (ts : List Trk) : Drp F0 2 43 [.ptr 0 0] [lsA (.osl 1 g 0 n), tsO g ts] .no (.ret (.tup [])) [lsA (.d .nilsl), tsO g ts] .no := by
  refine drp_code code43_ok ?_
  conv => whnf
  repeat' ((first | refine vb_t rfl ?_ | refine vb_f rfl ?_ | refine vb_t (by assumption) ?_ | refine vb_f (by assumption) ?_ | refine vor_l ?_ | fail) <;> conv => whnf)
  exact ⟨rfl, rfl, rfl⟩
theorem caughtT0_ft (x y a b : Int) : Drp F0 3 33 [.ptr 0 0, .ptr 1 0, .fn .drop 43 [] [.ptr 2 0]] [inO a, erO b, lsA (.d .nilsl)] (.live (fltA x y)) (.ret (.tup [])) [inO x, erO y, lsA (.d .nilsl)] .took := by
  refine drp_code code33_ok ?_
  conv => whnf
  repeat' ((first | refine vb_t rfl ?_ | refine vb_f rfl ?_ | refine vb_t (by assumption) ?_ | refine vb_f (by assumption) ?_ | refine vdrp_i clrT0_ok ?_ | refine vor_l ?_ | fail) <;> conv => whnf)
  exact ⟨rfl, rfl, rfl⟩
theorem caughtT1_ft (x y a b : Int) (g n : Nat) (ts : List Trk) : Drp F0 4 33 [.ptr 0 0, .ptr 1 0, .fn .drop 43 [] [.ptr 2 0]] [inO a, erO b, lsA (.osl 3 g 0 n), tsO g ts] (.live (fltA x y)) (.ret (.tup [])) [inO x, erO y, lsA (.d .nilsl), tsO g ts] .took := by
  refine drp_code code33_ok ?_
  conv => whnf
  repeat' ((first | refine vb_t rfl ?_ | refine vb_f rfl ?_ | refine vb_t (by assumption) ?_ | refine vb_f (by assumption) ?_ | refine vdrp_i (clrT1_ok _ _ _) ?_ | refine vor_l ?_ | fail) <;> conv => whnf)
  exact ⟨rfl, rfl, rfl⟩
theorem caughtT1_no (a b : Int) (g n : Nat) (ts : List Trk) : Drp F0 4 33 [.ptr 0 0, .ptr 1 0, .fn .drop 43 [] [.ptr 2 0]] [inO a, erO b, lsA (.osl 3 g 0 n), tsO g ts] .calm (.ret (.tup [])) [inO a, erO b, lsA (.osl 3 g 0 n), tsO g ts] .calm := by
  refine drp_code code33_ok ?_
  conv => whnf
  repeat' ((first | refine vb_t rfl ?_ | refine vb_f rfl ?_ | refine vb_t (by assumption) ?_ | refine vb_f (by assumption) ?_ | refine vor_l ?_ | fail) <;> conv => whnf)
  exact ⟨rfl, rfl, rfl⟩
theorem count6_lim (v : DV) (i n a : Int) (h : ¬ n < 256) : Drp F0 1 45 [.ptr 0 0, I a] [rdrO v i n] .no (.pan (fltA a 52)) [rdrO v i n] .no := by
  have q : ile (Int.ofNat 256) n = true := by rw [ile_t]; show (256 : Int) ≤ n; omega
  refine drp_code code45_ok ?_
  conv => whnf
  repeat' ((first | refine vb_t rfl ?_ | refine vb_f rfl ?_ | refine vb_t (by assumption) ?_ | refine vb_f (by assumption) ?_ | refine vdrp_i (fail_ok _ _ _ _ _) ?_ | refine vor_l ?_ | fail) <;> conv => whnf)
  exact ⟨rfl, rfl, rfl⟩
theorem tsizes_ok (l : List Tok) (i : Int) (hl : ∀ t ∈ l, tokOk t) : Pur F0 16 [.d (tkV l), I i] [] .no (.ret (ss6A (ss6 l i))) .no := by
  obtain ⟨i', hS, hi⟩ := size6_ok l i 0 hl
  unfold ss6
  rcases hz : sz6 l i with ⟨⟨a1, a2, a3, a4, a5, a6, a7⟩, nx, e⟩
  rw [hz] at hS hi
  simp only
  by_cases he : e = 0
  · rw [if_pos he]
    rw [szR_t he] at hS
    obtain rfl : i' = nx := hi he
    rcases hr : ssGo l 255 [⟨a1, a2, a3, a4, a5, a6, a7⟩] i' with ⟨ts, ny, ee⟩
    refine pur_code code16_ok ?_
    conv => whnf
    repeat' ((first | refine vb_t rfl ?_ | refine vb_f rfl ?_ | refine vb_t (by assumption) ?_ | refine vb_f (by assumption) ?_ | refine vdrp_i hS ?_ | refine vb_t (room_t (by simp <;> omega)) ?_ | refine vor_l ?_ | fail) <;> conv => whnf)
    refine vloop_cnh (α := Nat × List Trk × Int × Int) 256 (fun k x => x.2.1.length = k + 1 ∧ k ≤ 255 ∧ ssGo l (255 - k) x.2.1 x.2.2.1 = (ts, ny, ee)) (fun k x => []) (fun k x => [lsA (.osl 4 x.1 0 x.2.1.length), inO 0, erO 0, rdrO (tkV l) x.2.2.1 x.2.2.2, tsO x.1 x.2.1]) (0, [⟨a1, a2, a3, a4, a5, a6, a7⟩], i', 0) ⟨rfl, by omega, hr⟩ rfl rfl ?_
    clear hr hS hz hi he
    rintro k ⟨g, acc, p, rn⟩ hk ⟨hacc, hk2, hR⟩
    simp only at hacc hR
    have hb := beS_ok l p rn hl
    have hgg : Nat.beq g g = true := by simp
    by_cases hB : beS l p = true
    · rw [hB] at hb
      by_cases h255 : k = 255
      · subst h255
        rw [ssGo_lim hB] at hR
        simp only [Prod.mk.injEq] at hR
        obtain ⟨rfl, rfl, rfl⟩ := hR
        have hct := count6_lim (tkV l) p (acc.length : Int) p (by omega)
        have hC := caughtT1_ft p 52 0 0 g acc.length acc
        conv => whnf
        repeat' ((first | refine vb_t rfl ?_ | refine vb_f rfl ?_ | refine vb_t (by assumption) ?_ | refine vb_f (by assumption) ?_ | refine vdrp_i hb ?_ | refine vdrp_i hct ?_ | refine vdrp_i hC ?_ | refine vor_l ?_ | fail) <;> conv => whnf)
        exact ⟨rfl, rfl⟩
      · have hct := count6_ok (tkV l) p (acc.length : Int) p (by omega)
        obtain ⟨i2, hS, hi⟩ := size6_ok l p (iadd .i64 (acc.length : Int) 1) hl
        rcases hz : sz6 l p with ⟨⟨b1, b2, b3, b4, b5, b6, b7⟩, n2, e2⟩
        rw [hz] at hS hi
        rw [show 255 - k = (255 - (k + 1)) + 1 by omega] at hR
        by_cases he2 : e2 = 0
        · rw [szR_t he2] at hS
          obtain rfl : i2 = n2 := hi he2
          rw [he2] at hz
          rw [ssGo_next hB hz] at hR
          have hq : ieq (acc.length : Int) ((acc.map trkRow).length : Int) = true := by rw [ieq_t]; simp
          conv => whnf
          repeat' ((first | refine vb_t rfl ?_ | refine vb_f rfl ?_ | refine vb_t (by assumption) ?_ | refine vb_f (by assumption) ?_ | refine vdrp_i hb ?_ | refine vdrp_i hct ?_ | refine vdrp_i hS ?_ | refine vb_t (room_t (by simp <;> omega)) ?_ | refine vor_l ?_ | fail) <;> conv => whnf)
          refine ⟨⟨(k + 1, (g + 1, acc ++ [⟨b1, b2, b3, b4, b5, b6, b7⟩], i2, iadd .i64 (acc.length : Int) 1)), (by omega), (by simp [hacc]), (by omega), hR⟩, (by simp only; omega), rfl, ?_, rfl, rfl⟩
          exact cons_eq (fix_eq (cons_eq (osl_eq rfl (by simp)) rfl)) (cons_eq rfl (cons_eq rfl (cons_eq rfl (cons_eq (arr_eq (by rw [List.map_append]; rfl)) rfl))))
        · rw [szR_f he2] at hS
          rw [ssGo_err hB hz he2] at hR
          simp only [Prod.mk.injEq] at hR
          obtain ⟨rfl, rfl, rfl⟩ := hR
          have hC := caughtT1_ft n2 e2 0 0 g acc.length acc
          conv => whnf
          repeat' ((first | refine vb_t rfl ?_ | refine vb_f rfl ?_ | refine vb_t (by assumption) ?_ | refine vb_f (by assumption) ?_ | refine vdrp_i hb ?_ | refine vdrp_i hct ?_ | refine vdrp_i hS ?_ | refine vdrp_i hC ?_ | refine vor_l ?_ | fail) <;> conv => whnf)
          exact ⟨rfl, rfl⟩
    · rw [bf hB] at hb
      rw [ssGo_end (bf hB)] at hR
      simp only [Prod.mk.injEq] at hR
      obtain ⟨rfl, rfl, rfl⟩ := hR
      have hC := caughtT1_no p 0 g acc.length acc
      rcases acc with _ | ⟨a, t⟩
      · cases hacc
      conv => whnf
      repeat' ((first | refine vb_t rfl ?_ | refine vb_f rfl ?_ | refine vb_t (by assumption) ?_ | refine vb_f (by assumption) ?_ | refine vdrp_i hb ?_ | refine vdrp_i hC ?_ | refine vor_l ?_ | fail) <;> conv => whnf)
      refine ⟨?_, rfl⟩
      show CR.ret (AV.tup [.d (.sl 7 ((((a :: t).map trkRow).take (a :: t).length).drop 0)), I p, I 0]) = _
      rw [List.drop_zero, List.take_of_length_le (by simp)]
      rfl
  · rw [if_neg he]
    rw [szR_f he] at hS
    have hC := caughtT0_ft nx e 0 0
    refine pur_code code16_ok ?_
    conv => whnf
    repeat' ((first | refine vb_t rfl ?_ | refine vb_f rfl ?_ | refine vb_t (by assumption) ?_ | refine vb_f (by assumption) ?_ | refine vdrp_i hS ?_ | refine vdrp_i hC ?_ | refine vor_l ?_ | fail) <;> conv => whnf)
    exact ⟨rfl, rfl⟩
end Go.Proofs.YtjeblkicgmmhiaaGreatDoor.Ab

