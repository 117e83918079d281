/- Layer 2 (number): the parts of a number's text. -/
import Derived.Test.YtjjolfgpphjhkaaGreatDoorAbCfg
namespace Go.Proofs.YtjjolfgpphjhkaaGreatDoor.Ab
open Go
set_option linter.unusedSimpArgs false
set_option maxRecDepth 100000
set_option linter.unusedVariables false
set_option maxHeartbeats 4000000

theorem isScale_ok (n : Int) : Pur F0 81 [I n] [] .no (.ret (B (decide (n = 1 ∨ n = 64 ∨ n = 1000)))) .no := by
  refine pur_code (cf := cfn Tryz.f81) (by kernel_rfl) ?_
  conv => arg 3; reduce
  conv => whnf
  repeat' (first
    | (refine vb_t rfl ?_; conv => whnf)
    | (refine vb_f rfl ?_; conv => whnf)
    | (refine vb_t (by assumption) ?_; conv => whnf)
    | (refine vb_f (by assumption) ?_; conv => whnf)
    | (refine vb_i (fun h => ?_) (fun h => ?_) <;> conv => whnf)
    | fail)
  all_goals (refine ⟨?_, rfl⟩; simp_all [ieq_d])
def isDig (c : UInt8) : Bool := decide (48 ≤ c.toNat) && decide (c.toNat ≤ 57)
theorem digit_ok (c : UInt8) : Pur F0 113 [.d (.int .u8 c.toNat)] [] .no (.ret (B (isDig c))) .no := by
  refine pur_code (cf := cfn Tryz.f113) (by kernel_rfl) ?_
  conv => arg 3; reduce
  conv => whnf
  repeat' (first
    | (refine vb_t rfl ?_; conv => whnf)
    | (refine vb_f rfl ?_; conv => whnf)
    | (refine vb_t (by assumption) ?_; conv => whnf)
    | (refine vb_f (by assumption) ?_; conv => whnf)
    | (refine vb_i (fun h => ?_) (fun h => ?_) <;> conv => whnf)
    | fail)
  all_goals refine ⟨congrArg CR.ret (congrArg AV.d (congrArg DV.bool ?_)), rfl⟩
  all_goals simp only [ile_d, ofn, decide_eq_true_eq, decide_eq_false_iff_not] at *
  all_goals (unfold isDig; rw [Bool.eq_iff_iff]; simp; omega)
/-- Is a sign at a place? -/
def sgn (s : List UInt8) (i : Nat) : Bool := decide (s[i]? = some 43) || decide (s[i]? = some 45)
def sgnB (s : List UInt8) (i : Nat) : Bool := decide (s[i]? = some 45)
def sgnN (s : List UInt8) (i : Nat) : Nat := if sgn s i = true then i + 1 else i
theorem sign_ok (s : List UInt8) (i : Nat) (a : Int) (ha : a = i) (hs : s.length ≤ 140737488355328) (t u : Nat) : Drp F0 2 111 [.ptr 0 0, .ptr 1 0] [⟨.mine, t, .fix [I a]⟩, ⟨.mine, u, .fix [S s]⟩] .no (.ret (B (sgnB s i)))
    [⟨.mine, t, .fix [I (sgnN s i)]⟩, ⟨.mine, u, .fix [S s]⟩] .no := by
  subst ha
  by_cases hi : i < s.length
  · obtain ⟨c, hc⟩ : ∃ c, s[i]? = some c := ⟨s[i], List.getElem?_eq_getElem hi⟩
    have hg : iget s (i : Int) = some c := iget_t hc
    have hg2 : iget s (isub .i64 (iadd .i64 (i : Int) (Int.ofNat 1)) (Int.ofNat 1)) = some c := by rw [back_one (by omega)]; exact hg
    have hlt : ilt (i : Int) (s.length : Int) = true := by rw [ilt_t]; omega
    have e1 := iadd_one (i := i) (by omega)
    refine drp_code (cf := cfn Tryz.f111) (by kernel_rfl) ?_
    conv => arg 3; reduce
    conv => whnf
    repeat' (first
      | (refine vb_t rfl ?_; conv => whnf)
      | (refine vb_f rfl ?_; conv => whnf)
      | (refine vb_t (by assumption) ?_; conv => whnf)
      | (refine vb_f (by assumption) ?_; conv => whnf)
      | (refine vo_i hg ?_; conv => whnf)
      | (refine vo_i hg2 ?_; conv => whnf)
      | (refine vb_i (fun h => ?_) (fun h => ?_) <;> conv => whnf)
      | fail)
    all_goals refine ⟨congrArg CR.ret (congrArg AV.d (congrArg DV.bool ?_)), cons_eq (fix_eq (cons_eq (I_eq ?_) rfl)) rfl, rfl⟩
    all_goals simp only [ieq_d, ilt_d, ofn, decide_eq_true_eq, decide_eq_false_iff_not] at *
    all_goals simp only [sgnB, sgnN, sgn, hc, u8eq, Option.some.injEq, e1, Bool.or_eq_true, decide_eq_true_eq]
    all_goals simp
    all_goals first
      | omega
      | (rw [if_pos (by omega)]; rfl)
      | (rw [if_neg (by omega)])
  · have hc : s[i]? = none := List.getElem?_eq_none (by omega)
    have hlt : ilt (i : Int) (s.length : Int) = false := by rw [ilt_f]; omega
    refine drp_code (cf := cfn Tryz.f111) (by kernel_rfl) ?_
    conv => arg 3; reduce
    conv => whnf
    repeat' (first
      | (refine vb_t rfl ?_; conv => whnf)
      | (refine vb_f rfl ?_; conv => whnf)
      | (refine vb_t (by assumption) ?_; conv => whnf)
      | (refine vb_f (by assumption) ?_; conv => whnf)
      | (refine vb_i (fun h => ?_) (fun h => ?_) <;> conv => whnf)
      | fail)
    exact ⟨by simp [sgnB, hc], by simp [sgnN, sgn, hc], rfl⟩

/-- How many digits stand from a place on. -/
def digN (s : List UInt8) (i : Nat) : Nat := ((s.drop i).takeWhile isDig).length
def digs (s : List UInt8) (i : Nat) : List UInt8 := (s.drop i).takeWhile isDig
theorem digN_le (s : List UInt8) (i : Nat) (h : i ≤ s.length) : i + digN s i ≤ s.length := by
  have := (List.takeWhile_prefix isDig (l := s.drop i)).length_le
  unfold digN; simp at this; omega
theorem digN_zero {s : List UInt8} {i : Nat} {c : UInt8} (h : s[i]? = some c) (hd : isDig c = false) : digN s i = 0 := by
  have hl := (List.getElem?_eq_some_iff.1 h).1
  have hc := (List.getElem?_eq_some_iff.1 h).2
  unfold digN; rw [List.drop_eq_getElem_cons hl, hc]; simp [hd]
theorem digN_end {s : List UInt8} {i : Nat} (h : s.length ≤ i) : digN s i = 0 := by
  unfold digN; rw [List.drop_eq_nil_of_le h]; rfl
theorem digN_succ {s : List UInt8} {i : Nat} {c : UInt8} (h : s[i]? = some c) (hd : isDig c = true) : digN s i = digN s (i + 1) + 1 := by
  have hl := (List.getElem?_eq_some_iff.1 h).1
  have hc := (List.getElem?_eq_some_iff.1 h).2
  unfold digN; rw [List.drop_eq_getElem_cons hl, hc]; simp [hd]
theorem digs_eq (s : List UInt8) (i : Nat) : digs s i = (s.drop i).take (digN s i) := by
  unfold digs digN
  have := List.takeWhile_prefix isDig (l := s.drop i)
  exact List.prefix_iff_eq_take.1 this
theorem digits_ok (s : List UInt8) (i : Nat) (a : Int) (ha : a = i) (hi : i ≤ s.length) (hs : s.length ≤ 140737488355328) (t u : Nat) : Drp F0 2 112 [.ptr 0 0, .ptr 1 0] [⟨.mine, t, .fix [I a]⟩, ⟨.mine, u, .fix [S s]⟩] .no
    (.ret (S (digs s i))) [⟨.mine, t, .fix [I (i + digN s i : Nat)]⟩, ⟨.mine, u, .fix [S s]⟩] .no := by
  subst ha
  refine drp_code (cf := cfn Tryz.f112) (by kernel_rfl) ?_
  conv => arg 3; reduce
  conv => whnf
  refine vloop_by (σ := { k : Nat // i ≤ k ∧ k ≤ s.length ∧ k + digN s k = i + digN s i }) (fun k => [(0, .ptr 0 0), (1, .ptr 1 0), (2, S []), (3, I i)]) (fun k => [⟨.mine, t, .fix [I k.1]⟩, ⟨.mine, u, .fix [S s]⟩]) (fun k => s.length - k.1) ?_ ⟨i, Nat.le_refl _, hi, rfl⟩
  rintro ⟨k, h1, h2, h3⟩
  by_cases hk : k < s.length
  · obtain ⟨c, hc⟩ : ∃ c, s[k]? = some c := ⟨s[k], List.getElem?_eq_getElem hk⟩
    have hg : iget s (k : Int) = some c := iget_t hc
    have hlt : ilt (k : Int) (s.length : Int) = true := by rw [ilt_t]; omega
    conv => whnf
    repeat' (first
      | (refine vb_t rfl ?_; conv => whnf)
      | (refine vb_f rfl ?_; conv => whnf)
      | (refine vb_t (by assumption) ?_; conv => whnf)
      | (refine vb_f (by assumption) ?_; conv => whnf)
      | (refine vo_i hg ?_; conv => whnf)
      | (refine vpur_i (digit_ok _) ?_; conv => whnf)
      | (refine vb_i (fun h => ?_) (fun h => ?_) <;> conv => whnf)
      | fail)
    · exact ⟨⟨k + 1, by omega, by omega, by rw [digN_succ hc h] at h3; omega⟩, by simp only; omega, rfl, (cons_eq (fix_eq (cons_eq (I_eq (iadd_one (i := k) (by omega))) rfl)) rfl), rfl, rfl⟩
    · rw [digN_zero hc h] at h3
      obtain rfl : k = i + digN s i := by omega
      refine vo_i (icut_t (l := s) (a := (i : Int)) (b := ((i + digN s i : Nat) : Int)) (by omega) (by omega) (by omega)) ?_
      conv => whnf
      exact ⟨congrArg CR.ret (S_eq (by rw [digs_eq, Int.toNat_natCast, Int.toNat_natCast, List.drop_take, Nat.add_sub_cancel_left])), rfl, rfl⟩
  · have hlt : ilt (k : Int) (s.length : Int) = false := by rw [ilt_f]; omega
    conv => whnf
    repeat' (first
      | (refine vb_t rfl ?_; conv => whnf)
      | (refine vb_f rfl ?_; conv => whnf)
      | (refine vb_t (by assumption) ?_; conv => whnf)
      | (refine vb_f (by assumption) ?_; conv => whnf)
      | (refine vb_i (fun h => ?_) (fun h => ?_) <;> conv => whnf)
      | fail)
    rw [digN_end (s := s) (i := k) (by omega)] at h3
    obtain rfl : k = i + digN s i := by omega
    refine vo_i (icut_t (l := s) (a := (i : Int)) (b := ((i + digN s i : Nat) : Int)) (by omega) (by omega) (by omega)) ?_
    conv => whnf
    exact ⟨congrArg CR.ret (S_eq (by rw [digs_eq, Int.toNat_natCast, Int.toNat_natCast, List.drop_take, Nat.add_sub_cancel_left])), rfl, rfl⟩

/-- A number's text in its parts. -/
structure NumP where
  below : Bool
  whole : List UInt8
  part : List UInt8
  exp : List UInt8
  stop : Nat
def numA (p : NumP) : AV := .agg [B p.below, S p.whole, S p.part, S p.exp, I p.stop]
def pA (s : List UInt8) : Nat := sgnN s 0
def pW (s : List UInt8) : Nat := pA s + digN s (pA s)
def pDot (s : List UInt8) : Bool := decide (s[pW s]? = some 46)
def pP (s : List UInt8) : List UInt8 := if pDot s = true then digs s (pW s + 1) else []
def pE (s : List UInt8) : Nat := if pP s = [] then pW s else pW s + 1 + (pP s).length
def pIsE (s : List UInt8) : Bool := decide (s[pE s]? = some 101) || decide (s[pE s]? = some 69)
def pX (s : List UInt8) : Nat := sgnN s (pE s + 1)
def numP (s : List UInt8) : NumP :=
  if digs s (pA s) = [] ∧ pP s = [] then ⟨false, [], [], [], 0⟩
  else if pIsE s = true ∧ digs s (pX s) ≠ [] then ⟨sgnB s 0, digs s (pA s), pP s, (s.take (pX s + digN s (pX s))).drop (pE s + 1), pX s + digN s (pX s)⟩
  else ⟨sgnB s 0, digs s (pA s), pP s, [], pE s⟩
theorem digs_len (s : List UInt8) (i : Nat) : (digs s i).length = digN s i := rfl
theorem numP_e {s : List UInt8} (hb : ¬ (digs s (pA s) = [] ∧ pP s = [])) (h1 : pIsE s = true) (h2 : digs s (pX s) ≠ []) :
    numP s = ⟨sgnB s 0, digs s (pA s), pP s, (s.take (pX s + digN s (pX s))).drop (pE s + 1), pX s + digN s (pX s)⟩ := by unfold numP; rw [if_neg hb, if_pos ⟨h1, h2⟩]
theorem numP_n {s : List UInt8} (hb : ¬ (digs s (pA s) = [] ∧ pP s = [])) (h : pIsE s = false ∨ digs s (pX s) = []) : numP s = ⟨sgnB s 0, digs s (pA s), pP s, [], pE s⟩ := by
  unfold numP; rw [if_neg hb, if_neg]
  rintro ⟨h1, h2⟩
  rcases h with h | h
  · rw [h] at h1; cases h1
  · exact h2 h
theorem num_eq {a b : Bool} {w w' p p' x x' : List UInt8} {e e' : Int} (h1 : a = b) (h2 : w = w') (h3 : p = p') (h4 : x = x') (h5 : e = e') :
    CR.ret (.agg [B a, S w, S p, S x, I e]) = CR.ret (.agg [B b, S w', S p', S x', I e']) := by rw [h1, h2, h3, h4, h5]
theorem parts_ok (s : List UInt8) (hs : s.length ≤ 140737488355328) : Pur F0 82 [S s] [] .no (.ret (numA (numP s))) .no := by
  have a1 : sgnN s 0 ≤ s.length := by
    unfold sgnN sgn
    cases s with
    | nil => simp
    | cons => split <;> simp
  have a2 : pW s ≤ s.length := digN_le s _ a1
  refine pur_code (cf := cfn Tryz.f82) (by kernel_rfl) ?_
  conv => arg 3; reduce
  conv => whnf
  refine vdrp_i (sign_ok s 0 _ rfl hs _ _) ?_
  conv => whnf
  refine vdrp_i (digits_ok s (pA s) _ rfl a1 hs _ _) ?_
  conv => whnf
  by_cases hd : pDot s = true
  · have hc : s[pW s]? = some 46 := by simpa [pDot] using hd
    have hl : pW s < s.length := (List.getElem?_eq_some_iff.1 hc).1
    have hg : iget s ((pA s + digN s (pA s) : Nat) : Int) = some 46 := iget_t hc
    have hlt : ilt ((pA s + digN s (pA s) : Nat) : Int) (s.length : Int) = true := by rw [ilt_t]; unfold pW at hl; omega
    have he : ieq (((46 : UInt8).toNat : Nat) : Int) (Int.ofNat 46) = true := by rw [ieq_t]; rfl
    have hP : pP s = digs s (pW s + 1) := by unfold pP; rw [if_pos hd]
    repeat' (first
      | (refine vb_t rfl ?_; conv => whnf)
      | (refine vb_f rfl ?_; conv => whnf)
      | (refine vb_t (by assumption) ?_; conv => whnf)
      | (refine vb_f (by assumption) ?_; conv => whnf)
      | (refine vo_i hg ?_; conv => whnf)
      | (refine vdrp_i (digits_ok s (pW s + 1) _ (iadd_one (by omega)) hl hs _ _) ?_; conv => whnf)
      | fail)
    by_cases hn : digs s (pW s + 1) = []
    · have hq : seq (digs s (pW s + 1)) [] = true := by rw [seq_t]; exact hn
      have hE : pE s = pW s := by unfold pE; rw [if_pos (hP.trans hn)]
      have hr : isub .i64 ((pW s + 1 + digN s (pW s + 1) : Nat) : Int) (Int.ofNat 1) = ((pE s : Nat) : Int) := by
        have : digN s (pW s + 1) = 0 := by rw [← digs_len, hn]; rfl
        rw [hE, this, isub64] <;> simp <;> omega
      by_cases hw : digs s (pA s) = []
      · have q1 : seq (digs s (pA s)) [] = true := by rw [seq_t]; exact hw
        have hfin : numP s = ⟨false, [], [], [], 0⟩ := by unfold numP; rw [if_pos ⟨hw, hP.trans hn⟩]
        repeat' (first
          | (refine vb_t rfl ?_; conv => whnf)
          | (refine vb_f rfl ?_; conv => whnf)
          | (refine vb_t (by assumption) ?_; conv => whnf)
          | (refine vb_f (by assumption) ?_; conv => whnf)
          | (refine vo_i hg ?_; conv => whnf)
          | fail)
        exact ⟨by rw [hfin]; rfl, rfl⟩
      · have q1 : seq (digs s (pA s)) [] = false := by rw [seq_f]; exact hw
        have hb : ¬ (digs s (pA s) = [] ∧ pP s = []) := fun h => hw h.1
        repeat' (first
          | (refine vb_t rfl ?_; conv => whnf)
          | (refine vb_f rfl ?_; conv => whnf)
          | (refine vb_t (by assumption) ?_; conv => whnf)
          | (refine vb_f (by assumption) ?_; conv => whnf)
          | (refine vo_i hg ?_; conv => whnf)
          | fail)
        have hq0 : seq [] [] = true := by rw [seq_t]
        by_cases hx : pE s < s.length
        · obtain ⟨c, hce⟩ : ∃ c, s[pE s]? = some c := ⟨s[pE s], List.getElem?_eq_getElem hx⟩
          have hlx : ilt (isub .i64 ((pW s + 1 + digN s (pW s + 1) : Nat) : Int) (Int.ofNat 1)) (s.length : Int) = true := ilt_e hr rfl hx
          have hgx : iget s (isub .i64 ((pW s + 1 + digN s (pW s + 1) : Nat) : Int) (Int.ofNat 1)) = some c := iget_e hr hce
          skip
          have a3 : pX s ≤ s.length := by
            unfold pX sgnN sgn
            split
            · rename_i h
              rcases Nat.lt_or_ge (pE s + 1) s.length with h1 | h1
              · omega
              · rw [List.getElem?_eq_none h1] at h; simp at h
            · omega
          by_cases hE1 : c = 101 ∨ c = 69
          · have h1 : pIsE s = true := by unfold pIsE; rw [hce]; rcases hE1 with rfl | rfl <;> rfl
            have hi1 : iadd .i64 (isub .i64 ((pW s + 1 + digN s (pW s + 1) : Nat) : Int) (Int.ofNat 1)) (Int.ofNat 1) = ((pE s + 1 : Nat) : Int) := by rw [hr]; exact iadd_one (by omega)
            have hcut : icut s (iadd .i64 (isub .i64 ((pW s + 1 + digN s (pW s + 1) : Nat) : Int) (Int.ofNat 1)) (Int.ofNat 1)) ((pX s + digN s (pX s) : Nat) : Int) = some ((s.take (pX s + digN s (pX s))).drop (pE s + 1)) :=
              icut_e hi1 rfl (by unfold pX sgnN; split <;> omega) (digN_le s _ a3)
            have t1 : ieq (c.toNat : Int) (Int.ofNat 101) = true ∨ (ieq (c.toNat : Int) (Int.ofNat 101) = false ∧ ieq (c.toNat : Int) (Int.ofNat 69) = true) := by
              rcases hE1 with rfl | rfl
              · exact .inl (ieq_c (c := 101) (k := 101) 101 rfl rfl)
              · exact .inr ⟨ieq_nc (c := 69) (k := 101) 101 rfl (by decide), ieq_c (c := 69) (k := 69) 69 rfl rfl⟩
            by_cases hn : digs s (pX s) = []
            · have hqx : seq (digs s (pX s)) [] = true := by rw [seq_t]; exact hn
              have hqy : (!seq (digs s (pX s)) []) = false := by rw [hqx]; rfl
              have hfin := numP_n hb (.inr hn)
              rcases t1 with t1 | ⟨t1, t2⟩
              all_goals
                repeat' (first
                  | (refine vb_t rfl ?_; conv => whnf)
                  | (refine vb_f rfl ?_; conv => whnf)
                  | (refine vb_t (by assumption) ?_; conv => whnf)
                  | (refine vb_f (by assumption) ?_; conv => whnf)
                  | (refine vo_i hgx ?_; conv => whnf)
                  | (refine vdrp_i (sign_ok s (pE s + 1) _ hi1 hs _ _) ?_; conv => whnf)
                  | (refine vdrp_i (digits_ok s (pX s) _ rfl a3 hs _ _) ?_; conv => whnf)
                  | fail)
                exact ⟨by rw [hfin]; exact num_eq rfl rfl hP.symm rfl hr, rfl⟩
            · have hqx : seq (digs s (pX s)) [] = false := by rw [seq_f]; exact hn
              have hqy : (!seq (digs s (pX s)) []) = true := by rw [hqx]; rfl
              have hfin := numP_e hb h1 hn
              rcases t1 with t1 | ⟨t1, t2⟩
              all_goals
                repeat' (first
                  | (refine vb_t rfl ?_; conv => whnf)
                  | (refine vb_f rfl ?_; conv => whnf)
                  | (refine vb_t (by assumption) ?_; conv => whnf)
                  | (refine vb_f (by assumption) ?_; conv => whnf)
                  | (refine vo_i hgx ?_; conv => whnf)
                  | (refine vdrp_i (sign_ok s (pE s + 1) _ hi1 hs _ _) ?_; conv => whnf)
                  | (refine vdrp_i (digits_ok s (pX s) _ rfl a3 hs _ _) ?_; conv => whnf)
                  | (refine vo_i hcut ?_; conv => whnf)
                  | fail)
                exact ⟨by rw [hfin]; exact num_eq rfl rfl hP.symm rfl rfl, rfl⟩
          · have h1 : pIsE s = false := by
              unfold pIsE; rw [hce]; simp; exact ⟨fun e => hE1 (.inl e), fun e => hE1 (.inr e)⟩
            have t1 : ieq (c.toNat : Int) (Int.ofNat 101) = false := ieq_nc 101 rfl fun e => hE1 (.inl e)
            have t2 : ieq (c.toNat : Int) (Int.ofNat 69) = false := ieq_nc 69 rfl fun e => hE1 (.inr e)
            have hfin := numP_n hb (.inl h1)
            repeat' (first
              | (refine vb_t rfl ?_; conv => whnf)
              | (refine vb_f rfl ?_; conv => whnf)
              | (refine vb_t (by assumption) ?_; conv => whnf)
              | (refine vb_f (by assumption) ?_; conv => whnf)
              | (refine vo_i hgx ?_; conv => whnf)
              | fail)
            exact ⟨by rw [hfin]; exact num_eq rfl rfl hP.symm rfl hr, rfl⟩
        · try (exfalso; omega)
          all_goals
            have hlx : ilt (isub .i64 ((pW s + 1 + digN s (pW s + 1) : Nat) : Int) (Int.ofNat 1)) (s.length : Int) = false := ilt_n hr rfl (by omega)
            have h1 : pIsE s = false := by unfold pIsE; rw [List.getElem?_eq_none (by omega)]; rfl
            have hfin := numP_n hb (.inl h1)
            repeat' (first
              | (refine vb_t rfl ?_; conv => whnf)
              | (refine vb_f rfl ?_; conv => whnf)
              | (refine vb_t (by assumption) ?_; conv => whnf)
              | (refine vb_f (by assumption) ?_; conv => whnf)
              | fail)
            exact ⟨by rw [hfin]; exact num_eq rfl rfl hP.symm rfl hr, rfl⟩
    · have hq : seq (digs s (pW s + 1)) [] = false := by rw [seq_f]; exact hn
      have hE : pE s = pW s + 1 + digN s (pW s + 1) := by unfold pE; rw [if_neg (by rw [hP]; exact hn), hP]; rfl
      have hr : ((pW s + 1 + digN s (pW s + 1) : Nat) : Int) = ((pE s : Nat) : Int) := by rw [hE]
      have hb : ¬ (digs s (pA s) = [] ∧ pP s = []) := fun h => hn (hP.symm.trans h.2)
      by_cases hw : digs s (pA s) = []
      · have q1 : seq (digs s (pA s)) [] = true := by rw [seq_t]; exact hw
        repeat' (first
          | (refine vb_t rfl ?_; conv => whnf)
          | (refine vb_f rfl ?_; conv => whnf)
          | (refine vb_t (by assumption) ?_; conv => whnf)
          | (refine vb_f (by assumption) ?_; conv => whnf)
          | (refine vo_i hg ?_; conv => whnf)
          | fail)
        have hq0 : seq [] [] = true := by rw [seq_t]
        by_cases hx : pE s < s.length
        · obtain ⟨c, hce⟩ : ∃ c, s[pE s]? = some c := ⟨s[pE s], List.getElem?_eq_getElem hx⟩
          have hlx : ilt (((pW s + 1 + digN s (pW s + 1) : Nat) : Int)) (s.length : Int) = true := ilt_e hr rfl hx
          have hgx : iget s (((pW s + 1 + digN s (pW s + 1) : Nat) : Int)) = some c := iget_e hr hce
          skip
          have a3 : pX s ≤ s.length := by
            unfold pX sgnN sgn
            split
            · rename_i h
              rcases Nat.lt_or_ge (pE s + 1) s.length with h1 | h1
              · omega
              · rw [List.getElem?_eq_none h1] at h; simp at h
            · omega
          by_cases hE1 : c = 101 ∨ c = 69
          · have h1 : pIsE s = true := by unfold pIsE; rw [hce]; rcases hE1 with rfl | rfl <;> rfl
            have hi1 : iadd .i64 (((pW s + 1 + digN s (pW s + 1) : Nat) : Int)) (Int.ofNat 1) = ((pE s + 1 : Nat) : Int) := by rw [hr]; exact iadd_one (by omega)
            have hcut : icut s (iadd .i64 (((pW s + 1 + digN s (pW s + 1) : Nat) : Int)) (Int.ofNat 1)) ((pX s + digN s (pX s) : Nat) : Int) = some ((s.take (pX s + digN s (pX s))).drop (pE s + 1)) :=
              icut_e hi1 rfl (by unfold pX sgnN; split <;> omega) (digN_le s _ a3)
            have t1 : ieq (c.toNat : Int) (Int.ofNat 101) = true ∨ (ieq (c.toNat : Int) (Int.ofNat 101) = false ∧ ieq (c.toNat : Int) (Int.ofNat 69) = true) := by
              rcases hE1 with rfl | rfl
              · exact .inl (ieq_c (c := 101) (k := 101) 101 rfl rfl)
              · exact .inr ⟨ieq_nc (c := 69) (k := 101) 101 rfl (by decide), ieq_c (c := 69) (k := 69) 69 rfl rfl⟩
            by_cases hn : digs s (pX s) = []
            · have hqx : seq (digs s (pX s)) [] = true := by rw [seq_t]; exact hn
              have hqy : (!seq (digs s (pX s)) []) = false := by rw [hqx]; rfl
              have hfin := numP_n hb (.inr hn)
              rcases t1 with t1 | ⟨t1, t2⟩
              all_goals
                repeat' (first
                  | (refine vb_t rfl ?_; conv => whnf)
                  | (refine vb_f rfl ?_; conv => whnf)
                  | (refine vb_t (by assumption) ?_; conv => whnf)
                  | (refine vb_f (by assumption) ?_; conv => whnf)
                  | (refine vo_i hgx ?_; conv => whnf)
                  | (refine vdrp_i (sign_ok s (pE s + 1) _ hi1 hs _ _) ?_; conv => whnf)
                  | (refine vdrp_i (digits_ok s (pX s) _ rfl a3 hs _ _) ?_; conv => whnf)
                  | fail)
                exact ⟨by rw [hfin]; exact num_eq rfl rfl hP.symm rfl hr, rfl⟩
            · have hqx : seq (digs s (pX s)) [] = false := by rw [seq_f]; exact hn
              have hqy : (!seq (digs s (pX s)) []) = true := by rw [hqx]; rfl
              have hfin := numP_e hb h1 hn
              rcases t1 with t1 | ⟨t1, t2⟩
              all_goals
                repeat' (first
                  | (refine vb_t rfl ?_; conv => whnf)
                  | (refine vb_f rfl ?_; conv => whnf)
                  | (refine vb_t (by assumption) ?_; conv => whnf)
                  | (refine vb_f (by assumption) ?_; conv => whnf)
                  | (refine vo_i hgx ?_; conv => whnf)
                  | (refine vdrp_i (sign_ok s (pE s + 1) _ hi1 hs _ _) ?_; conv => whnf)
                  | (refine vdrp_i (digits_ok s (pX s) _ rfl a3 hs _ _) ?_; conv => whnf)
                  | (refine vo_i hcut ?_; conv => whnf)
                  | fail)
                exact ⟨by rw [hfin]; exact num_eq rfl rfl hP.symm rfl rfl, rfl⟩
          · have h1 : pIsE s = false := by
              unfold pIsE; rw [hce]; simp; exact ⟨fun e => hE1 (.inl e), fun e => hE1 (.inr e)⟩
            have t1 : ieq (c.toNat : Int) (Int.ofNat 101) = false := ieq_nc 101 rfl fun e => hE1 (.inl e)
            have t2 : ieq (c.toNat : Int) (Int.ofNat 69) = false := ieq_nc 69 rfl fun e => hE1 (.inr e)
            have hfin := numP_n hb (.inl h1)
            repeat' (first
              | (refine vb_t rfl ?_; conv => whnf)
              | (refine vb_f rfl ?_; conv => whnf)
              | (refine vb_t (by assumption) ?_; conv => whnf)
              | (refine vb_f (by assumption) ?_; conv => whnf)
              | (refine vo_i hgx ?_; conv => whnf)
              | fail)
            exact ⟨by rw [hfin]; exact num_eq rfl rfl hP.symm rfl hr, rfl⟩
        · try (exfalso; omega)
          all_goals
            have hlx : ilt (((pW s + 1 + digN s (pW s + 1) : Nat) : Int)) (s.length : Int) = false := ilt_n hr rfl (by omega)
            have h1 : pIsE s = false := by unfold pIsE; rw [List.getElem?_eq_none (by omega)]; rfl
            have hfin := numP_n hb (.inl h1)
            repeat' (first
              | (refine vb_t rfl ?_; conv => whnf)
              | (refine vb_f rfl ?_; conv => whnf)
              | (refine vb_t (by assumption) ?_; conv => whnf)
              | (refine vb_f (by assumption) ?_; conv => whnf)
              | fail)
            exact ⟨by rw [hfin]; exact num_eq rfl rfl hP.symm rfl hr, rfl⟩
      · have q1 : seq (digs s (pA s)) [] = false := by rw [seq_f]; exact hw
        repeat' (first
          | (refine vb_t rfl ?_; conv => whnf)
          | (refine vb_f rfl ?_; conv => whnf)
          | (refine vb_t (by assumption) ?_; conv => whnf)
          | (refine vb_f (by assumption) ?_; conv => whnf)
          | (refine vo_i hg ?_; conv => whnf)
          | fail)
        have hq0 : seq [] [] = true := by rw [seq_t]
        by_cases hx : pE s < s.length
        · obtain ⟨c, hce⟩ : ∃ c, s[pE s]? = some c := ⟨s[pE s], List.getElem?_eq_getElem hx⟩
          have hlx : ilt (((pW s + 1 + digN s (pW s + 1) : Nat) : Int)) (s.length : Int) = true := ilt_e hr rfl hx
          have hgx : iget s (((pW s + 1 + digN s (pW s + 1) : Nat) : Int)) = some c := iget_e hr hce
          skip
          have a3 : pX s ≤ s.length := by
            unfold pX sgnN sgn
            split
            · rename_i h
              rcases Nat.lt_or_ge (pE s + 1) s.length with h1 | h1
              · omega
              · rw [List.getElem?_eq_none h1] at h; simp at h
            · omega
          by_cases hE1 : c = 101 ∨ c = 69
          · have h1 : pIsE s = true := by unfold pIsE; rw [hce]; rcases hE1 with rfl | rfl <;> rfl
            have hi1 : iadd .i64 (((pW s + 1 + digN s (pW s + 1) : Nat) : Int)) (Int.ofNat 1) = ((pE s + 1 : Nat) : Int) := by rw [hr]; exact iadd_one (by omega)
            have hcut : icut s (iadd .i64 (((pW s + 1 + digN s (pW s + 1) : Nat) : Int)) (Int.ofNat 1)) ((pX s + digN s (pX s) : Nat) : Int) = some ((s.take (pX s + digN s (pX s))).drop (pE s + 1)) :=
              icut_e hi1 rfl (by unfold pX sgnN; split <;> omega) (digN_le s _ a3)
            have t1 : ieq (c.toNat : Int) (Int.ofNat 101) = true ∨ (ieq (c.toNat : Int) (Int.ofNat 101) = false ∧ ieq (c.toNat : Int) (Int.ofNat 69) = true) := by
              rcases hE1 with rfl | rfl
              · exact .inl (ieq_c (c := 101) (k := 101) 101 rfl rfl)
              · exact .inr ⟨ieq_nc (c := 69) (k := 101) 101 rfl (by decide), ieq_c (c := 69) (k := 69) 69 rfl rfl⟩
            by_cases hn : digs s (pX s) = []
            · have hqx : seq (digs s (pX s)) [] = true := by rw [seq_t]; exact hn
              have hqy : (!seq (digs s (pX s)) []) = false := by rw [hqx]; rfl
              have hfin := numP_n hb (.inr hn)
              rcases t1 with t1 | ⟨t1, t2⟩
              all_goals
                repeat' (first
                  | (refine vb_t rfl ?_; conv => whnf)
                  | (refine vb_f rfl ?_; conv => whnf)
                  | (refine vb_t (by assumption) ?_; conv => whnf)
                  | (refine vb_f (by assumption) ?_; conv => whnf)
                  | (refine vo_i hgx ?_; conv => whnf)
                  | (refine vdrp_i (sign_ok s (pE s + 1) _ hi1 hs _ _) ?_; conv => whnf)
                  | (refine vdrp_i (digits_ok s (pX s) _ rfl a3 hs _ _) ?_; conv => whnf)
                  | fail)
                exact ⟨by rw [hfin]; exact num_eq rfl rfl hP.symm rfl hr, rfl⟩
            · have hqx : seq (digs s (pX s)) [] = false := by rw [seq_f]; exact hn
              have hqy : (!seq (digs s (pX s)) []) = true := by rw [hqx]; rfl
              have hfin := numP_e hb h1 hn
              rcases t1 with t1 | ⟨t1, t2⟩
              all_goals
                repeat' (first
                  | (refine vb_t rfl ?_; conv => whnf)
                  | (refine vb_f rfl ?_; conv => whnf)
                  | (refine vb_t (by assumption) ?_; conv => whnf)
                  | (refine vb_f (by assumption) ?_; conv => whnf)
                  | (refine vo_i hgx ?_; conv => whnf)
                  | (refine vdrp_i (sign_ok s (pE s + 1) _ hi1 hs _ _) ?_; conv => whnf)
                  | (refine vdrp_i (digits_ok s (pX s) _ rfl a3 hs _ _) ?_; conv => whnf)
                  | (refine vo_i hcut ?_; conv => whnf)
                  | fail)
                exact ⟨by rw [hfin]; exact num_eq rfl rfl hP.symm rfl rfl, rfl⟩
          · have h1 : pIsE s = false := by
              unfold pIsE; rw [hce]; simp; exact ⟨fun e => hE1 (.inl e), fun e => hE1 (.inr e)⟩
            have t1 : ieq (c.toNat : Int) (Int.ofNat 101) = false := ieq_nc 101 rfl fun e => hE1 (.inl e)
            have t2 : ieq (c.toNat : Int) (Int.ofNat 69) = false := ieq_nc 69 rfl fun e => hE1 (.inr e)
            have hfin := numP_n hb (.inl h1)
            repeat' (first
              | (refine vb_t rfl ?_; conv => whnf)
              | (refine vb_f rfl ?_; conv => whnf)
              | (refine vb_t (by assumption) ?_; conv => whnf)
              | (refine vb_f (by assumption) ?_; conv => whnf)
              | (refine vo_i hgx ?_; conv => whnf)
              | fail)
            exact ⟨by rw [hfin]; exact num_eq rfl rfl hP.symm rfl hr, rfl⟩
        · try (exfalso; omega)
          all_goals
            have hlx : ilt (((pW s + 1 + digN s (pW s + 1) : Nat) : Int)) (s.length : Int) = false := ilt_n hr rfl (by omega)
            have h1 : pIsE s = false := by unfold pIsE; rw [List.getElem?_eq_none (by omega)]; rfl
            have hfin := numP_n hb (.inl h1)
            repeat' (first
              | (refine vb_t rfl ?_; conv => whnf)
              | (refine vb_f rfl ?_; conv => whnf)
              | (refine vb_t (by assumption) ?_; conv => whnf)
              | (refine vb_f (by assumption) ?_; conv => whnf)
              | fail)
            exact ⟨by rw [hfin]; exact num_eq rfl rfl hP.symm rfl hr, rfl⟩
  · have hP : pP s = [] := by unfold pP; rw [if_neg hd]
    have hE : pE s = pW s := by unfold pE; rw [if_pos hP]
    have hr : ((pA s + digN s (pA s) : Nat) : Int) = ((pE s : Nat) : Int) := by rw [hE]; rfl
    have hq0 : seq [] [] = true := by rw [seq_t]
    have hdd : s[pW s]? ≠ some 46 := by simpa [pDot] using hd
    by_cases hw : digs s (pA s) = []
    · have q1 : seq (digs s (pA s)) [] = true := by rw [seq_t]; exact hw
      have hfin : numP s = ⟨false, [], [], [], 0⟩ := by unfold numP; rw [if_pos ⟨hw, hP⟩]
      by_cases hl : pW s < s.length
      · obtain ⟨c, hc⟩ : ∃ c, s[pW s]? = some c := ⟨s[pW s], List.getElem?_eq_getElem hl⟩
        have hg : iget s ((pA s + digN s (pA s) : Nat) : Int) = some c := iget_t hc
        have hlt : ilt ((pA s + digN s (pA s) : Nat) : Int) (s.length : Int) = true := ilt_e rfl rfl hl
        have he : ieq (c.toNat : Int) (Int.ofNat 46) = false := ieq_nc 46 rfl fun e => hdd (by rw [hc, e])
        repeat' (first
          | (refine vb_t rfl ?_; conv => whnf)
          | (refine vb_f rfl ?_; conv => whnf)
          | (refine vb_t (by assumption) ?_; conv => whnf)
          | (refine vb_f (by assumption) ?_; conv => whnf)
          | (refine vo_i hg ?_; conv => whnf)
          | fail)
        exact ⟨by rw [hfin]; rfl, rfl⟩
      · have hlt : ilt ((pA s + digN s (pA s) : Nat) : Int) (s.length : Int) = false := ilt_n rfl rfl (by unfold pW at hl; omega)
        repeat' (first
          | (refine vb_t rfl ?_; conv => whnf)
          | (refine vb_f rfl ?_; conv => whnf)
          | (refine vb_t (by assumption) ?_; conv => whnf)
          | (refine vb_f (by assumption) ?_; conv => whnf)
          | fail)
        exact ⟨by rw [hfin]; rfl, rfl⟩
    · have q1 : seq (digs s (pA s)) [] = false := by rw [seq_f]; exact hw
      have hb : ¬ (digs s (pA s) = [] ∧ pP s = []) := fun h => hw h.1
      by_cases hl : pW s < s.length
      · obtain ⟨c, hc⟩ : ∃ c, s[pW s]? = some c := ⟨s[pW s], List.getElem?_eq_getElem hl⟩
        have hg : iget s ((pA s + digN s (pA s) : Nat) : Int) = some c := iget_t hc
        have hlt : ilt ((pA s + digN s (pA s) : Nat) : Int) (s.length : Int) = true := ilt_e rfl rfl hl
        have he : ieq (c.toNat : Int) (Int.ofNat 46) = false := ieq_nc 46 rfl fun e => hdd (by rw [hc, e])
        repeat' (first
          | (refine vb_t rfl ?_; conv => whnf)
          | (refine vb_f rfl ?_; conv => whnf)
          | (refine vb_t (by assumption) ?_; conv => whnf)
          | (refine vb_f (by assumption) ?_; conv => whnf)
          | (refine vo_i hg ?_; conv => whnf)
          | fail)
        have hq0 : seq [] [] = true := by rw [seq_t]
        by_cases hx : pE s < s.length
        · obtain ⟨c, hce⟩ : ∃ c, s[pE s]? = some c := ⟨s[pE s], List.getElem?_eq_getElem hx⟩
          have hlx : ilt (((pA s + digN s (pA s) : Nat) : Int)) (s.length : Int) = true := ilt_e hr rfl hx
          have hgx : iget s (((pA s + digN s (pA s) : Nat) : Int)) = some c := iget_e hr hce
          obtain rfl := Option.some.inj (hgx.symm.trans hg)
          have a3 : pX s ≤ s.length := by
            unfold pX sgnN sgn
            split
            · rename_i h
              rcases Nat.lt_or_ge (pE s + 1) s.length with h1 | h1
              · omega
              · rw [List.getElem?_eq_none h1] at h; simp at h
            · omega
          by_cases hE1 : c = 101 ∨ c = 69
          · have h1 : pIsE s = true := by unfold pIsE; rw [hce]; rcases hE1 with rfl | rfl <;> rfl
            have hi1 : iadd .i64 (((pA s + digN s (pA s) : Nat) : Int)) (Int.ofNat 1) = ((pE s + 1 : Nat) : Int) := by rw [hr]; exact iadd_one (by omega)
            have hcut : icut s (iadd .i64 (((pA s + digN s (pA s) : Nat) : Int)) (Int.ofNat 1)) ((pX s + digN s (pX s) : Nat) : Int) = some ((s.take (pX s + digN s (pX s))).drop (pE s + 1)) :=
              icut_e hi1 rfl (by unfold pX sgnN; split <;> omega) (digN_le s _ a3)
            have t1 : ieq (c.toNat : Int) (Int.ofNat 101) = true ∨ (ieq (c.toNat : Int) (Int.ofNat 101) = false ∧ ieq (c.toNat : Int) (Int.ofNat 69) = true) := by
              rcases hE1 with rfl | rfl
              · exact .inl (ieq_c (c := 101) (k := 101) 101 rfl rfl)
              · exact .inr ⟨ieq_nc (c := 69) (k := 101) 101 rfl (by decide), ieq_c (c := 69) (k := 69) 69 rfl rfl⟩
            by_cases hn : digs s (pX s) = []
            · have hqx : seq (digs s (pX s)) [] = true := by rw [seq_t]; exact hn
              have hqy : (!seq (digs s (pX s)) []) = false := by rw [hqx]; rfl
              have hfin := numP_n hb (.inr hn)
              rcases t1 with t1 | ⟨t1, t2⟩
              all_goals
                repeat' (first
                  | (refine vb_t rfl ?_; conv => whnf)
                  | (refine vb_f rfl ?_; conv => whnf)
                  | (refine vb_t (by assumption) ?_; conv => whnf)
                  | (refine vb_f (by assumption) ?_; conv => whnf)
                  | (refine vo_i hgx ?_; conv => whnf)
                  | (refine vdrp_i (sign_ok s (pE s + 1) _ hi1 hs _ _) ?_; conv => whnf)
                  | (refine vdrp_i (digits_ok s (pX s) _ rfl a3 hs _ _) ?_; conv => whnf)
                  | fail)
                exact ⟨by rw [hfin]; exact num_eq rfl rfl hP.symm rfl hr, rfl⟩
            · have hqx : seq (digs s (pX s)) [] = false := by rw [seq_f]; exact hn
              have hqy : (!seq (digs s (pX s)) []) = true := by rw [hqx]; rfl
              have hfin := numP_e hb h1 hn
              rcases t1 with t1 | ⟨t1, t2⟩
              all_goals
                repeat' (first
                  | (refine vb_t rfl ?_; conv => whnf)
                  | (refine vb_f rfl ?_; conv => whnf)
                  | (refine vb_t (by assumption) ?_; conv => whnf)
                  | (refine vb_f (by assumption) ?_; conv => whnf)
                  | (refine vo_i hgx ?_; conv => whnf)
                  | (refine vdrp_i (sign_ok s (pE s + 1) _ hi1 hs _ _) ?_; conv => whnf)
                  | (refine vdrp_i (digits_ok s (pX s) _ rfl a3 hs _ _) ?_; conv => whnf)
                  | (refine vo_i hcut ?_; conv => whnf)
                  | fail)
                exact ⟨by rw [hfin]; exact num_eq rfl rfl hP.symm rfl rfl, rfl⟩
          · have h1 : pIsE s = false := by
              unfold pIsE; rw [hce]; simp; exact ⟨fun e => hE1 (.inl e), fun e => hE1 (.inr e)⟩
            have t1 : ieq (c.toNat : Int) (Int.ofNat 101) = false := ieq_nc 101 rfl fun e => hE1 (.inl e)
            have t2 : ieq (c.toNat : Int) (Int.ofNat 69) = false := ieq_nc 69 rfl fun e => hE1 (.inr e)
            have hfin := numP_n hb (.inl h1)
            repeat' (first
              | (refine vb_t rfl ?_; conv => whnf)
              | (refine vb_f rfl ?_; conv => whnf)
              | (refine vb_t (by assumption) ?_; conv => whnf)
              | (refine vb_f (by assumption) ?_; conv => whnf)
              | (refine vo_i hgx ?_; conv => whnf)
              | fail)
            exact ⟨by rw [hfin]; exact num_eq rfl rfl hP.symm rfl hr, rfl⟩
        · try (exfalso; omega)
          all_goals
            have hlx : ilt (((pA s + digN s (pA s) : Nat) : Int)) (s.length : Int) = false := ilt_n hr rfl (by omega)
            have h1 : pIsE s = false := by unfold pIsE; rw [List.getElem?_eq_none (by omega)]; rfl
            have hfin := numP_n hb (.inl h1)
            repeat' (first
              | (refine vb_t rfl ?_; conv => whnf)
              | (refine vb_f rfl ?_; conv => whnf)
              | (refine vb_t (by assumption) ?_; conv => whnf)
              | (refine vb_f (by assumption) ?_; conv => whnf)
              | fail)
            exact ⟨by rw [hfin]; exact num_eq rfl rfl hP.symm rfl hr, rfl⟩
      · have hlt : ilt ((pA s + digN s (pA s) : Nat) : Int) (s.length : Int) = false := ilt_n rfl rfl (by unfold pW at hl; omega)
        have hfin := numP_n hb (.inl (show pIsE s = false by unfold pIsE; rw [List.getElem?_eq_none (by omega)]; rfl))
        repeat' (first
          | (refine vb_t rfl ?_; conv => whnf)
          | (refine vb_f rfl ?_; conv => whnf)
          | (refine vb_t (by assumption) ?_; conv => whnf)
          | (refine vb_f (by assumption) ?_; conv => whnf)
          | fail)
        exact ⟨by rw [hfin]; exact num_eq rfl rfl hP.symm rfl hr, rfl⟩
end Go.Proofs.YtjjolfgpphjhkaaGreatDoor.Ab
