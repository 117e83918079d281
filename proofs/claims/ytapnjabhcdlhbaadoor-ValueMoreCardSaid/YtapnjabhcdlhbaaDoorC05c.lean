/- Layer 5 (value): the shape of a word; a number, scaled; reading. -/
import Derived.Test.YtapnjabhcdlhbaaDoorC05b
import Derived.Test.YtapnjabhcdlhbaaDoorC00a
namespace Go.Proofs.YtapnjabhcdlhbaaDoor.Ab
open Go
set_option linter.unusedSimpArgs false
set_option maxRecDepth 100000
set_option linter.unusedVariables false
set_option maxHeartbeats 4000000

theorem lower_len (s : List UInt8) : (lower s).length = s.length := by unfold lower; simp
theorem keyText_len (k : Int) : (keyText k).length ≤ 11 := by unfold keyText; (repeat' split) <;> decide
theorem shape_ok (t : Tok) (ht : tokOk t) : ∃ x : Int × Int, Pur F0 10 [tokA t] [] .no (.ret (.tup [I x.1, I x.2])) .no ∧ True := by
  refine pur_ret (σ := Int × Int) (g := fun x => .tup [I x.1, I x.2]) (Q := fun _ => True) (cf := cfn Tryd.f10) (by kernel_rfl) ?_
  obtain ⟨h1, h2⟩ := ht
  conv => arg 3; reduce
  conv => whnf
  have hl : (lower t.num).length ≤ 100000 := by rw [lower_len]; omega
  obtain ⟨c, hc, hcl⟩ := cut_ok (lower t.num) hl
  obtain ⟨r, hr, _⟩ := trim_ok c.1 (by omega)
  repeat' (first
    | (refine vb_t rfl ?_; conv => whnf)
    | (refine vb_f rfl ?_; conv => whnf)
    | (refine vb_t (by assumption) ?_; conv => whnf)
    | (refine vb_f (by assumption) ?_; conv => whnf)
    | (refine vpur_i (is_ok t.text [112, 120] (by omega) (by decide)) ?_; conv => whnf)
    | (refine vpur_i (is_ok t.text [102, 114] (by omega) (by decide)) ?_; conv => whnf)
    | (refine vpur_i (lower_ok t.num (by omega)) ?_; conv => whnf)
    | (refine vpur_i hc ?_; conv => whnf)
    | (refine vpur_i hr ?_; conv => whnf)
    | (refine vb_i (fun h => ?_) (fun h => ?_) <;> conv => whnf)
    | fail)
  all_goals first
    | exact ⟨(_, _), rfl, rfl, trivial⟩
    | skip
  refine vloop_by (σ := Nat) (fun k => [(1, .ptr 0 0), (2, I 0), (3, I 0), (7, I k)]) (fun _ => [⟨.mine, 25, .fix [I t.kind, I t.at_, S t.text, S t.num]⟩]) (fun k => 8 - k) ?_ 1
  intro k
  conv => whnf
  refine vb_i (fun h => ?_) (fun h => ?_) <;> conv => whnf
  · have hk : k ≤ 7 := by (first | omega | (simp only [ilt_t, ilt_f, ile_t, ile_f, ieq_t, ieq_f, ofn, List.length_map, Bool.not_eq_true', Bool.not_eq_false'] at *; omega))
    have := keyText_len k
    by_cases he : keyText k = []
    · have q : (!seq (keyText k) []) = false := by rw [seq_t.mpr he]; rfl
      repeat' (first
        | (refine vb_t rfl ?_; conv => whnf)
        | (refine vb_f rfl ?_; conv => whnf)
        | (refine vb_t (by assumption) ?_; conv => whnf)
        | (refine vb_f (by assumption) ?_; conv => whnf)
        | (refine vpur_i (keyText_ok k) ?_; conv => whnf)
        | fail)
      exact ⟨k + 1, by simp only; omega, cons_eq rfl (cons_eq rfl (cons_eq rfl (cons_eq (slot_eq (I_eq (iadd_one (i := k) (by omega)))) rfl))), rfl, rfl, rfl⟩
    · have q : (!seq (keyText k) []) = true := by rw [seq_f.mpr he]; rfl
      repeat' (first
        | (refine vb_t rfl ?_; conv => whnf)
        | (refine vb_f rfl ?_; conv => whnf)
        | (refine vb_t (by assumption) ?_; conv => whnf)
        | (refine vb_f (by assumption) ?_; conv => whnf)
        | (refine vpur_i (keyText_ok k) ?_; conv => whnf)
        | (refine vpur_i (is_ok t.text (keyText k) (by omega) (by omega)) ?_; conv => whnf)
        | (refine vb_i (fun h => ?_) (fun h => ?_) <;> conv => whnf)
        | fail)
      · exact ⟨(_, _), rfl, rfl, trivial⟩
      · exact ⟨k + 1, by simp only; omega, cons_eq rfl (cons_eq rfl (cons_eq rfl (cons_eq (slot_eq (I_eq (iadd_one (i := k) (by omega)))) rfl))), rfl, rfl, rfl⟩
  · repeat' (first
      | (refine vb_t rfl ?_; conv => whnf)
      | (refine vb_f rfl ?_; conv => whnf)
      | (refine vb_t (by assumption) ?_; conv => whnf)
      | (refine vb_f (by assumption) ?_; conv => whnf)
      | fail)
    exact ⟨(_, _), rfl, rfl, trivial⟩
theorem scaled5_ok (s : List UInt8) (scale : Int) (hs : s.length ≤ 100000) : ∃ x : Int × Int, Pur F0 12 [S s, I scale] [] .no (.ret (.tup [I x.1, I x.2])) .no ∧ x.2 ≠ 51 := by
  refine pur_ret (σ := Int × Int) (g := fun x => .tup [I x.1, I x.2]) (Q := fun x => x.2 ≠ 51) (cf := cfn Tryd.f12) (by kernel_rfl) ?_
  conv => arg 3; reduce
  conv => whnf
  obtain ⟨x, hx, _⟩ := value_ok s scale hs
  repeat' (first
    | (refine vb_t rfl ?_; conv => whnf)
    | (refine vb_f rfl ?_; conv => whnf)
    | (refine vb_t (by assumption) ?_; conv => whnf)
    | (refine vb_f (by assumption) ?_; conv => whnf)
    | (refine vpur_i hx ?_; conv => whnf)
    | (refine vb_i (fun h => ?_) (fun h => ?_) <;> conv => whnf)
    | fail)
  · exact ⟨(x.1, 50), rfl, rfl, by simp⟩
  · refine ⟨(x.1, x.2), rfl, rfl, ?_⟩
    simp only [Bool.not_eq_false', ieq_t, ofn] at *; omega
  · refine ⟨(x.1, x.2), rfl, rfl, ?_⟩
    simp only [Bool.not_eq_false', ieq_t, ofn] at *; omega
/-- What reading comes to. -/
def readR (f : Bool) (kind scale n e at_ allow : Int) : Int × Int × Int × Int :=
  if f = true then (0, 0, at_, 51)
  else if kind = 0 ∨ goodL kind 0 allow = false then (0, 0, at_, 50)
  else if 0 < scale ∧ e ≠ 0 then (0, 0, at_, e)
  else if goodL kind (if 0 < scale then n else 0) allow = true then (kind, if 0 < scale then n else 0, iadd .i64 at_ 1, 0)
  else if (if 0 < scale then n else 0) < 0 ∧ (iand .i64 allow 2 = 0 ∨ kind = 6) then (0, 0, at_, 50)
  else (0, 0, at_, 10)
def readA (x : Int × Int × Int × Int) : AV := .tup [.agg [I x.1, I x.2.1], I x.2.2.1, I x.2.2.2]
theorem ilt_nf {a b : Int} : (ilt a b = false) = ¬ (a < b) := by rw [ilt_f]; exact propext Int.not_lt.symm
theorem read1_ok (a e : Int) (t : Nat) : Drp F0 1 8 [I e, .ptr 0 0] [⟨.mine, t, .fix [I a]⟩] .no (.ret (.tup [.agg [I 0, I 0], I a, I e])) [⟨.mine, t, .fix [I a]⟩] .no := by
  refine drp_code (cf := cfn Tryd.f8) (by kernel_rfl) ?_
  conv => arg 3; reduce
  conv => whnf
  repeat' (first
    | (refine vb_t rfl ?_; conv => whnf)
    | (refine vb_f rfl ?_; conv => whnf)
    | (refine vb_t (by assumption) ?_; conv => whnf)
    | (refine vb_f (by assumption) ?_; conv => whnf)
    | fail)
  exact ⟨rfl, rfl, rfl⟩
theorem read_ok (l : List Tok) (v : DV) (hv : toksA l v) (hl : ∀ t ∈ l, tokOk t) (at_ : Int) : ∃ (f : Bool) (kind scale n e : Int), e ≠ 51 ∧
    ∀ allow, Pur F0 5 [.d v, I at_, I allow] [] .no (.ret (readA (readR f kind scale n e at_ allow))) .no := by
  obtain ⟨t, ht, h1, h2⟩ := word_ok l v hv hl at_
  obtain ⟨f, hf, _⟩ := feature_ok t ⟨h1, h2⟩
  obtain ⟨x, hx, _⟩ := shape_ok t ⟨h1, h2⟩
  obtain ⟨y, hy, he⟩ := scaled5_ok t.num x.2 (by omega)
  refine ⟨f, x.1, x.2, y.1, y.2, he, fun allow => ?_⟩
  rcases hv with ⟨rfl, rfl⟩ | rfl
  · refine pur_code (cf := cfn Tryd.f5) (by kernel_rfl) ?_
    conv => arg 3; reduce
    conv => whnf
    repeat' (first
      | (refine vb_t rfl ?_; conv => whnf)
      | (refine vb_f rfl ?_; conv => whnf)
      | (refine vb_t (by assumption) ?_; conv => whnf)
      | (refine vb_f (by assumption) ?_; conv => whnf)
      | (refine vpur_i ht ?_; conv => whnf)
      | (refine vpur_i hf ?_; conv => whnf)
      | fail)
    by_cases hf1 : f = true
    · subst hf1
      repeat' (first
        | (refine vb_t rfl ?_; conv => whnf)
        | (refine vb_f rfl ?_; conv => whnf)
        | (refine vb_t (by assumption) ?_; conv => whnf)
        | (refine vb_f (by assumption) ?_; conv => whnf)
        | (refine vdrp_i (read1_ok _ _ _) ?_; conv => whnf)
        | fail)
      exact ⟨rfl, rfl⟩
    obtain rfl : f = false := by simpa using hf1
    repeat' (first
      | (refine vb_t rfl ?_; conv => whnf)
      | (refine vb_f rfl ?_; conv => whnf)
      | (refine vb_t (by assumption) ?_; conv => whnf)
      | (refine vb_f (by assumption) ?_; conv => whnf)
      | (refine vpur_i hx ?_; conv => whnf)
      | fail)
    repeat' (first
      | (refine vb_t rfl ?_; conv => whnf)
      | (refine vb_f rfl ?_; conv => whnf)
      | (refine vb_t (by assumption) ?_; conv => whnf)
      | (refine vb_f (by assumption) ?_; conv => whnf)
      | (refine vpur_i (good_ok _ _ _) ?_; conv => whnf)
      | (refine vpur_i hy ?_; conv => whnf)
      | (refine vdrp_i (read1_ok _ _ _) ?_; conv => whnf)
      | (refine vb_i (fun h => ?_) (fun h => ?_) <;> conv => whnf)
      | fail)
    all_goals refine ⟨congrArg CR.ret ?_, rfl⟩
    all_goals simp only [Bool.not_eq_true', Bool.not_eq_false', ieq_t, ieq_f, ilt_t, ilt_nf, Int.ofNat_eq_natCast, Int.natCast_zero, Int.cast_ofNat_Int] at *
    all_goals first
      | (simp [readR, readA, *]; done)
      | (simp_all [readR, readA]; done)
  · refine pur_code (cf := cfn Tryd.f5) (by kernel_rfl) ?_
    conv => arg 3; reduce
    conv => whnf
    repeat' (first
      | (refine vb_t rfl ?_; conv => whnf)
      | (refine vb_f rfl ?_; conv => whnf)
      | (refine vb_t (by assumption) ?_; conv => whnf)
      | (refine vb_f (by assumption) ?_; conv => whnf)
      | (refine vpur_i ht ?_; conv => whnf)
      | (refine vpur_i hf ?_; conv => whnf)
      | fail)
    by_cases hf1 : f = true
    · subst hf1
      repeat' (first
        | (refine vb_t rfl ?_; conv => whnf)
        | (refine vb_f rfl ?_; conv => whnf)
        | (refine vb_t (by assumption) ?_; conv => whnf)
        | (refine vb_f (by assumption) ?_; conv => whnf)
        | (refine vdrp_i (read1_ok _ _ _) ?_; conv => whnf)
        | fail)
      exact ⟨rfl, rfl⟩
    obtain rfl : f = false := by simpa using hf1
    repeat' (first
      | (refine vb_t rfl ?_; conv => whnf)
      | (refine vb_f rfl ?_; conv => whnf)
      | (refine vb_t (by assumption) ?_; conv => whnf)
      | (refine vb_f (by assumption) ?_; conv => whnf)
      | (refine vpur_i hx ?_; conv => whnf)
      | fail)
    repeat' (first
      | (refine vb_t rfl ?_; conv => whnf)
      | (refine vb_f rfl ?_; conv => whnf)
      | (refine vb_t (by assumption) ?_; conv => whnf)
      | (refine vb_f (by assumption) ?_; conv => whnf)
      | (refine vpur_i (good_ok _ _ _) ?_; conv => whnf)
      | (refine vpur_i hy ?_; conv => whnf)
      | (refine vdrp_i (read1_ok _ _ _) ?_; conv => whnf)
      | (refine vb_i (fun h => ?_) (fun h => ?_) <;> conv => whnf)
      | fail)
    all_goals refine ⟨congrArg CR.ret ?_, rfl⟩
    all_goals simp only [Bool.not_eq_true', Bool.not_eq_false', ieq_t, ieq_f, ilt_t, ilt_nf, Int.ofNat_eq_natCast, Int.natCast_zero, Int.cast_ofNat_Int] at *
    all_goals first
      | (simp [readR, readA, *]; done)
      | (simp_all [readR, readA]; done)
end Go.Proofs.YtapnjabhcdlhbaaDoor.Ab
