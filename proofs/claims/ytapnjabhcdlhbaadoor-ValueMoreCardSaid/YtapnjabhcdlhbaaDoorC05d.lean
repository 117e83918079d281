/- Layer 5 (value): the law ValueMore. -/
import Derived.Test.YtapnjabhcdlhbaaDoorC05m
import Derived.Test.YtapnjabhcdlhbaaDoorC05l
import Derived.Test.YtapnjabhcdlhbaaDoorC05k
namespace Go.Proofs.YtapnjabhcdlhbaaDoor.Ab
open Go
set_option linter.unusedSimpArgs false
set_option maxRecDepth 100000
set_option linter.unusedVariables false
set_option maxHeartbeats 4000000

theorem law_ok (l : List Tok) (v : DV) (hv : toksA l v) (at_ allow more : Int) : Pur F0 3 [.d v, I at_, I allow, I more] [] .no (.ret (B true)) .no := by
  rcases hv with ⟨rfl, rfl⟩ | rfl
  · have hl : ∀ t ∈ ([] : List Tok), tokOk t := fun t ht => by cases ht
    refine pur_code cValueMore_ok ?_
    conv => whnf
    have q : ilt (Int.ofNat 200) 0 = false := by rw [ilt_f]; decide
    repeat' (first
      | (refine vb_t rfl ?_; conv => whnf)
      | (refine vb_f rfl ?_; conv => whnf)
      | (refine vb_t (by assumption) ?_; conv => whnf)
      | (refine vb_f (by assumption) ?_; conv => whnf)
      | fail)
    refine vloop_by (σ := Unit) (fun _ => [(0, .d .nilsl), (1, I at_), (2, I allow), (3, I more), (8, B false), (21, .d .nilsl), (22, I 0), (23, I 0)]) (fun _ => []) (fun _ => 0) ?_ ()
    intro _
    conv => whnf
    have q2 : ilt 0 0 = false := by rw [ilt_f]; decide
    repeat' (first
      | (refine vb_t rfl ?_; conv => whnf)
      | (refine vb_f rfl ?_; conv => whnf)
      | (refine vb_t (by assumption) ?_; conv => whnf)
      | (refine vb_f (by assumption) ?_; conv => whnf)
      | fail)
    obtain ⟨f, k, sc, n, e, he, hR⟩ := read_ok _ _ (.inl ⟨rfl, rfl⟩) hl at_
    have M := moreP f k sc n e at_ allow more he
    have r1 := hR allow
    have r2 := hR (ior .i64 allow more)
    clear hR
    generalize readR f k sc n e at_ allow = x1 at M r1
    generalize readR f k sc n e at_ (ior .i64 allow more) = x2 at M r2
    obtain ⟨k1, n1, y1, e1⟩ := x1
    obtain ⟨k2, n2, y2, e2⟩ := x2
    obtain ⟨M1, M2, M3⟩ := M
    simp only [Prod.mk.injEq] at M1 M2 M3
    repeat' (first
      | (refine vb_t rfl ?_; conv => whnf)
      | (refine vb_f rfl ?_; conv => whnf)
      | (refine vb_t (by assumption) ?_; conv => whnf)
      | (refine vb_f (by assumption) ?_; conv => whnf)
      | (refine vpur_i r1 ?_; conv => whnf)
      | (refine vpur_i r2 ?_; conv => whnf)
      | (refine vpur_i lives_ok ?_; conv => whnf)
      | (refine vb_i (fun h => ?_) (fun h => ?_) <;> conv => whnf)
      | fail)
    all_goals first
      | exact ⟨rfl, rfl⟩
      | skip
    all_goals refine ⟨congrArg CR.ret (congrArg AV.d (congrArg DV.bool ?_)), rfl⟩
    all_goals simp only [Bool.not_eq_true', Bool.not_eq_false', ieq_d, Int.ofNat_eq_natCast, Int.natCast_zero, Int.cast_ofNat_Int, Bool.and_eq_true, Bool.and_eq_false_iff, decide_eq_true_eq, decide_eq_false_iff_not, Prod.mk.injEq] at *
    all_goals omega
  · refine pur_code cValueMore_ok ?_
    conv => whnf
    by_cases h200 : 200 < l.length
    · have q : ilt (Int.ofNat 200) ((l.map tokRow).length : Int) = true := by rw [ilt_t, List.length_map, ofn]; omega
      repeat' (first
        | (refine vb_t rfl ?_; conv => whnf)
        | (refine vb_f rfl ?_; conv => whnf)
        | (refine vb_t (by assumption) ?_; conv => whnf)
        | (refine vb_f (by assumption) ?_; conv => whnf)
        | (refine vpur_i lives_ok ?_; conv => whnf)
        | fail)
      exact ⟨rfl, rfl⟩
    · have q : ilt (Int.ofNat 200) ((l.map tokRow).length : Int) = false := by rw [ilt_f, List.length_map, ofn]; omega
      repeat' (first
        | (refine vb_t rfl ?_; conv => whnf)
        | (refine vb_f rfl ?_; conv => whnf)
        | (refine vb_t (by assumption) ?_; conv => whnf)
        | (refine vb_f (by assumption) ?_; conv => whnf)
        | (refine vpur_i lives_ok ?_; conv => whnf)
        | fail)
      refine vloop_by (σ := { i : Nat // i ≤ l.length ∧ ∀ j, j < i → ∀ t, l[j]? = some t → tokOk t }) (fun i => [(0, .d (.sl 4 (l.map tokRow))), (1, I at_), (2, I allow), (3, I more), (8, B false), (21, .d (.sl 4 (l.map tokRow))), (22, I (l.map tokRow).length), (23, I i.1)])
        (fun _ => []) (fun i => l.length - i.1) ?_ ⟨0, Nat.zero_le _, fun j h => absurd h (Nat.not_lt_zero _)⟩
      rintro ⟨i, hi, hok⟩
      conv => whnf
      refine vb_i (fun h => ?_) (fun h => ?_) <;> conv => whnf
      · have hlt : i < l.length := by (first | omega | (simp only [ilt_t, ilt_f, ile_t, ile_f, ieq_t, ieq_f, ofn, List.length_map, Bool.not_eq_true', Bool.not_eq_false'] at *; omega))
        obtain ⟨t, ht⟩ : ∃ t, l[i]? = some t := ⟨l[i], List.getElem?_eq_getElem hlt⟩
        have hr : iget (l.map tokRow) (i : Int) = some (tokRow t) := iget_t (by rw [List.getElem?_map, ht]; rfl)
        by_cases hn : 1000 < t.num.length
        · have q3 : ilt (Int.ofNat 1000) (t.num.length : Int) = true := by rw [ilt_t, ofn]; omega
          repeat' (first
            | (refine vb_t rfl ?_; conv => whnf)
            | (refine vb_f rfl ?_; conv => whnf)
            | (refine vb_t (by assumption) ?_; conv => whnf)
            | (refine vb_f (by assumption) ?_; conv => whnf)
            | (refine vo_i hr ?_; conv => whnf)
            | (refine vpur_i lives_ok ?_; conv => whnf)
            | fail)
          exact ⟨rfl, rfl⟩
        · have q3 : ilt (Int.ofNat 1000) (t.num.length : Int) = false := by rw [ilt_f, ofn]; omega
          by_cases hx : 1000 < t.text.length
          · have q4 : ilt (Int.ofNat 1000) (t.text.length : Int) = true := by rw [ilt_t, ofn]; omega
            repeat' (first
              | (refine vb_t rfl ?_; conv => whnf)
              | (refine vb_f rfl ?_; conv => whnf)
              | (refine vb_t (by assumption) ?_; conv => whnf)
              | (refine vb_f (by assumption) ?_; conv => whnf)
              | (refine vo_i hr ?_; conv => whnf)
              | (refine vpur_i lives_ok ?_; conv => whnf)
              | fail)
            exact ⟨rfl, rfl⟩
          · have q4 : ilt (Int.ofNat 1000) (t.text.length : Int) = false := by rw [ilt_f, ofn]; omega
            repeat' (first
              | (refine vb_t rfl ?_; conv => whnf)
              | (refine vb_f rfl ?_; conv => whnf)
              | (refine vb_t (by assumption) ?_; conv => whnf)
              | (refine vb_f (by assumption) ?_; conv => whnf)
              | (refine vo_i hr ?_; conv => whnf)
              | fail)
            refine ⟨⟨i + 1, hlt, fun j hj u hu => ?_⟩, by simp only; omega, cons_eq rfl (cons_eq rfl (cons_eq rfl (cons_eq rfl (cons_eq rfl (cons_eq rfl (cons_eq rfl (cons_eq (slot_eq (I_eq (iadd_one (i := i) (by omega)))) rfl))))))), rfl, rfl, rfl⟩
            rcases Nat.lt_or_ge j i with h1 | h1
            · exact hok j h1 u hu
            · obtain rfl : j = i := by omega
              rw [ht] at hu; cases hu
              exact ⟨by omega, by omega⟩
      · have hi2 : i = l.length := by (first | omega | (simp only [ilt_t, ilt_f, ile_t, ile_f, ieq_t, ieq_f, ofn, List.length_map, Bool.not_eq_true', Bool.not_eq_false'] at *; omega))
        have hl : ∀ t ∈ l, tokOk t := fun t ht => by
          obtain ⟨j, hj, rfl⟩ := List.mem_iff_getElem.1 ht
          exact hok j (by omega) _ (List.getElem?_eq_getElem hj)
        obtain ⟨f, k, sc, n, e, he, hR⟩ := read_ok _ _ (.inr rfl) hl at_
        have M := moreP f k sc n e at_ allow more he
        have r1 := hR allow
        have r2 := hR (ior .i64 allow more)
        clear hR
        generalize readR f k sc n e at_ allow = x1 at M r1
        generalize readR f k sc n e at_ (ior .i64 allow more) = x2 at M r2
        obtain ⟨k1, n1, y1, e1⟩ := x1
        obtain ⟨k2, n2, y2, e2⟩ := x2
        obtain ⟨M1, M2, M3⟩ := M
        simp only [Prod.mk.injEq] at M1 M2 M3
        repeat' (first
          | (refine vb_t rfl ?_; conv => whnf)
          | (refine vb_f rfl ?_; conv => whnf)
          | (refine vb_t (by assumption) ?_; conv => whnf)
          | (refine vb_f (by assumption) ?_; conv => whnf)
          | (refine vpur_i r1 ?_; conv => whnf)
          | (refine vpur_i r2 ?_; conv => whnf)
          | (refine vpur_i lives_ok ?_; conv => whnf)
          | (refine vb_i (fun h => ?_) (fun h => ?_) <;> conv => whnf)
          | fail)
        all_goals first
          | exact ⟨rfl, rfl⟩
          | skip
        all_goals refine ⟨congrArg CR.ret (congrArg AV.d (congrArg DV.bool ?_)), rfl⟩
        all_goals simp only [Bool.not_eq_true', Bool.not_eq_false', ieq_d, Int.ofNat_eq_natCast, Int.natCast_zero, Int.cast_ofNat_Int, Bool.and_eq_true, Bool.and_eq_false_iff, decide_eq_true_eq, decide_eq_false_iff_not, Prod.mk.injEq] at *
        all_goals omega
end Go.Proofs.YtapnjabhcdlhbaaDoor.Ab
