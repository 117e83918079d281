/- Layer 2 (number): a number's exponent; its digits, scaled; its value: that there is one. -/
import Derived.Test.YtapnjabhcdlhbaaDoorC02a
import Derived.Test.YtapnjabhcdlhbaaDoorAbSome
namespace Go.Proofs.YtapnjabhcdlhbaaDoor.Ab
open Go
set_option linter.unusedSimpArgs false
set_option maxRecDepth 100000
set_option linter.unusedVariables false
set_option maxHeartbeats 4000000

theorem exponent_ok (p : NumP) (hp : p.exp.length ≤ 140737488355328) : ∃ n : Int, Pur F0 37 [numA p] [] .no (.ret (I n)) .no ∧ True := by
  refine pur_ret (σ := Int) (g := I) (Q := fun _ => True) (cf := cfn Tryd.f37) (by kernel_rfl) ?_
  conv => arg 3; reduce
  conv => whnf
  refine vloop_by (σ := { x : Nat × Int // x.1 ≤ p.exp.length }) (fun x => [(1, .ptr 0 0), (2, I 0), (3, I x.1.2), (7, I p.exp.length), (8, I x.1.1)])
    (fun _ => [⟨.mine, _, .fix [B p.below, S p.whole, S p.part, S p.exp, I p.stop]⟩]) (fun x => p.exp.length - x.1.1) ?_ ⟨(0, 0), Nat.zero_le _⟩
  rintro ⟨⟨i, n⟩, hi⟩
  conv => whnf
  refine vb_i (fun h => ?_) (fun h => ?_)
  · have hlt : i < p.exp.length := by (first | omega | (simp only [ilt_t, ilt_f, ile_t, ile_f, ieq_t, ieq_f, ofn, List.length_map, Bool.not_eq_true', Bool.not_eq_false'] at *; omega))
    conv => whnf
    obtain ⟨c, hc⟩ := iget_x (l := p.exp) (n := (i : Int)) (by omega) (by omega)
    repeat' (first
      | (refine vb_t rfl ?_; conv => whnf)
      | (refine vb_f rfl ?_; conv => whnf)
      | (refine vb_t (by assumption) ?_; conv => whnf)
      | (refine vb_f (by assumption) ?_; conv => whnf)
      | (refine vo_i hc ?_; conv => whnf)
      | (refine vpur_i (digit_ok c) ?_; conv => whnf)
      | (refine vb_i (fun h => ?_) (fun h => ?_) <;> conv => whnf)
      | fail)
    all_goals refine ⟨⟨(i + 1, _), by simp only; omega⟩, by simp only; omega, cons_eq rfl (cons_eq rfl (cons_eq rfl (cons_eq rfl (cons_eq (slot_eq (I_eq (iadd_one (i := i) (by omega)))) rfl)))), rfl, rfl, rfl⟩
  · conv => whnf
    by_cases he : p.exp = []
    · have hq : seq p.exp [] = true := by rw [seq_t]; exact he
      have hq2 : (!seq p.exp []) = false := by rw [hq]; rfl
      repeat' (first
        | (refine vb_t rfl ?_; conv => whnf)
        | (refine vb_f rfl ?_; conv => whnf)
        | (refine vb_t (by assumption) ?_; conv => whnf)
        | (refine vb_f (by assumption) ?_; conv => whnf)
        | (refine vb_i (fun h => ?_) (fun h => ?_) <;> conv => whnf)
        | fail)
      all_goals exact ⟨_, rfl, rfl, trivial⟩
    · have hq : seq p.exp [] = false := by rw [seq_f]; exact he
      have hq2 : (!seq p.exp []) = true := by rw [hq]; rfl
      have := List.length_pos_iff.2 he
      obtain ⟨c, hc⟩ := iget_x (l := p.exp) (n := Int.ofNat 0) (by (first | omega | (simp only [ilt_t, ilt_f, ile_t, ile_f, ieq_t, ieq_f, ofn, List.length_map, Bool.not_eq_true', Bool.not_eq_false'] at *; omega))) (by (first | omega | (simp only [ilt_t, ilt_f, ile_t, ile_f, ieq_t, ieq_f, ofn, List.length_map, Bool.not_eq_true', Bool.not_eq_false'] at *; omega)))
      repeat' (first
        | (refine vb_t rfl ?_; conv => whnf)
        | (refine vb_f rfl ?_; conv => whnf)
        | (refine vb_t (by assumption) ?_; conv => whnf)
        | (refine vb_f (by assumption) ?_; conv => whnf)
        | (refine vo_i hc ?_; conv => whnf)
        | (refine vb_i (fun h => ?_) (fun h => ?_) <;> conv => whnf)
        | fail)
      all_goals exact ⟨_, rfl, rfl, trivial⟩

theorem scaled_ok (d : List UInt8) (point scale : Int) (hd : d.length ≤ 1000000) : ∃ x : Int × Bool, Pur F0 36 [.d (.sl 1 (d.map byteRow)), I point, I scale] [] .no (.ret (.tup [I x.1, B x.2])) .no ∧ True := by
  refine pur_ret (σ := Int × Bool) (g := fun x => .tup [I x.1, B x.2]) (Q := fun _ => True) (cf := cfn Tryd.f36) (by kernel_rfl) ?_
  conv => arg 3; reduce
  conv => whnf
  refine vloop_by (σ := { x : List UInt8 × Int // x.1.length ≤ 1000000 }) (fun x => [(0, .d (.sl 1 (x.1.1.map byteRow))), (1, I x.1.2), (2, I scale), (6, I 0), (7, B false)]) (fun _ => []) (fun x => x.1.1.length) ?_ ⟨(d, point), hd⟩
  clear hd
  rintro ⟨⟨e, n⟩, he⟩
  simp only at he
  conv => whnf
  refine vb_i (fun h => ?_) (fun h => ?_)
  · have hlt : 0 < e.length := by (first | omega | (simp only [ilt_t, ilt_f, ile_t, ile_f, ieq_t, ieq_f, ofn, List.length_map, Bool.not_eq_true', Bool.not_eq_false'] at *; omega))
    obtain ⟨c, hc⟩ := irow_x (l := e) (n := Int.ofNat 0) (by (first | omega | (simp only [ilt_t, ilt_f, ile_t, ile_f, ieq_t, ieq_f, ofn, List.length_map, Bool.not_eq_true', Bool.not_eq_false'] at *; omega))) (by (first | omega | (simp only [ilt_t, ilt_f, ile_t, ile_f, ieq_t, ieq_f, ofn, List.length_map, Bool.not_eq_true', Bool.not_eq_false'] at *; omega)))
    obtain ⟨r, hr, hrl⟩ := rcut_x (l := e) (a := Int.ofNat 1) (b := ((e.map byteRow).length : Int)) (by (first | omega | (simp only [ilt_t, ilt_f, ile_t, ile_f, ieq_t, ieq_f, ofn, List.length_map, Bool.not_eq_true', Bool.not_eq_false'] at *; omega))) (by (first | omega | (simp only [ilt_t, ilt_f, ile_t, ile_f, ieq_t, ieq_f, ofn, List.length_map, Bool.not_eq_true', Bool.not_eq_false'] at *; omega))) (by (first | omega | (simp only [ilt_t, ilt_f, ile_t, ile_f, ieq_t, ieq_f, ofn, List.length_map, Bool.not_eq_true', Bool.not_eq_false'] at *; omega)))
    simp only [List.length_map, ofn] at hrl
    conv => whnf
    repeat' (first
      | (refine vb_t rfl ?_; conv => whnf)
      | (refine vb_f rfl ?_; conv => whnf)
      | (refine vb_t (by assumption) ?_; conv => whnf)
      | (refine vb_f (by assumption) ?_; conv => whnf)
      | (refine vo_i hc ?_; conv => whnf)
      | fail)
    refine vb_i (fun h => ?_) (fun h => ?_)
    · conv => whnf
      repeat' (first
        | (refine vb_t rfl ?_; conv => whnf)
        | (refine vb_f rfl ?_; conv => whnf)
        | (refine vb_t (by assumption) ?_; conv => whnf)
        | (refine vb_f (by assumption) ?_; conv => whnf)
        | (refine vo_i hc ?_; conv => whnf)
        | (refine vo_i hr ?_; conv => whnf)
        | fail)
      exact ⟨⟨(r, _), by simp only; omega⟩, by simp only; omega, rfl, rfl, rfl, rfl⟩
    · conv => whnf
      have q0 : ieq ((e.map byteRow).length : Int) (Int.ofNat 0) = false := by (first | omega | (simp only [ilt_t, ilt_f, ile_t, ile_f, ieq_t, ieq_f, ofn, List.length_map, Bool.not_eq_true', Bool.not_eq_false'] at *; omega))
      repeat' (first
        | (refine vb_t rfl ?_; conv => whnf)
        | (refine vb_f rfl ?_; conv => whnf)
        | (refine vb_t (by assumption) ?_; conv => whnf)
        | (refine vb_f (by assumption) ?_; conv => whnf)
        | fail)
      refine vb_i (fun h => ?_) (fun h => ?_) <;> conv => whnf
      · repeat' (first
          | (refine vb_t rfl ?_; conv => whnf)
          | (refine vb_f rfl ?_; conv => whnf)
          | (refine vb_t (by assumption) ?_; conv => whnf)
          | (refine vb_f (by assumption) ?_; conv => whnf)
          | fail)
        exact ⟨(_, _), rfl, rfl, trivial⟩
      repeat' (first
        | (refine vb_t rfl ?_; conv => whnf)
        | (refine vb_f rfl ?_; conv => whnf)
        | (refine vb_t (by assumption) ?_; conv => whnf)
        | (refine vb_f (by assumption) ?_; conv => whnf)
        | fail)
      refine vb_i (fun h => ?_) (fun h => ?_) <;> conv => whnf
      · repeat' (first
          | (refine vb_t rfl ?_; conv => whnf)
          | (refine vb_f rfl ?_; conv => whnf)
          | (refine vb_t (by assumption) ?_; conv => whnf)
          | (refine vb_f (by assumption) ?_; conv => whnf)
          | fail)
        exact ⟨(_, _), rfl, rfl, trivial⟩
      have hn1 : n ≤ 13 := by (first | omega | (simp only [ilt_t, ilt_f, ile_t, ile_f, ieq_t, ieq_f, ofn, List.length_map, Bool.not_eq_true', Bool.not_eq_false'] at *; omega))
      have hn2 : -5 ≤ n := by (first | omega | (simp only [ilt_t, ilt_f, ile_t, ile_f, ieq_t, ieq_f, ofn, List.length_map, Bool.not_eq_true', Bool.not_eq_false'] at *; omega))
      have hN : imax (Int.ofNat 0) (isub .i64 0 n) ≤ 5 := by rw [imax_d, isub64 (by omega) (by omega)]; split <;> (first | omega | (simp only [ilt_t, ilt_f, ile_t, ile_f, ieq_t, ieq_f, ofn, List.length_map, Bool.not_eq_true', Bool.not_eq_false'] at *; omega))
      have hM : imax (Int.ofNat 0) n ≤ 13 := by rw [imax_d]; split <;> (first | omega | (simp only [ilt_t, ilt_f, ile_t, ile_f, ieq_t, ieq_f, ofn, List.length_map, Bool.not_eq_true', Bool.not_eq_false'] at *; omega))
      have hM0 : 0 ≤ imax (Int.ofNat 0) n := by rw [imax_d]; split <;> (first | omega | (simp only [ilt_t, ilt_f, ile_t, ile_f, ieq_t, ieq_f, ofn, List.length_map, Bool.not_eq_true', Bool.not_eq_false'] at *; omega))
      have hm0 : 0 ≤ imin ((e.map byteRow).length : Int) (imax (Int.ofNat 0) n) := by rw [imin_d]; split <;> (first | omega | (simp only [ilt_t, ilt_f, ile_t, ile_f, ieq_t, ieq_f, ofn, List.length_map, Bool.not_eq_true', Bool.not_eq_false'] at *; omega))
      have hm1 : imin ((e.map byteRow).length : Int) (imax (Int.ofNat 0) n) ≤ e.length := by rw [imin_d]; split <;> (first | omega | (simp only [ilt_t, ilt_f, ile_t, ile_f, ieq_t, ieq_f, ofn, List.length_map, Bool.not_eq_true', Bool.not_eq_false'] at *; omega))
      refine vloop_by (σ := Nat × Int) (fun x => [(0, .d (.sl 1 (e.map byteRow))), (1, I n), (2, I scale), (6, I 0), (7, B false), (8, I x.2), (40, I (imax (Int.ofNat 0) n)), (41, I x.1)]) (fun _ => []) (fun x => (imax (Int.ofNat 0) n).toNat - x.1) ?_ (0, 0)
      rintro ⟨i, w⟩
      conv => whnf
      refine vb_i (fun h => ?_) (fun h => ?_) <;> conv => whnf
      · refine vb_i (fun h => ?_) (fun h => ?_) <;> conv => whnf
        · obtain ⟨c, hc⟩ := irow_x (l := e) (n := (i : Int)) (by (first | omega | (simp only [ilt_t, ilt_f, ile_t, ile_f, ieq_t, ieq_f, ofn, List.length_map, Bool.not_eq_true', Bool.not_eq_false'] at *; omega))) (by (first | omega | (simp only [ilt_t, ilt_f, ile_t, ile_f, ieq_t, ieq_f, ofn, List.length_map, Bool.not_eq_true', Bool.not_eq_false'] at *; omega)))
          repeat' (first
            | (refine vb_t rfl ?_; conv => whnf)
            | (refine vb_f rfl ?_; conv => whnf)
            | (refine vb_t (by assumption) ?_; conv => whnf)
            | (refine vb_f (by assumption) ?_; conv => whnf)
            | (refine vo_i hc ?_; conv => whnf)
            | fail)
          exact ⟨(i + 1, _), by simp only; (first | omega | (simp only [ilt_t, ilt_f, ile_t, ile_f, ieq_t, ieq_f, ofn, List.length_map, Bool.not_eq_true', Bool.not_eq_false'] at *; omega)), cons_eq rfl (cons_eq rfl (cons_eq rfl (cons_eq rfl (cons_eq rfl (cons_eq rfl (cons_eq rfl (cons_eq (slot_eq (I_eq (iadd_one (i := i) (by (first | omega | (simp only [ilt_t, ilt_f, ile_t, ile_f, ieq_t, ieq_f, ofn, List.length_map, Bool.not_eq_true', Bool.not_eq_false'] at *; omega)))))) rfl))))))), rfl, rfl, rfl⟩
        · repeat' (first
            | (refine vb_t rfl ?_; conv => whnf)
            | (refine vb_f rfl ?_; conv => whnf)
            | (refine vb_t (by assumption) ?_; conv => whnf)
            | (refine vb_f (by assumption) ?_; conv => whnf)
            | fail)
          exact ⟨(i + 1, _), by simp only; (first | omega | (simp only [ilt_t, ilt_f, ile_t, ile_f, ieq_t, ieq_f, ofn, List.length_map, Bool.not_eq_true', Bool.not_eq_false'] at *; omega)), cons_eq rfl (cons_eq rfl (cons_eq rfl (cons_eq rfl (cons_eq rfl (cons_eq rfl (cons_eq rfl (cons_eq (slot_eq (I_eq (iadd_one (i := i) (by (first | omega | (simp only [ilt_t, ilt_f, ile_t, ile_f, ieq_t, ieq_f, ofn, List.length_map, Bool.not_eq_true', Bool.not_eq_false'] at *; omega)))))) rfl))))))), rfl, rfl, rfl⟩
      · generalize hNe : imax (Int.ofNat 0) (isub .i64 0 n) = N at hN ⊢
        refine vloop_by (σ := { x : Nat × Option (Nat × List UInt8) // x.1 ≤ 6 ∧ ∀ g l, x.2 = some (g, l) → l.length ≤ x.1 })
          (fun x => [(0, .d (.sl 1 (e.map byteRow))), (1, I n), (2, I scale), (6, I 0), (7, B false), (8, I w), (10, restV x.1.2), (60, I N), (61, I x.1.1)])
          (fun x => restH 5 x.1.2) (fun x => 10 - x.1.1) ?_ ⟨(0, none), by simp⟩
        rintro ⟨⟨j, x⟩, hj, hx⟩
        rcases x with _ | ⟨g, l⟩
        · conv => whnf
          refine vb_i (fun h => ?_) (fun h => ?_) <;> conv => whnf
          · have hj5 : j ≤ 5 := by (first | omega | (simp only [ilt_t, ilt_f, ile_t, ile_f, ieq_t, ieq_f, ofn, List.length_map, Bool.not_eq_true', Bool.not_eq_false'] at *; omega))
            repeat' (first
              | (refine vb_t rfl ?_; conv => whnf)
              | (refine vb_f rfl ?_; conv => whnf)
              | (refine vb_t (by assumption) ?_; conv => whnf)
              | (refine vb_f (by assumption) ?_; conv => whnf)
              | (refine vb_t (room_t (by decide)) ?_; conv => whnf)
              | fail)
            exact ⟨⟨(j + 1, some (0, [0])), by simp only; omega, by rintro g l hgl; cases hgl; simp⟩, by simp only; omega,
              cons_eq rfl (cons_eq rfl (cons_eq rfl (cons_eq rfl (cons_eq rfl (cons_eq rfl (cons_eq rfl (cons_eq rfl (cons_eq (slot_eq (I_eq (iadd_one (i := j) (by omega)))) rfl)))))))), rfl, rfl, rfl⟩
          · obtain ⟨r2, hr2, hl2⟩ := rcut_x (l := e) hm0 (b := ((e.map byteRow).length : Int)) (by (first | omega | (simp only [ilt_t, ilt_f, ile_t, ile_f, ieq_t, ieq_f, ofn, List.length_map, Bool.not_eq_true', Bool.not_eq_false'] at *; omega))) (by (first | omega | (simp only [ilt_t, ilt_f, ile_t, ile_f, ieq_t, ieq_f, ofn, List.length_map, Bool.not_eq_true', Bool.not_eq_false'] at *; omega)))
            simp only [List.length_map] at hl2
            repeat' (first
              | (refine vb_t rfl ?_; conv => whnf)
              | (refine vb_f rfl ?_; conv => whnf)
              | (refine vb_t (by assumption) ?_; conv => whnf)
              | (refine vb_f (by assumption) ?_; conv => whnf)
              | (refine vo_i hr2 ?_; conv => whnf)
              | (refine vb_t (room_t (by rw [List.length_map]; (first | omega | (simp only [ilt_t, ilt_f, ile_t, ile_f, ieq_t, ieq_f, ofn, List.length_map, Bool.not_eq_true', Bool.not_eq_false'] at *; omega)))) ?_; conv => whnf)
              | fail)
            have hL : (r2).length ≤ 1000006 := by simp only [List.length_append, List.length_map, ofn] at *; omega
            obtain ⟨g4, hg4⟩ : ∃ g4 : Nat, (0) = g4 := ⟨_, rfl⟩
            refine vloop_eq2 (fr' := [(2, I scale), (6, I 0), (7, B false), (8, I w), (10, .osl 0 g4 0 (r2).length), (11, I 0), (12, I (((r2).length : Int) - 1))]) (h' := [⟨.mine, 5, .arr true g4 1 ((r2).map byteRow)⟩]) ?_ ?_ ?_
            · exact cons_eq rfl (cons_eq rfl (cons_eq rfl (cons_eq rfl (cons_eq (slot_eq (osl_eq hg4 (by simp))) (cons_eq rfl (cons_eq (slot_eq (I_eq (by rw [isub64] <;> simp at * <;> omega))) rfl))))))
            · exact cons_eq (arr_eq2 hg4 (by simp)) rfl
            generalize (r2) = l4 at hL ⊢
            clear hg4
            have hgg : Nat.beq g4 g4 = true := by simp
            refine vloop_by (σ := { x : List UInt8 × Int × Nat // x.2.2 ≤ x.1.length ∧ x.1.length ≤ 1000006 })
              (fun x => [(2, I scale), (6, I 0), (7, B false), (8, I w), (10, .osl 0 g4 0 x.1.1.length), (11, I x.1.2.1), (12, I ((x.1.2.2 : Int) - 1))])
              (fun x => [⟨.mine, 5, .arr true g4 1 (x.1.1.map byteRow)⟩]) (fun x => x.1.2.2) ?_ ⟨(l4, 0, l4.length), by simpa using hL⟩
            rintro ⟨⟨m, ca, k⟩, hk, hm⟩
            simp only at hk hm
            conv => whnf
            refine vb_i (fun h => ?_) (fun h => ?_) <;> conv => whnf
            · have hk1 : 1 ≤ k := by (first | omega | (simp only [ilt_t, ilt_f, ile_t, ile_f, ieq_t, ieq_f, ofn, List.length_map, Bool.not_eq_true', Bool.not_eq_false'] at *; omega))
              obtain ⟨c, hc, hc2⟩ := irow_take (l := m) (n := (k : Int) - 1) (by omega) (by omega)
              have hj : isub .i64 ((k : Int) - 1) (Int.ofNat 1) = ((k - 1 : Nat) : Int) - 1 := by rw [isub64] <;> simp <;> omega
              repeat' (first
                | (refine vb_t rfl ?_; conv => whnf)
                | (refine vb_f rfl ?_; conv => whnf)
                | (refine vb_t (by assumption) ?_; conv => whnf)
                | (refine vb_f (by assumption) ?_; conv => whnf)
                | (refine vo_i hc ?_; conv => whnf)
                | (refine vo_i hc2 ?_; conv => whnf)
                | (rw [iz_ten]; conv => whnf)
                | fail)
              all_goals refine ⟨⟨(m.set (0 + ((k : Int) - 1).toNat) (UInt8.ofNat (icast .u8 _).toNat), _, k - 1), by simp only [List.length_set]; omega, by simpa using hm⟩, by simp only; omega, cons_eq rfl (cons_eq rfl (cons_eq rfl (cons_eq rfl (cons_eq (slot_eq (osl_eq rfl (by simp))) (cons_eq rfl (cons_eq (slot_eq (I_eq hj)) rfl)))))), cons_eq (arr_eq set_u8) rfl, rfl, rfl⟩
            · have hz : ((m.length : Int) - ((0 : Nat) : Int)) = m.length := by omega
              by_cases hm0 : m.length = 0
              · have q1 : ilt (Int.ofNat 0) ((m.length : Int) - ((0 : Nat) : Int)) = false := by (first | omega | (simp only [ilt_t, ilt_f, ile_t, ile_f, ieq_t, ieq_f, ofn, List.length_map, Bool.not_eq_true', Bool.not_eq_false'] at *; omega))
                repeat' (first
                  | (refine vb_t rfl ?_; conv => whnf)
                  | (refine vb_f rfl ?_; conv => whnf)
                  | (refine vb_t (by assumption) ?_; conv => whnf)
                  | (refine vb_f (by assumption) ?_; conv => whnf)
                  | (refine vb_i (fun h => ?_) (fun h => ?_) <;> conv => whnf)
                  | fail)
                all_goals exact ⟨(_, _), rfl, rfl, trivial⟩
              · have q1 : ilt (Int.ofNat 0) ((m.length : Int) - ((0 : Nat) : Int)) = true := by (first | omega | (simp only [ilt_t, ilt_f, ile_t, ile_f, ieq_t, ieq_f, ofn, List.length_map, Bool.not_eq_true', Bool.not_eq_false'] at *; omega))
                obtain ⟨c, hc, hc2⟩ := irow_take (l := m) (n := Int.ofNat 0) (by (first | omega | (simp only [ilt_t, ilt_f, ile_t, ile_f, ieq_t, ieq_f, ofn, List.length_map, Bool.not_eq_true', Bool.not_eq_false'] at *; omega))) (by (first | omega | (simp only [ilt_t, ilt_f, ile_t, ile_f, ieq_t, ieq_f, ofn, List.length_map, Bool.not_eq_true', Bool.not_eq_false'] at *; omega)))
                repeat' (first
                  | (refine vb_t rfl ?_; conv => whnf)
                  | (refine vb_f rfl ?_; conv => whnf)
                  | (refine vb_t (by assumption) ?_; conv => whnf)
                  | (refine vb_f (by assumption) ?_; conv => whnf)
                  | (refine vo_i hc ?_; conv => whnf)
                  | (refine vo_i hc2 ?_; conv => whnf)
                  | (refine vb_i (fun h => ?_) (fun h => ?_) <;> conv => whnf)
                  | fail)
                all_goals exact ⟨(_, _), rfl, rfl, trivial⟩
        · have hl6 := hx g l rfl
          conv => whnf
          refine vb_i (fun h => ?_) (fun h => ?_) <;> conv => whnf
          · have hj5 : j ≤ 5 := by (first | omega | (simp only [ilt_t, ilt_f, ile_t, ile_f, ieq_t, ieq_f, ofn, List.length_map, Bool.not_eq_true', Bool.not_eq_false'] at *; omega))
            have hg : Nat.beq g g = true := by simp
            have hq : ieq (l.length : Int) ((l.map byteRow).length : Int) = true := by rw [ieq_t]; simp
            repeat' (first
              | (refine vb_t rfl ?_; conv => whnf)
              | (refine vb_f rfl ?_; conv => whnf)
              | (refine vb_t (by assumption) ?_; conv => whnf)
              | (refine vb_f (by assumption) ?_; conv => whnf)
              | (refine vb_t (room_t (by simp; (first | omega | (simp only [ilt_t, ilt_f, ile_t, ile_f, ieq_t, ieq_f, ofn, List.length_map, Bool.not_eq_true', Bool.not_eq_false'] at *; omega)))) ?_; conv => whnf)
              | fail)
            exact ⟨⟨(j + 1, some (g + 1, l ++ [0])), by simp only; omega, by rintro g l hgl; cases hgl; simp; omega⟩, by simp only; omega,
              cons_eq rfl (cons_eq rfl (cons_eq rfl (cons_eq rfl (cons_eq rfl (cons_eq rfl (cons_eq (slot_eq (osl_eq rfl (by simp))) (cons_eq rfl (cons_eq (slot_eq (I_eq (iadd_one (i := j) (by omega)))) rfl)))))))), cons_eq (arr_eq (by simp; rfl)) rfl, rfl, rfl⟩
          · have hg : Nat.beq g g = true := by simp
            have hq : ieq (l.length : Int) ((l.map byteRow).length : Int) = true := by rw [ieq_t]; simp
            obtain ⟨r2, hr2, hl2⟩ := rcut_x (l := e) hm0 (b := ((e.map byteRow).length : Int)) (by (first | omega | (simp only [ilt_t, ilt_f, ile_t, ile_f, ieq_t, ieq_f, ofn, List.length_map, Bool.not_eq_true', Bool.not_eq_false'] at *; omega))) (by (first | omega | (simp only [ilt_t, ilt_f, ile_t, ile_f, ieq_t, ieq_f, ofn, List.length_map, Bool.not_eq_true', Bool.not_eq_false'] at *; omega)))
            simp only [List.length_map] at hl2
            repeat' (first
              | (refine vb_t rfl ?_; conv => whnf)
              | (refine vb_f rfl ?_; conv => whnf)
              | (refine vb_t (by assumption) ?_; conv => whnf)
              | (refine vb_f (by assumption) ?_; conv => whnf)
              | (refine vo_i hr2 ?_; conv => whnf)
              | (refine vb_t (room_t (by rw [List.length_map, List.length_map]; (first | omega | (simp only [ilt_t, ilt_f, ile_t, ile_f, ieq_t, ieq_f, ofn, List.length_map, Bool.not_eq_true', Bool.not_eq_false'] at *; omega)))) ?_; conv => whnf)
              | fail)
            have hL : (l ++ r2).length ≤ 1000006 := by simp only [List.length_append, List.length_map, ofn] at *; omega
            obtain ⟨g4, hg4⟩ : ∃ g4 : Nat, (g + 1) = g4 := ⟨_, rfl⟩
            refine vloop_eq2 (fr' := [(2, I scale), (6, I 0), (7, B false), (8, I w), (10, .osl 0 g4 0 (l ++ r2).length), (11, I 0), (12, I (((l ++ r2).length : Int) - 1))]) (h' := [⟨.mine, 5, .arr true g4 1 ((l ++ r2).map byteRow)⟩]) ?_ ?_ ?_
            · exact cons_eq rfl (cons_eq rfl (cons_eq rfl (cons_eq rfl (cons_eq (slot_eq (osl_eq hg4 (by simp))) (cons_eq rfl (cons_eq (slot_eq (I_eq (by rw [isub64] <;> simp at * <;> omega))) rfl))))))
            · exact cons_eq (arr_eq2 hg4 (by simp)) rfl
            generalize (l ++ r2) = l4 at hL ⊢
            clear hg4
            have hgg : Nat.beq g4 g4 = true := by simp
            refine vloop_by (σ := { x : List UInt8 × Int × Nat // x.2.2 ≤ x.1.length ∧ x.1.length ≤ 1000006 })
              (fun x => [(2, I scale), (6, I 0), (7, B false), (8, I w), (10, .osl 0 g4 0 x.1.1.length), (11, I x.1.2.1), (12, I ((x.1.2.2 : Int) - 1))])
              (fun x => [⟨.mine, 5, .arr true g4 1 (x.1.1.map byteRow)⟩]) (fun x => x.1.2.2) ?_ ⟨(l4, 0, l4.length), by simpa using hL⟩
            rintro ⟨⟨m, ca, k⟩, hk, hm⟩
            simp only at hk hm
            conv => whnf
            refine vb_i (fun h => ?_) (fun h => ?_) <;> conv => whnf
            · have hk1 : 1 ≤ k := by (first | omega | (simp only [ilt_t, ilt_f, ile_t, ile_f, ieq_t, ieq_f, ofn, List.length_map, Bool.not_eq_true', Bool.not_eq_false'] at *; omega))
              obtain ⟨c, hc, hc2⟩ := irow_take (l := m) (n := (k : Int) - 1) (by omega) (by omega)
              have hj : isub .i64 ((k : Int) - 1) (Int.ofNat 1) = ((k - 1 : Nat) : Int) - 1 := by rw [isub64] <;> simp <;> omega
              repeat' (first
                | (refine vb_t rfl ?_; conv => whnf)
                | (refine vb_f rfl ?_; conv => whnf)
                | (refine vb_t (by assumption) ?_; conv => whnf)
                | (refine vb_f (by assumption) ?_; conv => whnf)
                | (refine vo_i hc ?_; conv => whnf)
                | (refine vo_i hc2 ?_; conv => whnf)
                | (rw [iz_ten]; conv => whnf)
                | fail)
              all_goals refine ⟨⟨(m.set (0 + ((k : Int) - 1).toNat) (UInt8.ofNat (icast .u8 _).toNat), _, k - 1), by simp only [List.length_set]; omega, by simpa using hm⟩, by simp only; omega, cons_eq rfl (cons_eq rfl (cons_eq rfl (cons_eq rfl (cons_eq (slot_eq (osl_eq rfl (by simp))) (cons_eq rfl (cons_eq (slot_eq (I_eq hj)) rfl)))))), cons_eq (arr_eq set_u8) rfl, rfl, rfl⟩
            · have hz : ((m.length : Int) - ((0 : Nat) : Int)) = m.length := by omega
              by_cases hm0 : m.length = 0
              · have q1 : ilt (Int.ofNat 0) ((m.length : Int) - ((0 : Nat) : Int)) = false := by (first | omega | (simp only [ilt_t, ilt_f, ile_t, ile_f, ieq_t, ieq_f, ofn, List.length_map, Bool.not_eq_true', Bool.not_eq_false'] at *; omega))
                repeat' (first
                  | (refine vb_t rfl ?_; conv => whnf)
                  | (refine vb_f rfl ?_; conv => whnf)
                  | (refine vb_t (by assumption) ?_; conv => whnf)
                  | (refine vb_f (by assumption) ?_; conv => whnf)
                  | (refine vb_i (fun h => ?_) (fun h => ?_) <;> conv => whnf)
                  | fail)
                all_goals exact ⟨(_, _), rfl, rfl, trivial⟩
              · have q1 : ilt (Int.ofNat 0) ((m.length : Int) - ((0 : Nat) : Int)) = true := by (first | omega | (simp only [ilt_t, ilt_f, ile_t, ile_f, ieq_t, ieq_f, ofn, List.length_map, Bool.not_eq_true', Bool.not_eq_false'] at *; omega))
                obtain ⟨c, hc, hc2⟩ := irow_take (l := m) (n := Int.ofNat 0) (by (first | omega | (simp only [ilt_t, ilt_f, ile_t, ile_f, ieq_t, ieq_f, ofn, List.length_map, Bool.not_eq_true', Bool.not_eq_false'] at *; omega))) (by (first | omega | (simp only [ilt_t, ilt_f, ile_t, ile_f, ieq_t, ieq_f, ofn, List.length_map, Bool.not_eq_true', Bool.not_eq_false'] at *; omega)))
                repeat' (first
                  | (refine vb_t rfl ?_; conv => whnf)
                  | (refine vb_f rfl ?_; conv => whnf)
                  | (refine vb_t (by assumption) ?_; conv => whnf)
                  | (refine vb_f (by assumption) ?_; conv => whnf)
                  | (refine vo_i hc ?_; conv => whnf)
                  | (refine vo_i hc2 ?_; conv => whnf)
                  | (refine vb_i (fun h => ?_) (fun h => ?_) <;> conv => whnf)
                  | fail)
                all_goals exact ⟨(_, _), rfl, rfl, trivial⟩
  · have q0 : ieq ((e.map byteRow).length : Int) (Int.ofNat 0) = true := by (first | omega | (simp only [ilt_t, ilt_f, ile_t, ile_f, ieq_t, ieq_f, ofn, List.length_map, Bool.not_eq_true', Bool.not_eq_false'] at *; omega))
    repeat' (first
      | (refine vb_t rfl ?_; conv => whnf)
      | (refine vb_f rfl ?_; conv => whnf)
      | (refine vb_t (by assumption) ?_; conv => whnf)
      | (refine vb_f (by assumption) ?_; conv => whnf)
      | (refine vb_i (fun h => ?_) (fun h => ?_) <;> conv => whnf)
      | fail)
    all_goals exact ⟨(_, _), rfl, rfl, trivial⟩

theorem numA_eq (p : NumP) : numA p = .agg [B p.below, S p.whole, S p.part, S p.exp, I p.stop] := rfl
theorem digs_le (s : List UInt8) (i : Nat) : (digs s i).length ≤ s.length := by
  have := (List.takeWhile_prefix isDig (l := s.drop i)).length_le
  unfold digs; simp at this; omega
theorem numP_le (s : List UInt8) : (numP s).whole.length ≤ s.length ∧ (numP s).part.length ≤ s.length ∧ (numP s).exp.length ≤ s.length := by
  have h1 := digs_le s (pA s)
  have h2 : (pP s).length ≤ s.length := by
    unfold pP; split
    · exact digs_le _ _
    · exact Nat.zero_le _
  unfold numP
  split
  · exact ⟨Nat.zero_le _, Nat.zero_le _, Nat.zero_le _⟩
  · split
    · exact ⟨h1, h2, by simp; omega⟩
    · exact ⟨h1, h2, Nat.zero_le _⟩
theorem value_ok (s : List UInt8) (scale : Int) (hs : s.length ≤ 100000) : ∃ x : Int × Int, Pur F0 21 [S s, I scale] [] .no (.ret (.tup [I x.1, I x.2])) .no ∧ True := by
  refine pur_ret (σ := Int × Int) (g := fun x => .tup [I x.1, I x.2]) (Q := fun _ => True) (cf := cfn Tryd.f21) (by kernel_rfl) ?_
  conv => arg 3; reduce
  conv => whnf
  repeat' (first
    | (refine vb_t rfl ?_; conv => whnf)
    | (refine vb_f rfl ?_; conv => whnf)
    | (refine vb_t (by assumption) ?_; conv => whnf)
    | (refine vb_f (by assumption) ?_; conv => whnf)
    | (refine vpur_i (isScale_ok scale) ?_; conv => whnf)
    | fail)
  obtain ⟨l1, l2, l3⟩ := numP_le s
  repeat' (first
    | (refine vb_t rfl ?_; conv => whnf)
    | (refine vb_f rfl ?_; conv => whnf)
    | (refine vb_t (by assumption) ?_; conv => whnf)
    | (refine vb_f (by assumption) ?_; conv => whnf)
    | (refine vpur_i (parts_ok s (by omega)) ?_; conv => whnf)
    | (refine vb_t (room_t (by simp; omega)) ?_; conv => whnf)
    | (refine vb_t (roomS_t (by omega)) ?_; conv => whnf)
    | (refine vb_i (fun h => ?_) (fun h => ?_) <;> conv => whnf)
    | fail)
  all_goals first
    | exact ⟨(_, _), rfl, rfl, trivial⟩
    | skip
  obtain ⟨n, hn, _⟩ := exponent_ok (numP s) (by omega)
  have hL : ((numP s).whole ++ (numP s).part).length ≤ 1000000 := by simp; omega
  refine vloop_eq2 (fr' := [(1, I scale), (4, I 0), (5, I 0), (6, .ptr 0 0), (7, .osl 1 0 0 ((numP s).whole ++ (numP s).part).length), (38, I ((numP s).whole ++ (numP s).part).length), (39, I (0 : Nat))])
    (h' := [⟨.mine, 68, .fix [B (numP s).below, S (numP s).whole, S (numP s).part, S (numP s).exp, I (numP s).stop]⟩, ⟨.mine, 5, .arr false 0 1 (((numP s).whole ++ (numP s).part).map byteRow)⟩]) ?_ ?_ ?_
  · exact cons_eq rfl (cons_eq rfl (cons_eq rfl (cons_eq rfl (cons_eq rfl (cons_eq (slot_eq (I_eq (by omega))) rfl)))))
  · rfl
  generalize (numP s).whole ++ (numP s).part = d0 at hL ⊢
  refine vloop_by (σ := { x : List UInt8 × Nat // x.1.length = d0.length ∧ x.2 ≤ d0.length }) (fun x => [(1, I scale), (4, I 0), (5, I 0), (6, .ptr 0 0), (7, .osl 1 0 0 d0.length), (38, I d0.length), (39, I x.1.2)])
    (fun x => [⟨.mine, 68, .fix [B (numP s).below, S (numP s).whole, S (numP s).part, S (numP s).exp, I (numP s).stop]⟩, ⟨.mine, 5, .arr false 0 1 (x.1.1.map byteRow)⟩]) (fun x => d0.length - x.1.2) ?_ ⟨(d0, 0), rfl, Nat.zero_le _⟩
  rintro ⟨⟨m, k⟩, hm, hk⟩
  simp only at hm hk
  conv => whnf
  refine vb_i (fun h => ?_) (fun h => ?_) <;> conv => whnf
  · have hlt : k < d0.length := by (first | omega | (simp only [ilt_t, ilt_f, ile_t, ile_f, ieq_t, ieq_f, ofn, List.length_map, Bool.not_eq_true', Bool.not_eq_false'] at *; omega))
    obtain ⟨c, hc, hc2⟩ := irow_take (l := m) (n := (k : Int)) (by omega) (by omega)
    rw [hm] at hc
    repeat' (first
      | (refine vb_t rfl ?_; conv => whnf)
      | (refine vb_f rfl ?_; conv => whnf)
      | (refine vb_t (by assumption) ?_; conv => whnf)
      | (refine vb_f (by assumption) ?_; conv => whnf)
      | (refine vo_i hc ?_; conv => whnf)
      | (refine vo_i hc2 ?_; conv => whnf)
      | fail)
    all_goals exact ⟨⟨(m.set (0 + ((k : Int)).toNat) (UInt8.ofNat (isub .u8 _ _).toNat), k + 1), by simpa using hm, by omega⟩, by simp only; omega, cons_eq rfl (cons_eq rfl (cons_eq rfl (cons_eq rfl (cons_eq rfl (cons_eq rfl (cons_eq (slot_eq (I_eq (iadd_one (i := k) (by omega)))) rfl)))))),
      cons_eq rfl (cons_eq (arr_eq set_sub8) rfl), rfl, rfl⟩
  · have hd : (((m.map byteRow).take d0.length).drop 0) = m.map byteRow := by rw [List.drop_zero, List.take_of_length_le (by simp; omega)]
    repeat' (first
      | (refine vb_t rfl ?_; conv => whnf)
      | (refine vb_f rfl ?_; conv => whnf)
      | (refine vb_t (by assumption) ?_; conv => whnf)
      | (refine vb_f (by assumption) ?_; conv => whnf)
      | (refine vpur_i hn ?_; conv => whnf)
      | fail)
    rw [hd]
    obtain ⟨x, hx, _⟩ := scaled_ok m (iadd .i64 ((numP s).whole.length : Int) n) scale (by omega)
    repeat' (first
      | (refine vb_t rfl ?_; conv => whnf)
      | (refine vb_f rfl ?_; conv => whnf)
      | (refine vb_t (by assumption) ?_; conv => whnf)
      | (refine vb_f (by assumption) ?_; conv => whnf)
      | (refine vpur_i hx ?_; conv => whnf)
      | (refine vb_i (fun h => ?_) (fun h => ?_) <;> conv => whnf)
      | fail)
    all_goals exact ⟨(_, _), rfl, rfl, trivial⟩
end Go.Proofs.YtapnjabhcdlhbaaDoor.Ab
