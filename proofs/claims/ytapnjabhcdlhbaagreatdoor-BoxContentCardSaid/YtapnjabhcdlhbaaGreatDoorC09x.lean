/- Some texts as one, one behind the other. -/
import Derived.Test.YtapnjabhcdlhbaaGreatDoorC01d
import Derived.Test.YtapnjabhcdlhbaaGreatDoorAbSome
import Derived.Test.YtapnjabhcdlhbaaGreatDoorC00k
import Derived.Test.YtapnjabhcdlhbaaGreatDoorC09u
import Derived.Test.YtapnjabhcdlhbaaGreatDoorC09l
import Derived.Test.YtapnjabhcdlhbaaGreatDoorAbTy
/- Layer 9 (box): content: whether it may be. -/
namespace Go.Proofs.YtapnjabhcdlhbaaGreatDoor.Ab
open Go
set_option linter.unusedSimpArgs false
set_option maxRecDepth 100000
set_option linter.unusedVariables false
set_option maxHeartbeats 4000000

/-- A box; a line of boxes as it lies; content as it lies. -/
abbrev Bx := Int × Int
def bxRow (b : Bx) : List DV := [.int .i64 b.1, .int .i64 b.2]
def isLine (d : DV) (l : List Bx) : Prop := ((d = .nilsl ∧ l = []) ∨ d = .sl 2 (l.map bxRow)) ∧ l.length ≤ 9223372036854775807
abbrev Ln := DV × List Bx
def lnRow (x : Ln) : List DV := [x.1]
def linesA (w : List Ln) (v : DV) : Prop := (∀ x ∈ w, isLine x.1 x.2) ∧ w.length ≤ 9223372036854775807 ∧ (v = .nilsl ∧ w = [] ∨ v = .sl 1 (w.map lnRow))
def sideOk (n : Int) : Bool := decide (0 ≤ n) && decide (n ≤ 68719476736)
def boxesOk : List Bx → Bool
  | [] => true
  | b :: l => sideOk b.1 && sideOk b.2 && boxesOk l
/-- May it be, with so many boxes ahead of it? -/
def goodFrom (n : Nat) : List Ln → Bool
  | [] => true
  | x :: r => !x.2.isEmpty && decide (n + x.2.length ≤ 256) && boxesOk x.2 && goodFrom (n + x.2.length) r
theorem ret_B {a b : Bool} (h : a = b) : (CR.ret (B a)) = CR.ret (B b) := by rw [h]
theorem drop_get {α : Type} {l : List α} {i : Nat} {x : α} (h : l[i]? = some x) : l.drop i = x :: l.drop (i + 1) := by
  obtain ⟨h1, h2⟩ := List.getElem?_eq_some_iff.1 h
  rw [List.drop_eq_getElem_cons h1, h2]
theorem side_ok (n : Int) : Pur F0 99 [I n] [] .no (.ret (B (sideOk n))) .no := by
  refine pur_code code99_ok ?_
  conv => whnf
  repeat' (first
    | (refine vb_t rfl ?_; conv => whnf)
    | (refine vb_f rfl ?_; conv => whnf)
    | (refine vb_t (by assumption) ?_; conv => whnf)
    | (refine vb_f (by assumption) ?_; conv => whnf)
    | (refine vpur_i (fixedIs_ok _) ?_; conv => whnf)
    | (refine vb_i (fun h => ?_) (fun h => ?_) <;> conv => whnf)
    | fail)
  all_goals refine ⟨ret_B ?_, by trivial⟩
  · rw [ile_t] at h
    have h0 : (0 : Int) ≤ n := h
    have h1 : (-68719476736 : Int) ≤ n := by omega
    simp only [sideOk, isPx, decide_eq_true h0, decide_eq_true h1, Bool.true_and]
  · rw [ile_f] at h
    have h0 : ¬ (0 : Int) ≤ n := Int.not_le.2 h
    simp only [sideOk, decide_eq_false h0, Bool.false_and]
theorem bad_box {x y : Int} (h : x < 0 ∨ 68719476736 < x ∨ y < 0 ∨ 68719476736 < y) : (sideOk x && sideOk y) = false := by
  simp only [sideOk, Bool.and_eq_false_iff, decide_eq_false_iff_not]; omega
theorem good_box {x y : Int} (h1 : 0 ≤ x) (h2 : x ≤ 68719476736) (h3 : 0 ≤ y) (h4 : y ≤ 68719476736) : (sideOk x && sideOk y) = true := by
  simp only [sideOk, Bool.and_eq_true, decide_eq_true_eq]; omega
theorem lt00 : ilt 0 0 = false := by rw [ilt_f]; decide
theorem eq00 : ieq (Int.ofNat 0) (Int.ofNat 0) = true := by rw [ieq_t]
theorem wgood_ok (w : List Ln) (v : DV) (h : linesA w v) : Pur F0 39 [.d v] [] .no (.ret (B (goodFrom 0 w))) .no := by
  have q0 := lt00
  obtain ⟨hl, hlen, ⟨rfl, rfl⟩ | rfl⟩ := h
  · refine pur_code code39_ok ?_
    conv => whnf
    repeat' (first
      | (refine vb_t rfl ?_; conv => whnf)
      | (refine vb_f rfl ?_; conv => whnf)
      | (refine vb_t (by assumption) ?_; conv => whnf)
      | (refine vb_f (by assumption) ?_; conv => whnf)
      | (refine vloop_once ?_; conv => whnf)
      | fail)
    exact ⟨by trivial, by trivial⟩
  · refine pur_code code39_ok ?_
    conv => whnf
    refine vloop_eq2 (fr' := [(2, B false), (3, I (256 - ((0 : Nat) : Int))), (4, .fn .pure 99 [] []), (9, .d (.sl 1 (w.map lnRow))), (10, I (w.map lnRow).length), (11, I ((0 : Nat) : Int))]) rfl rfl ?_
    refine vloop_by (σ := { p : Nat × Nat // p.1 ≤ w.length ∧ p.2 ≤ 256 ∧ goodFrom p.2 (w.drop p.1) = goodFrom 0 w }) (fun p => [(2, B false), (3, I (256 - (p.1.2 : Int))), (4, .fn .pure 99 [] []), (9, .d (.sl 1 (w.map lnRow))), (10, I (w.map lnRow).length), (11, I (p.1.1 : Int))]) (fun _ => []) (fun p => w.length - p.1.1) ?_ ⟨(0, 0), by simp, by simp, rfl⟩
    rintro ⟨⟨i, n⟩, hi, hn, hg⟩
    conv => whnf
    simp only at hi hn hg
    refine vb_i (fun h => ?_) (fun h => ?_) <;> conv => whnf
    · have hlt : i < w.length := by (first | omega | (simp only [ilt_t, ilt_f, ile_t, ile_f, ieq_t, ieq_f, ofn, List.length_map, Bool.not_eq_true', Bool.not_eq_false'] at *; omega))
      obtain ⟨⟨d, l⟩, hx⟩ : ∃ x, w[i]? = some x := ⟨w[i], List.getElem?_eq_getElem hlt⟩
      have hr : iget (w.map lnRow) (i : Int) = some (lnRow (d, l)) := iget_t (by rw [List.getElem?_map, hx]; rfl)
      rw [drop_get hx] at hg
      have hll := hl (d, l) (List.mem_of_getElem? hx)
      obtain ⟨⟨e1, e2⟩ | e1, hll⟩ := hll
      · obtain rfl : d = .nilsl := e1
        obtain rfl : l = [] := e2
        have hF : goodFrom 0 w = false := by rw [← hg]; rfl
        have q1 : ieq 0 (Int.ofNat 0) = true := eq00
        repeat' (first
          | (refine vb_t rfl ?_; conv => whnf)
          | (refine vb_f rfl ?_; conv => whnf)
          | (refine vb_t (by assumption) ?_; conv => whnf)
          | (refine vb_f (by assumption) ?_; conv => whnf)
          | (refine vo_i hr ?_; conv => whnf)
          | fail)
        exact ⟨ret_B hF.symm, by trivial⟩
      · obtain rfl : d = .sl 2 (l.map bxRow) := e1
        have hll : l.length ≤ 9223372036854775807 := hll
        by_cases hz : l.length = 0
        · have hF : goodFrom 0 w = false := by rw [← hg]; have := List.length_eq_zero_iff.1 hz; subst this; rfl
          have q1 : ieq ((l.map bxRow).length : Int) (Int.ofNat 0) = true := by rw [ieq_t, List.length_map, hz]; rfl
          repeat' (first
            | (refine vb_t rfl ?_; conv => whnf)
            | (refine vb_f rfl ?_; conv => whnf)
            | (refine vb_t (by assumption) ?_; conv => whnf)
            | (refine vb_f (by assumption) ?_; conv => whnf)
            | (refine vo_i hr ?_; conv => whnf)
            | fail)
          exact ⟨ret_B hF.symm, by trivial⟩
        · have q1 : ieq ((l.map bxRow).length : Int) (Int.ofNat 0) = false := by rw [ieq_f, List.length_map, ofn]; omega
          by_cases hm : 256 < n + l.length
          · have hF : goodFrom 0 w = false := by rw [← hg]; simp only [goodFrom, decide_eq_false (Nat.not_le.2 hm), Bool.and_false, Bool.false_and]
            have q2 : ilt (256 - (n : Int)) ((l.map bxRow).length : Int) = true := by rw [ilt_t, List.length_map]; omega
            repeat' (first
              | (refine vb_t rfl ?_; conv => whnf)
              | (refine vb_f rfl ?_; conv => whnf)
              | (refine vb_t (by assumption) ?_; conv => whnf)
              | (refine vb_f (by assumption) ?_; conv => whnf)
              | (refine vo_i hr ?_; conv => whnf)
              | fail)
            exact ⟨ret_B hF.symm, by trivial⟩
          · have q2 : ilt (256 - (n : Int)) ((l.map bxRow).length : Int) = false := by rw [ilt_f, List.length_map]; omega
            have hg2 : goodFrom 0 w = (boxesOk l && goodFrom (n + l.length) (w.drop (i + 1))) := by
              rw [← hg]
              have h1 : l.isEmpty = false := by cases l with | nil => simp at hz | cons => rfl
              simp only [goodFrom, h1, decide_eq_true (Nat.not_lt.1 hm), Bool.not_false, Bool.true_and]
            repeat' (first
              | (refine vb_t rfl ?_; conv => whnf)
              | (refine vb_f rfl ?_; conv => whnf)
              | (refine vb_t (by assumption) ?_; conv => whnf)
              | (refine vb_f (by assumption) ?_; conv => whnf)
              | (refine vo_i hr ?_; conv => whnf)
              | fail)
            refine vloop_by (σ := { k : Nat // k ≤ l.length ∧ boxesOk (l.drop k) = boxesOk l }) (fun k => [(2, B false), (3, I (isub .i64 (256 - (n : Int)) ((l.map bxRow).length : Int))), (4, .fn .pure 99 [] []), (9, .d (.sl 1 (w.map lnRow))), (10, I (w.map lnRow).length), (11, I (i : Int)), (28, .d (.sl 2 (l.map bxRow))), (29, I (l.map bxRow).length), (30, I (k.1 : Int))]) (fun _ => []) (fun k => l.length - k.1) ?_ ⟨0, Nat.zero_le _, rfl⟩
            rintro ⟨k, hk, hb⟩
            conv => whnf
            refine vb_i (fun h' => ?_) (fun h' => ?_) <;> conv => whnf
            · have hlk : k < l.length := by (first | omega | (simp only [ilt_t, ilt_f, ile_t, ile_f, ieq_t, ieq_f, ofn, List.length_map, Bool.not_eq_true', Bool.not_eq_false'] at *; omega))
              obtain ⟨⟨x, y⟩, hxy⟩ : ∃ b, l[k]? = some b := ⟨l[k], List.getElem?_eq_getElem hlk⟩
              have hr2 : iget (l.map bxRow) (k : Int) = some (bxRow (x, y)) := iget_t (by rw [List.getElem?_map, hxy]; rfl)
              rw [drop_get hxy] at hb
              repeat' (first
                | (refine vb_t rfl ?_; conv => whnf)
                | (refine vb_f rfl ?_; conv => whnf)
                | (refine vb_t (by assumption) ?_; conv => whnf)
                | (refine vb_f (by assumption) ?_; conv => whnf)
                | (refine vo_i hr2 ?_; conv => whnf)
                | (refine vpur_i (side_ok x) ?_; conv => whnf)
                | fail)
              refine vb_i (fun h2 => ?_) (fun h2 => ?_) <;> conv => whnf
              · have h3 : sideOk x = false := by simpa using h2
                repeat' (first
                  | (refine vb_t rfl ?_; conv => whnf)
                  | (refine vb_f rfl ?_; conv => whnf)
                  | (refine vb_t (by assumption) ?_; conv => whnf)
                  | (refine vb_f (by assumption) ?_; conv => whnf)
                  | fail)
                refine ⟨ret_B ?_, by trivial⟩
                rw [hg2, ← hb]; simp only [boxesOk, h3, Bool.false_and]
              · have h3 : sideOk x = true := by simpa using h2
                repeat' (first
                  | (refine vb_t rfl ?_; conv => whnf)
                  | (refine vb_f rfl ?_; conv => whnf)
                  | (refine vb_t (by assumption) ?_; conv => whnf)
                  | (refine vb_f (by assumption) ?_; conv => whnf)
                  | (refine vpur_i (side_ok y) ?_; conv => whnf)
                  | fail)
                refine vb_i (fun h4 => ?_) (fun h4 => ?_) <;> conv => whnf
                · have h5 : sideOk y = false := by simpa using h4
                  repeat' (first
                    | (refine vb_t rfl ?_; conv => whnf)
                    | (refine vb_f rfl ?_; conv => whnf)
                    | (refine vb_t (by assumption) ?_; conv => whnf)
                    | (refine vb_f (by assumption) ?_; conv => whnf)
                    | fail)
                  refine ⟨ret_B ?_, by trivial⟩
                  rw [hg2, ← hb]; simp only [boxesOk, h3, h5, Bool.and_false, Bool.false_and]
                · have h5 : sideOk y = true := by simpa using h4
                  repeat' (first
                    | (refine vb_t rfl ?_; conv => whnf)
                    | (refine vb_f rfl ?_; conv => whnf)
                    | (refine vb_t (by assumption) ?_; conv => whnf)
                    | (refine vb_f (by assumption) ?_; conv => whnf)
                    | fail)
                  refine ⟨⟨k + 1, hlk, ?_⟩, by simp only; omega, cons_eq rfl (cons_eq rfl (cons_eq rfl (cons_eq rfl (cons_eq rfl (cons_eq rfl (cons_eq rfl (cons_eq rfl (cons_eq (slot_eq (I_eq (iadd_one (i := k) (by omega)))) rfl)))))))), rfl, rfl, rfl⟩
                  rw [← hb]; simp only [boxesOk, h3, h5, Bool.true_and]
            · have hk2 : k = l.length := by (first | omega | (simp only [ilt_t, ilt_f, ile_t, ile_f, ieq_t, ieq_f, ofn, List.length_map, Bool.not_eq_true', Bool.not_eq_false'] at *; omega))
              have hbt : boxesOk l = true := by rw [← hb, hk2, List.drop_length]; rfl
              have e3 : isub .i64 (256 - (n : Int)) ((l.map bxRow).length : Int) = 256 - ((n + l.length : Nat) : Int) := by rw [List.length_map, isub64 (by omega) (by omega)]; omega
              repeat' (first
                | (refine vb_t rfl ?_; conv => whnf)
                | (refine vb_f rfl ?_; conv => whnf)
                | (refine vb_t (by assumption) ?_; conv => whnf)
                | (refine vb_f (by assumption) ?_; conv => whnf)
                | fail)
              refine ⟨⟨(i + 1, n + l.length), hlt, by show n + l.length ≤ 256; omega, ?_⟩, by simp only; omega, cons_eq rfl (cons_eq (slot_eq (I_eq ?_)) (cons_eq rfl (cons_eq rfl (cons_eq rfl (cons_eq (slot_eq (I_eq (iadd_one (i := i) (by omega)))) rfl))))), rfl, rfl, rfl⟩
              · rw [hg2, hbt, Bool.true_and]
              · exact e3
    · have hi2 : i = w.length := by (first | omega | (simp only [ilt_t, ilt_f, ile_t, ile_f, ieq_t, ieq_f, ofn, List.length_map, Bool.not_eq_true', Bool.not_eq_false'] at *; omega))
      have hF : goodFrom 0 w = true := by rw [← hg, hi2, List.drop_length]; rfl
      repeat' (first
        | (refine vb_t rfl ?_; conv => whnf)
        | (refine vb_f rfl ?_; conv => whnf)
        | (refine vb_t (by assumption) ?_; conv => whnf)
        | (refine vb_f (by assumption) ?_; conv => whnf)
        | fail)
      exact ⟨ret_B hF.symm, by trivial⟩
theorem rwgood_ok (w : List Ln) (v : DV) (h : linesA w v) : Pur F0 40 [.d v] [] .no (.ret (B (goodFrom 0 w))) .no := by
  have q0 := lt00
  obtain ⟨hl, hlen, ⟨rfl, rfl⟩ | rfl⟩ := h
  · refine pur_code code40_ok ?_
    conv => whnf
    have q1 : ilt (Int.ofNat 0) 0 = false := q0
    repeat' (first
      | (refine vb_t rfl ?_; conv => whnf)
      | (refine vb_f rfl ?_; conv => whnf)
      | (refine vb_t (by assumption) ?_; conv => whnf)
      | (refine vb_f (by assumption) ?_; conv => whnf)
      | (refine vloop_once ?_; conv => whnf)
      | fail)
    exact ⟨by trivial, by trivial⟩
  · refine pur_code code40_ok ?_
    conv => whnf
    refine vloop_eq2 (fr' := [(0, .d (.sl 1 (w.map lnRow))), (2, B false), (3, I ((0 : Nat) : Int)), (4, I ((0 : Nat) : Int))]) rfl rfl ?_
    refine vloop_by (σ := { p : Nat × Nat // p.1 ≤ w.length ∧ p.2 ≤ 256 ∧ goodFrom p.2 (w.drop p.1) = goodFrom 0 w }) (fun p => [(0, .d (.sl 1 (w.map lnRow))), (2, B false), (3, I (p.1.2 : Int)), (4, I (p.1.1 : Int))]) (fun _ => []) (fun p => w.length - p.1.1) ?_ ⟨(0, 0), by simp, by simp, rfl⟩
    rintro ⟨⟨i, n⟩, hi, hn, hg⟩
    conv => whnf
    simp only at hi hn hg
    refine vb_i (fun h => ?_) (fun h => ?_) <;> conv => whnf
    · have hlt : i < w.length := by (first | omega | (simp only [ilt_t, ilt_f, ile_t, ile_f, ieq_t, ieq_f, ofn, List.length_map, Bool.not_eq_true', Bool.not_eq_false'] at *; omega))
      obtain ⟨⟨d, l⟩, hx⟩ : ∃ x, w[i]? = some x := ⟨w[i], List.getElem?_eq_getElem hlt⟩
      have hr : iget (w.map lnRow) (i : Int) = some (lnRow (d, l)) := iget_t (by rw [List.getElem?_map, hx]; rfl)
      rw [drop_get hx] at hg
      have hll := hl (d, l) (List.mem_of_getElem? hx)
      obtain ⟨⟨e1, e2⟩ | e1, hll⟩ := hll
      · obtain rfl : d = .nilsl := e1
        obtain rfl : l = [] := e2
        have hF : goodFrom 0 w = false := by rw [← hg]; rfl
        have q1 : ieq 0 (Int.ofNat 0) = true := eq00
        repeat' (first
          | (refine vb_t rfl ?_; conv => whnf)
          | (refine vb_f rfl ?_; conv => whnf)
          | (refine vb_t (by assumption) ?_; conv => whnf)
          | (refine vb_f (by assumption) ?_; conv => whnf)
          | (refine vo_i hr ?_; conv => whnf)
          | fail)
        exact ⟨ret_B hF.symm, by trivial⟩
      · obtain rfl : d = .sl 2 (l.map bxRow) := e1
        have hll : l.length ≤ 9223372036854775807 := hll
        by_cases hz : l.length = 0
        · have hF : goodFrom 0 w = false := by rw [← hg]; have := List.length_eq_zero_iff.1 hz; subst this; rfl
          have q1 : ieq ((l.map bxRow).length : Int) (Int.ofNat 0) = true := by rw [ieq_t, List.length_map, hz]; rfl
          repeat' (first
            | (refine vb_t rfl ?_; conv => whnf)
            | (refine vb_f rfl ?_; conv => whnf)
            | (refine vb_t (by assumption) ?_; conv => whnf)
            | (refine vb_f (by assumption) ?_; conv => whnf)
            | (refine vo_i hr ?_; conv => whnf)
            | fail)
          exact ⟨ret_B hF.symm, by trivial⟩
        · have q1 : ieq ((l.map bxRow).length : Int) (Int.ofNat 0) = false := by rw [ieq_f, List.length_map, ofn]; omega
          have hg2 : goodFrom 0 w = (decide (n + l.length ≤ 256) && boxesOk l && goodFrom (n + l.length) (w.drop (i + 1))) := by
            rw [← hg]
            have h1 : l.isEmpty = false := by cases l with | nil => simp at hz | cons => rfl
            simp only [goodFrom, h1, Bool.not_false, Bool.true_and]
          repeat' (first
            | (refine vb_t rfl ?_; conv => whnf)
            | (refine vb_f rfl ?_; conv => whnf)
            | (refine vb_t (by assumption) ?_; conv => whnf)
            | (refine vb_f (by assumption) ?_; conv => whnf)
            | (refine vo_i hr ?_; conv => whnf)
            | fail)
          refine vloop_eq2 (fr' := [(0, .d (.sl 1 (w.map lnRow))), (2, B false), (3, I ((n + 0 : Nat) : Int)), (4, I (i : Int)), (5, I ((0 : Nat) : Int))]) rfl rfl ?_
          refine vloop_by (σ := { k : Nat // k ≤ l.length ∧ n + k ≤ 256 ∧ boxesOk (l.drop k) = boxesOk l }) (fun k => [(0, .d (.sl 1 (w.map lnRow))), (2, B false), (3, I ((n + k.1 : Nat) : Int)), (4, I (i : Int)), (5, I (k.1 : Int))]) (fun _ => []) (fun k => l.length - k.1) ?_ ⟨0, Nat.zero_le _, hn, rfl⟩
          rintro ⟨k, hk, hnk, hb⟩
          conv => whnf
          repeat' (first
            | (refine vb_t rfl ?_; conv => whnf)
            | (refine vb_f rfl ?_; conv => whnf)
            | (refine vb_t (by assumption) ?_; conv => whnf)
            | (refine vb_f (by assumption) ?_; conv => whnf)
            | (refine vo_i hr ?_; conv => whnf)
            | fail)
          refine vb_i (fun h' => ?_) (fun h' => ?_) <;> conv => whnf
          · have hlk : k < l.length := by (first | omega | (simp only [ilt_t, ilt_f, ile_t, ile_f, ieq_t, ieq_f, ofn, List.length_map, Bool.not_eq_true', Bool.not_eq_false'] at *; omega))
            obtain ⟨⟨x, y⟩, hxy⟩ : ∃ b, l[k]? = some b := ⟨l[k], List.getElem?_eq_getElem hlk⟩
            have hr2 : iget (l.map bxRow) (k : Int) = some (bxRow (x, y)) := iget_t (by rw [List.getElem?_map, hxy]; rfl)
            rw [drop_get hxy] at hb
            have ei : iadd .i64 ((n + k : Nat) : Int) (Int.ofNat 1) = ((n + k + 1 : Nat) : Int) := iadd_one (by omega)
            by_cases hA : 256 < n + k + 1
            · have q2 : ilt (Int.ofNat 256) ((n + k + 1 : Nat) : Int) = true := by rw [ilt_t, ofn]; omega
              have hF : goodFrom 0 w = false := by rw [hg2, decide_eq_false (by omega)]; rfl
              repeat' (first
                | (refine vb_t rfl ?_; conv => whnf)
                | (refine vb_f rfl ?_; conv => whnf)
                | (refine vb_t (by assumption) ?_; conv => whnf)
                | (refine vb_f (by assumption) ?_; conv => whnf)
                | (refine vo_i hr ?_; conv => whnf)
                | (refine vo_i hr2 ?_; conv => whnf)
                | (rw [ei]; conv => whnf)
                | fail)
              exact ⟨ret_B hF.symm, by trivial⟩
            · have q2 : ilt (Int.ofNat 256) ((n + k + 1 : Nat) : Int) = false := by rw [ilt_f, ofn]; omega
              have hF : (sideOk x && sideOk y) = false → goodFrom 0 w = false := fun hs => by rw [hg2, ← hb]; simp only [boxesOk, hs, Bool.false_and, Bool.and_false]
              repeat' (first
                | (refine vb_t rfl ?_; conv => whnf)
                | (refine vb_f rfl ?_; conv => whnf)
                | (refine vb_t (by assumption) ?_; conv => whnf)
                | (refine vb_f (by assumption) ?_; conv => whnf)
                | (refine vo_i hr ?_; conv => whnf)
                | (refine vo_i hr2 ?_; conv => whnf)
                | (rw [ei]; conv => whnf)
                | (refine vb_i (fun h => ?_) (fun h => ?_) <;> conv => whnf)
                | fail)
              · exact ⟨ret_B (hF (bad_box (.inl (ilt_t.mp ‹_›)))).symm, by trivial⟩
              · exact ⟨ret_B (hF (bad_box (.inr (.inl (ilt_t.mp ‹_›))))).symm, by trivial⟩
              · exact ⟨ret_B (hF (bad_box (.inr (.inr (.inl (ilt_t.mp ‹_›)))))).symm, by trivial⟩
              · exact ⟨ret_B (hF (bad_box (.inr (.inr (.inr (ilt_t.mp ‹_›)))))).symm, by trivial⟩
              · rename_i h1 h2 h3
                have hgb : (sideOk x && sideOk y) = true := good_box (ilt_f.mp h1) (ilt_f.mp h2) (ilt_f.mp h3) (ilt_f.mp h)
                refine ⟨⟨k + 1, hlk, by omega, ?_⟩, by simp only; omega, cons_eq rfl (cons_eq rfl (cons_eq rfl (cons_eq rfl (cons_eq (slot_eq (I_eq (iadd_one (i := k) (by omega)))) rfl)))), rfl, rfl, rfl⟩
                rw [← hb]; simp only [boxesOk, hgb, Bool.true_and]
          · have hk2 : k = l.length := by (first | omega | (simp only [ilt_t, ilt_f, ile_t, ile_f, ieq_t, ieq_f, ofn, List.length_map, Bool.not_eq_true', Bool.not_eq_false'] at *; omega))
            have hbt : boxesOk l = true := by rw [← hb, hk2, List.drop_length]; rfl
            subst hk2
            repeat' (first
              | (refine vb_t rfl ?_; conv => whnf)
              | (refine vb_f rfl ?_; conv => whnf)
              | (refine vb_t (by assumption) ?_; conv => whnf)
              | (refine vb_f (by assumption) ?_; conv => whnf)
              | fail)
            refine ⟨⟨(i + 1, n + l.length), hlt, hnk, ?_⟩, by simp only; omega, cons_eq rfl (cons_eq rfl (cons_eq rfl (cons_eq (slot_eq (I_eq (iadd_one (i := i) (by omega)))) rfl))), rfl, rfl, rfl⟩
            rw [hg2, hbt, decide_eq_true hnk, Bool.true_and, Bool.true_and]
    · have hi2 : i = w.length := by (first | omega | (simp only [ilt_t, ilt_f, ile_t, ile_f, ieq_t, ieq_f, ofn, List.length_map, Bool.not_eq_true', Bool.not_eq_false'] at *; omega))
      have hF : goodFrom 0 w = true := by rw [← hg, hi2, List.drop_length]; rfl
      repeat' (first
        | (refine vb_t rfl ?_; conv => whnf)
        | (refine vb_f rfl ?_; conv => whnf)
        | (refine vb_t (by assumption) ?_; conv => whnf)
        | (refine vb_f (by assumption) ?_; conv => whnf)
        | fail)
      exact ⟨ret_B hF.symm, by trivial⟩
/-- Is it not more than is looked at? Some answer. -/
theorem light_ok (w : List Ln) (v : DV) (h : linesA w v) : ∃ b : Bool, Pur F0 38 [.d v] [] .no (.ret (B b)) .no := by
  have q0 := lt00
  obtain ⟨hl, hlen, ⟨rfl, rfl⟩ | rfl⟩ := h
  · refine ⟨true, ?_⟩
    refine pur_code code38_ok ?_
    conv => whnf
    repeat' (first
      | (refine vb_t rfl ?_; conv => whnf)
      | (refine vb_f rfl ?_; conv => whnf)
      | (refine vb_t (by assumption) ?_; conv => whnf)
      | (refine vb_f (by assumption) ?_; conv => whnf)
      | (refine vloop_once ?_; conv => whnf)
      | fail)
    exact ⟨by trivial, by trivial⟩
  · suffices hs : ∃ b : Bool, Pur F0 38 [.d (.sl 1 (w.map lnRow))] [] .no (.ret (B b)) .no ∧ True from ⟨hs.choose, hs.choose_spec.1⟩
    refine pur_ret (g := B) (Q := fun _ => True) code38_ok ?_
    conv => whnf
    refine vloop_eq2 (fr' := [(2, B false), (3, I ((0 : Nat) : Int)), (6, .d (.sl 1 (w.map lnRow))), (7, I (w.map lnRow).length), (8, I ((0 : Nat) : Int))]) rfl rfl ?_
    refine vloop_by (σ := { p : Nat × Nat // p.1 ≤ w.length ∧ p.2 ≤ 600 }) (fun p => [(2, B false), (3, I (p.1.2 : Int)), (6, .d (.sl 1 (w.map lnRow))), (7, I (w.map lnRow).length), (8, I (p.1.1 : Int))]) (fun _ => []) (fun p => w.length - p.1.1) ?_ ⟨(0, 0), by simp, by simp⟩
    rintro ⟨⟨i, n⟩, hi, hn⟩
    conv => whnf
    simp only at hi hn
    refine vb_i (fun h => ?_) (fun h => ?_) <;> conv => whnf
    · have hlt : i < w.length := by (first | omega | (simp only [ilt_t, ilt_f, ile_t, ile_f, ieq_t, ieq_f, ofn, List.length_map, Bool.not_eq_true', Bool.not_eq_false'] at *; omega))
      obtain ⟨⟨d, l⟩, hx⟩ : ∃ x, w[i]? = some x := ⟨w[i], List.getElem?_eq_getElem hlt⟩
      have hr : iget (w.map lnRow) (i : Int) = some (lnRow (d, l)) := iget_t (by rw [List.getElem?_map, hx]; rfl)
      have hll := hl (d, l) (List.mem_of_getElem? hx)
      have main : ∀ m : Nat, m ≤ 9223372036854775807 → ∃ m' : Nat, m' ≤ 1001 ∧ iadd .i64 (Int.ofNat 1) (imin (m : Int) (Int.ofNat 1000)) = (m' : Int) ∧ iadd .i64 (n : Int) (m' : Int) = ((n + m' : Nat) : Int) := by
        intro m hm
        have e : ∃ z : Nat, z ≤ 1000 ∧ imin (m : Int) (Int.ofNat 1000) = (z : Int) := by
          rw [imin_d, ofn]
          by_cases hz : (1000 : Int) < m
          · exact ⟨1000, by omega, by split <;> omega⟩
          · exact ⟨m, by omega, by split <;> omega⟩
        obtain ⟨z, hz, e⟩ := e
        refine ⟨1 + z, by omega, ?_, ?_⟩
        · rw [e, ofn, iadd64 (by omega) (by omega)]; omega
        · rw [iadd64 (by omega) (by omega)]; omega
      obtain ⟨⟨e1, e2⟩ | e1, hll⟩ := hll
      · obtain rfl : d = .nilsl := e1
        obtain rfl : l = [] := e2
        obtain ⟨m, hm, e1, e2⟩ := main 0 (by omega)
        have e1 : iadd .i64 (Int.ofNat 1) (imin 0 (Int.ofNat 1000)) = (m : Int) := e1
        repeat' (first
          | (refine vb_t rfl ?_; conv => whnf)
          | (refine vb_f rfl ?_; conv => whnf)
          | (refine vb_t (by assumption) ?_; conv => whnf)
          | (refine vb_f (by assumption) ?_; conv => whnf)
          | (refine vo_i hr ?_; conv => whnf)
          | (rw [e1, e2]; conv => whnf)
          | fail)
        refine vb_i (fun h6 => ?_) (fun h6 => ?_) <;> conv => whnf
        · repeat' (first
            | (refine vb_t rfl ?_; conv => whnf)
            | (refine vb_f rfl ?_; conv => whnf)
            | (refine vb_t (by assumption) ?_; conv => whnf)
            | (refine vb_f (by assumption) ?_; conv => whnf)
            | fail)
          exact ⟨false, rfl, rfl, trivial⟩
        · have h7 : n + m ≤ 600 := by rw [ilt_f, ofn] at h6; omega
          repeat' (first
            | (refine vb_t rfl ?_; conv => whnf)
            | (refine vb_f rfl ?_; conv => whnf)
            | (refine vb_t (by assumption) ?_; conv => whnf)
            | (refine vb_f (by assumption) ?_; conv => whnf)
            | fail)
          exact ⟨⟨(i + 1, n + m), hlt, h7⟩, by simp only; omega, cons_eq rfl (cons_eq rfl (cons_eq rfl (cons_eq rfl (cons_eq (slot_eq (I_eq (iadd_one (i := i) (by omega)))) rfl)))), rfl, rfl, rfl⟩
      · obtain rfl : d = .sl 2 (l.map bxRow) := e1
        have hll : l.length ≤ 9223372036854775807 := hll
        obtain ⟨m, hm, e1, e2⟩ := main (l.map bxRow).length (by rw [List.length_map]; exact hll)
        repeat' (first
          | (refine vb_t rfl ?_; conv => whnf)
          | (refine vb_f rfl ?_; conv => whnf)
          | (refine vb_t (by assumption) ?_; conv => whnf)
          | (refine vb_f (by assumption) ?_; conv => whnf)
          | (refine vo_i hr ?_; conv => whnf)
          | (rw [e1, e2]; conv => whnf)
          | fail)
        refine vb_i (fun h6 => ?_) (fun h6 => ?_) <;> conv => whnf
        · repeat' (first
            | (refine vb_t rfl ?_; conv => whnf)
            | (refine vb_f rfl ?_; conv => whnf)
            | (refine vb_t (by assumption) ?_; conv => whnf)
            | (refine vb_f (by assumption) ?_; conv => whnf)
            | fail)
          exact ⟨false, rfl, rfl, trivial⟩
        · have h7 : n + m ≤ 600 := by rw [ilt_f, ofn] at h6; omega
          repeat' (first
            | (refine vb_t rfl ?_; conv => whnf)
            | (refine vb_f rfl ?_; conv => whnf)
            | (refine vb_t (by assumption) ?_; conv => whnf)
            | (refine vb_f (by assumption) ?_; conv => whnf)
            | fail)
          exact ⟨⟨(i + 1, n + m), hlt, h7⟩, by simp only; omega, cons_eq rfl (cons_eq rfl (cons_eq rfl (cons_eq rfl (cons_eq (slot_eq (I_eq (iadd_one (i := i) (by omega)))) rfl)))), rfl, rfl, rfl⟩
    · repeat' (first
        | (refine vb_t rfl ?_; conv => whnf)
        | (refine vb_f rfl ?_; conv => whnf)
        | (refine vb_t (by assumption) ?_; conv => whnf)
        | (refine vb_f (by assumption) ?_; conv => whnf)
        | fail)
      exact ⟨true, rfl, rfl, trivial⟩
end Go.Proofs.YtapnjabhcdlhbaaGreatDoor.Ab
/- Layer 9 (box): whether two contents are the same. -/
namespace Go.Proofs.YtapnjabhcdlhbaaGreatDoor.Ab
open Go
set_option linter.unusedSimpArgs false
set_option maxRecDepth 100000
set_option linter.unusedVariables false
set_option maxHeartbeats 4000000

def sameBx (a b : List Bx) : Bool := decide (a = b)
theorem sameB_ok (a b c d : Int) : Pur F0 103 [.agg [I a, I b], .agg [I c, I d]] [] .no (.ret (B (decide (((a, b) : Bx) = (c, d))))) .no := by
  refine pur_code code103_ok ?_
  conv => whnf
  refine ⟨ret_B ?_, by trivial⟩
  rw [ieq_d, ieq_d, Bool.eq_iff_iff]
  simp only [Bool.and_eq_true, decide_eq_true_eq, Prod.mk.injEq]
theorem dec_cons {α : Type} [DecidableEq α] {x y : α} {a b : List α} (h : x = y) : decide (x :: a = y :: b) = decide (a = b) := by
  subst h; rw [Bool.eq_iff_iff]; simp
theorem dec_cons_f {α : Type} [DecidableEq α] {x y : α} {a b : List α} (h : x ≠ y) : decide (x :: a = y :: b) = false := by simp [h]
theorem dec_len {α : Type} [DecidableEq α] {a b : List α} (h : a.length ≠ b.length) : decide (a = b) = false := by
  rw [decide_eq_false_iff_not]; rintro rfl; exact h rfl
theorem equal2_ok (d e : DV) (l m : List Bx) (hd : isLine d l) (he : isLine e m) : Drp F0 0 106 [.d d, .d e, .fn .pure 103 [] []] [] .no (.ret (B (sameBx l m))) [] .no := by
  have q0 : ilt (Int.ofNat 0) 0 = false := lt00
  have q00 : ieq 0 0 = true := by rw [ieq_t]
  obtain ⟨⟨rfl, rfl⟩ | rfl, hdl⟩ := hd
  · obtain ⟨⟨rfl, rfl⟩ | rfl, hel⟩ := he
    · refine drp_code code106_ok ?_
      conv => whnf
      repeat' (first
        | (refine vb_t rfl ?_; conv => whnf)
        | (refine vb_f rfl ?_; conv => whnf)
        | (refine vb_t (by assumption) ?_; conv => whnf)
        | (refine vb_f (by assumption) ?_; conv => whnf)
        | (rw [q00]; conv => whnf)
        | (refine vloop_once ?_; conv => whnf)
        | fail)
      exact ⟨by trivial, rfl, rfl⟩
    · refine drp_code code106_ok ?_
      conv => whnf
      by_cases hm : m = []
      · subst hm
        have q1 : ieq 0 (([] : List Bx).map bxRow).length = true := q00
        repeat' (first
          | (refine vb_t rfl ?_; conv => whnf)
          | (refine vb_f rfl ?_; conv => whnf)
          | (refine vb_t (by assumption) ?_; conv => whnf)
          | (refine vb_f (by assumption) ?_; conv => whnf)
          | (rw [q1]; conv => whnf)
          | (refine vloop_once ?_; conv => whnf)
          | fail)
        exact ⟨by trivial, rfl, rfl⟩
      · have hm2 : m.length ≠ 0 := fun h => hm (List.length_eq_zero_iff.1 h)
        have q1 : ieq 0 (m.map bxRow).length = false := by rw [ieq_f, List.length_map]; omega
        repeat' (first
          | (refine vb_t rfl ?_; conv => whnf)
          | (refine vb_f rfl ?_; conv => whnf)
          | (refine vb_t (by assumption) ?_; conv => whnf)
          | (refine vb_f (by assumption) ?_; conv => whnf)
          | (rw [q1]; conv => whnf)
          | fail)
        exact ⟨ret_B (dec_len (fun h => hm2 h.symm)).symm, rfl, rfl⟩
  · obtain ⟨⟨rfl, rfl⟩ | rfl, hel⟩ := he
    · refine drp_code code106_ok ?_
      conv => whnf
      by_cases hm : l = []
      · subst hm
        have q1 : ieq (([] : List Bx).map bxRow).length 0 = true := q00
        have q2 : ilt (Int.ofNat 0) (([] : List Bx).map bxRow).length = false := lt00
        repeat' (first
          | (refine vb_t rfl ?_; conv => whnf)
          | (refine vb_f rfl ?_; conv => whnf)
          | (refine vb_t (by assumption) ?_; conv => whnf)
          | (refine vb_f (by assumption) ?_; conv => whnf)
          | (rw [q1]; conv => whnf)
          | (refine vloop_once ?_; conv => whnf)
          | fail)
        exact ⟨by trivial, rfl, rfl⟩
      · have hm2 : l.length ≠ 0 := fun h => hm (List.length_eq_zero_iff.1 h)
        have q1 : ieq (l.map bxRow).length 0 = false := by rw [ieq_f, List.length_map]; omega
        repeat' (first
          | (refine vb_t rfl ?_; conv => whnf)
          | (refine vb_f rfl ?_; conv => whnf)
          | (refine vb_t (by assumption) ?_; conv => whnf)
          | (refine vb_f (by assumption) ?_; conv => whnf)
          | (rw [q1]; conv => whnf)
          | fail)
        exact ⟨ret_B (dec_len hm2).symm, rfl, rfl⟩
    · refine drp_code code106_ok ?_
      conv => whnf
      by_cases hlm : l.length = m.length
      · have q1 : ieq (l.map bxRow).length (m.map bxRow).length = true := by rw [ieq_t, List.length_map, List.length_map, hlm]
        repeat' (first
          | (refine vb_t rfl ?_; conv => whnf)
          | (refine vb_f rfl ?_; conv => whnf)
          | (refine vb_t (by assumption) ?_; conv => whnf)
          | (refine vb_f (by assumption) ?_; conv => whnf)
          | (rw [q1]; conv => whnf)
          | fail)
        refine vloop_eq2 (fr' := [(0, .d (.sl 2 (l.map bxRow))), (1, .d (.sl 2 (m.map bxRow))), (2, .fn .pure 103 [] []), (6, B false), (14, I (l.map bxRow).length), (15, I ((0 : Nat) : Int))]) rfl rfl ?_
        refine vloop_by (σ := { k : Nat // k ≤ l.length ∧ decide (l.drop k = m.drop k) = sameBx l m }) (fun k => [(0, .d (.sl 2 (l.map bxRow))), (1, .d (.sl 2 (m.map bxRow))), (2, .fn .pure 103 [] []), (6, B false), (14, I (l.map bxRow).length), (15, I (k.1 : Int))]) (fun _ => []) (fun k => l.length - k.1) ?_ ⟨0, Nat.zero_le _, rfl⟩
        rintro ⟨k, hk, hb⟩
        conv => whnf
        refine vb_i (fun h' => ?_) (fun h' => ?_) <;> conv => whnf
        · have hlk : k < l.length := by (first | omega | (simp only [ilt_t, ilt_f, ile_t, ile_f, ieq_t, ieq_f, ofn, List.length_map, Bool.not_eq_true', Bool.not_eq_false'] at *; omega))
          obtain ⟨⟨x, y⟩, hxy⟩ : ∃ b, l[k]? = some b := ⟨l[k], List.getElem?_eq_getElem hlk⟩
          obtain ⟨⟨z, t⟩, hzt⟩ : ∃ b, m[k]? = some b := ⟨m[k], List.getElem?_eq_getElem (by omega)⟩
          have hr : iget (l.map bxRow) (k : Int) = some (bxRow (x, y)) := iget_t (by rw [List.getElem?_map, hxy]; rfl)
          have hr2 : iget (m.map bxRow) (k : Int) = some (bxRow (z, t)) := iget_t (by rw [List.getElem?_map, hzt]; rfl)
          rw [drop_get hxy, drop_get hzt] at hb
          by_cases hs : ((x, y) : Bx) = (z, t)
          · have q2 : decide (((x, y) : Bx) = (z, t)) = true := decide_eq_true hs
            repeat' (first
              | (refine vb_t rfl ?_; conv => whnf)
              | (refine vb_f rfl ?_; conv => whnf)
              | (refine vb_t (by assumption) ?_; conv => whnf)
              | (refine vb_f (by assumption) ?_; conv => whnf)
              | (refine vo_i hr ?_; conv => whnf)
              | (refine vo_i hr2 ?_; conv => whnf)
              | (refine vpur_i (sameB_ok x y z t) ?_; conv => whnf)
              | (rw [q2]; conv => whnf)
              | fail)
            refine ⟨⟨k + 1, hlk, ?_⟩, by simp only; omega, cons_eq rfl (cons_eq rfl (cons_eq rfl (cons_eq rfl (cons_eq rfl (cons_eq (slot_eq (I_eq (iadd_one (i := k) (by omega)))) rfl))))), rfl, rfl, rfl⟩
            rw [← hb, dec_cons hs]
          · have q2 : decide (((x, y) : Bx) = (z, t)) = false := decide_eq_false hs
            repeat' (first
              | (refine vb_t rfl ?_; conv => whnf)
              | (refine vb_f rfl ?_; conv => whnf)
              | (refine vb_t (by assumption) ?_; conv => whnf)
              | (refine vb_f (by assumption) ?_; conv => whnf)
              | (refine vo_i hr ?_; conv => whnf)
              | (refine vo_i hr2 ?_; conv => whnf)
              | (refine vpur_i (sameB_ok x y z t) ?_; conv => whnf)
              | (rw [q2]; conv => whnf)
              | fail)
            refine ⟨ret_B ?_, rfl, rfl⟩
            rw [← hb, dec_cons_f hs]
        · have hk2 : k = l.length := by (first | omega | (simp only [ilt_t, ilt_f, ile_t, ile_f, ieq_t, ieq_f, ofn, List.length_map, Bool.not_eq_true', Bool.not_eq_false'] at *; omega))
          have hF : sameBx l m = true := by rw [← hb, hk2, List.drop_length, hlm, List.drop_length]; rfl
          repeat' (first
            | (refine vb_t rfl ?_; conv => whnf)
            | (refine vb_f rfl ?_; conv => whnf)
            | (refine vb_t (by assumption) ?_; conv => whnf)
            | (refine vb_f (by assumption) ?_; conv => whnf)
            | fail)
          exact ⟨ret_B hF.symm, rfl, rfl⟩
      · have q1 : ieq (l.map bxRow).length (m.map bxRow).length = false := by rw [ieq_f, List.length_map, List.length_map]; omega
        repeat' (first
          | (refine vb_t rfl ?_; conv => whnf)
          | (refine vb_f rfl ?_; conv => whnf)
          | (refine vb_t (by assumption) ?_; conv => whnf)
          | (refine vb_f (by assumption) ?_; conv => whnf)
          | (rw [q1]; conv => whnf)
          | fail)
        exact ⟨ret_B (dec_len hlm).symm, rfl, rfl⟩
section
variable (ty : Nat)
abbrev fnB : AV := .fn .pure 103 [] []
abbrev fnL : AV := .fn .drop 105 [] [.ptr 0 0]
abbrev hB : Heap := [⟨.mine, ty, .fix [fnB]⟩]
theorem lines_ok (d e : DV) (l m : List Bx) (hd : isLine d l) (he : isLine e m) : Drp F0 1 105 [.d d, .d e, .ptr 0 0] (hB ty) .no (.ret (B (sameBx l m))) (hB ty) .no := by
  refine drp_code code105_ok ?_
  conv => whnf
  repeat' (first
    | (refine vb_t rfl ?_; conv => whnf)
    | (refine vb_f rfl ?_; conv => whnf)
    | (refine vb_t (by assumption) ?_; conv => whnf)
    | (refine vb_f (by assumption) ?_; conv => whnf)
    | (refine vdrp_i (equal2_ok d e l m hd he) ?_; conv => whnf)
    | fail)
  exact ⟨by trivial, rfl, rfl⟩
def sameLn (w v : List Ln) : Bool := decide (w.map (·.2) = v.map (·.2))
theorem same_len {w v : List Ln} (h : w.length ≠ v.length) : sameLn w v = false := dec_len (by rwa [List.length_map, List.length_map])
theorem equal1_ok (d e : DV) (w v : List Ln) (hd : linesA w d) (he : linesA v e) : Drp F0 1 104 [.d d, .d e, fnL] (hB ty) .no (.ret (B (sameLn w v))) (hB ty) .no := by
  have q0 : ilt (Int.ofNat 0) 0 = false := lt00
  have q00 : ieq 0 0 = true := by rw [ieq_t]
  obtain ⟨hl, hdl, ⟨rfl, rfl⟩ | rfl⟩ := hd
  · obtain ⟨hm, hel, ⟨rfl, rfl⟩ | rfl⟩ := he
    · refine drp_code code104_ok ?_
      conv => whnf
      repeat' (first
        | (refine vb_t rfl ?_; conv => whnf)
        | (refine vb_f rfl ?_; conv => whnf)
        | (refine vb_t (by assumption) ?_; conv => whnf)
        | (refine vb_f (by assumption) ?_; conv => whnf)
        | (rw [q00]; conv => whnf)
        | (refine vloop_once ?_; conv => whnf)
        | fail)
      exact ⟨by trivial, rfl, rfl⟩
    · refine drp_code code104_ok ?_
      conv => whnf
      by_cases hz : v = []
      · subst hz
        have q1 : ieq 0 (([] : List Ln).map lnRow).length = true := q00
        repeat' (first
          | (refine vb_t rfl ?_; conv => whnf)
          | (refine vb_f rfl ?_; conv => whnf)
          | (refine vb_t (by assumption) ?_; conv => whnf)
          | (refine vb_f (by assumption) ?_; conv => whnf)
          | (rw [q1]; conv => whnf)
          | (refine vloop_once ?_; conv => whnf)
          | fail)
        exact ⟨by trivial, rfl, rfl⟩
      · have hm2 : v.length ≠ 0 := fun h => hz (List.length_eq_zero_iff.1 h)
        have q1 : ieq 0 (v.map lnRow).length = false := by rw [ieq_f, List.length_map]; omega
        repeat' (first
          | (refine vb_t rfl ?_; conv => whnf)
          | (refine vb_f rfl ?_; conv => whnf)
          | (refine vb_t (by assumption) ?_; conv => whnf)
          | (refine vb_f (by assumption) ?_; conv => whnf)
          | (rw [q1]; conv => whnf)
          | fail)
        exact ⟨ret_B (same_len (fun h => hm2 h.symm)).symm, rfl, rfl⟩
  · obtain ⟨hm, hel, ⟨rfl, rfl⟩ | rfl⟩ := he
    · refine drp_code code104_ok ?_
      conv => whnf
      by_cases hz : w = []
      · subst hz
        have q1 : ieq (([] : List Ln).map lnRow).length 0 = true := q00
        have q2 : ilt (Int.ofNat 0) (([] : List Ln).map lnRow).length = false := lt00
        repeat' (first
          | (refine vb_t rfl ?_; conv => whnf)
          | (refine vb_f rfl ?_; conv => whnf)
          | (refine vb_t (by assumption) ?_; conv => whnf)
          | (refine vb_f (by assumption) ?_; conv => whnf)
          | (rw [q1]; conv => whnf)
          | (refine vloop_once ?_; conv => whnf)
          | fail)
        exact ⟨by trivial, rfl, rfl⟩
      · have hm2 : w.length ≠ 0 := fun h => hz (List.length_eq_zero_iff.1 h)
        have q1 : ieq (w.map lnRow).length 0 = false := by rw [ieq_f, List.length_map]; omega
        repeat' (first
          | (refine vb_t rfl ?_; conv => whnf)
          | (refine vb_f rfl ?_; conv => whnf)
          | (refine vb_t (by assumption) ?_; conv => whnf)
          | (refine vb_f (by assumption) ?_; conv => whnf)
          | (rw [q1]; conv => whnf)
          | fail)
        exact ⟨ret_B (same_len hm2).symm, rfl, rfl⟩
    · refine drp_code code104_ok ?_
      conv => whnf
      by_cases hlm : w.length = v.length
      · have q1 : ieq (w.map lnRow).length (v.map lnRow).length = true := by rw [ieq_t, List.length_map, List.length_map, hlm]
        repeat' (first
          | (refine vb_t rfl ?_; conv => whnf)
          | (refine vb_f rfl ?_; conv => whnf)
          | (refine vb_t (by assumption) ?_; conv => whnf)
          | (refine vb_f (by assumption) ?_; conv => whnf)
          | (rw [q1]; conv => whnf)
          | fail)
        refine vloop_eq2 (fr' := [(0, .d (.sl 1 (w.map lnRow))), (1, .d (.sl 1 (v.map lnRow))), (2, fnL), (6, B false), (14, I (w.map lnRow).length), (15, I ((0 : Nat) : Int))]) rfl rfl ?_
        refine vloop_by (σ := { k : Nat // k ≤ w.length ∧ sameLn (w.drop k) (v.drop k) = sameLn w v }) (fun k => [(0, .d (.sl 1 (w.map lnRow))), (1, .d (.sl 1 (v.map lnRow))), (2, fnL), (6, B false), (14, I (w.map lnRow).length), (15, I (k.1 : Int))]) (fun _ => hB ty) (fun k => w.length - k.1) ?_ ⟨0, Nat.zero_le _, rfl⟩
        rintro ⟨k, hk, hb⟩
        conv => whnf
        refine vb_i (fun h' => ?_) (fun h' => ?_) <;> conv => whnf
        · have hlk : k < w.length := by (first | omega | (simp only [ilt_t, ilt_f, ile_t, ile_f, ieq_t, ieq_f, ofn, List.length_map, Bool.not_eq_true', Bool.not_eq_false'] at *; omega))
          obtain ⟨⟨x, l⟩, hx⟩ : ∃ b, w[k]? = some b := ⟨w[k], List.getElem?_eq_getElem hlk⟩
          obtain ⟨⟨y, m⟩, hy⟩ : ∃ b, v[k]? = some b := ⟨v[k], List.getElem?_eq_getElem (by omega)⟩
          have hr : iget (w.map lnRow) (k : Int) = some (lnRow (x, l)) := iget_t (by rw [List.getElem?_map, hx]; rfl)
          have hr2 : iget (v.map lnRow) (k : Int) = some (lnRow (y, m)) := iget_t (by rw [List.getElem?_map, hy]; rfl)
          rw [drop_get hx, drop_get hy] at hb
          have c := lines_ok ty x y l m (hl _ (List.mem_of_getElem? hx)) (hm _ (List.mem_of_getElem? hy))
          by_cases hs : l = m
          · have q2 : sameBx l m = true := decide_eq_true hs
            repeat' (first
              | (refine vb_t rfl ?_; conv => whnf)
              | (refine vb_f rfl ?_; conv => whnf)
              | (refine vb_t (by assumption) ?_; conv => whnf)
              | (refine vb_f (by assumption) ?_; conv => whnf)
              | (refine vo_i hr ?_; conv => whnf)
              | (refine vo_i hr2 ?_; conv => whnf)
              | (refine vdrp_i c ?_; conv => whnf)
              | (rw [q2]; conv => whnf)
              | fail)
            refine ⟨⟨k + 1, hlk, ?_⟩, by simp only; omega, cons_eq rfl (cons_eq rfl (cons_eq rfl (cons_eq rfl (cons_eq rfl (cons_eq (slot_eq (I_eq (iadd_one (i := k) (by omega)))) rfl))))), rfl, rfl, rfl⟩
            rw [← hb]; exact (dec_cons hs).symm
          · have q2 : sameBx l m = false := decide_eq_false hs
            repeat' (first
              | (refine vb_t rfl ?_; conv => whnf)
              | (refine vb_f rfl ?_; conv => whnf)
              | (refine vb_t (by assumption) ?_; conv => whnf)
              | (refine vb_f (by assumption) ?_; conv => whnf)
              | (refine vo_i hr ?_; conv => whnf)
              | (refine vo_i hr2 ?_; conv => whnf)
              | (refine vdrp_i c ?_; conv => whnf)
              | (rw [q2]; conv => whnf)
              | fail)
            refine ⟨ret_B ?_, rfl, rfl⟩
            rw [← hb]; exact (dec_cons_f hs).symm
        · have hk2 : k = w.length := by (first | omega | (simp only [ilt_t, ilt_f, ile_t, ile_f, ieq_t, ieq_f, ofn, List.length_map, Bool.not_eq_true', Bool.not_eq_false'] at *; omega))
          have hF : sameLn w v = true := by rw [← hb, hk2, List.drop_length, hlm, List.drop_length]; rfl
          repeat' (first
            | (refine vb_t rfl ?_; conv => whnf)
            | (refine vb_f rfl ?_; conv => whnf)
            | (refine vb_t (by assumption) ?_; conv => whnf)
            | (refine vb_f (by assumption) ?_; conv => whnf)
            | fail)
          exact ⟨ret_B hF.symm, rfl, rfl⟩
      · have q1 : ieq (w.map lnRow).length (v.map lnRow).length = false := by rw [ieq_f, List.length_map, List.length_map]; omega
        repeat' (first
          | (refine vb_t rfl ?_; conv => whnf)
          | (refine vb_f rfl ?_; conv => whnf)
          | (refine vb_t (by assumption) ?_; conv => whnf)
          | (refine vb_f (by assumption) ?_; conv => whnf)
          | (rw [q1]; conv => whnf)
          | fail)
        exact ⟨ret_B (same_len hlm).symm, rfl, rfl⟩
end
theorem same_ok (d e : DV) (w v : List Ln) (hd : linesA w d) (he : linesA v e) : Pur F0 43 [.d d, .d e] [] .no (.ret (B (sameLn w v))) .no := by
  refine pur_code code43_ok ?_
  conv => whnf
  repeat' (first
    | (refine vb_t rfl ?_; conv => whnf)
    | (refine vb_f rfl ?_; conv => whnf)
    | (refine vb_t (by assumption) ?_; conv => whnf)
    | (refine vb_f (by assumption) ?_; conv => whnf)
    | (refine vdrp_i (equal1_ok _ d e w v hd he) ?_; conv => whnf)
    | fail)
  exact ⟨by trivial, by trivial⟩
theorem rsame_ok (d e : DV) (w v : List Ln) (hd : linesA w d) (he : linesA v e) : Pur F0 44 [.d d, .d e] [] .no (.ret (B (sameLn w v))) .no := by
  have q0 : ilt (Int.ofNat 0) 0 = false := lt00
  have q00 : ieq 0 0 = true := by rw [ieq_t]
  obtain ⟨hl, hdl, ⟨rfl, rfl⟩ | rfl⟩ := hd
  · obtain ⟨hm, hel, ⟨rfl, rfl⟩ | rfl⟩ := he
    · refine pur_code code44_ok ?_
      conv => whnf
      repeat' (first
        | (refine vb_t rfl ?_; conv => whnf)
        | (refine vb_f rfl ?_; conv => whnf)
        | (refine vb_t (by assumption) ?_; conv => whnf)
        | (refine vb_f (by assumption) ?_; conv => whnf)
        | (rw [q00]; conv => whnf)
        | (refine vloop_once ?_; conv => whnf)
        | fail)
      exact ⟨by trivial, rfl⟩
    · refine pur_code code44_ok ?_
      conv => whnf
      by_cases hz : v = []
      · subst hz
        have q1 : ieq 0 (([] : List Ln).map lnRow).length = true := q00
        repeat' (first
          | (refine vb_t rfl ?_; conv => whnf)
          | (refine vb_f rfl ?_; conv => whnf)
          | (refine vb_t (by assumption) ?_; conv => whnf)
          | (refine vb_f (by assumption) ?_; conv => whnf)
          | (rw [q1]; conv => whnf)
          | (refine vloop_once ?_; conv => whnf)
          | fail)
        exact ⟨by trivial, rfl⟩
      · have hm2 : v.length ≠ 0 := fun h => hz (List.length_eq_zero_iff.1 h)
        have q1 : ieq 0 (v.map lnRow).length = false := by rw [ieq_f, List.length_map]; omega
        repeat' (first
          | (refine vb_t rfl ?_; conv => whnf)
          | (refine vb_f rfl ?_; conv => whnf)
          | (refine vb_t (by assumption) ?_; conv => whnf)
          | (refine vb_f (by assumption) ?_; conv => whnf)
          | (rw [q1]; conv => whnf)
          | fail)
        exact ⟨ret_B (same_len (fun h => hm2 h.symm)).symm, rfl⟩
  · obtain ⟨hm, hel, ⟨rfl, rfl⟩ | rfl⟩ := he
    · refine pur_code code44_ok ?_
      conv => whnf
      by_cases hz : w = []
      · subst hz
        have q1 : ieq (([] : List Ln).map lnRow).length 0 = true := q00
        have q2 : ilt (Int.ofNat 0) (([] : List Ln).map lnRow).length = false := lt00
        repeat' (first
          | (refine vb_t rfl ?_; conv => whnf)
          | (refine vb_f rfl ?_; conv => whnf)
          | (refine vb_t (by assumption) ?_; conv => whnf)
          | (refine vb_f (by assumption) ?_; conv => whnf)
          | (rw [q1]; conv => whnf)
          | (refine vloop_once ?_; conv => whnf)
          | fail)
        exact ⟨by trivial, rfl⟩
      · have hm2 : w.length ≠ 0 := fun h => hz (List.length_eq_zero_iff.1 h)
        have q1 : ieq (w.map lnRow).length 0 = false := by rw [ieq_f, List.length_map]; omega
        repeat' (first
          | (refine vb_t rfl ?_; conv => whnf)
          | (refine vb_f rfl ?_; conv => whnf)
          | (refine vb_t (by assumption) ?_; conv => whnf)
          | (refine vb_f (by assumption) ?_; conv => whnf)
          | (rw [q1]; conv => whnf)
          | fail)
        exact ⟨ret_B (same_len hm2).symm, rfl⟩
    · refine pur_code code44_ok ?_
      conv => whnf
      by_cases hlm : w.length = v.length
      · have q1 : ieq (w.map lnRow).length (v.map lnRow).length = true := by rw [ieq_t, List.length_map, List.length_map, hlm]
        repeat' (first
          | (refine vb_t rfl ?_; conv => whnf)
          | (refine vb_f rfl ?_; conv => whnf)
          | (refine vb_t (by assumption) ?_; conv => whnf)
          | (refine vb_f (by assumption) ?_; conv => whnf)
          | (rw [q1]; conv => whnf)
          | fail)
        refine vloop_eq2 (fr' := [(0, .d (.sl 1 (w.map lnRow))), (1, .d (.sl 1 (v.map lnRow))), (4, B false), (5, I ((0 : Nat) : Int))]) rfl rfl ?_
        refine vloop_by (σ := { k : Nat // k ≤ w.length ∧ sameLn (w.drop k) (v.drop k) = sameLn w v }) (fun k => [(0, .d (.sl 1 (w.map lnRow))), (1, .d (.sl 1 (v.map lnRow))), (4, B false), (5, I (k.1 : Int))]) (fun _ => []) (fun k => w.length - k.1) ?_ ⟨0, Nat.zero_le _, rfl⟩
        rintro ⟨i, hi, hb⟩
        conv => whnf
        refine vb_i (fun h' => ?_) (fun h' => ?_) <;> conv => whnf
        · have hlk : i < w.length := by (first | omega | (simp only [ilt_t, ilt_f, ile_t, ile_f, ieq_t, ieq_f, ofn, List.length_map, Bool.not_eq_true', Bool.not_eq_false'] at *; omega))
          obtain ⟨⟨x, l⟩, hx⟩ : ∃ b, w[i]? = some b := ⟨w[i], List.getElem?_eq_getElem hlk⟩
          obtain ⟨⟨y, m⟩, hy⟩ : ∃ b, v[i]? = some b := ⟨v[i], List.getElem?_eq_getElem (by omega)⟩
          have hr : iget (w.map lnRow) (i : Int) = some (lnRow (x, l)) := iget_t (by rw [List.getElem?_map, hx]; rfl)
          have hr2 : iget (v.map lnRow) (i : Int) = some (lnRow (y, m)) := iget_t (by rw [List.getElem?_map, hy]; rfl)
          rw [drop_get hx, drop_get hy] at hb
          have hT : l = m → sameLn (w.drop (i + 1)) (v.drop (i + 1)) = sameLn w v := fun hs => by rw [← hb]; exact (dec_cons hs).symm
          have hF : l ≠ m → false = sameLn w v := fun hs => by rw [← hb]; exact (dec_cons_f hs).symm
          obtain ⟨h1, hll⟩ := hl _ (List.mem_of_getElem? hx)
          obtain ⟨h2, hml⟩ := hm _ (List.mem_of_getElem? hy)
          have hll : l.length ≤ 9223372036854775807 := hll
          have hml : m.length ≤ 9223372036854775807 := hml
          rcases h1 with ⟨e1, e2⟩ | e1
          · obtain rfl : x = .nilsl := e1
            obtain rfl : l = [] := e2
            rcases h2 with ⟨e3, e4⟩ | e3
            · obtain rfl : y = .nilsl := e3
              obtain rfl : m = [] := e4
              repeat' (first
                | (refine vb_t rfl ?_; conv => whnf)
                | (refine vb_f rfl ?_; conv => whnf)
                | (refine vb_t (by assumption) ?_; conv => whnf)
                | (refine vb_f (by assumption) ?_; conv => whnf)
                | (refine vo_i hr ?_; conv => whnf)
                | (refine vo_i hr2 ?_; conv => whnf)
                | (rw [q00]; conv => whnf)
                | (refine vloop_once ?_; conv => whnf)
                | fail)
              refine ⟨⟨i + 1, hlk, hT (rfl)⟩, by simp only; omega, cons_eq rfl (cons_eq rfl (cons_eq rfl (cons_eq (slot_eq (I_eq (iadd_one (i := i) (by omega)))) rfl))), rfl, rfl, rfl⟩
            · obtain rfl : y = .sl 2 (m.map bxRow) := e3
              by_cases hz : m = []
              · subst hz
                have q1 : ieq 0 (([] : List Bx).map bxRow).length = true := q00
                repeat' (first
                  | (refine vb_t rfl ?_; conv => whnf)
                  | (refine vb_f rfl ?_; conv => whnf)
                  | (refine vb_t (by assumption) ?_; conv => whnf)
                  | (refine vb_f (by assumption) ?_; conv => whnf)
                  | (refine vo_i hr ?_; conv => whnf)
                  | (refine vo_i hr2 ?_; conv => whnf)
                  | (rw [q1]; conv => whnf)
                  | (refine vloop_once ?_; conv => whnf)
                  | fail)
                refine ⟨⟨i + 1, hlk, hT (rfl)⟩, by simp only; omega, cons_eq rfl (cons_eq rfl (cons_eq rfl (cons_eq (slot_eq (I_eq (iadd_one (i := i) (by omega)))) rfl))), rfl, rfl, rfl⟩
              · have hm2 : m.length ≠ 0 := fun h => hz (List.length_eq_zero_iff.1 h)
                have q1 : ieq 0 (m.map bxRow).length = false := by rw [ieq_f, List.length_map]; omega
                repeat' (first
                  | (refine vb_t rfl ?_; conv => whnf)
                  | (refine vb_f rfl ?_; conv => whnf)
                  | (refine vb_t (by assumption) ?_; conv => whnf)
                  | (refine vb_f (by assumption) ?_; conv => whnf)
                  | (refine vo_i hr ?_; conv => whnf)
                  | (refine vo_i hr2 ?_; conv => whnf)
                  | (rw [q1]; conv => whnf)
                  | fail)
                exact ⟨ret_B (hF (fun h => hz h.symm)), rfl⟩
          · obtain rfl : x = .sl 2 (l.map bxRow) := e1
            rcases h2 with ⟨e3, e4⟩ | e3
            · obtain rfl : y = .nilsl := e3
              obtain rfl : m = [] := e4
              by_cases hz : l = []
              · subst hz
                have q1 : ieq (([] : List Bx).map bxRow).length 0 = true := q00
                have q2 : ilt (Int.ofNat 0) (([] : List Bx).map bxRow).length = false := lt00
                repeat' (first
                  | (refine vb_t rfl ?_; conv => whnf)
                  | (refine vb_f rfl ?_; conv => whnf)
                  | (refine vb_t (by assumption) ?_; conv => whnf)
                  | (refine vb_f (by assumption) ?_; conv => whnf)
                  | (refine vo_i hr ?_; conv => whnf)
                  | (refine vo_i hr2 ?_; conv => whnf)
                  | (rw [q1]; conv => whnf)
                  | (refine vloop_once ?_; conv => whnf)
                  | fail)
                refine ⟨⟨i + 1, hlk, hT (rfl)⟩, by simp only; omega, cons_eq rfl (cons_eq rfl (cons_eq rfl (cons_eq (slot_eq (I_eq (iadd_one (i := i) (by omega)))) rfl))), rfl, rfl, rfl⟩
              · have hm2 : l.length ≠ 0 := fun h => hz (List.length_eq_zero_iff.1 h)
                have q1 : ieq (l.map bxRow).length 0 = false := by rw [ieq_f, List.length_map]; omega
                repeat' (first
                  | (refine vb_t rfl ?_; conv => whnf)
                  | (refine vb_f rfl ?_; conv => whnf)
                  | (refine vb_t (by assumption) ?_; conv => whnf)
                  | (refine vb_f (by assumption) ?_; conv => whnf)
                  | (refine vo_i hr ?_; conv => whnf)
                  | (refine vo_i hr2 ?_; conv => whnf)
                  | (rw [q1]; conv => whnf)
                  | fail)
                exact ⟨ret_B (hF hz), rfl⟩
            · obtain rfl : y = .sl 2 (m.map bxRow) := e3
              by_cases hlm2 : l.length = m.length
              · have q2 : ieq (l.map bxRow).length (m.map bxRow).length = true := by rw [ieq_t, List.length_map, List.length_map, hlm2]
                repeat' (first
                  | (refine vb_t rfl ?_; conv => whnf)
                  | (refine vb_f rfl ?_; conv => whnf)
                  | (refine vb_t (by assumption) ?_; conv => whnf)
                  | (refine vb_f (by assumption) ?_; conv => whnf)
                  | (refine vo_i hr ?_; conv => whnf)
                  | (refine vo_i hr2 ?_; conv => whnf)
                  | (rw [q2]; conv => whnf)
                  | fail)
                refine vloop_eq2 (fr' := [(0, .d (.sl 1 (w.map lnRow))), (1, .d (.sl 1 (v.map lnRow))), (4, B false), (5, I (i : Int)), (6, I ((0 : Nat) : Int))]) rfl rfl ?_
                refine vloop_by (σ := { k : Nat // k ≤ l.length ∧ decide (l.drop k = m.drop k) = decide (l = m) }) (fun k => [(0, .d (.sl 1 (w.map lnRow))), (1, .d (.sl 1 (v.map lnRow))), (4, B false), (5, I (i : Int)), (6, I (k.1 : Int))]) (fun _ => []) (fun k => l.length - k.1) ?_ ⟨0, Nat.zero_le _, rfl⟩
                rintro ⟨k, hk, hc⟩
                conv => whnf
                repeat' (first
                  | (refine vb_t rfl ?_; conv => whnf)
                  | (refine vb_f rfl ?_; conv => whnf)
                  | (refine vb_t (by assumption) ?_; conv => whnf)
                  | (refine vb_f (by assumption) ?_; conv => whnf)
                  | (refine vo_i hr ?_; conv => whnf)
                  | fail)
                refine vb_i (fun h' => ?_) (fun h' => ?_) <;> conv => whnf
                · have hlk2 : k < l.length := by (first | omega | (simp only [ilt_t, ilt_f, ile_t, ile_f, ieq_t, ieq_f, ofn, List.length_map, Bool.not_eq_true', Bool.not_eq_false'] at *; omega))
                  obtain ⟨⟨x, y⟩, hxy⟩ : ∃ b, l[k]? = some b := ⟨l[k], List.getElem?_eq_getElem hlk2⟩
                  obtain ⟨⟨z, t⟩, hzt⟩ : ∃ b, m[k]? = some b := ⟨m[k], List.getElem?_eq_getElem (by omega)⟩
                  have hr3 : iget (l.map bxRow) (k : Int) = some (bxRow (x, y)) := iget_t (by rw [List.getElem?_map, hxy]; rfl)
                  have hr4 : iget (m.map bxRow) (k : Int) = some (bxRow (z, t)) := iget_t (by rw [List.getElem?_map, hzt]; rfl)
                  rw [drop_get hxy, drop_get hzt] at hc
                  by_cases hs : ((x, y) : Bx) = (z, t)
                  · have q3 : (ieq x z && ieq y t) = true := by cases hs; rw [ieq_d, ieq_d]; simp
                    repeat' (first
                      | (refine vb_t rfl ?_; conv => whnf)
                      | (refine vb_f rfl ?_; conv => whnf)
                      | (refine vb_t (by assumption) ?_; conv => whnf)
                      | (refine vb_f (by assumption) ?_; conv => whnf)
                      | (refine vo_i hr ?_; conv => whnf)
                      | (refine vo_i hr2 ?_; conv => whnf)
                      | (refine vo_i hr3 ?_; conv => whnf)
                      | (refine vo_i hr4 ?_; conv => whnf)
                      | (rw [q3]; conv => whnf)
                      | fail)
                    refine ⟨⟨k + 1, hlk2, ?_⟩, by simp only; omega, cons_eq rfl (cons_eq rfl (cons_eq rfl (cons_eq rfl (cons_eq (slot_eq (I_eq (iadd_one (i := k) (by omega)))) rfl)))), rfl, rfl, rfl⟩
                    rw [← hc, dec_cons hs]
                  · have q3 : (ieq x z && ieq y t) = false := by rw [ieq_d, ieq_d]; simpa using hs
                    repeat' (first
                      | (refine vb_t rfl ?_; conv => whnf)
                      | (refine vb_f rfl ?_; conv => whnf)
                      | (refine vb_t (by assumption) ?_; conv => whnf)
                      | (refine vb_f (by assumption) ?_; conv => whnf)
                      | (refine vo_i hr ?_; conv => whnf)
                      | (refine vo_i hr2 ?_; conv => whnf)
                      | (refine vo_i hr3 ?_; conv => whnf)
                      | (refine vo_i hr4 ?_; conv => whnf)
                      | (rw [q3]; conv => whnf)
                      | fail)
                    refine ⟨ret_B (hF fun h => ?_), rfl⟩
                    have h9 := dec_cons_f (a := l.drop (k + 1)) (b := m.drop (k + 1)) hs
                    rw [hc, decide_eq_false_iff_not] at h9
                    exact h9 h
                · have hk2 : k = l.length := by (first | omega | (simp only [ilt_t, ilt_f, ile_t, ile_f, ieq_t, ieq_f, ofn, List.length_map, Bool.not_eq_true', Bool.not_eq_false'] at *; omega))
                  have hE : l = m := of_decide_eq_true (by rw [← hc, hk2, List.drop_length, hlm2, List.drop_length]; rfl)
                  repeat' (first
                    | (refine vb_t rfl ?_; conv => whnf)
                    | (refine vb_f rfl ?_; conv => whnf)
                    | (refine vb_t (by assumption) ?_; conv => whnf)
                    | (refine vb_f (by assumption) ?_; conv => whnf)
                    | fail)
                  refine ⟨⟨i + 1, hlk, hT (hE)⟩, by simp only; omega, cons_eq rfl (cons_eq rfl (cons_eq rfl (cons_eq (slot_eq (I_eq (iadd_one (i := i) (by omega)))) rfl))), rfl, rfl, rfl⟩
              · have q1 : ieq (l.map bxRow).length (m.map bxRow).length = false := by rw [ieq_f, List.length_map, List.length_map]; omega
                repeat' (first
                  | (refine vb_t rfl ?_; conv => whnf)
                  | (refine vb_f rfl ?_; conv => whnf)
                  | (refine vb_t (by assumption) ?_; conv => whnf)
                  | (refine vb_f (by assumption) ?_; conv => whnf)
                  | (refine vo_i hr ?_; conv => whnf)
                  | (refine vo_i hr2 ?_; conv => whnf)
                  | (rw [q1]; conv => whnf)
                  | fail)
                exact ⟨ret_B (hF fun h => hlm2 (congrArg _ h)), rfl⟩
        · have hk2 : i = w.length := by (first | omega | (simp only [ilt_t, ilt_f, ile_t, ile_f, ieq_t, ieq_f, ofn, List.length_map, Bool.not_eq_true', Bool.not_eq_false'] at *; omega))
          have hF : sameLn w v = true := by rw [← hb, hk2, List.drop_length, hlm, List.drop_length]; rfl
          repeat' (first
            | (refine vb_t rfl ?_; conv => whnf)
            | (refine vb_f rfl ?_; conv => whnf)
            | (refine vb_t (by assumption) ?_; conv => whnf)
            | (refine vb_f (by assumption) ?_; conv => whnf)
            | fail)
          exact ⟨ret_B hF.symm, rfl⟩
      · have q1 : ieq (w.map lnRow).length (v.map lnRow).length = false := by rw [ieq_f, List.length_map, List.length_map]; omega
        repeat' (first
          | (refine vb_t rfl ?_; conv => whnf)
          | (refine vb_f rfl ?_; conv => whnf)
          | (refine vb_t (by assumption) ?_; conv => whnf)
          | (refine vb_f (by assumption) ?_; conv => whnf)
          | (rw [q1]; conv => whnf)
          | fail)
        exact ⟨ret_B (same_len hlm).symm, rfl⟩
end Go.Proofs.YtapnjabhcdlhbaaGreatDoor.Ab
/- Layer 9 (box): the text of content. -/
namespace Go.Proofs.YtapnjabhcdlhbaaGreatDoor.Ab
open Go
set_option linter.unusedSimpArgs false
set_option maxRecDepth 100000
set_option linter.unusedVariables false
set_option maxHeartbeats 4000000

def pxText (n : Int) : List UInt8 := numText n 64 ++ [112, 120]
def boxText (b : Bx) : List UInt8 := pxText b.1 ++ [32] ++ pxText b.2
def lineText (l : List Bx) : List UInt8 := Lib.join (l.map boxText) [44, 32]
def wordsText (w : List Ln) : List UInt8 := if w = [] then [110, 111, 110, 101] else if goodFrom 0 w = true then Lib.join (w.map fun x => lineText x.2) [32, 47, 32] else []
theorem px_ok (n : Int) : Pur F0 101 [I n] [] .no (.ret (S (pxText n))) .no := by
  have l1 := numText_len n 64
  have r1 : roomS ((numText n (Int.ofNat 64)).length + ([112, 120] : List UInt8).length) = true := roomS_t (Nat.le_trans (Nat.add_le_add_right l1 2) (by decide))
  refine pur_code code101_ok ?_
  conv => whnf
  repeat' (first
    | (refine vb_t rfl ?_; conv => whnf)
    | (refine vb_f rfl ?_; conv => whnf)
    | (refine vb_t (by assumption) ?_; conv => whnf)
    | (refine vb_f (by assumption) ?_; conv => whnf)
    | (refine vpur_i (ndText_ok _ _) ?_; conv => whnf)
    | fail)
  exact ⟨by trivial, by trivial⟩
/-- Texts, as they lie. -/
def strRow (s : List UInt8) : List DV := [.str s]
def strV (i : Nat) : Option (Nat × List (List UInt8)) → AV
  | none => .d .nilsl
  | some (g, l) => .osl i g 0 l.length
def strH : Option (Nat × List (List UInt8)) → Heap
  | none => []
  | some (g, l) => [⟨.mine, 9, .arr true g 1 (l.map strRow)⟩]
def strs : Option (Nat × List (List UInt8)) → List (List UInt8)
  | none => []
  | some (_, l) => l
abbrev fnP : AV := .fn .pure 101 [] []
theorem pxText_len (n : Int) : (pxText n).length ≤ 202 := by have := numText_len n 64; unfold pxText; rw [List.length_append]; simp; omega
theorem boxText_len (b : Bx) : (boxText b).length ≤ 405 := by
  have h1 := pxText_len b.1
  have h2 := pxText_len b.2
  unfold boxText; simp only [List.length_append, List.length_cons, List.length_nil]; omega
theorem good_all : ∀ (w : List Ln) (n : Nat), goodFrom n w = true → ∀ x ∈ w, x.2.length ≤ 256 ∧ x.2 ≠ []
  | [], _, _ => fun x hx => by cases hx
  | y :: r, n, h => by
    simp only [goodFrom, Bool.and_eq_true, decide_eq_true_eq, Bool.not_eq_true'] at h
    obtain ⟨⟨⟨h1, h2⟩, h3⟩, h4⟩ := h
    intro x hx
    rcases List.mem_cons.1 hx with rfl | hx
    · exact ⟨by omega, fun e => by rw [e] at h1; cases h1⟩
    · exact good_all r _ h4 x hx
theorem good_many : ∀ (w : List Ln) (n : Nat), n ≤ 256 → goodFrom n w = true → n + w.length ≤ 256
  | [], n, hn, _ => hn
  | y :: r, n, hn, h => by
    simp only [goodFrom, Bool.and_eq_true, decide_eq_true_eq, Bool.not_eq_true'] at h
    obtain ⟨⟨⟨h1, h2⟩, h3⟩, h4⟩ := h
    have := good_many r _ h2 h4
    have h5 : y.2.length ≠ 0 := fun e => by rw [List.length_eq_zero_iff.1 e] at h1; cases h1
    simp only [List.length_cons]; omega
theorem join_le (sep : List UInt8) (m : Nat) : ∀ l : List (List UInt8), (∀ x ∈ l, x.length ≤ m) → (Lib.join l sep).length ≤ l.length * (m + sep.length)
  | [], _ => by simp [Lib.join]
  | [a], h => by
    have := h a (by simp)
    rw [Lib.join_one]; simp; omega
  | a :: b :: l, h => by
    have h1 := join_le sep m (b :: l) fun x hx => h x (List.mem_cons_of_mem _ hx)
    have h2 := h a (by simp)
    have e : Lib.join (a :: b :: l) sep = a ++ (sep ++ Lib.join (b :: l) sep) := by simp [Lib.join_cons, Lib.joinTail]
    rw [e]
    simp only [List.length_append, List.length_cons] at h1 ⊢
    rw [Nat.succ_mul]; omega
theorem take_get {α : Type} {l : List α} {i : Nat} {x : α} (h : l[i]? = some x) : l.take (i + 1) = l.take i ++ [x] := by
  rw [List.take_add_one, h]; rfl
theorem wtext_ok (w : List Ln) (v : DV) (h : linesA w v) : Pur F0 41 [.d v] [] .no (.ret (S (wordsText w))) .no := by
  have hgd := wgood_ok w v h
  obtain ⟨hl, hlen, ⟨rfl, rfl⟩ | rfl⟩ := h
  · refine pur_code code41_ok ?_
    conv => whnf
    have q0 : ieq 0 (Int.ofNat 0) = true := eq00
    repeat' (first
      | (refine vb_t rfl ?_; conv => whnf)
      | (refine vb_f rfl ?_; conv => whnf)
      | (refine vb_t (by assumption) ?_; conv => whnf)
      | (refine vb_f (by assumption) ?_; conv => whnf)
      | fail)
    exact ⟨by trivial, by trivial⟩
  · refine pur_code code41_ok ?_
    conv => whnf
    by_cases hz : w = []
    · subst hz
      have q0 : ieq ((([] : List Ln).map lnRow).length : Int) (Int.ofNat 0) = true := eq00
      repeat' (first
        | (refine vb_t rfl ?_; conv => whnf)
        | (refine vb_f rfl ?_; conv => whnf)
        | (refine vb_t (by assumption) ?_; conv => whnf)
        | (refine vb_f (by assumption) ?_; conv => whnf)
        | fail)
      exact ⟨by trivial, by trivial⟩
    · have q0 : ieq ((w.map lnRow).length : Int) (Int.ofNat 0) = false := by rw [ieq_f, List.length_map, ofn]; intro h8; exact hz (List.length_eq_zero_iff.1 (by omega))
      by_cases hg : goodFrom 0 w = true
      · have q1 : (!goodFrom 0 w) = false := by rw [hg]; rfl
        repeat' (first
          | (refine vb_t rfl ?_; conv => whnf)
          | (refine vb_f rfl ?_; conv => whnf)
          | (refine vb_t (by assumption) ?_; conv => whnf)
          | (refine vb_f (by assumption) ?_; conv => whnf)
          | (refine vpur_i hgd ?_; conv => whnf)
          | fail)
        refine vloop_eq2 (fr' := [(2, S []), (3, fnP), (4, strV 0 none), (18, .d (.sl 1 (w.map lnRow))), (19, I (w.map lnRow).length), (20, I ((0 : Nat) : Int))]) (h' := strH none) rfl rfl ?_
        refine vloop_by (σ := { x : Nat × Option (Nat × List (List UInt8)) // x.1 ≤ w.length ∧ strs x.2 = (w.take x.1).map fun y => lineText y.2 }) (fun x => [(2, S []), (3, fnP), (4, strV 0 x.1.2), (18, .d (.sl 1 (w.map lnRow))), (19, I (w.map lnRow).length), (20, I (x.1.1 : Int))]) (fun x => strH x.1.2) (fun x => w.length - x.1.1) ?_ ⟨(0, none), Nat.zero_le _, rfl⟩
        have hne := good_all w 0 hg
        rintro ⟨⟨i, o⟩, hi, ho⟩
        simp only at hi ho
        rcases o with _ | ⟨g, ol⟩
        · conv => whnf
          refine vb_i (fun h' => ?_) (fun h' => ?_) <;> conv => whnf
          · have hlt : i < w.length := by (first | omega | (simp only [ilt_t, ilt_f, ile_t, ile_f, ieq_t, ieq_f, ofn, List.length_map, Bool.not_eq_true', Bool.not_eq_false'] at *; omega))
            obtain ⟨⟨d, l⟩, hx⟩ : ∃ x, w[i]? = some x := ⟨w[i], List.getElem?_eq_getElem hlt⟩
            have hr : iget (w.map lnRow) (i : Int) = some (lnRow (d, l)) := iget_t (by rw [List.getElem?_map, hx]; rfl)
            obtain ⟨h1, hll⟩ := hl _ (List.mem_of_getElem? hx)
            have hll : l.length ≤ 9223372036854775807 := hll
            have hl256 : l.length ≤ 256 := (hne (d, l) (List.mem_of_getElem? hx)).1
            rcases h1 with ⟨e1, e2⟩ | e1
            · exact ((hne (d, l) (List.mem_of_getElem? hx)).2 e2).elim
            · obtain rfl : d = .sl 2 (l.map bxRow) := e1
              repeat' (first
                | (refine vb_t rfl ?_; conv => whnf)
                | (refine vb_f rfl ?_; conv => whnf)
                | (refine vb_t (by assumption) ?_; conv => whnf)
                | (refine vb_f (by assumption) ?_; conv => whnf)
                | (refine vo_i hr ?_; conv => whnf)
                | fail)
              refine vloop_eq2 (fr' := [(2, S []), (3, fnP), (4, .d .nilsl), (7, strV 0 none), (18, .d (.sl 1 (w.map lnRow))), (19, I (w.map lnRow).length), (20, I (i : Int)), (24, .d (.sl 2 (l.map bxRow))), (25, I (l.map bxRow).length), (26, I ((0 : Nat) : Int))]) (h' := strH none ++ strH none) rfl rfl ?_
              refine vloop_by (σ := { x : Nat × Option (Nat × List (List UInt8)) // x.1 ≤ l.length ∧ strs x.2 = (l.take x.1).map boxText }) (fun x => [(2, S []), (3, fnP), (4, .d .nilsl), (7, strV 0 x.1.2), (18, .d (.sl 1 (w.map lnRow))), (19, I (w.map lnRow).length), (20, I (i : Int)), (24, .d (.sl 2 (l.map bxRow))), (25, I (l.map bxRow).length), (26, I (x.1.1 : Int))]) (fun x => strH none ++ strH x.1.2) (fun x => l.length - x.1.1) ?_ ⟨(0, none), Nat.zero_le _, rfl⟩
              rintro ⟨⟨k, b⟩, hk, hb⟩
              simp only at hk hb
              rcases b with _ | ⟨g2, bl⟩
              · conv => whnf
                refine vb_i (fun h' => ?_) (fun h' => ?_) <;> conv => whnf
                · have hlk : k < l.length := by (first | omega | (simp only [ilt_t, ilt_f, ile_t, ile_f, ieq_t, ieq_f, ofn, List.length_map, Bool.not_eq_true', Bool.not_eq_false'] at *; omega))
                  obtain ⟨⟨x, y⟩, hxy⟩ : ∃ b, l[k]? = some b := ⟨l[k], List.getElem?_eq_getElem hlk⟩
                  have hr2 : iget (l.map bxRow) (k : Int) = some (bxRow (x, y)) := iget_t (by rw [List.getElem?_map, hxy]; rfl)
                  have t1 := pxText_len x
                  have t2 := pxText_len y
                  repeat' (first
                    | (refine vb_t rfl ?_; conv => whnf)
                    | (refine vb_f rfl ?_; conv => whnf)
                    | (refine vb_t (by assumption) ?_; conv => whnf)
                    | (refine vb_f (by assumption) ?_; conv => whnf)
                    | (refine vo_i hr2 ?_; conv => whnf)
                    | (refine vpur_i (px_ok _) ?_; conv => whnf)
                    | (refine vb_t (roomS_t (by simp; omega)) ?_; conv => whnf)
                    | (refine vb_t (room_t (by simp <;> omega)) ?_; conv => whnf)
                    | fail)
                  refine ⟨⟨(k + 1, some (0, [boxText (x, y)])), hlk, ?_⟩, by simp only; omega, cons_eq rfl (cons_eq rfl (cons_eq rfl (cons_eq rfl (cons_eq rfl (cons_eq rfl (cons_eq rfl (cons_eq rfl (cons_eq rfl (cons_eq (slot_eq (I_eq (iadd_one (i := k) (by omega)))) rfl))))))))), rfl, rfl, rfl⟩
                  simp only [take_get hxy, List.map_append, ← hb]; rfl
                · have hk2 : k = l.length := by (first | omega | (simp only [ilt_t, ilt_f, ile_t, ile_f, ieq_t, ieq_f, ofn, List.length_map, Bool.not_eq_true', Bool.not_eq_false'] at *; omega))
                  have h9 : l = [] := by
                    have := congrArg List.length hb
                    simp [strs] at this
                    exact List.length_eq_zero_iff.1 (by omega)
                  exact ((hne _ (List.mem_of_getElem? hx)).2 h9).elim
              · conv => whnf
                refine vb_i (fun h' => ?_) (fun h' => ?_) <;> conv => whnf
                · have hlk : k < l.length := by (first | omega | (simp only [ilt_t, ilt_f, ile_t, ile_f, ieq_t, ieq_f, ofn, List.length_map, Bool.not_eq_true', Bool.not_eq_false'] at *; omega))
                  obtain ⟨⟨x, y⟩, hxy⟩ : ∃ b, l[k]? = some b := ⟨l[k], List.getElem?_eq_getElem hlk⟩
                  have hr2 : iget (l.map bxRow) (k : Int) = some (bxRow (x, y)) := iget_t (by rw [List.getElem?_map, hxy]; rfl)
                  have t1 := pxText_len x
                  have t2 := pxText_len y
                  have hbl : bl.length ≤ 256 := by
                    have := congrArg List.length hb
                    simp [strs] at this; omega
                  have hgg : Nat.beq g2 g2 = true := by simp
                  have hq : ieq (bl.length : Int) ((bl.map strRow).length : Int) = true := by rw [ieq_t]; simp
                  repeat' (first
                    | (refine vb_t rfl ?_; conv => whnf)
                    | (refine vb_f rfl ?_; conv => whnf)
                    | (refine vb_t (by assumption) ?_; conv => whnf)
                    | (refine vb_f (by assumption) ?_; conv => whnf)
                    | (refine vo_i hr2 ?_; conv => whnf)
                    | (refine vpur_i (px_ok _) ?_; conv => whnf)
                    | (refine vb_t (roomS_t (by simp; omega)) ?_; conv => whnf)
                    | (refine vb_t (room_t (by simp <;> omega)) ?_; conv => whnf)
                    | fail)
                  refine ⟨⟨(k + 1, some (g2 + 1, bl ++ [boxText (x, y)])), hlk, ?_⟩, by simp only; omega, cons_eq rfl (cons_eq rfl (cons_eq rfl (cons_eq (slot_eq (osl_eq rfl (by simp))) (cons_eq rfl (cons_eq rfl (cons_eq rfl (cons_eq rfl (cons_eq rfl (cons_eq (slot_eq (I_eq (iadd_one (i := k) (by omega)))) rfl))))))))), cons_eq (arr_eq (by rw [List.map_append]; rfl)) rfl, rfl, rfl⟩
                  simp only [take_get hxy, List.map_append, ← hb]; rfl
                · have hk2 : k = l.length := by (first | omega | (simp only [ilt_t, ilt_f, ile_t, ile_f, ieq_t, ieq_f, ofn, List.length_map, Bool.not_eq_true', Bool.not_eq_false'] at *; omega))
                  have hbt : bl = l.map boxText := by rw [hk2, List.take_length] at hb; exact hb
                  have hcut : (((bl.map strRow).take bl.length).drop 0) = bl.map fun s => [DV.str s] := by rw [List.drop_zero, List.take_of_length_le (by simp)]; rfl
                  have hjl : (Lib.join bl [44, 32]).length ≤ 140737488355328 := by
                    have := join_le [44, 32] 405 bl (fun x hx => by rw [hbt] at hx; obtain ⟨b, _, rfl⟩ := List.mem_map.1 hx; exact boxText_len b)
                    have h8 : bl.length ≤ 256 := by rw [hbt, List.length_map]; exact hl256
                    simp only [List.length_cons, List.length_nil] at this; omega
                  have j := join_ok bl [44, 32] (by rw [hbt, List.length_map]; omega) hjl
                  have hgg : Nat.beq g2 g2 = true := by simp
                  have hem : (bl.map strRow).isEmpty = false := by
                    have h8 := (hne _ (List.mem_of_getElem? hx)).2
                    rw [hbt]
                    cases l with
                    | nil => exact (h8 rfl).elim
                    | cons => rfl
                  repeat' (first
                    | (refine vb_t rfl ?_; conv => whnf)
                    | (refine vb_f rfl ?_; conv => whnf)
                    | (refine vb_t (by assumption) ?_; conv => whnf)
                    | (refine vb_f (by assumption) ?_; conv => whnf)
                    | (rw [hcut]; conv => whnf)
                    | (refine vpur_i (j _) ?_; conv => whnf)
                    | (refine vb_t (room_t (by simp <;> omega)) ?_; conv => whnf)
                    | fail)
                  refine ⟨⟨(i + 1, some (0, [Lib.join bl [44, 32]])), hlt, ?_⟩, by simp only; omega, cons_eq rfl (cons_eq rfl (cons_eq (rfl) (cons_eq rfl (cons_eq rfl (cons_eq (slot_eq (I_eq (iadd_one (i := i) (by omega)))) rfl))))), rfl, rfl, rfl⟩
                  simp only [take_get hx, List.map_append, ← ho]; rw [hbt]; rfl
          · have hi2 : i = w.length := by (first | omega | (simp only [ilt_t, ilt_f, ile_t, ile_f, ieq_t, ieq_f, ofn, List.length_map, Bool.not_eq_true', Bool.not_eq_false'] at *; omega))
            have h8 := congrArg List.length ho
            simp [strs] at h8
            exact (hz (List.length_eq_zero_iff.1 (by omega))).elim
        · have hol : ol.length = i := by
            have h8 := congrArg List.length ho
            simp [strs] at h8; omega
          have hw256 := good_many w 0 (by omega) hg
          have hgo : Nat.beq g g = true := by simp
          have hqo : ieq (ol.length : Int) ((ol.map strRow).length : Int) = true := by rw [ieq_t]; simp
          conv => whnf
          refine vb_i (fun h' => ?_) (fun h' => ?_) <;> conv => whnf
          · have hlt : i < w.length := by (first | omega | (simp only [ilt_t, ilt_f, ile_t, ile_f, ieq_t, ieq_f, ofn, List.length_map, Bool.not_eq_true', Bool.not_eq_false'] at *; omega))
            obtain ⟨⟨d, l⟩, hx⟩ : ∃ x, w[i]? = some x := ⟨w[i], List.getElem?_eq_getElem hlt⟩
            have hr : iget (w.map lnRow) (i : Int) = some (lnRow (d, l)) := iget_t (by rw [List.getElem?_map, hx]; rfl)
            obtain ⟨h1, hll⟩ := hl _ (List.mem_of_getElem? hx)
            have hll : l.length ≤ 9223372036854775807 := hll
            have hl256 : l.length ≤ 256 := (hne (d, l) (List.mem_of_getElem? hx)).1
            rcases h1 with ⟨e1, e2⟩ | e1
            · exact ((hne (d, l) (List.mem_of_getElem? hx)).2 e2).elim
            · obtain rfl : d = .sl 2 (l.map bxRow) := e1
              repeat' (first
                | (refine vb_t rfl ?_; conv => whnf)
                | (refine vb_f rfl ?_; conv => whnf)
                | (refine vb_t (by assumption) ?_; conv => whnf)
                | (refine vb_f (by assumption) ?_; conv => whnf)
                | (refine vo_i hr ?_; conv => whnf)
                | fail)
              refine vloop_eq2 (fr' := [(2, S []), (3, fnP), (4, .osl 0 g 0 ol.length), (7, strV 1 none), (18, .d (.sl 1 (w.map lnRow))), (19, I (w.map lnRow).length), (20, I (i : Int)), (24, .d (.sl 2 (l.map bxRow))), (25, I (l.map bxRow).length), (26, I ((0 : Nat) : Int))]) (h' := strH (some (g, ol)) ++ strH none) rfl rfl ?_
              refine vloop_by (σ := { x : Nat × Option (Nat × List (List UInt8)) // x.1 ≤ l.length ∧ strs x.2 = (l.take x.1).map boxText }) (fun x => [(2, S []), (3, fnP), (4, .osl 0 g 0 ol.length), (7, strV 1 x.1.2), (18, .d (.sl 1 (w.map lnRow))), (19, I (w.map lnRow).length), (20, I (i : Int)), (24, .d (.sl 2 (l.map bxRow))), (25, I (l.map bxRow).length), (26, I (x.1.1 : Int))]) (fun x => strH (some (g, ol)) ++ strH x.1.2) (fun x => l.length - x.1.1) ?_ ⟨(0, none), Nat.zero_le _, rfl⟩
              rintro ⟨⟨k, b⟩, hk, hb⟩
              simp only at hk hb
              rcases b with _ | ⟨g2, bl⟩
              · conv => whnf
                refine vb_i (fun h' => ?_) (fun h' => ?_) <;> conv => whnf
                · have hlk : k < l.length := by (first | omega | (simp only [ilt_t, ilt_f, ile_t, ile_f, ieq_t, ieq_f, ofn, List.length_map, Bool.not_eq_true', Bool.not_eq_false'] at *; omega))
                  obtain ⟨⟨x, y⟩, hxy⟩ : ∃ b, l[k]? = some b := ⟨l[k], List.getElem?_eq_getElem hlk⟩
                  have hr2 : iget (l.map bxRow) (k : Int) = some (bxRow (x, y)) := iget_t (by rw [List.getElem?_map, hxy]; rfl)
                  have t1 := pxText_len x
                  have t2 := pxText_len y
                  repeat' (first
                    | (refine vb_t rfl ?_; conv => whnf)
                    | (refine vb_f rfl ?_; conv => whnf)
                    | (refine vb_t (by assumption) ?_; conv => whnf)
                    | (refine vb_f (by assumption) ?_; conv => whnf)
                    | (refine vo_i hr2 ?_; conv => whnf)
                    | (refine vpur_i (px_ok _) ?_; conv => whnf)
                    | (refine vb_t (roomS_t (by simp; omega)) ?_; conv => whnf)
                    | (refine vb_t (room_t (by simp <;> omega)) ?_; conv => whnf)
                    | fail)
                  refine ⟨⟨(k + 1, some (0, [boxText (x, y)])), hlk, ?_⟩, by simp only; omega, cons_eq rfl (cons_eq rfl (cons_eq rfl (cons_eq rfl (cons_eq rfl (cons_eq rfl (cons_eq rfl (cons_eq rfl (cons_eq rfl (cons_eq (slot_eq (I_eq (iadd_one (i := k) (by omega)))) rfl))))))))), rfl, rfl, rfl⟩
                  simp only [take_get hxy, List.map_append, ← hb]; rfl
                · have hk2 : k = l.length := by (first | omega | (simp only [ilt_t, ilt_f, ile_t, ile_f, ieq_t, ieq_f, ofn, List.length_map, Bool.not_eq_true', Bool.not_eq_false'] at *; omega))
                  have h9 : l = [] := by
                    have := congrArg List.length hb
                    simp [strs] at this
                    exact List.length_eq_zero_iff.1 (by omega)
                  exact ((hne _ (List.mem_of_getElem? hx)).2 h9).elim
              · conv => whnf
                refine vb_i (fun h' => ?_) (fun h' => ?_) <;> conv => whnf
                · have hlk : k < l.length := by (first | omega | (simp only [ilt_t, ilt_f, ile_t, ile_f, ieq_t, ieq_f, ofn, List.length_map, Bool.not_eq_true', Bool.not_eq_false'] at *; omega))
                  obtain ⟨⟨x, y⟩, hxy⟩ : ∃ b, l[k]? = some b := ⟨l[k], List.getElem?_eq_getElem hlk⟩
                  have hr2 : iget (l.map bxRow) (k : Int) = some (bxRow (x, y)) := iget_t (by rw [List.getElem?_map, hxy]; rfl)
                  have t1 := pxText_len x
                  have t2 := pxText_len y
                  have hbl : bl.length ≤ 256 := by
                    have := congrArg List.length hb
                    simp [strs] at this; omega
                  have hgg : Nat.beq g2 g2 = true := by simp
                  have hq : ieq (bl.length : Int) ((bl.map strRow).length : Int) = true := by rw [ieq_t]; simp
                  repeat' (first
                    | (refine vb_t rfl ?_; conv => whnf)
                    | (refine vb_f rfl ?_; conv => whnf)
                    | (refine vb_t (by assumption) ?_; conv => whnf)
                    | (refine vb_f (by assumption) ?_; conv => whnf)
                    | (refine vo_i hr2 ?_; conv => whnf)
                    | (refine vpur_i (px_ok _) ?_; conv => whnf)
                    | (refine vb_t (roomS_t (by simp; omega)) ?_; conv => whnf)
                    | (refine vb_t (room_t (by simp <;> omega)) ?_; conv => whnf)
                    | fail)
                  refine ⟨⟨(k + 1, some (g2 + 1, bl ++ [boxText (x, y)])), hlk, ?_⟩, by simp only; omega, cons_eq rfl (cons_eq rfl (cons_eq rfl (cons_eq (slot_eq (osl_eq rfl (by simp))) (cons_eq rfl (cons_eq rfl (cons_eq rfl (cons_eq rfl (cons_eq rfl (cons_eq (slot_eq (I_eq (iadd_one (i := k) (by omega)))) rfl))))))))), cons_eq rfl (cons_eq (arr_eq (by rw [List.map_append]; rfl)) rfl), rfl, rfl⟩
                  simp only [take_get hxy, List.map_append, ← hb]; rfl
                · have hk2 : k = l.length := by (first | omega | (simp only [ilt_t, ilt_f, ile_t, ile_f, ieq_t, ieq_f, ofn, List.length_map, Bool.not_eq_true', Bool.not_eq_false'] at *; omega))
                  have hbt : bl = l.map boxText := by rw [hk2, List.take_length] at hb; exact hb
                  have hcut : (((bl.map strRow).take bl.length).drop 0) = bl.map fun s => [DV.str s] := by rw [List.drop_zero, List.take_of_length_le (by simp)]; rfl
                  have hjl : (Lib.join bl [44, 32]).length ≤ 140737488355328 := by
                    have := join_le [44, 32] 405 bl (fun x hx => by rw [hbt] at hx; obtain ⟨b, _, rfl⟩ := List.mem_map.1 hx; exact boxText_len b)
                    have h8 : bl.length ≤ 256 := by rw [hbt, List.length_map]; exact hl256
                    simp only [List.length_cons, List.length_nil] at this; omega
                  have j := join_ok bl [44, 32] (by rw [hbt, List.length_map]; omega) hjl
                  have hgg : Nat.beq g2 g2 = true := by simp
                  have hem : (bl.map strRow).isEmpty = false := by
                    have h8 := (hne _ (List.mem_of_getElem? hx)).2
                    rw [hbt]
                    cases l with
                    | nil => exact (h8 rfl).elim
                    | cons => rfl
                  repeat' (first
                    | (refine vb_t rfl ?_; conv => whnf)
                    | (refine vb_f rfl ?_; conv => whnf)
                    | (refine vb_t (by assumption) ?_; conv => whnf)
                    | (refine vb_f (by assumption) ?_; conv => whnf)
                    | (rw [hcut]; conv => whnf)
                    | (refine vpur_i (j _) ?_; conv => whnf)
                    | (refine vb_t (room_t (by simp <;> omega)) ?_; conv => whnf)
                    | fail)
                  refine ⟨⟨(i + 1, some (g + 1, ol ++ [Lib.join bl [44, 32]])), hlt, ?_⟩, by simp only; omega, cons_eq rfl (cons_eq rfl (cons_eq (slot_eq (osl_eq rfl (by simp))) (cons_eq rfl (cons_eq rfl (cons_eq (slot_eq (I_eq (iadd_one (i := i) (by omega)))) rfl))))), cons_eq (arr_eq (by rw [List.map_append]; rfl)) rfl, rfl, rfl⟩
                  simp only [take_get hx, List.map_append, ← ho]; rw [hbt]; rfl
          · have hi2 : i = w.length := by (first | omega | (simp only [ilt_t, ilt_f, ile_t, ile_f, ieq_t, ieq_f, ofn, List.length_map, Bool.not_eq_true', Bool.not_eq_false'] at *; omega))
            have hlt2 : ol = w.map fun y => lineText y.2 := by rw [hi2, List.take_length] at ho; exact ho
            have hcut : (((ol.map strRow).take ol.length).drop 0) = ol.map fun s => [DV.str s] := by rw [List.drop_zero, List.take_of_length_le (by simp)]; rfl
            have hem : (ol.map strRow).isEmpty = false := by
              rw [hlt2]
              cases w with
              | nil => exact (hz rfl).elim
              | cons => rfl
            have hjl : (Lib.join ol [32, 47, 32]).length ≤ 140737488355328 := by
              have := join_le [32, 47, 32] 110000 ol (fun x hx => by
                rw [hlt2] at hx
                obtain ⟨b, hb, rfl⟩ := List.mem_map.1 hx
                have h7 := join_le [44, 32] 405 (b.2.map boxText) (fun x hx => by obtain ⟨b, _, rfl⟩ := List.mem_map.1 hx; exact boxText_len b)
                have h6 := (hne b hb).1
                simp only [List.length_cons, List.length_nil, List.length_map] at h7
                unfold lineText; omega)
              simp only [List.length_cons, List.length_nil] at this; omega
            have j := join_ok ol [32, 47, 32] (by omega) hjl
            repeat' (first
              | (refine vb_t rfl ?_; conv => whnf)
              | (refine vb_f rfl ?_; conv => whnf)
              | (refine vb_t (by assumption) ?_; conv => whnf)
              | (refine vb_f (by assumption) ?_; conv => whnf)
              | (rw [hcut]; conv => whnf)
              | (refine vpur_i (j _) ?_; conv => whnf)
              | fail)
            refine ⟨congrArg CR.ret (S_eq ?_), by trivial⟩
            unfold wordsText; rw [if_neg hz, if_pos hg, hlt2]
      · have q1 : (!goodFrom 0 w) = true := by simpa using hg
        repeat' (first
          | (refine vb_t rfl ?_; conv => whnf)
          | (refine vb_f rfl ?_; conv => whnf)
          | (refine vb_t (by assumption) ?_; conv => whnf)
          | (refine vb_f (by assumption) ?_; conv => whnf)
          | (refine vpur_i hgd ?_; conv => whnf)
          | fail)
        refine ⟨congrArg CR.ret (S_eq ?_), by trivial⟩
        unfold wordsText; rw [if_neg hz, if_neg hg]
/-- The reference's: texts one behind the other. -/
theorem join_snoc (sep x : List UInt8) : ∀ l : List (List UInt8), l ≠ [] → Lib.join (l ++ [x]) sep = Lib.join l sep ++ (sep ++ x)
  | [], h => (h rfl).elim
  | [a], _ => by simp [Lib.join_cons, Lib.joinTail]
  | a :: b :: l, _ => by
    have h := join_snoc sep x (b :: l) (by simp)
    have e : ∀ (a b : List UInt8) l, Lib.join (a :: b :: l) sep = a ++ (sep ++ Lib.join (b :: l) sep) := fun a b l => by simp [Lib.join_cons, Lib.joinTail]
    have e1 := e a b (l ++ [x])
    have e2 := e a b l
    simp only [List.cons_append] at h ⊢
    rw [e1, h, e2]; simp only [List.append_assoc]
theorem good_sides : ∀ (w : List Ln) (n : Nat), goodFrom n w = true → ∀ x ∈ w, boxesOk x.2 = true
  | [], _, _ => fun x hx => by cases hx
  | y :: r, n, h => by
    simp only [goodFrom, Bool.and_eq_true] at h
    obtain ⟨⟨⟨h1, h2⟩, h3⟩, h4⟩ := h
    intro x hx
    rcases List.mem_cons.1 hx with rfl | hx
    · exact h3
    · exact good_sides r _ h4 x hx
theorem boxes_all : ∀ l : List Bx, boxesOk l = true → ∀ b ∈ l, sideOk b.1 = true ∧ sideOk b.2 = true
  | [], _ => fun b hb => by cases hb
  | y :: r, h => by
    simp only [boxesOk, Bool.and_eq_true] at h
    intro b hb
    rcases List.mem_cons.1 hb with rfl | hb
    · exact h.1
    · exact boxes_all r h.2 b hb
theorem valText_px {n : Int} (h : sideOk n = true) : valText (Int.ofNat 2) n = pxText n := by
  simp only [sideOk, Bool.and_eq_true, decide_eq_true_eq] at h
  have e : goodL 2 n 63 = true := by
    unfold goodL within
    rw [if_pos rfl, if_neg (by omega)]
    exact ile_t.mpr h.2
  show valText 2 n = pxText n
  unfold valText pxText
  rw [if_pos e, if_pos rfl]
theorem line_len (l : List Bx) (h : l.length ≤ 256) : (lineText l).length ≤ 110000 := by
  have h7 := join_le [44, 32] 405 (l.map boxText) (fun x hx => by obtain ⟨b, _, rfl⟩ := List.mem_map.1 hx; exact boxText_len b)
  simp only [List.length_cons, List.length_nil, List.length_map] at h7
  unfold lineText; omega
theorem rwtext_ok (w : List Ln) (v : DV) (h : linesA w v) : Pur F0 42 [.d v] [] .no (.ret (S (wordsText w))) .no := by
  have hgd := rwgood_ok w v h
  obtain ⟨hl, hlen, ⟨rfl, rfl⟩ | rfl⟩ := h
  · refine pur_code code42_ok ?_
    conv => whnf
    have q0 : ieq 0 (Int.ofNat 0) = true := eq00
    repeat' (first
      | (refine vb_t rfl ?_; conv => whnf)
      | (refine vb_f rfl ?_; conv => whnf)
      | (refine vb_t (by assumption) ?_; conv => whnf)
      | (refine vb_f (by assumption) ?_; conv => whnf)
      | fail)
    exact ⟨by trivial, by trivial⟩
  · refine pur_code code42_ok ?_
    conv => whnf
    by_cases hz : w = []
    · subst hz
      have q0 : ieq ((([] : List Ln).map lnRow).length : Int) (Int.ofNat 0) = true := eq00
      repeat' (first
        | (refine vb_t rfl ?_; conv => whnf)
        | (refine vb_f rfl ?_; conv => whnf)
        | (refine vb_t (by assumption) ?_; conv => whnf)
        | (refine vb_f (by assumption) ?_; conv => whnf)
        | fail)
      exact ⟨by trivial, by trivial⟩
    · have q0 : ieq ((w.map lnRow).length : Int) (Int.ofNat 0) = false := by rw [ieq_f, List.length_map, ofn]; intro h8; exact hz (List.length_eq_zero_iff.1 (by omega))
      by_cases hg : goodFrom 0 w = true
      · have q1 : (!goodFrom 0 w) = false := by rw [hg]; rfl
        have hne := good_all w 0 hg
        have hw256 := good_many w 0 (by omega) hg
        repeat' (first
          | (refine vb_t rfl ?_; conv => whnf)
          | (refine vb_f rfl ?_; conv => whnf)
          | (refine vb_t (by assumption) ?_; conv => whnf)
          | (refine vb_f (by assumption) ?_; conv => whnf)
          | (refine vpur_i hgd ?_; conv => whnf)
          | fail)
        refine vloop_eq2 (fr' := [(0, .d (.sl 1 (w.map lnRow))), (2, S []), (3, S (Lib.join ((w.take 0).map fun y => lineText y.2) [32, 47, 32])), (4, I ((0 : Nat) : Int))]) (h' := []) rfl rfl ?_
        refine vloop_by (σ := { x : Nat × List UInt8 // x.1 ≤ w.length ∧ x.2 = Lib.join ((w.take x.1).map fun y => lineText y.2) [32, 47, 32] }) (fun x => [(0, .d (.sl 1 (w.map lnRow))), (2, S []), (3, S x.1.2), (4, I (x.1.1 : Int))]) (fun x => []) (fun x => w.length - x.1.1) ?_ ⟨(0, _), Nat.zero_le _, rfl⟩
        rintro ⟨⟨i, s⟩, hi, hs⟩
        simp only at hi hs
        conv => whnf
        refine vb_i (fun h' => ?_) (fun h' => ?_) <;> conv => whnf
        · have hlt : i < w.length := by (first | omega | (simp only [ilt_t, ilt_f, ile_t, ile_f, ieq_t, ieq_f, ofn, List.length_map, Bool.not_eq_true', Bool.not_eq_false'] at *; omega))
          obtain ⟨⟨d, l⟩, hx⟩ : ∃ x, w[i]? = some x := ⟨w[i], List.getElem?_eq_getElem hlt⟩
          have hr : iget (w.map lnRow) (i : Int) = some (lnRow (d, l)) := iget_t (by rw [List.getElem?_map, hx]; rfl)
          obtain ⟨h1, hll⟩ := hl _ (List.mem_of_getElem? hx)
          have hll : l.length ≤ 9223372036854775807 := hll
          have hl256 : l.length ≤ 256 := (hne (d, l) (List.mem_of_getElem? hx)).1
          rcases h1 with ⟨e1, e2⟩ | e1
          · exact ((hne (d, l) (List.mem_of_getElem? hx)).2 e2).elim
          · obtain rfl : d = .sl 2 (l.map bxRow) := e1
            have hsl : s.length ≤ 140737000 := by
              have h3 := join_le [32, 47, 32] 110000 ((w.take i).map fun y => lineText y.2) (fun x hx => by
                obtain ⟨b, hb, rfl⟩ := List.mem_map.1 hx
                exact line_len b.2 (hne b (List.mem_of_mem_take hb)).1)
              rw [hs]
              simp only [List.length_cons, List.length_nil, List.length_map, List.length_take] at h3
              have h4 : min i w.length ≤ 256 := by omega
              have h5 := Nat.mul_le_mul_right (110000 + (0 + 1 + 1 + 1)) h4
              omega
            by_cases hi0 : i = 0
            · have q2 : ilt (Int.ofNat 0) (i : Int) = false := by rw [ilt_f, ofn]; omega
              repeat' (first
                | (refine vb_t rfl ?_; conv => whnf)
                | (refine vb_f rfl ?_; conv => whnf)
                | (refine vb_t (by assumption) ?_; conv => whnf)
                | (refine vb_f (by assumption) ?_; conv => whnf)
                | (refine vo_i hr ?_; conv => whnf)
                | fail)
              have hnext : s ++ lineText l = Lib.join ((w.take (i + 1)).map fun y => lineText y.2) [32, 47, 32] := by
                subst hi0
                have e0 : Lib.join (([] : List (List UInt8))) [32, 47, 32] = [] := rfl
                rw [take_get hx, hs, List.take_zero, List.map_nil, e0, List.nil_append, List.nil_append, List.map_cons, List.map_nil, Lib.join_one]
              refine vloop_eq2 (fr' := [(0, .d (.sl 1 (w.map lnRow))), (2, S []), (3, S (s ++ Lib.join ((l.take 0).map boxText) [44, 32])), (4, I (i : Int)), (5, I ((0 : Nat) : Int))]) (h' := []) (cons_eq rfl (cons_eq rfl (cons_eq (slot_eq (S_eq (by simp [Lib.join]))) rfl))) rfl ?_
              refine vloop_by (σ := { x : Nat × List UInt8 // x.1 ≤ l.length ∧ x.2 = s ++ Lib.join ((l.take x.1).map boxText) [44, 32] }) (fun x => [(0, .d (.sl 1 (w.map lnRow))), (2, S []), (3, S x.1.2), (4, I (i : Int)), (5, I (x.1.1 : Int))]) (fun x => []) (fun x => l.length - x.1.1) ?_ ⟨(0, _), Nat.zero_le _, rfl⟩
              rintro ⟨⟨k, t⟩, hk, ht⟩
              simp only at hk ht
              conv => whnf
              repeat' (first
                | (refine vb_t rfl ?_; conv => whnf)
                | (refine vb_f rfl ?_; conv => whnf)
                | (refine vb_t (by assumption) ?_; conv => whnf)
                | (refine vb_f (by assumption) ?_; conv => whnf)
                | (refine vo_i hr ?_; conv => whnf)
                | fail)
              refine vb_i (fun h' => ?_) (fun h' => ?_) <;> conv => whnf
              · have hlk : k < l.length := by (first | omega | (simp only [ilt_t, ilt_f, ile_t, ile_f, ieq_t, ieq_f, ofn, List.length_map, Bool.not_eq_true', Bool.not_eq_false'] at *; omega))
                obtain ⟨⟨x, y⟩, hxy⟩ : ∃ b, l[k]? = some b := ⟨l[k], List.getElem?_eq_getElem hlk⟩
                have hr2 : iget (l.map bxRow) (k : Int) = some (bxRow (x, y)) := iget_t (by rw [List.getElem?_map, hxy]; rfl)
                have hsd := boxes_all l (good_sides w 0 hg _ (List.mem_of_getElem? hx)) (x, y) (List.mem_of_getElem? hxy)
                have cx := rvtext_ok (Int.ofNat 2) x
                have cy := rvtext_ok (Int.ofNat 2) y
                rw [valText_px hsd.1] at cx
                rw [valText_px hsd.2] at cy
                have t1 := pxText_len x
                have t2 := pxText_len y
                have htl : t.length ≤ 1407370000 := by
                  have h3 := line_len (l.take k) (by rw [List.length_take]; omega)
                  unfold lineText at h3
                  rw [ht, List.length_append]
                  have h4 : (s).length ≤ 140737003 := by first | omega | (simp; omega)
                  omega
                by_cases hk0 : k = 0
                · have q3 : ilt (Int.ofNat 0) (k : Int) = false := by rw [ilt_f, ofn]; omega
                  repeat' (first
                    | (refine vb_t rfl ?_; conv => whnf)
                    | (refine vb_f rfl ?_; conv => whnf)
                    | (refine vb_t (by assumption) ?_; conv => whnf)
                    | (refine vb_f (by assumption) ?_; conv => whnf)
                    | (refine vo_i hr ?_; conv => whnf)
                    | (refine vo_i hr2 ?_; conv => whnf)
                    | (refine vpur_i cx ?_; conv => whnf)
                    | (refine vpur_i cy ?_; conv => whnf)
                    | (refine vb_t (roomS_t (by simp; omega)) ?_; conv => whnf)
                    | fail)
                  refine ⟨⟨(k + 1, t ++ pxText x ++ [32] ++ pxText y), hlk, ?_⟩, by simp only; omega, cons_eq rfl (cons_eq rfl (cons_eq rfl (cons_eq rfl (cons_eq (slot_eq (I_eq (iadd_one (i := k) (by omega)))) rfl)))), rfl, rfl, rfl⟩
                  show t ++ pxText x ++ [32] ++ pxText y = s ++ Lib.join ((l.take (k + 1)).map boxText) [44, 32]
                  subst hk0
                  have e0 : Lib.join (([] : List (List UInt8))) [44, 32] = [] := rfl
                  rw [take_get hxy, ht, List.take_zero, List.map_nil, e0, List.append_nil, List.nil_append, List.map_cons, List.map_nil, Lib.join_one]
                  simp only [boxText, List.append_assoc]
                · have q3 : ilt (Int.ofNat 0) (k : Int) = true := by rw [ilt_t, ofn]; omega
                  repeat' (first
                    | (refine vb_t rfl ?_; conv => whnf)
                    | (refine vb_f rfl ?_; conv => whnf)
                    | (refine vb_t (by assumption) ?_; conv => whnf)
                    | (refine vb_f (by assumption) ?_; conv => whnf)
                    | (refine vo_i hr ?_; conv => whnf)
                    | (refine vo_i hr2 ?_; conv => whnf)
                    | (refine vpur_i cx ?_; conv => whnf)
                    | (refine vpur_i cy ?_; conv => whnf)
                    | (refine vb_t (roomS_t (by simp; omega)) ?_; conv => whnf)
                    | fail)
                  refine ⟨⟨(k + 1, t ++ [44, 32] ++ pxText x ++ [32] ++ pxText y), hlk, ?_⟩, by simp only; omega, cons_eq rfl (cons_eq rfl (cons_eq rfl (cons_eq rfl (cons_eq (slot_eq (I_eq (iadd_one (i := k) (by omega)))) rfl)))), rfl, rfl, rfl⟩
                  show t ++ [44, 32] ++ pxText x ++ [32] ++ pxText y = s ++ Lib.join ((l.take (k + 1)).map boxText) [44, 32]
                  have hn0 : (l.take k).map boxText ≠ [] := by
                    intro h; have := congrArg List.length h
                    simp only [List.length_map, List.length_take, List.length_nil] at this; omega
                  rw [take_get hxy, ht, List.map_append, List.map_cons, List.map_nil, join_snoc _ _ _ hn0]
                  simp only [boxText, List.append_assoc]
              · have hk2 : k = l.length := by (first | omega | (simp only [ilt_t, ilt_f, ile_t, ile_f, ieq_t, ieq_f, ofn, List.length_map, Bool.not_eq_true', Bool.not_eq_false'] at *; omega))
                have hT : t = s ++ lineText l := by rw [ht, hk2, List.take_length]; rfl
                repeat' (first
                  | (refine vb_t rfl ?_; conv => whnf)
                  | (refine vb_f rfl ?_; conv => whnf)
                  | (refine vb_t (by assumption) ?_; conv => whnf)
                  | (refine vb_f (by assumption) ?_; conv => whnf)
                  | fail)
                refine ⟨⟨(i + 1, t), hlt, ?_⟩, by simp only; omega, cons_eq rfl (cons_eq rfl (cons_eq rfl (cons_eq (slot_eq (I_eq (iadd_one (i := i) (by omega)))) rfl))), rfl, rfl, rfl⟩
                exact hT.trans hnext
            · have q2 : ilt (Int.ofNat 0) (i : Int) = true := by rw [ilt_t, ofn]; omega
              repeat' (first
                | (refine vb_t rfl ?_; conv => whnf)
                | (refine vb_f rfl ?_; conv => whnf)
                | (refine vb_t (by assumption) ?_; conv => whnf)
                | (refine vb_f (by assumption) ?_; conv => whnf)
                | (refine vo_i hr ?_; conv => whnf)
                | (refine vb_t (roomS_t (by simp; omega)) ?_; conv => whnf)
                | fail)
              have hnext : (s ++ [32, 47, 32]) ++ lineText l = Lib.join ((w.take (i + 1)).map fun y => lineText y.2) [32, 47, 32] := by
                have hn0 : ((w.take i).map fun y => lineText y.2) ≠ [] := by
                  intro h; have := congrArg List.length h
                  simp only [List.length_map, List.length_take, List.length_nil] at this; omega
                rw [take_get hx, hs, List.map_append, List.map_cons, List.map_nil, join_snoc _ _ _ hn0, List.append_assoc]
              refine vloop_eq2 (fr' := [(0, .d (.sl 1 (w.map lnRow))), (2, S []), (3, S ((s ++ [32, 47, 32]) ++ Lib.join ((l.take 0).map boxText) [44, 32])), (4, I (i : Int)), (5, I ((0 : Nat) : Int))]) (h' := []) (cons_eq rfl (cons_eq rfl (cons_eq (slot_eq (S_eq (by simp [Lib.join]))) rfl))) rfl ?_
              refine vloop_by (σ := { x : Nat × List UInt8 // x.1 ≤ l.length ∧ x.2 = (s ++ [32, 47, 32]) ++ Lib.join ((l.take x.1).map boxText) [44, 32] }) (fun x => [(0, .d (.sl 1 (w.map lnRow))), (2, S []), (3, S x.1.2), (4, I (i : Int)), (5, I (x.1.1 : Int))]) (fun x => []) (fun x => l.length - x.1.1) ?_ ⟨(0, _), Nat.zero_le _, rfl⟩
              rintro ⟨⟨k, t⟩, hk, ht⟩
              simp only at hk ht
              conv => whnf
              repeat' (first
                | (refine vb_t rfl ?_; conv => whnf)
                | (refine vb_f rfl ?_; conv => whnf)
                | (refine vb_t (by assumption) ?_; conv => whnf)
                | (refine vb_f (by assumption) ?_; conv => whnf)
                | (refine vo_i hr ?_; conv => whnf)
                | fail)
              refine vb_i (fun h' => ?_) (fun h' => ?_) <;> conv => whnf
              · have hlk : k < l.length := by (first | omega | (simp only [ilt_t, ilt_f, ile_t, ile_f, ieq_t, ieq_f, ofn, List.length_map, Bool.not_eq_true', Bool.not_eq_false'] at *; omega))
                obtain ⟨⟨x, y⟩, hxy⟩ : ∃ b, l[k]? = some b := ⟨l[k], List.getElem?_eq_getElem hlk⟩
                have hr2 : iget (l.map bxRow) (k : Int) = some (bxRow (x, y)) := iget_t (by rw [List.getElem?_map, hxy]; rfl)
                have hsd := boxes_all l (good_sides w 0 hg _ (List.mem_of_getElem? hx)) (x, y) (List.mem_of_getElem? hxy)
                have cx := rvtext_ok (Int.ofNat 2) x
                have cy := rvtext_ok (Int.ofNat 2) y
                rw [valText_px hsd.1] at cx
                rw [valText_px hsd.2] at cy
                have t1 := pxText_len x
                have t2 := pxText_len y
                have htl : t.length ≤ 1407370000 := by
                  have h3 := line_len (l.take k) (by rw [List.length_take]; omega)
                  unfold lineText at h3
                  rw [ht, List.length_append]
                  have h4 : ((s ++ [32, 47, 32])).length ≤ 140737003 := by first | omega | (simp; omega)
                  omega
                by_cases hk0 : k = 0
                · have q3 : ilt (Int.ofNat 0) (k : Int) = false := by rw [ilt_f, ofn]; omega
                  repeat' (first
                    | (refine vb_t rfl ?_; conv => whnf)
                    | (refine vb_f rfl ?_; conv => whnf)
                    | (refine vb_t (by assumption) ?_; conv => whnf)
                    | (refine vb_f (by assumption) ?_; conv => whnf)
                    | (refine vo_i hr ?_; conv => whnf)
                    | (refine vo_i hr2 ?_; conv => whnf)
                    | (refine vpur_i cx ?_; conv => whnf)
                    | (refine vpur_i cy ?_; conv => whnf)
                    | (refine vb_t (roomS_t (by simp; omega)) ?_; conv => whnf)
                    | fail)
                  refine ⟨⟨(k + 1, t ++ pxText x ++ [32] ++ pxText y), hlk, ?_⟩, by simp only; omega, cons_eq rfl (cons_eq rfl (cons_eq rfl (cons_eq rfl (cons_eq (slot_eq (I_eq (iadd_one (i := k) (by omega)))) rfl)))), rfl, rfl, rfl⟩
                  show t ++ pxText x ++ [32] ++ pxText y = (s ++ [32, 47, 32]) ++ Lib.join ((l.take (k + 1)).map boxText) [44, 32]
                  subst hk0
                  have e0 : Lib.join (([] : List (List UInt8))) [44, 32] = [] := rfl
                  rw [take_get hxy, ht, List.take_zero, List.map_nil, e0, List.append_nil, List.nil_append, List.map_cons, List.map_nil, Lib.join_one]
                  simp only [boxText, List.append_assoc]
                · have q3 : ilt (Int.ofNat 0) (k : Int) = true := by rw [ilt_t, ofn]; omega
                  repeat' (first
                    | (refine vb_t rfl ?_; conv => whnf)
                    | (refine vb_f rfl ?_; conv => whnf)
                    | (refine vb_t (by assumption) ?_; conv => whnf)
                    | (refine vb_f (by assumption) ?_; conv => whnf)
                    | (refine vo_i hr ?_; conv => whnf)
                    | (refine vo_i hr2 ?_; conv => whnf)
                    | (refine vpur_i cx ?_; conv => whnf)
                    | (refine vpur_i cy ?_; conv => whnf)
                    | (refine vb_t (roomS_t (by simp; omega)) ?_; conv => whnf)
                    | fail)
                  refine ⟨⟨(k + 1, t ++ [44, 32] ++ pxText x ++ [32] ++ pxText y), hlk, ?_⟩, by simp only; omega, cons_eq rfl (cons_eq rfl (cons_eq rfl (cons_eq rfl (cons_eq (slot_eq (I_eq (iadd_one (i := k) (by omega)))) rfl)))), rfl, rfl, rfl⟩
                  show t ++ [44, 32] ++ pxText x ++ [32] ++ pxText y = (s ++ [32, 47, 32]) ++ Lib.join ((l.take (k + 1)).map boxText) [44, 32]
                  have hn0 : (l.take k).map boxText ≠ [] := by
                    intro h; have := congrArg List.length h
                    simp only [List.length_map, List.length_take, List.length_nil] at this; omega
                  rw [take_get hxy, ht, List.map_append, List.map_cons, List.map_nil, join_snoc _ _ _ hn0]
                  simp only [boxText, List.append_assoc]
              · have hk2 : k = l.length := by (first | omega | (simp only [ilt_t, ilt_f, ile_t, ile_f, ieq_t, ieq_f, ofn, List.length_map, Bool.not_eq_true', Bool.not_eq_false'] at *; omega))
                have hT : t = (s ++ [32, 47, 32]) ++ lineText l := by rw [ht, hk2, List.take_length]; rfl
                repeat' (first
                  | (refine vb_t rfl ?_; conv => whnf)
                  | (refine vb_f rfl ?_; conv => whnf)
                  | (refine vb_t (by assumption) ?_; conv => whnf)
                  | (refine vb_f (by assumption) ?_; conv => whnf)
                  | fail)
                refine ⟨⟨(i + 1, t), hlt, ?_⟩, by simp only; omega, cons_eq rfl (cons_eq rfl (cons_eq rfl (cons_eq (slot_eq (I_eq (iadd_one (i := i) (by omega)))) rfl))), rfl, rfl, rfl⟩
                exact hT.trans hnext
        · have hi2 : i = w.length := by (first | omega | (simp only [ilt_t, ilt_f, ile_t, ile_f, ieq_t, ieq_f, ofn, List.length_map, Bool.not_eq_true', Bool.not_eq_false'] at *; omega))
          repeat' (first
            | (refine vb_t rfl ?_; conv => whnf)
            | (refine vb_f rfl ?_; conv => whnf)
            | (refine vb_t (by assumption) ?_; conv => whnf)
            | (refine vb_f (by assumption) ?_; conv => whnf)
            | fail)
          refine ⟨congrArg CR.ret (S_eq ?_), by trivial⟩
          show s = wordsText w
          rw [hs, hi2, List.take_length]
          unfold wordsText; rw [if_neg hz, if_pos hg]
      · have q1 : (!goodFrom 0 w) = true := by simpa using hg
        repeat' (first
          | (refine vb_t rfl ?_; conv => whnf)
          | (refine vb_f rfl ?_; conv => whnf)
          | (refine vb_t (by assumption) ?_; conv => whnf)
          | (refine vb_f (by assumption) ?_; conv => whnf)
          | (refine vpur_i hgd ?_; conv => whnf)
          | fail)
        refine ⟨congrArg CR.ret (S_eq ?_), by trivial⟩
        unfold wordsText; rw [if_neg hz, if_neg hg]
end Go.Proofs.YtapnjabhcdlhbaaGreatDoor.Ab
/- Layer 9 (box): the law BoxContent walked. -/
namespace Go.Proofs.YtapnjabhcdlhbaaGreatDoor.Ab
open Go
set_option linter.unusedSimpArgs false
set_option maxRecDepth 100000
set_option linter.unusedVariables false
set_option maxHeartbeats 4000000

theorem boxContent_ok (w v : List Ln) (d e : DV) (hd : linesA w d) (he : linesA v e) : Pur F0 7 [.d d, .d e] [] .no (.ret (B true)) .no := by
  obtain ⟨b1, c1⟩ := light_ok w d hd
  obtain ⟨b2, c2⟩ := light_ok v e he
  have s1 : sameLn w w = true := decide_eq_true rfl
  have s2 : seq (wordsText w) (wordsText w) = true := by rw [seq_t]
  have k1 := wgood_ok w d hd
  have k2 := rwgood_ok w d hd
  have k3 := wtext_ok w d hd
  have k4 := rwtext_ok w d hd
  have k5 := same_ok d e w v hd he
  have k6 := rsame_ok d e w v hd he
  have k7 := same_ok d d w w hd hd
  generalize goodFrom 0 w = g1 at *
  generalize sameLn w v = g2 at *
  generalize sameLn w w = g3 at *
  subst s1
  refine pur_code code7_ok ?_
  conv => whnf
  cases b1 <;> cases b2 <;> cases g1 <;> cases g2
  repeat' (first
    | (refine vb_t rfl ?_; conv => whnf)
    | (refine vb_f rfl ?_; conv => whnf)
    | (refine vb_t (by assumption) ?_; conv => whnf)
    | (refine vb_f (by assumption) ?_; conv => whnf)
    | (refine vpur_i c1 ?_; conv => whnf)
    | (refine vpur_i c2 ?_; conv => whnf)
    | (refine vpur_i k1 ?_; conv => whnf)
    | (refine vpur_i k2 ?_; conv => whnf)
    | (refine vpur_i k3 ?_; conv => whnf)
    | (refine vpur_i k4 ?_; conv => whnf)
    | (refine vpur_i k5 ?_; conv => whnf)
    | (refine vpur_i k6 ?_; conv => whnf)
    | (refine vpur_i k7 ?_; conv => whnf)
    | (refine vpur_i lives09_ok ?_; conv => whnf)
    | (refine vb_i (fun h => ?_) (fun h => ?_) <;> conv => whnf)
    | fail)
  all_goals exact ⟨by trivial, by trivial⟩
/-! The arguments. -/
open Go.ChangeShapes Go.WideShapes Go.RowKit
theorem box_of {d : Nat} {xs : List DV} (h : Shape Tryz.prog (d + 2) 90 xs) : ∃ b : Bx, xs = bxRow b := by
  simp only [Shape, Tryz.underlying90, Tryz.underlying3, ShapeL] at h
  obtain ⟨a, b, rfl, ⟨k, rfl, _⟩, c, d, rfl, ⟨n, rfl, _⟩, rfl⟩ := h
  exact ⟨(k, n), rfl⟩
theorem boxRows_of {d : Nat} : ∀ {rows : List (List DV)}, (∀ row ∈ rows, Shape Tryz.prog (d + 2) 90 row) → ∃ l : List Bx, rows = l.map bxRow
  | [], _ => ⟨[], rfl⟩
  | r :: rs, h => by
    obtain ⟨b, rfl⟩ := box_of (h r (List.mem_cons_self ..))
    obtain ⟨l, rfl⟩ := boxRows_of fun r hr => h r (List.mem_cons_of_mem _ hr)
    exact ⟨b :: l, rfl⟩
theorem cellsBox : Tryz.prog.cellsOf 90 = 2 := by kernel_rfl
theorem cellsLine : Tryz.prog.cellsOf 88 = 1 := by kernel_rfl
theorem line_of {d : Nat} {xs : List DV} (h : Shape Tryz.prog (d + 3) 88 xs) : ∃ x : Ln, xs = lnRow x ∧ isLine x.1 x.2 := by
  rw [Shape, Tryz.underlying88] at h
  rcases h with rfl | ⟨rows, rfl, hr, hlen⟩
  · exact ⟨(.nilsl, []), rfl, .inl ⟨rfl, rfl⟩, Nat.zero_le _⟩
  · obtain ⟨l, rfl⟩ := boxRows_of hr
    rw [cellsBox]
    rw [List.length_map] at hlen
    have hlen : _ ≤ 9223372036854775807 := hlen
    exact ⟨(.sl 2 (l.map bxRow), l), rfl, .inr rfl, hlen⟩
theorem lineRows_of {d : Nat} : ∀ {rows : List (List DV)}, (∀ row ∈ rows, Shape Tryz.prog (d + 3) 88 row) → ∃ w : List Ln, rows = w.map lnRow ∧ ∀ x ∈ w, isLine x.1 x.2
  | [], _ => ⟨[], rfl, fun x h => by cases h⟩
  | r :: rs, h => by
    obtain ⟨x, rfl, hx⟩ := line_of (h r (List.mem_cons_self ..))
    obtain ⟨w, rfl, hw⟩ := lineRows_of fun r hr => h r (List.mem_cons_of_mem _ hr)
    refine ⟨x :: w, rfl, fun y hy => ?_⟩
    rcases List.mem_cons.1 hy with rfl | hy
    · exact hx
    · exact hw y hy
theorem boxes_of {d : Nat} {xs : List DV} (h : Shape Tryz.prog (d + 4) 72 xs) : ∃ (w : List Ln) (v : DV), linesA w v ∧ xs = [v] := by
  rw [Shape, Tryz.underlying72] at h
  rcases h with rfl | ⟨rows, rfl, hr, hlen⟩
  · exact ⟨[], .nilsl, ⟨(fun x h => by cases h), Nat.zero_le _, .inl ⟨rfl, rfl⟩⟩, rfl⟩
  · obtain ⟨w, rfl, hw⟩ := lineRows_of hr
    rw [cellsLine]
    rw [List.length_map] at hlen
    have hlen : _ ≤ 9223372036854775807 := hlen
    exact ⟨w, _, ⟨hw, hlen, .inr rfl⟩, rfl⟩
theorem arg_boxes (x : DV) : argA Tryz.prog 72 [x] = .d x := by simp only [argA, Tryz.underlying72]
end Go.Proofs.YtapnjabhcdlhbaaGreatDoor.Ab
