/- Some texts as one, one behind the other; what is not leaned on is left out. -/
import Derived.Test.YtjeblkicgmmhiaaGreatDoorQ4
import Derived.Test.YtjeblkicgmmhiaaGreatDoorQ1
namespace Go.Proofs.YtjeblkicgmmhiaaGreatDoor.Ab
open Go
set_option linter.unusedSimpArgs false
set_option maxRecDepth 100000
set_option linter.unusedVariables false
set_option maxHeartbeats 4000000
theorem texts_sl (a b : List (List UInt8)) (ha : a.length ≤ 1000000) : Pur F0 15 [.d (.sl 1 (a.map wsRow)), .d (.sl 1 (b.map wsRow))] [] .no (.ret (B (pb (a = b)))) .no := by
  refine pur_code code15_ok ?_
  conv => whnf
  by_cases hlen : a.length = b.length
  · have q : (!ieq ((a.map wsRow).length : Int) ((b.map wsRow).length : Int)) = false := by rw [Bool.not_eq_false', ieq_t, List.length_map, List.length_map, hlen]
    repeat' ((first | refine vb_t rfl ?_ | refine vb_f rfl ?_ | refine vb_t (by assumption) ?_ | refine vb_f (by assumption) ?_ | refine vor_l ?_ | fail) <;> conv => whnf)
    refine vloop_cnt (α := Unit) a.length (fun k _ => ∀ (i : Nat) (x : List UInt8), i < k → a[i]? = some x → b[i]? = some x) (fun k _ => [(5, I (k : Int))]) () (fun i x h => by omega) rfl ?_
    intro k _ hk hI
    conv => whnf
    by_cases hlt : k < a.length
    · obtain ⟨x, hx⟩ := get_in hlt
      obtain ⟨y, hy⟩ := get_in (l := b) (k := k) (by omega)
      have hg1 := iget_map (f := wsRow) hx
      have hg2 := iget_map (f := wsRow) hy
      have hl := lt_len (f := wsRow) hlt
      by_cases hxy : x = y
      · have q2 : (!seq x y) = false := by rw [Bool.not_eq_false', seq_t]; exact hxy
        have hn := upto_succ (P := fun i x => b[i]? = some x) hI hx (by rw [hy, hxy])
        repeat' ((first | refine vb_t rfl ?_ | refine vb_f rfl ?_ | refine vb_t (by assumption) ?_ | refine vb_f (by assumption) ?_ | refine vo_i hg1 ?_ | refine vo_i hg2 ?_ | refine vor_l ?_ | fail) <;> conv => whnf)
        exact ⟨⟨(k + 1, ()), (by omega), hn⟩, (by simp only; omega), (by repeat' (first | exact rfl | exact slot_eq (I_eq (iadd_one (by omega))) | (refine cons_eq ?_ ?_) | assumption)), rfl, rfl, rfl⟩
      · have q2 : (!seq x y) = true := by rw [Bool.not_eq_true', seq_f]; exact hxy
        have hA : pb (a = b) = false := pb_f fun h => by
          rw [h, hy] at hx
          exact hxy (Option.some.inj hx).symm
        rw [hA]
        repeat' ((first | refine vb_t rfl ?_ | refine vb_f rfl ?_ | refine vb_t (by assumption) ?_ | refine vb_f (by assumption) ?_ | refine vo_i hg1 ?_ | refine vo_i hg2 ?_ | refine vor_l ?_ | fail) <;> conv => whnf)
        exact ⟨rfl, rfl⟩
    · have hl := nlt_len (f := wsRow) hlt
      have hA : pb (a = b) = true := pb_t (List.ext_getElem? fun i => by
        rcases Nat.lt_or_ge i a.length with h | h
        · obtain ⟨x, hx⟩ := get_in h
          rw [hx, hI i x (by omega) hx]
        · rw [List.getElem?_eq_none h, List.getElem?_eq_none (by omega)])
      rw [hA]
      repeat' ((first | refine vb_t rfl ?_ | refine vb_f rfl ?_ | refine vb_t (by assumption) ?_ | refine vb_f (by assumption) ?_ | refine vb_f (by (first | omega | (simp only [ilt_t, ilt_f, ile_t, ile_f, ieq_t, ieq_f, ofn, List.length_map, Bool.not_eq_true', Bool.not_eq_false'] at *; omega))) ?_ | refine vor_l ?_ | fail) <;> conv => whnf)
      exact ⟨rfl, rfl⟩
  · have q : (!ieq ((a.map wsRow).length : Int) ((b.map wsRow).length : Int)) = true := by rw [Bool.not_eq_true', ieq_f, List.length_map, List.length_map]; omega
    rw [pb_f (p := a = b) (fun h => hlen (by rw [h]))]
    repeat' ((first | refine vb_t rfl ?_ | refine vb_f rfl ?_ | refine vb_t (by assumption) ?_ | refine vb_f (by assumption) ?_ | refine vor_l ?_ | fail) <;> conv => whnf)
    exact ⟨rfl, rfl⟩
theorem texts_nn : Pur F0 15 [.d .nilsl, .d .nilsl] [] .no (.ret (B true)) .no := pur_closed (n := 100) (by kernel_rfl)
theorem texts_same (ns : List (List UInt8)) (h : ns.length ≤ 1000000) : Pur F0 15 [.d (nmW ns), .d (nmW ns)] [] .no (.ret (B true)) .no := by
  rcases ns with _ | ⟨a, l⟩
  · exact texts_nn
  · have := texts_sl (a :: l) (a :: l) h
    rw [pb_t (p := a :: l = a :: l) rfl] at this
    exact this
/-! No words at all. -/
theorem rd6_nil (i allow : Int) : readS (wordS [] i) i allow = (0, 0, i, 50) := by
  have hw : wordS [] i = tokEnd := by unfold wordS; split <;> rfl
  rw [hw]
  unfold readS
  rw [if_neg (by decide), if_pos (.inl (by decide))]
theorem no_tok : ∀ t ∈ ([] : List Tok), tokOk t := fun t h => by cases h
theorem fnS_nil (i : Int) (x : List UInt8) : fnS (wordS [] i) x = false := by
  have hw : wordS [] i = tokEnd := by unfold wordS; split <;> rfl
  rw [hw]
  unfold fnS
  exact decide_eq_false fun h => absurd h.1 (by decide)
theorem sgS_nil (i : Int) (x : List UInt8) : sgS (wordS [] i) x = false := by
  have hw : wordS [] i = tokEnd := by unfold wordS; split <;> rfl
  rw [hw]
  unfold sgS
  exact decide_eq_false fun h => absurd h.1 (by decide)
theorem functionN (i n : Int) (name : List UInt8) : Drp F0 1 77 [.ptr 0 0, S name] [rdrO .nilsl i n] .no (.ret (B false)) [rdrO .nilsl i n] .no := by
  refine drp_code code77_ok ?_
  conv => whnf
  by_cases h0 : i < 0
  · have q : ilt i (Int.ofNat 0) = true := by rw [ilt_t]; exact h0
    repeat' ((first | refine vb_t rfl ?_ | refine vb_f rfl ?_ | refine vb_t (by assumption) ?_ | refine vb_f (by assumption) ?_ | refine vor_l ?_ | fail) <;> conv => whnf)
    exact ⟨rfl, rfl, rfl⟩
  · have q : ilt i (Int.ofNat 0) = false := by rw [ilt_f]; (first | omega | (simp only [ilt_t, ilt_f, ile_t, ile_f, ieq_t, ieq_f, ofn, List.length_map, Bool.not_eq_true', Bool.not_eq_false'] at *; omega))
    have q2 : ile (0 : Int) i = true := by rw [ile_t]; omega
    repeat' ((first | refine vb_t rfl ?_ | refine vb_f rfl ?_ | refine vb_t (by assumption) ?_ | refine vb_f (by assumption) ?_ | refine vor_l ?_ | fail) <;> conv => whnf)
    exact ⟨rfl, rfl, rfl⟩
theorem lengthN (i n allow : Int) : Drp F0 1 78 [.ptr 0 0, I allow] [rdrO .nilsl i n] .no (.pan (fltA i 50)) [rdrO .nilsl i n] .no := by
  have hrd := read_ok [] .nilsl (.inl ⟨rfl, rfl⟩) no_tok i allow
  rw [rd6_nil] at hrd
  have z2 : (!ieq (50 : Int) (Int.ofNat 0)) = true := by rw [Bool.not_eq_true', ieq_f]; decide
  refine drp_code code78_ok ?_
  conv => whnf
  repeat' ((first | refine vb_t rfl ?_ | refine vb_f rfl ?_ | refine vb_t (by assumption) ?_ | refine vb_f (by assumption) ?_ | refine vpur_i hrd ?_ | refine vdrp_i (fail_ok _ _ _ _ _) ?_ | refine vor_l ?_ | fail) <;> conv => whnf)
  exact ⟨rfl, rfl, rfl⟩
theorem sizeN (i n : Int) : Drp F0 1 35 [.ptr 0 0] [rdrO .nilsl i n] .no (.pan (fltA i 50)) [rdrO .nilsl i n] .no := by
  refine drp_code code35_ok ?_
  conv => whnf
  repeat' ((first | refine vb_t rfl ?_ | refine vb_f rfl ?_ | refine vb_t (by assumption) ?_ | refine vb_f (by assumption) ?_ | refine vdrp_i (functionN i n _) ?_ | refine vdrp_i (lengthN i n _) ?_ | refine vor_l ?_ | fail) <;> conv => whnf)
  exact ⟨rfl, rfl, rfl⟩
theorem tsizeN_ok (i : Int) : Pur F0 11 [.d .nilsl, I i] [] .no (.ret (sz6A (trk00, i, 50))) .no := by
  have hC := caughtS_ft i 50 0 0 0 0 0 0 false 0 0
  refine pur_code code11_ok ?_
  conv => whnf
  repeat' ((first | refine vb_t rfl ?_ | refine vb_f rfl ?_ | refine vb_t (by assumption) ?_ | refine vb_f (by assumption) ?_ | refine vdrp_i (sizeN i 0) ?_ | refine vdrp_i hC ?_ | refine vor_l ?_ | fail) <;> conv => whnf)
  exact ⟨rfl, rfl⟩
theorem tnamesN_ok (i : Int) : Pur F0 13 [.d .nilsl, I i] [] .no (.ret (nm6A ([], i, 50))) .no := by
  have hs := vsign_ok [] .nilsl (.inl ⟨rfl, rfl⟩) i [91] false (sgS_nil i [91]).symm
  have hs2 : Drp F0 1 79 [.ptr 0 0, S [91]] [rdrO .nilsl i 0] .no (.pan (fltA i 50)) [rdrO .nilsl i 0] .no := by
    have hx : (!false) = true := rfl
    refine drp_code code79_ok ?_
    conv => whnf
    repeat' ((first | refine vb_t rfl ?_ | refine vb_f rfl ?_ | refine vb_t (by assumption) ?_ | refine vb_f (by assumption) ?_ | refine vpur_i hs ?_ | refine vdrp_i (fail_ok _ _ _ _ _) ?_ | refine vor_l ?_ | fail) <;> conv => whnf)
    exact ⟨rfl, rfl, rfl⟩
  have hc : CallsTo F0 41 [.ptr 0 0, .d .nilsl] [rdrO .nilsl i 0] .no ⟨.pan (fltA i 50), [rdrO .nilsl i 0], .no⟩ := by
    refine calls_code code41_ok ?_
    conv => whnf
    repeat' ((first | refine vb_t rfl ?_ | refine vb_f rfl ?_ | refine vb_t (by assumption) ?_ | refine vb_f (by assumption) ?_ | refine vdrp_i hs2 ?_ | refine vor_l ?_ | fail) <;> conv => whnf)
    exact rfl
  have hC := caughtN_ft i 50 0 0 .nilsl
  refine pur_code code13_ok ?_
  conv => whnf
  repeat' ((first | refine vb_t rfl ?_ | refine vb_f rfl ?_ | refine vb_t (by assumption) ?_ | refine vb_f (by assumption) ?_ | refine vcall_i hc ?_ | refine vdrp_i hC ?_ | refine vor_l ?_ | fail) <;> conv => whnf)
  exact ⟨rfl, rfl⟩
theorem tsizesN_ok (i : Int) : Pur F0 16 [.d .nilsl, I i] [] .no (.ret (ss6A ([], i, 50))) .no := by
  have hC := caughtT0_ft i 50 0 0
  refine pur_code code16_ok ?_
  conv => whnf
  repeat' ((first | refine vb_t rfl ?_ | refine vb_f rfl ?_ | refine vb_t (by assumption) ?_ | refine vb_f (by assumption) ?_ | refine vdrp_i (sizeN i 0) ?_ | refine vdrp_i hC ?_ | refine vor_l ?_ | fail) <;> conv => whnf)
  exact ⟨rfl, rfl⟩
theorem sz6_nil (i : Int) : sz6 [] i = (trk00, i, 50) := by
  unfold sz6
  rw [if_neg (by rw [fnS_nil]; decide), if_neg (by rw [fnS_nil]; decide)]
  unfold rd6
  rw [rd6_nil]
  rfl
theorem rsizeN_ok (i : Int) : Pur F0 12 [.d .nilsl, I i] [] .no (.ret (sz6A (trk00, i, 50))) .no := by
  have h := rsize6_ok [] .nilsl (.inl ⟨rfl, rfl⟩) i no_tok
  rw [sz6_nil] at h
  exact h
theorem rnamesN_ok (i : Int) : Pur F0 14 [.d .nilsl, I i] [] .no (.ret (nm6A ([], i, 50))) .no := by
  have hs := rsg_ok [] .nilsl (.inl ⟨rfl, rfl⟩) i [91]
  rw [sgS_nil] at hs
  have hx : (!false) = true := rfl
  refine pur_code code14_ok ?_
  conv => whnf
  repeat' ((first | refine vb_t rfl ?_ | refine vb_f rfl ?_ | refine vb_t (by assumption) ?_ | refine vb_f (by assumption) ?_ | refine vpur_i hs ?_ | refine vor_l ?_ | fail) <;> conv => whnf)
  exact ⟨rfl, rfl⟩
theorem rsizesN_ok (i : Int) : Pur F0 17 [.d .nilsl, I i] [] .no (.ret (ss6A ([], i, 50))) .no := by
  have z : (!ieq (50 : Int) (Int.ofNat 0)) = true := by rw [Bool.not_eq_true', ieq_f]; decide
  refine pur_code code17_ok ?_
  conv => whnf
  repeat' ((first | refine vb_t rfl ?_ | refine vb_f rfl ?_ | refine vb_t (by assumption) ?_ | refine vb_f (by assumption) ?_ | refine vpur_i (rsizeN_ok i) ?_ | refine vor_l ?_ | fail) <;> conv => whnf)
  exact ⟨rfl, rfl⟩
/-! Few words. -/
theorem few6_ok (l : List Tok) : ∃ b : Bool, Pur F0 9 [.d (.sl 4 (l.map tokRow))] [] .no (.ret (B b)) .no ∧ (b = true → l.length ≤ 700 ∧ ∀ t ∈ l, tokOk t) := by
  refine pur_ret (g := B) code9_ok ?_
  conv => whnf
  by_cases h700 : 700 < l.length
  · have q : ilt (Int.ofNat 700) ((l.map tokRow).length : Int) = true := by rw [ilt_t, List.length_map]; show (700 : Int) < _; omega
    repeat' ((first | refine vb_t rfl ?_ | refine vb_f rfl ?_ | refine vb_t (by assumption) ?_ | refine vb_f (by assumption) ?_ | refine vor_l ?_ | fail) <;> conv => whnf)
    exact ⟨false, rfl, rfl, fun h => by cases h⟩
  have q : ilt (Int.ofNat 700) ((l.map tokRow).length : Int) = false := by rw [ilt_f, List.length_map]; show _ ≤ (700 : Int); omega
  repeat' ((first | refine vb_t rfl ?_ | refine vb_f rfl ?_ | refine vb_t (by assumption) ?_ | refine vb_f (by assumption) ?_ | refine vor_l ?_ | fail) <;> conv => whnf)
  refine vloop_cnt (α := Unit) l.length (fun k _ => ∀ (i : Nat) (p : Tok), i < k → l[i]? = some p → tokOk p) (fun k _ => [(10, I (k : Int))]) () (fun i p h => by omega) rfl ?_
  intro k _ hk hI
  conv => whnf
  by_cases hlt : k < l.length
  · obtain ⟨p, hp⟩ := get_in hlt
    have hg := iget_map (f := tokRow) hp
    have hl := lt_len (f := tokRow) hlt
    by_cases h1 : 400 < p.num.length
    · have q1 : ilt (Int.ofNat 400) (p.num.length : Int) = true := by rw [ilt_t]; show (400 : Int) < _; omega
      repeat' ((first | refine vb_t rfl ?_ | refine vb_f rfl ?_ | refine vb_t (by assumption) ?_ | refine vb_f (by assumption) ?_ | refine vo_i hg ?_ | refine vor_l ?_ | fail) <;> conv => whnf)
      exact ⟨false, rfl, rfl, fun h => by cases h⟩
    · have q1 : ilt (Int.ofNat 400) (p.num.length : Int) = false := by rw [ilt_f]; show _ ≤ (400 : Int); omega
      by_cases h2 : 400 < p.text.length
      · have q2 : ilt (Int.ofNat 400) (p.text.length : Int) = true := by rw [ilt_t]; show (400 : Int) < _; omega
        repeat' ((first | refine vb_t rfl ?_ | refine vb_f rfl ?_ | refine vb_t (by assumption) ?_ | refine vb_f (by assumption) ?_ | refine vo_i hg ?_ | refine vor_l ?_ | fail) <;> conv => whnf)
        exact ⟨false, rfl, rfl, fun h => by cases h⟩
      · have q2 : ilt (Int.ofNat 400) (p.text.length : Int) = false := by rw [ilt_f]; show _ ≤ (400 : Int); omega
        have hn := upto_succ (P := fun _ p => tokOk p) hI hp ⟨by omega, by omega⟩
        repeat' ((first | refine vb_t rfl ?_ | refine vb_f rfl ?_ | refine vb_t (by assumption) ?_ | refine vb_f (by assumption) ?_ | refine vo_i hg ?_ | refine vor_l ?_ | fail) <;> conv => whnf)
        exact ⟨⟨(k + 1, ()), (by omega), hn⟩, (by simp only; omega), (by repeat' (first | exact rfl | exact slot_eq (I_eq (iadd_one (by omega))) | (refine cons_eq ?_ ?_) | assumption)), rfl, rfl, rfl⟩
  · have hl := nlt_len (f := tokRow) hlt
    have hA : ∀ p ∈ l, tokOk p := fun p hp => by
      obtain ⟨i, hi⟩ := List.getElem?_of_mem hp
      exact hI i p (by have := (List.getElem?_eq_some_iff.1 hi).1; omega) hi
    repeat' ((first | refine vb_t rfl ?_ | refine vb_f rfl ?_ | refine vb_t (by assumption) ?_ | refine vb_f (by assumption) ?_ | refine vb_f (by (first | omega | (simp only [ilt_t, ilt_f, ile_t, ile_f, ieq_t, ieq_f, ofn, List.length_map, Bool.not_eq_true', Bool.not_eq_false'] at *; omega))) ?_ | refine vor_l ?_ | fail) <;> conv => whnf)
    exact ⟨true, rfl, rfl, fun _ => ⟨by omega, hA⟩⟩
theorem few6_nil : Pur F0 9 [.d .nilsl] [] .no (.ret (B true)) .no := pur_closed (n := 100) (by kernel_rfl)
end Go.Proofs.YtjeblkicgmmhiaaGreatDoor.Ab
namespace Go.Proofs.YtjeblkicgmmhiaaGreatDoor.Ab
open Go
set_option maxRecDepth 100000
theorem lives06_ok : Pur F0 10 [] [] .no (.ret (B true)) .no := pur_closed (n := 100) (by kernel_rfl)
end Go.Proofs.YtjeblkicgmmhiaaGreatDoor.Ab
namespace Go.Proofs.YtjeblkicgmmhiaaGreatDoor.Ab
open Go
set_option linter.unusedSimpArgs false
set_option maxRecDepth 100000
set_option linter.unusedVariables false
set_option maxHeartbeats 4000000
theorem ieq_self (a : Int) : ieq a a = true := by rw [ieq_t]
theorem ne_self (a : Int) : (!ieq a a) = false := by rw [ieq_self]; rfl
theorem nmGo_len (l : List Tok) : ∀ (f : Nat) (acc : List (List UInt8)) (p : Int), (nmGo l f acc p).1.length ≤ acc.length + f
  | 0, acc, p => by
    unfold nmGo
    split
    · simp
    · split <;> simp
  | f + 1, acc, p => by
    unfold nmGo
    split
    · simp only; omega
    · split
      · have := nmGo_len l f (acc ++ [(wordS l p).text]) (iadd .i64 p 1)
        simp only [List.length_append, List.length_cons, List.length_nil] at this
        simp only; omega
      · simp
theorem nm6_len (l : List Tok) (i : Int) : (nm6 l i).1.length ≤ 1000000 := by
  unfold nm6
  split
  · have := nmGo_len l 16 [] (iadd .i64 i 1)
    simp only [List.length_nil] at this; omega
  · simp
theorem ssGo_len (l : List Tok) : ∀ (f : Nat) (acc : List Trk) (p : Int), (ssGo l f acc p).1.length ≤ acc.length + f
  | f, acc, p => by
    by_cases hB : beS l p = true
    · cases f with
      | zero => rw [ssGo_lim hB]; exact Nat.zero_le _
      | succ f =>
        rcases hz : sz6 l p with ⟨t, nx, e⟩
        by_cases he : e = 0
        · rw [he] at hz
          rw [ssGo_next hB hz]
          have := ssGo_len l f (acc ++ [t]) nx
          simp only [List.length_append, List.length_cons, List.length_nil] at this
          omega
        · rw [ssGo_err hB hz he]; exact Nat.zero_le _
    · rw [ssGo_end (bf hB)]
      show acc.length ≤ _
      omega
theorem ss6_len (l : List Tok) (i : Int) : (ss6 l i).1.length ≤ 1000000 := by
  unfold ss6
  split
  · have := ssGo_len l 255 [(sz6 l i).1] (sz6 l i).2.1
    simp only [List.length_cons, List.length_nil] at this; omega
  · simp
theorem trackSizes_body (v : DV) (i : Int) (hf : Pur F0 9 [.d v] [] .no (.ret (B true)) .no) (r : Trk × Int × Int) (m : List (List UInt8) × Int × Int) (s : List Trk × Int × Int) (hm : m.1.length ≤ 1000000) (hsl : s.1.length ≤ 1000000)
    (h1 : Pur F0 11 [.d v, I i] [] .no (.ret (sz6A r)) .no) (h2 : Pur F0 12 [.d v, I i] [] .no (.ret (sz6A r)) .no)
    (h3 : Pur F0 13 [.d v, I i] [] .no (.ret (nm6A m)) .no) (h4 : Pur F0 14 [.d v, I i] [] .no (.ret (nm6A m)) .no)
    (h5 : Pur F0 16 [.d v, I i] [] .no (.ret (ss6A s)) .no) (h6 : Pur F0 17 [.d v, I i] [] .no (.ret (ss6A s)) .no) :
    Pur F0 3 [.d v, I i] [] .no (.ret (B true)) .no := by
  obtain ⟨⟨a1, a2, a3, a4, a5, a6, a7⟩, ra, re⟩ := r
  obtain ⟨ns, ma, me⟩ := m
  obtain ⟨ts, sa, se⟩ := s
  have ht := texts_same ns hm
  have hx : (!true) = false := rfl
  have e1 := ieq_self
  have e2 := ne_self
  rcases ts with _ | ⟨T, ts⟩
  · refine pur_code code3_ok ?_
    conv => whnf
    repeat' ((first | refine vb_t rfl ?_ | refine vb_f rfl ?_ | refine vb_t (by assumption) ?_ | refine vb_f (by assumption) ?_ | refine vpur_i hf ?_ | refine vpur_i h1 ?_ | refine vpur_i h2 ?_ | refine vpur_i h3 ?_ | refine vpur_i h4 ?_ | refine vpur_i h5 ?_ | refine vpur_i h6 ?_ | refine vpur_i ht ?_ | refine vb_f (ne_self _) ?_ | refine vb_f (by simp only [ieq_self]; cases a5 <;> rfl) ?_ | refine vor_l ?_ | fail) <;> conv => whnf)
    refine vloop_cnt (α := Unit) 0 (fun k _ => True) (fun k _ => [(114, I (k : Int))]) () trivial rfl ?_
    intro k _ hk _
    obtain rfl : k = 0 := by omega
    conv => whnf
    repeat' ((first | refine vb_t rfl ?_ | refine vb_f rfl ?_ | refine vb_t (by assumption) ?_ | refine vb_f (by assumption) ?_ | refine vb_f (by (first | omega | (simp only [ilt_t, ilt_f, ile_t, ile_f, ieq_t, ieq_f, ofn, List.length_map, Bool.not_eq_true', Bool.not_eq_false'] at *; omega))) ?_ | refine vpur_i lives06_ok ?_ | refine vor_l ?_ | fail) <;> conv => whnf)
    exact ⟨rfl, rfl⟩
  · refine pur_code code3_ok ?_
    conv => whnf
    repeat' ((first | refine vb_t rfl ?_ | refine vb_f rfl ?_ | refine vb_t (by assumption) ?_ | refine vb_f (by assumption) ?_ | refine vpur_i hf ?_ | refine vpur_i h1 ?_ | refine vpur_i h2 ?_ | refine vpur_i h3 ?_ | refine vpur_i h4 ?_ | refine vpur_i h5 ?_ | refine vpur_i h6 ?_ | refine vpur_i ht ?_ | refine vb_f (ne_self _) ?_ | refine vb_f (by simp only [ieq_self]; cases a5 <;> rfl) ?_ | refine vor_l ?_ | fail) <;> conv => whnf)
    refine vloop_cnt (α := Unit) (T :: ts).length (fun k _ => True) (fun k _ => [(114, I (k : Int))]) () trivial rfl ?_
    intro k _ hk _
    conv => whnf
    simp only at hsl
    by_cases hlt : k < (T :: ts).length
    · obtain ⟨⟨b1, b2, b3, b4, b5, b6, b7⟩, hx⟩ := get_in hlt
      have hg := iget_map (f := trkRow) hx
      have hl := lt_len (f := trkRow) hlt
      repeat' ((first | refine vb_t rfl ?_ | refine vb_f rfl ?_ | refine vb_t (by assumption) ?_ | refine vb_f (by assumption) ?_ | refine vo_i hg ?_ | refine vb_f (by simp only [ieq_self]; cases b5 <;> rfl) ?_ | refine vor_l ?_ | fail) <;> conv => whnf)
      exact ⟨⟨(k + 1, ()), (by omega), trivial⟩, (by simp only; omega), (by repeat' (first | exact rfl | exact slot_eq (I_eq (iadd_one (by omega))) | (refine cons_eq ?_ ?_) | assumption)), rfl, rfl, rfl⟩
    · have hl := nlt_len (f := trkRow) hlt
      repeat' ((first | refine vb_t rfl ?_ | refine vb_f rfl ?_ | refine vb_t (by assumption) ?_ | refine vb_f (by assumption) ?_ | refine vb_f (by (first | omega | (simp only [ilt_t, ilt_f, ile_t, ile_f, ieq_t, ieq_f, ofn, List.length_map, Bool.not_eq_true', Bool.not_eq_false'] at *; omega))) ?_ | refine vpur_i lives06_ok ?_ | refine vor_l ?_ | fail) <;> conv => whnf)
      exact ⟨rfl, rfl⟩
theorem trackSizes_ok (l : List Tok) (v : DV) (hv : toksA l v) (i : Int) : Pur F0 3 [.d v, I i] [] .no (.ret (B true)) .no := by
  rcases hv with ⟨rfl, rfl⟩ | rfl
  · exact trackSizes_body .nilsl i few6_nil (trk00, i, 50) ([], i, 50) ([], i, 50) (by simp) (by simp) (tsizeN_ok i) (rsizeN_ok i) (tnamesN_ok i) (rnamesN_ok i) (tsizesN_ok i) (rsizesN_ok i)
  · obtain ⟨b, hf, hb⟩ := few6_ok l
    cases b with
    | false =>
      have hx : (!false) = true := rfl
      refine pur_code code3_ok ?_
      conv => whnf
      repeat' ((first | refine vb_t rfl ?_ | refine vb_f rfl ?_ | refine vb_t (by assumption) ?_ | refine vb_f (by assumption) ?_ | refine vpur_i hf ?_ | refine vpur_i lives06_ok ?_ | refine vor_l ?_ | fail) <;> conv => whnf)
      exact ⟨rfl, rfl⟩
    | true =>
      obtain ⟨hlen, hl⟩ := hb rfl
      exact trackSizes_body (tkV l) i hf (sz6 l i) (nm6 l i) (ss6 l i) (nm6_len l i) (ss6_len l i) (tsize_ok l i hl) (rsize6_ok l (tkV l) (.inr rfl) i hl) (tnames_ok l i hl (by omega)) (rnames_ok l i hl (by omega)) (tsizes_ok l i hl) (rsizes_ok l i hl)
end Go.Proofs.YtjeblkicgmmhiaaGreatDoor.Ab

