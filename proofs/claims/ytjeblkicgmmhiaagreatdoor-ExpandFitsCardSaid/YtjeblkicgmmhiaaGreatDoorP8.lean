/- Some texts as one, one behind the other; what is not leaned on is left out. -/
import Derived.Test.YtjeblkicgmmhiaaGreatDoorP7
namespace Go.Proofs.YtjeblkicgmmhiaaGreatDoor.Ab
open Go
set_option linter.unusedSimpArgs false
set_option maxRecDepth 100000
set_option linter.unusedVariables false
set_option maxHeartbeats 8000000
theorem nlt_b {a b : Int} (h : b ≤ a) : ilt a b = false := by rw [ilt_f]; exact h
theorem lt_b {a b : Int} (h : a < b) : ilt a b = true := by rw [ilt_t]; exact h
def moO (g : Nat) (rows : List (List DV)) : Obj := ⟨.mine, 69, .arr true g 11 rows⟩
def moV (k : Nat) : Option Nat → AV
  | none => .d .nilsl
  | some g => .osl 0 g 0 k
def moH (rows : List (List DV)) : Option Nat → Heap
  | none => []
  | some g => [moO g rows]
theorem fits_err (v : DV) (size gap n e f : Int) (x : AV) (hx4 : ∃ a b c d : DV, x = .agg [.d a, .d b, .d c, .d d]) (hL : Pur F0 21 [.d v] [] .no (.ret (B true)) .no) (hAu : Pur F0 29 [.d v] [] .no (.ret (B true)) .no)
    (hC : Pur F0 22 [.d v, I size, B true, I gap] [] .no (.ret (.tup [I n, I e])) .no)
    (hA : Pur F0 24 [.d v, I size, B true, I gap] [] .no (.ret (.tup [x, I f])) .no) (he : e ≠ 0 ∨ e = 0 ∧ f ≠ 0) (hn : 0 ≤ n) :
    Pur F0 7 [.d v, I size, I gap] [] .no (.ret (B true)) .no := by
  obtain ⟨a, b, c, d, rfl⟩ := hx4
  have hx : (!true) = false := rfl
  have q : ile (Int.ofNat 0) n = true := by rw [ile_t]; exact hn
  rcases he with he | ⟨rfl, he⟩
  · have z : (!ieq e (Int.ofNat 0)) = true := by rw [Bool.not_eq_true', ieq_f]; exact he
    refine pur_code code7_ok ?_
    conv => whnf
    repeat' ((first | refine vb_t rfl ?_ | refine vb_f rfl ?_ | refine vb_t ‹_› ?_ | refine vb_f ‹_› ?_ | refine vpur_i hL ?_ | refine vpur_i hAu ?_ | refine vpur_i hC ?_ | refine vpur_i hA ?_ | refine vpur_i lives15_ok ?_ | refine vor_l ?_ | fail) <;> conv => whnf)
    exact ⟨rfl, rfl⟩
  · have z0 : (!ieq (0 : Int) (Int.ofNat 0)) = false := by rw [Bool.not_eq_false', ieq_t]; rfl
    have z : (!ieq f (Int.ofNat 0)) = true := by rw [Bool.not_eq_true', ieq_f]; exact he
    refine pur_code code7_ok ?_
    conv => whnf
    repeat' ((first | refine vb_t rfl ?_ | refine vb_f rfl ?_ | refine vb_t ‹_› ?_ | refine vb_f ‹_› ?_ | refine vpur_i hL ?_ | refine vpur_i hAu ?_ | refine vpur_i hC ?_ | refine vpur_i hA ?_ | refine vpur_i lives15_ok ?_ | refine vor_l ?_ | fail) <;> conv => whnf)
    exact ⟨rfl, rfl⟩
theorem fits_na (v : DV) (size gap : Int) (b : Bool) (hL : Pur F0 21 [.d v] [] .no (.ret (B b)) .no) (hAu : Pur F0 29 [.d v] [] .no (.ret (B false)) .no) :
    Pur F0 7 [.d v, I size, I gap] [] .no (.ret (B true)) .no := by
  have hx : (!true) = false := rfl
  have hy : (!false) = true := rfl
  cases b
  · refine pur_code code7_ok ?_
    conv => whnf
    repeat' ((first | refine vb_t rfl ?_ | refine vb_f rfl ?_ | refine vb_t ‹_› ?_ | refine vb_f ‹_› ?_ | refine vpur_i hL ?_ | refine vpur_i hAu ?_ | refine vpur_i lives15_ok ?_ | refine vor_l ?_ | fail) <;> conv => whnf)
    exact ⟨rfl, rfl⟩
  · refine pur_code code7_ok ?_
    conv => whnf
    repeat' ((first | refine vb_t rfl ?_ | refine vb_f rfl ?_ | refine vb_t ‹_› ?_ | refine vb_f ‹_› ?_ | refine vpur_i hL ?_ | refine vpur_i hAu ?_ | refine vpur_i lives15_ok ?_ | refine vor_l ?_ | fail) <;> conv => whnf)
    exact ⟨rfl, rfl⟩
theorem fits_main (l : List Pc) (hall : ∀ p ∈ l, PcOk p) (h0 : l ≠ []) (hlen : l.length ≤ 1000) (size gap n : Int) (hn1 : 1 ≤ n) (hn2 : n ≤ 10000)
    (hL : Pur F0 21 [.d (.sl 11 (l.map pcRow))] [] .no (.ret (B true)) .no) (hAu : Pur F0 29 [.d (.sl 11 (l.map pcRow))] [] .no (.ret (B true)) .no)
    (hC : Pur F0 22 [.d (.sl 11 (l.map pcRow)), I size, B true, I gap] [] .no (.ret (.tup [I n, I 0])) .no)
    (lv : DV) (t1 : Trk) (ts : List Trk) (fr to : Int)
    (hA : Pur F0 24 [.d (.sl 11 (l.map pcRow)), I size, B true, I gap] [] .no (.ret (.tup [.agg [.d lv, .d (.sl 7 ((t1 :: ts).map trkRow)), I fr, I to], I 0])) .no)
    (hfx : ∀ t ∈ t1 :: ts, (brS t size).2 = 0) (htl : (t1 :: ts).length ≤ 10000) (hsum : 1 < n → (tlS size gap (t1 :: ts) false 0).1 ≤ size) (g0 : 0 ≤ gap) (g1 : gap ≤ 68719476736)
    (v : AV) (hA2 : Pur F0 24 [.d (.sl 11 ((l.map (moreP (n + 1))).map pcRow)), I size, B true, I gap] [] .no (.ret v) .no) (hV : AxV v size gap n) :
    Pur F0 7 [.d (.sl 11 (l.map pcRow)), I size, I gap] [] .no (.ret (B true)) .no := by
  have hx : (!true) = false := rfl
  have z0 : (!ieq (0 : Int) (Int.ofNat 0)) = false := by rw [Bool.not_eq_false', ieq_t]; rfl
  have hT := total_ok lv t1 ts fr to size gap hfx (by omega) g0 g1
  have en : iadd .i64 n (Int.ofNat 1) = n + 1 := by rw [iadd64 (by rw [o1']; omega) (by rw [o1']; omega), o1']
  have w1 : ilt n (Int.ofNat 1) = false := nlt_b hn1
  generalize (tlS size gap (t1 :: ts) false 0).1 = S at *
  by_cases h1 : n = 1
  · have w2 : ilt (Int.ofNat 1) n = false := nlt_b (by rw [o1']; omega)
    refine pur_code code7_ok ?_
    conv => whnf
    repeat' ((first | refine vb_t rfl ?_ | refine vb_f rfl ?_ | refine vb_t ‹_› ?_ | refine vb_f ‹_› ?_ | refine vpur_i hL ?_ | refine vpur_i hAu ?_ | refine vpur_i hC ?_ | refine vpur_i hA ?_ | refine vpur_i hT ?_ | refine vor_l ?_ | fail) <;> conv => whnf)
    refine vloop_cnh (α := Option Nat) l.length (fun k x => x.isSome = true ↔ 0 < k) (fun k x => [(13, moV k x), (76, I (k : Int))]) (fun k x => moH ((l.take k).map fun p => pcRow (moreP (n + 1) p)) x) none (by simp) rfl rfl ?_
    intro k x hk hI
    rcases Nat.lt_or_ge k l.length with hlt | hge
    · obtain ⟨p, hp⟩ := get_in hlt
      have hg := iget_map (f := pcRow) hp
      have hl := lt_len (f := pcRow) hlt
      have hsn : (l.take (k + 1)).map (fun p => pcRow (moreP (n + 1) p)) = (l.take k).map (fun p => pcRow (moreP (n + 1) p)) ++ [pcRow (moreP (n + 1) p)] := by rw [take_snoc hp, List.map_append]; rfl
      have hlk : ((l.take k).map fun p => pcRow (moreP (n + 1) p)).length = k := by rw [List.length_map, List.length_take]; omega
      clear hp
      cases p with
      | mk kd vn names t cn vi inner =>
      obtain ⟨a1, a2, a3, a4, a5, a6, a7⟩ := t
      rw [more_eq] at hsn
      rcases x with _ | g
      · obtain rfl : k = 0 := by
          have : ¬ 0 < k := fun h => by have := hI.2 h; cases this
          omega
        by_cases h4 : kd = 4
        · have q4 : ieq kd (Int.ofNat 4) = true := by rw [ieq_t]; exact h4
          rw [if_pos (.inl h4)] at hsn
          conv => whnf
          repeat' ((first | refine vb_t rfl ?_ | refine vb_f rfl ?_ | refine vb_t ‹_› ?_ | refine vb_f ‹_› ?_ | refine vo_i hg ?_ | refine vb_t (room_t (by simp <;> omega)) ?_ | refine vor_l ?_ | fail) <;> conv => whnf)
          exact ⟨⟨(1, some 0), (by omega), (by simp)⟩, (by simp only; omega), (by repeat' (first | exact rfl | exact slot_eq (I_eq (iadd_one (by omega))) | refine cons_eq ?_ ?_)), cons_eq (arr_eq2 rfl (by first | (rw [hsn, ← en]; rfl) | (rw [hsn]; rfl))) rfl, rfl, rfl⟩
        · have q4 : ieq kd (Int.ofNat 4) = false := by rw [ieq_f]; exact h4
          by_cases h5 : kd = 5
          · have q5 : ieq kd (Int.ofNat 5) = true := by rw [ieq_t]; exact h5
            rw [if_pos (.inr h5)] at hsn
            conv => whnf
            repeat' ((first | refine vb_t rfl ?_ | refine vb_f rfl ?_ | refine vb_t ‹_› ?_ | refine vb_f ‹_› ?_ | refine vo_i hg ?_ | refine vb_t (room_t (by simp <;> omega)) ?_ | refine vor_l ?_ | fail) <;> conv => whnf)
            exact ⟨⟨(1, some 0), (by omega), (by simp)⟩, (by simp only; omega), (by repeat' (first | exact rfl | exact slot_eq (I_eq (iadd_one (by omega))) | refine cons_eq ?_ ?_)), cons_eq (arr_eq2 rfl (by first | (rw [hsn, ← en]; rfl) | (rw [hsn]; rfl))) rfl, rfl, rfl⟩
          · have q5 : ieq kd (Int.ofNat 5) = false := by rw [ieq_f]; exact h5
            rw [if_neg (by rintro (h | h); exact h4 h; exact h5 h)] at hsn
            conv => whnf
            repeat' ((first | refine vb_t rfl ?_ | refine vb_f rfl ?_ | refine vb_t ‹_› ?_ | refine vb_f ‹_› ?_ | refine vo_i hg ?_ | refine vb_t (room_t (by simp <;> omega)) ?_ | refine vor_l ?_ | fail) <;> conv => whnf)
            exact ⟨⟨(1, some 0), (by omega), (by simp)⟩, (by simp only; omega), (by repeat' (first | exact rfl | exact slot_eq (I_eq (iadd_one (by omega))) | refine cons_eq ?_ ?_)), cons_eq (arr_eq2 rfl (by first | (rw [hsn, ← en]; rfl) | (rw [hsn]; rfl))) rfl, rfl, rfl⟩
      · have hgg : Nat.beq g g = true := by simp
        by_cases h4 : kd = 4
        · have q4 : ieq kd (Int.ofNat 4) = true := by rw [ieq_t]; exact h4
          rw [if_pos (.inl h4)] at hsn
          have hq : ieq (k : Int) (((l.take k).map fun p => pcRow (moreP (n + 1) p)).length : Int) = true := by rw [hlk, ieq_t]
          conv => whnf
          repeat' ((first | refine vb_t rfl ?_ | refine vb_f rfl ?_ | refine vb_t ‹_› ?_ | refine vb_f ‹_› ?_ | refine vo_i hg ?_ | refine vb_t (room_t (by rw [hlk]; simp <;> omega)) ?_ | refine vor_l ?_ | fail) <;> conv => whnf)
          exact ⟨⟨(k + 1, some (g + 1)), (by omega), (by simp)⟩, (by simp only; omega), (by repeat' (first | exact rfl | exact slot_eq (osl_eq rfl (by rw [hlk]; rfl)) | exact slot_eq (I_eq (iadd_one (by omega))) | refine cons_eq ?_ ?_)), cons_eq (arr_eq2 rfl (by first | (rw [hsn, ← en]; rfl) | (rw [hsn]; rfl))) rfl, rfl, rfl⟩
        · have q4 : ieq kd (Int.ofNat 4) = false := by rw [ieq_f]; exact h4
          by_cases h5 : kd = 5
          · have q5 : ieq kd (Int.ofNat 5) = true := by rw [ieq_t]; exact h5
            rw [if_pos (.inr h5)] at hsn
            have hq : ieq (k : Int) (((l.take k).map fun p => pcRow (moreP (n + 1) p)).length : Int) = true := by rw [hlk, ieq_t]
            conv => whnf
            repeat' ((first | refine vb_t rfl ?_ | refine vb_f rfl ?_ | refine vb_t ‹_› ?_ | refine vb_f ‹_› ?_ | refine vo_i hg ?_ | refine vb_t (room_t (by rw [hlk]; simp <;> omega)) ?_ | refine vor_l ?_ | fail) <;> conv => whnf)
            exact ⟨⟨(k + 1, some (g + 1)), (by omega), (by simp)⟩, (by simp only; omega), (by repeat' (first | exact rfl | exact slot_eq (osl_eq rfl (by rw [hlk]; rfl)) | exact slot_eq (I_eq (iadd_one (by omega))) | refine cons_eq ?_ ?_)), cons_eq (arr_eq2 rfl (by first | (rw [hsn, ← en]; rfl) | (rw [hsn]; rfl))) rfl, rfl, rfl⟩
          · have q5 : ieq kd (Int.ofNat 5) = false := by rw [ieq_f]; exact h5
            rw [if_neg (by rintro (h | h); exact h4 h; exact h5 h)] at hsn
            have hq : ieq (k : Int) (((l.take k).map fun p => pcRow (moreP (n + 1) p)).length : Int) = true := by rw [hlk, ieq_t]
            conv => whnf
            repeat' ((first | refine vb_t rfl ?_ | refine vb_f rfl ?_ | refine vb_t ‹_› ?_ | refine vb_f ‹_› ?_ | refine vo_i hg ?_ | refine vb_t (room_t (by rw [hlk]; simp <;> omega)) ?_ | refine vor_l ?_ | fail) <;> conv => whnf)
            exact ⟨⟨(k + 1, some (g + 1)), (by omega), (by simp)⟩, (by simp only; omega), (by repeat' (first | exact rfl | exact slot_eq (osl_eq rfl (by rw [hlk]; rfl)) | exact slot_eq (I_eq (iadd_one (by omega))) | refine cons_eq ?_ ?_)), cons_eq (arr_eq2 rfl (by first | (rw [hsn, ← en]; rfl) | (rw [hsn]; rfl))) rfl, rfl, rfl⟩
    · obtain rfl : k = l.length := by omega
      have hl := nlt_len (f := pcRow) (Nat.not_lt.2 (Nat.le_refl l.length))
      have hpos := List.length_pos_iff.2 h0
      rcases x with _ | g
      · have := hI.2 hpos
        cases this
      have hgg : Nat.beq g g = true := by simp
      show vC F0 _ _ (look (updL _ [(13, .osl 0 g 0 l.length), (76, I (l.length : Int))])) [moO g ((l.take l.length).map fun p => pcRow (moreP (n + 1) p))] _ _ _
      have hrw : (l.map (moreP (n + 1))).map pcRow = (l.take l.length).map fun p => pcRow (moreP (n + 1) p) := by rw [List.take_length, List.map_map]; rfl
      have hrl : ((l.take l.length).map fun p => pcRow (moreP (n + 1) p)).length = l.length := by rw [List.take_length, List.length_map]
      rw [hrw] at hA2
      generalize ((l.take l.length).map fun p => pcRow (moreP (n + 1) p)) = rows at *
      have hcut : List.drop 0 (List.take l.length rows) = rows := by rw [List.drop_zero, List.take_of_length_le (by omega)]
      rw [← hcut] at hA2
      rcases rows with _ | ⟨r0, rs⟩
      · simp at hrl; omega
      clear hrw hrl hcut
      rcases hV with ⟨x, e, rfl, he, h52, rfl⟩ | ⟨lv2, u1, us, fr2, to2, rfl, hu1, hu2, hs3⟩
      · have z : (!ieq e (Int.ofNat 0)) = true := by rw [Bool.not_eq_true', ieq_f]; exact he
        by_cases h5 : e = 52
        · have z5 : ieq e (Int.ofNat 52) = true := by rw [ieq_t]; exact h5
          conv => whnf
          repeat' ((first | refine vb_t rfl ?_ | refine vb_f rfl ?_ | refine vb_t ‹_› ?_ | refine vb_f ‹_› ?_ | refine vpur_i hA2 ?_ | refine vpur_i lives15_ok ?_ | refine vor_l ?_ | fail) <;> conv => whnf)
          exact ⟨rfl, rfl⟩
        · have z5 : ieq e (Int.ofNat 52) = false := by rw [ieq_f]; exact h5
          have z6 : ilt (Int.ofNat 10000) (iadd .i64 n (Int.ofNat 1)) = true := by rw [en]; exact lt_b (h52.resolve_left h5)
          conv => whnf
          repeat' ((first | refine vb_t rfl ?_ | refine vb_f rfl ?_ | refine vb_t ‹_› ?_ | refine vb_f ‹_› ?_ | refine vpur_i hA2 ?_ | refine vpur_i lives15_ok ?_ | refine vor_l ?_ | fail) <;> conv => whnf)
          exact ⟨rfl, rfl⟩
      · have hT2 := total_ok (.sl 1 lv2) u1 us fr2 to2 size gap hu1 (by omega) g0 g1
        generalize (tlS size gap (u1 :: us) false 0).1 = T at *
        have z3 : ilt size T = true := lt_b hs3
        conv => whnf
        repeat' ((first | refine vb_t rfl ?_ | refine vb_f rfl ?_ | refine vb_t ‹_› ?_ | refine vb_f ‹_› ?_ | refine vpur_i hA2 ?_ | refine vpur_i hT2 ?_ | refine vpur_i lives15_ok ?_ | refine vor_l ?_ | fail) <;> conv => whnf)
        exact ⟨rfl, rfl⟩
  · have w2 : ilt (Int.ofNat 1) n = true := lt_b (by rw [o1']; omega)
    have w3 : ilt size S = false := nlt_b (hsum (by omega))
    refine pur_code code7_ok ?_
    conv => whnf
    repeat' ((first | refine vb_t rfl ?_ | refine vb_f rfl ?_ | refine vb_t ‹_› ?_ | refine vb_f ‹_› ?_ | refine vpur_i hL ?_ | refine vpur_i hAu ?_ | refine vpur_i hC ?_ | refine vpur_i hA ?_ | refine vpur_i hT ?_ | refine vor_l ?_ | fail) <;> conv => whnf)
    refine vloop_cnh (α := Option Nat) l.length (fun k x => x.isSome = true ↔ 0 < k) (fun k x => [(13, moV k x), (76, I (k : Int))]) (fun k x => moH ((l.take k).map fun p => pcRow (moreP (n + 1) p)) x) none (by simp) rfl rfl ?_
    intro k x hk hI
    rcases Nat.lt_or_ge k l.length with hlt | hge
    · obtain ⟨p, hp⟩ := get_in hlt
      have hg := iget_map (f := pcRow) hp
      have hl := lt_len (f := pcRow) hlt
      have hsn : (l.take (k + 1)).map (fun p => pcRow (moreP (n + 1) p)) = (l.take k).map (fun p => pcRow (moreP (n + 1) p)) ++ [pcRow (moreP (n + 1) p)] := by rw [take_snoc hp, List.map_append]; rfl
      have hlk : ((l.take k).map fun p => pcRow (moreP (n + 1) p)).length = k := by rw [List.length_map, List.length_take]; omega
      clear hp
      cases p with
      | mk kd vn names t cn vi inner =>
      obtain ⟨a1, a2, a3, a4, a5, a6, a7⟩ := t
      rw [more_eq] at hsn
      rcases x with _ | g
      · obtain rfl : k = 0 := by
          have : ¬ 0 < k := fun h => by have := hI.2 h; cases this
          omega
        by_cases h4 : kd = 4
        · have q4 : ieq kd (Int.ofNat 4) = true := by rw [ieq_t]; exact h4
          rw [if_pos (.inl h4)] at hsn
          conv => whnf
          repeat' ((first | refine vb_t rfl ?_ | refine vb_f rfl ?_ | refine vb_t ‹_› ?_ | refine vb_f ‹_› ?_ | refine vo_i hg ?_ | refine vb_t (room_t (by simp <;> omega)) ?_ | refine vor_l ?_ | fail) <;> conv => whnf)
          exact ⟨⟨(1, some 0), (by omega), (by simp)⟩, (by simp only; omega), (by repeat' (first | exact rfl | exact slot_eq (I_eq (iadd_one (by omega))) | refine cons_eq ?_ ?_)), cons_eq (arr_eq2 rfl (by first | (rw [hsn, ← en]; rfl) | (rw [hsn]; rfl))) rfl, rfl, rfl⟩
        · have q4 : ieq kd (Int.ofNat 4) = false := by rw [ieq_f]; exact h4
          by_cases h5 : kd = 5
          · have q5 : ieq kd (Int.ofNat 5) = true := by rw [ieq_t]; exact h5
            rw [if_pos (.inr h5)] at hsn
            conv => whnf
            repeat' ((first | refine vb_t rfl ?_ | refine vb_f rfl ?_ | refine vb_t ‹_› ?_ | refine vb_f ‹_› ?_ | refine vo_i hg ?_ | refine vb_t (room_t (by simp <;> omega)) ?_ | refine vor_l ?_ | fail) <;> conv => whnf)
            exact ⟨⟨(1, some 0), (by omega), (by simp)⟩, (by simp only; omega), (by repeat' (first | exact rfl | exact slot_eq (I_eq (iadd_one (by omega))) | refine cons_eq ?_ ?_)), cons_eq (arr_eq2 rfl (by first | (rw [hsn, ← en]; rfl) | (rw [hsn]; rfl))) rfl, rfl, rfl⟩
          · have q5 : ieq kd (Int.ofNat 5) = false := by rw [ieq_f]; exact h5
            rw [if_neg (by rintro (h | h); exact h4 h; exact h5 h)] at hsn
            conv => whnf
            repeat' ((first | refine vb_t rfl ?_ | refine vb_f rfl ?_ | refine vb_t ‹_› ?_ | refine vb_f ‹_› ?_ | refine vo_i hg ?_ | refine vb_t (room_t (by simp <;> omega)) ?_ | refine vor_l ?_ | fail) <;> conv => whnf)
            exact ⟨⟨(1, some 0), (by omega), (by simp)⟩, (by simp only; omega), (by repeat' (first | exact rfl | exact slot_eq (I_eq (iadd_one (by omega))) | refine cons_eq ?_ ?_)), cons_eq (arr_eq2 rfl (by first | (rw [hsn, ← en]; rfl) | (rw [hsn]; rfl))) rfl, rfl, rfl⟩
      · have hgg : Nat.beq g g = true := by simp
        by_cases h4 : kd = 4
        · have q4 : ieq kd (Int.ofNat 4) = true := by rw [ieq_t]; exact h4
          rw [if_pos (.inl h4)] at hsn
          have hq : ieq (k : Int) (((l.take k).map fun p => pcRow (moreP (n + 1) p)).length : Int) = true := by rw [hlk, ieq_t]
          conv => whnf
          repeat' ((first | refine vb_t rfl ?_ | refine vb_f rfl ?_ | refine vb_t ‹_› ?_ | refine vb_f ‹_› ?_ | refine vo_i hg ?_ | refine vb_t (room_t (by rw [hlk]; simp <;> omega)) ?_ | refine vor_l ?_ | fail) <;> conv => whnf)
          exact ⟨⟨(k + 1, some (g + 1)), (by omega), (by simp)⟩, (by simp only; omega), (by repeat' (first | exact rfl | exact slot_eq (osl_eq rfl (by rw [hlk]; rfl)) | exact slot_eq (I_eq (iadd_one (by omega))) | refine cons_eq ?_ ?_)), cons_eq (arr_eq2 rfl (by first | (rw [hsn, ← en]; rfl) | (rw [hsn]; rfl))) rfl, rfl, rfl⟩
        · have q4 : ieq kd (Int.ofNat 4) = false := by rw [ieq_f]; exact h4
          by_cases h5 : kd = 5
          · have q5 : ieq kd (Int.ofNat 5) = true := by rw [ieq_t]; exact h5
            rw [if_pos (.inr h5)] at hsn
            have hq : ieq (k : Int) (((l.take k).map fun p => pcRow (moreP (n + 1) p)).length : Int) = true := by rw [hlk, ieq_t]
            conv => whnf
            repeat' ((first | refine vb_t rfl ?_ | refine vb_f rfl ?_ | refine vb_t ‹_› ?_ | refine vb_f ‹_› ?_ | refine vo_i hg ?_ | refine vb_t (room_t (by rw [hlk]; simp <;> omega)) ?_ | refine vor_l ?_ | fail) <;> conv => whnf)
            exact ⟨⟨(k + 1, some (g + 1)), (by omega), (by simp)⟩, (by simp only; omega), (by repeat' (first | exact rfl | exact slot_eq (osl_eq rfl (by rw [hlk]; rfl)) | exact slot_eq (I_eq (iadd_one (by omega))) | refine cons_eq ?_ ?_)), cons_eq (arr_eq2 rfl (by first | (rw [hsn, ← en]; rfl) | (rw [hsn]; rfl))) rfl, rfl, rfl⟩
          · have q5 : ieq kd (Int.ofNat 5) = false := by rw [ieq_f]; exact h5
            rw [if_neg (by rintro (h | h); exact h4 h; exact h5 h)] at hsn
            have hq : ieq (k : Int) (((l.take k).map fun p => pcRow (moreP (n + 1) p)).length : Int) = true := by rw [hlk, ieq_t]
            conv => whnf
            repeat' ((first | refine vb_t rfl ?_ | refine vb_f rfl ?_ | refine vb_t ‹_› ?_ | refine vb_f ‹_› ?_ | refine vo_i hg ?_ | refine vb_t (room_t (by rw [hlk]; simp <;> omega)) ?_ | refine vor_l ?_ | fail) <;> conv => whnf)
            exact ⟨⟨(k + 1, some (g + 1)), (by omega), (by simp)⟩, (by simp only; omega), (by repeat' (first | exact rfl | exact slot_eq (osl_eq rfl (by rw [hlk]; rfl)) | exact slot_eq (I_eq (iadd_one (by omega))) | refine cons_eq ?_ ?_)), cons_eq (arr_eq2 rfl (by first | (rw [hsn, ← en]; rfl) | (rw [hsn]; rfl))) rfl, rfl, rfl⟩
    · obtain rfl : k = l.length := by omega
      have hl := nlt_len (f := pcRow) (Nat.not_lt.2 (Nat.le_refl l.length))
      have hpos := List.length_pos_iff.2 h0
      rcases x with _ | g
      · have := hI.2 hpos
        cases this
      have hgg : Nat.beq g g = true := by simp
      show vC F0 _ _ (look (updL _ [(13, .osl 0 g 0 l.length), (76, I (l.length : Int))])) [moO g ((l.take l.length).map fun p => pcRow (moreP (n + 1) p))] _ _ _
      have hrw : (l.map (moreP (n + 1))).map pcRow = (l.take l.length).map fun p => pcRow (moreP (n + 1) p) := by rw [List.take_length, List.map_map]; rfl
      have hrl : ((l.take l.length).map fun p => pcRow (moreP (n + 1) p)).length = l.length := by rw [List.take_length, List.length_map]
      rw [hrw] at hA2
      generalize ((l.take l.length).map fun p => pcRow (moreP (n + 1) p)) = rows at *
      have hcut : List.drop 0 (List.take l.length rows) = rows := by rw [List.drop_zero, List.take_of_length_le (by omega)]
      rw [← hcut] at hA2
      rcases rows with _ | ⟨r0, rs⟩
      · simp at hrl; omega
      clear hrw hrl hcut
      rcases hV with ⟨x, e, rfl, he, h52, rfl⟩ | ⟨lv2, u1, us, fr2, to2, rfl, hu1, hu2, hs3⟩
      · have z : (!ieq e (Int.ofNat 0)) = true := by rw [Bool.not_eq_true', ieq_f]; exact he
        by_cases h5 : e = 52
        · have z5 : ieq e (Int.ofNat 52) = true := by rw [ieq_t]; exact h5
          conv => whnf
          repeat' ((first | refine vb_t rfl ?_ | refine vb_f rfl ?_ | refine vb_t ‹_› ?_ | refine vb_f ‹_› ?_ | refine vpur_i hA2 ?_ | refine vpur_i lives15_ok ?_ | refine vor_l ?_ | fail) <;> conv => whnf)
          exact ⟨rfl, rfl⟩
        · have z5 : ieq e (Int.ofNat 52) = false := by rw [ieq_f]; exact h5
          have z6 : ilt (Int.ofNat 10000) (iadd .i64 n (Int.ofNat 1)) = true := by rw [en]; exact lt_b (h52.resolve_left h5)
          conv => whnf
          repeat' ((first | refine vb_t rfl ?_ | refine vb_f rfl ?_ | refine vb_t ‹_› ?_ | refine vb_f ‹_› ?_ | refine vpur_i hA2 ?_ | refine vpur_i lives15_ok ?_ | refine vor_l ?_ | fail) <;> conv => whnf)
          exact ⟨rfl, rfl⟩
      · have hT2 := total_ok (.sl 1 lv2) u1 us fr2 to2 size gap hu1 (by omega) g0 g1
        generalize (tlS size gap (u1 :: us) false 0).1 = T at *
        have z3 : ilt size T = true := lt_b hs3
        conv => whnf
        repeat' ((first | refine vb_t rfl ?_ | refine vb_f rfl ?_ | refine vb_t ‹_› ?_ | refine vb_f ‹_› ?_ | refine vpur_i hA2 ?_ | refine vpur_i hT2 ?_ | refine vpur_i lives15_ok ?_ | refine vor_l ?_ | fail) <;> conv => whnf)
        exact ⟨rfl, rfl⟩
theorem expandFits_ok (l : List Pc) (v : DV) (hv : SlV 11 (l.map pcRow) v) (hall : ∀ p ∈ l, PcOk p) (size gap : Int) : Pur F0 7 [.d v, I size, I gap] [] .no (.ret (B true)) .no := by
  obtain ⟨c, hL, hP⟩ := light6_ok l v hv hall
  rcases hv with ⟨rfl, hn⟩ | rfl
  · exact fits_na .nilsl size gap c hL rautoN_ok
  · cases c with
    | false =>
      have hy : (!false) = true := rfl
      refine pur_code code7_ok ?_
      conv => whnf
      repeat' ((first | refine vb_t rfl ?_ | refine vb_f rfl ?_ | refine vb_t ‹_› ?_ | refine vb_f ‹_› ?_ | refine vpur_i hL ?_ | refine vpur_i lives15_ok ?_ | refine vor_l ?_ | fail) <;> conv => whnf)
      exact ⟨rfl, rfl⟩
    | true =>
      have hs := light_sm hall (hP rfl)
      have hAu := rauto_ok l hs.1.1
      by_cases hA : ∃ p ∈ l, AutoK p.kind
      · rw [pb_t hA] at hAu
        obtain ⟨n, e, hC, _, hQ⟩ := counts_ok2 l (.sl 11 (l.map pcRow)) (.inr rfl) hs size gap true
        by_cases he : e = 0
        · subst he
          obtain ⟨hG, h1, h2, hn0, hn1⟩ := hQ.good rfl
          have hn := hQ.fill rfl hA
          have hF := fitQ_ok l size gap n hQ hA
          have hX := axis_ok l size gap true n hC hG hall hn0 hn1
          have h0 : l ≠ [] := fun h => by obtain ⟨p, hp, _⟩ := hA; rw [h] at hp; cases hp
          obtain ⟨w, hA2, hV⟩ := axis_more l hs hall size gap n hQ hA
          obtain ⟨g0, g1⟩ := within_b h2
          have f1 := hF.ne
          have f2 := hF.fix
          have f3 := hF.sum
          clear hF
          generalize axF n l = X at *
          obtain ⟨⟨ls, ts, gl, gt⟩, fr, to⟩ := X
          unfold axA at hX
          by_cases hle : ts.length ≤ 10000
          · rw [if_pos hle] at hX
            rcases ts with _ | ⟨t1, ts⟩
            · exact (f1 rfl).elim
            · exact fits_main l hall h0 (by have := (good_alone hG).2; omega) size gap n hn hn1 hL hAu hC _ t1 ts fr to hX f2 hle f3 g0 g1 w hA2 hV
          · rw [if_neg hle] at hX
            exact fits_err _ size gap n 0 52 _ ⟨_, _, _, _, rfl⟩ hL hAu hC hX (.inr ⟨rfl, by decide⟩) hn0
        · exact fits_err _ size gap n e e _ ⟨_, _, _, _, rfl⟩ hL hAu hC (axis_err _ size gap true n e hC he) (.inl he) hQ.pos
      · rw [pb_f hA] at hAu
        exact fits_na _ size gap true hL hAu
end Go.Proofs.YtjeblkicgmmhiaaGreatDoor.Ab

