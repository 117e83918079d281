/- Some texts as one, one behind the other; what is not leaned on is left out. -/
import Derived.Test.YtkljckbaenbjeaaGreatDoorQ7
import Derived.Test.YtkljckbaenbjeaaGreatDoorQ4
set_option linter.unusedSimpArgs false
set_option linter.unusedVariables false
namespace Go.Proofs.YtkljckbaenbjeaaGreatDoor.Ab
open Go
set_option linter.unusedSimpArgs false
set_option maxRecDepth 100000
set_option linter.unusedVariables false
set_option maxHeartbeats 8000000
theorem axis_err (v : DV) (size gap : Int) (b : Bool) (n e : Int) (hC : Pur F0 12 [.d v, I size, B b, I gap] [] .no (.ret (.tup [I n, I e])) .no) (he : e ≠ 0) :
 Pur F0 6 [.d v, I size, B b, I gap] [] .no (.ret (.tup [.agg [.d .nilsl, .d .nilsl, I 0, I 0], I e])) .no := by
 have z : (!ieq e (Int.ofNat 0)) = true := by rw [Bool.not_eq_true', ieq_f]; exact he
 refine pur_code code6_ok ?_
 conv => whnf
 repeat' ((first | refine bt ?_ | refine bf ?_ | refine vpur_i hC ?_ | refine vl ?_ | fail) <;> conv => whnf)
 exact ⟨rfl, rfl⟩
theorem axis_nil (size gap : Int) (b : Bool) (n : Int) (hC : Pur F0 12 [.d .nilsl, I size, B b, I gap] [] .no (.ret (.tup [I n, I 0])) .no) :
 Pur F0 6 [.d .nilsl, I size, B b, I gap] [] .no (.ret (.tup [.agg [.d (.sl 1 [[.nilsl]]), .d .nilsl, I 0, I 0], I 0])) .no := by
 have z : (!ieq (0 : Int) (Int.ofNat 0)) = false := by rw [Bool.not_eq_false', ieq_t]; rfl
 have h00 : ilt (Int.ofNat 0) (0 : Int) = false := by rw [ilt_f]; decide
 refine pur_code code6_ok ?_
 conv => whnf
 repeat' ((first | refine bt ?_ | refine bf ?_ | refine vpur_i hC ?_ | refine vl ?_ | fail) <;> conv => whnf)
 refine vloop_once ?_
 conv => whnf
 repeat' ((first | refine bt ?_ | refine bf ?_ | refine vl ?_ | fail) <;> conv => whnf)
 exact ⟨rfl, rfl⟩
end Go.Proofs.YtkljckbaenbjeaaGreatDoor.Ab
namespace Go.Proofs.YtkljckbaenbjeaaGreatDoor.Ab
open Go
set_option linter.unusedSimpArgs false
set_option maxRecDepth 100000
set_option linter.unusedVariables false
set_option maxHeartbeats 4000000
theorem texts_sl (a b : List (List UInt8)) (ha : a.length ≤ 1000000000000000) : Pur F0 20 [.d (.sl 1 (a.map wsRow)), .d (.sl 1 (b.map wsRow))] [] .no (.ret (B (pb (a = b)))) .no := by
 refine pur_code code20_ok ?_
 conv => whnf
 by_cases hlen : a.length = b.length
 · have q : (!ieq ((a.map wsRow).length : Int) ((b.map wsRow).length : Int)) = false := by rw [Bool.not_eq_false', ieq_t, List.length_map, List.length_map, hlen]
   repeat' ((first | refine bt ?_ | refine bf ?_ | refine vl ?_ | fail) <;> conv => whnf)
   refine vloop_cnt (α := Unit) a.length (fun k _ => ∀ (i : Nat) (x : List UInt8), i < k → a[i]? = some x → b[i]? = some x) (fun k _ => [(5, I (k : Int))]) () (fun i x h => by omega) rfl ?_
   intro k _ hk hI
   conv => whnf
   by_cases hlt : k < a.length
   · obtain ⟨x, hx⟩ := get_in hlt
     obtain ⟨y, hy⟩ := get_in (l := b) (k := k) (by omega)
     have hg1 := iget_map (f := wsRow) hx
     have hg2 := iget_map (f := wsRow) hy
     have hl := lt_len (f := wsRow) hlt
     by_cases hxy : x = y
     · have q2 : (!seq x y) = false := by rw [Bool.not_eq_false', seq_t]; exact hxy
       have hn := upto_succ (P := fun i x => b[i]? = some x) hI hx (by rw [hy, hxy])
       repeat' ((first | refine bt ?_ | refine bf ?_ | refine vo_i hg1 ?_ | refine vo_i hg2 ?_ | refine vl ?_ | fail) <;> conv => whnf)
       exact ⟨⟨(k + 1, ()), (by omega), hn⟩, (by simp only; omega), (by repeat' (first | exact rfl | exact slot_eq (I_eq (iadd_one (by omega))) | (refine cons_eq ?_ ?_) | assumption)), rfl, rfl, rfl⟩
     · have q2 : (!seq x y) = true := by rw [Bool.not_eq_true', seq_f]; exact hxy
       have hA : pb (a = b) = false := pb_f fun h => by
        rw [h, hy] at hx
        exact hxy (Option.some.inj hx).symm
       rw [hA]
       repeat' ((first | refine bt ?_ | refine bf ?_ | refine vo_i hg1 ?_ | refine vo_i hg2 ?_ | refine vl ?_ | fail) <;> conv => whnf)
       exact ⟨rfl, rfl⟩
   · have hl := nlt_len (f := wsRow) hlt
     have hA : pb (a = b) = true := pb_t (List.ext_getElem? fun i => by
      rcases Nat.lt_or_ge i a.length with h | h
      · obtain ⟨x, hx⟩ := get_in h
        rw [hx, hI i x (by omega) hx]
      · rw [List.getElem?_eq_none h, List.getElem?_eq_none (by omega)])
     rw [hA]
     repeat' ((first | refine bt ?_ | refine bf ?_ | refine vb_f (by (first | omega | (simp only [ilt_t, ilt_f, ile_t, ile_f, ieq_t, ieq_f, ofn, List.length_map, Bool.not_eq_true', Bool.not_eq_false'] at *; omega))) ?_ | refine vl ?_ | fail) <;> conv => whnf)
     exact ⟨rfl, rfl⟩
 · have q : (!ieq ((a.map wsRow).length : Int) ((b.map wsRow).length : Int)) = true := by rw [Bool.not_eq_true', ieq_f, List.length_map, List.length_map]; omega
   rw [pb_f (p := a = b) (fun h => hlen (by rw [h]))]
   repeat' ((first | refine bt ?_ | refine bf ?_ | refine vl ?_ | fail) <;> conv => whnf)
   exact ⟨rfl, rfl⟩
theorem texts_nn : Pur F0 20 [.d .nilsl, .d .nilsl] [] .no (.ret (B true)) .no := pur_closed (n := 100) (by kernel_rfl)
theorem texts_same (ns : List (List UInt8)) (h : ns.length ≤ 1000000000000000) : Pur F0 20 [.d (nmW ns), .d (nmW ns)] [] .no (.ret (B true)) .no := by
 rcases ns with _ | ⟨a, l⟩
 · exact texts_nn
 · have := texts_sl (a :: l) (a :: l) h
   rw [pb_t (p := a :: l = a :: l) rfl] at this
   exact this
end Go.Proofs.YtkljckbaenbjeaaGreatDoor.Ab
namespace Go.Proofs.YtkljckbaenbjeaaGreatDoor.Ab
open Go
set_option linter.unusedSimpArgs false
set_option maxRecDepth 100000
set_option linter.unusedVariables false
set_option maxHeartbeats 8000000
theorem axB_axF {n : Int} {l : List Pc} (hG : GoodP l) (hall : ∀ p ∈ l, PcOk p) (hn1 : n ≤ 10000) : AxB (2560000 * l.length) (axF n l).1 := by
 have hgl := good_lay hG hall
 obtain ⟨hal, _⟩ := good_alone hG
 have key : ∀ (l' : List Pc), (∀ p ∈ l', p ∈ l) → ∀ (x : AxS × Int × Int) (c : Nat), AxB c x.1 → AxB (c + 2560000 * l'.length) (l'.foldl (axP n) x).1 := by
  intro l'
  induction l' with
  | nil => intro _ x c h; exact h
  | cons p l' ih =>
   intro hm x c h
   rw [List.foldl_cons]
   have hp := hm p (List.mem_cons_self ..)
   obtain ⟨g1, g2, g3, _⟩ := hgl p hp
   have hlen : (itP n p).length ≤ 2560000 := by
    unfold itP
    split
    · simp
    · rw [repL_len]
      exact Nat.le_trans (Nat.mul_le_mul (tmN_le (hal p hp) hn1) g3) (by decide)
   have hq : ∀ q ∈ itP n p, LayP q := fun q hq => by
    unfold itP at hq
    split at hq
    · rw [List.mem_singleton.1 hq]; exact g1
    · exact g2 q (repL_mem hq)
   have := ih (fun q hq => hm q (List.mem_cons_of_mem _ hq)) (axP n x p) (c + 2560000) (axB_up (by omega) (axB_fold hq h))
   rw [List.length_cons]
   exact axB_up (by omega) this
 have := key l (fun p hp => hp) (ax0, 0, 0) 0 ⟨rfl, Nat.zero_le _, fun x hx => by rw [List.mem_singleton.1 hx]; simp⟩
 rw [Nat.zero_add] at this
 exact this
abbrev axL (ls : List (List (List UInt8))) (ts : List Trk) (fr to : Int) : List AV := [.d (.sl 1 (ls.map lnRow)), .d (tsW ts), I fr, I to]
theorem rsame15_ok (ls : List (List (List UInt8))) (ts : List Trk) (fr to : Int) (h1 : ls.length ≤ 1000000000) (h2 : ts.length ≤ 1000000000) (h3 : ∀ x ∈ ls, x.length ≤ 1000000000000000) :
 Pur F0 8 [.agg (axL ls ts fr to), .agg (axL ls ts fr to)] [] .no (.ret (B true)) .no := by
 have z1 : ∀ a : Int, (!ieq a a) = false := fun a => by rw [ieqs]; rfl
 have hx : (!true) = false := rfl
 rcases ts with _ | ⟨t1, ts⟩
 · refine pur_code code8_ok ?_
   conv => whnf
   repeat' ((first | refine bt ?_ | refine bf ?_ | refine vb_f (z1 _) ?_ | refine vl ?_ | fail) <;> conv => whnf)
   refine vloop_cnt (α := Unit) ls.length (fun _ _ => True) (fun k _ => [(5, I (k : Int))]) () trivial rfl ?_
   intro k _ hk _
   rcases Nat.lt_or_ge k ls.length with hlt | hge
   · obtain ⟨x, hx1⟩ := get_in hlt
     have hg := iget_map (f := lnRow) hx1
     have hl := lt_len (f := lnRow) hlt
     have hT := texts_same x (h3 x (List.mem_of_getElem? hx1))
     conv => whnf
     repeat' ((first | refine bt ?_ | refine bf ?_ | refine vo_i hg ?_ | refine vpur_i hT ?_ | refine vl ?_ | fail) <;> conv => whnf)
     exact ⟨⟨(k + 1, ()), (by omega), trivial⟩, (by simp only; omega), (by repeat' (first | exact rfl | exact slot_eq (I_eq (iadd_one (by omega))) | (refine cons_eq ?_ ?_) | assumption)), rfl, rfl, rfl⟩
   · obtain rfl : k = ls.length := by omega
     have hl := nlt_len (f := lnRow) (Nat.not_lt.2 (Nat.le_refl ls.length))
     conv => whnf
     repeat' ((first | refine bt ?_ | refine bf ?_ | refine vl ?_ | fail) <;> conv => whnf)
     refine vloop_once ?_
     have h00 : ilt (Int.ofNat 0) (0 : Int) = false := by rw [ilt_f]; decide
     conv => whnf
     repeat' ((first | refine bt ?_ | refine bf ?_ | refine vl ?_ | fail) <;> conv => whnf)
     exact ⟨rfl, rfl⟩
 · refine pur_code code8_ok ?_
   conv => whnf
   repeat' ((first | refine bt ?_ | refine bf ?_ | refine vb_f (z1 _) ?_ | refine vl ?_ | fail) <;> conv => whnf)
   refine vloop_cnt (α := Unit) ls.length (fun _ _ => True) (fun k _ => [(5, I (k : Int))]) () trivial rfl ?_
   intro k _ hk _
   rcases Nat.lt_or_ge k ls.length with hlt | hge
   · obtain ⟨x, hx1⟩ := get_in hlt
     have hg := iget_map (f := lnRow) hx1
     have hl := lt_len (f := lnRow) hlt
     have hT := texts_same x (h3 x (List.mem_of_getElem? hx1))
     conv => whnf
     repeat' ((first | refine bt ?_ | refine bf ?_ | refine vo_i hg ?_ | refine vpur_i hT ?_ | refine vl ?_ | fail) <;> conv => whnf)
     exact ⟨⟨(k + 1, ()), (by omega), trivial⟩, (by simp only; omega), (by repeat' (first | exact rfl | exact slot_eq (I_eq (iadd_one (by omega))) | (refine cons_eq ?_ ?_) | assumption)), rfl, rfl, rfl⟩
   · obtain rfl : k = ls.length := by omega
     have hl := nlt_len (f := lnRow) (Nat.not_lt.2 (Nat.le_refl ls.length))
     conv => whnf
     repeat' ((first | refine bt ?_ | refine bf ?_ | refine vl ?_ | fail) <;> conv => whnf)
     refine vloop_cnt (α := Unit) (t1 :: ts).length (fun _ _ => True) (fun k _ => [(6, I (k : Int))]) () trivial rfl ?_
     intro k _ hk _
     rcases Nat.lt_or_ge k (t1 :: ts).length with hlt | hge
     · obtain ⟨x, hx1⟩ := get_in hlt
       have hg := iget_map (f := trkRow) hx1
       have hl := lt_len (f := trkRow) hlt
       clear hx1
       obtain ⟨a1, a2, a3, a4, a5, a6, a7⟩ := x
       conv => whnf
       repeat' ((first | refine bt ?_ | refine bf ?_ | refine vo_i hg ?_ | refine vb_f (by simp only [ieqs]; cases a5 <;> rfl) ?_ | refine vl ?_ | fail) <;> conv => whnf)
       exact ⟨⟨(k + 1, ()), (by omega), trivial⟩, (by simp only; omega), (by repeat' (first | exact rfl | exact slot_eq (I_eq (iadd_one (by omega))) | (refine cons_eq ?_ ?_) | assumption)), rfl, rfl, rfl⟩
     · obtain rfl : k = (t1 :: ts).length := by omega
       have hl := nlt_len (f := trkRow) (Nat.not_lt.2 (Nat.le_refl (t1 :: ts).length))
       conv => whnf
       repeat' ((first | refine bt ?_ | refine bf ?_ | refine vl ?_ | fail) <;> conv => whnf)
       exact ⟨rfl, rfl⟩
theorem rsame15_nil : Pur F0 8 [.agg [.d .nilsl, .d .nilsl, I 0, I 0], .agg [.d .nilsl, .d .nilsl, I 0, I 0]] [] .no (.ret (B true)) .no := pur_closed (n := 100) (by kernel_rfl)
theorem rmany_nil (n : Int) : Pur F0 17 [.d .nilsl, I n] [] .no (.ret (I 0)) .no := by
 have h00 : ilt (Int.ofNat 0) (0 : Int) = false := by rw [ilt_f]; decide
 refine pur_code code17_ok ?_
 conv => whnf
 repeat' ((first | refine bt ?_ | refine bf ?_ | refine vl ?_ | fail) <;> conv => whnf)
 refine vloop_once ?_
 conv => whnf
 repeat' ((first | refine bt ?_ | refine bf ?_ | refine vl ?_ | fail) <;> conv => whnf)
 exact ⟨rfl, rfl⟩
theorem raxis_nil (size gap : Int) (b : Bool) (n : Int) (hC : Pur F0 16 [.d .nilsl, I size, B b, I gap] [] .no (.ret (.tup [I n, I 0])) .no) :
 Pur F0 7 [.d .nilsl, I size, B b, I gap] [] .no (.ret (.tup [.agg [.d (.sl 1 [[.nilsl]]), .d .nilsl, I 0, I 0], I 0])) .no := by
 have z : (!ieq (0 : Int) (Int.ofNat 0)) = false := by rw [Bool.not_eq_false', ieq_t]; rfl
 have h00 : ilt (Int.ofNat 0) (0 : Int) = false := by rw [ilt_f]; decide
 have hM := rmany_nil n
 have wl : ilt (Int.ofNat 10000) (0 : Int) = false := by rw [ilt_f]; decide
 refine pur_code code7_ok ?_
 conv => whnf
 repeat' ((first | refine bt ?_ | refine bf ?_ | refine vpur_i hC ?_ | refine vpur_i hM ?_ | refine vl ?_ | fail) <;> conv => whnf)
 refine vloop_once ?_
 conv => whnf
 repeat' ((first | refine bt ?_ | refine bf ?_ | refine vl ?_ | fail) <;> conv => whnf)
 exact ⟨rfl, rfl⟩
theorem raxis_err (v : DV) (size gap : Int) (b : Bool) (n e : Int) (hC : Pur F0 16 [.d v, I size, B b, I gap] [] .no (.ret (.tup [I n, I e])) .no) (he : e ≠ 0) :
 Pur F0 7 [.d v, I size, B b, I gap] [] .no (.ret (.tup [.agg [.d .nilsl, .d .nilsl, I 0, I 0], I e])) .no := by
 have z : (!ieq e (Int.ofNat 0)) = true := by rw [Bool.not_eq_true', ieq_f]; exact he
 refine pur_code code7_ok ?_
 conv => whnf
 repeat' ((first | refine bt ?_ | refine bf ?_ | refine vpur_i hC ?_ | refine vl ?_ | fail) <;> conv => whnf)
 exact ⟨rfl, rfl⟩
theorem axes_main (v lv tv : DV) (size gap fr to : Int) (b g : Bool) (lr : List (List DV)) (ts : List Trk) (hl : SlV 1 lr lv) (ht : SlV 7 (ts.map trkRow) tv) (g1 : ts.length ≤ 300) (g2 : lr.length ≤ 300)
 (a1 a2 : DV) (f1 t1 e : Int) (hL : Pur F0 4 [.d v] [] .no (.ret (B true)) .no)
 (hA : Pur F0 6 [.d v, I size, B b, I gap] [] .no (.ret (.tup [.agg [.d a1, .d a2, I f1, I t1], I e])) .no)
 (hB : Pur F0 7 [.d v, I size, B b, I gap] [] .no (.ret (.tup [.agg [.d a1, .d a2, I f1, I t1], I e])) .no)
 (hS : Pur F0 8 [.agg [.d a1, .d a2, I f1, I t1], .agg [.d a1, .d a2, I f1, I t1]] [] .no (.ret (B true)) .no)
 (hG1 : Pur F0 9 [.agg [.d lv, .d tv, I fr, I to]] [] .no (.ret (B g)) .no) (hG2 : Pur F0 10 [.agg [.d lv, .d tv, I fr, I to]] [] .no (.ret (B g)) .no)
 (hG3 : e = 0 → Pur F0 9 [.agg [.d a1, .d a2, I f1, I t1]] [] .no (.ret (B true)) .no) :
 Pur F0 3 [.d v, I size, B b, I gap, .agg [.d lv, .d tv, I fr, I to]] [] .no (.ret (B true)) .no := by
 have hx : (!true) = false := rfl
 have hgg : ((B g : AV) = B g) := rfl
 have ee := ieqs e
 by_cases he : e = 0
 · have z : (!ieq e (Int.ofNat 0)) = false := by rw [Bool.not_eq_false', ieq_t]; exact he
   have hG3 := hG3 he
   rcases ht with ⟨rfl, ht⟩ | rfl
   · have w1 : ilt (Int.ofNat 300) (0 : Int) = false := by rw [ilt_f]; decide
     rcases hl with ⟨rfl, hl⟩ | rfl
     · have w2 : ilt (Int.ofNat 300) (0 : Int) = false := by rw [ilt_f]; decide
       cases g
       · refine pur_code code3_ok ?_
         conv => whnf
         repeat' ((first | refine bt ?_ | refine bf ?_ | refine vpur_i hL ?_ | refine vpur_i hA ?_ | refine vpur_i hB ?_ | refine vpur_i hS ?_ | refine vpur_i hG1 ?_ | refine vpur_i hG2 ?_ | refine vpur_i hG3 ?_ | refine vpur_i lives15_ok ?_ | refine vl ?_ | fail) <;> conv => whnf)
         exact ⟨rfl, rfl⟩
       · refine pur_code code3_ok ?_
         conv => whnf
         repeat' ((first | refine bt ?_ | refine bf ?_ | refine vpur_i hL ?_ | refine vpur_i hA ?_ | refine vpur_i hB ?_ | refine vpur_i hS ?_ | refine vpur_i hG1 ?_ | refine vpur_i hG2 ?_ | refine vpur_i hG3 ?_ | refine vpur_i lives15_ok ?_ | refine vl ?_ | fail) <;> conv => whnf)
         exact ⟨rfl, rfl⟩
     · have w2 : ilt (Int.ofNat 300) (lr.length : Int) = false := by rw [ilt_f, Int.ofNat_eq_natCast]; omega
       cases g
       · refine pur_code code3_ok ?_
         conv => whnf
         repeat' ((first | refine bt ?_ | refine bf ?_ | refine vpur_i hL ?_ | refine vpur_i hA ?_ | refine vpur_i hB ?_ | refine vpur_i hS ?_ | refine vpur_i hG1 ?_ | refine vpur_i hG2 ?_ | refine vpur_i hG3 ?_ | refine vpur_i lives15_ok ?_ | refine vl ?_ | fail) <;> conv => whnf)
         exact ⟨rfl, rfl⟩
       · refine pur_code code3_ok ?_
         conv => whnf
         repeat' ((first | refine bt ?_ | refine bf ?_ | refine vpur_i hL ?_ | refine vpur_i hA ?_ | refine vpur_i hB ?_ | refine vpur_i hS ?_ | refine vpur_i hG1 ?_ | refine vpur_i hG2 ?_ | refine vpur_i hG3 ?_ | refine vpur_i lives15_ok ?_ | refine vl ?_ | fail) <;> conv => whnf)
         exact ⟨rfl, rfl⟩
   · have w1 : ilt (Int.ofNat 300) ((ts.map trkRow).length : Int) = false := by rw [ilt_f, List.length_map, Int.ofNat_eq_natCast]; omega
     rcases hl with ⟨rfl, hl⟩ | rfl
     · have w2 : ilt (Int.ofNat 300) (0 : Int) = false := by rw [ilt_f]; decide
       cases g
       · refine pur_code code3_ok ?_
         conv => whnf
         repeat' ((first | refine bt ?_ | refine bf ?_ | refine vpur_i hL ?_ | refine vpur_i hA ?_ | refine vpur_i hB ?_ | refine vpur_i hS ?_ | refine vpur_i hG1 ?_ | refine vpur_i hG2 ?_ | refine vpur_i hG3 ?_ | refine vpur_i lives15_ok ?_ | refine vl ?_ | fail) <;> conv => whnf)
         exact ⟨rfl, rfl⟩
       · refine pur_code code3_ok ?_
         conv => whnf
         repeat' ((first | refine bt ?_ | refine bf ?_ | refine vpur_i hL ?_ | refine vpur_i hA ?_ | refine vpur_i hB ?_ | refine vpur_i hS ?_ | refine vpur_i hG1 ?_ | refine vpur_i hG2 ?_ | refine vpur_i hG3 ?_ | refine vpur_i lives15_ok ?_ | refine vl ?_ | fail) <;> conv => whnf)
         exact ⟨rfl, rfl⟩
     · have w2 : ilt (Int.ofNat 300) (lr.length : Int) = false := by rw [ilt_f, Int.ofNat_eq_natCast]; omega
       cases g
       · refine pur_code code3_ok ?_
         conv => whnf
         repeat' ((first | refine bt ?_ | refine bf ?_ | refine vpur_i hL ?_ | refine vpur_i hA ?_ | refine vpur_i hB ?_ | refine vpur_i hS ?_ | refine vpur_i hG1 ?_ | refine vpur_i hG2 ?_ | refine vpur_i hG3 ?_ | refine vpur_i lives15_ok ?_ | refine vl ?_ | fail) <;> conv => whnf)
         exact ⟨rfl, rfl⟩
       · refine pur_code code3_ok ?_
         conv => whnf
         repeat' ((first | refine bt ?_ | refine bf ?_ | refine vpur_i hL ?_ | refine vpur_i hA ?_ | refine vpur_i hB ?_ | refine vpur_i hS ?_ | refine vpur_i hG1 ?_ | refine vpur_i hG2 ?_ | refine vpur_i hG3 ?_ | refine vpur_i lives15_ok ?_ | refine vl ?_ | fail) <;> conv => whnf)
         exact ⟨rfl, rfl⟩
 · have z : (!ieq e (Int.ofNat 0)) = true := by rw [Bool.not_eq_true', ieq_f]; exact he
   rcases ht with ⟨rfl, ht⟩ | rfl
   · have w1 : ilt (Int.ofNat 300) (0 : Int) = false := by rw [ilt_f]; decide
     rcases hl with ⟨rfl, hl⟩ | rfl
     · have w2 : ilt (Int.ofNat 300) (0 : Int) = false := by rw [ilt_f]; decide
       cases g
       · refine pur_code code3_ok ?_
         conv => whnf
         repeat' ((first | refine bt ?_ | refine bf ?_ | refine vpur_i hL ?_ | refine vpur_i hA ?_ | refine vpur_i hB ?_ | refine vpur_i hS ?_ | refine vpur_i hG1 ?_ | refine vpur_i hG2 ?_ | refine vpur_i lives15_ok ?_ | refine vl ?_ | fail) <;> conv => whnf)
         exact ⟨rfl, rfl⟩
       · refine pur_code code3_ok ?_
         conv => whnf
         repeat' ((first | refine bt ?_ | refine bf ?_ | refine vpur_i hL ?_ | refine vpur_i hA ?_ | refine vpur_i hB ?_ | refine vpur_i hS ?_ | refine vpur_i hG1 ?_ | refine vpur_i hG2 ?_ | refine vpur_i lives15_ok ?_ | refine vl ?_ | fail) <;> conv => whnf)
         exact ⟨rfl, rfl⟩
     · have w2 : ilt (Int.ofNat 300) (lr.length : Int) = false := by rw [ilt_f, Int.ofNat_eq_natCast]; omega
       cases g
       · refine pur_code code3_ok ?_
         conv => whnf
         repeat' ((first | refine bt ?_ | refine bf ?_ | refine vpur_i hL ?_ | refine vpur_i hA ?_ | refine vpur_i hB ?_ | refine vpur_i hS ?_ | refine vpur_i hG1 ?_ | refine vpur_i hG2 ?_ | refine vpur_i lives15_ok ?_ | refine vl ?_ | fail) <;> conv => whnf)
         exact ⟨rfl, rfl⟩
       · refine pur_code code3_ok ?_
         conv => whnf
         repeat' ((first | refine bt ?_ | refine bf ?_ | refine vpur_i hL ?_ | refine vpur_i hA ?_ | refine vpur_i hB ?_ | refine vpur_i hS ?_ | refine vpur_i hG1 ?_ | refine vpur_i hG2 ?_ | refine vpur_i lives15_ok ?_ | refine vl ?_ | fail) <;> conv => whnf)
         exact ⟨rfl, rfl⟩
   · have w1 : ilt (Int.ofNat 300) ((ts.map trkRow).length : Int) = false := by rw [ilt_f, List.length_map, Int.ofNat_eq_natCast]; omega
     rcases hl with ⟨rfl, hl⟩ | rfl
     · have w2 : ilt (Int.ofNat 300) (0 : Int) = false := by rw [ilt_f]; decide
       cases g
       · refine pur_code code3_ok ?_
         conv => whnf
         repeat' ((first | refine bt ?_ | refine bf ?_ | refine vpur_i hL ?_ | refine vpur_i hA ?_ | refine vpur_i hB ?_ | refine vpur_i hS ?_ | refine vpur_i hG1 ?_ | refine vpur_i hG2 ?_ | refine vpur_i lives15_ok ?_ | refine vl ?_ | fail) <;> conv => whnf)
         exact ⟨rfl, rfl⟩
       · refine pur_code code3_ok ?_
         conv => whnf
         repeat' ((first | refine bt ?_ | refine bf ?_ | refine vpur_i hL ?_ | refine vpur_i hA ?_ | refine vpur_i hB ?_ | refine vpur_i hS ?_ | refine vpur_i hG1 ?_ | refine vpur_i hG2 ?_ | refine vpur_i lives15_ok ?_ | refine vl ?_ | fail) <;> conv => whnf)
         exact ⟨rfl, rfl⟩
     · have w2 : ilt (Int.ofNat 300) (lr.length : Int) = false := by rw [ilt_f, Int.ofNat_eq_natCast]; omega
       cases g
       · refine pur_code code3_ok ?_
         conv => whnf
         repeat' ((first | refine bt ?_ | refine bf ?_ | refine vpur_i hL ?_ | refine vpur_i hA ?_ | refine vpur_i hB ?_ | refine vpur_i hS ?_ | refine vpur_i hG1 ?_ | refine vpur_i hG2 ?_ | refine vpur_i lives15_ok ?_ | refine vl ?_ | fail) <;> conv => whnf)
         exact ⟨rfl, rfl⟩
       · refine pur_code code3_ok ?_
         conv => whnf
         repeat' ((first | refine bt ?_ | refine bf ?_ | refine vpur_i hL ?_ | refine vpur_i hA ?_ | refine vpur_i hB ?_ | refine vpur_i hS ?_ | refine vpur_i hG1 ?_ | refine vpur_i hG2 ?_ | refine vpur_i lives15_ok ?_ | refine vl ?_ | fail) <;> conv => whnf)
         exact ⟨rfl, rfl⟩
theorem axes_big (v lv tv : DV) (size gap fr to : Int) (b : Bool) (lr : List (List DV)) (ts : List Trk) (hl : SlV 1 lr lv) (ht : SlV 7 (ts.map trkRow) tv) (c : Bool) (hL : Pur F0 4 [.d v] [] .no (.ret (B c)) .no) (h : ¬ (c = true ∧ ts.length ≤ 300 ∧ lr.length ≤ 300)) :
 Pur F0 3 [.d v, I size, B b, I gap, .agg [.d lv, .d tv, I fr, I to]] [] .no (.ret (B true)) .no := by
 have hx : (!true) = false := rfl
 have hy : (!false) = true := rfl
 cases c with
 | false =>
  refine pur_code code3_ok ?_
  conv => whnf
  repeat' ((first | refine bt ?_ | refine bf ?_ | refine vpur_i hL ?_ | refine vpur_i lives15_ok ?_ | refine vl ?_ | fail) <;> conv => whnf)
  exact ⟨rfl, rfl⟩
 | true =>
  rcases ht with ⟨rfl, ht⟩ | rfl
  · obtain rfl : ts = [] := List.map_eq_nil_iff.1 ht
    have w1 : ilt (Int.ofNat 300) (0 : Int) = false := by rw [ilt_f]; decide
    have h2 : 300 < lr.length := by
     rcases Nat.lt_or_ge 300 lr.length with h1 | h1
     · exact h1
     · exact (h ⟨rfl, Nat.zero_le _, h1⟩).elim
    rcases hl with ⟨rfl, rfl⟩ | rfl
    · simp at h2
    · have w2 : ilt (Int.ofNat 300) (lr.length : Int) = true := by rw [ilt_t, Int.ofNat_eq_natCast]; omega
      refine pur_code code3_ok ?_
      conv => whnf
      repeat' ((first | refine bt ?_ | refine bf ?_ | refine vpur_i hL ?_ | refine vpur_i lives15_ok ?_ | refine vl ?_ | fail) <;> conv => whnf)
      exact ⟨rfl, rfl⟩
  · by_cases h1 : ts.length ≤ 300
    · have w1 : ilt (Int.ofNat 300) ((ts.map trkRow).length : Int) = false := by rw [ilt_f, List.length_map, Int.ofNat_eq_natCast]; omega
      have h2 : 300 < lr.length := by
       rcases Nat.lt_or_ge 300 lr.length with h3 | h3
       · exact h3
       · exact (h ⟨rfl, h1, h3⟩).elim
      rcases hl with ⟨rfl, rfl⟩ | rfl
      · simp at h2
      · have w2 : ilt (Int.ofNat 300) (lr.length : Int) = true := by rw [ilt_t, Int.ofNat_eq_natCast]; omega
        refine pur_code code3_ok ?_
        conv => whnf
        repeat' ((first | refine bt ?_ | refine bf ?_ | refine vpur_i hL ?_ | refine vpur_i lives15_ok ?_ | refine vl ?_ | fail) <;> conv => whnf)
        exact ⟨rfl, rfl⟩
    · have w1 : ilt (Int.ofNat 300) ((ts.map trkRow).length : Int) = true := by rw [ilt_t, List.length_map, Int.ofNat_eq_natCast]; omega
      refine pur_code code3_ok ?_
      conv => whnf
      repeat' ((first | refine bt ?_ | refine bf ?_ | refine vpur_i hL ?_ | refine vpur_i lives15_ok ?_ | refine vl ?_ | fail) <;> conv => whnf)
      exact ⟨rfl, rfl⟩
theorem expandAxes_ok (l : List Pc) (v : DV) (hv : SlV 11 (l.map pcRow) v) (hall : ∀ p ∈ l, PcOk p) (size : Int) (b : Bool) (gap : Int) (lr : List (List DV)) (lv : DV) (ts : List Trk) (tv : DV) (fr to : Int) (hl : SlV 1 lr lv) (ht : SlV 7 (ts.map trkRow) tv) :
 Pur F0 3 [.d v, I size, B b, I gap, .agg [.d lv, .d tv, I fr, I to]] [] .no (.ret (B true)) .no := by
 obtain ⟨c, hL, hP⟩ := light6_ok l v hv hall
 by_cases hc : ¬ (c = true ∧ ts.length ≤ 300 ∧ lr.length ≤ 300)
 · exact axes_big v lv tv size gap fr to b lr ts hl ht c hL hc
 obtain ⟨rfl, g1, g2⟩ := Classical.not_not.1 hc
 have hG1 := egood15_ok lr lv hl ts tv ht fr to (by omega)
 have hG2 := rgood15_ok lr lv hl ts tv ht fr to
 obtain ⟨n, e, hC, hD, hQ⟩ := counts_ok2 l v hv (light_sm hall (hP rfl)) size gap b
 by_cases he : e = 0
 · subst he
   obtain ⟨hG, _, _, hn0, hn1⟩ := hQ.good rfl
   have hB := axB_axF (n := n) hG hall hn1
   obtain ⟨_, hlen⟩ := good_alone hG
   rcases hv with ⟨rfl, hn⟩ | rfl
   · have hs := rsame15_ok [[]] [] 0 0 (by decide) (by decide) (fun x hx => by rw [List.mem_singleton.1 hx]; decide)
     have hg := egood15_ok [[.nilsl]] _ (.inr rfl) [] .nilsl (.inl ⟨rfl, rfl⟩) 0 0 (by decide)
     have hgx : GoodAx ([[DV.nilsl]] : List (List DV)).length [] 0 0 := ⟨by decide, rfl, fun ⟨t, h, _⟩ => (by cases h), .inl ⟨rfl, rfl⟩⟩
     rw [pb_t hgx] at hg
     exact axes_main .nilsl lv tv size gap fr to b _ lr ts hl ht g1 g2 _ _ 0 0 0 hL (axis_nil size gap b n hC) (raxis_nil size gap b n hD) hs hG1 hG2 (fun _ => hg)
   · have hX := axis_ok l size gap b n hC hG hall hn0 hn1
     have hY := raxis_ok l size gap b n hD hG hall hn0 hn1
     have hls := axF_ls (n := n) (l := l)
     have hR := trsR_axF (n := n) hG
     have hF := ft_axF (n := n) hG hall (hQ.fill rfl)
     generalize axF n l = F at *
     rcases F with ⟨⟨ls, us, gl, gt⟩, f1, t1⟩
     unfold axA at hX hY
     by_cases hle : us.length ≤ 10000
     · rw [if_pos hle] at hX hY
       simp only at hls hX hY hB
       have hs := rsame15_ok ls us f1 t1 (by omega) (by omega) (fun x hx => by have := hB.2.2 x hx; omega)
       have hsv : SlV 7 (us.map trkRow) (tsW us) := by
        rcases us with _ | ⟨u, us⟩
        · exact .inl ⟨rfl, rfl⟩
        · exact .inr rfl
       have hg := egood15_ok (ls.map lnRow) _ (.inr rfl) us (tsW us) hsv f1 t1 (by omega)
       rw [pb_t (p := GoodAx _ _ _ _) ⟨hle, by rw [List.length_map]; exact hls, fun ⟨t, h, h1⟩ => (by have := hR t h; rw [this] at h1; cases h1), hF⟩] at hg
       exact axes_main _ lv tv size gap fr to b _ lr ts hl ht g1 g2 _ _ f1 t1 0 hL hX hY hs hG1 hG2 (fun _ => hg)
     · rw [if_neg hle] at hX hY
       exact axes_main _ lv tv size gap fr to b _ lr ts hl ht g1 g2 _ _ 0 0 52 hL hX hY rsame15_nil hG1 hG2 (fun h => by cases h)
 · exact axes_main v lv tv size gap fr to b _ lr ts hl ht g1 g2 _ _ 0 0 e hL (axis_err v size gap b n e hC he) (raxis_err v size gap b n e hD he) rsame15_nil hG1 hG2 (fun h => (he h).elim)
end Go.Proofs.YtkljckbaenbjeaaGreatDoor.Ab
