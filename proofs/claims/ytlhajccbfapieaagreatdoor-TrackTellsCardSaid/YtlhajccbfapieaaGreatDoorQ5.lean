/- Some texts as one, one behind the other; what is not leaned on is left out. -/
import Derived.Test.YtlhajccbfapieaaGreatDoorQ4
import Derived.Test.YtlhajccbfapieaaGreatDoorC00q
import Derived.Test.YtlhajccbfapieaaGreatDoorQ1
import Derived.Test.YtlhajccbfapieaaGreatDoorQ3
set_option linter.unusedSimpArgs false
set_option linter.unusedVariables false
namespace Go.Proofs.YtlhajccbfapieaaGreatDoor.Ab
open Go
set_option linter.unusedSimpArgs false
set_option maxRecDepth 100000
set_option linter.unusedVariables false
set_option maxHeartbeats 4000000
def cntB (c : UInt8) : Bool := decide (c.toNat < 32 ∨ c.toNat = 127)
theorem idigit_ok (c : UInt8) : Pur F0 94 [.d (.int .u8 c.toNat)] [] .no (.ret (B (isDig c))) .no := by
 refine pur_code code94_ok ?_
 conv => whnf
 repeat' ((first | refine bt ?_ | refine bf ?_ | refine vl ?_ | refine vb_i (fun h => ?_) (fun h => ?_) | fail) <;> conv => whnf)
 all_goals refine ⟨congrArg CR.ret (congrArg AV.d (congrArg DV.bool ?_)), rfl⟩
 all_goals simp only [ile_d, ieq_d, ilt_d, ile_t, ile_f, ieq_t, ieq_f, ilt_t, ilt_f, ofn, decide_eq_true_eq, decide_eq_false_iff_not] at *
 all_goals (rw [Bool.eq_iff_iff]; simp [letterB, isDig, cntB]; omega)
theorem icontrol_ok (c : UInt8) : Pur F0 95 [.d (.int .u8 c.toNat)] [] .no (.ret (B (cntB c))) .no := by
 refine pur_code code95_ok ?_
 conv => whnf
 repeat' ((first | refine bt ?_ | refine bf ?_ | refine vl ?_ | refine vb_i (fun h => ?_) (fun h => ?_) | fail) <;> conv => whnf)
 all_goals refine ⟨congrArg CR.ret (congrArg AV.d (congrArg DV.bool ?_)), rfl⟩
 all_goals simp only [ile_d, ieq_d, ilt_d, ile_t, ile_f, ieq_t, ieq_f, ilt_t, ilt_f, ofn, decide_eq_true_eq, decide_eq_false_iff_not] at *
 all_goals (rw [Bool.eq_iff_iff]; simp [letterB, isDig, cntB]; omega)
theorem rdigit4_ok (c : UInt8) : Pur F0 103 [.d (.int .u8 c.toNat)] [] .no (.ret (B (isDig c))) .no := by
 refine pur_code code103_ok ?_
 conv => whnf
 repeat' ((first | refine bt ?_ | refine bf ?_ | refine vl ?_ | refine vb_i (fun h => ?_) (fun h => ?_) | fail) <;> conv => whnf)
 all_goals refine ⟨congrArg CR.ret (congrArg AV.d (congrArg DV.bool ?_)), rfl⟩
 all_goals simp only [ile_d, ieq_d, ilt_d, ile_t, ile_f, ieq_t, ieq_f, ilt_t, ilt_f, ofn, decide_eq_true_eq, decide_eq_false_iff_not] at *
 all_goals (rw [Bool.eq_iff_iff]; simp [letterB, isDig, cntB]; omega)
theorem rcontrol4_ok (c : UInt8) : Pur F0 104 [.d (.int .u8 c.toNat)] [] .no (.ret (B (cntB c))) .no := by
 refine pur_code code104_ok ?_
 conv => whnf
 repeat' ((first | refine bt ?_ | refine bf ?_ | refine vl ?_ | refine vb_i (fun h => ?_) (fun h => ?_) | fail) <;> conv => whnf)
 all_goals refine ⟨congrArg CR.ret (congrArg AV.d (congrArg DV.bool ?_)), rfl⟩
 all_goals simp only [ile_d, ieq_d, ilt_d, ile_t, ile_f, ieq_t, ieq_f, ilt_t, ilt_f, ofn, decide_eq_true_eq, decide_eq_false_iff_not] at *
 all_goals (rw [Bool.eq_iff_iff]; simp [letterB, isDig, cntB]; omega)
theorem rletter3_ok (c : UInt8) : Pur F0 102 [.d (.int .u8 c.toNat)] [] .no (.ret (B (letterB c))) .no := by
 refine pur_code code102_ok ?_
 conv => whnf
 repeat' ((first | refine bt ?_ | refine bf ?_ | refine vl ?_ | refine vb_i (fun h => ?_) (fun h => ?_) | fail) <;> conv => whnf)
 all_goals refine ⟨congrArg CR.ret (congrArg AV.d (congrArg DV.bool ?_)), rfl⟩
 all_goals simp only [ile_d, ieq_d, ilt_d, ile_t, ile_f, ieq_t, ieq_f, ilt_t, ilt_f, ofn, decide_eq_true_eq, decide_eq_false_iff_not] at *
 all_goals (rw [Bool.eq_iff_iff]; simp [letterB, isDig, cntB]; omega)
def hexW : List UInt8 := [48, 49, 50, 51, 52, 53, 54, 55, 56, 57, 97, 98, 99, 100, 101, 102]
def hexD (n : Nat) : UInt8 := (hexW[n]?).getD 0
def escT (c : UInt8) : List UInt8 := 92 :: ((if 16 ≤ c.toNat then [hexD (c.toNat / 16)] else []) ++ [hexD (c.toNat % 16), 32])
theorem hex_cut : ∀ n : Fin 16, icut hexW ((n : Nat) : Int) ((n + 1 : Nat) : Int) = some [hexD n] := by
 unfold icut
 decide
theorem u8_shr : ∀ n : Fin 256, ishr .u8 ((n : Nat) : Int) 4 = ((n / 16 : Nat) : Int) := by
 unfold ishr
 decide
theorem u8_and : ∀ n : Fin 256, iand .u8 ((n : Nat) : Int) (Int.ofNat 15) = ((n % 16 : Nat) : Int) := by
 unfold iand
 decide +kernel
theorem u8_quo : ∀ n : Fin 256, iquo .u8 ((n : Nat) : Int) (Int.ofNat 16) = ((n / 16 : Nat) : Int) := by
 unfold iquo
 decide +kernel
theorem u8_rem : ∀ n : Fin 256, irem ((n : Nat) : Int) (Int.ofNat 16) = ((n % 16 : Nat) : Int) := by
 unfold irem
 decide +kernel
theorem u8_inc : ∀ n : Fin 16, iadd .u8 ((n : Nat) : Int) (Int.ofNat 1) = ((n + 1 : Nat) : Int) := by
 unfold iadd
 decide
theorem hex_hi {c : UInt8} {x : Int} (h : x = ((c.toNat / 16 : Nat) : Int)) : icut hexW x (iadd .u8 x (Int.ofNat 1)) = some [hexD (c.toNat / 16)] := by
 have hl : c.toNat / 16 < 16 := by have := c.toNat_lt; omega
 rw [h, u8_inc ⟨_, hl⟩]
 exact hex_cut ⟨_, hl⟩
theorem hex_lo {c : UInt8} {x : Int} (h : x = ((c.toNat % 16 : Nat) : Int)) : icut hexW x (iadd .u8 x (Int.ofNat 1)) = some [hexD (c.toNat % 16)] := by
 have hl : c.toNat % 16 < 16 := Nat.mod_lt _ (by decide)
 rw [h, u8_inc ⟨_, hl⟩]
 exact hex_cut ⟨_, hl⟩
theorem escaped_ok (c : UInt8) : Pur F0 96 [.d (.int .u8 c.toNat)] [] .no (.ret (S (escT c))) .no := by
 have hs := u8_shr ⟨c.toNat, c.toNat_lt⟩
 have ha := u8_and ⟨c.toNat, c.toNat_lt⟩
 simp only at hs ha
 have h1 := hex_hi hs
 have h2 := hex_lo ha
 unfold escT
 by_cases h16 : 16 ≤ c.toNat
 · have w : ilt (Int.ofNat 0) (ishr .u8 (c.toNat : Int) 4) = true := by rw [hs, ilt_t, Int.ofNat_eq_natCast]; omega
   rw [if_pos h16]
   refine pur_code code96_ok ?_
   conv => whnf
   repeat' ((first | refine bt ?_ | refine bf ?_ | refine vo_i h1 ?_ | refine vo_i h2 ?_ | refine vb_t (roomS_t (by simp)) ?_ | refine vl ?_ | fail) <;> conv => whnf)
   exact ⟨rfl, rfl⟩
 · have w : ilt (Int.ofNat 0) (ishr .u8 (c.toNat : Int) 4) = false := by rw [hs, ilt_f, Int.ofNat_eq_natCast]; omega
   rw [if_neg h16]
   refine pur_code code96_ok ?_
   conv => whnf
   repeat' ((first | refine bt ?_ | refine bf ?_ | refine vo_i h1 ?_ | refine vo_i h2 ?_ | refine vb_t (roomS_t (by simp)) ?_ | refine vl ?_ | fail) <;> conv => whnf)
   exact ⟨rfl, rfl⟩
theorem rnumber_ok (c : UInt8) : Pur F0 105 [.d (.int .u8 c.toNat)] [] .no (.ret (S (escT c))) .no := by
 have hs := u8_quo ⟨c.toNat, c.toNat_lt⟩
 have ha := u8_rem ⟨c.toNat, c.toNat_lt⟩
 simp only at hs ha
 have h1 := hex_hi hs
 have h2 := hex_lo ha
 have hz : iz (Int.ofNat 16) = false := by rw [iz_f]; decide
 unfold escT
 by_cases h16 : 16 ≤ c.toNat
 · have w : ile (Int.ofNat 16) (c.toNat : Int) = true := by rw [ile_t, Int.ofNat_eq_natCast]; omega
   rw [if_pos h16]
   refine pur_code code105_ok ?_
   conv => whnf
   repeat' ((first | refine bt ?_ | refine bf ?_ | refine vo_i h1 ?_ | refine vo_i h2 ?_ | refine vb_t (roomS_t (by simp)) ?_ | refine vl ?_ | fail) <;> conv => whnf)
   exact ⟨rfl, rfl⟩
 · have w : ile (Int.ofNat 16) (c.toNat : Int) = false := by rw [ile_f, Int.ofNat_eq_natCast]; omega
   rw [if_neg h16]
   refine pur_code code105_ok ?_
   conv => whnf
   repeat' ((first | refine bt ?_ | refine bf ?_ | refine vo_i h1 ?_ | refine vo_i h2 ?_ | refine vb_t (roomS_t (by simp)) ?_ | refine vl ?_ | fail) <;> conv => whnf)
   exact ⟨rfl, rfl⟩
def wrC (s : List UInt8) (i : Nat) (c : UInt8) : List UInt8 :=
 if letterB c = true ∨ (c.toNat = 45 ∧ 1 < s.length) ∨ (isDig c = true ∧ ¬ (i = 0 ∨ (i = 1 ∧ s[0]? = some 45))) then [c]
 else if isDig c = true ∨ cntB c = true then escT c else [92, c]
def wrN (s : List UInt8) : Nat → List UInt8
 | 0 => []
 | k + 1 => wrN s k ++ (match s[k]? with
  | some c => wrC s k c
  | none => [])
def wrT (s : List UInt8) : List UInt8 := if nameB s = true then wrN s s.length else []
theorem wrN_succ {s : List UInt8} {k : Nat} {c : UInt8} (h : s[k]? = some c) : wrN s (k + 1) = wrN s k ++ wrC s k c := by rw [wrN, h]
theorem escT_len (c : UInt8) : (escT c).length ≤ 4 ∧ escT c ≠ [] := by
 unfold escT
 split <;> simp
theorem wrC_len (s : List UInt8) (i : Nat) (c : UInt8) : (wrC s i c).length ≤ 4 ∧ wrC s i c ≠ [] := by
 unfold wrC
 split
 · simp
 · split
   · exact escT_len c
   · simp
theorem wrN_len (s : List UInt8) : ∀ k, (wrN s k).length ≤ 4 * k
 | 0 => by simp [wrN]
 | k + 1 => by
  rw [wrN, List.length_append]
  have h1 := wrN_len s k
  cases s[k]? with
  | none => simp only [List.length_nil]; omega
  | some c => have := (wrC_len s k c).1; simp only; omega
theorem wrT_len (s : List UInt8) : (wrT s).length ≤ 256 := by
 unfold wrT
 split
 · rename_i h
   have h1 := wrN_len s s.length
   have h2 : s.length ≤ 64 := by
    simp only [nameB, Bool.and_eq_true, decide_eq_true_eq] at h
    exact h.1.2
   omega
 · simp
end Go.Proofs.YtlhajccbfapieaaGreatDoor.Ab
namespace Go.Proofs.YtlhajccbfapieaaGreatDoor.Ab
open Go
set_option linter.unusedSimpArgs false
set_option maxRecDepth 100000
set_option linter.unusedVariables false
set_option maxHeartbeats 4000000
theorem ws0_ok (t : List UInt8) (ht : t.length ≤ 1000) : CallsTo F0 98 [.ptr 0 0, S t] bld0 .no ⟨.ret (.tup [I (t.length : Int), .d .nili]), bld 0 t, .no⟩ := by
 refine calls_code code98_ok ?_
 conv => whnf
 repeat' ((first | refine bt ?_ | refine bf ?_ | refine vcall_i copy0_ok ?_ | refine vb_t (room_t (by simp <;> omega)) ?_ | refine vl ?_ | fail) <;> conv => whnf)
 unfold bld
 rw [← List.length_map (f := byteRow)]
 exact rfl
theorem ws1_ok (g : Nat) (l t : List UInt8) (hl : l.length ≤ 100000) (ht : t.length ≤ 1000) : CallsTo F0 98 [.ptr 0 0, S t] (bld g l) .no ⟨.ret (.tup [I (t.length : Int), .d .nili]), bld (g + 1) (l ++ t), .no⟩ := by
 have hgg : Nat.beq g g = true := by simp
 have hq : ieq (l.length : Int) ((l.map byteRow).length : Int) = true := by rw [ieq_t]; simp
 refine calls_code code98_ok ?_
 conv => whnf
 repeat' ((first | refine bt ?_ | refine bf ?_ | refine vcall_i (copy1_ok g l) ?_ | refine vb_t (room_t (by simp <;> omega)) ?_ | refine vl ?_ | fail) <;> conv => whnf)
 have e1 : l.map byteRow ++ t.map byteRow = (l ++ t).map byteRow := by rw [List.map_append]
 have e2 : (l.map byteRow).length + (t.map byteRow).length = (l ++ t).length := by rw [List.length_map, List.length_map, List.length_append]
 unfold bld
 rw [← e1, ← e2]
 exact rfl
def strO (s : List UInt8) : Obj := ⟨.mine, 9, .fix [S s]⟩
def eaH (s : List UInt8) : Option (Nat × List UInt8) → Heap
 | none => [strO s, ⟨.mine, 111, .fix [.d .nilp, .d .nilsl]⟩]
 | some (g, l) => [strO s, ⟨.mine, 111, .fix [.ptr 1 0, .osl 2 g 0 l.length]⟩, ⟨.mine, 5, .arr true g 1 (l.map byteRow)⟩]
def eaL : Option (Nat × List UInt8) → List UInt8
 | none => []
 | some (_, l) => l
def eaN (s : List UInt8) (w : Nat → UInt8 → List UInt8) : Nat → List UInt8
 | 0 => []
 | k + 1 => eaN s w k ++ (match s[k]? with
  | some c => w k c
  | none => [])
theorem eaN_succ {s : List UInt8} {w : Nat → UInt8 → List UInt8} {k : Nat} {c : UInt8} (h : s[k]? = some c) : eaN s w (k + 1) = eaN s w k ++ w k c := by rw [eaN, h]
theorem eaN_len {s : List UInt8} {w : Nat → UInt8 → List UInt8} (hw : ∀ i c, (w i c).length ≤ 1000) : ∀ k, (eaN s w k).length ≤ 1000 * k
 | 0 => by simp [eaN]
 | k + 1 => by
  rw [eaN, List.length_append]
  have h1 := eaN_len (s := s) hw k
  cases s[k]? with
  | none => simp only [List.length_nil]; omega
  | some c => have := hw k c; simp only; omega
theorem each_ok (s : List UInt8) (f : Nat) (hfn : f = 92) (w : Nat → UInt8 → List UInt8) (hs : s.length ≤ 90) (h0 : s ≠ []) (hw : ∀ i c, (w i c).length ≤ 1000) (hw0 : ∀ i c, w i c ≠ [])
 (hf : ∀ (k : Nat) (c : UInt8), s[k]? = some c → Drp F0 1 f [I (k : Int), .d (.int .u8 c.toNat), .ptr 0 0] [strO s] .no (.ret (S (w k c))) [strO s] .no) :
 Drp F0 1 91 [S s, .fn .drop f [] [.ptr 0 0]] [strO s] .no (.ret (S (eaN s w s.length))) [strO s] .no := by
 subst hfn
 refine drp_code code91_ok ?_
 conv => whnf
 repeat' ((first | refine bt ?_ | refine bf ?_ | refine vl ?_ | fail) <;> conv => whnf)
 refine vloop_cnh (α := Option (Nat × List UInt8)) s.length (fun k x => eaL x = eaN s w k ∧ (x = none → k = 0)) (fun k _ => [(9, I (k : Int))]) (fun _ x => eaH s x) none ⟨rfl, fun _ => rfl⟩ rfl rfl ?_
 rintro k x hk ⟨hx, hx0⟩
 have hl := eaN_len (s := s) hw k
 have hpos := List.length_pos_iff.2 h0
 rcases Nat.lt_or_ge k s.length with hlt | hge
 · obtain ⟨c, hc⟩ := get_in hlt
   have hg := iget_t hc
   have hq : ilt (k : Int) (s.length : Int) = true := by rw [ilt_t]; omega
   have hF := hf k c hc
   have hS := eaN_succ (w := w) hc
   have hw1 := hw k c
   have n1 : iadd .i64 (k : Int) (Int.ofNat 1) = ((k + 1 : Nat) : Int) := iadd_one (by omega)
   generalize w k c = t at *
   rcases x with _ | ⟨g, l⟩
   · have hW := ws0_ok t hw1
     have hx : [] = eaN s w k := hx
     conv => whnf
     repeat' ((first | refine bt ?_ | refine bf ?_ | refine vo_i hg ?_ | refine vdrp_i hF ?_ | refine vcall_i hW ?_ | refine vl ?_ | fail) <;> conv => whnf)
     exact ⟨⟨(k + 1, some (0, t)), (by omega), ⟨by rw [hS, ← hx]; rfl, fun h => by cases h⟩⟩, (by simp only; omega), (by repeat' (first | exact rfl | exact slot_eq (I_eq (iadd_one (by omega))) | (refine cons_eq ?_ ?_) | assumption)), rfl, rfl, rfl⟩
   · have hx : l = eaN s w k := hx
     rw [← hx] at hl hS
     have hW := ws1_ok g l t (by omega) hw1
     conv => whnf
     repeat' ((first | refine bt ?_ | refine bf ?_ | refine vo_i hg ?_ | refine vdrp_i hF ?_ | refine vcall_i hW ?_ | refine vl ?_ | fail) <;> conv => whnf)
     exact ⟨⟨(k + 1, some (g + 1, l ++ t)), (by omega), ⟨hS.symm, fun h => by cases h⟩⟩, (by simp only; omega), (by repeat' (first | exact rfl | exact slot_eq (I_eq (iadd_one (by omega))) | (refine cons_eq ?_ ?_) | assumption)), rfl, rfl, rfl⟩
 · obtain rfl : k = s.length := by omega
   have hq : ilt (s.length : Int) (s.length : Int) = false := by rw [ilt_f]; omega
   rcases x with _ | ⟨g, l⟩
   · have := hx0 rfl
     omega
   · have hx : l = eaN s w s.length := hx
     have hl0 : l ≠ [] := by
      intro e
      obtain ⟨c, hc⟩ := get_in (l := s) (k := s.length - 1) (by omega)
      have h2 := eaN_succ (w := w) hc
      rw [Nat.sub_add_cancel hpos, ← hx, e] at h2
      exact hw0 _ _ (List.append_eq_nil_iff.1 h2.symm).2
     rw [← hx] at hl ⊢
     have hW := string1_ok g l (by omega) hl0
     conv => whnf
     repeat' ((first | refine bt ?_ | refine bf ?_ | refine vcall_i hW ?_ | refine vl ?_ | fail) <;> conv => whnf)
     exact ⟨rfl, rfl, rfl⟩
theorem wrN_ea (s : List UInt8) : ∀ k, eaN s (wrC s) k = wrN s k
 | 0 => rfl
 | k + 1 => by
  rw [eaN, wrN, wrN_ea s k] <;> (cases s[k]? <;> rfl)
theorem nameB_len {s : List UInt8} (h : nameB s = true) : s ≠ [] ∧ s.length ≤ 64 := by
 simp only [nameB, Bool.and_eq_true, decide_eq_true_eq] at h
 exact ⟨h.1.1, h.1.2⟩
theorem cut_one {s : List UInt8} {k : Nat} {c : UInt8} (hc : s[k]? = some c) (hk' : s.length ≤ 1000000 := by omega) : icut s (k : Int) (iadd .i64 (k : Int) (Int.ofNat 1)) = some [c] := by
 have hk := (List.getElem?_eq_some_iff.1 hc).1
 rw [iadd_one (by omega), icut_t (by omega) (by omega) (by omega)]
 congr 1
 rw [Int.toNat_natCast, Int.toNat_natCast, List.take_add_one, hc]
 rw [List.drop_append_of_le_length (by rw [List.length_take]; omega), List.drop_of_length_le (by rw [List.length_take]; omega)]
 rfl
theorem wr_tests {s : List UInt8} {k : Nat} {c c0 : UInt8} (hc0 : s[0]? = some c0) : ((c.toNat = 45) = (ieq (c.toNat : Int) (Int.ofNat 45) = true)) ∧ ((1 < s.length) = (ilt (Int.ofNat 1) (s.length : Int) = true)) ∧ ((k = 0) = (ieq (k : Int) (Int.ofNat 0) = true)) ∧
 ((k = 1) = (ieq (k : Int) (Int.ofNat 1) = true)) ∧ ((s[0]? = some 45) = (ieq (c0.toNat : Int) (Int.ofNat 45) = true)) := by
 refine ⟨?_, ?_, ?_, ?_, ?_⟩
 · rw [ieq_t, Int.ofNat_eq_natCast]; exact propext ⟨fun h => by omega, fun h => by omega⟩
 · rw [ilt_t, Int.ofNat_eq_natCast]; exact propext ⟨fun h => by omega, fun h => by omega⟩
 · rw [ieq_t, Int.ofNat_eq_natCast]; exact propext ⟨fun h => by omega, fun h => by omega⟩
 · rw [ieq_t, Int.ofNat_eq_natCast]; exact propext ⟨fun h => by omega, fun h => by omega⟩
 · rw [hc0, ieq_t, Int.ofNat_eq_natCast]
   exact propext ⟨fun h => by cases h; rfl, fun h => by
    have : c0 = 45 := UInt8.toNat_inj.1 (by have : (45 : UInt8).toNat = 45 := rfl; omega)
    rw [this]⟩
theorem write1c_ok (s : List UInt8) (hs : s.length ≤ 90) (k : Nat) (c : UInt8) (hc : s[k]? = some c) : Drp F0 1 92 [I (k : Int), .d (.int .u8 c.toNat), .ptr 0 0] [strO s] .no (.ret (S (wrC s k c))) [strO s] .no := by
 have hk := (List.getElem?_eq_some_iff.1 hc).1
 obtain ⟨c0, hc0⟩ := get_in (l := s) (k := 0) (by omega)
 have hg0 : iget s (Int.ofNat 0) = some c0 := iget_t hc0
 have hcut := cut_one hc
 have hL := letter_ok c
 have hD := idigit_ok c
 have hC := icontrol_ok c
 have hE := escaped_ok c
 obtain ⟨w45, w1, wk0, wk1, wc0⟩ := wr_tests (k := k) (c := c) hc0
 unfold wrC
 simp only [w45, w1, wk0, wk1, wc0]
 clear w45 w1 wk0 wk1 wc0
 refine drp_code code92_ok ?_
 conv => whnf
 repeat' ((first | refine bt ?_ | refine bf ?_ | refine vpur_i hL ?_ | refine vpur_i hD ?_ | refine vpur_i hC ?_ | refine vpur_i hE ?_ | refine vo_i hg0 ?_ | refine vo_i hcut ?_ | refine vb_t (roomS_t (by simp)) ?_ | refine vl ?_ | refine vb_i (fun h => ?_) (fun h => ?_) | fail) <;> conv => whnf)
 all_goals (refine ⟨congrArg CR.ret (S_eq ?_), rfl, rfl⟩; simp_all)
theorem iwrite_ok (s : List UInt8) : Pur F0 64 [S s] [] .no (.ret (S (wrT s))) .no := by
 have hN := name_ok s
 unfold wrT
 cases e : nameB s with
 | false =>
  rw [e] at hN
  have hy : (!false) = true := rfl
  rw [if_neg (by simp)]
  refine pur_code code64_ok ?_
  conv => whnf
  repeat' ((first | refine bt ?_ | refine bf ?_ | refine vpur_i hN ?_ | refine vl ?_ | fail) <;> conv => whnf)
  exact ⟨rfl, rfl⟩
 | true =>
  rw [e] at hN
  have hx : (!true) = false := rfl
  obtain ⟨h0, h64⟩ := nameB_len e
  have hE := each_ok s 92 rfl (wrC s) (by omega) h0 (fun i c => by have := (wrC_len s i c).1; omega) (fun i c => (wrC_len s i c).2) (fun k c hc => write1c_ok s (by omega) k c hc)
  rw [wrN_ea] at hE
  rw [if_pos rfl]
  refine pur_code code64_ok ?_
  conv => whnf
  repeat' ((first | refine bt ?_ | refine bf ?_ | refine vpur_i hN ?_ | refine vdrp_i hE ?_ | refine vl ?_ | fail) <;> conv => whnf)
  exact ⟨rfl, rfl⟩
theorem rwrite_ok (s : List UInt8) (hs : s.length ≤ 1000000) : Pur F0 67 [S s] [] .no (.ret (S (wrT s))) .no := by
 have hN := rname_ok s hs
 unfold wrT
 cases e : nameB s with
 | false =>
  rw [e] at hN
  have hy : (!false) = true := rfl
  rw [if_neg (by simp)]
  refine pur_code code67_ok ?_
  conv => whnf
  repeat' ((first | refine bt ?_ | refine bf ?_ | refine vpur_i hN ?_ | refine vl ?_ | fail) <;> conv => whnf)
  exact ⟨rfl, rfl⟩
 | true =>
  rw [e] at hN
  have hx : (!true) = false := rfl
  obtain ⟨h0, h64⟩ := nameB_len e
  rw [if_pos rfl]
  refine pur_code code67_ok ?_
  conv => whnf
  repeat' ((first | refine bt ?_ | refine bf ?_ | refine vpur_i hN ?_ | refine vl ?_ | fail) <;> conv => whnf)
  refine vloop_cnt (α := Unit) s.length (fun _ _ => True) (fun k _ => [(3, S (wrN s k)), (4, I (k : Int))]) () trivial rfl ?_
  intro k _ hk _
  have hl := wrN_len s k
  rcases Nat.lt_or_ge k s.length with hlt | hge
  · obtain ⟨c, hc⟩ := get_in hlt
    have hg := iget_t hc
    have hq : ilt (k : Int) (s.length : Int) = true := by rw [ilt_t]; omega
    obtain ⟨c0, hc0⟩ := get_in (l := s) (k := 0) (by omega)
    have hg0 : iget s (Int.ofNat 0) = some c0 := iget_t hc0
    have n1 : iadd .i64 (k : Int) (Int.ofNat 1) = ((k + 1 : Nat) : Int) := iadd_one (by omega)
    have hcut := cut_one hc
    have hL := rletter3_ok c
    have hD := rdigit4_ok c
    have hC := rcontrol4_ok c
    have hE := rnumber_ok c
    have hEl := (escT_len c).1
    have hM := wrN_succ hc
    unfold wrC at hM
    obtain ⟨w45, w1, wk0, wk1, wc0⟩ := wr_tests (k := k) (c := c) hc0
    have wp : (k = 0) = (ilt (Int.ofNat 0) (k : Int) = false) := by rw [ilt_f, Int.ofNat_eq_natCast]; exact propext ⟨fun h => by omega, fun h => by omega⟩
    simp only [w45, w1, wp, wk1, wc0] at hM
    clear w45 w1 wk0 wk1 wc0 wp hc hc0
    generalize wrN s k = W at *
    conv => whnf
    repeat' ((first | refine bt ?_ | refine bf ?_ | refine vo_i hg ?_ | refine vpur_i hL ?_ | refine vpur_i hD ?_ | refine vpur_i hC ?_ | refine vpur_i hE ?_ | refine vo_i hg0 ?_ | refine vo_i hcut ?_ | refine vb_t (roomS_t (by first | omega | (simp <;> omega))) ?_ | refine vl ?_ | refine vb_i (fun h => ?_) (fun h => ?_) | fail) <;> conv => whnf)
    all_goals refine ⟨⟨(k + 1, ()), (by omega), trivial⟩, (by simp only; omega), ?_, rfl, rfl, rfl⟩
    all_goals (repeat' (first | exact rfl | exact slot_eq (I_eq n1) | exact slot_eq (S_eq (by rw [hM]; simp_all)) | refine cons_eq ?_ ?_))
  · obtain rfl : k = s.length := by omega
    have hq : ilt (s.length : Int) (s.length : Int) = false := by rw [ilt_f]; omega
    conv => whnf
    repeat' ((first | refine bt ?_ | refine bf ?_ | refine vl ?_ | fail) <;> conv => whnf)
    exact ⟨rfl, rfl⟩
end Go.Proofs.YtlhajccbfapieaaGreatDoor.Ab
namespace Go.Proofs.YtlhajccbfapieaaGreatDoor.Ab
open Go
set_option linter.unusedSimpArgs false
set_option maxRecDepth 100000
set_option linter.unusedVariables false
set_option maxHeartbeats 4000000
end Go.Proofs.YtlhajccbfapieaaGreatDoor.Ab
namespace Go.Proofs.YtlhajccbfapieaaGreatDoor.Ab
open Go
set_option linter.unusedSimpArgs false
set_option maxRecDepth 100000
set_option linter.unusedVariables false
set_option maxHeartbeats 4000000
end Go.Proofs.YtlhajccbfapieaaGreatDoor.Ab
namespace Go.Proofs.YtlhajccbfapieaaGreatDoor.Ab
open Go
set_option linter.unusedSimpArgs false
set_option maxRecDepth 100000
set_option linter.unusedVariables false
set_option maxHeartbeats 4000000
abbrev JS := Option (Nat × List (List UInt8))
def jA (i : Nat) : JS → AV
 | none => .d .nilsl
 | some (g, l) => .osl i g 0 l.length
def jB (g : Nat) (l : List (List UInt8)) : Obj := ⟨.mine, 9, .arr true g 1 (l.map wsRow)⟩
def jL : JS → List (List UInt8)
 | none => []
 | some (_, l) => l
theorem jn_le (sep : List UInt8) (m : Nat) : ∀ l : List (List UInt8), (∀ x ∈ l, x.length ≤ m) → (Lib.join l sep).length ≤ l.length * (m + sep.length)
 | [], _ => by simp [Lib.join]
 | [a], h => by
  have := h a (by simp)
  rw [Lib.join_one]; simp; omega
 | a :: b :: l, h => by
  have h1 := jn_le sep m (b :: l) fun x hx => h x (List.mem_cons_of_mem _ hx)
  have h2 := h a (by simp)
  have e : Lib.join (a :: b :: l) sep = a ++ (sep ++ Lib.join (b :: l) sep) := by simp [Lib.join_cons, Lib.joinTail]
  rw [e]
  simp only [List.length_append, List.length_cons] at h1 ⊢
  rw [Nat.succ_mul]; omega
theorem jn_snoc (sep x : List UInt8) : ∀ l : List (List UInt8), l ≠ [] → Lib.join (l ++ [x]) sep = Lib.join l sep ++ (sep ++ x)
 | [], h => (h rfl).elim
 | [a], _ => by simp [Lib.join_cons, Lib.joinTail]
 | a :: b :: l, _ => by
  have h := jn_snoc sep x (b :: l) (by simp)
  have e : ∀ (a b : List UInt8) l, Lib.join (a :: b :: l) sep = a ++ (sep ++ Lib.join (b :: l) sep) := fun a b l => by simp [Lib.join_cons, Lib.joinTail]
  have e1 := e a b (l ++ [x])
  have e2 := e a b l
  simp only [List.cons_append] at h ⊢
  rw [e1, h, e2]; simp only [List.append_assoc]
theorem jn_take {l : List (List UInt8)} {k : Nat} {x : List UInt8} (h : l[k]? = some x) (h0 : 0 < k) : Lib.join (l.take (k + 1)) [32] = Lib.join (l.take k) [32] ++ [32] ++ x := by
 rw [List.take_add_one, h, Option.toList_some, jn_snoc _ _ _ (by
  have := (List.getElem?_eq_some_iff.1 h).1
  intro e
  have := congrArg List.length e
  simp only [List.length_take, List.length_nil] at this
  omega), List.append_assoc]
theorem rjoin_ok (l : List (List UInt8)) (hl : l.length ≤ 1000) (hb : ∀ x ∈ l, x.length ≤ 10000000) : Pur F0 43 [.d (.sl 1 (l.map wsRow))] [] .no (.ret (S (Lib.join l [32]))) .no := by
 refine pur_code code43_ok ?_
 conv => whnf
 repeat' ((first | refine bt ?_ | refine bf ?_ | refine vl ?_ | fail) <;> conv => whnf)
 refine vloop_cnt (α := Unit) l.length (fun _ _ => True) (fun k _ => [(3, S (Lib.join (l.take k) [32])), (4, I (k : Int))]) () trivial rfl ?_
 intro k _ hk _
 rcases Nat.lt_or_ge k l.length with hlt | hge
 · obtain ⟨x, hx⟩ := get_in hlt
   have hg := iget_map (f := wsRow) hx
   have hq := lt_len (f := wsRow) hlt
   have hxl := hb x (List.mem_of_getElem? hx)
   have hW := jn_le [32] 10000000 (l.take k) (fun y hy => hb y (List.mem_of_mem_take hy))
   have hW2 : (Lib.join (l.take k) [32]).length ≤ 1000 * 10000001 := Nat.le_trans hW (Nat.mul_le_mul (by rw [List.length_take]; omega) (by simp))
   have n1 : iadd .i64 (k : Int) (Int.ofNat 1) = ((k + 1 : Nat) : Int) := iadd_one (by omega)
   rcases Nat.eq_zero_or_pos k with rfl | hp
   · have q0 : ilt (Int.ofNat 0) ((0 : Nat) : Int) = false := by rw [ilt_f]; decide
     have hS : Lib.join (l.take (0 + 1)) [32] = Lib.join (l.take 0) [32] ++ x := by
      rw [List.take_add_one, hx, List.take_zero]; simp [Lib.join_one, Lib.join_nil]
     conv => whnf
     repeat' ((first | refine bt ?_ | refine bf ?_ | refine vo_i hg ?_ | refine vb_t (roomS_t (by omega)) ?_ | refine vl ?_ | fail) <;> conv => whnf)
     exact ⟨⟨(0 + 1, ()), (by omega), trivial⟩, (by simp only; omega), (by repeat' (first | exact rfl | exact slot_eq (S_eq hS.symm) | exact slot_eq (I_eq n1) | refine cons_eq ?_ ?_)), rfl, rfl, rfl⟩
   · have q0 : ilt (Int.ofNat 0) (k : Int) = true := by rw [ilt_t, Int.ofNat_eq_natCast]; omega
     have hS := jn_take hx hp
     generalize Lib.join (l.take k) [32] = W at *
     conv => whnf
     repeat' ((first | refine bt ?_ | refine bf ?_ | refine vo_i hg ?_ | refine vb_t (roomS_t (by simp <;> omega)) ?_ | refine vl ?_ | fail) <;> conv => whnf)
     exact ⟨⟨(k + 1, ()), (by omega), trivial⟩, (by simp only; omega), (by repeat' (first | exact rfl | exact slot_eq (S_eq hS.symm) | exact slot_eq (I_eq n1) | refine cons_eq ?_ ?_)), rfl, rfl, rfl⟩
 · obtain rfl : k = l.length := by omega
   have hq := nlt_len (f := wsRow) (Nat.not_lt.2 (Nat.le_refl l.length))
   rw [List.take_length]
   conv => whnf
   repeat' ((first | refine bt ?_ | refine bf ?_ | refine vl ?_ | fail) <;> conv => whnf)
   exact ⟨rfl, rfl⟩
def repB : List UInt8 := [114, 101, 112, 101, 97, 116, 40]
def afitB : List UInt8 := [97, 117, 116, 111, 45, 102, 105, 116]
def afillB : List UInt8 := [97, 117, 116, 111, 45, 102, 105, 108, 108]
def brT (names : List (List UInt8)) : List UInt8 := [91] ++ Lib.join (names.map wrT) [32] ++ [93]
def repK (k c : Int) : List UInt8 := if k = 3 then Lib.decDigits c.toNat else if k = 5 then afitB else afillB
def repW (p : Pc) : List UInt8 := repK p.kind p.count
noncomputable def pcX (J : List Pc → List UInt8) (p : Pc) : List UInt8 :=
 if p.kind = 1 then brT p.names else if p.kind = 2 then szT p.t else repB ++ repW p ++ [44, 32] ++ J p.inner ++ [41]
noncomputable def jo0 (L : List Pc) : List UInt8 := Lib.join (L.map (pcX fun _ => [])) [32]
noncomputable def joT (L : List Pc) : List UInt8 := Lib.join (L.map (pcX jo0)) [32]
theorem brT_len (names : List (List UInt8)) (h : names.length ≤ 16) : (brT names).length ≤ 5000 := by
 unfold brT
 have := jn_le [32] 256 (names.map wrT) (fun x hx => by obtain ⟨s, _, rfl⟩ := List.mem_map.1 hx; exact wrT_len s)
 rw [List.length_map] at this
 have h2 : names.length * (256 + [32].length) ≤ 16 * 257 := Nat.mul_le_mul h (by simp)
 simp only [List.length_append, List.length_cons, List.length_nil]
 have : (Lib.join (names.map wrT) [32]).length ≤ 16 * 257 := Nat.le_trans this h2
 omega
theorem dec_len4 {n : Nat} (h : n ≤ 10000) : (Lib.decDigits n).length ≤ 20 := dec_le n (by omega)
def TxP (p : Pc) : Prop := PcOk p ∧ AloneP p
theorem txP_names {p : Pc} (h : TxP p) (hk : p.kind = 1) : p.names.length ≤ 16 ∧ p.names ≠ [] := by
 rcases h.2 with ⟨_, hn, _⟩ | ⟨h, _⟩ | ⟨h, _⟩ | ⟨h, _⟩
 · exact ⟨hn.2.1, fun e => by have := hn.1; rw [e] at this; simp at this⟩
 · omega
 · omega
 · unfold AutoK at h; omega
theorem repW_len {p : Pc} (h : TxP p) : (repW p).length ≤ 20 := by
 unfold repW repK
 split
 · rename_i hk
   refine dec_len4 ?_
   rcases h.2 with ⟨h, _⟩ | ⟨h, _⟩ | ⟨_, _, h, _⟩ | ⟨h, _⟩
   · omega
   · omega
   · omega
   · unfold AutoK at h; omega
 · split <;> simp [afitB, afillB]
theorem pcX_len {J : List Pc → List UInt8} {m : Nat} {p : Pc} (h : TxP p) (hJ : (J p.inner).length ≤ m) : (pcX J p).length ≤ m + 5000 := by
 unfold pcX
 split
 · rename_i hk
   have := brT_len p.names (txP_names h hk).1
   omega
 · split
   · have := szT_len p.t; omega
   · have := repW_len h
     simp only [List.length_append, repB, List.length_cons, List.length_nil]; omega
def clean : Pc → Pc
 | .mk k vn n t _ _ _ => .mk k vn n t 0 .nilsl []
def pcO6 (p : Pc) : Obj := ⟨.mine, 46, .fix ((pcRow p).map .d)⟩
theorem name_small {s : List UInt8} (h : customB s = true) : s.length ≤ 64 := by
 simp only [customB, Bool.and_eq_true] at h
 exact (nameB_len h.2).2
theorem txP_small {p : Pc} (h : TxP p) (hk : p.kind = 1) : ∀ s ∈ p.names, s.length ≤ 64 := by
 rcases h.2 with ⟨_, hn, _⟩ | ⟨h, _⟩ | ⟨h, _⟩ | ⟨h, _⟩
 · exact fun s hs => name_small (hn.2.2 s hs)
 · omega
 · omega
 · unfold AutoK at h; omega
theorem jcut (a : List UInt8) (l : List (List UInt8)) : ((((a :: l).map wsRow).take (a :: l).length).drop 0) = (a :: l).map wsRow := by rw [List.drop_zero, List.take_of_length_le (by simp)]
theorem ieqL {α β : Type} (f : α → β) (l : List α) : ieq (l.length : Int) ((l.map f).length : Int) = true := by rw [ieq_t, List.length_map]
theorem jn_len (l : List (List UInt8)) (m : Nat) (h : ∀ x ∈ l, x.length ≤ m) (h2 : l.length ≤ 1000) : (Lib.join l [32]).length ≤ 1000 * (m + 1) := Nat.le_trans (jn_le [32] m l h) (Nat.mul_le_mul h2 (by simp))
theorem roneN_ok (p : Pc) (h : TxP p) (hk : p.kind = 1) : Pur F0 42 [pcA p] [] .no (.ret (S (brT p.names))) .no := by
 obtain ⟨hn16, hn0⟩ := txP_names h hk
 have hsm := txP_small h hk
 obtain ⟨hpo, _⟩ := h
 cases hpo with
 | @mk kd vn names t cn vi inner hvn hvi hin =>
 simp only [Pc.kind, Pc.names] at hk hn16 hn0 hsm ⊢
 have q1 : ieq kd (Int.ofNat 1) = true := by rw [ieq_t]; exact hk
 rcases hvn with ⟨rfl, hvn⟩ | rfl
 · exact (hn0 (List.map_eq_nil_iff.1 hvn)).elim
 refine pur_code code42_ok ?_
 conv => whnf
 repeat' ((first | refine bt ?_ | refine bf ?_ | refine vl ?_ | fail) <;> conv => whnf)
 refine vloop_cnh (α := JS) names.length (fun k y => jL y = (names.take k).map wrT ∧ (y = none → k = 0)) (fun k y => [(3, jA 1 y), (4, I (k : Int))]) (fun _ y => match y with
  | none => [pcO6 (.mk kd (.sl 1 (names.map wsRow)) names t cn vi inner)]
  | some (g, l) => [pcO6 (.mk kd (.sl 1 (names.map wsRow)) names t cn vi inner), jB g l]) none ⟨rfl, fun _ => rfl⟩ rfl rfl ?_
 rintro k y hk ⟨hy, hy0⟩
 have hpos := List.length_pos_iff.2 hn0
 rcases Nat.lt_or_ge k names.length with hlt | hge
 · obtain ⟨x, hx⟩ := get_in hlt
   have hg := iget_map (f := wsRow) hx
   have hq := lt_len (f := wsRow) hlt
   have hxl := wrT_len x
   have hW := rwrite_ok x (by have := hsm x (List.mem_of_getElem? hx); omega)
   have n1 : iadd .i64 (k : Int) (Int.ofNat 1) = ((k + 1 : Nat) : Int) := iadd_one (by omega)
   have hY : (names.take (k + 1)).map wrT = jL y ++ [wrT x] := by rw [List.take_add_one, hx, List.map_append, hy]; rfl
   rcases y with _ | ⟨g, l⟩
   · conv => whnf
     repeat' ((first | refine bt ?_ | refine bf ?_ | refine vo_i hg ?_ | refine vpur_i hW ?_ | refine vb_t (room_t (by simp <;> omega)) ?_ | refine vl ?_ | fail) <;> conv => whnf)
     exact ⟨⟨(k + 1, some (0, [wrT x])), (by omega), ⟨hY.symm, fun h => by cases h⟩⟩, (by simp only; omega), (by repeat' (first | exact rfl | exact slot_eq (I_eq n1) | refine cons_eq ?_ ?_)), rfl, rfl, rfl⟩
   · have hll : l.length ≤ 16 := by
      have := congrArg List.length hy
      simp only [jL, List.length_map, List.length_take] at this; omega
     have hgg : Nat.beq g g = true := by simp
     have hql := ieqL wsRow l
     conv => whnf
     repeat' ((first | refine bt ?_ | refine bf ?_ | refine vo_i hg ?_ | refine vpur_i hW ?_ | refine vb_t (room_t (by simp <;> omega)) ?_ | refine vl ?_ | fail) <;> conv => whnf)
     exact ⟨⟨(k + 1, some (g + 1, l ++ [wrT x])), (by omega), ⟨hY.symm, fun h => by cases h⟩⟩, (by simp only; omega), (by repeat' (first | exact rfl | exact slot_eq (osl_eq rfl (by simp)) | exact slot_eq (I_eq n1) | refine cons_eq ?_ ?_)), (by repeat' (first | exact rfl | refine cons_eq ?_ ?_ | exact arr_eq2 rfl (by rw [List.map_append]; rfl))), rfl, rfl⟩
 · obtain rfl : k = names.length := by omega
   have hq := nlt_len (f := wsRow) (Nat.not_lt.2 (Nat.le_refl names.length))
   rw [List.take_length] at hy
   rcases y with _ | ⟨g, _ | ⟨a, l⟩⟩
   · have := hy0 rfl; omega
   · have := congrArg List.length hy
     simp [jL] at this
     exact (hn0 (List.length_eq_zero_iff.1 (by omega))).elim
   · have hb : ∀ x ∈ (a :: l), x.length ≤ 256 := fun x hx => by
      have hx : x ∈ names.map wrT := by rw [← hy]; exact hx
      obtain ⟨s, _, rfl⟩ := List.mem_map.1 hx
      exact wrT_len s
     have hll : (a :: l).length ≤ 16 := by
      have := congrArg List.length hy
      simp only [jL, List.length_map] at this; omega
     have hJ := rjoin_ok (a :: l) (by omega) (fun x hx => by have := hb x hx; omega)
     have hJl := jn_len (a :: l) 256 hb (by omega)
     have hgg : Nat.beq g g = true := by simp
     have hcut := jcut a l
     have hy : a :: l = names.map wrT := hy
     unfold brT
     rw [← hy]
     conv => whnf
     repeat' ((first | refine bt ?_ | refine bf ?_ | (rw [hcut]) | refine vpur_i hJ ?_ | refine vb_t (roomS_t (by simp <;> omega)) ?_ | refine vl ?_ | fail) <;> conv => whnf)
     exact ⟨rfl, rfl⟩
theorem roneT_ok (p : Pc) (hk : p.kind = 2) : Pur F0 42 [pcA p] [] .no (.ret (S (szT p.t))) .no := by
 have hS := rsizeText_ok p.t
 rcases p with ⟨kd, vn, names, ⟨a1, a2, a3, a4, a5, a6, a7⟩, cn, vi, inner⟩
 simp only [Pc.kind, Pc.t] at hk hS ⊢
 have q1 : ieq kd (Int.ofNat 1) = false := by rw [ieq_f, hk]; decide
 have q2 : ieq kd (Int.ofNat 2) = true := by rw [ieq_t]; exact hk
 refine pur_code code42_ok ?_
 conv => whnf
 repeat' ((first | refine bt ?_ | refine bf ?_ | refine vpur_i hS ?_ | refine vl ?_ | fail) <;> conv => whnf)
 exact ⟨rfl, rfl⟩
end Go.Proofs.YtlhajccbfapieaaGreatDoor.Ab
namespace Go.Proofs.YtlhajccbfapieaaGreatDoor.Ab
open Go
set_option linter.unusedSimpArgs false
set_option maxRecDepth 100000
set_option linter.unusedVariables false
set_option maxHeartbeats 4000000
theorem rnames_ok (l : List (List UInt8)) (v : DV) (hv : SlV 1 (l.map wsRow) v) (hs : SmN l) : Pur F0 63 [.d v] [] .no (.ret (B (pb (NamesP l)))) .no := by
 obtain ⟨hs1, hs2⟩ := hs
 rcases hv with ⟨rfl, hn⟩ | rfl
 · have hn0 : l = [] := List.map_eq_nil_iff.1 hn
   subst hn0
   have hA : pb (NamesP []) = false := pb_f fun h => absurd h.1 (by decide)
   rw [hA]
   refine pur_code code63_ok ?_
   conv => whnf
   repeat' ((first | refine bt ?_ | refine bf ?_ | refine vb_t (by (first | omega | (simp only [ilt_t, ilt_f, ile_t, ile_f, ieq_t, ieq_f, ofn, List.length_map, Bool.not_eq_true', Bool.not_eq_false'] at *; omega))) ?_ | refine vl ?_ | fail) <;> conv => whnf)
   exact ⟨rfl, rfl⟩
 by_cases hb : l.length < 1 ∨ 16 < l.length
 · have hA : pb (NamesP l) = false := pb_f fun h => by have h1 := h.1; have h2 := h.2.1; omega
   rw [hA]
   refine pur_code code63_ok ?_
   conv => whnf
   by_cases b1 : l.length < 1
   · repeat' ((first | refine bt ?_ | refine bf ?_ | refine vb_t (by (first | omega | (simp only [ilt_t, ilt_f, ile_t, ile_f, ieq_t, ieq_f, ofn, List.length_map, Bool.not_eq_true', Bool.not_eq_false'] at *; omega))) ?_ | refine vl ?_ | fail) <;> conv => whnf)
     exact ⟨rfl, rfl⟩
   · have b2 : 16 < l.length := by omega
     repeat' ((first | refine bt ?_ | refine bf ?_ | refine vb_t (by (first | omega | (simp only [ilt_t, ilt_f, ile_t, ile_f, ieq_t, ieq_f, ofn, List.length_map, Bool.not_eq_true', Bool.not_eq_false'] at *; omega))) ?_ | refine vb_f (by (first | omega | (simp only [ilt_t, ilt_f, ile_t, ile_f, ieq_t, ieq_f, ofn, List.length_map, Bool.not_eq_true', Bool.not_eq_false'] at *; omega))) ?_ | refine vl ?_ | fail) <;> conv => whnf)
     exact ⟨rfl, rfl⟩
 · have b1 : ¬ l.length < 1 := fun h => hb (.inl h)
   have b2 : ¬ 16 < l.length := fun h => hb (.inr h)
   refine pur_code code63_ok ?_
   conv => whnf
   repeat' ((first | refine bt ?_ | refine bf ?_ | refine vb_t (by (first | omega | (simp only [ilt_t, ilt_f, ile_t, ile_f, ieq_t, ieq_f, ofn, List.length_map, Bool.not_eq_true', Bool.not_eq_false'] at *; omega))) ?_ | refine vb_f (by (first | omega | (simp only [ilt_t, ilt_f, ile_t, ile_f, ieq_t, ieq_f, ofn, List.length_map, Bool.not_eq_true', Bool.not_eq_false'] at *; omega))) ?_ | refine vl ?_ | fail) <;> conv => whnf)
   refine vloop_cnt (α := Unit) l.length (fun k _ => ∀ i s, i < k → l[i]? = some s → customB s = true) (fun k _ => [(3, I (k : Int))]) () (fun i s h => by omega) rfl ?_
   intro k _ hk hI
   conv => whnf
   by_cases hlt : k < l.length
   · obtain ⟨s, hs⟩ := get_in hlt
     have hg := iget_map (f := wsRow) hs
     have hl := lt_len (f := wsRow) hlt
     have hcu := rcustom_ok s (by have := hs2 s (List.mem_of_getElem? hs); omega)
     cases hcb : customB s with
     | true =>
      rw [hcb] at hcu
      repeat' ((first | refine bt ?_ | refine bf ?_ | refine vb_t (by (first | omega | (simp only [ilt_t, ilt_f, ile_t, ile_f, ieq_t, ieq_f, ofn, List.length_map, Bool.not_eq_true', Bool.not_eq_false'] at *; omega))) ?_ | refine vo_i hg ?_ | refine vpur_i hcu ?_ | refine vl ?_ | fail) <;> conv => whnf)
      refine ⟨⟨(k + 1, ()), (by omega), ?_⟩, (by simp only; omega), (by repeat' (first | exact rfl | exact slot_eq (I_eq (iadd_one (by omega))) | (refine cons_eq ?_ ?_) | assumption)), rfl, rfl, rfl⟩
      simp only []
      exact upto_succ hI hs hcb
     | false =>
      rw [hcb] at hcu
      have hA : pb (NamesP l) = false := pb_f fun h => by
       have := h.2.2 s (List.mem_of_getElem? hs); rw [hcb] at this; cases this
      rw [hA]
      repeat' ((first | refine bt ?_ | refine bf ?_ | refine vb_t (by (first | omega | (simp only [ilt_t, ilt_f, ile_t, ile_f, ieq_t, ieq_f, ofn, List.length_map, Bool.not_eq_true', Bool.not_eq_false'] at *; omega))) ?_ | refine vo_i hg ?_ | refine vpur_i hcu ?_ | refine vl ?_ | fail) <;> conv => whnf)
      exact ⟨rfl, rfl⟩
   · have hl := nlt_len (f := wsRow) hlt
     have hN : NamesP l := ⟨by omega, by omega, names_all fun i s h h1 => hI i s (by omega) h1⟩
     rw [pb_t hN]
     repeat' ((first | refine bt ?_ | refine bf ?_ | refine vb_f (by (first | omega | (simp only [ilt_t, ilt_f, ile_t, ile_f, ieq_t, ieq_f, ofn, List.length_map, Bool.not_eq_true', Bool.not_eq_false'] at *; omega))) ?_ | refine vl ?_ | fail) <;> conv => whnf)
     exact ⟨rfl, rfl⟩
theorem piece_ok (p : Pc) (hp : PcOk p) (hs : SmN p.names) (hi2 : p.inner.length ≤ 1000000) : Pur F0 38 [pcA p] [] .no (.ret (B (pb (AloneP p)))) .no := by
 cases hp with
 | @mk kd vn names t c vi inner hn hi h0 =>
 simp only [Pc.names, Pc.inner] at hs hi2
 obtain ⟨hs1, hs2⟩ := hs
 obtain ⟨ak, an, bk, bn, fit, lk, ln⟩ := t
 have hn' := hn
 rcases hn with ⟨rfl, hn⟩ | rfl <;> rcases hi with ⟨rfl, hi⟩ | rfl
 · have hn0 : names = [] := List.map_eq_nil_iff.1 hn
   have hi0 : inner = [] := List.map_eq_nil_iff.1 hi
   subst hn0 hi0
   have hz := trk0_eq (ak := ak) (an := an) (bk := bk) (bn := bn) (fit := fit) (lk := lk) (ln := ln)
   have hr := rright_ok ⟨ak, an, bk, bn, fit, lk, ln⟩
   have hna := rnames_ok _ _ hn' ⟨hs1, hs2⟩
   have hnl : ilt (Int.ofNat 0) (0 : Int) = pb (([] : List (List UInt8)) ≠ []) := by
    rw [Bool.eq_iff_iff, ilt_t, pb_iff, ← List.length_pos_iff, lit0]
    simp
   have hil : ieq (0 : Int) (Int.ofNat 0) = pb (([] : List Pc) = []) := by
    rw [Bool.eq_iff_iff, ieq_t, pb_iff, ← List.length_eq_zero_iff, lit0]
    simp
   have hNE : NamesP ([] : List (List UInt8)) → ([] : List (List UInt8)) ≠ [] := fun h e => by have := h.1; rw [e] at this; exact absurd this (by decide)
   refine pur_code code38_ok ?_
   conv => whnf
   repeat' ((first | refine bt ?_ | refine bf ?_ | refine vpur_i hr ?_ | refine vpur_i hna ?_ | (rw [hz]) | (rw [hnl]) | (rw [hil]) | refine vl ?_ | refine vb_i (fun h => ?_) (fun h => ?_) | fail) <;> conv => whnf)
   all_goals (refine ⟨retB ?_, rfl⟩; clear hr hna hs1 hs2 h0 hi2; rw [Bool.eq_iff_iff, pb_iff])
   all_goals (clear hz hnl hil; simp_all [AloneP, AutoK, Pc.kind, Pc.names, Pc.inner, Pc.t, Pc.count, pb_iff, pb_ff, ieq_t, ieq_f, ile_t, ile_f, ile_d, lit0, lit1, lit2, lit3, lit4, lit5])
   all_goals (intros; omega)
 · have hn0 : names = [] := List.map_eq_nil_iff.1 hn
   subst hn0
   have hz := trk0_eq (ak := ak) (an := an) (bk := bk) (bn := bn) (fit := fit) (lk := lk) (ln := ln)
   have hr := rright_ok ⟨ak, an, bk, bn, fit, lk, ln⟩
   have hna := rnames_ok _ _ hn' ⟨hs1, hs2⟩
   have hnl : ilt (Int.ofNat 0) (0 : Int) = pb (([] : List (List UInt8)) ≠ []) := by
    rw [Bool.eq_iff_iff, ilt_t, pb_iff, ← List.length_pos_iff, lit0]
    simp
   have hil : ieq ((inner.map pcRow).length : Int) (Int.ofNat 0) = pb (inner = []) := by
    rw [Bool.eq_iff_iff, ieq_t, pb_iff, ← List.length_eq_zero_iff, lit0]
    simp
   have hNE : NamesP ([] : List (List UInt8)) → ([] : List (List UInt8)) ≠ [] := fun h e => by have := h.1; rw [e] at this; exact absurd this (by decide)
   refine pur_code code38_ok ?_
   conv => whnf
   repeat' ((first | refine bt ?_ | refine bf ?_ | refine vpur_i hr ?_ | refine vpur_i hna ?_ | (rw [hz]) | (rw [hnl]) | (rw [hil]) | refine vl ?_ | refine vb_i (fun h => ?_) (fun h => ?_) | fail) <;> conv => whnf)
   all_goals (refine ⟨retB ?_, rfl⟩; clear hr hna hs1 hs2 h0 hi2; rw [Bool.eq_iff_iff, pb_iff])
   all_goals (clear hz hnl hil; simp_all [AloneP, AutoK, Pc.kind, Pc.names, Pc.inner, Pc.t, Pc.count, pb_iff, pb_ff, ieq_t, ieq_f, ile_t, ile_f, ile_d, lit0, lit1, lit2, lit3, lit4, lit5])
   all_goals (intros; omega)
 · have hi0 : inner = [] := List.map_eq_nil_iff.1 hi
   subst hi0
   have hz := trk0_eq (ak := ak) (an := an) (bk := bk) (bn := bn) (fit := fit) (lk := lk) (ln := ln)
   have hr := rright_ok ⟨ak, an, bk, bn, fit, lk, ln⟩
   have hna := rnames_ok _ _ hn' ⟨hs1, hs2⟩
   have hnl : ilt (Int.ofNat 0) ((names.map wsRow).length : Int) = pb (names ≠ []) := by
    rw [Bool.eq_iff_iff, ilt_t, pb_iff, ← List.length_pos_iff, lit0]
    simp
   have hil : ieq (0 : Int) (Int.ofNat 0) = pb (([] : List Pc) = []) := by
    rw [Bool.eq_iff_iff, ieq_t, pb_iff, ← List.length_eq_zero_iff, lit0]
    simp
   have hNE : NamesP names → names ≠ [] := fun h e => by have := h.1; rw [e] at this; exact absurd this (by decide)
   refine pur_code code38_ok ?_
   conv => whnf
   repeat' ((first | refine bt ?_ | refine bf ?_ | refine vpur_i hr ?_ | refine vpur_i hna ?_ | (rw [hz]) | (rw [hnl]) | (rw [hil]) | refine vl ?_ | refine vb_i (fun h => ?_) (fun h => ?_) | fail) <;> conv => whnf)
   all_goals (refine ⟨retB ?_, rfl⟩; clear hr hna hs1 hs2 h0 hi2; rw [Bool.eq_iff_iff, pb_iff])
   all_goals (clear hz hnl hil; simp_all [AloneP, AutoK, Pc.kind, Pc.names, Pc.inner, Pc.t, Pc.count, pb_iff, pb_ff, ieq_t, ieq_f, ile_t, ile_f, ile_d, lit0, lit1, lit2, lit3, lit4, lit5])
   all_goals (intros; omega)
 · have hz := trk0_eq (ak := ak) (an := an) (bk := bk) (bn := bn) (fit := fit) (lk := lk) (ln := ln)
   have hr := rright_ok ⟨ak, an, bk, bn, fit, lk, ln⟩
   have hna := rnames_ok _ _ hn' ⟨hs1, hs2⟩
   have hnl : ilt (Int.ofNat 0) ((names.map wsRow).length : Int) = pb (names ≠ []) := by
    rw [Bool.eq_iff_iff, ilt_t, pb_iff, ← List.length_pos_iff, lit0]
    simp
   have hil : ieq ((inner.map pcRow).length : Int) (Int.ofNat 0) = pb (inner = []) := by
    rw [Bool.eq_iff_iff, ieq_t, pb_iff, ← List.length_eq_zero_iff, lit0]
    simp
   have hNE : NamesP names → names ≠ [] := fun h e => by have := h.1; rw [e] at this; exact absurd this (by decide)
   refine pur_code code38_ok ?_
   conv => whnf
   repeat' ((first | refine bt ?_ | refine bf ?_ | refine vpur_i hr ?_ | refine vpur_i hna ?_ | (rw [hz]) | (rw [hnl]) | (rw [hil]) | refine vl ?_ | refine vb_i (fun h => ?_) (fun h => ?_) | fail) <;> conv => whnf)
   all_goals (refine ⟨retB ?_, rfl⟩; clear hr hna hs1 hs2 h0 hi2; rw [Bool.eq_iff_iff, pb_iff])
   all_goals (clear hz hnl hil; simp_all [AloneP, AutoK, Pc.kind, Pc.names, Pc.inner, Pc.t, Pc.count, pb_iff, pb_ff, ieq_t, ieq_f, ile_t, ile_f, ile_d, lit0, lit1, lit2, lit3, lit4, lit5])
   all_goals (intros; omega)
end Go.Proofs.YtlhajccbfapieaaGreatDoor.Ab
namespace Go.Proofs.YtlhajccbfapieaaGreatDoor.Ab
open Go
set_option linter.unusedSimpArgs false
set_option maxRecDepth 100000
set_option linter.unusedVariables false
set_option maxHeartbeats 4000000
def SmP (l : List Pc) : Prop := l.length ≤ 1000000 ∧ ∀ p ∈ l, PcOk p ∧ SmN p.names ∧ p.inner.length ≤ 1000000
def BeforeP (l : List Pc) (i : Nat) : Prop := 0 < i ∧ ∃ q, l[i - 1]? = some q ∧ q.kind = 1
def ItemP (l : List Pc) (deep : Bool) (i : Nat) (p : Pc) : Prop := AloneP p ∧ ¬ (deep = true ∧ RepK p.kind) ∧ ¬ (p.kind = 1 ∧ BeforeP l i)
def ListedP (l : List Pc) (deep : Bool) : Prop := (∀ (i : Nat) (p : Pc), l[i]? = some p → ItemP l deep i p) ∧ (∃ (i : Nat) (p : Pc), l[i]? = some p ∧ p.kind ≠ 1) ∧ l.length ≤ 256
theorem kind_ne {l : List Pc} {k : Nat} {p : Pc} (hp : l[k]? = some p) {x : Nat} (h : 0 < x ↔ ∃ (i : Nat) (p : Pc), i < k ∧ l[i]? = some p ∧ p.kind ≠ 1) : 0 < (if p.kind = 1 then x else x + 1) ↔ ∃ (i : Nat) (p : Pc), i < k + 1 ∧ l[i]? = some p ∧ p.kind ≠ 1 := by
 split
 · rename_i h1
   rw [h]
   constructor
   · rintro ⟨i, q, hi, hq, hk⟩; exact ⟨i, q, by omega, hq, hk⟩
   · rintro ⟨i, q, hi, hq, hk⟩
     by_cases e : i = k
     · subst e; rw [hp] at hq; cases hq; exact (hk h1).elim
     · exact ⟨i, q, by omega, hq, hk⟩
 · rename_i h1
   exact ⟨fun _ => ⟨k, p, by omega, hp, h1⟩, fun _ => by omega⟩
theorem iget_prev {l : List Pc} {k : Nat} {q : Pc} (h0 : 0 < k) (hk : k ≤ 1000000) (hq : l[k - 1]? = some q) : iget (l.map pcRow) (isub .i64 (k : Int) (Int.ofNat 1)) = some (pcRow q) := by
 have e : isub .i64 (k : Int) (Int.ofNat 1) = ((k - 1 : Nat) : Int) := by rw [isub64 (by rw [lit1]; omega) (by rw [lit1]; omega), lit1]; omega
 rw [e]
 exact iget_map hq
theorem listed_ok (l : List Pc) (deep : Bool) (hs : SmP l) : Pur F0 33 [.d (.sl 11 (l.map pcRow)), B deep] [] .no (.ret (B (pb (ListedP l deep)))) .no := by
 obtain ⟨hlen, hall⟩ := hs
 refine pur_code code33_ok ?_
 conv => whnf
 repeat' ((first | refine bt ?_ | refine bf ?_ | refine vl ?_ | fail) <;> conv => whnf)
 refine vloop_cnt (α := Nat) l.length (fun k x => x ≤ k ∧ (0 < x ↔ ∃ (i : Nat) (p : Pc), i < k ∧ l[i]? = some p ∧ p.kind ≠ 1) ∧ ∀ (i : Nat) (p : Pc), i < k → l[i]? = some p → ItemP l deep i p) (fun k x => [(5, I (x : Int)), (10, I (k : Int))]) 0
  ⟨Nat.le_refl _, ⟨fun h => by omega, fun ⟨i, p, h, _⟩ => by omega⟩, fun i p h => by omega⟩ rfl ?_
 intro k x hk hI
 obtain ⟨hx, hcnt, hit⟩ := hI
 conv => whnf
 by_cases hlt : k < l.length
 · obtain ⟨p, hp⟩ := get_in hlt
   have hg := iget_map (f := pcRow) hp
   have hl := lt_len (f := pcRow) hlt
   obtain ⟨hpo, hps, hpi⟩ := hall p (List.mem_of_getElem? hp)
   have ha := alone_ok p hpo hps hpi
   have hre := isRepeat_ok p.kind
   have hc := kind_ne hp hcnt
   have hc1 : p.kind = 1 → (0 < x ↔ ∃ (i : Nat) (p : Pc), i < k + 1 ∧ l[i]? = some p ∧ p.kind ≠ 1) := fun h => by rw [if_pos h] at hc; exact hc
   have hc2 : p.kind ≠ 1 → (0 < x + 1 ↔ ∃ (i : Nat) (p : Pc), i < k + 1 ∧ l[i]? = some p ∧ p.kind ≠ 1) := fun h => by rw [if_neg h] at hc; exact hc
   have hit' : ItemP l deep k p → ∀ (i : Nat) (p : Pc), i < k + 1 → l[i]? = some p → ItemP l deep i p := fun h => upto_succ hit hp h
   have hbad : ¬ ItemP l deep k p → pb (ListedP l deep) = false := fun h => pb_f fun hL => h (hL.1 k p hp)
   clear hit hcnt hall hc
   by_cases h0 : 0 < k
   · obtain ⟨q, hq⟩ : ∃ q, l[k - 1]? = some q := get_in (by omega)
     have hgq := iget_prev h0 (by omega) hq
     have q0 : ilt (Int.ofNat 0) (k : Int) = true := by rw [ilt_t, lit0]; omega
     have hB : BeforeP l k ↔ q.kind = 1 := ⟨fun ⟨_, q', h1, h2⟩ => by rw [hq] at h1; cases h1; exact h2, fun h => ⟨h0, q, hq, h⟩⟩
     unfold ItemP at hit' hbad
     rw [hB] at hit' hbad
     clear hB hp hq hpo hps hpi
     cases p with
     | mk kd vn names t c vi inner =>
     cases q with
     | mk kd2 vn2 names2 t2 c2 vi2 inner2 =>
     simp only [Pc.kind] at hre
     repeat' ((first | refine bt ?_ | refine bf ?_ | refine vpur_i ha ?_ | refine vpur_i hre ?_ | refine vo_i hg ?_ | refine vo_i hgq ?_ | refine vl ?_ | refine vb_i (fun h => ?_) (fun h => ?_) | fail) <;> conv => whnf)
     all_goals first
      | (refine ⟨retB (Eq.symm (hbad ?_)), rfl⟩; clear ha hre hc1 hc2 hit' hbad hg hgq; simp_all [Pc.kind, pb_iff, pb_ff, ieq_t, ieq_f, lit1]; done)
      | (refine ⟨⟨(k + 1, x), (by omega), (by omega), hc1 (by have hq := ‹(!ieq kd (Int.ofNat 1)) = false›; rw [Bool.not_eq_false', ieq_t] at hq; exact hq), ?_⟩, (by simp only; omega), (by repeat' (first | exact rfl | exact slot_eq (I_eq (iadd_one (by omega))) | (refine cons_eq ?_ ?_) | assumption)), rfl, rfl, rfl⟩; refine hit' ?_; clear ha hre hc1 hc2 hit' hbad hg hgq; simp_all [Pc.kind, pb_iff, pb_ff, ieq_t, ieq_f, lit1]; done)
      | (exfalso; clear ha hre hc1 hc2 hit' hbad hg hgq hl; simp_all; done)
      | (exfalso; clear ha hre hc1 hc2 hit' hbad hg hgq hl; simp_all [ilt_t, ilt_f, lit0]; omega)
      | (refine ⟨⟨(k + 1, x + 1), (by omega), (by omega), hc2 (by have hq := ‹(!ieq kd (Int.ofNat 1)) = true›; rw [Bool.not_eq_true', ieq_f] at hq; exact hq), ?_⟩, (by simp only; omega), (by repeat' (first | exact rfl | exact slot_eq (I_eq (iadd_one (by omega))) | (refine cons_eq ?_ ?_) | assumption)), rfl, rfl, rfl⟩; refine hit' ?_; clear ha hre hc1 hc2 hit' hbad hg hgq; simp_all [Pc.kind, pb_iff, pb_ff, ieq_t, ieq_f, lit1]; done)
   · have hB : ¬ BeforeP l k := fun h => h0 h.1
     have q0 : ilt (Int.ofNat 0) (k : Int) = false := by rw [ilt_f, lit0]; omega
     unfold ItemP at hit' hbad
     clear hp hpo hps hpi
     cases p with
     | mk kd vn names t c vi inner =>
     simp only [Pc.kind] at hre
     repeat' ((first | refine bt ?_ | refine bf ?_ | refine vpur_i ha ?_ | refine vpur_i hre ?_ | refine vo_i hg ?_ | refine vl ?_ | refine vb_i (fun h => ?_) (fun h => ?_) | fail) <;> conv => whnf)
     all_goals first
      | (refine ⟨retB (Eq.symm (hbad ?_)), rfl⟩; clear ha hre hc1 hc2 hit' hbad hg; simp_all [Pc.kind, pb_iff, pb_ff, ieq_t, ieq_f, lit1]; done)
      | (refine ⟨⟨(k + 1, x), (by omega), (by omega), hc1 (by have hq := ‹(!ieq kd (Int.ofNat 1)) = false›; rw [Bool.not_eq_false', ieq_t] at hq; exact hq), ?_⟩, (by simp only; omega), (by repeat' (first | exact rfl | exact slot_eq (I_eq (iadd_one (by omega))) | (refine cons_eq ?_ ?_) | assumption)), rfl, rfl, rfl⟩; refine hit' ?_; clear ha hre hc1 hc2 hit' hbad hg; simp_all [Pc.kind, pb_iff, pb_ff, ieq_t, ieq_f, lit1]; done)
      | (refine ⟨⟨(k + 1, x + 1), (by omega), (by omega), hc2 (by have hq := ‹(!ieq kd (Int.ofNat 1)) = true›; rw [Bool.not_eq_true', ieq_f] at hq; exact hq), ?_⟩, (by simp only; omega), (by repeat' (first | exact rfl | exact slot_eq (I_eq (iadd_one (by omega))) | (refine cons_eq ?_ ?_) | assumption)), rfl, rfl, rfl⟩; refine hit' ?_; clear ha hre hc1 hc2 hit' hbad hg; simp_all [Pc.kind, pb_iff, pb_ff, ieq_t, ieq_f, lit1]; done)
 · have hl := nlt_len (f := pcRow) hlt
   have hall' : ∀ (i : Nat) (p : Pc), l[i]? = some p → ItemP l deep i p := fun i p h => hit i p (by have := (List.getElem?_eq_some_iff.1 h).1; omega) h
   have hkl : k = l.length := by omega
   have hcnt' : 0 < x ↔ ∃ (i : Nat) (p : Pc), l[i]? = some p ∧ p.kind ≠ 1 := by
    rw [hcnt]
    exact ⟨fun ⟨i, p, _, h⟩ => ⟨i, p, h⟩, fun ⟨i, p, h1, h2⟩ => ⟨i, p, by have := (List.getElem?_eq_some_iff.1 h1).1; omega, h1, h2⟩⟩
   repeat' ((first | refine bt ?_ | refine bf ?_ | refine vb_f (by (first | omega | (simp only [ilt_t, ilt_f, ile_t, ile_f, ieq_t, ieq_f, ofn, List.length_map, Bool.not_eq_true', Bool.not_eq_false'] at *; omega))) ?_ | refine vl ?_ | refine vb_i (fun h => ?_) (fun h => ?_) | fail) <;> conv => whnf)
   all_goals (refine ⟨retB ?_, rfl⟩; rw [Bool.eq_iff_iff, pb_iff])
   · have hx0 : 0 < x := by have := ‹ilt (Int.ofNat 0) (x : Int) = true›; rw [ilt_t, lit0] at this; omega
     rw [ile_t, List.length_map]
     constructor
     · intro h; exact ⟨hall', hcnt'.1 hx0, by have : (l.length : Int) ≤ 256 := h; omega⟩
     · intro h; have := h.2.2; show (l.length : Int) ≤ 256; omega
   · have hx0 : ¬ 0 < x := by have := ‹ilt (Int.ofNat 0) (x : Int) = false›; rw [ilt_f, lit0] at this; omega
     constructor
     · intro h; cases h
     · intro h; exact (hx0 (hcnt'.2 h.2.1)).elim
end Go.Proofs.YtlhajccbfapieaaGreatDoor.Ab
namespace Go.Proofs.YtlhajccbfapieaaGreatDoor.Ab
open Go
set_option linter.unusedSimpArgs false
set_option maxRecDepth 100000
set_option linter.unusedVariables false
set_option maxHeartbeats 4000000
def AltP (l : List Pc) : Prop := (∀ (i : Nat) (p : Pc), l[i]? = some p → ¬ (p.kind = 1 ∧ BeforeP l i)) ∧ ∃ (i : Nat) (p : Pc), l[i]? = some p ∧ p.kind ≠ 1
theorem is_ne {l : List Pc} {k : Nat} {p : Pc} (hp : l[k]? = some p) {x : Bool} (h : x = true ↔ ∃ (i : Nat) (p : Pc), i < k ∧ l[i]? = some p ∧ p.kind ≠ 1) : (x = true ∨ p.kind ≠ 1) ↔ ∃ (i : Nat) (p : Pc), i < k + 1 ∧ l[i]? = some p ∧ p.kind ≠ 1 := by
 rw [h]
 constructor
 · rintro (⟨i, q, hi, hq, hk⟩ | hk)
   · exact ⟨i, q, by omega, hq, hk⟩
   · exact ⟨k, p, by omega, hp, hk⟩
 · rintro ⟨i, q, hi, hq, hk⟩
   by_cases e : i = k
   · subst e; rw [hp] at hq; cases hq; exact .inr hk
   · exact .inl ⟨i, q, by omega, hq, hk⟩
theorem alternate_ok (l : List Pc) (hlen : l.length ≤ 1000000) : Pur F0 37 [.d (.sl 11 (l.map pcRow))] [] .no (.ret (B (pb (AltP l)))) .no := by
 refine pur_code code37_ok ?_
 conv => whnf
 repeat' ((first | refine bt ?_ | refine bf ?_ | refine vl ?_ | fail) <;> conv => whnf)
 refine vloop_cnt (α := Bool) l.length (fun k x => (x = true ↔ ∃ (i : Nat) (p : Pc), i < k ∧ l[i]? = some p ∧ p.kind ≠ 1) ∧ ∀ (i : Nat) (p : Pc), i < k → l[i]? = some p → ¬ (p.kind = 1 ∧ BeforeP l i)) (fun k x => [(3, B x), (4, I (k : Int))]) false
  ⟨⟨fun h => by (cases h), fun ⟨i, p, h, _⟩ => by omega⟩, fun i p h => by omega⟩ rfl ?_
 intro k x hk hI
 obtain ⟨hcnt, hit⟩ := hI
 conv => whnf
 by_cases hlt : k < l.length
 · obtain ⟨p, hp⟩ := get_in hlt
   have hg := iget_map (f := pcRow) hp
   have hl := lt_len (f := pcRow) hlt
   have hc := is_ne hp hcnt
   have hit' : ¬ (p.kind = 1 ∧ BeforeP l k) → ∀ (i : Nat) (p : Pc), i < k + 1 → l[i]? = some p → ¬ (p.kind = 1 ∧ BeforeP l i) := fun h => upto_succ (P := fun i p => ¬ (p.kind = 1 ∧ BeforeP l i)) hit hp h
   have hbad : (p.kind = 1 ∧ BeforeP l k) → pb (AltP l) = false := fun h => pb_f fun hL => hL.1 k p hp h
   clear hit hcnt
   by_cases h0 : 0 < k
   · obtain ⟨q, hq⟩ : ∃ q, l[k - 1]? = some q := get_in (by omega)
     have hgq := iget_prev h0 (by omega) hq
     have q0 : ilt (Int.ofNat 0) (k : Int) = true := by rw [ilt_t, lit0]; omega
     have hB : BeforeP l k ↔ q.kind = 1 := ⟨fun ⟨_, q', h1, h2⟩ => by rw [hq] at h1; cases h1; exact h2, fun h => ⟨h0, q, hq, h⟩⟩
     rw [hB] at hit' hbad
     clear hB hp hq
     cases p with
     | mk kd vn names t c vi inner =>
     cases q with
     | mk kd2 vn2 names2 t2 c2 vi2 inner2 =>
     cases x with
     | true =>
      repeat' ((first | refine bt ?_ | refine bf ?_ | refine vo_i hg ?_ | refine vo_i hgq ?_ | refine vl ?_ | refine vb_i (fun h => ?_) (fun h => ?_) | fail) <;> conv => whnf)
      all_goals first
       | (refine ⟨retB (Eq.symm (hbad ?_)), rfl⟩; clear hc hit' hbad hg hgq; simp_all [Pc.kind, pb_iff, pb_ff, ieq_t, ieq_f, lit1]; done)
       | (refine ⟨⟨(k + 1, true), (by omega), ⟨?_, hit' ?_⟩⟩, (by simp only; omega), (by repeat' (first | exact rfl | exact slot_eq (I_eq (iadd_one (by omega))) | (refine cons_eq ?_ ?_) | assumption)), rfl, rfl, rfl⟩
          · rw [← hc]; simp
          · clear hc hit' hbad hg hgq; simp_all [Pc.kind, ieq_t, ieq_f, lit1]; done)
     | false =>
      repeat' ((first | refine bt ?_ | refine bf ?_ | refine vo_i hg ?_ | refine vo_i hgq ?_ | refine vl ?_ | refine vb_i (fun h => ?_) (fun h => ?_) | fail) <;> conv => whnf)
      all_goals first
       | (refine ⟨retB (Eq.symm (hbad ?_)), rfl⟩; clear hc hit' hbad hg hgq; simp_all [Pc.kind, pb_iff, pb_ff, ieq_t, ieq_f, lit1]; done)
       | (refine ⟨⟨(k + 1, !ieq kd (Int.ofNat 1)), (by omega), ⟨?_, hit' ?_⟩⟩, (by simp only; omega), (by repeat' (first | exact rfl | exact slot_eq (I_eq (iadd_one (by omega))) | (refine cons_eq ?_ ?_) | assumption)), rfl, rfl, rfl⟩
          · rw [← hc]; clear hc hit' hbad hg hgq; simp_all [Pc.kind, ieq_t, ieq_f, lit1]; done
          · clear hc hit' hbad hg hgq; simp_all [Pc.kind, ieq_t, ieq_f, lit1]; done)
   · have hB : ¬ BeforeP l k := fun h => h0 h.1
     have q0 : ilt (Int.ofNat 0) (k : Int) = false := by rw [ilt_f, lit0]; omega
     have hit2 := hit' fun h => hB h.2
     clear hp hit' hbad
     cases p with
     | mk kd vn names t c vi inner =>
     cases x with
     | true =>
      repeat' ((first | refine bt ?_ | refine bf ?_ | refine vo_i hg ?_ | refine vl ?_ | fail) <;> conv => whnf)
      exact ⟨⟨(k + 1, true), (by omega), ⟨by rw [← hc]; simp, hit2⟩⟩, (by simp only; omega), (by repeat' (first | exact rfl | exact slot_eq (I_eq (iadd_one (by omega))) | (refine cons_eq ?_ ?_) | assumption)), rfl, rfl, rfl⟩
     | false =>
      repeat' ((first | refine bt ?_ | refine bf ?_ | refine vo_i hg ?_ | refine vl ?_ | fail) <;> conv => whnf)
      exact ⟨⟨(k + 1, !ieq kd (Int.ofNat 1)), (by omega), ⟨by rw [← hc]; simp [Pc.kind, ieq_f, lit1], hit2⟩⟩, (by simp only; omega), (by repeat' (first | exact rfl | exact slot_eq (I_eq (iadd_one (by omega))) | (refine cons_eq ?_ ?_) | assumption)), rfl, rfl, rfl⟩
 · have hl := nlt_len (f := pcRow) hlt
   have hall' : ∀ (i : Nat) (p : Pc), l[i]? = some p → ¬ (p.kind = 1 ∧ BeforeP l i) := fun i p h => hit i p (by have := (List.getElem?_eq_some_iff.1 h).1; omega) h
   have hcnt' : x = true ↔ ∃ (i : Nat) (p : Pc), l[i]? = some p ∧ p.kind ≠ 1 := by
    rw [hcnt]
    exact ⟨fun ⟨i, p, _, h⟩ => ⟨i, p, h⟩, fun ⟨i, p, h1, h2⟩ => ⟨i, p, by have := (List.getElem?_eq_some_iff.1 h1).1; omega, h1, h2⟩⟩
   repeat' ((first | refine bt ?_ | refine bf ?_ | refine vb_f (by (first | omega | (simp only [ilt_t, ilt_f, ile_t, ile_f, ieq_t, ieq_f, ofn, List.length_map, Bool.not_eq_true', Bool.not_eq_false'] at *; omega))) ?_ | refine vl ?_ | fail) <;> conv => whnf)
   refine ⟨retB ?_, rfl⟩
   rw [Bool.eq_iff_iff, pb_iff, hcnt']
   exact ⟨fun h => ⟨hall', h⟩, fun h => h.2⟩
theorem listed_eq {l : List Pc} : (l.length ≤ 256 ∧ AltP l ∧ ∀ (i : Nat) (p : Pc), l[i]? = some p → (p.kind = 1 ∨ p.kind = 2) ∧ AloneP p) ↔ ListedP l true := by
 constructor
 · rintro ⟨h1, ⟨h2, h3⟩, h4⟩
   refine ⟨fun i p hp => ?_, h3, h1⟩
   obtain ⟨a, b⟩ := h4 i p hp
   refine ⟨b, ?_, h2 i p hp⟩
   rintro ⟨_, hr⟩
   unfold RepK AutoK at hr
   omega
 · rintro ⟨h1, h2, h3⟩
   refine ⟨h3, ⟨fun i p hp => (h1 i p hp).2.2, h2⟩, fun i p hp => ?_⟩
   obtain ⟨a, b, _⟩ := h1 i p hp
   refine ⟨?_, a⟩
   have : ¬ RepK p.kind := fun h => b ⟨rfl, h⟩
   rcases a with ⟨h, _⟩ | ⟨h, _⟩ | ⟨h, _⟩ | ⟨h, _⟩
   · exact .inl h
   · exact .inr h
   · exact (this (.inl h)).elim
   · exact (this (.inr h)).elim
theorem alt_nil : ¬ AltP [] := fun ⟨_, i, p, h, _⟩ => by simp at h
theorem inner_nil : Pur F0 39 [.d .nilsl] [] .no (.ret (B false)) .no := pur_closed (n := 100) (by kernel_rfl)
theorem rinner_ok (l : List Pc) (v : DV) (hv : SlV 11 (l.map pcRow) v) (hs : SmP l) : Pur F0 39 [.d v] [] .no (.ret (B (pb (ListedP l true)))) .no := by
 obtain ⟨hlen, hall⟩ := hs
 rw [pb_congr listed_eq.symm]
 rcases hv with ⟨rfl, hn⟩ | rfl
 · obtain rfl : l = [] := List.map_eq_nil_iff.1 hn
   rw [pb_f fun h => alt_nil h.2.1]
   exact inner_nil
 have hal := alternate_ok l hlen
 by_cases h256 : 256 < l.length
 · have hA : pb (l.length ≤ 256 ∧ AltP l ∧ ∀ (i : Nat) (p : Pc), l[i]? = some p → (p.kind = 1 ∨ p.kind = 2) ∧ AloneP p) = false := pb_f fun h => by have := h.1; omega
   rw [hA]
   refine pur_code code39_ok ?_
   conv => whnf
   repeat' ((first | refine bt ?_ | refine bf ?_ | refine vb_t (by (first | omega | (simp only [ilt_t, ilt_f, ile_t, ile_f, ieq_t, ieq_f, ofn, List.length_map, Bool.not_eq_true', Bool.not_eq_false'] at *; omega))) ?_ | refine vl ?_ | fail) <;> conv => whnf)
   exact ⟨rfl, rfl⟩
 by_cases hAlt : AltP l
 · rw [pb_t hAlt] at hal
   have hnt : (!true) = false := rfl
   refine pur_code code39_ok ?_
   conv => whnf
   repeat' ((first | refine bt ?_ | refine bf ?_ | refine vb_f (by (first | omega | (simp only [ilt_t, ilt_f, ile_t, ile_f, ieq_t, ieq_f, ofn, List.length_map, Bool.not_eq_true', Bool.not_eq_false'] at *; omega))) ?_ | refine vpur_i hal ?_ | refine vl ?_ | fail) <;> conv => whnf)
   refine vloop_cnt (α := Unit) l.length (fun k _ => ∀ (i : Nat) (p : Pc), i < k → l[i]? = some p → (p.kind = 1 ∨ p.kind = 2) ∧ AloneP p) (fun k _ => [(3, I (k : Int))]) () (fun i p h => by omega) rfl ?_
   intro k _ hk hI
   conv => whnf
   by_cases hlt : k < l.length
   · obtain ⟨p, hp⟩ := get_in hlt
     have hg := iget_map (f := pcRow) hp
     have hl := lt_len (f := pcRow) hlt
     obtain ⟨hpo, hps, hpi⟩ := hall p (List.mem_of_getElem? hp)
     have hpc := piece_ok p hpo hps hpi
     have hit' : (p.kind = 1 ∨ p.kind = 2) ∧ AloneP p → ∀ (i : Nat) (p : Pc), i < k + 1 → l[i]? = some p → (p.kind = 1 ∨ p.kind = 2) ∧ AloneP p := fun h => upto_succ (P := fun i p => (p.kind = 1 ∨ p.kind = 2) ∧ AloneP p) hI hp h
     have hbad : ¬ ((p.kind = 1 ∨ p.kind = 2) ∧ AloneP p) → pb (l.length ≤ 256 ∧ AltP l ∧ ∀ (i : Nat) (p : Pc), l[i]? = some p → (p.kind = 1 ∨ p.kind = 2) ∧ AloneP p) = false := fun h => pb_f fun hL => h (hL.2.2 k p hp)
     clear hp hpo hps hpi
     cases p with
     | mk kd vn names t c vi inner =>
     repeat' ((first | refine bt ?_ | refine bf ?_ | refine vo_i hg ?_ | refine vpur_i hpc ?_ | refine vl ?_ | refine vb_i (fun h => ?_) (fun h => ?_) | fail) <;> conv => whnf)
     all_goals first
      | (refine ⟨retB (Eq.symm (hbad ?_)), rfl⟩; clear hit' hbad hg hpc hal hall; simp_all [Pc.kind, pb_iff, pb_ff, ieq_t, ieq_f, lit1, lit2]; done)
      | (refine ⟨⟨(k + 1, ()), (by omega), ?_⟩, (by simp only; omega), (by repeat' (first | exact rfl | exact slot_eq (I_eq (iadd_one (by omega))) | (refine cons_eq ?_ ?_) | assumption)), rfl, rfl, rfl⟩; refine hit' ?_; clear hit' hbad hg hpc hal hall; simp_all [Pc.kind, pb_iff, pb_ff, ieq_t, ieq_f, lit1, lit2]; done)
   · have hl := nlt_len (f := pcRow) hlt
     rw [pb_t ⟨by omega, hAlt, fun i p h => hI i p (by have := (List.getElem?_eq_some_iff.1 h).1; omega) h⟩]
     repeat' ((first | refine bt ?_ | refine bf ?_ | refine vb_f (by (first | omega | (simp only [ilt_t, ilt_f, ile_t, ile_f, ieq_t, ieq_f, ofn, List.length_map, Bool.not_eq_true', Bool.not_eq_false'] at *; omega))) ?_ | refine vl ?_ | fail) <;> conv => whnf)
     exact ⟨rfl, rfl⟩
 · rw [pb_f hAlt] at hal
   have hA : pb (l.length ≤ 256 ∧ AltP l ∧ ∀ (i : Nat) (p : Pc), l[i]? = some p → (p.kind = 1 ∨ p.kind = 2) ∧ AloneP p) = false := pb_f fun h => hAlt h.2.1
   rw [hA]
   have hnt : (!false) = true := rfl
   refine pur_code code39_ok ?_
   conv => whnf
   repeat' ((first | refine bt ?_ | refine bf ?_ | refine vb_f (by (first | omega | (simp only [ilt_t, ilt_f, ile_t, ile_f, ieq_t, ieq_f, ofn, List.length_map, Bool.not_eq_true', Bool.not_eq_false'] at *; omega))) ?_ | refine vpur_i hal ?_ | refine vl ?_ | fail) <;> conv => whnf)
   exact ⟨rfl, rfl⟩
end Go.Proofs.YtlhajccbfapieaaGreatDoor.Ab
namespace Go.Proofs.YtlhajccbfapieaaGreatDoor.Ab
open Go
set_option linter.unusedSimpArgs false
set_option maxRecDepth 100000
set_option linter.unusedVariables false
set_option maxHeartbeats 4000000
def FixP (p : Pc) : Prop := p.kind = 2 → fixedT p.t = true
def FixDP (p : Pc) : Prop := FixP p ∧ ∀ q ∈ p.inner, FixP q
def AllFixP (l : List Pc) : Prop := ∀ p ∈ l, FixDP p
theorem all_idx {l : List Pc} {P : Pc → Prop} (h : ∀ (i : Nat) (p : Pc), i < l.length → l[i]? = some p → P p) : ∀ p ∈ l, P p := fun p hp => by
 obtain ⟨i, hi⟩ := List.getElem?_of_mem hp
 exact h i p (List.getElem?_eq_some_iff.1 hi).1 hi
theorem rallFixed_ok (l : List Pc) (hs : SmP l) : Pur F0 40 [.d (.sl 11 (l.map pcRow))] [] .no (.ret (B (pb (AllFixP l)))) .no := by
 obtain ⟨hlen, hall⟩ := hs
 refine pur_code code40_ok ?_
 conv => whnf
 repeat' ((first | refine bt ?_ | refine bf ?_ | refine vl ?_ | fail) <;> conv => whnf)
 refine vloop_cnt (α := Unit) l.length (fun k _ => ∀ (i : Nat) (p : Pc), i < k → l[i]? = some p → FixDP p) (fun k _ => [(3, I (k : Int))]) () (fun i p h => by omega) rfl ?_
 intro k _ hk hI
 conv => whnf
 by_cases hlt : k < l.length
 · obtain ⟨p, hp⟩ := get_in hlt
   have hg := iget_map (f := pcRow) hp
   have hl := lt_len (f := pcRow) hlt
   obtain ⟨hpo, hps, hpi⟩ := hall p (List.mem_of_getElem? hp)
   have hnext : FixDP p → ∀ (i : Nat) (p : Pc), i < k + 1 → l[i]? = some p → FixDP p := fun h => upto_succ (P := fun _ p => FixDP p) hI hp h
   have hbad : ¬ FixDP p → pb (AllFixP l) = false := fun h => pb_f fun hL => h (hL p (List.mem_of_getElem? hp))
   clear hp hall hI
   cases hpo with
   | @mk kd vn names t c vi inner hn hi h0 =>
   obtain ⟨ak, an, bk, bn, fit, lk, ln⟩ := t
   have hfx := rfixed_ok ⟨ak, an, bk, bn, fit, lk, ln⟩
   by_cases hF : FixP (.mk kd vn names ⟨ak, an, bk, bn, fit, lk, ln⟩ c vi inner)
   · have hb2 : ∀ q ∈ inner, ¬ FixP q → pb (AllFixP l) = false := fun q hq h => hbad fun h1 => h (h1.2 q hq)
     have hn2 : (∀ q ∈ inner, FixP q) → ∀ (i : Nat) (p : Pc), i < k + 1 → l[i]? = some p → FixDP p := fun h => hnext ⟨hF, h⟩
     clear hbad hnext
     simp only [Pc.inner] at hpi
     cases hkd : ieq kd (Int.ofNat 2) with
     | true =>
      have hft : fixedT ⟨ak, an, bk, bn, fit, lk, ln⟩ = true := hF (by rw [ieq_t] at hkd; exact hkd)
      rw [hft] at hfx
      have hx : (!true) = false := rfl
      rcases hi with ⟨rfl, hi⟩ | rfl
      · have hi0 : inner = [] := List.map_eq_nil_iff.1 hi
        subst hi0
        repeat' ((first | refine bt ?_ | refine bf ?_ | refine vo_i hg ?_ | refine vpur_i hfx ?_ | refine vl ?_ | fail) <;> conv => whnf)
        refine vloop_cnt (α := Unit) 0 (fun _ _ => True) (fun k _ => [(4, I (k : Int))]) () trivial rfl ?_
        intro j _ hj _
        obtain rfl : j = 0 := by omega
        conv => whnf
        have hz : ilt ((0 : Nat) : Int) (0 : Int) = false := by rw [ilt_f]; omega
        repeat' ((first | refine bt ?_ | refine bf ?_ | refine vo_i hg ?_ | refine vb_f (by (first | omega | (simp only [ilt_t, ilt_f, ile_t, ile_f, ieq_t, ieq_f, ofn, List.length_map, Bool.not_eq_true', Bool.not_eq_false'] at *; omega))) ?_ | refine vl ?_ | fail) <;> conv => whnf)
        refine ⟨⟨(k + 1, ()), (by omega), ?_⟩, (by simp only; omega), (by repeat' (first | exact rfl | exact slot_eq (I_eq (iadd_one (by omega))) | (refine cons_eq ?_ ?_) | assumption)), rfl, rfl, rfl⟩
        simp only []
        exact hn2 fun q hq => by cases hq
      · repeat' ((first | refine bt ?_ | refine bf ?_ | refine vo_i hg ?_ | refine vpur_i hfx ?_ | refine vl ?_ | fail) <;> conv => whnf)
        refine vloop_cnt (α := Unit) inner.length (fun j _ => ∀ (i : Nat) (p : Pc), i < j → inner[i]? = some p → FixP p) (fun k _ => [(4, I (k : Int))]) () (fun i p h => by omega) rfl ?_
        intro j _ hj hJ
        conv => whnf
        by_cases hlj : j < inner.length
        · obtain ⟨q, hq⟩ := get_in hlj
          have hgq := iget_map (f := pcRow) hq
          have hlq := lt_len (f := pcRow) hlj
          have hbq := hb2 q (List.mem_of_getElem? hq)
          have hjn : FixP q → ∀ (i : Nat) (p : Pc), i < j + 1 → inner[i]? = some p → FixP p := fun h => upto_succ (P := fun _ p => FixP p) hJ hq h
          clear hq
          cases q with
          | mk kd2 vn2 names2 t2 c2 vi2 inner2 =>
          obtain ⟨ak2, an2, bk2, bn2, fit2, lk2, ln2⟩ := t2
          have hfq := rfixed_ok ⟨ak2, an2, bk2, bn2, fit2, lk2, ln2⟩
          cases hkq : ieq kd2 (Int.ofNat 2) with
          | false =>
           have hFq : FixP (.mk kd2 vn2 names2 ⟨ak2, an2, bk2, bn2, fit2, lk2, ln2⟩ c2 vi2 inner2) := fun h => by rw [ieq_f] at hkq; exact (hkq h).elim
           repeat' ((first | refine bt ?_ | refine bf ?_ | refine vo_i hg ?_ | refine vo_i hgq ?_ | refine vl ?_ | fail) <;> conv => whnf)
           exact ⟨⟨(j + 1, ()), (by omega), hjn hFq⟩, (by simp only; omega), (by repeat' (first | exact rfl | exact slot_eq (I_eq (iadd_one (by omega))) | (refine cons_eq ?_ ?_) | assumption)), rfl, rfl, rfl⟩
          | true =>
           cases hft2 : fixedT ⟨ak2, an2, bk2, bn2, fit2, lk2, ln2⟩ with
           | true =>
            rw [hft2] at hfq
            have hy : (!true) = false := rfl
            repeat' ((first | refine bt ?_ | refine bf ?_ | refine vo_i hg ?_ | refine vo_i hgq ?_ | refine vpur_i hfq ?_ | refine vl ?_ | fail) <;> conv => whnf)
            exact ⟨⟨(j + 1, ()), (by omega), hjn fun _ => hft2⟩, (by simp only; omega), (by repeat' (first | exact rfl | exact slot_eq (I_eq (iadd_one (by omega))) | (refine cons_eq ?_ ?_) | assumption)), rfl, rfl, rfl⟩
           | false =>
            rw [hft2] at hfq
            have hy : (!false) = true := rfl
            rw [hbq fun h => by have := h (by rw [ieq_t] at hkq; exact hkq); simp only [Pc.t] at this; rw [hft2] at this; cases this]
            repeat' ((first | refine bt ?_ | refine bf ?_ | refine vo_i hg ?_ | refine vo_i hgq ?_ | refine vpur_i hfq ?_ | refine vl ?_ | fail) <;> conv => whnf)
            exact ⟨rfl, rfl⟩
        · have hlq := nlt_len (f := pcRow) hlj
          have hall2 : ∀ q ∈ inner, FixP q := all_idx fun i p h h1 => hJ i p (by omega) h1
          repeat' ((first | refine bt ?_ | refine bf ?_ | refine vo_i hg ?_ | refine vb_f (by (first | omega | (simp only [ilt_t, ilt_f, ile_t, ile_f, ieq_t, ieq_f, ofn, List.length_map, Bool.not_eq_true', Bool.not_eq_false'] at *; omega))) ?_ | refine vl ?_ | fail) <;> conv => whnf)
          refine ⟨⟨(k + 1, ()), (by omega), ?_⟩, (by simp only; omega), (by repeat' (first | exact rfl | exact slot_eq (I_eq (iadd_one (by omega))) | (refine cons_eq ?_ ?_) | assumption)), rfl, rfl, rfl⟩
          simp only []
          exact hn2 hall2
     | false =>
      rcases hi with ⟨rfl, hi⟩ | rfl
      · have hi0 : inner = [] := List.map_eq_nil_iff.1 hi
        subst hi0
        repeat' ((first | refine bt ?_ | refine bf ?_ | refine vo_i hg ?_ | refine vl ?_ | fail) <;> conv => whnf)
        refine vloop_cnt (α := Unit) 0 (fun _ _ => True) (fun k _ => [(4, I (k : Int))]) () trivial rfl ?_
        intro j _ hj _
        obtain rfl : j = 0 := by omega
        conv => whnf
        have hz : ilt ((0 : Nat) : Int) (0 : Int) = false := by rw [ilt_f]; omega
        repeat' ((first | refine bt ?_ | refine bf ?_ | refine vo_i hg ?_ | refine vb_f (by (first | omega | (simp only [ilt_t, ilt_f, ile_t, ile_f, ieq_t, ieq_f, ofn, List.length_map, Bool.not_eq_true', Bool.not_eq_false'] at *; omega))) ?_ | refine vl ?_ | fail) <;> conv => whnf)
        refine ⟨⟨(k + 1, ()), (by omega), ?_⟩, (by simp only; omega), (by repeat' (first | exact rfl | exact slot_eq (I_eq (iadd_one (by omega))) | (refine cons_eq ?_ ?_) | assumption)), rfl, rfl, rfl⟩
        simp only []
        exact hn2 fun q hq => by cases hq
      · repeat' ((first | refine bt ?_ | refine bf ?_ | refine vo_i hg ?_ | refine vl ?_ | fail) <;> conv => whnf)
        refine vloop_cnt (α := Unit) inner.length (fun j _ => ∀ (i : Nat) (p : Pc), i < j → inner[i]? = some p → FixP p) (fun k _ => [(4, I (k : Int))]) () (fun i p h => by omega) rfl ?_
        intro j _ hj hJ
        conv => whnf
        by_cases hlj : j < inner.length
        · obtain ⟨q, hq⟩ := get_in hlj
          have hgq := iget_map (f := pcRow) hq
          have hlq := lt_len (f := pcRow) hlj
          have hbq := hb2 q (List.mem_of_getElem? hq)
          have hjn : FixP q → ∀ (i : Nat) (p : Pc), i < j + 1 → inner[i]? = some p → FixP p := fun h => upto_succ (P := fun _ p => FixP p) hJ hq h
          clear hq
          cases q with
          | mk kd2 vn2 names2 t2 c2 vi2 inner2 =>
          obtain ⟨ak2, an2, bk2, bn2, fit2, lk2, ln2⟩ := t2
          have hfq := rfixed_ok ⟨ak2, an2, bk2, bn2, fit2, lk2, ln2⟩
          cases hkq : ieq kd2 (Int.ofNat 2) with
          | false =>
           have hFq : FixP (.mk kd2 vn2 names2 ⟨ak2, an2, bk2, bn2, fit2, lk2, ln2⟩ c2 vi2 inner2) := fun h => by rw [ieq_f] at hkq; exact (hkq h).elim
           repeat' ((first | refine bt ?_ | refine bf ?_ | refine vo_i hg ?_ | refine vo_i hgq ?_ | refine vl ?_ | fail) <;> conv => whnf)
           exact ⟨⟨(j + 1, ()), (by omega), hjn hFq⟩, (by simp only; omega), (by repeat' (first | exact rfl | exact slot_eq (I_eq (iadd_one (by omega))) | (refine cons_eq ?_ ?_) | assumption)), rfl, rfl, rfl⟩
          | true =>
           cases hft2 : fixedT ⟨ak2, an2, bk2, bn2, fit2, lk2, ln2⟩ with
           | true =>
            rw [hft2] at hfq
            have hy : (!true) = false := rfl
            repeat' ((first | refine bt ?_ | refine bf ?_ | refine vo_i hg ?_ | refine vo_i hgq ?_ | refine vpur_i hfq ?_ | refine vl ?_ | fail) <;> conv => whnf)
            exact ⟨⟨(j + 1, ()), (by omega), hjn fun _ => hft2⟩, (by simp only; omega), (by repeat' (first | exact rfl | exact slot_eq (I_eq (iadd_one (by omega))) | (refine cons_eq ?_ ?_) | assumption)), rfl, rfl, rfl⟩
           | false =>
            rw [hft2] at hfq
            have hy : (!false) = true := rfl
            rw [hbq fun h => by have := h (by rw [ieq_t] at hkq; exact hkq); simp only [Pc.t] at this; rw [hft2] at this; cases this]
            repeat' ((first | refine bt ?_ | refine bf ?_ | refine vo_i hg ?_ | refine vo_i hgq ?_ | refine vpur_i hfq ?_ | refine vl ?_ | fail) <;> conv => whnf)
            exact ⟨rfl, rfl⟩
        · have hlq := nlt_len (f := pcRow) hlj
          have hall2 : ∀ q ∈ inner, FixP q := all_idx fun i p h h1 => hJ i p (by omega) h1
          repeat' ((first | refine bt ?_ | refine bf ?_ | refine vo_i hg ?_ | refine vb_f (by (first | omega | (simp only [ilt_t, ilt_f, ile_t, ile_f, ieq_t, ieq_f, ofn, List.length_map, Bool.not_eq_true', Bool.not_eq_false'] at *; omega))) ?_ | refine vl ?_ | fail) <;> conv => whnf)
          refine ⟨⟨(k + 1, ()), (by omega), ?_⟩, (by simp only; omega), (by repeat' (first | exact rfl | exact slot_eq (I_eq (iadd_one (by omega))) | (refine cons_eq ?_ ?_) | assumption)), rfl, rfl, rfl⟩
          simp only []
          exact hn2 hall2
   · have hk2 : kd = 2 ∧ fixedT ⟨ak, an, bk, bn, fit, lk, ln⟩ = false := by
      unfold FixP at hF
      simp only [Pc.kind, Pc.t] at hF
      by_cases e : kd = 2
      · exact ⟨e, by cases hc : fixedT ⟨ak, an, bk, bn, fit, lk, ln⟩ with | false => rfl | true => exact (hF fun _ => hc).elim⟩
      · exact (hF fun h => (e h).elim).elim
     obtain ⟨hk2, hft⟩ := hk2
     rw [hft] at hfx
     rw [hbad fun h => hF h.1]
     have hkd : ieq kd (Int.ofNat 2) = true := by rw [ieq_t]; exact hk2
     have hx : (!false) = true := rfl
     repeat' ((first | refine bt ?_ | refine bf ?_ | refine vo_i hg ?_ | refine vpur_i hfx ?_ | refine vl ?_ | fail) <;> conv => whnf)
     exact ⟨rfl, rfl⟩
 · have hl := nlt_len (f := pcRow) hlt
   have hA : AllFixP l := all_idx fun i p h h1 => hI i p (by omega) h1
   rw [pb_t hA]
   repeat' ((first | refine bt ?_ | refine bf ?_ | refine vb_f (by (first | omega | (simp only [ilt_t, ilt_f, ile_t, ile_f, ieq_t, ieq_f, ofn, List.length_map, Bool.not_eq_true', Bool.not_eq_false'] at *; omega))) ?_ | refine vl ?_ | fail) <;> conv => whnf)
   exact ⟨rfl, rfl⟩
end Go.Proofs.YtlhajccbfapieaaGreatDoor.Ab
namespace Go.Proofs.YtlhajccbfapieaaGreatDoor.Ab
open Go
set_option linter.unusedSimpArgs false
set_option maxRecDepth 100000
set_option linter.unusedVariables false
set_option maxHeartbeats 4000000
instance (k : Int) : Decidable (AutoK k) := inferInstanceAs (Decidable (k = 4 ∨ k = 5))
instance (k : Int) : Decidable (RepK k) := inferInstanceAs (Decidable (k = 3 ∨ AutoK k))
def innN : List Pc → Nat
 | [] => 0
 | p :: l => (if RepK p.kind then p.inner.length else 0) + innN l
def autN : List Pc → Nat
 | [] => 0
 | p :: l => (if AutoK p.kind then 1 else 0) + autN l
theorem innN_append (a b : List Pc) : innN (a ++ b) = innN a + innN b := by
 induction a with
 | nil => simp [innN]
 | cons p a ih => simp only [List.cons_append, innN, ih]; omega
theorem autN_append (a b : List Pc) : autN (a ++ b) = autN a + autN b := by
 induction a with
 | nil => simp [autN]
 | cons p a ih => simp only [List.cons_append, autN, ih]; omega
theorem take_snoc {l : List Pc} {k : Nat} {p : Pc} (hp : l[k]? = some p) : l.take (k + 1) = l.take k ++ [p] := by
 rw [List.take_add_one, hp]; rfl
theorem innN_succ {l : List Pc} {k : Nat} {p : Pc} (hp : l[k]? = some p) : innN (l.take (k + 1)) = innN (l.take k) + (if RepK p.kind then p.inner.length else 0) := by
 rw [take_snoc hp, innN_append]; simp [innN]
theorem autN_succ {l : List Pc} {k : Nat} {p : Pc} (hp : l[k]? = some p) : autN (l.take (k + 1)) = autN (l.take k) + (if AutoK p.kind then 1 else 0) := by
 rw [take_snoc hp, autN_append]; simp [autN]
theorem innN_le (l : List Pc) (k : Nat) : innN (l.take k) ≤ innN l := by
 have := innN_append (l.take k) (l.drop k)
 rw [List.take_append_drop] at this
 omega
theorem autN_pos {l : List Pc} : 0 < autN l ↔ ∃ p ∈ l, AutoK p.kind := by
 induction l with
 | nil => simp [autN]
 | cons p l ih =>
  simp only [autN, List.mem_cons, exists_eq_or_imp, ← ih]
  by_cases h : AutoK p.kind
  · simp [h]; omega
  · simp [h]
def RepOkP (p : Pc) : Prop := RepK p.kind → ListedP p.inner true
def GoodP (l : List Pc) : Prop := l = [] ∨ (ListedP l false ∧ (∀ p ∈ l, RepOkP p) ∧ l.length + innN l ≤ 256 ∧ autN l ≤ 1 ∧ (autN l = 1 → AllFixP l))
def Sm2 (l : List Pc) : Prop := SmP l ∧ ∀ p ∈ l, SmP p.inner
theorem listed_false {l : List Pc} : ListedP l false ↔ l.length ≤ 256 ∧ AltP l ∧ ∀ p ∈ l, AloneP p := by
 constructor
 · rintro ⟨h1, h2, h3⟩
   refine ⟨h3, ⟨fun i p hp => (h1 i p hp).2.2, h2⟩, fun p hp => ?_⟩
   obtain ⟨i, hi⟩ := List.getElem?_of_mem hp
   exact (h1 i p hi).1
 · rintro ⟨h1, ⟨h2, h3⟩, h4⟩
   exact ⟨fun i p hp => ⟨h4 p (List.mem_of_getElem? hp), (fun h => by cases h.1), h2 i p hp⟩, h3, h1⟩
theorem rtgood_nil : Pur F0 15 [.d .nilsl] [] .no (.ret (B true)) .no := pur_closed (n := 100) (by kernel_rfl)
theorem rtgood_nil2 : Pur F0 15 [.d (.sl 11 [])] [] .no (.ret (B true)) .no := pur_closed (n := 100) (by kernel_rfl)
theorem iadd_small {a b : Nat} (ha : a ≤ 2000000000) (hb : b ≤ 2000000000) : iadd .i64 (a : Int) (b : Int) = ((a + b : Nat) : Int) := by rw [iadd64 (by omega) (by omega)]; omega
theorem goodP_iff {l : List Pc} (h0 : l ≠ []) : GoodP l ↔ (l.length ≤ 256 ∧ AltP l) ∧ (∀ p ∈ l, AloneP p ∧ RepOkP p) ∧ l.length + innN l ≤ 256 ∧ autN l ≤ 1 ∧ (autN l = 1 → AllFixP l) := by
 unfold GoodP
 rw [listed_false]
 constructor
 · rintro (h | ⟨⟨h1, h2, h3⟩, h4, h5, h6⟩)
   · exact (h0 h).elim
   · exact ⟨⟨h1, h2⟩, fun p hp => ⟨h3 p hp, h4 p hp⟩, h5, h6⟩
 · rintro ⟨⟨h1, h2⟩, h3, h5, h6⟩
   exact .inr ⟨⟨h1, h2, fun p hp => (h3 p hp).1⟩, fun p hp => (h3 p hp).2, h5, h6⟩
theorem rtgood_ok (l : List Pc) (v : DV) (hv : SlV 11 (l.map pcRow) v) (hs : Sm2 l) : Pur F0 15 [.d v] [] .no (.ret (B (pb (GoodP l)))) .no := by
 obtain ⟨hs, hsi⟩ := hs
 have hs' := hs
 obtain ⟨hlen, hall⟩ := hs
 by_cases h0 : l = []
 · subst h0
   rw [pb_t (p := GoodP []) (.inl rfl)]
   rcases hv with ⟨rfl, _⟩ | rfl
   · exact rtgood_nil
   · exact rtgood_nil2
 rcases hv with ⟨rfl, hn⟩ | rfl
 · exact (h0 (List.map_eq_nil_iff.1 hn)).elim
 have hpos : 0 < l.length := List.length_pos_iff.2 h0
 have q0 : ieq ((l.map pcRow).length : Int) (Int.ofNat 0) = false := by rw [ieq_f, List.length_map, lit0]; omega
 have hal := alternate_ok l hlen
 by_cases h256 : 256 < l.length
 · have hA : pb (GoodP l) = false := pb_f fun h => by have := ((goodP_iff h0).1 h).1.1; omega
   rw [hA]
   refine pur_code code15_ok ?_
   conv => whnf
   repeat' ((first | refine bt ?_ | refine bf ?_ | refine vb_t (by (first | omega | (simp only [ilt_t, ilt_f, ile_t, ile_f, ieq_t, ieq_f, ofn, List.length_map, Bool.not_eq_true', Bool.not_eq_false'] at *; omega))) ?_ | refine vl ?_ | fail) <;> conv => whnf)
   exact ⟨rfl, rfl⟩
 have q1 : ilt (Int.ofNat 256) ((l.map pcRow).length : Int) = false := by rw [ilt_f, List.length_map]; show (_ : Int) ≤ 256; omega
 by_cases hAlt : AltP l
 · rw [pb_t hAlt] at hal
   have hnt : (!true) = false := rfl
   refine pur_code code15_ok ?_
   conv => whnf
   repeat' ((first | refine bt ?_ | refine bf ?_ | refine vpur_i hal ?_ | refine vl ?_ | fail) <;> conv => whnf)
   refine vloop_cnt (α := Nat × Nat) l.length (fun k x => x.1 = l.length + innN (l.take k) ∧ x.1 ≤ 256 ∧ x.2 = autN (l.take k) ∧ x.2 ≤ k ∧ ∀ (i : Nat) (p : Pc), i < k → l[i]? = some p → AloneP p ∧ RepOkP p) (fun k x => [(3, I (x.1 : Int)), (4, I (x.2 : Int)), (5, I (k : Int))]) (l.length, 0) ⟨by simp [innN], by simp only; omega, by simp [autN], Nat.le_refl _, fun i p h => by omega⟩ ?_ ?_
   · simp only [List.length_map]; rfl
   intro k x hk hI
   obtain ⟨n, a⟩ := x
   obtain ⟨hn, hn2, ha, ha2, hI⟩ := hI
   simp only at hn hn2 ha ha2
   conv => whnf
   by_cases hlt : k < l.length
   · obtain ⟨p, hp⟩ := get_in hlt
     have hg := iget_map (f := pcRow) hp
     have hl := lt_len (f := pcRow) hlt
     have hm := List.mem_of_getElem? hp
     obtain ⟨hpo, hps, hpi⟩ := hall p hm
     have hsq := hsi p hm
     have hpc := piece_ok p hpo hps hpi
     have hnext : AloneP p ∧ RepOkP p → ∀ (i : Nat) (p : Pc), i < k + 1 → l[i]? = some p → AloneP p ∧ RepOkP p := fun h => upto_succ (P := fun _ p => AloneP p ∧ RepOkP p) hI hp h
     have hbad : ¬ (AloneP p ∧ RepOkP p) → pb (GoodP l) = false := fun h => pb_f fun hL => h (((goodP_iff h0).1 hL).2.1 p hm)
     have hiN := innN_succ hp
     have haN := autN_succ hp
     have hle := innN_le l (k + 1)
     have hbig : 256 < l.length + innN (l.take (k + 1)) → pb (GoodP l) = false := fun h => pb_f fun hL => by have := ((goodP_iff h0).1 hL).2.2.1; omega
     clear hp hm hI hall hsi hps
     by_cases hAl : AloneP p
     · rw [pb_t hAl] at hpc
       by_cases hR : RepK p.kind
       · have hinn := hpo
         cases hinn with
         | @mk kd vn names t c vi inner hvn hvi h00 =>
         have hin := rinner_ok inner vi hvi hsq
         have hk1 : ieq kd (Int.ofNat 1) = false := by rw [ieq_f, lit1]; intro e; subst e; unfold RepK AutoK at hR; simp only [Pc.kind] at hR; omega
         have hk2 : ieq kd (Int.ofNat 2) = false := by rw [ieq_f, lit2]; intro e; subst e; unfold RepK AutoK at hR; simp only [Pc.kind] at hR; omega
         rw [if_pos hR] at hiN
         simp only [Pc.inner] at hiN hpi
         by_cases hL : ListedP inner true
         · rw [pb_t hL] at hin
           have hgd : AloneP (.mk kd vn names t c vi inner) ∧ RepOkP (.mk kd vn names t c vi inner) := ⟨hAl, fun _ => hL⟩
           by_cases hA : AutoK (Pc.mk kd vn names t c vi inner).kind
           · rw [if_pos hA] at haN
             have hk3 : (!ieq kd (Int.ofNat 3)) = true := by rw [Bool.not_eq_true', ieq_f, lit3]; intro e; subst e; unfold AutoK at hA; simp only [Pc.kind] at hA; omega
             have hx : (!true) = false := rfl
             rcases hvi with ⟨rfl, hvi⟩ | rfl
             · have hi0 : inner = [] := List.map_eq_nil_iff.1 hvi
               subst hi0
               have hadd : iadd .i64 (n : Int) 0 = (n : Int) := by rw [iadd64 (by omega) (by omega)]; omega
               have hlt2 : ilt (Int.ofNat 256) (iadd .i64 (n : Int) 0) = false := by rw [hadd, ilt_f]; show (_ : Int) ≤ 256; omega
               repeat' ((first | refine bt ?_ | refine bf ?_ | refine vo_i hg ?_ | refine vpur_i hpc ?_ | refine vpur_i hin ?_ | refine vl ?_ | fail) <;> conv => whnf)
               refine ⟨⟨(k + 1, (n, (a + 1))), (by omega), ?_⟩, (by simp only; omega), (by repeat' (first | exact rfl | exact slot_eq (I_eq hadd) | exact slot_eq (I_eq (iadd_one (by omega))) | (refine cons_eq ?_ ?_))), rfl, rfl, rfl⟩
               simp only [List.length_nil] at hiN
               simp only []
               exact ⟨by omega, by omega, by omega, by omega, hnext hgd⟩
             · have hadd : iadd .i64 (n : Int) ((inner.map pcRow).length : Int) = ((n + inner.length : Nat) : Int) := by rw [List.length_map]; exact iadd_small (by omega) (by omega)
               by_cases hb : 256 < n + inner.length
               · have hlt2 : ilt (Int.ofNat 256) (iadd .i64 (n : Int) ((inner.map pcRow).length : Int)) = true := by rw [hadd, ilt_t]; show ((256 : Int) < _); omega
                 rw [hbig (by omega)]
                 repeat' ((first | refine bt ?_ | refine bf ?_ | refine vo_i hg ?_ | refine vpur_i hpc ?_ | refine vpur_i hin ?_ | refine vl ?_ | fail) <;> conv => whnf)
                 exact ⟨rfl, rfl⟩
               · have hlt2 : ilt (Int.ofNat 256) (iadd .i64 (n : Int) ((inner.map pcRow).length : Int)) = false := by rw [hadd, ilt_f]; show (_ : Int) ≤ 256; omega
                 repeat' ((first | refine bt ?_ | refine bf ?_ | refine vo_i hg ?_ | refine vpur_i hpc ?_ | refine vpur_i hin ?_ | refine vl ?_ | fail) <;> conv => whnf)
                 refine ⟨⟨(k + 1, (n + inner.length, (a + 1))), (by omega), ?_⟩, (by simp only; omega), (by repeat' (first | exact rfl | exact slot_eq (I_eq hadd) | exact slot_eq (I_eq (iadd_one (by omega))) | (refine cons_eq ?_ ?_))), rfl, rfl, rfl⟩
                 simp only []
                 exact ⟨by omega, by omega, by omega, by omega, hnext hgd⟩
           · rw [if_neg hA] at haN
             have hk3 : (!ieq kd (Int.ofNat 3)) = false := by rw [Bool.not_eq_false', ieq_t, lit3]; exact hR.resolve_right hA
             have hx : (!true) = false := rfl
             rcases hvi with ⟨rfl, hvi⟩ | rfl
             · have hi0 : inner = [] := List.map_eq_nil_iff.1 hvi
               subst hi0
               have hadd : iadd .i64 (n : Int) 0 = (n : Int) := by rw [iadd64 (by omega) (by omega)]; omega
               have hlt2 : ilt (Int.ofNat 256) (iadd .i64 (n : Int) 0) = false := by rw [hadd, ilt_f]; show (_ : Int) ≤ 256; omega
               repeat' ((first | refine bt ?_ | refine bf ?_ | refine vo_i hg ?_ | refine vpur_i hpc ?_ | refine vpur_i hin ?_ | refine vl ?_ | fail) <;> conv => whnf)
               refine ⟨⟨(k + 1, (n, a)), (by omega), ?_⟩, (by simp only; omega), (by repeat' (first | exact rfl | exact slot_eq (I_eq hadd) | exact slot_eq (I_eq (iadd_one (by omega))) | (refine cons_eq ?_ ?_))), rfl, rfl, rfl⟩
               simp only [List.length_nil] at hiN
               simp only []
               exact ⟨by omega, by omega, by omega, by omega, hnext hgd⟩
             · have hadd : iadd .i64 (n : Int) ((inner.map pcRow).length : Int) = ((n + inner.length : Nat) : Int) := by rw [List.length_map]; exact iadd_small (by omega) (by omega)
               by_cases hb : 256 < n + inner.length
               · have hlt2 : ilt (Int.ofNat 256) (iadd .i64 (n : Int) ((inner.map pcRow).length : Int)) = true := by rw [hadd, ilt_t]; show ((256 : Int) < _); omega
                 rw [hbig (by omega)]
                 repeat' ((first | refine bt ?_ | refine bf ?_ | refine vo_i hg ?_ | refine vpur_i hpc ?_ | refine vpur_i hin ?_ | refine vl ?_ | fail) <;> conv => whnf)
                 exact ⟨rfl, rfl⟩
               · have hlt2 : ilt (Int.ofNat 256) (iadd .i64 (n : Int) ((inner.map pcRow).length : Int)) = false := by rw [hadd, ilt_f]; show (_ : Int) ≤ 256; omega
                 repeat' ((first | refine bt ?_ | refine bf ?_ | refine vo_i hg ?_ | refine vpur_i hpc ?_ | refine vpur_i hin ?_ | refine vl ?_ | fail) <;> conv => whnf)
                 refine ⟨⟨(k + 1, (n + inner.length, a)), (by omega), ?_⟩, (by simp only; omega), (by repeat' (first | exact rfl | exact slot_eq (I_eq hadd) | exact slot_eq (I_eq (iadd_one (by omega))) | (refine cons_eq ?_ ?_))), rfl, rfl, rfl⟩
                 simp only []
                 exact ⟨by omega, by omega, by omega, by omega, hnext hgd⟩
         · rw [pb_f hL] at hin
           have hz : (!false) = true := rfl
           rw [hbad fun h => hL (h.2 hR)]
           cases hk3 : (!ieq kd (Int.ofNat 3)) with
           | true =>
            repeat' ((first | refine bt ?_ | refine bf ?_ | refine vo_i hg ?_ | refine vpur_i hpc ?_ | refine vpur_i hin ?_ | refine vl ?_ | fail) <;> conv => whnf)
            exact ⟨rfl, rfl⟩
           | false =>
            repeat' ((first | refine bt ?_ | refine bf ?_ | refine vo_i hg ?_ | refine vpur_i hpc ?_ | refine vpur_i hin ?_ | refine vl ?_ | fail) <;> conv => whnf)
            exact ⟨rfl, rfl⟩
       · have hA : ¬ AutoK p.kind := fun h => hR (.inr h)
         rw [if_neg hR] at hiN
         rw [if_neg hA] at haN
         have hgd : AloneP p ∧ RepOkP p := ⟨hAl, fun h => (hR h).elim⟩
         have hk : p.kind = 1 ∨ p.kind = 2 := by
          unfold RepK AutoK at hR
          unfold AloneP AutoK at hAl
          omega
         cases p with
         | mk kd vn names t c vi inner =>
         simp only [Pc.kind] at hk
         rcases hk with rfl | rfl
         · have hk1 : ieq 1 (Int.ofNat 1) = true := by rw [ieq_t]; rfl
           repeat' ((first | refine bt ?_ | refine bf ?_ | refine vo_i hg ?_ | refine vpur_i hpc ?_ | refine vl ?_ | fail) <;> conv => whnf)
           refine ⟨⟨(k + 1, (n, a)), (by omega), ?_⟩, (by simp only; omega), (by repeat' (first | exact rfl | exact slot_eq (I_eq (iadd_one (by omega))) | (refine cons_eq ?_ ?_) | assumption)), rfl, rfl, rfl⟩
           simp only []
           exact ⟨by omega, by omega, by omega, by omega, hnext hgd⟩
         · have hk1 : ieq 2 (Int.ofNat 1) = false := by rw [ieq_f]; decide
           have hk2 : ieq 2 (Int.ofNat 2) = true := by rw [ieq_t]; rfl
           repeat' ((first | refine bt ?_ | refine bf ?_ | refine vo_i hg ?_ | refine vpur_i hpc ?_ | refine vl ?_ | fail) <;> conv => whnf)
           refine ⟨⟨(k + 1, (n, a)), (by omega), ?_⟩, (by simp only; omega), (by repeat' (first | exact rfl | exact slot_eq (I_eq (iadd_one (by omega))) | (refine cons_eq ?_ ?_) | assumption)), rfl, rfl, rfl⟩
           simp only []
           exact ⟨by omega, by omega, by omega, by omega, hnext hgd⟩
     · rw [pb_f hAl] at hpc
       have hz : (!false) = true := rfl
       rw [hbad fun h => hAl h.1]
       cases p with
       | mk kd vn names t c vi inner =>
       repeat' ((first | refine bt ?_ | refine bf ?_ | refine vo_i hg ?_ | refine vpur_i hpc ?_ | refine vl ?_ | fail) <;> conv => whnf)
       exact ⟨rfl, rfl⟩
   · have hl := nlt_len (f := pcRow) hlt
     have hkl : k = l.length := by omega
     subst hkl
     rw [List.take_length] at hn ha
     have hA : ∀ p ∈ l, AloneP p ∧ RepOkP p := all_idx fun i p h h1 => hI i p h h1
     have hG : GoodP l ↔ autN l ≤ 1 ∧ (autN l = 1 → AllFixP l) := by
      rw [goodP_iff h0]
      exact ⟨fun h => h.2.2.2, fun h => ⟨⟨by omega, hAlt⟩, hA, by omega, h⟩⟩
     rw [pb_congr hG]
     rcases Nat.lt_trichotomy a 1 with h1 | h1 | h1
     · have e0 : ieq (a : Int) (Int.ofNat 0) = true := by rw [ieq_t, lit0]; omega
       rw [pb_t ⟨by omega, fun h => by omega⟩]
       repeat' ((first | refine bt ?_ | refine bf ?_ | refine vb_f (by (first | omega | (simp only [ilt_t, ilt_f, ile_t, ile_f, ieq_t, ieq_f, ofn, List.length_map, Bool.not_eq_true', Bool.not_eq_false'] at *; omega))) ?_ | refine vl ?_ | fail) <;> conv => whnf)
       exact ⟨rfl, rfl⟩
     · have e0 : ieq (a : Int) (Int.ofNat 0) = false := by rw [ieq_f, lit0]; omega
       have e1 : ieq (a : Int) (Int.ofNat 1) = true := by rw [ieq_t, lit1]; omega
       have hf := rallFixed_ok l hs'
       have hpp : (autN l ≤ 1 ∧ (autN l = 1 → AllFixP l)) ↔ AllFixP l := ⟨fun h => h.2 (by omega), fun h => ⟨by omega, fun _ => h⟩⟩
       rw [pb_congr hpp]
       repeat' ((first | refine bt ?_ | refine bf ?_ | refine vb_f (by (first | omega | (simp only [ilt_t, ilt_f, ile_t, ile_f, ieq_t, ieq_f, ofn, List.length_map, Bool.not_eq_true', Bool.not_eq_false'] at *; omega))) ?_ | refine vpur_i hf ?_ | refine vl ?_ | fail) <;> conv => whnf)
       exact ⟨rfl, rfl⟩
     · have e0 : ieq (a : Int) (Int.ofNat 0) = false := by rw [ieq_f, lit0]; omega
       have e1 : ieq (a : Int) (Int.ofNat 1) = false := by rw [ieq_f, lit1]; omega
       rw [pb_f fun h => by have := h.1; omega]
       repeat' ((first | refine bt ?_ | refine bf ?_ | refine vb_f (by (first | omega | (simp only [ilt_t, ilt_f, ile_t, ile_f, ieq_t, ieq_f, ofn, List.length_map, Bool.not_eq_true', Bool.not_eq_false'] at *; omega))) ?_ | refine vl ?_ | fail) <;> conv => whnf)
       exact ⟨rfl, rfl⟩
 · rw [pb_f hAlt] at hal
   rw [pb_f fun h => hAlt ((goodP_iff h0).1 h).1.2]
   have hnt : (!false) = true := rfl
   refine pur_code code15_ok ?_
   conv => whnf
   repeat' ((first | refine bt ?_ | refine bf ?_ | refine vpur_i hal ?_ | refine vl ?_ | fail) <;> conv => whnf)
   exact ⟨rfl, rfl⟩
end Go.Proofs.YtlhajccbfapieaaGreatDoor.Ab
