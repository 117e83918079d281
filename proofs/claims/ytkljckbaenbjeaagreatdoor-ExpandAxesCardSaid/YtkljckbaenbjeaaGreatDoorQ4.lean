/- Some texts as one, one behind the other; what is not leaned on is left out. -/
import Derived.Test.YtkljckbaenbjeaaGreatDoorQ3
import Derived.Test.YtkljckbaenbjeaaGreatDoorC00q
import Derived.Test.YtkljckbaenbjeaaGreatDoorQ1
import Derived.Lib.IndexLaws
set_option linter.unusedSimpArgs false
set_option linter.unusedVariables false
namespace Go.Proofs.YtkljckbaenbjeaaGreatDoor.Ab
open Go
set_option linter.unusedSimpArgs false
set_option maxRecDepth 100000
set_option linter.unusedVariables false
set_option maxHeartbeats 4000000
end Go.Proofs.YtkljckbaenbjeaaGreatDoor.Ab
namespace Go.Proofs.YtkljckbaenbjeaaGreatDoor.Ab
open Go
set_option linter.unusedSimpArgs false
set_option maxRecDepth 100000
set_option linter.unusedVariables false
set_option maxHeartbeats 4000000
theorem B_eqq {a b : Bool} (h : a = b) : B a = B b := by rw [h]
end Go.Proofs.YtkljckbaenbjeaaGreatDoor.Ab
namespace Go.Proofs.YtkljckbaenbjeaaGreatDoor.Ab
open Go
set_option linter.unusedSimpArgs false
set_option maxRecDepth 100000
set_option linter.unusedVariables false
set_option maxHeartbeats 4000000
end Go.Proofs.YtkljckbaenbjeaaGreatDoor.Ab
namespace Go.Proofs.YtkljckbaenbjeaaGreatDoor.Ab
open Go
set_option linter.unusedSimpArgs false
set_option maxRecDepth 100000
set_option linter.unusedVariables false
set_option maxHeartbeats 4000000
end Go.Proofs.YtkljckbaenbjeaaGreatDoor.Ab
namespace Go.Proofs.YtkljckbaenbjeaaGreatDoor.Ab
open Go
set_option linter.unusedSimpArgs false
set_option maxRecDepth 100000
set_option linter.unusedVariables false
set_option maxHeartbeats 4000000
end Go.Proofs.YtkljckbaenbjeaaGreatDoor.Ab
namespace Go.Proofs.YtkljckbaenbjeaaGreatDoor.Ab
open Go
set_option linter.unusedSimpArgs false
set_option maxRecDepth 100000
set_option linter.unusedVariables false
set_option maxHeartbeats 4000000
def nameB (s : List UInt8) : Bool := decide (s ≠ []) && decide (s.length ≤ 64) && decide (0 ∉ s)
theorem index0 (s : List UInt8) : Lib.indexByte s 0 < 0 ↔ 0 ∉ s := by
 induction s with
 | nil => simp [Lib.indexByte]
 | cons b l ih =>
  have h := Lib.indexByte_ge l 0
  unfold Lib.indexByte
  by_cases hb : b = 0
  · subst hb; simp
  · have hb' : (b == 0) = false := by simpa using hb
    rw [if_neg (by rw [hb']; decide)]
    by_cases hl : Lib.indexByte l 0 = -1
    · have hl' : (Lib.indexByte l 0 == -1) = true := by simpa using hl
      rw [if_pos hl']
      have : 0 ∉ l := ih.1 (by omega)
      simp [this, Ne.symm hb]
    · have hl' : (Lib.indexByte l 0 == -1) = false := by simpa using hl
      rw [if_neg (by rw [hl']; decide)]
      have : ¬ (0 ∉ l) := fun h' => hl (by have := ih.2 h'; omega)
      constructor
      · intro h'; omega
      · intro h'; exact (this fun hm => h' (List.mem_cons_of_mem _ hm)).elim
theorem indexByteS_ok (s : List UInt8) (c : UInt8) : Pur F0 83 [S s, .d (.int .u8 c.toNat)] [] .no (.ret (I (Lib.indexByte s c))) .no := by
 refine pur_code (cf := cfn Tryz.f83) (by kernel_rfl) ?_
 conv => arg 3; reduce
 conv => whnf
 repeat' ((first | refine bt ?_ | refine bf ?_ | refine vpur_i (indexByte_ok s c) ?_ | refine vl ?_ | fail) <;> conv => whnf)
 exact ⟨rfl, rfl⟩
theorem name_ok (s : List UInt8) : Pur F0 135 [S s] [] .no (.ret (B (nameB s))) .no := by
 have h0 := index0 s
 have hi : Pur F0 83 [S s, .d (.int .u8 (Int.ofNat 0))] [] .no (.ret (I (Lib.indexByte s 0))) .no := indexByteS_ok s 0
 refine pur_code code135_ok ?_
 conv => whnf
 repeat' ((first | refine bt ?_ | refine bf ?_ | refine vpur_i hi ?_ | refine vl ?_ | refine vb_i (fun h => ?_) (fun h => ?_) | fail) <;> conv => whnf)
 all_goals (refine ⟨retB ?_, rfl⟩; simp_all [nameB, seq_t, seq_f, ile_t, ile_f, ilt_d, lit0])
 all_goals omega
def customW : List (List UInt8) := [[115, 112, 97, 110], [97, 117, 116, 111], [105, 110, 105, 116, 105, 97, 108], [105, 110, 104, 101, 114, 105, 116], [117, 110, 115, 101, 116], [100, 101, 102, 97, 117, 108, 116], [114, 101, 118, 101, 114, 116]]
def customB (s : List UInt8) : Bool := !anyW s customW && nameB s
theorem custom_ok (s : List UInt8) (hs : s.length ≤ 1000000) : Pur F0 117 [S s] [] .no (.ret (B (customB s))) .no := by
 have e1 : anyW s customW = customW.any fun w => decide (lower s = w) := anyW_id _ (by decide)
 refine pur_code code117_ok ?_
 conv => whnf
 repeat' ((first | refine bt ?_ | refine bf ?_ | refine vpur_i (lower_ok s (by omega)) ?_ | refine vpur_i (name_ok s) ?_ | refine vl ?_ | refine vb_i (fun h => ?_) (fun h => ?_) | fail) <;> conv => whnf)
 all_goals refine ⟨retB ?_, rfl⟩
 all_goals simp only [seq_t, seq_f] at *
 all_goals (unfold customB; rw [e1]; clear e1)
 all_goals generalize lower s = u at *
 all_goals simp_all [customW]
theorem rnought4_ok (s : List UInt8) (hs : s.length ≤ 1000000) : Pur F0 157 [S s] [] .no (.ret (B (decide (0 ∈ s)))) .no := by
 refine pur_code code157_ok ?_
 conv => whnf
 refine vloop_by (σ := { k : Nat // k ≤ s.length ∧ 0 ∉ s.take k }) (fun k => [(0, S s), (2, B false), (3, I (k.1 : Int))]) (fun _ => []) (fun k => s.length - k.1) ?_ ⟨0, Nat.zero_le _, by simp⟩
 rintro ⟨k, hk, hno⟩
 conv => whnf
 by_cases hlt : k < s.length
 · obtain ⟨c, hc⟩ : ∃ c, s[k]? = some c := ⟨s[k], List.getElem?_eq_getElem hlt⟩
   have q : ilt (k : Int) (s.length : Int) = true := by rw [ilt_t]; omega
   have hg : iget s (k : Int) = some c := iget_t hc
   by_cases h0 : c = 0
   · have q2 : ieq (c.toNat : Int) (Int.ofNat 0) = true := by rw [ieq_t, h0]; rfl
     have hm : 0 ∈ s := by rw [← h0]; exact List.mem_of_getElem? hc
     rw [decide_eq_true hm]
     repeat' ((first | refine bt ?_ | refine bf ?_ | refine vo_i hg ?_ | refine vl ?_ | fail) <;> conv => whnf)
     exact ⟨rfl, rfl⟩
   · have q2 : ieq (c.toNat : Int) (Int.ofNat 0) = false := by
      rw [ieq_f]; intro e; exact h0 (UInt8.toNat_inj.1 (Int.ofNat.inj e))
     repeat' ((first | refine bt ?_ | refine bf ?_ | refine vo_i hg ?_ | refine vl ?_ | fail) <;> conv => whnf)
     refine ⟨⟨k + 1, by omega, ?_⟩, by simp only; omega, cons_eq rfl (cons_eq rfl (cons_eq (slot_eq (I_eq (iadd_one (i := k) (by omega)))) rfl)), rfl, rfl, rfl⟩
     rw [List.take_add_one, hc]
     simp [hno, Ne.symm h0]
 · have q : ilt (k : Int) (s.length : Int) = false := by rw [ilt_f]; omega
   have hke : k = s.length := by omega
   subst hke
   rw [List.take_length] at hno
   rw [decide_eq_false hno]
   repeat' ((first | refine bt ?_ | refine bf ?_ | refine vl ?_ | fail) <;> conv => whnf)
   exact ⟨rfl, rfl⟩
theorem rname_ok (s : List UInt8) (hs : s.length ≤ 1000000) : Pur F0 145 [S s] [] .no (.ret (B (nameB s))) .no := by
 have hn := rnought4_ok s hs
 refine pur_code code145_ok ?_
 conv => whnf
 repeat' ((first | refine bt ?_ | refine bf ?_ | refine vpur_i hn ?_ | refine vl ?_ | refine vb_i (fun h => ?_) (fun h => ?_) | fail) <;> conv => whnf)
 all_goals (refine ⟨retB ?_, rfl⟩; simp_all [nameB, seq_t, seq_f, ile_t, ile_f])
 all_goals omega
theorem rcustom_ok (s : List UInt8) (hs : s.length ≤ 1000000) : Pur F0 123 [S s] [] .no (.ret (B (customB s))) .no := by
 have hn := rname_ok s hs
 refine pur_code code123_ok ?_
 conv => whnf
 repeat' ((first | refine bt ?_ | refine bf ?_ | refine vl ?_ | fail) <;> conv => whnf)
 refine vloop_eq2 (fr' := [(0, S s), (2, B false), (3, .osl 0 0 0 7), (4, I 0)]) (h' := [⟨.mine, 9, .arr false 0 1 (customW.map wsRow)⟩]) rfl rfl ?_
 refine vloop_cnt (α := Unit) 7 (fun k _ => anyW s (customW.take k) = false) (fun k _ => [(4, I (k : Int))]) () rfl rfl ?_
 intro k _ hk hI
 conv => whnf
 by_cases hlt : k < 7
 · obtain ⟨w, hw⟩ : ∃ w, customW[k]? = some w := get_in (by simpa [customW] using hlt)
   have hm := get_map (f := wsRow) hw
   have hg : iget (((customW.map wsRow).take 7).drop 0) (k : Int) = some (wsRow w) := iget_sl (by rw [Nat.zero_add]; exact hm) (by omega)
   have hm2 : (customW.map wsRow)[0 + (k : Int).toNat]? = some (wsRow w) := by rw [Nat.zero_add, Int.toNat_natCast]; exact hm
   have hwl : w.length ≤ 1000000 := by
    have : ∀ w ∈ customW, w.length ≤ 10 := by decide
    have := this w (List.mem_of_getElem? hw)
    omega
   by_cases hq : lower s = lower w
   · have q2 : seq (lower s) (lower w) = true := by rw [seq_t]; exact hq
     have hA : customB s = false := by
      have : anyW s customW = true := by unfold anyW; rw [List.any_eq_true]; exact ⟨w, List.mem_of_getElem? hw, by simpa using hq⟩
      unfold customB; rw [this]; rfl
     rw [hA]
     repeat' ((first | refine bt ?_ | refine bf ?_ | refine vb_t (by (first | omega | (simp only [ilt_t, ilt_f, ile_t, ile_f, ieq_t, ieq_f, ofn, List.length_map, Bool.not_eq_true', Bool.not_eq_false'] at *; omega))) ?_ | refine vo_i hg ?_ | refine vo_i hm2 ?_ | refine vpur_i (ris_ok s w hs hwl) ?_ | refine vl ?_ | fail) <;> conv => whnf)
     exact ⟨rfl, rfl⟩
   · have q2 : seq (lower s) (lower w) = false := by rw [seq_f]; exact hq
     repeat' ((first | refine bt ?_ | refine bf ?_ | refine vb_t (by (first | omega | (simp only [ilt_t, ilt_f, ile_t, ile_f, ieq_t, ieq_f, ofn, List.length_map, Bool.not_eq_true', Bool.not_eq_false'] at *; omega))) ?_ | refine vo_i hg ?_ | refine vo_i hm2 ?_ | refine vpur_i (ris_ok s w hs hwl) ?_ | refine vl ?_ | fail) <;> conv => whnf)
     refine ⟨⟨(k + 1, ()), (by omega), ?_⟩, (by simp only; omega), (by repeat' (first | exact rfl | exact slot_eq (I_eq (iadd_one (by omega))) | (refine cons_eq ?_ ?_) | assumption)), rfl, rfl, rfl⟩
     simp only []
     unfold anyW at hI ⊢
     rw [List.take_add_one, hw, List.any_append, hI]
     simpa using hq
 · have hA : customB s = nameB s := by
    rw [List.take_of_length_le (by simp [customW]; omega)] at hI
    unfold customB; rw [hI]; rfl
   rw [hA]
   repeat' ((first | refine bt ?_ | refine bf ?_ | refine vb_f (by (first | omega | (simp only [ilt_t, ilt_f, ile_t, ile_f, ieq_t, ieq_f, ofn, List.length_map, Bool.not_eq_true', Bool.not_eq_false'] at *; omega))) ?_ | refine vpur_i hn ?_ | refine vl ?_ | fail) <;> conv => whnf)
   exact ⟨rfl, rfl⟩
end Go.Proofs.YtkljckbaenbjeaaGreatDoor.Ab
namespace Go.Proofs.YtkljckbaenbjeaaGreatDoor.Ab
open Go
set_option linter.unusedSimpArgs false
set_option maxRecDepth 100000
set_option linter.unusedVariables false
set_option maxHeartbeats 4000000
def nmW (ns : List (List UInt8)) : DV := match ns with
 | [] => .nilsl
 | ns => .sl 1 (ns.map wsRow)
end Go.Proofs.YtkljckbaenbjeaaGreatDoor.Ab
namespace Go.Proofs.YtkljckbaenbjeaaGreatDoor.Ab
open Go
set_option linter.unusedSimpArgs false
set_option maxRecDepth 100000
set_option linter.unusedVariables false
set_option maxHeartbeats 4000000
theorem gr_key {m n : Nat} (h : m = n) : (⟨.ret (.osl 0 0 0 0), [⟨.mine, 9, .arr false 0 1 (List.replicate m [.str []])⟩], .no⟩ : CRes) = ⟨.ret (.osl 0 0 0 0), [⟨.mine, 9, .arr false 0 1 (List.replicate n [.str []])⟩], .no⟩ := by rw [h]
theorem cut0 (m : Nat) : (ile 0 ((0, 0) : Int × Int).fst && ile ((0, 0) : Int × Int).fst ((0, 0) : Int × Int).snd && ile ((0, 0) : Int × Int).snd ((m : Int) - ((0 : Nat) : Int)) && (ieq ((0, 0) : Int × Int).fst 0 || ilt ((0, 0) : Int × Int).fst ((m : Int) - ((0 : Nat) : Int)))) = true := by
 have h1 : ile 0 0 = true := by rw [ile_t]; decide
 have h2 : ile 0 ((m : Int) - ((0 : Nat) : Int)) = true := by rw [ile_t]; omega
 have h3 : ieq 0 0 = true := by rw [ieq_t]
 simp only [h1, h2, h3, Bool.and_self, Bool.true_or]
theorem grow_ok (n : Nat) (h0 : 0 < n) (h : n ≤ 1000000000000) : CallsTo F0 34 [.d .nilsl, I (n : Int)] [] .no ⟨.ret (.osl 0 0 0 0), [⟨.mine, 9, .arr false 0 1 (List.replicate n [.str []])⟩], .no⟩ := by
 have q1 : ilt (n : Int) (Int.ofNat 0) = false := by rw [ilt_f, lit0]; omega
 have e1 : isub .i64 (0 : Int) (0 : Int) = 0 := by rw [isub64 (by decide) (by decide)]; rfl
 have e2 : isub .i64 (n : Int) (isub .i64 (0 : Int) (0 : Int)) = n := by rw [e1, isub64 (by omega) (by omega)]; omega
 have q2 : ilt (Int.ofNat 0) (isub .i64 (n : Int) (isub .i64 (0 : Int) (0 : Int))) = true := by rw [e2, ilt_t, lit0]; omega
 have q3 : (ieq (0, 0).fst 0 && ieq (0, 0).snd 0) = true := by rw [Bool.and_eq_true]; exact ⟨by rw [ieq_t], by rw [ieq_t]⟩
 refine calls_code code34_ok ?_
 conv => whnf
 repeat' ((first | refine bt ?_ | refine bf ?_ | refine vb_t (room_t (by rw [e2]; omega)) ?_ | refine vb_t (cut0 _) ?_ | refine vl ?_ | fail) <;> conv => whnf)
 have e3 : (isub .i64 (n : Int) (isub .i64 (0 : Int) (0 : Int))).toNat = n := by rw [e2]; omega
 exact gr_key e3
def smN (la lb : Nat) : Nat → Int
 | 0 => Int.ofNat 0
 | 1 => (la : Int)
 | _ => ((la + lb : Nat) : Int)
theorem ltA : ilt (Int.ofNat 0) (Int.ofNat 2) = true := by rw [ilt_t]; decide
theorem ltB : ilt (Int.ofNat 1) (Int.ofNat 2) = true := by rw [ilt_t]; decide
theorem ltC : ilt (Int.ofNat 2) (Int.ofNat 2) = false := by rw [ilt_f]; decide
theorem ieqN (n : Nat) : ieq (n : Int) (n : Int) = true := by rw [ieq_t]
theorem vor_rq {α : Type} {A : Prop} {o : Option α} {k : α → Prop} {p : α} (h : o = some p) (hk : k p) : vor A (vq o k) := ⟨.inr (by unfold vq; rw [h]; exact hk)⟩
def ccG : Nat → Nat
 | 0 => 0
 | 1 => 2
 | _ => 3
theorem cc_trunc {n : Nat} (h : 0 < n) : truncA [⟨.mine, 9, .arr false 0 1 (List.replicate n [.str []])⟩] (.osl 0 0 0 0) = some (.osl 0 1 0 0, [⟨.mine, 9, .arr false 1 1 []⟩]) := by
 have : Nat.blt 0 (List.replicate n [DV.str []]).length = true := by rw [List.length_replicate, Nat.blt_eq]; exact h
 unfold truncA
 simp only [List.getElem?_cons_zero, this]
 rfl
def ccN (la lb : Nat) : Nat → Nat
 | 0 => 0
 | 1 => la
 | _ => la + lb
def ccR (n : Nat) (a b : List (List UInt8)) : Nat → List (List DV)
 | 0 => List.replicate n [.str []]
 | 1 => a.map wsRow
 | _ => a.map wsRow ++ b.map wsRow
theorem ccR1 {n : Nat} {a b : List (List UInt8)} : ccR n a b 1 = a.map wsRow := rfl
theorem ccR2 {n : Nat} {a b : List (List UInt8)} : ccR n a b 2 = a.map wsRow ++ b.map wsRow := rfl
theorem ccN1 {a b : Nat} : ccN a b 1 = a := rfl
theorem ccN2 {a b : Nat} : ccN a b 2 = a + b := rfl
theorem concat_ok (a b : List (List UInt8)) (hb : b ≠ []) (ha : a.length ≤ 100000000000) (hbl : b.length ≤ 1000) : Pur F0 14 [.d (.sl 1 [[nmW a], [.sl 1 (b.map wsRow)]])] [] .no (.ret (.d (nmW (a ++ b)))) .no := by
 have hb1 : 0 < b.length := List.length_pos_iff.2 hb
 rcases a with _ | ⟨x, a⟩
 · have hg := grow_ok (0 + b.length) (by omega) (by omega)
   refine pur_code code14_ok ?_
   conv => whnf
   repeat' ((first | refine bt ?_ | refine bf ?_ | refine vl ?_ | fail) <;> conv => whnf)
   refine vloop_cnt (α := Unit) 2 (fun _ _ => True) (fun k _ => [(3, I (smN 0 b.length k)), (11, I (k : Int))]) () trivial rfl ?_
   have q1 : iadd .i64 (Int.ofNat 0) (0 : Int) = ((0 : Nat) : Int) := (by rw [iadd64 (by decide) (by decide)]; rfl)
   have q2 : ilt (iadd .i64 (Int.ofNat 0) (0 : Int)) (Int.ofNat 0) = false := by rw [q1, ilt_f]; show (0 : Int) ≤ _; omega
   have q3 : iadd .i64 ((0 : Nat) : Int) ((b.map wsRow).length : Int) = ((0 + b.length : Nat) : Int) := by rw [List.length_map, iadd64 (by omega) (by omega)]; omega
   have q4 : ilt (iadd .i64 ((0 : Nat) : Int) ((b.map wsRow).length : Int)) (Int.ofNat 0) = false := by rw [q3, ilt_f]; show (0 : Int) ≤ _; omega
   have n1 : iadd .i64 ((0 : Nat) : Int) (Int.ofNat 1) = ((1 : Nat) : Int) := by rw [iadd64 (by decide) (by decide)]; rfl
   have n2 : iadd .i64 ((1 : Nat) : Int) (Int.ofNat 1) = ((2 : Nat) : Int) := by rw [iadd64 (by decide) (by decide)]; rfl
   have g1 : iget [[DV.nilsl], [DV.sl 1 (b.map wsRow)]] ((0 : Nat) : Int) = some [DV.nilsl] := iget_t rfl
   have g2 : iget [[DV.nilsl], [DV.sl 1 (b.map wsRow)]] ((1 : Nat) : Int) = some [DV.sl 1 (b.map wsRow)] := iget_t rfl
   intro k _ hk _
   obtain rfl | rfl | rfl : k = 0 ∨ k = 1 ∨ k = 2 := by omega
   · conv => whnf
     repeat' ((first | refine bt ?_ | refine bf ?_ | refine vb_t ltA ?_ | refine vo_i g1 ?_ | refine vl ?_ | fail) <;> conv => whnf)
     exact ⟨⟨(1, ()), by omega, trivial⟩, by simp only; omega, (by repeat' (first | exact rfl | exact slot_eq (I_eq q1) | exact slot_eq (I_eq n1) | refine cons_eq ?_ ?_)), rfl, rfl, rfl⟩
   · conv => whnf
     repeat' ((first | refine bt ?_ | refine bf ?_ | refine vb_t ltB ?_ | refine vo_i g2 ?_ | refine vl ?_ | fail) <;> conv => whnf)
     exact ⟨⟨(2, ()), by omega, trivial⟩, by simp only; omega, (by repeat' (first | exact rfl | exact slot_eq (I_eq q3) | exact slot_eq (I_eq n2) | refine cons_eq ?_ ?_)), rfl, rfl, rfl⟩
   · conv => whnf
     repeat' ((first | refine bt ?_ | refine bf ?_ | refine vb_f ltC ?_ | refine vcall_i hg ?_ | refine vl ?_ | fail) <;> conv => whnf)
     refine vloop_cnh (α := Unit) 2 (fun _ _ => True) (fun k _ => [(6, .osl 0 (ccG k) 0 (ccN 0 b.length k)), (27, I (k : Int))]) (fun k _ => [⟨.mine, 9, .arr false (ccG k) 1 (ccR (0 + b.length) [] b k)⟩]) () trivial rfl rfl ?_
     intro k _ hk _
     obtain rfl | rfl | rfl : k = 0 ∨ k = 1 ∨ k = 2 := by omega
     · conv => whnf
       repeat' ((first | refine bt ?_ | refine bf ?_ | refine vb_t ltA ?_ | refine vo_i g1 ?_ | refine vor_rq (cc_trunc (n := 0 + b.length) (by omega)) ?_ | refine vb_t (ieqN 0) ?_ | refine vb_t (room_t (by simp only [List.length_map, List.length_nil, List.length_cons, List.drop_zero] at * <;> omega)) ?_ | refine vl ?_ | fail) <;> conv => whnf)
       exact ⟨⟨(1, ()), by omega, trivial⟩, by simp only; omega, (by repeat' (first | exact rfl | exact slot_eq (osl_eq rfl (by simp [ccN1, ccN2, ccR1])) | exact slot_eq (I_eq n1) | refine cons_eq ?_ ?_)), cons_eq (arr_eq2 rfl (by simp [ccR1, ccR2])) rfl, rfl, rfl⟩
     · have w1 : ieq ((0 : Nat) : Int) ((List.map wsRow []).length : Int) = true := by rw [ieq_t, List.length_map] <;> rfl
       conv => whnf
       repeat' ((first | refine bt ?_ | refine bf ?_ | refine vb_t ltB ?_ | refine vo_i g2 ?_ | refine vb_t (room_t (by rw [ccR1]; simp only [List.length_map, List.length_nil, List.length_cons] at * <;> omega)) ?_ | refine vl ?_ | fail) <;> conv => whnf)
       exact ⟨⟨(2, ()), by omega, trivial⟩, by simp only; omega, (by repeat' (first | exact rfl | exact slot_eq (osl_eq rfl (by simp [ccN1, ccN2, ccR1])) | exact slot_eq (I_eq n2) | refine cons_eq ?_ ?_)), cons_eq (arr_eq2 rfl (by simp [ccR1, ccR2])) rfl, rfl, rfl⟩
     · conv => whnf
       repeat' ((first | refine bt ?_ | refine bf ?_ | refine vb_f ltC ?_ | refine vl ?_ | fail) <;> conv => whnf)
       refine ⟨?_, rfl⟩
       show CR.ret (AV.d (DV.sl 1 (List.drop 0 (List.take (0 + b.length) (List.map wsRow [] ++ List.map wsRow b))))) = _
       rw [List.drop_zero, List.take_of_length_le (by simp only [List.length_append, List.length_map, List.length_nil, List.length_cons]; omega), ← List.map_append]
       rcases b with _ | ⟨y, b⟩
       · exact (hb rfl).elim
       · rfl
 · have hg := grow_ok ((x :: a).length + b.length) (by omega) (by omega)
   refine pur_code code14_ok ?_
   conv => whnf
   repeat' ((first | refine bt ?_ | refine bf ?_ | refine vl ?_ | fail) <;> conv => whnf)
   refine vloop_cnt (α := Unit) 2 (fun _ _ => True) (fun k _ => [(3, I (smN (x :: a).length b.length k)), (11, I (k : Int))]) () trivial rfl ?_
   have q1 : iadd .i64 (Int.ofNat 0) ((List.map wsRow (x :: a)).length : Int) = (((x :: a).length : Nat) : Int) := (by rw [List.length_map, iadd64 (by simp only [ofn]; omega) (by simp only [ofn]; omega), lit0]; omega)
   have q2 : ilt (iadd .i64 (Int.ofNat 0) ((List.map wsRow (x :: a)).length : Int)) (Int.ofNat 0) = false := by rw [q1, ilt_f]; show (0 : Int) ≤ _; omega
   have q3 : iadd .i64 (((x :: a).length : Nat) : Int) ((b.map wsRow).length : Int) = (((x :: a).length + b.length : Nat) : Int) := by rw [List.length_map, iadd64 (by omega) (by omega)]; omega
   have q4 : ilt (iadd .i64 (((x :: a).length : Nat) : Int) ((b.map wsRow).length : Int)) (Int.ofNat 0) = false := by rw [q3, ilt_f]; show (0 : Int) ≤ _; omega
   have n1 : iadd .i64 ((0 : Nat) : Int) (Int.ofNat 1) = ((1 : Nat) : Int) := by rw [iadd64 (by decide) (by decide)]; rfl
   have n2 : iadd .i64 ((1 : Nat) : Int) (Int.ofNat 1) = ((2 : Nat) : Int) := by rw [iadd64 (by decide) (by decide)]; rfl
   have g1 : iget [[(DV.sl 1 (List.map wsRow (x :: a)))], [DV.sl 1 (b.map wsRow)]] ((0 : Nat) : Int) = some [(DV.sl 1 (List.map wsRow (x :: a)))] := iget_t rfl
   have g2 : iget [[(DV.sl 1 (List.map wsRow (x :: a)))], [DV.sl 1 (b.map wsRow)]] ((1 : Nat) : Int) = some [DV.sl 1 (b.map wsRow)] := iget_t rfl
   intro k _ hk _
   obtain rfl | rfl | rfl : k = 0 ∨ k = 1 ∨ k = 2 := by omega
   · conv => whnf
     repeat' ((first | refine bt ?_ | refine bf ?_ | refine vb_t ltA ?_ | refine vo_i g1 ?_ | refine vl ?_ | fail) <;> conv => whnf)
     exact ⟨⟨(1, ()), by omega, trivial⟩, by simp only; omega, (by repeat' (first | exact rfl | exact slot_eq (I_eq q1) | exact slot_eq (I_eq n1) | refine cons_eq ?_ ?_)), rfl, rfl, rfl⟩
   · conv => whnf
     repeat' ((first | refine bt ?_ | refine bf ?_ | refine vb_t ltB ?_ | refine vo_i g2 ?_ | refine vl ?_ | fail) <;> conv => whnf)
     exact ⟨⟨(2, ()), by omega, trivial⟩, by simp only; omega, (by repeat' (first | exact rfl | exact slot_eq (I_eq q3) | exact slot_eq (I_eq n2) | refine cons_eq ?_ ?_)), rfl, rfl, rfl⟩
   · conv => whnf
     repeat' ((first | refine bt ?_ | refine bf ?_ | refine vb_f ltC ?_ | refine vcall_i hg ?_ | refine vl ?_ | fail) <;> conv => whnf)
     refine vloop_cnh (α := Unit) 2 (fun _ _ => True) (fun k _ => [(6, .osl 0 (ccG k) 0 (ccN (x :: a).length b.length k)), (27, I (k : Int))]) (fun k _ => [⟨.mine, 9, .arr false (ccG k) 1 (ccR ((x :: a).length + b.length) (x :: a) b k)⟩]) () trivial rfl rfl ?_
     intro k _ hk _
     obtain rfl | rfl | rfl : k = 0 ∨ k = 1 ∨ k = 2 := by omega
     · conv => whnf
       repeat' ((first | refine bt ?_ | refine bf ?_ | refine vb_t ltA ?_ | refine vo_i g1 ?_ | refine vor_rq (cc_trunc (n := (x :: a).length + b.length) (by omega)) ?_ | refine vb_t (ieqN 0) ?_ | refine vb_t (room_t (by simp only [List.length_map, List.length_nil, List.length_cons, List.drop_zero] at * <;> omega)) ?_ | refine vl ?_ | fail) <;> conv => whnf)
       exact ⟨⟨(1, ()), by omega, trivial⟩, by simp only; omega, (by repeat' (first | exact rfl | exact slot_eq (osl_eq rfl (by simp [ccN1, ccN2, ccR1])) | exact slot_eq (I_eq n1) | refine cons_eq ?_ ?_)), cons_eq (arr_eq2 rfl (by simp [ccR1, ccR2])) rfl, rfl, rfl⟩
     · have w1 : ieq (((x :: a).length : Nat) : Int) ((List.map wsRow (x :: a)).length : Int) = true := by rw [ieq_t, List.length_map] <;> rfl
       conv => whnf
       repeat' ((first | refine bt ?_ | refine bf ?_ | refine vb_t ltB ?_ | refine vo_i g2 ?_ | refine vb_t (room_t (by rw [ccR1]; simp only [List.length_map, List.length_nil, List.length_cons] at * <;> omega)) ?_ | refine vl ?_ | fail) <;> conv => whnf)
       exact ⟨⟨(2, ()), by omega, trivial⟩, by simp only; omega, (by repeat' (first | exact rfl | exact slot_eq (osl_eq rfl (by simp [ccN1, ccN2, ccR1])) | exact slot_eq (I_eq n2) | refine cons_eq ?_ ?_)), cons_eq (arr_eq2 rfl (by simp [ccR1, ccR2])) rfl, rfl, rfl⟩
     · conv => whnf
       repeat' ((first | refine bt ?_ | refine bf ?_ | refine vb_f ltC ?_ | refine vl ?_ | fail) <;> conv => whnf)
       refine ⟨?_, rfl⟩
       show CR.ret (AV.d (DV.sl 1 (List.drop 0 (List.take ((x :: a).length + b.length) (List.map wsRow (x :: a) ++ List.map wsRow b))))) = _
       rw [List.drop_zero, List.take_of_length_le (by simp only [List.length_append, List.length_map, List.length_nil, List.length_cons]; omega), ← List.map_append]
       rcases b with _ | ⟨y, b⟩
       · exact (hb rfl).elim
       · rfl
end Go.Proofs.YtkljckbaenbjeaaGreatDoor.Ab
namespace Go.Proofs.YtkljckbaenbjeaaGreatDoor.Ab
open Go
set_option linter.unusedSimpArgs false
set_option maxRecDepth 100000
set_option linter.unusedVariables false
set_option maxHeartbeats 4000000
def pcA (p : Pc) : AV := .agg ((pcRow p).map .d)
def SmN (l : List (List UInt8)) : Prop := l.length ≤ 1000 ∧ ∀ s ∈ l, s.length ≤ 1000
def trk0 (t : Trk) : Prop := t.ak = 0 ∧ t.an = 0 ∧ t.bk = 0 ∧ t.bn = 0 ∧ t.fit = false ∧ t.lk = 0 ∧ t.ln = 0
def NamesP (l : List (List UInt8)) : Prop := 1 ≤ l.length ∧ l.length ≤ 16 ∧ ∀ s ∈ l, customB s = true
def AutoK (k : Int) : Prop := k = 4 ∨ k = 5
def RepK (k : Int) : Prop := k = 3 ∨ AutoK k
def AloneP (p : Pc) : Prop := (p.kind = 1 ∧ NamesP p.names ∧ p.inner = [] ∧ trk0 p.t ∧ p.count = 0) ∨ (p.kind = 2 ∧ rightT p.t = true ∧ p.names = [] ∧ p.inner = [] ∧ p.count = 0) ∨
 (p.kind = 3 ∧ 1 ≤ p.count ∧ p.count ≤ 10000 ∧ p.names = [] ∧ trk0 p.t) ∨ (AutoK p.kind ∧ p.names = [] ∧ trk0 p.t ∧ p.count = 0)
theorem isAuto_ok (k : Int) : Pur F0 57 [I k] [] .no (.ret (B (pb (AutoK k)))) .no := by
 refine pur_code code57_ok ?_
 conv => whnf
 repeat' ((first | refine bt ?_ | refine bf ?_ | refine vl ?_ | refine vb_i (fun h => ?_) (fun h => ?_) | fail) <;> conv => whnf)
 all_goals (refine ⟨retB ?_, rfl⟩; rw [Bool.eq_iff_iff, pb_iff]; simp_all [AutoK, ieq_t, ieq_f, lit4, lit5])
theorem isRepeat_ok (k : Int) : Pur F0 56 [I k] [] .no (.ret (B (pb (RepK k)))) .no := by
 have hA := isAuto_ok k
 refine pur_code code56_ok ?_
 conv => whnf
 repeat' ((first | refine bt ?_ | refine bf ?_ | refine vpur_i hA ?_ | refine vl ?_ | refine vb_i (fun h => ?_) (fun h => ?_) | fail) <;> conv => whnf)
 all_goals (refine ⟨retB ?_, rfl⟩; rw [Bool.eq_iff_iff, pb_iff]; simp_all [RepK, ieq_t, ieq_f, lit3, pb_iff])
theorem names_all {l : List (List UInt8)} (h : ∀ i s, i < l.length → l[i]? = some s → customB s = true) : ∀ s ∈ l, customB s = true := fun s hs => by
 obtain ⟨i, hi⟩ := List.getElem?_of_mem hs
 exact h i s (List.getElem?_eq_some_iff.1 hi).1 hi
theorem trk0_eq {ak an bk bn lk ln : Int} {fit : Bool} : (ieq ak (Int.ofNat 0) && (ieq an (Int.ofNat 0) && (ieq bk (Int.ofNat 0) && (ieq bn (Int.ofNat 0) && (fit == false && (ieq lk (Int.ofNat 0) && ieq ln (Int.ofNat 0))))))) = pb (trk0 ⟨ak, an, bk, bn, fit, lk, ln⟩) := by
 rw [Bool.eq_iff_iff, pb_iff]
 simp [trk0, ieq_t, lit0]
theorem alone_ok (p : Pc) (hp : PcOk p) (hs : SmN p.names) (hi2 : p.inner.length ≤ 1000000) : Pur F0 95 [pcA p] [] .no (.ret (B (pb (AloneP p)))) .no := by
 cases hp with
 | @mk kd vn names t c vi inner hn hi h0 =>
 simp only [Pc.names, Pc.inner] at hs hi2
 obtain ⟨hs1, hs2⟩ := hs
 obtain ⟨ak, an, bk, bn, fit, lk, ln⟩ := t
 rcases hn with ⟨rfl, hn⟩ | rfl <;> rcases hi with ⟨rfl, hi⟩ | rfl
 · have hn0 : names = [] := List.map_eq_nil_iff.1 hn
   have hi0 : inner = [] := List.map_eq_nil_iff.1 hi
   subst hn0 hi0
   have hz := trk0_eq (ak := ak) (an := an) (bk := bk) (bn := bn) (fit := fit) (lk := lk) (ln := ln)
   have hr := right_ok ⟨ak, an, bk, bn, fit, lk, ln⟩
   have hau := isAuto_ok kd
   by_cases k1 : kd = 1
   · have q1 : ieq kd (Int.ofNat 1) = true := by rw [ieq_t]; exact k1
     by_cases hb : ([] : List (List UInt8)).length < 1 ∨ 16 < ([] : List (List UInt8)).length ∨ 0 < ([] : List Pc).length
     · have hA : pb (AloneP (.mk kd .nilsl ([] : List (List UInt8)) ⟨ak, an, bk, bn, fit, lk, ln⟩ c .nilsl ([] : List Pc))) = false := pb_f (by
        rintro (⟨_, ⟨h1, h2, _⟩, h3, _⟩ | ⟨h1, _⟩ | ⟨h1, _⟩ | ⟨h1, _⟩)
        · have h1' : 1 ≤ ([] : List (List UInt8)).length := h1
          have h2' : ([] : List (List UInt8)).length ≤ 16 := h2
          have h3' : ([] : List Pc) = [] := h3
          have : ([] : List Pc).length = 0 := congrArg List.length h3'
          omega
        · simp only [Pc.kind] at h1; omega
        · simp only [Pc.kind] at h1; omega
        · simp only [Pc.kind, AutoK] at h1; omega)
       rw [hA]
       refine pur_code code95_ok ?_
       conv => whnf
       by_cases b1 : ([] : List (List UInt8)).length < 1
       · repeat' ((first | refine bt ?_ | refine bf ?_ | refine vb_t (by (first | omega | (simp only [ilt_t, ilt_f, ile_t, ile_f, ieq_t, ieq_f, ofn, List.length_map, Bool.not_eq_true', Bool.not_eq_false'] at *; omega))) ?_ | refine vl ?_ | fail) <;> conv => whnf)
         exact ⟨rfl, rfl⟩
       by_cases b2 : 16 < ([] : List (List UInt8)).length
       · repeat' ((first | refine bt ?_ | refine bf ?_ | refine vb_t (by (first | omega | (simp only [ilt_t, ilt_f, ile_t, ile_f, ieq_t, ieq_f, ofn, List.length_map, Bool.not_eq_true', Bool.not_eq_false'] at *; omega))) ?_ | refine vb_f (by (first | omega | (simp only [ilt_t, ilt_f, ile_t, ile_f, ieq_t, ieq_f, ofn, List.length_map, Bool.not_eq_true', Bool.not_eq_false'] at *; omega))) ?_ | refine vl ?_ | fail) <;> conv => whnf)
         exact ⟨rfl, rfl⟩
       have b3 : 0 < ([] : List Pc).length := by omega
       exact absurd b3 (by decide)
     · exact (hb (.inl (by simp))).elim
   · have q1 : ieq kd (Int.ofNat 1) = false := by rw [ieq_f]; exact k1
     by_cases k2 : kd = 2
     · have q2 : ieq kd (Int.ofNat 2) = true := by rw [ieq_t]; exact k2
       have hsum : ieq (iadd .i64 (0 : Int) (0 : Int)) (Int.ofNat 0) = pb (([] : List (List UInt8)) = [] ∧ ([] : List Pc) = []) := by
        rw [iadd64 (by simp; try omega) (by simp; try omega), Bool.eq_iff_iff, ieq_t, pb_iff, ← List.length_eq_zero_iff, ← List.length_eq_zero_iff, lit0]
        try simp only [List.length_map, List.length_nil]
        first | omega | simp
       refine pur_code code95_ok ?_
       conv => whnf
       repeat' ((first | refine bt ?_ | refine bf ?_ | refine vpur_i hr ?_ | (rw [hsum]) | refine vl ?_ | refine vb_i (fun h => ?_) (fun h => ?_) | fail) <;> conv => whnf)
       all_goals (refine ⟨retB ?_, rfl⟩; clear hr hau hs1 hs2 h0 hz hsum; rw [Bool.eq_iff_iff, pb_iff]; simp_all [AloneP, AutoK, Pc.kind, Pc.names, Pc.inner, Pc.t, Pc.count, pb_iff, pb_ff, ieq_t, ieq_f, lit0])
     · have q2 : ieq kd (Int.ofNat 2) = false := by rw [ieq_f]; exact k2
       have hnl : ieq (0 : Int) (Int.ofNat 0) = pb (([] : List (List UInt8)) = []) := by
        rw [Bool.eq_iff_iff, ieq_t, pb_iff, ← List.length_eq_zero_iff, lit0]
        simp
       by_cases k3 : kd = 3
       · have q3 : ieq kd (Int.ofNat 3) = true := by rw [ieq_t]; exact k3
         refine pur_code code95_ok ?_
         conv => whnf
         repeat' ((first | refine bt ?_ | refine bf ?_ | (rw [hnl]) | (rw [hz]) | refine vl ?_ | refine vb_i (fun h => ?_) (fun h => ?_) | fail) <;> conv => whnf)
         all_goals (refine ⟨retB ?_, rfl⟩; clear hr hau hs1 hs2 h0; rw [Bool.eq_iff_iff, pb_iff])
         all_goals (try rw [hz])
         all_goals (clear hz hnl; simp_all [AloneP, AutoK, Pc.kind, Pc.names, Pc.inner, Pc.t, Pc.count, pb_iff, pb_ff, ieq_t, ieq_f, ile_t, ile_f, lit0, lit1])
         all_goals (intros; omega)
       · have q3 : ieq kd (Int.ofNat 3) = false := by rw [ieq_f]; exact k3
         refine pur_code code95_ok ?_
         conv => whnf
         repeat' ((first | refine bt ?_ | refine bf ?_ | refine vpur_i hau ?_ | (rw [hnl]) | (rw [hz]) | refine vl ?_ | refine vb_i (fun h => ?_) (fun h => ?_) | fail) <;> conv => whnf)
         all_goals (refine ⟨retB ?_, rfl⟩; clear hr hau hs1 hs2 h0; rw [Bool.eq_iff_iff, pb_iff])
         all_goals (clear hz hnl; simp_all [AloneP, Pc.kind, Pc.names, Pc.inner, Pc.t, Pc.count, pb_iff, pb_ff, ieq_t, ieq_f, lit0])
         all_goals trace_state
 · have hn0 : names = [] := List.map_eq_nil_iff.1 hn
   subst hn0
   have hz := trk0_eq (ak := ak) (an := an) (bk := bk) (bn := bn) (fit := fit) (lk := lk) (ln := ln)
   have hr := right_ok ⟨ak, an, bk, bn, fit, lk, ln⟩
   have hau := isAuto_ok kd
   by_cases k1 : kd = 1
   · have q1 : ieq kd (Int.ofNat 1) = true := by rw [ieq_t]; exact k1
     by_cases hb : ([] : List (List UInt8)).length < 1 ∨ 16 < ([] : List (List UInt8)).length ∨ 0 < inner.length
     · have hA : pb (AloneP (.mk kd .nilsl ([] : List (List UInt8)) ⟨ak, an, bk, bn, fit, lk, ln⟩ c (.sl 11 (inner.map pcRow)) inner)) = false := pb_f (by
        rintro (⟨_, ⟨h1, h2, _⟩, h3, _⟩ | ⟨h1, _⟩ | ⟨h1, _⟩ | ⟨h1, _⟩)
        · have h1' : 1 ≤ ([] : List (List UInt8)).length := h1
          have h2' : ([] : List (List UInt8)).length ≤ 16 := h2
          have h3' : inner = [] := h3
          have : inner.length = 0 := congrArg List.length h3'
          omega
        · simp only [Pc.kind] at h1; omega
        · simp only [Pc.kind] at h1; omega
        · simp only [Pc.kind, AutoK] at h1; omega)
       rw [hA]
       refine pur_code code95_ok ?_
       conv => whnf
       by_cases b1 : ([] : List (List UInt8)).length < 1
       · repeat' ((first | refine bt ?_ | refine bf ?_ | refine vb_t (by (first | omega | (simp only [ilt_t, ilt_f, ile_t, ile_f, ieq_t, ieq_f, ofn, List.length_map, Bool.not_eq_true', Bool.not_eq_false'] at *; omega))) ?_ | refine vl ?_ | fail) <;> conv => whnf)
         exact ⟨rfl, rfl⟩
       by_cases b2 : 16 < ([] : List (List UInt8)).length
       · repeat' ((first | refine bt ?_ | refine bf ?_ | refine vb_t (by (first | omega | (simp only [ilt_t, ilt_f, ile_t, ile_f, ieq_t, ieq_f, ofn, List.length_map, Bool.not_eq_true', Bool.not_eq_false'] at *; omega))) ?_ | refine vb_f (by (first | omega | (simp only [ilt_t, ilt_f, ile_t, ile_f, ieq_t, ieq_f, ofn, List.length_map, Bool.not_eq_true', Bool.not_eq_false'] at *; omega))) ?_ | refine vl ?_ | fail) <;> conv => whnf)
         exact ⟨rfl, rfl⟩
       have b3 : 0 < inner.length := by omega
       repeat' ((first | refine bt ?_ | refine bf ?_ | refine vb_t (by (first | omega | (simp only [ilt_t, ilt_f, ile_t, ile_f, ieq_t, ieq_f, ofn, List.length_map, Bool.not_eq_true', Bool.not_eq_false'] at *; omega))) ?_ | refine vb_f (by (first | omega | (simp only [ilt_t, ilt_f, ile_t, ile_f, ieq_t, ieq_f, ofn, List.length_map, Bool.not_eq_true', Bool.not_eq_false'] at *; omega))) ?_ | refine vl ?_ | fail) <;> conv => whnf)
       exact ⟨rfl, rfl⟩
     · exact (hb (.inl (by simp))).elim
   · have q1 : ieq kd (Int.ofNat 1) = false := by rw [ieq_f]; exact k1
     by_cases k2 : kd = 2
     · have q2 : ieq kd (Int.ofNat 2) = true := by rw [ieq_t]; exact k2
       have hsum : ieq (iadd .i64 (0 : Int) ((inner.map pcRow).length : Int)) (Int.ofNat 0) = pb (([] : List (List UInt8)) = [] ∧ inner = []) := by
        rw [iadd64 (by simp; try omega) (by simp; try omega), Bool.eq_iff_iff, ieq_t, pb_iff, ← List.length_eq_zero_iff, ← List.length_eq_zero_iff, lit0]
        try simp only [List.length_map, List.length_nil]
        first | omega | simp
       refine pur_code code95_ok ?_
       conv => whnf
       repeat' ((first | refine bt ?_ | refine bf ?_ | refine vpur_i hr ?_ | (rw [hsum]) | refine vl ?_ | refine vb_i (fun h => ?_) (fun h => ?_) | fail) <;> conv => whnf)
       all_goals (refine ⟨retB ?_, rfl⟩; clear hr hau hs1 hs2 h0 hz hsum; rw [Bool.eq_iff_iff, pb_iff]; simp_all [AloneP, AutoK, Pc.kind, Pc.names, Pc.inner, Pc.t, Pc.count, pb_iff, pb_ff, ieq_t, ieq_f, lit0])
     · have q2 : ieq kd (Int.ofNat 2) = false := by rw [ieq_f]; exact k2
       have hnl : ieq (0 : Int) (Int.ofNat 0) = pb (([] : List (List UInt8)) = []) := by
        rw [Bool.eq_iff_iff, ieq_t, pb_iff, ← List.length_eq_zero_iff, lit0]
        simp
       by_cases k3 : kd = 3
       · have q3 : ieq kd (Int.ofNat 3) = true := by rw [ieq_t]; exact k3
         refine pur_code code95_ok ?_
         conv => whnf
         repeat' ((first | refine bt ?_ | refine bf ?_ | (rw [hnl]) | (rw [hz]) | refine vl ?_ | refine vb_i (fun h => ?_) (fun h => ?_) | fail) <;> conv => whnf)
         all_goals (refine ⟨retB ?_, rfl⟩; clear hr hau hs1 hs2 h0; rw [Bool.eq_iff_iff, pb_iff])
         all_goals (try rw [hz])
         all_goals (clear hz hnl; simp_all [AloneP, AutoK, Pc.kind, Pc.names, Pc.inner, Pc.t, Pc.count, pb_iff, pb_ff, ieq_t, ieq_f, ile_t, ile_f, lit0, lit1])
         all_goals (intros; omega)
       · have q3 : ieq kd (Int.ofNat 3) = false := by rw [ieq_f]; exact k3
         refine pur_code code95_ok ?_
         conv => whnf
         repeat' ((first | refine bt ?_ | refine bf ?_ | refine vpur_i hau ?_ | (rw [hnl]) | (rw [hz]) | refine vl ?_ | refine vb_i (fun h => ?_) (fun h => ?_) | fail) <;> conv => whnf)
         all_goals (refine ⟨retB ?_, rfl⟩; clear hr hau hs1 hs2 h0; rw [Bool.eq_iff_iff, pb_iff])
         all_goals (clear hz hnl; simp_all [AloneP, Pc.kind, Pc.names, Pc.inner, Pc.t, Pc.count, pb_iff, pb_ff, ieq_t, ieq_f, lit0])
         all_goals trace_state
 · have hi0 : inner = [] := List.map_eq_nil_iff.1 hi
   subst hi0
   have hz := trk0_eq (ak := ak) (an := an) (bk := bk) (bn := bn) (fit := fit) (lk := lk) (ln := ln)
   have hr := right_ok ⟨ak, an, bk, bn, fit, lk, ln⟩
   have hau := isAuto_ok kd
   by_cases k1 : kd = 1
   · have q1 : ieq kd (Int.ofNat 1) = true := by rw [ieq_t]; exact k1
     by_cases hb : names.length < 1 ∨ 16 < names.length ∨ 0 < ([] : List Pc).length
     · have hA : pb (AloneP (.mk kd (.sl 1 (names.map wsRow)) names ⟨ak, an, bk, bn, fit, lk, ln⟩ c .nilsl ([] : List Pc))) = false := pb_f (by
        rintro (⟨_, ⟨h1, h2, _⟩, h3, _⟩ | ⟨h1, _⟩ | ⟨h1, _⟩ | ⟨h1, _⟩)
        · have h1' : 1 ≤ names.length := h1
          have h2' : names.length ≤ 16 := h2
          have h3' : ([] : List Pc) = [] := h3
          have : ([] : List Pc).length = 0 := congrArg List.length h3'
          omega
        · simp only [Pc.kind] at h1; omega
        · simp only [Pc.kind] at h1; omega
        · simp only [Pc.kind, AutoK] at h1; omega)
       rw [hA]
       refine pur_code code95_ok ?_
       conv => whnf
       by_cases b1 : names.length < 1
       · repeat' ((first | refine bt ?_ | refine bf ?_ | refine vb_t (by (first | omega | (simp only [ilt_t, ilt_f, ile_t, ile_f, ieq_t, ieq_f, ofn, List.length_map, Bool.not_eq_true', Bool.not_eq_false'] at *; omega))) ?_ | refine vl ?_ | fail) <;> conv => whnf)
         exact ⟨rfl, rfl⟩
       by_cases b2 : 16 < names.length
       · repeat' ((first | refine bt ?_ | refine bf ?_ | refine vb_t (by (first | omega | (simp only [ilt_t, ilt_f, ile_t, ile_f, ieq_t, ieq_f, ofn, List.length_map, Bool.not_eq_true', Bool.not_eq_false'] at *; omega))) ?_ | refine vb_f (by (first | omega | (simp only [ilt_t, ilt_f, ile_t, ile_f, ieq_t, ieq_f, ofn, List.length_map, Bool.not_eq_true', Bool.not_eq_false'] at *; omega))) ?_ | refine vl ?_ | fail) <;> conv => whnf)
         exact ⟨rfl, rfl⟩
       have b3 : 0 < ([] : List Pc).length := by omega
       exact absurd b3 (by decide)
     · have b1 : ¬ names.length < 1 := fun h => hb (.inl h)
       have b2 : ¬ 16 < names.length := fun h => hb (.inr (.inl h))
       have b3 : ¬ 0 < ([] : List Pc).length := fun h => hb (.inr (.inr h))
       have hi0 : ([] : List Pc) = [] := List.eq_nil_of_length_eq_zero (by omega)
       refine pur_code code95_ok ?_
       conv => whnf
       repeat' ((first | refine bt ?_ | refine bf ?_ | refine vb_t (by (first | omega | (simp only [ilt_t, ilt_f, ile_t, ile_f, ieq_t, ieq_f, ofn, List.length_map, Bool.not_eq_true', Bool.not_eq_false'] at *; omega))) ?_ | refine vb_f (by (first | omega | (simp only [ilt_t, ilt_f, ile_t, ile_f, ieq_t, ieq_f, ofn, List.length_map, Bool.not_eq_true', Bool.not_eq_false'] at *; omega))) ?_ | refine vl ?_ | fail) <;> conv => whnf)
       refine vloop_cnt (α := Unit) names.length (fun k _ => ∀ i s, i < k → names[i]? = some s → customB s = true) (fun k _ => [(28, I (k : Int))]) () (fun i s h => by omega) rfl ?_
       intro k _ hk hI
       conv => whnf
       by_cases hlt : k < names.length
       · obtain ⟨s, hs⟩ := get_in hlt
         have hg := iget_map (f := wsRow) hs
         have hl := lt_len (f := wsRow) hlt
         have hcu := custom_ok s (by have := hs2 s (List.mem_of_getElem? hs); omega)
         cases hcb : customB s with
         | true =>
          rw [hcb] at hcu
          have hx : (!true) = false := rfl
          repeat' ((first | refine bt ?_ | refine bf ?_ | refine vb_t (by (first | omega | (simp only [ilt_t, ilt_f, ile_t, ile_f, ieq_t, ieq_f, ofn, List.length_map, Bool.not_eq_true', Bool.not_eq_false'] at *; omega))) ?_ | refine vo_i hg ?_ | refine vpur_i hcu ?_ | refine vl ?_ | fail) <;> conv => whnf)
          refine ⟨⟨(k + 1, ()), (by omega), ?_⟩, (by simp only; omega), (by repeat' (first | exact rfl | exact slot_eq (I_eq (iadd_one (by omega))) | (refine cons_eq ?_ ?_) | assumption)), rfl, rfl, rfl⟩
          simp only []
          exact upto_succ hI hs hcb
         | false =>
          rw [hcb] at hcu
          have hA : pb (AloneP (.mk kd (.sl 1 (names.map wsRow)) names ⟨ak, an, bk, bn, fit, lk, ln⟩ c .nilsl ([] : List Pc))) = false := pb_f (by
           rintro (⟨_, ⟨_, _, h1⟩, _⟩ | ⟨h1, _⟩ | ⟨h1, _⟩ | ⟨h1, _⟩)
           · have := h1 s (List.mem_of_getElem? hs); rw [hcb] at this; cases this
           · simp only [Pc.kind] at h1; omega
           · simp only [Pc.kind] at h1; omega
           · simp only [Pc.kind, AutoK] at h1; omega)
          rw [hA]
          repeat' ((first | refine bt ?_ | refine bf ?_ | refine vb_t (by (first | omega | (simp only [ilt_t, ilt_f, ile_t, ile_f, ieq_t, ieq_f, ofn, List.length_map, Bool.not_eq_true', Bool.not_eq_false'] at *; omega))) ?_ | refine vo_i hg ?_ | refine vpur_i hcu ?_ | refine vl ?_ | fail) <;> conv => whnf)
          exact ⟨rfl, rfl⟩
       · have hl := nlt_len (f := wsRow) hlt
         have hN : NamesP names := ⟨by omega, by omega, names_all fun i s h h1 => hI i s (by omega) h1⟩
         repeat' ((first | refine bt ?_ | refine bf ?_ | refine vb_f (by (first | omega | (simp only [ilt_t, ilt_f, ile_t, ile_f, ieq_t, ieq_f, ofn, List.length_map, Bool.not_eq_true', Bool.not_eq_false'] at *; omega))) ?_ | (rw [hz]) | refine vl ?_ | refine vb_i (fun h => ?_) (fun h => ?_) | fail) <;> conv => whnf)
         all_goals (refine ⟨retB ?_, rfl⟩; clear hr hau hs1 hs2 h0 hl hlt hz hI b1 b2 b3 hb; rw [Bool.eq_iff_iff, pb_iff]; simp_all [AloneP, AutoK, Pc.kind, Pc.names, Pc.inner, Pc.t, Pc.count, pb_iff, pb_ff, ieq_t, ieq_f, lit0])
   · have q1 : ieq kd (Int.ofNat 1) = false := by rw [ieq_f]; exact k1
     by_cases k2 : kd = 2
     · have q2 : ieq kd (Int.ofNat 2) = true := by rw [ieq_t]; exact k2
       have hsum : ieq (iadd .i64 ((names.map wsRow).length : Int) (0 : Int)) (Int.ofNat 0) = pb (names = [] ∧ ([] : List Pc) = []) := by
        rw [iadd64 (by simp; try omega) (by simp; try omega), Bool.eq_iff_iff, ieq_t, pb_iff, ← List.length_eq_zero_iff, ← List.length_eq_zero_iff, lit0]
        try simp only [List.length_map, List.length_nil]
        first | omega | simp
       refine pur_code code95_ok ?_
       conv => whnf
       repeat' ((first | refine bt ?_ | refine bf ?_ | refine vpur_i hr ?_ | (rw [hsum]) | refine vl ?_ | refine vb_i (fun h => ?_) (fun h => ?_) | fail) <;> conv => whnf)
       all_goals (refine ⟨retB ?_, rfl⟩; clear hr hau hs1 hs2 h0 hz hsum; rw [Bool.eq_iff_iff, pb_iff]; simp_all [AloneP, AutoK, Pc.kind, Pc.names, Pc.inner, Pc.t, Pc.count, pb_iff, pb_ff, ieq_t, ieq_f, lit0])
     · have q2 : ieq kd (Int.ofNat 2) = false := by rw [ieq_f]; exact k2
       have hnl : ieq ((names.map wsRow).length : Int) (Int.ofNat 0) = pb (names = []) := by
        rw [Bool.eq_iff_iff, ieq_t, pb_iff, ← List.length_eq_zero_iff, lit0]
        simp
       by_cases k3 : kd = 3
       · have q3 : ieq kd (Int.ofNat 3) = true := by rw [ieq_t]; exact k3
         refine pur_code code95_ok ?_
         conv => whnf
         repeat' ((first | refine bt ?_ | refine bf ?_ | (rw [hnl]) | (rw [hz]) | refine vl ?_ | refine vb_i (fun h => ?_) (fun h => ?_) | fail) <;> conv => whnf)
         all_goals (refine ⟨retB ?_, rfl⟩; clear hr hau hs1 hs2 h0; rw [Bool.eq_iff_iff, pb_iff])
         all_goals (try rw [hz])
         all_goals (clear hz hnl; simp_all [AloneP, AutoK, Pc.kind, Pc.names, Pc.inner, Pc.t, Pc.count, pb_iff, pb_ff, ieq_t, ieq_f, ile_t, ile_f, lit0, lit1])
         all_goals (intros; omega)
       · have q3 : ieq kd (Int.ofNat 3) = false := by rw [ieq_f]; exact k3
         refine pur_code code95_ok ?_
         conv => whnf
         repeat' ((first | refine bt ?_ | refine bf ?_ | refine vpur_i hau ?_ | (rw [hnl]) | (rw [hz]) | refine vl ?_ | refine vb_i (fun h => ?_) (fun h => ?_) | fail) <;> conv => whnf)
         all_goals (refine ⟨retB ?_, rfl⟩; clear hr hau hs1 hs2 h0; rw [Bool.eq_iff_iff, pb_iff])
         all_goals (clear hz hnl; simp_all [AloneP, Pc.kind, Pc.names, Pc.inner, Pc.t, Pc.count, pb_iff, pb_ff, ieq_t, ieq_f, lit0])
         all_goals trace_state
 · have hz := trk0_eq (ak := ak) (an := an) (bk := bk) (bn := bn) (fit := fit) (lk := lk) (ln := ln)
   have hr := right_ok ⟨ak, an, bk, bn, fit, lk, ln⟩
   have hau := isAuto_ok kd
   by_cases k1 : kd = 1
   · have q1 : ieq kd (Int.ofNat 1) = true := by rw [ieq_t]; exact k1
     by_cases hb : names.length < 1 ∨ 16 < names.length ∨ 0 < inner.length
     · have hA : pb (AloneP (.mk kd (.sl 1 (names.map wsRow)) names ⟨ak, an, bk, bn, fit, lk, ln⟩ c (.sl 11 (inner.map pcRow)) inner)) = false := pb_f (by
        rintro (⟨_, ⟨h1, h2, _⟩, h3, _⟩ | ⟨h1, _⟩ | ⟨h1, _⟩ | ⟨h1, _⟩)
        · have h1' : 1 ≤ names.length := h1
          have h2' : names.length ≤ 16 := h2
          have h3' : inner = [] := h3
          have : inner.length = 0 := congrArg List.length h3'
          omega
        · simp only [Pc.kind] at h1; omega
        · simp only [Pc.kind] at h1; omega
        · simp only [Pc.kind, AutoK] at h1; omega)
       rw [hA]
       refine pur_code code95_ok ?_
       conv => whnf
       by_cases b1 : names.length < 1
       · repeat' ((first | refine bt ?_ | refine bf ?_ | refine vb_t (by (first | omega | (simp only [ilt_t, ilt_f, ile_t, ile_f, ieq_t, ieq_f, ofn, List.length_map, Bool.not_eq_true', Bool.not_eq_false'] at *; omega))) ?_ | refine vl ?_ | fail) <;> conv => whnf)
         exact ⟨rfl, rfl⟩
       by_cases b2 : 16 < names.length
       · repeat' ((first | refine bt ?_ | refine bf ?_ | refine vb_t (by (first | omega | (simp only [ilt_t, ilt_f, ile_t, ile_f, ieq_t, ieq_f, ofn, List.length_map, Bool.not_eq_true', Bool.not_eq_false'] at *; omega))) ?_ | refine vb_f (by (first | omega | (simp only [ilt_t, ilt_f, ile_t, ile_f, ieq_t, ieq_f, ofn, List.length_map, Bool.not_eq_true', Bool.not_eq_false'] at *; omega))) ?_ | refine vl ?_ | fail) <;> conv => whnf)
         exact ⟨rfl, rfl⟩
       have b3 : 0 < inner.length := by omega
       repeat' ((first | refine bt ?_ | refine bf ?_ | refine vb_t (by (first | omega | (simp only [ilt_t, ilt_f, ile_t, ile_f, ieq_t, ieq_f, ofn, List.length_map, Bool.not_eq_true', Bool.not_eq_false'] at *; omega))) ?_ | refine vb_f (by (first | omega | (simp only [ilt_t, ilt_f, ile_t, ile_f, ieq_t, ieq_f, ofn, List.length_map, Bool.not_eq_true', Bool.not_eq_false'] at *; omega))) ?_ | refine vl ?_ | fail) <;> conv => whnf)
       exact ⟨rfl, rfl⟩
     · have b1 : ¬ names.length < 1 := fun h => hb (.inl h)
       have b2 : ¬ 16 < names.length := fun h => hb (.inr (.inl h))
       have b3 : ¬ 0 < inner.length := fun h => hb (.inr (.inr h))
       have hi0 : inner = [] := List.eq_nil_of_length_eq_zero (by omega)
       refine pur_code code95_ok ?_
       conv => whnf
       repeat' ((first | refine bt ?_ | refine bf ?_ | refine vb_t (by (first | omega | (simp only [ilt_t, ilt_f, ile_t, ile_f, ieq_t, ieq_f, ofn, List.length_map, Bool.not_eq_true', Bool.not_eq_false'] at *; omega))) ?_ | refine vb_f (by (first | omega | (simp only [ilt_t, ilt_f, ile_t, ile_f, ieq_t, ieq_f, ofn, List.length_map, Bool.not_eq_true', Bool.not_eq_false'] at *; omega))) ?_ | refine vl ?_ | fail) <;> conv => whnf)
       refine vloop_cnt (α := Unit) names.length (fun k _ => ∀ i s, i < k → names[i]? = some s → customB s = true) (fun k _ => [(28, I (k : Int))]) () (fun i s h => by omega) rfl ?_
       intro k _ hk hI
       conv => whnf
       by_cases hlt : k < names.length
       · obtain ⟨s, hs⟩ := get_in hlt
         have hg := iget_map (f := wsRow) hs
         have hl := lt_len (f := wsRow) hlt
         have hcu := custom_ok s (by have := hs2 s (List.mem_of_getElem? hs); omega)
         cases hcb : customB s with
         | true =>
          rw [hcb] at hcu
          have hx : (!true) = false := rfl
          repeat' ((first | refine bt ?_ | refine bf ?_ | refine vb_t (by (first | omega | (simp only [ilt_t, ilt_f, ile_t, ile_f, ieq_t, ieq_f, ofn, List.length_map, Bool.not_eq_true', Bool.not_eq_false'] at *; omega))) ?_ | refine vo_i hg ?_ | refine vpur_i hcu ?_ | refine vl ?_ | fail) <;> conv => whnf)
          refine ⟨⟨(k + 1, ()), (by omega), ?_⟩, (by simp only; omega), (by repeat' (first | exact rfl | exact slot_eq (I_eq (iadd_one (by omega))) | (refine cons_eq ?_ ?_) | assumption)), rfl, rfl, rfl⟩
          simp only []
          exact upto_succ hI hs hcb
         | false =>
          rw [hcb] at hcu
          have hA : pb (AloneP (.mk kd (.sl 1 (names.map wsRow)) names ⟨ak, an, bk, bn, fit, lk, ln⟩ c (.sl 11 (inner.map pcRow)) inner)) = false := pb_f (by
           rintro (⟨_, ⟨_, _, h1⟩, _⟩ | ⟨h1, _⟩ | ⟨h1, _⟩ | ⟨h1, _⟩)
           · have := h1 s (List.mem_of_getElem? hs); rw [hcb] at this; cases this
           · simp only [Pc.kind] at h1; omega
           · simp only [Pc.kind] at h1; omega
           · simp only [Pc.kind, AutoK] at h1; omega)
          rw [hA]
          repeat' ((first | refine bt ?_ | refine bf ?_ | refine vb_t (by (first | omega | (simp only [ilt_t, ilt_f, ile_t, ile_f, ieq_t, ieq_f, ofn, List.length_map, Bool.not_eq_true', Bool.not_eq_false'] at *; omega))) ?_ | refine vo_i hg ?_ | refine vpur_i hcu ?_ | refine vl ?_ | fail) <;> conv => whnf)
          exact ⟨rfl, rfl⟩
       · have hl := nlt_len (f := wsRow) hlt
         have hN : NamesP names := ⟨by omega, by omega, names_all fun i s h h1 => hI i s (by omega) h1⟩
         repeat' ((first | refine bt ?_ | refine bf ?_ | refine vb_f (by (first | omega | (simp only [ilt_t, ilt_f, ile_t, ile_f, ieq_t, ieq_f, ofn, List.length_map, Bool.not_eq_true', Bool.not_eq_false'] at *; omega))) ?_ | (rw [hz]) | refine vl ?_ | refine vb_i (fun h => ?_) (fun h => ?_) | fail) <;> conv => whnf)
         all_goals (refine ⟨retB ?_, rfl⟩; clear hr hau hs1 hs2 h0 hl hlt hz hI b1 b2 b3 hb; rw [Bool.eq_iff_iff, pb_iff]; simp_all [AloneP, AutoK, Pc.kind, Pc.names, Pc.inner, Pc.t, Pc.count, pb_iff, pb_ff, ieq_t, ieq_f, lit0])
   · have q1 : ieq kd (Int.ofNat 1) = false := by rw [ieq_f]; exact k1
     by_cases k2 : kd = 2
     · have q2 : ieq kd (Int.ofNat 2) = true := by rw [ieq_t]; exact k2
       have hsum : ieq (iadd .i64 ((names.map wsRow).length : Int) ((inner.map pcRow).length : Int)) (Int.ofNat 0) = pb (names = [] ∧ inner = []) := by
        rw [iadd64 (by simp; try omega) (by simp; try omega), Bool.eq_iff_iff, ieq_t, pb_iff, ← List.length_eq_zero_iff, ← List.length_eq_zero_iff, lit0]
        try simp only [List.length_map, List.length_nil]
        first | omega | simp
       refine pur_code code95_ok ?_
       conv => whnf
       repeat' ((first | refine bt ?_ | refine bf ?_ | refine vpur_i hr ?_ | (rw [hsum]) | refine vl ?_ | refine vb_i (fun h => ?_) (fun h => ?_) | fail) <;> conv => whnf)
       all_goals (refine ⟨retB ?_, rfl⟩; clear hr hau hs1 hs2 h0 hz hsum; rw [Bool.eq_iff_iff, pb_iff]; simp_all [AloneP, AutoK, Pc.kind, Pc.names, Pc.inner, Pc.t, Pc.count, pb_iff, pb_ff, ieq_t, ieq_f, lit0])
     · have q2 : ieq kd (Int.ofNat 2) = false := by rw [ieq_f]; exact k2
       have hnl : ieq ((names.map wsRow).length : Int) (Int.ofNat 0) = pb (names = []) := by
        rw [Bool.eq_iff_iff, ieq_t, pb_iff, ← List.length_eq_zero_iff, lit0]
        simp
       by_cases k3 : kd = 3
       · have q3 : ieq kd (Int.ofNat 3) = true := by rw [ieq_t]; exact k3
         refine pur_code code95_ok ?_
         conv => whnf
         repeat' ((first | refine bt ?_ | refine bf ?_ | (rw [hnl]) | (rw [hz]) | refine vl ?_ | refine vb_i (fun h => ?_) (fun h => ?_) | fail) <;> conv => whnf)
         all_goals (refine ⟨retB ?_, rfl⟩; clear hr hau hs1 hs2 h0; rw [Bool.eq_iff_iff, pb_iff])
         all_goals (try rw [hz])
         all_goals (clear hz hnl; simp_all [AloneP, AutoK, Pc.kind, Pc.names, Pc.inner, Pc.t, Pc.count, pb_iff, pb_ff, ieq_t, ieq_f, ile_t, ile_f, lit0, lit1])
         all_goals (intros; omega)
       · have q3 : ieq kd (Int.ofNat 3) = false := by rw [ieq_f]; exact k3
         refine pur_code code95_ok ?_
         conv => whnf
         repeat' ((first | refine bt ?_ | refine bf ?_ | refine vpur_i hau ?_ | (rw [hnl]) | (rw [hz]) | refine vl ?_ | refine vb_i (fun h => ?_) (fun h => ?_) | fail) <;> conv => whnf)
         all_goals (refine ⟨retB ?_, rfl⟩; clear hr hau hs1 hs2 h0; rw [Bool.eq_iff_iff, pb_iff])
         all_goals (clear hz hnl; simp_all [AloneP, Pc.kind, Pc.names, Pc.inner, Pc.t, Pc.count, pb_iff, pb_ff, ieq_t, ieq_f, lit0])
         all_goals trace_state
end Go.Proofs.YtkljckbaenbjeaaGreatDoor.Ab
namespace Go.Proofs.YtkljckbaenbjeaaGreatDoor.Ab
open Go
set_option linter.unusedSimpArgs false
set_option maxRecDepth 100000
set_option linter.unusedVariables false
set_option maxHeartbeats 4000000
structure AxS where
 ls : List (List (List UInt8))
 ts : List Trk
 gl : Nat
 gt : Nat
def layQ (s : AxS) (q : Pc) : AxS :=
 if q.kind = 1 then ⟨s.ls.set (s.ls.length - 1) ((s.ls[s.ls.length - 1]?).getD [] ++ q.names), s.ts, s.gl, s.gt⟩ else ⟨s.ls ++ [[]], s.ts ++ [q.t], s.gl + 1, if s.ts = [] then 0 else s.gt + 1⟩
def lnRow (ns : List (List UInt8)) : List DV := [nmW ns]
def axO (l t : AV) (fr to : Int) : Obj := ⟨.mine, 26, .fix [l, t, I fr, I to]⟩
def flO (b : Bool) : Obj := ⟨.mine, 4, .fix [B b]⟩
def lnO (g : Nat) (ls : List (List (List UInt8))) : Obj := ⟨.mine, 37, .arr false g 1 (ls.map lnRow)⟩
def trO (g : Nat) (ts : List Trk) : Obj := ⟨.mine, 41, .arr true g 7 (ts.map trkRow)⟩
def axH (fr to : Int) (s : AxS) : Heap := match s.ts with
 | [] => [axO (.osl 2 s.gl 0 s.ls.length) (.d .nilsl) fr to, flO false, lnO s.gl s.ls]
 | t :: r => [axO (.osl 2 s.gl 0 s.ls.length) (.osl 3 s.gt 0 (t :: r).length) fr to, flO (decide (10000 < (t :: r).length)), lnO s.gl s.ls, trO s.gt (t :: r)]
def LayP (q : Pc) : Prop := PcOk q ∧ (q.kind = 1 → q.names ≠ [] ∧ q.names.length ≤ 16)
def AxB (c : Nat) (s : AxS) : Prop := s.ls.length = s.ts.length + 1 ∧ s.ts.length ≤ c ∧ ∀ x ∈ s.ls, x.length ≤ 16 * c
theorem axB_lay {c : Nat} {s : AxS} {q : Pc} (h : AxB c s) (hq : LayP q) : AxB (c + 1) (layQ s q) := by
 obtain ⟨h1, h2, h3⟩ := h
 unfold layQ
 by_cases hk : q.kind = 1
 · rw [if_pos hk]
   refine ⟨by simp [h1], by simp only; omega, fun x hx => ?_⟩
   rcases List.mem_or_eq_of_mem_set hx with hx | rfl
   · have := h3 x hx; omega
   · have hn := (hq.2 hk).2
     rw [List.length_append]
     cases hg : s.ls[s.ls.length - 1]? with
     | none => simp only [Option.getD_none, List.length_nil]; omega
     | some y =>
      have := h3 y (List.mem_of_getElem? hg)
      simp only [Option.getD_some]; omega
 · rw [if_neg hk]
   refine ⟨by simp [h1], by simp only [List.length_append, List.length_cons, List.length_nil]; omega, fun x hx => ?_⟩
   rcases List.mem_append.1 hx with hx | hx
   · have := h3 x hx; omega
   · obtain rfl := List.mem_singleton.1 hx
     simp
theorem axB_fold {L : List Pc} (hL : ∀ q ∈ L, LayP q) : ∀ {c : Nat} {s : AxS}, AxB c s → AxB (c + L.length) (L.foldl layQ s) := by
 induction L with
 | nil => intro c s h; exact h
 | cons q L ih =>
  intro c s h
  have := ih (fun p hp => hL p (List.mem_cons_of_mem _ hp)) (axB_lay h (hL q (List.mem_cons_self ..)))
  rw [List.length_cons, show c + (L.length + 1) = c + 1 + L.length by omega]
  exact this
theorem foldl_succ {α β : Type} {f : β → α → β} {l : List α} {k : Nat} {x : α} {s : β} (h : l[k]? = some x) : (l.take (k + 1)).foldl f s = f ((l.take k).foldl f s) x := by
 rw [List.take_add_one, h, List.foldl_append]; rfl
theorem nmW_ne {l : List (List UInt8)} (h : l ≠ []) : nmW l = .sl 1 (l.map wsRow) := by
 cases l with
 | nil => exact (h rfl).elim
 | cons a l => rfl
theorem lay_set {ls : List (List (List UInt8))} {y names : List (List UInt8)} (hn : nmW (y ++ names) = .sl 1 ((y ++ names).map wsRow)) (e1 : isub .i64 ((ls.length : Int) - ((0 : Nat) : Int)) (Int.ofNat 1) = ((ls.length - 1 : Nat) : Int)) :
 (ls.map lnRow).set (0 + (isub .i64 ((ls.length : Int) - ((0 : Nat) : Int)) (Int.ofNat 1)).toNat) [DV.sl 1 ((y ++ names).map wsRow)] = (ls.set (ls.length - 1) (y ++ names)).map lnRow := by
 rw [e1, Nat.zero_add, Int.toNat_natCast, List.map_set]
 unfold lnRow
 rw [hn]
theorem o1' : Int.ofNat 1 = 1 := rfl
def LayT (b : Bool) (s : AxS) : Prop := b = true → s.ts ≠ []
theorem lay_ok (L : List Pc) (hL : ∀ q ∈ L, LayP q) (s0 : AxS) (c : Nat) (h0 : AxB c s0) (hc : c + L.length ≤ 1000000000) (fr to : Int) :
 CallsTo F0 13 [.d (.sl 11 (L.map pcRow)), .ptr 0 0, .ptr 1 0] (axH fr to s0) .no ⟨.ret (.tup []), axH fr to (L.foldl layQ s0), .no⟩ := by
 refine calls_code code13_ok ?_
 rcases hs0 : s0 with ⟨ls0, _ | ⟨t0, ts0⟩, gl0, gt0⟩
 · conv => whnf
   repeat' ((first | refine bt ?_ | refine bf ?_ | refine vl ?_ | fail) <;> conv => whnf)
   refine vloop_cnh (α := Unit) L.length (fun k _ => AxB (c + k) ((L.take k).foldl layQ s0) ∧ LayT false ((L.take k).foldl layQ s0)) (fun k _ => [(9, I (k : Int))]) (fun k _ => axH fr to ((L.take k).foldl layQ s0)) () ⟨h0, (fun h => by cases h)⟩ rfl (by rw [hs0]; rfl) ?_
   intro k _ hk hI
   rcases Nat.lt_or_ge k L.length with hlt | hge
   · obtain ⟨q, hq⟩ := get_in hlt
     have hg := iget_map (f := pcRow) hq
     have hl := lt_len (f := pcRow) hlt
     have hLq := hL q (List.mem_of_getElem? hq)
     have hS := foldl_succ (f := layQ) (s := s0) hq
     have hB := axB_lay hI.1 hLq
     obtain ⟨⟨b1, b2, b3⟩, hN⟩ := hI
     generalize (L.take k).foldl layQ s0 = s at *
     rcases s with ⟨ls, ts, gl, gt⟩
     have hgl : Nat.beq gl gl = true := by simp
     have hgt : Nat.beq gt gt = true := by simp
     simp only at b1 b2 b3
     obtain ⟨y, hy⟩ := get_in (l := ls) (k := ls.length - 1) (by omega)
     have hyl := b3 y (List.mem_of_getElem? hy)
     have e1 : isub .i64 ((ls.length : Int) - ((0 : Nat) : Int)) (Int.ofNat 1) = ((ls.length - 1 : Nat) : Int) := by rw [isub64 (by rw [o1']; omega) (by rw [o1']; omega), o1']; omega
     by_cases hk1 : q.kind = 1
     · have hS2 : layQ ⟨ls, ts, gl, gt⟩ q = ⟨ls.set (ls.length - 1) (y ++ q.names), ts, gl, gt⟩ := by
        unfold layQ
        rw [if_pos hk1]
        simp only [hy, Option.getD_some]
       obtain ⟨hn0, hn16⟩ := hLq.2 hk1
       have hcc := concat_ok y q.names hn0 (by omega) (by omega)
       have hnw : nmW (y ++ q.names) = .sl 1 ((y ++ q.names).map wsRow) := nmW_ne (by simp [hn0])
       rw [hnw] at hcc
       have hgi : iget (((ls.map lnRow).take ls.length).drop 0) (isub .i64 ((ls.length : Int) - ((0 : Nat) : Int)) (Int.ofNat 1)) = some (lnRow y) := by
        rw [List.drop_zero, List.take_of_length_le (by simp), e1]; exact iget_map hy
       have hgr : (ls.map lnRow)[0 + (isub .i64 ((ls.length : Int) - ((0 : Nat) : Int)) (Int.ofNat 1)).toNat]? = some (lnRow y) := by
        rw [e1, Nat.zero_add, Int.toNat_natCast, List.getElem?_map, hy]; rfl
       have hPo := hLq.1
       cases hPo with
       | @mk kd vn names t cn vi inner hvn hvi hin =>
       simp only [Pc.names, Pc.kind] at hn0 hn16 hk1 hcc hnw hS2
       have q1 : ieq kd (Int.ofNat 1) = true := by rw [ieq_t]; exact hk1
       rcases hvn with ⟨rfl, hvn⟩ | rfl
       · exact (hn0 (List.map_eq_nil_iff.1 hvn)).elim
       rcases ts with _ | ⟨t1, ts⟩
       · conv => whnf
         repeat' ((first | refine bt ?_ | refine bf ?_ | refine vo_i hg ?_ | refine vo_i hgi ?_ | refine vo_i hgr ?_ | refine vpur_i hcc ?_ | refine vl ?_ | fail) <;> conv => whnf)
         refine ⟨⟨(k + 1, ()), (by omega), ⟨by rw [hS]; exact hB, by rw [hS, hS2]; exact hN⟩⟩, (by simp only; omega), (by repeat' (first | exact rfl | exact slot_eq (I_eq (iadd_one (by omega))) | (refine cons_eq ?_ ?_) | assumption)), ?_, rfl, rfl⟩
         exact Eq.trans (cons_eq (fix_eq (cons_eq (osl_eq rfl (by simp)) rfl)) (cons_eq rfl (cons_eq (arr_eq2 rfl (lay_set hnw e1)) rfl))) (congrArg (axH fr to) (hS.trans hS2).symm)
       · conv => whnf
         repeat' ((first | refine bt ?_ | refine bf ?_ | refine vo_i hg ?_ | refine vo_i hgi ?_ | refine vo_i hgr ?_ | refine vpur_i hcc ?_ | refine vl ?_ | fail) <;> conv => whnf)
         refine ⟨⟨(k + 1, ()), (by omega), ⟨by rw [hS]; exact hB, by rw [hS, hS2]; exact hN⟩⟩, (by simp only; omega), (by repeat' (first | exact rfl | exact slot_eq (I_eq (iadd_one (by omega))) | (refine cons_eq ?_ ?_) | assumption)), ?_, rfl, rfl⟩
         exact Eq.trans (cons_eq (fix_eq (cons_eq (osl_eq rfl (by simp)) rfl)) (cons_eq rfl (cons_eq (arr_eq2 rfl (lay_set hnw e1)) rfl))) (congrArg (axH fr to) (hS.trans hS2).symm)
     · have hS2 : layQ ⟨ls, ts, gl, gt⟩ q = ⟨ls ++ [[]], ts ++ [q.t], gl + 1, if ts = [] then 0 else gt + 1⟩ := by
        unfold layQ
        rw [if_neg hk1]
       cases q with
       | mk kd vn names t cn vi inner =>
       obtain ⟨a1, a2, a3, a4, a5, a6, a7⟩ := t
       simp only [Pc.t, Pc.kind] at hk1 hS2
       have q1 : ieq kd (Int.ofNat 1) = false := by rw [ieq_f]; exact hk1
       have w1 : ieq (ls.length : Int) ((ls.map lnRow).length : Int) = true := by rw [ieq_t, List.length_map]
       rcases ts with _ | ⟨t1, ts⟩
       · conv => whnf
         have q2 : ile (Int.ofNat 10000) (0 : Int) = false := by rw [ile_f]; decide
         have hS3 := hS.trans hS2
         rw [if_pos rfl] at hS3
         repeat' ((first | refine bt ?_ | refine bf ?_ | refine vo_i hg ?_ | refine vb_t (room_t (by simp <;> omega)) ?_ | refine vl ?_ | fail) <;> conv => whnf)
         exact ⟨⟨(k + 1, ()), (by omega), ⟨by rw [hS]; exact hB, by rw [hS, hS2]; exact fun _ => by simp⟩⟩, (by simp only; omega), (by repeat' (first | exact rfl | exact slot_eq (I_eq (iadd_one (by omega))) | (refine cons_eq ?_ ?_) | assumption)), Eq.trans (cons_eq (fix_eq (cons_eq (osl_eq rfl (by simp)) rfl)) (cons_eq (fix_eq (cons_eq (B_eqq q2) rfl)) (cons_eq (arr_eq2 rfl (by rw [List.map_append]; rfl)) rfl))) (congrArg (axH fr to) hS3.symm), rfl, rfl⟩
       · have w2 : ieq ((t1 :: ts).length : Int) (((t1 :: ts).map trkRow).length : Int) = true := by rw [ieq_t, List.length_map]
         have hS3 := hS.trans hS2
         rw [if_neg (by simp)] at hS3
         by_cases hf : 10000 < (t1 :: ts).length
         · have w3 : decide (10000 < (t1 :: ts).length) = true := decide_eq_true hf
           have w4 : true = decide (10000 < (t1 :: (ts ++ [⟨a1, a2, a3, a4, a5, a6, a7⟩])).length) := (decide_eq_true (by simp only [List.length_cons, List.length_append, List.length_nil] at *; omega)).symm
           conv => whnf
           repeat' ((first | refine bt ?_ | refine bf ?_ | refine vo_i hg ?_ | refine vb_t (room_t (by simp only [List.length_map, List.length_cons, List.length_nil, List.length_drop, List.length_take, List.length_set, List.length_replicate] at * <;> omega)) ?_ | refine vl ?_ | fail) <;> conv => whnf)
           exact ⟨⟨(k + 1, ()), (by omega), ⟨by rw [hS]; exact hB, by rw [hS, hS2]; exact fun _ => by simp⟩⟩, (by simp only; omega), (by repeat' (first | exact rfl | exact slot_eq (I_eq (iadd_one (by omega))) | (refine cons_eq ?_ ?_) | assumption)), Eq.trans (cons_eq (fix_eq (cons_eq (osl_eq rfl (by simp)) (cons_eq (osl_eq rfl (by simp)) rfl))) (cons_eq (fix_eq (cons_eq (B_eqq w4) rfl)) (cons_eq (arr_eq2 rfl (by rw [List.map_append]; rfl)) (cons_eq (arr_eq2 rfl (List.map_append (f := trkRow) (l₁ := t1 :: ts) (l₂ := [⟨a1, a2, a3, a4, a5, a6, a7⟩])).symm) rfl)))) (congrArg (axH fr to) hS3.symm), rfl, rfl⟩
         · have w3 : decide (10000 < (t1 :: ts).length) = false := decide_eq_false hf
           have w4 : ile (Int.ofNat 10000) (((t1 :: ts).length : Int) - ((0 : Nat) : Int)) = decide (10000 < (t1 :: (ts ++ [⟨a1, a2, a3, a4, a5, a6, a7⟩])).length) := by
            rw [Bool.eq_iff_iff, ile_t, decide_eq_true_iff]
            simp only [List.length_cons, List.length_append, List.length_nil, Int.ofNat_eq_natCast]
            omega
           conv => whnf
           repeat' ((first | refine bt ?_ | refine bf ?_ | refine vo_i hg ?_ | refine vb_t (room_t (by simp only [List.length_map, List.length_cons, List.length_nil, List.length_drop, List.length_take, List.length_set, List.length_replicate] at * <;> omega)) ?_ | refine vl ?_ | fail) <;> conv => whnf)
           exact ⟨⟨(k + 1, ()), (by omega), ⟨by rw [hS]; exact hB, by rw [hS, hS2]; exact fun _ => by simp⟩⟩, (by simp only; omega), (by repeat' (first | exact rfl | exact slot_eq (I_eq (iadd_one (by omega))) | (refine cons_eq ?_ ?_) | assumption)), Eq.trans (cons_eq (fix_eq (cons_eq (osl_eq rfl (by simp)) (cons_eq (osl_eq rfl (by simp)) rfl))) (cons_eq (fix_eq (cons_eq (B_eqq w4) rfl)) (cons_eq (arr_eq2 rfl (by rw [List.map_append]; rfl)) (cons_eq (arr_eq2 rfl (List.map_append (f := trkRow) (l₁ := t1 :: ts) (l₂ := [⟨a1, a2, a3, a4, a5, a6, a7⟩])).symm) rfl)))) (congrArg (axH fr to) hS3.symm), rfl, rfl⟩
   · obtain rfl : k = L.length := by omega
     have hl := nlt_len (f := pcRow) (Nat.not_lt.2 (Nat.le_refl L.length))
     rw [List.take_length] at hI ⊢
     generalize hE : L.foldl layQ s0 = s at *
     rcases s with ⟨ls, ts, gl, gt⟩
     rcases ts with _ | ⟨t1, ts⟩
     · obtain ⟨hI, hN⟩ := hI
       conv => whnf
       repeat' ((first | refine bt ?_ | refine bf ?_ | refine vl ?_ | fail) <;> conv => whnf)
       exact congrArg (fun h => (⟨.ret (.tup []), axH fr to h, .no⟩ : CRes)) (by rw [← hs0]; exact hE.symm)
     · conv => whnf
       repeat' ((first | refine bt ?_ | refine bf ?_ | refine vl ?_ | fail) <;> conv => whnf)
       exact congrArg (fun h => (⟨.ret (.tup []), axH fr to h, .no⟩ : CRes)) (by rw [← hs0]; exact hE.symm)
 · conv => whnf
   repeat' ((first | refine bt ?_ | refine bf ?_ | refine vl ?_ | fail) <;> conv => whnf)
   refine vloop_cnh (α := Unit) L.length (fun k _ => AxB (c + k) ((L.take k).foldl layQ s0) ∧ LayT true ((L.take k).foldl layQ s0)) (fun k _ => [(9, I (k : Int))]) (fun k _ => axH fr to ((L.take k).foldl layQ s0)) () ⟨h0, (fun _ => by rw [hs0]; simp)⟩ rfl (by rw [hs0]; rfl) ?_
   intro k _ hk hI
   rcases Nat.lt_or_ge k L.length with hlt | hge
   · obtain ⟨q, hq⟩ := get_in hlt
     have hg := iget_map (f := pcRow) hq
     have hl := lt_len (f := pcRow) hlt
     have hLq := hL q (List.mem_of_getElem? hq)
     have hS := foldl_succ (f := layQ) (s := s0) hq
     have hB := axB_lay hI.1 hLq
     obtain ⟨⟨b1, b2, b3⟩, hN⟩ := hI
     generalize (L.take k).foldl layQ s0 = s at *
     rcases s with ⟨ls, ts, gl, gt⟩
     have hgl : Nat.beq gl gl = true := by simp
     have hgt : Nat.beq gt gt = true := by simp
     simp only at b1 b2 b3
     obtain ⟨y, hy⟩ := get_in (l := ls) (k := ls.length - 1) (by omega)
     have hyl := b3 y (List.mem_of_getElem? hy)
     have e1 : isub .i64 ((ls.length : Int) - ((0 : Nat) : Int)) (Int.ofNat 1) = ((ls.length - 1 : Nat) : Int) := by rw [isub64 (by rw [o1']; omega) (by rw [o1']; omega), o1']; omega
     by_cases hk1 : q.kind = 1
     · have hS2 : layQ ⟨ls, ts, gl, gt⟩ q = ⟨ls.set (ls.length - 1) (y ++ q.names), ts, gl, gt⟩ := by
        unfold layQ
        rw [if_pos hk1]
        simp only [hy, Option.getD_some]
       obtain ⟨hn0, hn16⟩ := hLq.2 hk1
       have hcc := concat_ok y q.names hn0 (by omega) (by omega)
       have hnw : nmW (y ++ q.names) = .sl 1 ((y ++ q.names).map wsRow) := nmW_ne (by simp [hn0])
       rw [hnw] at hcc
       have hgi : iget (((ls.map lnRow).take ls.length).drop 0) (isub .i64 ((ls.length : Int) - ((0 : Nat) : Int)) (Int.ofNat 1)) = some (lnRow y) := by
        rw [List.drop_zero, List.take_of_length_le (by simp), e1]; exact iget_map hy
       have hgr : (ls.map lnRow)[0 + (isub .i64 ((ls.length : Int) - ((0 : Nat) : Int)) (Int.ofNat 1)).toNat]? = some (lnRow y) := by
        rw [e1, Nat.zero_add, Int.toNat_natCast, List.getElem?_map, hy]; rfl
       have hPo := hLq.1
       cases hPo with
       | @mk kd vn names t cn vi inner hvn hvi hin =>
       simp only [Pc.names, Pc.kind] at hn0 hn16 hk1 hcc hnw hS2
       have q1 : ieq kd (Int.ofNat 1) = true := by rw [ieq_t]; exact hk1
       rcases hvn with ⟨rfl, hvn⟩ | rfl
       · exact (hn0 (List.map_eq_nil_iff.1 hvn)).elim
       rcases ts with _ | ⟨t1, ts⟩
       · exact (hN rfl rfl).elim
       · conv => whnf
         repeat' ((first | refine bt ?_ | refine bf ?_ | refine vo_i hg ?_ | refine vo_i hgi ?_ | refine vo_i hgr ?_ | refine vpur_i hcc ?_ | refine vl ?_ | fail) <;> conv => whnf)
         refine ⟨⟨(k + 1, ()), (by omega), ⟨by rw [hS]; exact hB, by rw [hS, hS2]; exact hN⟩⟩, (by simp only; omega), (by repeat' (first | exact rfl | exact slot_eq (I_eq (iadd_one (by omega))) | (refine cons_eq ?_ ?_) | assumption)), ?_, rfl, rfl⟩
         exact Eq.trans (cons_eq (fix_eq (cons_eq (osl_eq rfl (by simp)) rfl)) (cons_eq rfl (cons_eq (arr_eq2 rfl (lay_set hnw e1)) rfl))) (congrArg (axH fr to) (hS.trans hS2).symm)
     · have hS2 : layQ ⟨ls, ts, gl, gt⟩ q = ⟨ls ++ [[]], ts ++ [q.t], gl + 1, if ts = [] then 0 else gt + 1⟩ := by
        unfold layQ
        rw [if_neg hk1]
       cases q with
       | mk kd vn names t cn vi inner =>
       obtain ⟨a1, a2, a3, a4, a5, a6, a7⟩ := t
       simp only [Pc.t, Pc.kind] at hk1 hS2
       have q1 : ieq kd (Int.ofNat 1) = false := by rw [ieq_f]; exact hk1
       have w1 : ieq (ls.length : Int) ((ls.map lnRow).length : Int) = true := by rw [ieq_t, List.length_map]
       rcases ts with _ | ⟨t1, ts⟩
       · exact (hN rfl rfl).elim
       · have w2 : ieq ((t1 :: ts).length : Int) (((t1 :: ts).map trkRow).length : Int) = true := by rw [ieq_t, List.length_map]
         have hS3 := hS.trans hS2
         rw [if_neg (by simp)] at hS3
         by_cases hf : 10000 < (t1 :: ts).length
         · have w3 : decide (10000 < (t1 :: ts).length) = true := decide_eq_true hf
           have w4 : true = decide (10000 < (t1 :: (ts ++ [⟨a1, a2, a3, a4, a5, a6, a7⟩])).length) := (decide_eq_true (by simp only [List.length_cons, List.length_append, List.length_nil] at *; omega)).symm
           conv => whnf
           repeat' ((first | refine bt ?_ | refine bf ?_ | refine vo_i hg ?_ | refine vb_t (room_t (by simp only [List.length_map, List.length_cons, List.length_nil, List.length_drop, List.length_take, List.length_set, List.length_replicate] at * <;> omega)) ?_ | refine vl ?_ | fail) <;> conv => whnf)
           exact ⟨⟨(k + 1, ()), (by omega), ⟨by rw [hS]; exact hB, by rw [hS, hS2]; exact fun _ => by simp⟩⟩, (by simp only; omega), (by repeat' (first | exact rfl | exact slot_eq (I_eq (iadd_one (by omega))) | (refine cons_eq ?_ ?_) | assumption)), Eq.trans (cons_eq (fix_eq (cons_eq (osl_eq rfl (by simp)) (cons_eq (osl_eq rfl (by simp)) rfl))) (cons_eq (fix_eq (cons_eq (B_eqq w4) rfl)) (cons_eq (arr_eq2 rfl (by rw [List.map_append]; rfl)) (cons_eq (arr_eq2 rfl (List.map_append (f := trkRow) (l₁ := t1 :: ts) (l₂ := [⟨a1, a2, a3, a4, a5, a6, a7⟩])).symm) rfl)))) (congrArg (axH fr to) hS3.symm), rfl, rfl⟩
         · have w3 : decide (10000 < (t1 :: ts).length) = false := decide_eq_false hf
           have w4 : ile (Int.ofNat 10000) (((t1 :: ts).length : Int) - ((0 : Nat) : Int)) = decide (10000 < (t1 :: (ts ++ [⟨a1, a2, a3, a4, a5, a6, a7⟩])).length) := by
            rw [Bool.eq_iff_iff, ile_t, decide_eq_true_iff]
            simp only [List.length_cons, List.length_append, List.length_nil, Int.ofNat_eq_natCast]
            omega
           conv => whnf
           repeat' ((first | refine bt ?_ | refine bf ?_ | refine vo_i hg ?_ | refine vb_t (room_t (by simp only [List.length_map, List.length_cons, List.length_nil, List.length_drop, List.length_take, List.length_set, List.length_replicate] at * <;> omega)) ?_ | refine vl ?_ | fail) <;> conv => whnf)
           exact ⟨⟨(k + 1, ()), (by omega), ⟨by rw [hS]; exact hB, by rw [hS, hS2]; exact fun _ => by simp⟩⟩, (by simp only; omega), (by repeat' (first | exact rfl | exact slot_eq (I_eq (iadd_one (by omega))) | (refine cons_eq ?_ ?_) | assumption)), Eq.trans (cons_eq (fix_eq (cons_eq (osl_eq rfl (by simp)) (cons_eq (osl_eq rfl (by simp)) rfl))) (cons_eq (fix_eq (cons_eq (B_eqq w4) rfl)) (cons_eq (arr_eq2 rfl (by rw [List.map_append]; rfl)) (cons_eq (arr_eq2 rfl (List.map_append (f := trkRow) (l₁ := t1 :: ts) (l₂ := [⟨a1, a2, a3, a4, a5, a6, a7⟩])).symm) rfl)))) (congrArg (axH fr to) hS3.symm), rfl, rfl⟩
   · obtain rfl : k = L.length := by omega
     have hl := nlt_len (f := pcRow) (Nat.not_lt.2 (Nat.le_refl L.length))
     rw [List.take_length] at hI ⊢
     generalize hE : L.foldl layQ s0 = s at *
     rcases s with ⟨ls, ts, gl, gt⟩
     rcases ts with _ | ⟨t1, ts⟩
     · obtain ⟨hI, hN⟩ := hI
       exact (hN rfl rfl).elim
     · conv => whnf
       repeat' ((first | refine bt ?_ | refine bf ?_ | refine vl ?_ | fail) <;> conv => whnf)
       exact congrArg (fun h => (⟨.ret (.tup []), axH fr to h, .no⟩ : CRes)) (by rw [← hs0]; exact hE.symm)
end Go.Proofs.YtkljckbaenbjeaaGreatDoor.Ab
