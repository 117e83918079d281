/- Some texts as one, one behind the other; what is not leaned on is left out. -/
import Derived.Test.YtlhajccbfapieaaGreatDoorQ2
import Derived.Test.YtlhajccbfapieaaGreatDoorQ3
import Derived.Test.YtlhajccbfapieaaGreatDoorC00q
import Derived.Test.YtlhajccbfapieaaGreatDoorQ1
import Derived.Lib.IndexLaws
set_option linter.unusedSimpArgs false
set_option linter.unusedVariables false
namespace Go.Proofs.YtlhajccbfapieaaGreatDoor.Ab
open Go
set_option linter.unusedSimpArgs false
set_option maxRecDepth 100000
set_option linter.unusedVariables false
set_option maxHeartbeats 4000000
end Go.Proofs.YtlhajccbfapieaaGreatDoor.Ab
namespace Go.Proofs.YtlhajccbfapieaaGreatDoor.Ab
open Go
set_option linter.unusedSimpArgs false
set_option maxRecDepth 100000
set_option linter.unusedVariables false
set_option maxHeartbeats 4000000
end Go.Proofs.YtlhajccbfapieaaGreatDoor.Ab
namespace Go.Proofs.YtlhajccbfapieaaGreatDoor.Ab
open Go
set_option linter.unusedSimpArgs false
set_option maxRecDepth 100000
set_option linter.unusedVariables false
set_option maxHeartbeats 4000000
end Go.Proofs.YtlhajccbfapieaaGreatDoor.Ab
namespace Go.Proofs.YtlhajccbfapieaaGreatDoor.Ab
open Go
set_option linter.unusedSimpArgs false
set_option maxRecDepth 100000
set_option linter.unusedVariables false
set_option maxHeartbeats 4000000
end Go.Proofs.YtlhajccbfapieaaGreatDoor.Ab
namespace Go.Proofs.YtlhajccbfapieaaGreatDoor.Ab
open Go
set_option linter.unusedSimpArgs false
set_option maxRecDepth 100000
set_option linter.unusedVariables false
set_option maxHeartbeats 4000000
def oneL (k n : Int) : List AV := if k = 6 then [I 1, I 0, I k, I n, B false, I 0, I 0] else [I k, I n, I k, I n, B false, I 0, I 0]
theorem one_ok (k n : Int) : Pur F0 30 [.agg [I k, I n]] [] .no (.ret (.agg (oneL k n))) .no := by
 unfold oneL
 refine pur_code code30_ok ?_
 conv => whnf
 by_cases h6 : k = 6
 · have q : ieq k (Int.ofNat 6) = true := by rw [ieq_t]; exact h6
   rw [if_pos h6]
   repeat' ((first | refine bt ?_ | refine bf ?_ | refine vpur_i auto_ok ?_ | refine vl ?_ | fail) <;> conv => whnf)
   exact ⟨rfl, rfl⟩
 · have q : ieq k (Int.ofNat 6) = false := by rw [ieq_f]; exact h6
   rw [if_neg h6]
   repeat' ((first | refine bt ?_ | refine bf ?_ | refine vpur_i auto_ok ?_ | refine vl ?_ | fail) <;> conv => whnf)
   exact ⟨rfl, rfl⟩
end Go.Proofs.YtlhajccbfapieaaGreatDoor.Ab
namespace Go.Proofs.YtlhajccbfapieaaGreatDoor.Ab
open Go
set_option linter.unusedSimpArgs false
set_option maxRecDepth 100000
set_option linter.unusedVariables false
set_option maxHeartbeats 4000000
def oneT (k n : Int) : Trk := if k = 6 then ⟨1, 0, k, n, false, 0, 0⟩ else ⟨k, n, k, n, false, 0, 0⟩
theorem oneT_a (k n : Int) : trkA (oneT k n) = .agg (oneL k n) := by
 unfold oneT oneL
 split <;> rfl
theorem rone_ok (k n : Int) : Pur F0 32 [.agg [I k, I n]] [] .no (.ret (trkA (oneT k n))) .no := by
 unfold oneT
 refine pur_code code32_ok ?_
 conv => whnf
 by_cases h6 : k = 6
 · have q : ieq k (Int.ofNat 6) = true := by rw [ieq_t]; exact h6
   rw [if_pos h6]
   repeat' ((first | refine bt ?_ | refine bf ?_ | refine vl ?_ | fail) <;> conv => whnf)
   exact ⟨rfl, rfl⟩
 · have q : ieq k (Int.ofNat 6) = false := by rw [ieq_f]; exact h6
   rw [if_neg h6]
   repeat' ((first | refine bt ?_ | refine bf ?_ | refine vl ?_ | fail) <;> conv => whnf)
   exact ⟨rfl, rfl⟩
end Go.Proofs.YtlhajccbfapieaaGreatDoor.Ab
namespace Go.Proofs.YtlhajccbfapieaaGreatDoor.Ab
open Go
set_option linter.unusedSimpArgs false
set_option maxRecDepth 100000
set_option linter.unusedVariables false
set_option maxHeartbeats 4000000
def nameB (s : List UInt8) : Bool := decide (s ≠ []) && decide (s.length ≤ 64) && decide (0 ∉ s)
theorem index0 (s : List UInt8) : Lib.indexByte s 0 < 0 ↔ 0 ∉ s := by
 induction s with
 | nil => simp [Lib.indexByte]
 | cons b l ih =>
  have h := Lib.indexByte_ge l 0
  unfold Lib.indexByte
  by_cases hb : b = 0
  · subst hb; simp
  · have hb' : (b == 0) = false := by simpa using hb
    rw [if_neg (by rw [hb']; decide)]
    by_cases hl : Lib.indexByte l 0 = -1
    · have hl' : (Lib.indexByte l 0 == -1) = true := by simpa using hl
      rw [if_pos hl']
      have : 0 ∉ l := ih.1 (by omega)
      simp [this, Ne.symm hb]
    · have hl' : (Lib.indexByte l 0 == -1) = false := by simpa using hl
      rw [if_neg (by rw [hl']; decide)]
      have : ¬ (0 ∉ l) := fun h' => hl (by have := ih.2 h'; omega)
      constructor
      · intro h'; omega
      · intro h'; exact (this fun hm => h' (List.mem_cons_of_mem _ hm)).elim
theorem indexByteS_ok (s : List UInt8) (c : UInt8) : Pur F0 119 [S s, .d (.int .u8 c.toNat)] [] .no (.ret (I (Lib.indexByte s c))) .no := by
 refine pur_code (cf := cfn Tryz.f119) (by kernel_rfl) ?_
 conv => arg 3; reduce
 conv => whnf
 repeat' ((first | refine bt ?_ | refine bf ?_ | refine vpur_i (indexByte_ok s c) ?_ | refine vl ?_ | fail) <;> conv => whnf)
 exact ⟨rfl, rfl⟩
theorem name_ok (s : List UInt8) : Pur F0 90 [S s] [] .no (.ret (B (nameB s))) .no := by
 have h0 := index0 s
 have hi : Pur F0 119 [S s, .d (.int .u8 (Int.ofNat 0))] [] .no (.ret (I (Lib.indexByte s 0))) .no := indexByteS_ok s 0
 refine pur_code code90_ok ?_
 conv => whnf
 repeat' ((first | refine bt ?_ | refine bf ?_ | refine vpur_i hi ?_ | refine vl ?_ | refine vb_i (fun h => ?_) (fun h => ?_) | fail) <;> conv => whnf)
 all_goals (refine ⟨retB ?_, rfl⟩; simp_all [nameB, seq_t, seq_f, ile_t, ile_f, ilt_d, lit0])
 all_goals omega
def customW : List (List UInt8) := [[115, 112, 97, 110], [97, 117, 116, 111], [105, 110, 105, 116, 105, 97, 108], [105, 110, 104, 101, 114, 105, 116], [117, 110, 115, 101, 116], [100, 101, 102, 97, 117, 108, 116], [114, 101, 118, 101, 114, 116]]
def customB (s : List UInt8) : Bool := !anyW s customW && nameB s
theorem custom_ok (s : List UInt8) (hs : s.length ≤ 1000000) : Pur F0 87 [S s] [] .no (.ret (B (customB s))) .no := by
 have e1 : anyW s customW = customW.any fun w => decide (lower s = w) := anyW_id _ (by decide)
 refine pur_code code87_ok ?_
 conv => whnf
 repeat' ((first | refine bt ?_ | refine bf ?_ | refine vpur_i (lower_ok s (by omega)) ?_ | refine vpur_i (name_ok s) ?_ | refine vl ?_ | refine vb_i (fun h => ?_) (fun h => ?_) | fail) <;> conv => whnf)
 all_goals refine ⟨retB ?_, rfl⟩
 all_goals simp only [seq_t, seq_f] at *
 all_goals (unfold customB; rw [e1]; clear e1)
 all_goals generalize lower s = u at *
 all_goals simp_all [customW]
theorem rnought4_ok (s : List UInt8) (hs : s.length ≤ 1000000) : Pur F0 124 [S s] [] .no (.ret (B (decide (0 ∈ s)))) .no := by
 refine pur_code code124_ok ?_
 conv => whnf
 refine vloop_by (σ := { k : Nat // k ≤ s.length ∧ 0 ∉ s.take k }) (fun k => [(0, S s), (2, B false), (3, I (k.1 : Int))]) (fun _ => []) (fun k => s.length - k.1) ?_ ⟨0, Nat.zero_le _, by simp⟩
 rintro ⟨k, hk, hno⟩
 conv => whnf
 by_cases hlt : k < s.length
 · obtain ⟨c, hc⟩ : ∃ c, s[k]? = some c := ⟨s[k], List.getElem?_eq_getElem hlt⟩
   have q : ilt (k : Int) (s.length : Int) = true := by rw [ilt_t]; omega
   have hg : iget s (k : Int) = some c := iget_t hc
   by_cases h0 : c = 0
   · have q2 : ieq (c.toNat : Int) (Int.ofNat 0) = true := by rw [ieq_t, h0]; rfl
     have hm : 0 ∈ s := by rw [← h0]; exact List.mem_of_getElem? hc
     rw [decide_eq_true hm]
     repeat' ((first | refine bt ?_ | refine bf ?_ | refine vo_i hg ?_ | refine vl ?_ | fail) <;> conv => whnf)
     exact ⟨rfl, rfl⟩
   · have q2 : ieq (c.toNat : Int) (Int.ofNat 0) = false := by
      rw [ieq_f]; intro e; exact h0 (UInt8.toNat_inj.1 (Int.ofNat.inj e))
     repeat' ((first | refine bt ?_ | refine bf ?_ | refine vo_i hg ?_ | refine vl ?_ | fail) <;> conv => whnf)
     refine ⟨⟨k + 1, by omega, ?_⟩, by simp only; omega, cons_eq rfl (cons_eq rfl (cons_eq (slot_eq (I_eq (iadd_one (i := k) (by omega)))) rfl)), rfl, rfl, rfl⟩
     rw [List.take_add_one, hc]
     simp [hno, Ne.symm h0]
 · have q : ilt (k : Int) (s.length : Int) = false := by rw [ilt_f]; omega
   have hke : k = s.length := by omega
   subst hke
   rw [List.take_length] at hno
   rw [decide_eq_false hno]
   repeat' ((first | refine bt ?_ | refine bf ?_ | refine vl ?_ | fail) <;> conv => whnf)
   exact ⟨rfl, rfl⟩
theorem rname_ok (s : List UInt8) (hs : s.length ≤ 1000000) : Pur F0 101 [S s] [] .no (.ret (B (nameB s))) .no := by
 have hn := rnought4_ok s hs
 refine pur_code code101_ok ?_
 conv => whnf
 repeat' ((first | refine bt ?_ | refine bf ?_ | refine vpur_i hn ?_ | refine vl ?_ | refine vb_i (fun h => ?_) (fun h => ?_) | fail) <;> conv => whnf)
 all_goals (refine ⟨retB ?_, rfl⟩; simp_all [nameB, seq_t, seq_f, ile_t, ile_f])
 all_goals omega
theorem rcustom_ok (s : List UInt8) (hs : s.length ≤ 1000000) : Pur F0 89 [S s] [] .no (.ret (B (customB s))) .no := by
 have hn := rname_ok s hs
 refine pur_code code89_ok ?_
 conv => whnf
 repeat' ((first | refine bt ?_ | refine bf ?_ | refine vl ?_ | fail) <;> conv => whnf)
 refine vloop_eq2 (fr' := [(0, S s), (2, B false), (3, .osl 0 0 0 7), (4, I 0)]) (h' := [⟨.mine, 9, .arr false 0 1 (customW.map wsRow)⟩]) rfl rfl ?_
 refine vloop_cnt (α := Unit) 7 (fun k _ => anyW s (customW.take k) = false) (fun k _ => [(4, I (k : Int))]) () rfl rfl ?_
 intro k _ hk hI
 conv => whnf
 by_cases hlt : k < 7
 · obtain ⟨w, hw⟩ : ∃ w, customW[k]? = some w := get_in (by simpa [customW] using hlt)
   have hm := get_map (f := wsRow) hw
   have hg : iget (((customW.map wsRow).take 7).drop 0) (k : Int) = some (wsRow w) := iget_sl (by rw [Nat.zero_add]; exact hm) (by omega)
   have hm2 : (customW.map wsRow)[0 + (k : Int).toNat]? = some (wsRow w) := by rw [Nat.zero_add, Int.toNat_natCast]; exact hm
   have hwl : w.length ≤ 1000000 := by
    have : ∀ w ∈ customW, w.length ≤ 10 := by decide
    have := this w (List.mem_of_getElem? hw)
    omega
   by_cases hq : lower s = lower w
   · have q2 : seq (lower s) (lower w) = true := by rw [seq_t]; exact hq
     have hA : customB s = false := by
      have : anyW s customW = true := by unfold anyW; rw [List.any_eq_true]; exact ⟨w, List.mem_of_getElem? hw, by simpa using hq⟩
      unfold customB; rw [this]; rfl
     rw [hA]
     repeat' ((first | refine bt ?_ | refine bf ?_ | refine vb_t (by (first | omega | (simp only [ilt_t, ilt_f, ile_t, ile_f, ieq_t, ieq_f, ofn, List.length_map, Bool.not_eq_true', Bool.not_eq_false'] at *; omega))) ?_ | refine vo_i hg ?_ | refine vo_i hm2 ?_ | refine vpur_i (ris_ok s w hs hwl) ?_ | refine vl ?_ | fail) <;> conv => whnf)
     exact ⟨rfl, rfl⟩
   · have q2 : seq (lower s) (lower w) = false := by rw [seq_f]; exact hq
     repeat' ((first | refine bt ?_ | refine bf ?_ | refine vb_t (by (first | omega | (simp only [ilt_t, ilt_f, ile_t, ile_f, ieq_t, ieq_f, ofn, List.length_map, Bool.not_eq_true', Bool.not_eq_false'] at *; omega))) ?_ | refine vo_i hg ?_ | refine vo_i hm2 ?_ | refine vpur_i (ris_ok s w hs hwl) ?_ | refine vl ?_ | fail) <;> conv => whnf)
     refine ⟨⟨(k + 1, ()), (by omega), ?_⟩, (by simp only; omega), (by repeat' (first | exact rfl | exact slot_eq (I_eq (iadd_one (by omega))) | (refine cons_eq ?_ ?_) | assumption)), rfl, rfl, rfl⟩
     simp only []
     unfold anyW at hI ⊢
     rw [List.take_add_one, hw, List.any_append, hI]
     simpa using hq
 · have hA : customB s = nameB s := by
    rw [List.take_of_length_le (by simp [customW]; omega)] at hI
    unfold customB; rw [hI]; rfl
   rw [hA]
   repeat' ((first | refine bt ?_ | refine bf ?_ | refine vb_f (by (first | omega | (simp only [ilt_t, ilt_f, ile_t, ile_f, ieq_t, ieq_f, ofn, List.length_map, Bool.not_eq_true', Bool.not_eq_false'] at *; omega))) ?_ | refine vpur_i hn ?_ | refine vl ?_ | fail) <;> conv => whnf)
   exact ⟨rfl, rfl⟩
end Go.Proofs.YtlhajccbfapieaaGreatDoor.Ab
namespace Go.Proofs.YtlhajccbfapieaaGreatDoor.Ab
open Go
set_option linter.unusedSimpArgs false
set_option maxRecDepth 100000
set_option linter.unusedVariables false
set_option maxHeartbeats 4000000
def pcA (p : Pc) : AV := .agg ((pcRow p).map .d)
def SmN (l : List (List UInt8)) : Prop := l.length ≤ 1000 ∧ ∀ s ∈ l, s.length ≤ 1000
def trk0 (t : Trk) : Prop := t.ak = 0 ∧ t.an = 0 ∧ t.bk = 0 ∧ t.bn = 0 ∧ t.fit = false ∧ t.lk = 0 ∧ t.ln = 0
def NamesP (l : List (List UInt8)) : Prop := 1 ≤ l.length ∧ l.length ≤ 16 ∧ ∀ s ∈ l, customB s = true
def AutoK (k : Int) : Prop := k = 4 ∨ k = 5
def RepK (k : Int) : Prop := k = 3 ∨ AutoK k
def AloneP (p : Pc) : Prop := (p.kind = 1 ∧ NamesP p.names ∧ p.inner = [] ∧ trk0 p.t ∧ p.count = 0) ∨ (p.kind = 2 ∧ rightT p.t = true ∧ p.names = [] ∧ p.inner = [] ∧ p.count = 0) ∨
 (p.kind = 3 ∧ 1 ≤ p.count ∧ p.count ≤ 10000 ∧ p.names = [] ∧ trk0 p.t) ∨ (AutoK p.kind ∧ p.names = [] ∧ trk0 p.t ∧ p.count = 0)
theorem isAuto_ok (k : Int) : Pur F0 35 [I k] [] .no (.ret (B (pb (AutoK k)))) .no := by
 refine pur_code code35_ok ?_
 conv => whnf
 repeat' ((first | refine bt ?_ | refine bf ?_ | refine vl ?_ | refine vb_i (fun h => ?_) (fun h => ?_) | fail) <;> conv => whnf)
 all_goals (refine ⟨retB ?_, rfl⟩; rw [Bool.eq_iff_iff, pb_iff]; simp_all [AutoK, ieq_t, ieq_f, lit4, lit5])
theorem isRepeat_ok (k : Int) : Pur F0 34 [I k] [] .no (.ret (B (pb (RepK k)))) .no := by
 have hA := isAuto_ok k
 refine pur_code code34_ok ?_
 conv => whnf
 repeat' ((first | refine bt ?_ | refine bf ?_ | refine vpur_i hA ?_ | refine vl ?_ | refine vb_i (fun h => ?_) (fun h => ?_) | fail) <;> conv => whnf)
 all_goals (refine ⟨retB ?_, rfl⟩; rw [Bool.eq_iff_iff, pb_iff]; simp_all [RepK, ieq_t, ieq_f, lit3, pb_iff])
theorem names_all {l : List (List UInt8)} (h : ∀ i s, i < l.length → l[i]? = some s → customB s = true) : ∀ s ∈ l, customB s = true := fun s hs => by
 obtain ⟨i, hi⟩ := List.getElem?_of_mem hs
 exact h i s (List.getElem?_eq_some_iff.1 hi).1 hi
theorem trk0_eq {ak an bk bn lk ln : Int} {fit : Bool} : (ieq ak (Int.ofNat 0) && (ieq an (Int.ofNat 0) && (ieq bk (Int.ofNat 0) && (ieq bn (Int.ofNat 0) && (fit == false && (ieq lk (Int.ofNat 0) && ieq ln (Int.ofNat 0))))))) = pb (trk0 ⟨ak, an, bk, bn, fit, lk, ln⟩) := by
 rw [Bool.eq_iff_iff, pb_iff]
 simp [trk0, ieq_t, lit0]
theorem alone_ok (p : Pc) (hp : PcOk p) (hs : SmN p.names) (hi2 : p.inner.length ≤ 1000000) : Pur F0 61 [pcA p] [] .no (.ret (B (pb (AloneP p)))) .no := by
 cases hp with
 | @mk kd vn names t c vi inner hn hi h0 =>
 simp only [Pc.names, Pc.inner] at hs hi2
 obtain ⟨hs1, hs2⟩ := hs
 obtain ⟨ak, an, bk, bn, fit, lk, ln⟩ := t
 rcases hn with ⟨rfl, hn⟩ | rfl <;> rcases hi with ⟨rfl, hi⟩ | rfl
 · have hn0 : names = [] := List.map_eq_nil_iff.1 hn
   have hi0 : inner = [] := List.map_eq_nil_iff.1 hi
   subst hn0 hi0
   have hz := trk0_eq (ak := ak) (an := an) (bk := bk) (bn := bn) (fit := fit) (lk := lk) (ln := ln)
   have hr := right_ok ⟨ak, an, bk, bn, fit, lk, ln⟩
   have hau := isAuto_ok kd
   by_cases k1 : kd = 1
   · have q1 : ieq kd (Int.ofNat 1) = true := by rw [ieq_t]; exact k1
     by_cases hb : ([] : List (List UInt8)).length < 1 ∨ 16 < ([] : List (List UInt8)).length ∨ 0 < ([] : List Pc).length
     · have hA : pb (AloneP (.mk kd .nilsl ([] : List (List UInt8)) ⟨ak, an, bk, bn, fit, lk, ln⟩ c .nilsl ([] : List Pc))) = false := pb_f (by
        rintro (⟨_, ⟨h1, h2, _⟩, h3, _⟩ | ⟨h1, _⟩ | ⟨h1, _⟩ | ⟨h1, _⟩)
        · have h1' : 1 ≤ ([] : List (List UInt8)).length := h1
          have h2' : ([] : List (List UInt8)).length ≤ 16 := h2
          have h3' : ([] : List Pc) = [] := h3
          have : ([] : List Pc).length = 0 := congrArg List.length h3'
          omega
        · simp only [Pc.kind] at h1; omega
        · simp only [Pc.kind] at h1; omega
        · simp only [Pc.kind, AutoK] at h1; omega)
       rw [hA]
       refine pur_code code61_ok ?_
       conv => whnf
       by_cases b1 : ([] : List (List UInt8)).length < 1
       · repeat' ((first | refine bt ?_ | refine bf ?_ | refine vb_t (by (first | omega | (simp only [ilt_t, ilt_f, ile_t, ile_f, ieq_t, ieq_f, ofn, List.length_map, Bool.not_eq_true', Bool.not_eq_false'] at *; omega))) ?_ | refine vl ?_ | fail) <;> conv => whnf)
         exact ⟨rfl, rfl⟩
       by_cases b2 : 16 < ([] : List (List UInt8)).length
       · repeat' ((first | refine bt ?_ | refine bf ?_ | refine vb_t (by (first | omega | (simp only [ilt_t, ilt_f, ile_t, ile_f, ieq_t, ieq_f, ofn, List.length_map, Bool.not_eq_true', Bool.not_eq_false'] at *; omega))) ?_ | refine vb_f (by (first | omega | (simp only [ilt_t, ilt_f, ile_t, ile_f, ieq_t, ieq_f, ofn, List.length_map, Bool.not_eq_true', Bool.not_eq_false'] at *; omega))) ?_ | refine vl ?_ | fail) <;> conv => whnf)
         exact ⟨rfl, rfl⟩
       have b3 : 0 < ([] : List Pc).length := by omega
       exact absurd b3 (by decide)
     · exact (hb (.inl (by simp))).elim
   · have q1 : ieq kd (Int.ofNat 1) = false := by rw [ieq_f]; exact k1
     by_cases k2 : kd = 2
     · have q2 : ieq kd (Int.ofNat 2) = true := by rw [ieq_t]; exact k2
       have hsum : ieq (iadd .i64 (0 : Int) (0 : Int)) (Int.ofNat 0) = pb (([] : List (List UInt8)) = [] ∧ ([] : List Pc) = []) := by
        rw [iadd64 (by simp; try omega) (by simp; try omega), Bool.eq_iff_iff, ieq_t, pb_iff, ← List.length_eq_zero_iff, ← List.length_eq_zero_iff, lit0]
        try simp only [List.length_map, List.length_nil]
        first | omega | simp
       refine pur_code code61_ok ?_
       conv => whnf
       repeat' ((first | refine bt ?_ | refine bf ?_ | refine vpur_i hr ?_ | (rw [hsum]) | refine vl ?_ | refine vb_i (fun h => ?_) (fun h => ?_) | fail) <;> conv => whnf)
       all_goals (refine ⟨retB ?_, rfl⟩; clear hr hau hs1 hs2 h0 hz hsum; rw [Bool.eq_iff_iff, pb_iff]; simp_all [AloneP, AutoK, Pc.kind, Pc.names, Pc.inner, Pc.t, Pc.count, pb_iff, pb_ff, ieq_t, ieq_f, lit0])
     · have q2 : ieq kd (Int.ofNat 2) = false := by rw [ieq_f]; exact k2
       have hnl : ieq (0 : Int) (Int.ofNat 0) = pb (([] : List (List UInt8)) = []) := by
        rw [Bool.eq_iff_iff, ieq_t, pb_iff, ← List.length_eq_zero_iff, lit0]
        simp
       by_cases k3 : kd = 3
       · have q3 : ieq kd (Int.ofNat 3) = true := by rw [ieq_t]; exact k3
         refine pur_code code61_ok ?_
         conv => whnf
         repeat' ((first | refine bt ?_ | refine bf ?_ | (rw [hnl]) | (rw [hz]) | refine vl ?_ | refine vb_i (fun h => ?_) (fun h => ?_) | fail) <;> conv => whnf)
         all_goals (refine ⟨retB ?_, rfl⟩; clear hr hau hs1 hs2 h0; rw [Bool.eq_iff_iff, pb_iff])
         all_goals (try rw [hz])
         all_goals (clear hz hnl; simp_all [AloneP, AutoK, Pc.kind, Pc.names, Pc.inner, Pc.t, Pc.count, pb_iff, pb_ff, ieq_t, ieq_f, ile_t, ile_f, lit0, lit1])
         all_goals (intros; omega)
       · have q3 : ieq kd (Int.ofNat 3) = false := by rw [ieq_f]; exact k3
         refine pur_code code61_ok ?_
         conv => whnf
         repeat' ((first | refine bt ?_ | refine bf ?_ | refine vpur_i hau ?_ | (rw [hnl]) | (rw [hz]) | refine vl ?_ | refine vb_i (fun h => ?_) (fun h => ?_) | fail) <;> conv => whnf)
         all_goals (refine ⟨retB ?_, rfl⟩; clear hr hau hs1 hs2 h0; rw [Bool.eq_iff_iff, pb_iff])
         all_goals (clear hz hnl; simp_all [AloneP, Pc.kind, Pc.names, Pc.inner, Pc.t, Pc.count, pb_iff, pb_ff, ieq_t, ieq_f, lit0])
         all_goals trace_state
 · have hn0 : names = [] := List.map_eq_nil_iff.1 hn
   subst hn0
   have hz := trk0_eq (ak := ak) (an := an) (bk := bk) (bn := bn) (fit := fit) (lk := lk) (ln := ln)
   have hr := right_ok ⟨ak, an, bk, bn, fit, lk, ln⟩
   have hau := isAuto_ok kd
   by_cases k1 : kd = 1
   · have q1 : ieq kd (Int.ofNat 1) = true := by rw [ieq_t]; exact k1
     by_cases hb : ([] : List (List UInt8)).length < 1 ∨ 16 < ([] : List (List UInt8)).length ∨ 0 < inner.length
     · have hA : pb (AloneP (.mk kd .nilsl ([] : List (List UInt8)) ⟨ak, an, bk, bn, fit, lk, ln⟩ c (.sl 11 (inner.map pcRow)) inner)) = false := pb_f (by
        rintro (⟨_, ⟨h1, h2, _⟩, h3, _⟩ | ⟨h1, _⟩ | ⟨h1, _⟩ | ⟨h1, _⟩)
        · have h1' : 1 ≤ ([] : List (List UInt8)).length := h1
          have h2' : ([] : List (List UInt8)).length ≤ 16 := h2
          have h3' : inner = [] := h3
          have : inner.length = 0 := congrArg List.length h3'
          omega
        · simp only [Pc.kind] at h1; omega
        · simp only [Pc.kind] at h1; omega
        · simp only [Pc.kind, AutoK] at h1; omega)
       rw [hA]
       refine pur_code code61_ok ?_
       conv => whnf
       by_cases b1 : ([] : List (List UInt8)).length < 1
       · repeat' ((first | refine bt ?_ | refine bf ?_ | refine vb_t (by (first | omega | (simp only [ilt_t, ilt_f, ile_t, ile_f, ieq_t, ieq_f, ofn, List.length_map, Bool.not_eq_true', Bool.not_eq_false'] at *; omega))) ?_ | refine vl ?_ | fail) <;> conv => whnf)
         exact ⟨rfl, rfl⟩
       by_cases b2 : 16 < ([] : List (List UInt8)).length
       · repeat' ((first | refine bt ?_ | refine bf ?_ | refine vb_t (by (first | omega | (simp only [ilt_t, ilt_f, ile_t, ile_f, ieq_t, ieq_f, ofn, List.length_map, Bool.not_eq_true', Bool.not_eq_false'] at *; omega))) ?_ | refine vb_f (by (first | omega | (simp only [ilt_t, ilt_f, ile_t, ile_f, ieq_t, ieq_f, ofn, List.length_map, Bool.not_eq_true', Bool.not_eq_false'] at *; omega))) ?_ | refine vl ?_ | fail) <;> conv => whnf)
         exact ⟨rfl, rfl⟩
       have b3 : 0 < inner.length := by omega
       repeat' ((first | refine bt ?_ | refine bf ?_ | refine vb_t (by (first | omega | (simp only [ilt_t, ilt_f, ile_t, ile_f, ieq_t, ieq_f, ofn, List.length_map, Bool.not_eq_true', Bool.not_eq_false'] at *; omega))) ?_ | refine vb_f (by (first | omega | (simp only [ilt_t, ilt_f, ile_t, ile_f, ieq_t, ieq_f, ofn, List.length_map, Bool.not_eq_true', Bool.not_eq_false'] at *; omega))) ?_ | refine vl ?_ | fail) <;> conv => whnf)
       exact ⟨rfl, rfl⟩
     · exact (hb (.inl (by simp))).elim
   · have q1 : ieq kd (Int.ofNat 1) = false := by rw [ieq_f]; exact k1
     by_cases k2 : kd = 2
     · have q2 : ieq kd (Int.ofNat 2) = true := by rw [ieq_t]; exact k2
       have hsum : ieq (iadd .i64 (0 : Int) ((inner.map pcRow).length : Int)) (Int.ofNat 0) = pb (([] : List (List UInt8)) = [] ∧ inner = []) := by
        rw [iadd64 (by simp; try omega) (by simp; try omega), Bool.eq_iff_iff, ieq_t, pb_iff, ← List.length_eq_zero_iff, ← List.length_eq_zero_iff, lit0]
        try simp only [List.length_map, List.length_nil]
        first | omega | simp
       refine pur_code code61_ok ?_
       conv => whnf
       repeat' ((first | refine bt ?_ | refine bf ?_ | refine vpur_i hr ?_ | (rw [hsum]) | refine vl ?_ | refine vb_i (fun h => ?_) (fun h => ?_) | fail) <;> conv => whnf)
       all_goals (refine ⟨retB ?_, rfl⟩; clear hr hau hs1 hs2 h0 hz hsum; rw [Bool.eq_iff_iff, pb_iff]; simp_all [AloneP, AutoK, Pc.kind, Pc.names, Pc.inner, Pc.t, Pc.count, pb_iff, pb_ff, ieq_t, ieq_f, lit0])
     · have q2 : ieq kd (Int.ofNat 2) = false := by rw [ieq_f]; exact k2
       have hnl : ieq (0 : Int) (Int.ofNat 0) = pb (([] : List (List UInt8)) = []) := by
        rw [Bool.eq_iff_iff, ieq_t, pb_iff, ← List.length_eq_zero_iff, lit0]
        simp
       by_cases k3 : kd = 3
       · have q3 : ieq kd (Int.ofNat 3) = true := by rw [ieq_t]; exact k3
         refine pur_code code61_ok ?_
         conv => whnf
         repeat' ((first | refine bt ?_ | refine bf ?_ | (rw [hnl]) | (rw [hz]) | refine vl ?_ | refine vb_i (fun h => ?_) (fun h => ?_) | fail) <;> conv => whnf)
         all_goals (refine ⟨retB ?_, rfl⟩; clear hr hau hs1 hs2 h0; rw [Bool.eq_iff_iff, pb_iff])
         all_goals (try rw [hz])
         all_goals (clear hz hnl; simp_all [AloneP, AutoK, Pc.kind, Pc.names, Pc.inner, Pc.t, Pc.count, pb_iff, pb_ff, ieq_t, ieq_f, ile_t, ile_f, lit0, lit1])
         all_goals (intros; omega)
       · have q3 : ieq kd (Int.ofNat 3) = false := by rw [ieq_f]; exact k3
         refine pur_code code61_ok ?_
         conv => whnf
         repeat' ((first | refine bt ?_ | refine bf ?_ | refine vpur_i hau ?_ | (rw [hnl]) | (rw [hz]) | refine vl ?_ | refine vb_i (fun h => ?_) (fun h => ?_) | fail) <;> conv => whnf)
         all_goals (refine ⟨retB ?_, rfl⟩; clear hr hau hs1 hs2 h0; rw [Bool.eq_iff_iff, pb_iff])
         all_goals (clear hz hnl; simp_all [AloneP, Pc.kind, Pc.names, Pc.inner, Pc.t, Pc.count, pb_iff, pb_ff, ieq_t, ieq_f, lit0])
         all_goals trace_state
 · have hi0 : inner = [] := List.map_eq_nil_iff.1 hi
   subst hi0
   have hz := trk0_eq (ak := ak) (an := an) (bk := bk) (bn := bn) (fit := fit) (lk := lk) (ln := ln)
   have hr := right_ok ⟨ak, an, bk, bn, fit, lk, ln⟩
   have hau := isAuto_ok kd
   by_cases k1 : kd = 1
   · have q1 : ieq kd (Int.ofNat 1) = true := by rw [ieq_t]; exact k1
     by_cases hb : names.length < 1 ∨ 16 < names.length ∨ 0 < ([] : List Pc).length
     · have hA : pb (AloneP (.mk kd (.sl 1 (names.map wsRow)) names ⟨ak, an, bk, bn, fit, lk, ln⟩ c .nilsl ([] : List Pc))) = false := pb_f (by
        rintro (⟨_, ⟨h1, h2, _⟩, h3, _⟩ | ⟨h1, _⟩ | ⟨h1, _⟩ | ⟨h1, _⟩)
        · have h1' : 1 ≤ names.length := h1
          have h2' : names.length ≤ 16 := h2
          have h3' : ([] : List Pc) = [] := h3
          have : ([] : List Pc).length = 0 := congrArg List.length h3'
          omega
        · simp only [Pc.kind] at h1; omega
        · simp only [Pc.kind] at h1; omega
        · simp only [Pc.kind, AutoK] at h1; omega)
       rw [hA]
       refine pur_code code61_ok ?_
       conv => whnf
       by_cases b1 : names.length < 1
       · repeat' ((first | refine bt ?_ | refine bf ?_ | refine vb_t (by (first | omega | (simp only [ilt_t, ilt_f, ile_t, ile_f, ieq_t, ieq_f, ofn, List.length_map, Bool.not_eq_true', Bool.not_eq_false'] at *; omega))) ?_ | refine vl ?_ | fail) <;> conv => whnf)
         exact ⟨rfl, rfl⟩
       by_cases b2 : 16 < names.length
       · repeat' ((first | refine bt ?_ | refine bf ?_ | refine vb_t (by (first | omega | (simp only [ilt_t, ilt_f, ile_t, ile_f, ieq_t, ieq_f, ofn, List.length_map, Bool.not_eq_true', Bool.not_eq_false'] at *; omega))) ?_ | refine vb_f (by (first | omega | (simp only [ilt_t, ilt_f, ile_t, ile_f, ieq_t, ieq_f, ofn, List.length_map, Bool.not_eq_true', Bool.not_eq_false'] at *; omega))) ?_ | refine vl ?_ | fail) <;> conv => whnf)
         exact ⟨rfl, rfl⟩
       have b3 : 0 < ([] : List Pc).length := by omega
       exact absurd b3 (by decide)
     · have b1 : ¬ names.length < 1 := fun h => hb (.inl h)
       have b2 : ¬ 16 < names.length := fun h => hb (.inr (.inl h))
       have b3 : ¬ 0 < ([] : List Pc).length := fun h => hb (.inr (.inr h))
       have hi0 : ([] : List Pc) = [] := List.eq_nil_of_length_eq_zero (by omega)
       refine pur_code code61_ok ?_
       conv => whnf
       repeat' ((first | refine bt ?_ | refine bf ?_ | refine vb_t (by (first | omega | (simp only [ilt_t, ilt_f, ile_t, ile_f, ieq_t, ieq_f, ofn, List.length_map, Bool.not_eq_true', Bool.not_eq_false'] at *; omega))) ?_ | refine vb_f (by (first | omega | (simp only [ilt_t, ilt_f, ile_t, ile_f, ieq_t, ieq_f, ofn, List.length_map, Bool.not_eq_true', Bool.not_eq_false'] at *; omega))) ?_ | refine vl ?_ | fail) <;> conv => whnf)
       refine vloop_cnt (α := Unit) names.length (fun k _ => ∀ i s, i < k → names[i]? = some s → customB s = true) (fun k _ => [(28, I (k : Int))]) () (fun i s h => by omega) rfl ?_
       intro k _ hk hI
       conv => whnf
       by_cases hlt : k < names.length
       · obtain ⟨s, hs⟩ := get_in hlt
         have hg := iget_map (f := wsRow) hs
         have hl := lt_len (f := wsRow) hlt
         have hcu := custom_ok s (by have := hs2 s (List.mem_of_getElem? hs); omega)
         cases hcb : customB s with
         | true =>
          rw [hcb] at hcu
          have hx : (!true) = false := rfl
          repeat' ((first | refine bt ?_ | refine bf ?_ | refine vb_t (by (first | omega | (simp only [ilt_t, ilt_f, ile_t, ile_f, ieq_t, ieq_f, ofn, List.length_map, Bool.not_eq_true', Bool.not_eq_false'] at *; omega))) ?_ | refine vo_i hg ?_ | refine vpur_i hcu ?_ | refine vl ?_ | fail) <;> conv => whnf)
          refine ⟨⟨(k + 1, ()), (by omega), ?_⟩, (by simp only; omega), (by repeat' (first | exact rfl | exact slot_eq (I_eq (iadd_one (by omega))) | (refine cons_eq ?_ ?_) | assumption)), rfl, rfl, rfl⟩
          simp only []
          exact upto_succ hI hs hcb
         | false =>
          rw [hcb] at hcu
          have hA : pb (AloneP (.mk kd (.sl 1 (names.map wsRow)) names ⟨ak, an, bk, bn, fit, lk, ln⟩ c .nilsl ([] : List Pc))) = false := pb_f (by
           rintro (⟨_, ⟨_, _, h1⟩, _⟩ | ⟨h1, _⟩ | ⟨h1, _⟩ | ⟨h1, _⟩)
           · have := h1 s (List.mem_of_getElem? hs); rw [hcb] at this; cases this
           · simp only [Pc.kind] at h1; omega
           · simp only [Pc.kind] at h1; omega
           · simp only [Pc.kind, AutoK] at h1; omega)
          rw [hA]
          repeat' ((first | refine bt ?_ | refine bf ?_ | refine vb_t (by (first | omega | (simp only [ilt_t, ilt_f, ile_t, ile_f, ieq_t, ieq_f, ofn, List.length_map, Bool.not_eq_true', Bool.not_eq_false'] at *; omega))) ?_ | refine vo_i hg ?_ | refine vpur_i hcu ?_ | refine vl ?_ | fail) <;> conv => whnf)
          exact ⟨rfl, rfl⟩
       · have hl := nlt_len (f := wsRow) hlt
         have hN : NamesP names := ⟨by omega, by omega, names_all fun i s h h1 => hI i s (by omega) h1⟩
         repeat' ((first | refine bt ?_ | refine bf ?_ | refine vb_f (by (first | omega | (simp only [ilt_t, ilt_f, ile_t, ile_f, ieq_t, ieq_f, ofn, List.length_map, Bool.not_eq_true', Bool.not_eq_false'] at *; omega))) ?_ | (rw [hz]) | refine vl ?_ | refine vb_i (fun h => ?_) (fun h => ?_) | fail) <;> conv => whnf)
         all_goals (refine ⟨retB ?_, rfl⟩; clear hr hau hs1 hs2 h0 hl hlt hz hI b1 b2 b3 hb; rw [Bool.eq_iff_iff, pb_iff]; simp_all [AloneP, AutoK, Pc.kind, Pc.names, Pc.inner, Pc.t, Pc.count, pb_iff, pb_ff, ieq_t, ieq_f, lit0])
   · have q1 : ieq kd (Int.ofNat 1) = false := by rw [ieq_f]; exact k1
     by_cases k2 : kd = 2
     · have q2 : ieq kd (Int.ofNat 2) = true := by rw [ieq_t]; exact k2
       have hsum : ieq (iadd .i64 ((names.map wsRow).length : Int) (0 : Int)) (Int.ofNat 0) = pb (names = [] ∧ ([] : List Pc) = []) := by
        rw [iadd64 (by simp; try omega) (by simp; try omega), Bool.eq_iff_iff, ieq_t, pb_iff, ← List.length_eq_zero_iff, ← List.length_eq_zero_iff, lit0]
        try simp only [List.length_map, List.length_nil]
        first | omega | simp
       refine pur_code code61_ok ?_
       conv => whnf
       repeat' ((first | refine bt ?_ | refine bf ?_ | refine vpur_i hr ?_ | (rw [hsum]) | refine vl ?_ | refine vb_i (fun h => ?_) (fun h => ?_) | fail) <;> conv => whnf)
       all_goals (refine ⟨retB ?_, rfl⟩; clear hr hau hs1 hs2 h0 hz hsum; rw [Bool.eq_iff_iff, pb_iff]; simp_all [AloneP, AutoK, Pc.kind, Pc.names, Pc.inner, Pc.t, Pc.count, pb_iff, pb_ff, ieq_t, ieq_f, lit0])
     · have q2 : ieq kd (Int.ofNat 2) = false := by rw [ieq_f]; exact k2
       have hnl : ieq ((names.map wsRow).length : Int) (Int.ofNat 0) = pb (names = []) := by
        rw [Bool.eq_iff_iff, ieq_t, pb_iff, ← List.length_eq_zero_iff, lit0]
        simp
       by_cases k3 : kd = 3
       · have q3 : ieq kd (Int.ofNat 3) = true := by rw [ieq_t]; exact k3
         refine pur_code code61_ok ?_
         conv => whnf
         repeat' ((first | refine bt ?_ | refine bf ?_ | (rw [hnl]) | (rw [hz]) | refine vl ?_ | refine vb_i (fun h => ?_) (fun h => ?_) | fail) <;> conv => whnf)
         all_goals (refine ⟨retB ?_, rfl⟩; clear hr hau hs1 hs2 h0; rw [Bool.eq_iff_iff, pb_iff])
         all_goals (try rw [hz])
         all_goals (clear hz hnl; simp_all [AloneP, AutoK, Pc.kind, Pc.names, Pc.inner, Pc.t, Pc.count, pb_iff, pb_ff, ieq_t, ieq_f, ile_t, ile_f, lit0, lit1])
         all_goals (intros; omega)
       · have q3 : ieq kd (Int.ofNat 3) = false := by rw [ieq_f]; exact k3
         refine pur_code code61_ok ?_
         conv => whnf
         repeat' ((first | refine bt ?_ | refine bf ?_ | refine vpur_i hau ?_ | (rw [hnl]) | (rw [hz]) | refine vl ?_ | refine vb_i (fun h => ?_) (fun h => ?_) | fail) <;> conv => whnf)
         all_goals (refine ⟨retB ?_, rfl⟩; clear hr hau hs1 hs2 h0; rw [Bool.eq_iff_iff, pb_iff])
         all_goals (clear hz hnl; simp_all [AloneP, Pc.kind, Pc.names, Pc.inner, Pc.t, Pc.count, pb_iff, pb_ff, ieq_t, ieq_f, lit0])
         all_goals trace_state
 · have hz := trk0_eq (ak := ak) (an := an) (bk := bk) (bn := bn) (fit := fit) (lk := lk) (ln := ln)
   have hr := right_ok ⟨ak, an, bk, bn, fit, lk, ln⟩
   have hau := isAuto_ok kd
   by_cases k1 : kd = 1
   · have q1 : ieq kd (Int.ofNat 1) = true := by rw [ieq_t]; exact k1
     by_cases hb : names.length < 1 ∨ 16 < names.length ∨ 0 < inner.length
     · have hA : pb (AloneP (.mk kd (.sl 1 (names.map wsRow)) names ⟨ak, an, bk, bn, fit, lk, ln⟩ c (.sl 11 (inner.map pcRow)) inner)) = false := pb_f (by
        rintro (⟨_, ⟨h1, h2, _⟩, h3, _⟩ | ⟨h1, _⟩ | ⟨h1, _⟩ | ⟨h1, _⟩)
        · have h1' : 1 ≤ names.length := h1
          have h2' : names.length ≤ 16 := h2
          have h3' : inner = [] := h3
          have : inner.length = 0 := congrArg List.length h3'
          omega
        · simp only [Pc.kind] at h1; omega
        · simp only [Pc.kind] at h1; omega
        · simp only [Pc.kind, AutoK] at h1; omega)
       rw [hA]
       refine pur_code code61_ok ?_
       conv => whnf
       by_cases b1 : names.length < 1
       · repeat' ((first | refine bt ?_ | refine bf ?_ | refine vb_t (by (first | omega | (simp only [ilt_t, ilt_f, ile_t, ile_f, ieq_t, ieq_f, ofn, List.length_map, Bool.not_eq_true', Bool.not_eq_false'] at *; omega))) ?_ | refine vl ?_ | fail) <;> conv => whnf)
         exact ⟨rfl, rfl⟩
       by_cases b2 : 16 < names.length
       · repeat' ((first | refine bt ?_ | refine bf ?_ | refine vb_t (by (first | omega | (simp only [ilt_t, ilt_f, ile_t, ile_f, ieq_t, ieq_f, ofn, List.length_map, Bool.not_eq_true', Bool.not_eq_false'] at *; omega))) ?_ | refine vb_f (by (first | omega | (simp only [ilt_t, ilt_f, ile_t, ile_f, ieq_t, ieq_f, ofn, List.length_map, Bool.not_eq_true', Bool.not_eq_false'] at *; omega))) ?_ | refine vl ?_ | fail) <;> conv => whnf)
         exact ⟨rfl, rfl⟩
       have b3 : 0 < inner.length := by omega
       repeat' ((first | refine bt ?_ | refine bf ?_ | refine vb_t (by (first | omega | (simp only [ilt_t, ilt_f, ile_t, ile_f, ieq_t, ieq_f, ofn, List.length_map, Bool.not_eq_true', Bool.not_eq_false'] at *; omega))) ?_ | refine vb_f (by (first | omega | (simp only [ilt_t, ilt_f, ile_t, ile_f, ieq_t, ieq_f, ofn, List.length_map, Bool.not_eq_true', Bool.not_eq_false'] at *; omega))) ?_ | refine vl ?_ | fail) <;> conv => whnf)
       exact ⟨rfl, rfl⟩
     · have b1 : ¬ names.length < 1 := fun h => hb (.inl h)
       have b2 : ¬ 16 < names.length := fun h => hb (.inr (.inl h))
       have b3 : ¬ 0 < inner.length := fun h => hb (.inr (.inr h))
       have hi0 : inner = [] := List.eq_nil_of_length_eq_zero (by omega)
       refine pur_code code61_ok ?_
       conv => whnf
       repeat' ((first | refine bt ?_ | refine bf ?_ | refine vb_t (by (first | omega | (simp only [ilt_t, ilt_f, ile_t, ile_f, ieq_t, ieq_f, ofn, List.length_map, Bool.not_eq_true', Bool.not_eq_false'] at *; omega))) ?_ | refine vb_f (by (first | omega | (simp only [ilt_t, ilt_f, ile_t, ile_f, ieq_t, ieq_f, ofn, List.length_map, Bool.not_eq_true', Bool.not_eq_false'] at *; omega))) ?_ | refine vl ?_ | fail) <;> conv => whnf)
       refine vloop_cnt (α := Unit) names.length (fun k _ => ∀ i s, i < k → names[i]? = some s → customB s = true) (fun k _ => [(28, I (k : Int))]) () (fun i s h => by omega) rfl ?_
       intro k _ hk hI
       conv => whnf
       by_cases hlt : k < names.length
       · obtain ⟨s, hs⟩ := get_in hlt
         have hg := iget_map (f := wsRow) hs
         have hl := lt_len (f := wsRow) hlt
         have hcu := custom_ok s (by have := hs2 s (List.mem_of_getElem? hs); omega)
         cases hcb : customB s with
         | true =>
          rw [hcb] at hcu
          have hx : (!true) = false := rfl
          repeat' ((first | refine bt ?_ | refine bf ?_ | refine vb_t (by (first | omega | (simp only [ilt_t, ilt_f, ile_t, ile_f, ieq_t, ieq_f, ofn, List.length_map, Bool.not_eq_true', Bool.not_eq_false'] at *; omega))) ?_ | refine vo_i hg ?_ | refine vpur_i hcu ?_ | refine vl ?_ | fail) <;> conv => whnf)
          refine ⟨⟨(k + 1, ()), (by omega), ?_⟩, (by simp only; omega), (by repeat' (first | exact rfl | exact slot_eq (I_eq (iadd_one (by omega))) | (refine cons_eq ?_ ?_) | assumption)), rfl, rfl, rfl⟩
          simp only []
          exact upto_succ hI hs hcb
         | false =>
          rw [hcb] at hcu
          have hA : pb (AloneP (.mk kd (.sl 1 (names.map wsRow)) names ⟨ak, an, bk, bn, fit, lk, ln⟩ c (.sl 11 (inner.map pcRow)) inner)) = false := pb_f (by
           rintro (⟨_, ⟨_, _, h1⟩, _⟩ | ⟨h1, _⟩ | ⟨h1, _⟩ | ⟨h1, _⟩)
           · have := h1 s (List.mem_of_getElem? hs); rw [hcb] at this; cases this
           · simp only [Pc.kind] at h1; omega
           · simp only [Pc.kind] at h1; omega
           · simp only [Pc.kind, AutoK] at h1; omega)
          rw [hA]
          repeat' ((first | refine bt ?_ | refine bf ?_ | refine vb_t (by (first | omega | (simp only [ilt_t, ilt_f, ile_t, ile_f, ieq_t, ieq_f, ofn, List.length_map, Bool.not_eq_true', Bool.not_eq_false'] at *; omega))) ?_ | refine vo_i hg ?_ | refine vpur_i hcu ?_ | refine vl ?_ | fail) <;> conv => whnf)
          exact ⟨rfl, rfl⟩
       · have hl := nlt_len (f := wsRow) hlt
         have hN : NamesP names := ⟨by omega, by omega, names_all fun i s h h1 => hI i s (by omega) h1⟩
         repeat' ((first | refine bt ?_ | refine bf ?_ | refine vb_f (by (first | omega | (simp only [ilt_t, ilt_f, ile_t, ile_f, ieq_t, ieq_f, ofn, List.length_map, Bool.not_eq_true', Bool.not_eq_false'] at *; omega))) ?_ | (rw [hz]) | refine vl ?_ | refine vb_i (fun h => ?_) (fun h => ?_) | fail) <;> conv => whnf)
         all_goals (refine ⟨retB ?_, rfl⟩; clear hr hau hs1 hs2 h0 hl hlt hz hI b1 b2 b3 hb; rw [Bool.eq_iff_iff, pb_iff]; simp_all [AloneP, AutoK, Pc.kind, Pc.names, Pc.inner, Pc.t, Pc.count, pb_iff, pb_ff, ieq_t, ieq_f, lit0])
   · have q1 : ieq kd (Int.ofNat 1) = false := by rw [ieq_f]; exact k1
     by_cases k2 : kd = 2
     · have q2 : ieq kd (Int.ofNat 2) = true := by rw [ieq_t]; exact k2
       have hsum : ieq (iadd .i64 ((names.map wsRow).length : Int) ((inner.map pcRow).length : Int)) (Int.ofNat 0) = pb (names = [] ∧ inner = []) := by
        rw [iadd64 (by simp; try omega) (by simp; try omega), Bool.eq_iff_iff, ieq_t, pb_iff, ← List.length_eq_zero_iff, ← List.length_eq_zero_iff, lit0]
        try simp only [List.length_map, List.length_nil]
        first | omega | simp
       refine pur_code code61_ok ?_
       conv => whnf
       repeat' ((first | refine bt ?_ | refine bf ?_ | refine vpur_i hr ?_ | (rw [hsum]) | refine vl ?_ | refine vb_i (fun h => ?_) (fun h => ?_) | fail) <;> conv => whnf)
       all_goals (refine ⟨retB ?_, rfl⟩; clear hr hau hs1 hs2 h0 hz hsum; rw [Bool.eq_iff_iff, pb_iff]; simp_all [AloneP, AutoK, Pc.kind, Pc.names, Pc.inner, Pc.t, Pc.count, pb_iff, pb_ff, ieq_t, ieq_f, lit0])
     · have q2 : ieq kd (Int.ofNat 2) = false := by rw [ieq_f]; exact k2
       have hnl : ieq ((names.map wsRow).length : Int) (Int.ofNat 0) = pb (names = []) := by
        rw [Bool.eq_iff_iff, ieq_t, pb_iff, ← List.length_eq_zero_iff, lit0]
        simp
       by_cases k3 : kd = 3
       · have q3 : ieq kd (Int.ofNat 3) = true := by rw [ieq_t]; exact k3
         refine pur_code code61_ok ?_
         conv => whnf
         repeat' ((first | refine bt ?_ | refine bf ?_ | (rw [hnl]) | (rw [hz]) | refine vl ?_ | refine vb_i (fun h => ?_) (fun h => ?_) | fail) <;> conv => whnf)
         all_goals (refine ⟨retB ?_, rfl⟩; clear hr hau hs1 hs2 h0; rw [Bool.eq_iff_iff, pb_iff])
         all_goals (try rw [hz])
         all_goals (clear hz hnl; simp_all [AloneP, AutoK, Pc.kind, Pc.names, Pc.inner, Pc.t, Pc.count, pb_iff, pb_ff, ieq_t, ieq_f, ile_t, ile_f, lit0, lit1])
         all_goals (intros; omega)
       · have q3 : ieq kd (Int.ofNat 3) = false := by rw [ieq_f]; exact k3
         refine pur_code code61_ok ?_
         conv => whnf
         repeat' ((first | refine bt ?_ | refine bf ?_ | refine vpur_i hau ?_ | (rw [hnl]) | (rw [hz]) | refine vl ?_ | refine vb_i (fun h => ?_) (fun h => ?_) | fail) <;> conv => whnf)
         all_goals (refine ⟨retB ?_, rfl⟩; clear hr hau hs1 hs2 h0; rw [Bool.eq_iff_iff, pb_iff])
         all_goals (clear hz hnl; simp_all [AloneP, Pc.kind, Pc.names, Pc.inner, Pc.t, Pc.count, pb_iff, pb_ff, ieq_t, ieq_f, lit0])
         all_goals trace_state
end Go.Proofs.YtlhajccbfapieaaGreatDoor.Ab
namespace Go.Proofs.YtlhajccbfapieaaGreatDoor.Ab
open Go
set_option linter.unusedSimpArgs false
set_option maxRecDepth 100000
set_option linter.unusedVariables false
set_option maxHeartbeats 4000000
def fitP : List UInt8 := [102, 105, 116, 45, 99, 111, 110, 116, 101, 110, 116, 40]
def mmP : List UInt8 := [109, 105, 110, 109, 97, 120, 40]
noncomputable def szT (t : Trk) : List UInt8 :=
 if rightT t = true then (if t.fit = true then fitP ++ valText t.lk t.ln ++ [41] else if pb (t = oneT t.bk t.bn) = true then valText t.bk t.bn else mmP ++ valText t.ak t.an ++ [44, 32] ++ valText t.bk t.bn ++ [41]) else []
theorem ktx_len (k : Int) : (keyText k).length ≤ 100 := by
 unfold keyText
 (repeat' split) <;> simp
theorem vtx_len (k n : Int) : (valText k n).length ≤ 300 := by
 unfold valText
 have h1 := numText_len n 64
 have h2 := numText_len n 1000
 have h3 := ktx_len k
 (repeat' split) <;> simp <;> omega
theorem szT_len (t : Trk) : (szT t).length ≤ 700 := by
 unfold szT
 have h1 := vtx_len t.lk t.ln
 have h2 := vtx_len t.ak t.an
 have h3 := vtx_len t.bk t.bn
 (repeat' split) <;> simp [fitP, mmP] <;> omega
theorem trk_eqB (a b : Trk) : (ieq a.ak b.ak && (ieq a.an b.an && (ieq a.bk b.bk && (ieq a.bn b.bn && (a.fit == b.fit && (ieq a.lk b.lk && ieq a.ln b.ln)))))) = pb (a = b) := by
 cases a; cases b
 rw [Bool.eq_iff_iff, pb_iff]
 simp [ieq_t]
theorem tsizeText_ok (t : Trk) : Pur F0 12 [trkA t] [] .no (.ret (S (szT t))) .no := by
 have hR := right_ok t
 have v1 := vtext_ok t.lk t.ln
 have v2 := vtext_ok t.ak t.an
 have v3 := vtext_ok t.bk t.bn
 have l1 := vtx_len t.lk t.ln
 have l2 := vtx_len t.ak t.an
 have l3 := vtx_len t.bk t.bn
 have ho := one_ok t.bk t.bn
 rw [← oneT_a] at ho
 unfold szT
 obtain ⟨a1, a2, a3, a4, a5, a6, a7⟩ := t
 simp only at v1 v2 v3 l1 l2 l3 ho ⊢
 cases e : rightT ⟨a1, a2, a3, a4, a5, a6, a7⟩ with
 | false =>
  rw [e] at hR
  have hy : (!false) = true := rfl
  rw [if_neg (by simp)]
  refine pur_code code12_ok ?_
  conv => whnf
  repeat' ((first | refine bt ?_ | refine bf ?_ | refine vpur_i hR ?_ | refine vl ?_ | fail) <;> conv => whnf)
  exact ⟨rfl, rfl⟩
 | true =>
  rw [e] at hR
  have hx : (!true) = false := rfl
  rw [if_pos rfl]
  cases a5 with
  | true =>
   rw [if_pos rfl]
   refine pur_code code12_ok ?_
   conv => whnf
   repeat' ((first | refine bt ?_ | refine bf ?_ | refine vpur_i hR ?_ | refine vpur_i v1 ?_ | refine vb_t (roomS_t (by simp <;> omega)) ?_ | refine vl ?_ | fail) <;> conv => whnf)
   exact ⟨rfl, rfl⟩
  | false =>
   rw [if_neg (by simp)]
   rcases hT : oneT a3 a4 with ⟨b1, b2, b3, b4, b5, b6, b7⟩
   rw [hT] at ho
   have hE := trk_eqB ⟨a1, a2, a3, a4, false, a6, a7⟩ ⟨b1, b2, b3, b4, b5, b6, b7⟩
   generalize pb ((⟨a1, a2, a3, a4, false, a6, a7⟩ : Trk) = ⟨b1, b2, b3, b4, b5, b6, b7⟩) = x at *
   cases x with
   | true =>
    rw [if_pos rfl]
    refine pur_code code12_ok ?_
    conv => whnf
    repeat' ((first | refine bt ?_ | refine bf ?_ | refine vpur_i hR ?_ | refine vpur_i ho ?_ | refine vpur_i v3 ?_ | refine vb_t hE ?_ | refine vl ?_ | fail) <;> conv => whnf)
    exact ⟨rfl, rfl⟩
   | false =>
    rw [if_neg (by simp)]
    refine pur_code code12_ok ?_
    conv => whnf
    repeat' ((first | refine bt ?_ | refine bf ?_ | refine vpur_i hR ?_ | refine vpur_i ho ?_ | refine vpur_i v2 ?_ | refine vpur_i v3 ?_ | refine vb_f hE ?_ | refine vb_t (roomS_t (by simp <;> omega)) ?_ | refine vl ?_ | fail) <;> conv => whnf)
    exact ⟨rfl, rfl⟩
theorem fr_bad (n : Int) : goodL 6 n 13 = false := by
 unfold goodL
 rw [if_neg (by decide), if_neg (by decide), if_pos rfl, show hasBit 13 16 = false from by unfold hasBit iand; decide +kernel]
 rfl
theorem right_one {t : Trk} (hR : rightT t = true) (hf : t.fit = false) : (t.ak = t.bk ∧ t.an = t.bn) → t = oneT t.bk t.bn := by
 obtain ⟨a1, a2, a3, a4, a5, a6, a7⟩ := t
 simp only at hf ⊢
 subst hf
 rintro ⟨rfl, rfl⟩
 unfold rightT at hR
 rw [if_neg (by simp)] at hR
 simp only [Bool.and_eq_true, decide_eq_true_eq] at hR
 obtain ⟨⟨⟨h1, h2⟩, h3⟩, h4⟩ := hR
 unfold oneT
 rw [if_neg (fun h => by rw [h, fr_bad] at h3; cases h3), h1, h2]
theorem rsizeText_ok (t : Trk) : Pur F0 13 [trkA t] [] .no (.ret (S (szT t))) .no := by
 have hR := rright_ok t
 have v1 := rvtext_ok t.lk t.ln
 have v2 := rvtext_ok t.ak t.an
 have v3 := rvtext_ok t.bk t.bn
 have l1 := vtx_len t.lk t.ln
 have l2 := vtx_len t.ak t.an
 have l3 := vtx_len t.bk t.bn
 have ho := rone_ok t.bk t.bn
 have hro := right_one (t := t)
 unfold szT
 obtain ⟨a1, a2, a3, a4, a5, a6, a7⟩ := t
 simp only at v1 v2 v3 l1 l2 l3 ho hro ⊢
 cases e : rightT ⟨a1, a2, a3, a4, a5, a6, a7⟩ with
 | false =>
  rw [e] at hR
  have hy : (!false) = true := rfl
  rw [if_neg (by simp)]
  refine pur_code code13_ok ?_
  conv => whnf
  repeat' ((first | refine bt ?_ | refine bf ?_ | refine vpur_i hR ?_ | refine vl ?_ | fail) <;> conv => whnf)
  exact ⟨rfl, rfl⟩
 | true =>
  rw [e] at hR
  have hx : (!true) = false := rfl
  rw [if_pos rfl]
  cases a5 with
  | true =>
   rw [if_pos rfl]
   refine pur_code code13_ok ?_
   conv => whnf
   repeat' ((first | refine bt ?_ | refine bf ?_ | refine vpur_i hR ?_ | refine vpur_i v1 ?_ | refine vb_t (roomS_t (by simp <;> omega)) ?_ | refine vl ?_ | fail) <;> conv => whnf)
   exact ⟨rfl, rfl⟩
  | false =>
   rw [if_neg (by simp)]
   have hro := hro e rfl
   rcases hT : oneT a3 a4 with ⟨b1, b2, b3, b4, b5, b6, b7⟩
   rw [hT] at hro ho
   have hE := trk_eqB ⟨a1, a2, a3, a4, false, a6, a7⟩ ⟨b1, b2, b3, b4, b5, b6, b7⟩
   have hM : (ieq a1 a3 && ieq a2 a4) = pb (a1 = a3 ∧ a2 = a4) := by
    rw [Bool.eq_iff_iff, pb_iff]; simp [ieq_t]
   by_cases hm : a1 = a3 ∧ a2 = a4
   · rw [pb_t hm] at hM
     rw [pb_t (hro hm), if_pos rfl]
     refine pur_code code13_ok ?_
     conv => whnf
     repeat' ((first | refine bt ?_ | refine bf ?_ | refine vpur_i hR ?_ | refine vpur_i v3 ?_ | refine vb_t hM ?_ | refine vl ?_ | fail) <;> conv => whnf)
     exact ⟨rfl, rfl⟩
   · rw [pb_f hm] at hM
     clear hro
     generalize pb ((⟨a1, a2, a3, a4, false, a6, a7⟩ : Trk) = ⟨b1, b2, b3, b4, b5, b6, b7⟩) = x at *
     cases x with
     | true =>
      rw [if_pos rfl]
      refine pur_code code13_ok ?_
      conv => whnf
      repeat' ((first | refine bt ?_ | refine bf ?_ | refine vpur_i hR ?_ | refine vpur_i ho ?_ | refine vpur_i v3 ?_ | refine vb_f hM ?_ | refine vb_t hE ?_ | refine vl ?_ | fail) <;> conv => whnf)
      exact ⟨rfl, rfl⟩
     | false =>
      rw [if_neg (by simp)]
      refine pur_code code13_ok ?_
      conv => whnf
      repeat' ((first | refine bt ?_ | refine bf ?_ | refine vpur_i hR ?_ | refine vpur_i ho ?_ | refine vpur_i v2 ?_ | refine vpur_i v3 ?_ | refine vb_f hM ?_ | refine vb_f hE ?_ | refine vb_t (roomS_t (by simp <;> omega)) ?_ | refine vl ?_ | fail) <;> conv => whnf)
      exact ⟨rfl, rfl⟩
end Go.Proofs.YtlhajccbfapieaaGreatDoor.Ab
namespace Go.Proofs.YtlhajccbfapieaaGreatDoor.Ab
open Go
set_option linter.unusedSimpArgs false
set_option maxRecDepth 100000
set_option linter.unusedVariables false
set_option maxHeartbeats 4000000
def letterB (c : UInt8) : Bool := decide (97 ≤ c.toNat ∧ c.toNat ≤ 122 ∨ 65 ≤ c.toNat ∧ c.toNat ≤ 90 ∨ c.toNat = 95 ∨ 128 ≤ c.toNat)
def blankB (c : UInt8) : Bool := decide (c.toNat = 32 ∨ c.toNat = 9 ∨ c.toNat = 10 ∨ c.toNat = 13 ∨ c.toNat = 12)
theorem letter_ok (c : UInt8) : Pur F0 93 [.d (.int .u8 c.toNat)] [] .no (.ret (B (letterB c))) .no := by
 refine pur_code code93_ok ?_
 conv => whnf
 repeat' ((first | refine bt ?_ | refine bf ?_ | refine vl ?_ | refine vb_i (fun h => ?_) (fun h => ?_) | fail) <;> conv => whnf)
 all_goals refine ⟨congrArg CR.ret (congrArg AV.d (congrArg DV.bool ?_)), rfl⟩
 all_goals simp only [ile_d, ieq_d, ile_t, ile_f, ieq_t, ieq_f, ofn, decide_eq_true_eq, decide_eq_false_iff_not] at *
 all_goals (rw [Bool.eq_iff_iff]; simp [letterB, blankB, isDig]; omega)
end Go.Proofs.YtlhajccbfapieaaGreatDoor.Ab
namespace Go.Proofs.YtlhajccbfapieaaGreatDoor.Ab
open Go
set_option linter.unusedSimpArgs false
set_option maxRecDepth 100000
set_option linter.unusedVariables false
set_option maxHeartbeats 4000000
def bld0 : Heap := [⟨.mine, 111, .fix [.d .nilp, .d .nilsl]⟩]
def bld (g : Nat) (l : List UInt8) : Heap := [⟨.mine, 111, .fix [.ptr 0 0, .osl 1 g 0 l.length]⟩, ⟨.mine, 5, .arr true g 1 (l.map byteRow)⟩]
theorem copy0_ok : CallsTo F0 121 [.ptr 0 0] bld0 .no ⟨.ret (.tup []), [⟨.mine, 111, .fix [.ptr 0 0, .d .nilsl]⟩], .no⟩ := ⟨20, by kernel_rfl⟩
theorem copy1_ok (g : Nat) (l : List UInt8) : CallsTo F0 121 [.ptr 0 0] (bld g l) .no ⟨.ret (.tup []), bld g l, .no⟩ := by
 refine calls_code code121_ok ?_
 conv => whnf
 repeat' ((first | refine bt ?_ | refine bf ?_ | refine vl ?_ | fail) <;> conv => whnf)
 exact rfl
def bldA (g : Nat) (l : List UInt8) : Obj := ⟨.mine, 5, .arr true g 1 (l.map byteRow)⟩
def bldB (i g n : Nat) : Obj := ⟨.mine, 111, .fix [.ptr 0 0, .osl i g 0 n]⟩
theorem string1_ok (g : Nat) (l : List UInt8) (hl : l.length ≤ 100000) (h0 : l ≠ []) : CallsTo F0 99 [.ptr 0 0] (bld g l) .no ⟨.ret (S l), [bldB 1 g l.length, bldA (g + 1) []], .no⟩ := by
 have hgg : Nat.beq g g = true := by simp
 have hb : Nat.blt 0 l.length = true := by
  have := List.length_pos_iff.2 h0
  rw [Nat.blt_eq]; exact this
 have he : (l.map byteRow).isEmpty = false := by
  cases l with
  | nil => exact (h0 rfl).elim
  | cons c t => rfl
 have hz : iz (l.length : Int) = false := by
  have := List.length_pos_iff.2 h0
  rw [iz_f]; omega
 have hcut : icut (l.map byteRow) (0 : Nat) ((0 : Nat) + (l.length : Int)) = some (l.map byteRow) := by
  rw [icut_t (by omega) (by omega) (by rw [List.length_map]; omega)]
  congr 1
  have : (((0 : Nat) : Int) + (l.length : Int)).toNat = (l.map byteRow).length := by rw [List.length_map]; omega
  rw [this, List.take_length]; rfl
 have htx := textOf_bytes l
 refine calls_code code99_ok ?_
 conv => whnf
 repeat' ((first | refine bt ?_ | refine bf ?_ | refine vo_i hcut ?_ | refine vo_i htx ?_ | refine vb_t (roomS_t (by simp <;> omega)) ?_ | refine vl ?_ | fail) <;> conv => whnf)
 trace_state
 exact rfl
end Go.Proofs.YtlhajccbfapieaaGreatDoor.Ab
