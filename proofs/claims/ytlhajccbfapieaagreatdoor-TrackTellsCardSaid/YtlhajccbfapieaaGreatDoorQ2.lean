/- Some texts as one, one behind the other; what is not leaned on is left out. -/
import Derived.Test.YtlhajccbfapieaaGreatDoorAbCfg
import Derived.Test.YtlhajccbfapieaaGreatDoorAbSome
import Derived.Test.YtlhajccbfapieaaGreatDoorQ1
import Derived.Test.YtlhajccbfapieaaGreatDoorC00q
set_option linter.unusedSimpArgs false
set_option linter.unusedVariables false
namespace Go.Proofs.YtlhajccbfapieaaGreatDoor.Ab
open Go
set_option linter.unusedSimpArgs false
set_option maxRecDepth 100000
set_option linter.unusedVariables false
def low (c : UInt8) : UInt8 := if 65 ≤ c.toNat ∧ c.toNat ≤ 90 then c + 32 else c
def lowTo (s : List UInt8) (i : Nat) : List UInt8 := (s.take i).map low ++ s.drop i
def lower (s : List UInt8) : List UInt8 := s.map low
theorem lowTo_get {s : List UInt8} {i : Nat} {c : UInt8} (h : s[i]? = some c) : (lowTo s i)[i]? = some c := by
 have hl := (List.getElem?_eq_some_iff.1 h).1
 unfold lowTo
 rw [List.getElem?_append_right (by simp; omega)]
 simp [Nat.min_eq_left (Nat.le_of_lt hl), h]
theorem lowTo_succ {s : List UInt8} {i : Nat} {c : UInt8} (h : s[i]? = some c) : (lowTo s i).set i (low c) = lowTo s (i + 1) := by
 have hl := (List.getElem?_eq_some_iff.1 h).1
 have hc := (List.getElem?_eq_some_iff.1 h).2
 unfold lowTo
 rw [List.set_append_right _ _ (by simp; omega), List.take_succ_eq_append_getElem hl, List.drop_eq_getElem_cons hl, hc]
 simp [Nat.min_eq_left (Nat.le_of_lt hl)]
theorem lowTo_id {s : List UInt8} {i : Nat} {c : UInt8} (h : s[i]? = some c) (hc : low c = c) : lowTo s i = lowTo s (i + 1) := by
 rw [← lowTo_succ h, hc]
 obtain ⟨h1, h2⟩ := List.getElem?_eq_some_iff.1 (lowTo_get h)
 rw [← h2, List.set_getElem_self]
theorem iadd_u8 {c : UInt8} (h : c.toNat ≤ 200) : iadd .u8 (c.toNat : Int) (Int.ofNat 32) = ((c + 32).toNat : Int) := by
 have e : (c + 32).toNat = c.toNat + 32 := by rw [UInt8.toNat_add]; simp; omega
 unfold iadd
 rw [e]
 simp only [Int.ofNat_eq_natCast, IntKind.wrap, IntKind.signed, IntKind.bits, Bool.false_and, Bool.false_eq_true, if_false]
 omega
theorem lower_ok (s : List UInt8) (hs : s.length ≤ 140737488355328) : Pur F0 106 [S s] [] .no (.ret (S (lower s))) .no := by
 refine pur_code (cf := cfn Tryz.f106) (by kernel_rfl) ?_
 conv => arg 3; reduce
 conv => whnf
 refine vloop_by (σ := { i : Nat // i ≤ s.length }) (fun i => [(2, S []), (3, .osl 0 0 0 s.length), (8, I (↑s.length - ↑0)), (9, I i.1)]) (fun i => [⟨.mine, _, .arr false 0 1 ((lowTo s i.1).map byteRow)⟩]) (fun i => s.length - i.1) ?_ ⟨0, Nat.zero_le _⟩
 rintro ⟨i, hi⟩
 conv => whnf
 refine vb_i (fun h => ?_) (fun h => ?_)
 · simp only [ilt_t] at h
   have hlt : i < s.length := by omega
   obtain ⟨c, hc⟩ : ∃ c, s[i]? = some c := ⟨s[i], List.getElem?_eq_getElem hlt⟩
   have hr : ((lowTo s i).map byteRow)[i]? = some (byteRow c) := by rw [List.getElem?_map, lowTo_get hc]; rfl
   have hg : iget (((((lowTo s i).map byteRow)).take s.length).drop 0) (i : Int) = some (byteRow c) := iget_sl (by rw [Nat.zero_add]; exact hr) (by omega)
   have hr2 : ((lowTo s i).map byteRow)[0 + (i : Int).toNat]? = some (byteRow c) := by rw [Nat.zero_add, Int.toNat_natCast]; exact hr
   conv => whnf
   repeat' (first
    | (refine vb_t rfl ?_; conv => whnf)
    | (refine vb_f rfl ?_; conv => whnf)
    | (refine vb_t (by assumption) ?_; conv => whnf)
    | (refine vb_f (by assumption) ?_; conv => whnf)
    | (refine vo_i hg ?_; conv => whnf)
    | (refine vo_i hr2 ?_; conv => whnf)
    | (refine vb_i (fun h => ?_) (fun h => ?_) <;> conv => whnf))
   all_goals refine ⟨⟨i + 1, hlt⟩, by simp only; omega, ?_, ?_, rfl, rfl⟩
   all_goals try exact cons_eq rfl (cons_eq rfl (cons_eq rfl (cons_eq (slot_eq (I_eq (iadd_one (i := i) (by omega)))) rfl)))
   all_goals simp only [ile_t, ile_f] at *
   · refine cons_eq (arr_eq ?_) rfl
     rw [Nat.zero_add, Int.toNat_natCast, ← lowTo_succ hc, List.map_set]
     congr 1
     unfold low
     simp only [Int.ofNat_eq_natCast] at *
     rw [if_pos (by omega)]
     show [DV.int IntKind.u8 _] = [DV.int IntKind.u8 _]
     congr 2
     exact iadd_u8 (by omega)
   all_goals refine cons_eq (arr_eq (congrArg (List.map byteRow) (lowTo_id hc ?_))) rfl
   all_goals (unfold low; simp only [Int.ofNat_eq_natCast] at *; rw [if_neg (by omega)])
 · conv => whnf
   repeat' (first
    | (refine vb_t rfl ?_; conv => whnf))
   simp only [ilt_f] at h
   have : i = s.length := by omega
   subst this
   have ht : textOf (List.drop 0 (List.take s.length (List.map byteRow (lowTo s s.length)))) = some (lower s) := by
    rw [List.drop_zero, List.take_of_length_le (by simp [lowTo]), textOf_bytes]
    simp [lowTo, lower]
   refine vo_i ht ?_
   conv => whnf
   exact ⟨rfl, rfl⟩
end Go.Proofs.YtlhajccbfapieaaGreatDoor.Ab
namespace Go.Proofs.YtlhajccbfapieaaGreatDoor.Ab
open Go
set_option linter.unusedSimpArgs false
set_option maxRecDepth 100000
set_option linter.unusedVariables false
set_option maxHeartbeats 4000000
end Go.Proofs.YtlhajccbfapieaaGreatDoor.Ab
namespace Go.Proofs.YtlhajccbfapieaaGreatDoor.Ab
open Go
set_option linter.unusedSimpArgs false
set_option maxRecDepth 100000
set_option linter.unusedVariables false
set_option maxHeartbeats 4000000
theorem isScale_ok (n : Int) : Pur F0 84 [I n] [] .no (.ret (B (decide (n = 1 ∨ n = 64 ∨ n = 1000)))) .no := by
 refine pur_code (cf := cfn Tryz.f84) (by kernel_rfl) ?_
 conv => arg 3; reduce
 conv => whnf
 repeat' ((first | refine bt ?_ | refine bf ?_ | refine vl ?_ | refine vb_i (fun h => ?_) (fun h => ?_) | fail) <;> conv => whnf)
 all_goals (refine ⟨?_, rfl⟩; simp_all [ieq_d])
def isDig (c : UInt8) : Bool := decide (48 ≤ c.toNat) && decide (c.toNat ≤ 57)
end Go.Proofs.YtlhajccbfapieaaGreatDoor.Ab
namespace Go.Proofs.YtlhajccbfapieaaGreatDoor.Ab
open Go
set_option linter.unusedSimpArgs false
set_option maxRecDepth 100000
set_option linter.unusedVariables false
set_option maxHeartbeats 4000000
end Go.Proofs.YtlhajccbfapieaaGreatDoor.Ab
namespace Go.Proofs.YtlhajccbfapieaaGreatDoor.Ab
open Go
set_option linter.unusedSimpArgs false
set_option maxRecDepth 100000
set_option linter.unusedVariables false
set_option maxHeartbeats 4000000
end Go.Proofs.YtlhajccbfapieaaGreatDoor.Ab
namespace Go.Proofs.YtlhajccbfapieaaGreatDoor.Ab
open Go
set_option linter.unusedSimpArgs false
set_option maxRecDepth 100000
set_option linter.unusedVariables false
set_option maxHeartbeats 4000000
def anyW (s : List UInt8) (l : List (List UInt8)) : Bool := l.any fun w => decide (lower s = lower w)
theorem anyW_id (s : List UInt8) {l : List (List UInt8)} (h : l.map lower = l) : anyW s l = l.any fun w => decide (lower s = w) := by
 have : ∀ l : List (List UInt8), l.map lower = l → anyW s l = l.any fun w => decide (lower s = w) := by
  intro l
  induction l with
  | nil => intro _; rfl
  | cons w l ih =>
   intro h
   simp only [List.map_cons, List.cons.injEq] at h
   have := ih h.2
   unfold anyW at *
   rw [List.any_cons, List.any_cons, h.1, this]
 exact this l h
end Go.Proofs.YtlhajccbfapieaaGreatDoor.Ab
namespace Go.Proofs.YtlhajccbfapieaaGreatDoor.Ab
open Go
set_option linter.unusedSimpArgs false
set_option maxRecDepth 100000
set_option linter.unusedVariables false
set_option maxHeartbeats 4000000
end Go.Proofs.YtlhajccbfapieaaGreatDoor.Ab
namespace Go.Proofs.YtlhajccbfapieaaGreatDoor.Ab
open Go
set_option linter.unusedSimpArgs false
set_option maxRecDepth 100000
set_option linter.unusedVariables false
set_option maxHeartbeats 4000000
end Go.Proofs.YtlhajccbfapieaaGreatDoor.Ab
