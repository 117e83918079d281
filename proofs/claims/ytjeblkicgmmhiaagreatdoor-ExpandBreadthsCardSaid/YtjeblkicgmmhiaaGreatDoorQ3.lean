/- Some texts as one, one behind the other; what is not leaned on is left out. -/
import Derived.Test.YtjeblkicgmmhiaaGreatDoorQ2
import Derived.Test.YtjeblkicgmmhiaaGreatDoorC00q
import Derived.Test.YtjeblkicgmmhiaaGreatDoorQ1
import Derived.Test.YtjeblkicgmmhiaaGreatDoorAbTy
namespace Go.Proofs.YtjeblkicgmmhiaaGreatDoor.Ab
open Go
set_option linter.unusedSimpArgs false
set_option maxRecDepth 100000
set_option linter.unusedVariables false
set_option maxHeartbeats 4000000
end Go.Proofs.YtjeblkicgmmhiaaGreatDoor.Ab
namespace Go.Proofs.YtjeblkicgmmhiaaGreatDoor.Ab
open Go
set_option linter.unusedSimpArgs false
set_option maxRecDepth 100000
set_option linter.unusedVariables false
set_option maxHeartbeats 4000000
end Go.Proofs.YtjeblkicgmmhiaaGreatDoor.Ab
namespace Go.Proofs.YtjeblkicgmmhiaaGreatDoor.Ab
open Go
set_option linter.unusedSimpArgs false
set_option maxRecDepth 100000
set_option linter.unusedVariables false
set_option maxHeartbeats 4000000
end Go.Proofs.YtjeblkicgmmhiaaGreatDoor.Ab
namespace Go.Proofs.YtjeblkicgmmhiaaGreatDoor.Ab
open Go
set_option linter.unusedSimpArgs false
set_option maxRecDepth 100000
set_option linter.unusedVariables false
set_option maxHeartbeats 4000000
/-! Lists of texts. -/
end Go.Proofs.YtjeblkicgmmhiaaGreatDoor.Ab
namespace Go.Proofs.YtjeblkicgmmhiaaGreatDoor.Ab
open Go Go.ChangeShapes Go.WideShapes Go.RowKit
set_option linter.unusedSimpArgs false
set_option maxRecDepth 100000
set_option linter.unusedVariables false
theorem trk_of {d : Nat} {xs : List DV} (h : Shape Tryz.prog d 28 xs) : ∃ t : Trk, xs = trkRow t := by
  cases d with
  | zero => exact h.elim
  | succ d =>
    rw [Shape, Tryz.underlying28] at h
    obtain ⟨x0, r0, rfl, h0, x1, r1, rfl, h1, x2, r2, rfl, h2, x3, r3, rfl, h3, rfl⟩ := h
    obtain ⟨a, b, rfl⟩ := len_of h0
    obtain ⟨c, e, rfl⟩ := len_of h1
    obtain ⟨f, rfl⟩ := bool_of h2
    obtain ⟨g, i, rfl⟩ := len_of h3
    exact ⟨⟨a, b, c, e, f, g, i⟩, rfl⟩
theorem arg_trk (t : Trk) : argA Tryz.prog 28 (trkRow t) = trkA t := by simp only [argA, Tryz.underlying28]; rfl
end Go.Proofs.YtjeblkicgmmhiaaGreatDoor.Ab
namespace Go.Proofs.YtjeblkicgmmhiaaGreatDoor.Ab
open Go
set_option linter.unusedSimpArgs false
set_option maxRecDepth 100000
set_option linter.unusedVariables false
set_option maxHeartbeats 4000000
def withinS (n : Int) : Bool := decide (0 ≤ n) && isPx n
theorem ewithin_ok (n : Int) : Pur F0 49 [I n] [] .no (.ret (B (withinS n))) .no := by
  refine pur_code code49_ok ?_
  conv => whnf
  repeat' (first
    | (refine vb_t rfl ?_; conv => whnf)
    | (refine vb_f rfl ?_; conv => whnf)
    | (refine vb_t (by assumption) ?_; conv => whnf)
    | (refine vb_f (by assumption) ?_; conv => whnf)
    | (refine vpur_i (fixedIs_ok _) ?_; conv => whnf)
    | (refine vor_l ?_; conv => whnf)
    | (refine vb_i (fun h => ?_) (fun h => ?_) <;> conv => whnf)
    | fail)
  all_goals (refine ⟨retB ?_, rfl⟩; simp_all [withinS, ile_t, ile_f, lit0])
  all_goals (intro h; omega)
theorem rwithin_ok (n : Int) : Pur F0 53 [I n] [] .no (.ret (B (withinS n))) .no := by
  refine pur_code code53_ok ?_
  conv => whnf
  repeat' (first
    | (refine vb_t rfl ?_; conv => whnf)
    | (refine vb_f rfl ?_; conv => whnf)
    | (refine vb_t (by assumption) ?_; conv => whnf)
    | (refine vb_f (by assumption) ?_; conv => whnf)
    | (refine vor_l ?_; conv => whnf)
    | (refine vb_i (fun h => ?_) (fun h => ?_) <;> conv => whnf)
    | fail)
  all_goals (refine ⟨retB ?_, rfl⟩; simp_all [withinS, isPx, ile_t, ile_f, ile_d, lit0])
  all_goals (intro h; omega)
/-- The breadth of a track, of a size. -/
def brS (t : Trk) (size : Int) : Int × Int :=
  if (fixedT t && rightT t && withinS size) = false then (0, 2)
  else if (lenR t.ak t.an size true).2.2 ≠ 0 then (0, (lenR t.ak t.an size true).2.2)
  else if (lenR t.bk t.bn size true).2.2 ≠ 0 then (0, (lenR t.bk t.bn size true).2.2)
  else (if (lenR t.bk t.bn size true).2.1 = true then imax (if (lenR t.ak t.an size true).2.1 = true then imax 64 (lenR t.ak t.an size true).1 else 64) (lenR t.bk t.bn size true).1
    else if (lenR t.ak t.an size true).2.1 = true then imax 64 (lenR t.ak t.an size true).1 else 64, 0)
theorem pct_0 {m b : Int} (h : (pct m b).2 ≠ 0) : (pct m b).1 = 0 := by
  unfold pct at *
  split
  · rename_i h1
    rw [if_pos h1] at h
    split
    · rename_i h2; rw [if_pos h2] at h; exact (h rfl).elim
    · rfl
  · rfl
theorem lenR_0 {k n b : Int} {d : Bool} (h : (lenR k n b d).2.1 = false) : (lenR k n b d).1 = 0 := by
  unfold lenR at *
  split at h
  · cases h
  · rename_i h1
    rw [if_neg h1]
    split at h
    · rename_i h2
      rw [if_pos h2]
      simp only [decide_eq_false_iff_not] at h
      exact pct_0 h
    · rename_i h2
      rw [if_neg h2]
theorem breadth_ok (t : Trk) (size : Int) : Pur F0 18 [trkA t, I size] [] .no (.ret (.tup [I (brS t size).1, I (brS t size).2])) .no := by
  have f1 := fixed_ok t
  have f2 := right_ok t
  have f3 := ewithin_ok size
  have a1 := resolve_ok t.ak t.an size true
  have a2 := resolve_ok t.bk t.bn size true
  have l1 : ilt (Int.ofNat 0) (Int.ofNat 2) = true := by rw [ilt_t]; decide
  have l2 : ilt (Int.ofNat 1) (Int.ofNat 2) = true := by rw [ilt_t]; decide
  have l3 : ilt (Int.ofNat 2) (Int.ofNat 2) = false := by rw [ilt_f]; decide
  have j1 : (ile 0 (Int.ofNat 0) && ilt (Int.ofNat 0) (Int.ofNat 2)) = true := by rw [l1, show ile 0 (Int.ofNat 0) = true from by rw [ile_t]; decide]; rfl
  have j2 : (ile 0 (Int.ofNat 1) && ilt (Int.ofNat 1) (Int.ofNat 2)) = true := by rw [l2, show ile 0 (Int.ofNat 1) = true from by rw [ile_t]; decide]; rfl
  have i1 : iadd .i64 (Int.ofNat 0) (Int.ofNat 1) = Int.ofNat 1 := by rw [iadd64] <;> decide
  have i2 : iadd .i64 (Int.ofNat 1) (Int.ofNat 1) = Int.ofNat 2 := by rw [iadd64] <;> decide
  unfold brS
  generalize fixedT t = x at *
  generalize rightT t = y at *
  generalize withinS size = z at *
  generalize lenR t.ak t.an size true = r at *
  generalize lenR t.bk t.bn size true = s at *
  obtain ⟨n, is, e⟩ := r
  obtain ⟨m, js, f⟩ := s
  obtain ⟨ak, an, bk, bn, fit, lk, ln⟩ := t
  refine pur_code code18_ok ?_
  conv => whnf
  repeat' (first
    | (refine vb_t rfl ?_; conv => whnf)
    | (refine vb_f rfl ?_; conv => whnf)
    | (refine vb_t (by assumption) ?_; conv => whnf)
    | (refine vb_f (by assumption) ?_; conv => whnf)
    | (refine vpur_i f1 ?_; conv => whnf)
    | (refine vpur_i f2 ?_; conv => whnf)
    | (refine vpur_i f3 ?_; conv => whnf)
    | (refine vpur_i a1 ?_; conv => whnf)
    | (refine vpur_i a2 ?_; conv => whnf)
    | (rw [i1]; conv => whnf)
    | (rw [i2]; conv => whnf)
    | (refine vloop_once ?_; conv => whnf)
    | (refine vor_l ?_; conv => whnf)
    | (refine vb_i (fun h => ?_) (fun h => ?_) <;> conv => whnf)
    | fail)
  all_goals (refine ⟨?_, rfl⟩; simp_all [lit0, lit2, lit64, ieq_t, ieq_f])
theorem rbreadth_ok (t : Trk) (size : Int) : Pur F0 19 [trkA t, I size] [] .no (.ret (.tup [I (brS t size).1, I (brS t size).2])) .no := by
  have f1 := rfixed_ok t
  have f2 := rright_ok t
  have f3 := rwithin_ok size
  have a1 := rresolve_ok t.ak t.an size true
  have a2 := rresolve_ok t.bk t.bn size true
  have z1 := lenR_0 (k := t.ak) (n := t.an) (b := size) (d := true)
  have z2 := lenR_0 (k := t.bk) (n := t.bn) (b := size) (d := true)
  unfold brS
  generalize fixedT t = x at *
  generalize rightT t = y at *
  generalize withinS size = z at *
  generalize lenR t.ak t.an size true = r at *
  generalize lenR t.bk t.bn size true = s at *
  obtain ⟨n, is, e⟩ := r
  obtain ⟨m, js, f⟩ := s
  obtain ⟨ak, an, bk, bn, fit, lk, ln⟩ := t
  refine pur_code code19_ok ?_
  conv => whnf
  repeat' (first
    | (refine vb_t rfl ?_; conv => whnf)
    | (refine vb_f rfl ?_; conv => whnf)
    | (refine vb_t (by assumption) ?_; conv => whnf)
    | (refine vb_f (by assumption) ?_; conv => whnf)
    | (refine vpur_i f1 ?_; conv => whnf)
    | (refine vpur_i f2 ?_; conv => whnf)
    | (refine vpur_i f3 ?_; conv => whnf)
    | (refine vpur_i a1 ?_; conv => whnf)
    | (refine vpur_i a2 ?_; conv => whnf)
    | (refine vor_l ?_; conv => whnf)
    | (refine vb_i (fun h => ?_) (fun h => ?_) <;> conv => whnf)
    | fail)
  all_goals (refine ⟨?_, rfl⟩; simp_all [lit0, lit2, lit64, ieq_t, ieq_f, ilt_t, ilt_f, imax])
  all_goals (try ((repeat' split) <;> omega))
  all_goals (cases is <;> simp_all <;> ((repeat' split) <;> omega))
end Go.Proofs.YtjeblkicgmmhiaaGreatDoor.Ab
namespace Go.Proofs.YtjeblkicgmmhiaaGreatDoor.Ab
open Go
set_option maxRecDepth 100000
theorem lives15_ok : Pur F0 20 [] [] .no (.ret (B true)) .no := pur_closed (n := 100) (by kernel_rfl)
end Go.Proofs.YtjeblkicgmmhiaaGreatDoor.Ab
namespace Go.Proofs.YtjeblkicgmmhiaaGreatDoor.Ab
open Go
set_option linter.unusedSimpArgs false
set_option maxRecDepth 100000
set_option linter.unusedVariables false
set_option maxHeartbeats 4000000
theorem expandBreadths_ok (t : Trk) (size : Int) : Pur F0 4 [trkA t, I size] [] .no (.ret (B true)) .no := by
  have h1 := breadth_ok t size
  have h2 := rbreadth_ok t size
  generalize brS t size = r at *
  obtain ⟨n, e⟩ := r
  have q1 : ieq n n = true := by rw [ieq_t]
  have q2 : ieq e e = true := by rw [ieq_t]
  obtain ⟨ak, an, bk, bn, fit, lk, ln⟩ := t
  refine pur_code code4_ok ?_
  conv => whnf
  repeat' (first
    | (refine vb_t rfl ?_; conv => whnf)
    | (refine vb_f rfl ?_; conv => whnf)
    | (refine vb_t (by assumption) ?_; conv => whnf)
    | (refine vb_f (by assumption) ?_; conv => whnf)
    | (refine vpur_i h1 ?_; conv => whnf)
    | (refine vpur_i h2 ?_; conv => whnf)
    | (refine vpur_i lives15_ok ?_; conv => whnf)
    | (refine vor_l ?_; conv => whnf)
    | fail)
  exact ⟨rfl, rfl⟩
end Go.Proofs.YtjeblkicgmmhiaaGreatDoor.Ab

