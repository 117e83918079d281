/- Layer 5 (value): what its functions come to: the lesser ones. -/
import Derived.Test.YtjjolfgpphjhkaaGreatDoorAbCfg
namespace Go.Proofs.YtjjolfgpphjhkaaGreatDoor.Ab
open Go
set_option linter.unusedSimpArgs false
set_option maxRecDepth 100000
set_option linter.unusedVariables false

def keyBit (k : Int) : Int := if k = 1 then 4 else if k = 4 then 8 else if k = 5 then 8 else if k = 7 then 32 else 0
theorem keyBit_ok (k : Int) : Pur F0 75 [I k] [] .no (.ret (I (keyBit k))) .no := by
  refine pur_code (cf := cfn Tryz.f75) (by kernel_rfl) ?_
  conv => arg 3; reduce
  conv => whnf
  repeat' (first
    | (refine vb_t rfl ?_; conv => whnf)
    | (refine vb_f rfl ?_; conv => whnf)
    | (refine vb_t (by assumption) ?_; conv => whnf)
    | (refine vb_f (by assumption) ?_; conv => whnf)
    | (refine vb_i (fun h => ?_) (fun h => ?_) <;> conv => whnf)
    | fail)
  all_goals (refine ⟨?_, rfl⟩; simp_all [keyBit, ieq_t, ieq_f])

def keyText (k : Int) : List UInt8 := if k = 1 then [97, 117, 116, 111] else if k = 4 then [109, 105, 110, 45, 99, 111, 110, 116, 101, 110, 116] else if k = 5 then [109, 97, 120, 45, 99, 111, 110, 116, 101, 110, 116] else
  if k = 7 then [110, 111, 110, 101] else []
theorem keyText_ok (k : Int) : Pur F0 73 [I k] [] .no (.ret (S (keyText k))) .no := by
  refine pur_code (cf := cfn Tryz.f73) (by kernel_rfl) ?_
  conv => arg 3; reduce
  conv => whnf
  repeat' (first
    | (refine vb_t rfl ?_; conv => whnf)
    | (refine vb_f rfl ?_; conv => whnf)
    | (refine vb_t (by assumption) ?_; conv => whnf)
    | (refine vb_f (by assumption) ?_; conv => whnf)
    | (refine vb_i (fun h => ?_) (fun h => ?_) <;> conv => whnf)
    | fail)
  all_goals (refine ⟨?_, rfl⟩; simp_all [keyText, ieq_t, ieq_f])

/-- Has allow a bit? -/
def hasBit (a b : Int) : Bool := ilt 0 (iand .i64 a b)
def within (n a most : Int) : Bool := if n < 0 then (if hasBit a 2 = true then ile (isub .i64 0 most) n else false) else ile n most
theorem good1_ok (k n a most : Int) (t u : Nat) : Drp F0 2 74 [I most, .ptr 0 0, .ptr 1 0] [⟨.mine, t, .fix [I k, I n]⟩, ⟨.mine, u, .fix [I a]⟩] .no (.ret (B (within n a most)))
    [⟨.mine, t, .fix [I k, I n]⟩, ⟨.mine, u, .fix [I a]⟩] .no := by
  refine drp_code (cf := cfn Tryz.f74) (by kernel_rfl) ?_
  conv => arg 3; reduce
  conv => whnf
  repeat' (first
    | (refine vb_t rfl ?_; conv => whnf)
    | (refine vb_f rfl ?_; conv => whnf)
    | (refine vb_t (by assumption) ?_; conv => whnf)
    | (refine vb_f (by assumption) ?_; conv => whnf)
    | (refine vb_i (fun h => ?_) (fun h => ?_) <;> conv => whnf)
    | fail)
  all_goals (refine ⟨?_, rfl, rfl⟩; simp_all [within, hasBit, ilt_d, ile_d] <;> omega)
/-- May a size be? -/
def goodL (k n a : Int) : Bool :=
  if k = 2 then within n a 68719476736 else if k = 3 then (hasBit a 1 && within n a 1073741824) else if k = 6 then (hasBit a 16 && decide (0 ≤ n) && decide (n ≤ 1073741824)) else decide (n = 0) && hasBit a (keyBit k)
theorem good_ok (k n a : Int) : Pur F0 49 [.agg [I k, I n], I a] [] .no (.ret (B (goodL k n a))) .no := by
  refine pur_code (cf := cfn Tryz.f49) (by kernel_rfl) ?_
  conv => arg 3; reduce
  conv => whnf
  repeat' (first
    | (refine vb_t rfl ?_; conv => whnf)
    | (refine vb_f rfl ?_; conv => whnf)
    | (refine vb_t (by assumption) ?_; conv => whnf)
    | (refine vb_f (by assumption) ?_; conv => whnf)
    | (refine vdrp_i (good1_ok _ _ _ _ _ _) ?_; conv => whnf)
    | (refine vpur_i (keyBit_ok _) ?_; conv => whnf)
    | (refine vb_i (fun h => ?_) (fun h => ?_) <;> conv => whnf)
    | fail)
  all_goals (refine ⟨?_, rfl⟩; simp_all [goodL, hasBit, ieq_d, ilt_d, ile_d] <;> omega)
end Go.Proofs.YtjjolfgpphjhkaaGreatDoor.Ab
