/- Layer 5 (value): the law ValueTells. -/
import Derived.Test.YtapnjabhcdlhbaaGreatDoorC05t
import Derived.Test.YtapnjabhcdlhbaaGreatDoorC05l
namespace Go.Proofs.YtapnjabhcdlhbaaGreatDoor.Ab
open Go
set_option linter.unusedSimpArgs false
set_option maxRecDepth 100000
set_option linter.unusedVariables false
set_option maxHeartbeats 4000000

theorem tells5_ok (k n a b : Int) (d : Bool) : Pur F0 6 [.agg [I k, I n], I a, I b, B d] [] .no (.ret (B true)) .no := by
  refine pur_code code6_ok ?_
  conv => whnf
  have h1 : (goodL k n a == goodL k n a) = true := by simp
  have h2 : seq (valText k n) (valText k n) = true := by rw [seq_t]
  have h3 : ieq (lenR k n b d).1 (lenR k n b d).1 = true := by rw [ieq_t]
  have h4 : ((lenR k n b d).2.1 == (lenR k n b d).2.1) = true := by simp
  have h5 : ieq (lenR k n b d).2.2 (lenR k n b d).2.2 = true := by rw [ieq_t]
  repeat' (first
    | (refine vb_t rfl ?_; conv => whnf)
    | (refine vb_f rfl ?_; conv => whnf)
    | (refine vb_t (by assumption) ?_; conv => whnf)
    | (refine vb_f (by assumption) ?_; conv => whnf)
    | (refine vpur_i (resolve_ok _ _ _ _) ?_; conv => whnf)
    | (refine vpur_i (rresolve_ok _ _ _ _) ?_; conv => whnf)
    | (refine vpur_i (good_ok _ _ _) ?_; conv => whnf)
    | (refine vpur_i (rgood_ok _ _ _) ?_; conv => whnf)
    | (refine vpur_i (vtext_ok _ _) ?_; conv => whnf)
    | (refine vpur_i (rvtext_ok _ _) ?_; conv => whnf)
    | (refine vpur_i lives_ok ?_; conv => whnf)
    | fail)
  exact ⟨rfl, rfl⟩
end Go.Proofs.YtapnjabhcdlhbaaGreatDoor.Ab
