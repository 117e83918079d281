/- Layer 9 (box): the examples of its chapter. -/
import Derived.Test.YtapnjabhcdlhbaaGreatDoorC00a
namespace Go.Proofs.YtapnjabhcdlhbaaGreatDoor.Ab
open Go
set_option linter.unusedSimpArgs false
set_option maxRecDepth 100000
set_option linter.unusedVariables false
set_option maxHeartbeats 4000000

theorem lives09_ok : Pur F0 11 [] [] .no (.ret (B true)) .no := pur_closed (n := 100) (by kernel_rfl)
end Go.Proofs.YtapnjabhcdlhbaaGreatDoor.Ab
