/- Some texts as one, one behind the other; what is not leaned on is left out. -/
import Derived.Test.YtjeblkicgmmhiaaGreatDoorAbSome
import Derived.Test.YtjeblkicgmmhiaaGreatDoorAbCfg
import Derived.Test.YtjeblkicgmmhiaaGreatDoorQ1
import Derived.Test.YtjeblkicgmmhiaaGreatDoorC00q
namespace Go.Proofs.YtjeblkicgmmhiaaGreatDoor.Ab
open Go
set_option linter.unusedSimpArgs false
set_option maxRecDepth 100000
set_option linter.unusedVariables false
set_option maxHeartbeats 4000000
end Go.Proofs.YtjeblkicgmmhiaaGreatDoor.Ab
namespace Go.Proofs.YtjeblkicgmmhiaaGreatDoor.Ab
open Go
set_option linter.unusedSimpArgs false
set_option maxRecDepth 100000
set_option linter.unusedVariables false
set_option maxHeartbeats 4000000
end Go.Proofs.YtjeblkicgmmhiaaGreatDoor.Ab
namespace Go.Proofs.YtjeblkicgmmhiaaGreatDoor.Ab
open Go
set_option linter.unusedSimpArgs false
set_option maxRecDepth 100000
set_option linter.unusedVariables false
set_option maxHeartbeats 4000000
end Go.Proofs.YtjeblkicgmmhiaaGreatDoor.Ab
namespace Go.Proofs.YtjeblkicgmmhiaaGreatDoor.Ab
open Go
set_option linter.unusedSimpArgs false
set_option maxRecDepth 100000
set_option linter.unusedVariables false
set_option maxHeartbeats 4000000
/-! ### The value -/
end Go.Proofs.YtjeblkicgmmhiaaGreatDoor.Ab
namespace Go.Proofs.YtjeblkicgmmhiaaGreatDoor.Ab
open Go
set_option linter.unusedSimpArgs false
set_option maxRecDepth 100000
set_option linter.unusedVariables false
set_option maxHeartbeats 4000000
end Go.Proofs.YtjeblkicgmmhiaaGreatDoor.Ab
namespace Go.Proofs.YtjeblkicgmmhiaaGreatDoor.Ab
open Go
set_option linter.unusedSimpArgs false
set_option maxRecDepth 100000
set_option linter.unusedVariables false
set_option maxHeartbeats 4000000
end Go.Proofs.YtjeblkicgmmhiaaGreatDoor.Ab
namespace Go.Proofs.YtjeblkicgmmhiaaGreatDoor.Ab
open Go
set_option linter.unusedSimpArgs false
set_option maxRecDepth 100000
set_option linter.unusedVariables false
set_option maxHeartbeats 4000000
/-! A list of numbers, and one that is built from nothing. -/
end Go.Proofs.YtjeblkicgmmhiaaGreatDoor.Ab

