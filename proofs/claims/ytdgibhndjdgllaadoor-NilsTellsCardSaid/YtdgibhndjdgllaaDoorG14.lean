/- live.over in line. -/
import Derived.Test.YtdgibhndjdgllaaDoorG09
import Derived.Test.YtdgibhndjdgllaaDoorG12
set_option linter.unusedVariables false
set_option linter.unusedSimpArgs false

namespace Go.Proofs.YtdgibhndjdgllaaDoor
open Go.Ax
set_option maxRecDepth 10000
set_option linter.unusedVariables false
set_option maxHeartbeats 0

end Go.Proofs.YtdgibhndjdgllaaDoor
