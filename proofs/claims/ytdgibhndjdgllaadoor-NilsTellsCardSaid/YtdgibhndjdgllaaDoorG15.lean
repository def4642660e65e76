/- live.solved: a block's sets are put behind the others. -/
import Derived.Test.YtdgibhndjdgllaaDoorG14
import Derived.Test.YtdgibhndjdgllaaDoorG13
import Derived.Test.YtdgibhndjdgllaaDoorG12
set_option linter.unusedVariables false
set_option linter.unusedSimpArgs false

namespace Go.Proofs.YtdgibhndjdgllaaDoor
open Go.Ax
set_option maxRecDepth 10000
set_option linter.unusedVariables false
set_option maxHeartbeats 0

/-- What the walk asks of a function. -/
structure LiveR (f : Fun) : Prop extends LiveOK f where
  fit : f.fits
  len : ∀ b ∈ f.blocks, b.length ≤ 1000000
  arg : ∀ b ∈ f.blocks, ∀ i ∈ b, i.op ≠ 44 ∧ i.args.length ≤ 1000000
def fstC : Code → Code
  | .seq a _ => a
  | c => c
def sndC : Code → Code
  | .seq _ b => b
  | c => c
def inC : Code → Code
  | .block _ c => c
  | .loop c => c
  | c => c
def navC : List (Code → Code) → Code → Code
  | [], c => c
  | g :: l, c => navC l (g c)
end Go.Proofs.YtdgibhndjdgllaaDoor
