/- The order in which one region of the law LoopTells is taken: it is open, and this one stands for all. -/
import Derived.Test.YtbmiffgfmlkdnaaG15
set_option linter.unusedVariables false
set_option linter.unusedSimpArgs false

namespace Go.Proofs.Ytbmiffgfmlkdnaa
open Go.Ax
set_option maxRecDepth 10000
set_option linter.unusedVariables false

def drawnOf : Code → List (Array Oper)
  | .region _ ops true => [ops]
  | .seq a b => drawnOf a ++ drawnOf b
  | .cond _ a b => drawnOf a ++ drawnOf b
  | .block _ c => drawnOf c
  | .loop c => drawnOf c
  | .scope c => drawnOf c
  | _ => []
noncomputable def A5 : Array Oper := ((Try.f5.body.map drawnOf).getD []).getD 1 #[]
def ord5 : Ord := ordL [35, 49, 58, 64, 65, 74, 80, 81] [0, 1, 2, 3, 4, 5, 6, 7, 8, 9, 10, 11, 12, 13, 14, 15, 16, 17, 18, 19, 20, 21, 22, 23, 24, 25, 26, 27, 28, 29, 30, 31, 32, 33, 34, 35, 36, 37, 38, 39, 40, 41, 42, 43, 44, 45, 46, 47, 48, 49, 50, 51, 52, 53, 54, 55, 56, 57, 59, 60, 61, 62, 63, 58, 64, 65, 66, 67, 68, 69, 70, 71, 72, 73, 75, 76, 77, 78, 79, 74, 80, 81, 82, 83]
theorem size5 : A5.size = 84 := by decide +kernel
theorem sched5 : (Try.prog.follows .mixedOrders && Nat.ble ord5.depth A5.size && schedOK A5 true ord5 (Array.replicate A5.size false) && noDefer A5) = true := by decide +kernel
end Go.Proofs.Ytbmiffgfmlkdnaa
