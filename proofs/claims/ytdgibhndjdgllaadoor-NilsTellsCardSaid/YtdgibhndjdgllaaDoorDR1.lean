/- What the table of bits.TrailingZeros64 gives a run. -/
import Derived.Test.YtdgibhndjdgllaaDoorDR0
import Derived.Test.YtdgibhndjdgllaaDoorTie
import Derived.ProofKit
import Derived.LaidMore
import Derived.LaidLaws
import Derived.LaidHandle
import Derived.Lib.LaidTab
import Derived.Stop.Joined
import Derived.Test.YtdgibhndjdgllaaDoorG04
set_option linter.unusedVariables false
set_option linter.unusedSimpArgs false

namespace Go.Proofs.YtdgibhndjdgllaaDoor
open Go.Ax Go.RowKit Go.ChangeShapes Go.WideShapes Go.ChangeAt
set_option maxRecDepth 100000
def laidL : List (String × DataW Unit) := [("math/bits.deBruijn64tab", Rows.laid_math_bits_deBruijn64tab)]
def deZ : List Int := [0, 1, 56, 2, 57, 49, 28, 3, 61, 58, 42, 50, 38, 29, 17, 4, 62, 47, 59, 36, 45, 43, 51, 22, 53, 39, 33, 30, 24, 18, 12, 5, 63, 55, 48, 27, 60, 41, 37, 16, 46, 35, 44, 21, 52, 32, 23, 11, 54, 26, 40, 15, 34, 20, 31, 10, 25, 14, 19, 9, 13, 8, 7, 6]
def deV : List Value := deZ.map fun z => .int .u8 z
theorem gTab : Tryd.prog.globalNamed "math/bits.deBruijn64tab" = some 0 := by kernel_rfl
theorem tTab : (Tryd.prog.globals[0]?).map (·.type) = some 131 := by kernel_rfl
theorem laid_head {W : World} (h : laidMetH Tryd.prog laidL W) : ∀ (j : Nat) v, deV[j]? = some v → W.cell? ⟨0, j, none⟩ = some v := by
  rw [MakeChecks.laidMetH_plain _ _ _ (by kernel_rfl)] at h
  have ht : Lib.TabIs Tryd.prog W "math/bits.deBruijn64tab" .u8 deZ := Lib.tabIs_of_head (rest := []) (n := 64) (e := 5) gTab tTab rfl rfl (by kernel_rfl) (by kernel_rfl) h
  intro j v hj
  have := World.var?_cell gTab ht j
  rw [this]
  simpa [deV] using hj
theorem lt_cell {W : World} {b o : Nat} {v : Value} (h : W.cell? ⟨b, o, none⟩ = some v) : All W b := by
  refine Nat.lt_of_not_le fun h2 => ?_
  have h3 : W.heap[b]? = none := Array.getElem?_eq_none h2
  simp [World.cell?, h3] at h
theorem door_met (os : Os) (args : Array Value) : laidMetH Tryd.prog laidL ((World.doorLaid Tryd.prog 400 os).forCall (fun _ _ => 0) ⟨#[], args, []⟩).memory :=
  laidMetH_of_parts3 (fuel := 8) (laidMet_of_run' 8 (by kernel_rfl) (by kernel_rfl)) (by kernel_rfl) (by kernel_rfl)
end Go.Proofs.YtdgibhndjdgllaaDoor
