/-
  DERIVED. GIVEN WITH THE SEED: THE CARDS: each row of YtdgibhndjdgllaaDoorRows.lean that lists a variable, with what it lists TIED to the program's text (the seventh form; the later family's looks); each row that meets fmt, with fmt's text TOLD by the authors' own Lean function (tested against real Go, not proved from fmt's source: count such statements apart). THE CARD IS WHAT COUNTS. Prove the row's statement (the work); the ties are given (YtdgibhndjdgllaaDoorTie.lean); close each card by the builder's one call (the guide's Derived/Test/ToyasCard.lean, 'card_holds'). Laid BY PROGRAM, IN A SANDBOX (cutbox-door.mjs). By AI agents, Wed Nov 11 2026. No macro, syntax, notation, axiom, sorry.
-/
import Derived.Test.YtdgibhndjdgllaaDoorRows
import GoSem.ClaimSeven
namespace Go.Proofs.YtdgibhndjdgllaaDoor
namespace Rows

/-- THE TIED CARD OF 'balustradelaw30.LiveTells'. -/
def liveTellsCard : Claim7 := { stood := { row := liveTellsRow, standIns := [], harness := (true, "b3ba4815f4c016c688139c129959b3b2084e3480d9a93ff391be4233a6195e85"), looks := false }, kinds := [], alts := [], laidByText := true, laidKinds := [.data], laidTests := true, laidLooks := .later }
def LiveTellsCardSaid : Prop := Claim7.holds Tryd.pinned (.plain (OpenSpec.ofChange liveTellsSpec)) liveTellsCard

/-- THE TIED CARD OF 'balustradelaw30.LiveAhead'. -/
def liveAheadCard : Claim7 := { stood := { row := liveAheadRow, standIns := [], harness := (true, "b3ba4815f4c016c688139c129959b3b2084e3480d9a93ff391be4233a6195e85"), looks := false }, kinds := [], alts := [], laidByText := true, laidKinds := [.data], laidTests := true, laidLooks := .later }
def LiveAheadCardSaid : Prop := Claim7.holds Tryd.pinned (.plain (OpenSpec.ofChange liveAheadSpec)) liveAheadCard

/-- THE TIED CARD OF 'balustradelaw40.NilsTells'. -/
def nilsTellsCard : Claim7 := { stood := { row := nilsTellsRow, standIns := [], harness := (true, "b3ba4815f4c016c688139c129959b3b2084e3480d9a93ff391be4233a6195e85"), looks := false }, kinds := [], alts := [], laidByText := true, laidKinds := [.data], laidTests := true, laidLooks := .later }
def NilsTellsCardSaid : Prop := Claim7.holds Tryd.pinned (.plain (OpenSpec.ofChange nilsTellsSpec)) nilsTellsCard

/-- THE TIED CARD OF 'balustradelaw40.NilsNone'. -/
def nilsNoneCard : Claim7 := { stood := { row := nilsNoneRow, standIns := [], harness := (true, "b3ba4815f4c016c688139c129959b3b2084e3480d9a93ff391be4233a6195e85"), looks := false }, kinds := [], alts := [], laidByText := true, laidKinds := [.data], laidTests := true, laidLooks := .later }
def NilsNoneCardSaid : Prop := Claim7.holds Tryd.pinned (.plain (OpenSpec.ofChange nilsNoneSpec)) nilsNoneCard

/-- THE SECOND FORM's CARD OF 'balustradelaw30.LiveTells'. -/
def liveTellsUptoCard : Claim7 := { stood := { row := liveTellsUptoRow, standIns := [], harness := (true, "b3ba4815f4c016c688139c129959b3b2084e3480d9a93ff391be4233a6195e85"), looks := false }, kinds := [], alts := [], laidByText := true, laidKinds := [.data], laidTests := true, laidLooks := .later }
def LiveTellsUptoCardSaid : Prop := Claim7.holds Tryd.pinned (.plain (OpenSpec.upto liveTellsSpec)) liveTellsUptoCard

/-- THE SECOND FORM's CARD OF 'balustradelaw30.LiveAhead'. -/
def liveAheadUptoCard : Claim7 := { stood := { row := liveAheadUptoRow, standIns := [], harness := (true, "b3ba4815f4c016c688139c129959b3b2084e3480d9a93ff391be4233a6195e85"), looks := false }, kinds := [], alts := [], laidByText := true, laidKinds := [.data], laidTests := true, laidLooks := .later }
def LiveAheadUptoCardSaid : Prop := Claim7.holds Tryd.pinned (.plain (OpenSpec.upto liveAheadSpec)) liveAheadUptoCard

/-- THE SECOND FORM's CARD OF 'balustradelaw40.NilsTells'. -/
def nilsTellsUptoCard : Claim7 := { stood := { row := nilsTellsUptoRow, standIns := [], harness := (true, "b3ba4815f4c016c688139c129959b3b2084e3480d9a93ff391be4233a6195e85"), looks := false }, kinds := [], alts := [], laidByText := true, laidKinds := [.data], laidTests := true, laidLooks := .later }
def NilsTellsUptoCardSaid : Prop := Claim7.holds Tryd.pinned (.plain (OpenSpec.upto nilsTellsSpec)) nilsTellsUptoCard

/-- THE SECOND FORM's CARD OF 'balustradelaw40.NilsNone'. -/
def nilsNoneUptoCard : Claim7 := { stood := { row := nilsNoneUptoRow, standIns := [], harness := (true, "b3ba4815f4c016c688139c129959b3b2084e3480d9a93ff391be4233a6195e85"), looks := false }, kinds := [], alts := [], laidByText := true, laidKinds := [.data], laidTests := true, laidLooks := .later }
def NilsNoneUptoCardSaid : Prop := Claim7.holds Tryd.pinned (.plain (OpenSpec.upto nilsNoneSpec)) nilsNoneUptoCard
end Rows
end Go.Proofs.YtdgibhndjdgllaaDoor
