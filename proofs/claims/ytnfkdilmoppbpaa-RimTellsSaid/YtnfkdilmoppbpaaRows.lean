/-
  No cell of these rows narrows 'for every input' (looked for: loops, veiled, ifaces, maps, wideKeys, modest, calm, conditions, laid).
  DERIVED. THE GIVEN ROWS OF THIS SEAT. 10 by the template 'for every input the law returns true; each argument reads behind the call as it read before'; 0 by the template 'total and deterministic' (their statements: YtnfkdilmoppbpaaTotals.lean).
  GIVEN WITH THE SEED: the statements are not yours to turn. If you find one false, say at which input.
  Laid BY PROGRAM, IN A SANDBOX (cutbox-rows.mjs): the forced cells as the released guide's own fill.sh prints them over the translation 9579e926722ae854… (all of the seat's roots in one cut). By AI agents, Wed Nov 11 2026. No macro, syntax, notation, axiom, sorry.
-/
import Derived.Test.YtnfkdilmoppbpaaChecked
import GoSem.Claim
import GoSem.ClaimJoined
import GoSem.ClaimMapViews
import Derived.JoinedTies
import Derived.KernelRfl
namespace Go.Proofs.Ytnfkdilmoppbpaa
/- THE CELL 'sum', in the pinned program and in every row, IS THE sha256 OF THE DUMP (.gsa) THAT YtnfkdilmoppbpaaProg.lean LOADS. Nothing in Lean hashes anything: it is a label: what it is worth is what the hold of that sum in a sandbox is worth. -/
noncomputable def Try.pinned : Pinned := { name := "ytnfkdilmoppbpaa", sum := "9579e926722ae8548e101d1232f77993080b500dc637ba7be5c8b5d3c66255c9", checked := Try.checked }
namespace Rows
def none {H : Type} : Left H := { results := [], args := [] }

/-- 'balustradelaw26.WardWhere': WHATEVER THE INPUT: true; the input reads as it did. -/
def wardWhereSpec : ChangeSpec := { name := "wardWhere", fn := fun _ => fun
  | [d1, d2] => { results := [.lit (.bool true)], args := [d1, d2] }
  | _ => none }
def wardWhereRow : OpenClaim := { program := "ytnfkdilmoppbpaa", sum := "9579e926722ae8548e101d1232f77993080b500dc637ba7be5c8b5d3c66255c9", func := "balustrade/balustradelaw26.WardWhere", spec := "wardWhere", unfollowed := true, recurses := true, apart := false }
def WardWhereSaid : Prop := wardWhereRow.holds Try.pinned (OpenSpec.ofChange wardWhereSpec)

/-- ITS FALSE NEIGHBOUR: 'it returns false'. Refute it at one input. -/
def wardWhereWrong : ChangeSpec := { name := "wardWhere", fn := fun _ => fun
  | [d1, d2] => { results := [.lit (.bool false)], args := [d1, d2] }
  | _ => none }
def WardWhereWrongFalsely : Prop := wardWhereRow.holds Try.pinned (OpenSpec.ofChange wardWhereWrong)

/-- 'balustradelaw37.RootTells': WHATEVER THE INPUT: true; the input reads as it did. -/
def rootTellsSpec : ChangeSpec := { name := "rootTells", fn := fun _ => fun
  | [d1, d2] => { results := [.lit (.bool true)], args := [d1, d2] }
  | _ => none }
def rootTellsRow : OpenClaim := { program := "ytnfkdilmoppbpaa", sum := "9579e926722ae8548e101d1232f77993080b500dc637ba7be5c8b5d3c66255c9", func := "balustrade/balustradelaw37.RootTells", spec := "rootTells", recurses := true, apart := false }
def RootTellsSaid : Prop := rootTellsRow.holds Try.pinned (OpenSpec.ofChange rootTellsSpec)

/-- ITS FALSE NEIGHBOUR: 'it returns false'. Refute it at one input. -/
def rootTellsWrong : ChangeSpec := { name := "rootTells", fn := fun _ => fun
  | [d1, d2] => { results := [.lit (.bool false)], args := [d1, d2] }
  | _ => none }
def RootTellsWrongFalsely : Prop := rootTellsRow.holds Try.pinned (OpenSpec.ofChange rootTellsWrong)

/-- 'balustradelaw37.RootEnds': WHATEVER THE INPUT: true; the input reads as it did. -/
def rootEndsSpec : ChangeSpec := { name := "rootEnds", fn := fun _ => fun
  | [d1, d2] => { results := [.lit (.bool true)], args := [d1, d2] }
  | _ => none }
def rootEndsRow : OpenClaim := { program := "ytnfkdilmoppbpaa", sum := "9579e926722ae8548e101d1232f77993080b500dc637ba7be5c8b5d3c66255c9", func := "balustrade/balustradelaw37.RootEnds", spec := "rootEnds", apart := false }
def RootEndsSaid : Prop := rootEndsRow.holds Try.pinned (OpenSpec.ofChange rootEndsSpec)

/-- ITS FALSE NEIGHBOUR: 'it returns false'. Refute it at one input. -/
def rootEndsWrong : ChangeSpec := { name := "rootEnds", fn := fun _ => fun
  | [d1, d2] => { results := [.lit (.bool false)], args := [d1, d2] }
  | _ => none }
def RootEndsWrongFalsely : Prop := rootEndsRow.holds Try.pinned (OpenSpec.ofChange rootEndsWrong)

/-- 'balustradelaw29.RimTells': WHATEVER THE INPUT: true; the input reads as it did. -/
def rimTellsSpec : ChangeSpec := { name := "rimTells", fn := fun _ => fun
  | [d] => { results := [.lit (.bool true)], args := [d] }
  | _ => none }
def rimTellsRow : OpenClaim := { program := "ytnfkdilmoppbpaa", sum := "9579e926722ae8548e101d1232f77993080b500dc637ba7be5c8b5d3c66255c9", func := "balustrade/balustradelaw29.RimTells", spec := "rimTells", unfollowed := true, recurses := true, apart := false }
def RimTellsSaid : Prop := rimTellsRow.holds Try.pinned (OpenSpec.ofChange rimTellsSpec)

/-- ITS FALSE NEIGHBOUR: 'it returns false'. Refute it at one input. -/
def rimTellsWrong : ChangeSpec := { name := "rimTells", fn := fun _ => fun
  | [d] => { results := [.lit (.bool false)], args := [d] }
  | _ => none }
def RimTellsWrongFalsely : Prop := rimTellsRow.holds Try.pinned (OpenSpec.ofChange rimTellsWrong)

/-- 'balustradelaw25.TidyTells': WHATEVER THE INPUT: true; the input reads as it did. -/
def tidyTellsSpec : ChangeSpec := { name := "tidyTells", fn := fun _ => fun
  | [d] => { results := [.lit (.bool true)], args := [d] }
  | _ => none }
def tidyTellsRow : OpenClaim := { program := "ytnfkdilmoppbpaa", sum := "9579e926722ae8548e101d1232f77993080b500dc637ba7be5c8b5d3c66255c9", func := "balustrade/balustradelaw25.TidyTells", spec := "tidyTells", unfollowed := true, recurses := true, apart := false }
def TidyTellsSaid : Prop := tidyTellsRow.holds Try.pinned (OpenSpec.ofChange tidyTellsSpec)

/-- ITS FALSE NEIGHBOUR: 'it returns false'. Refute it at one input. -/
def tidyTellsWrong : ChangeSpec := { name := "tidyTells", fn := fun _ => fun
  | [d] => { results := [.lit (.bool false)], args := [d] }
  | _ => none }
def TidyTellsWrongFalsely : Prop := tidyTellsRow.holds Try.pinned (OpenSpec.ofChange tidyTellsWrong)

/-- 'balustradelaw25.TidyTwice': WHATEVER THE INPUT: true; the input reads as it did. -/
def tidyTwiceSpec : ChangeSpec := { name := "tidyTwice", fn := fun _ => fun
  | [d] => { results := [.lit (.bool true)], args := [d] }
  | _ => none }
def tidyTwiceRow : OpenClaim := { program := "ytnfkdilmoppbpaa", sum := "9579e926722ae8548e101d1232f77993080b500dc637ba7be5c8b5d3c66255c9", func := "balustrade/balustradelaw25.TidyTwice", spec := "tidyTwice", unfollowed := true, recurses := true, apart := false }
def TidyTwiceSaid : Prop := tidyTwiceRow.holds Try.pinned (OpenSpec.ofChange tidyTwiceSpec)

/-- ITS FALSE NEIGHBOUR: 'it returns false'. Refute it at one input. -/
def tidyTwiceWrong : ChangeSpec := { name := "tidyTwice", fn := fun _ => fun
  | [d] => { results := [.lit (.bool false)], args := [d] }
  | _ => none }
def TidyTwiceWrongFalsely : Prop := tidyTwiceRow.holds Try.pinned (OpenSpec.ofChange tidyTwiceWrong)

/-- 'balustradelaw25.TidyEnds': WHATEVER THE INPUT: true; the input reads as it did. -/
def tidyEndsSpec : ChangeSpec := { name := "tidyEnds", fn := fun _ => fun
  | [d] => { results := [.lit (.bool true)], args := [d] }
  | _ => none }
def tidyEndsRow : OpenClaim := { program := "ytnfkdilmoppbpaa", sum := "9579e926722ae8548e101d1232f77993080b500dc637ba7be5c8b5d3c66255c9", func := "balustrade/balustradelaw25.TidyEnds", spec := "tidyEnds", unfollowed := true, recurses := true, apart := false }
def TidyEndsSaid : Prop := tidyEndsRow.holds Try.pinned (OpenSpec.ofChange tidyEndsSpec)

/-- ITS FALSE NEIGHBOUR: 'it returns false'. Refute it at one input. -/
def tidyEndsWrong : ChangeSpec := { name := "tidyEnds", fn := fun _ => fun
  | [d] => { results := [.lit (.bool false)], args := [d] }
  | _ => none }
def TidyEndsWrongFalsely : Prop := tidyEndsRow.holds Try.pinned (OpenSpec.ofChange tidyEndsWrong)

/-- 'balustradelaw31.PiWords': WHATEVER THE INPUT: true; the input reads as it did. -/
def piWordsSpec : ChangeSpec := { name := "piWords", fn := fun _ => fun
  | [d] => { results := [.lit (.bool true)], args := [d] }
  | _ => none }
def piWordsRow : OpenClaim := { program := "ytnfkdilmoppbpaa", sum := "9579e926722ae8548e101d1232f77993080b500dc637ba7be5c8b5d3c66255c9", func := "balustrade/balustradelaw31.PiWords", spec := "piWords", unfollowed := true, recurses := true, apart := false }
def PiWordsSaid : Prop := piWordsRow.holds Try.pinned (OpenSpec.ofChange piWordsSpec)

/-- ITS FALSE NEIGHBOUR: 'it returns false'. Refute it at one input. -/
def piWordsWrong : ChangeSpec := { name := "piWords", fn := fun _ => fun
  | [d] => { results := [.lit (.bool false)], args := [d] }
  | _ => none }
def PiWordsWrongFalsely : Prop := piWordsRow.holds Try.pinned (OpenSpec.ofChange piWordsWrong)

/-- 'balustradelaw31.PiTells': WHATEVER THE INPUT: true; the input reads as it did. -/
def piTellsSpec : ChangeSpec := { name := "piTells", fn := fun _ => fun
  | [d] => { results := [.lit (.bool true)], args := [d] }
  | _ => none }
def piTellsRow : OpenClaim := { program := "ytnfkdilmoppbpaa", sum := "9579e926722ae8548e101d1232f77993080b500dc637ba7be5c8b5d3c66255c9", func := "balustrade/balustradelaw31.PiTells", spec := "piTells", unfollowed := true, recurses := true, apart := false }
def PiTellsSaid : Prop := piTellsRow.holds Try.pinned (OpenSpec.ofChange piTellsSpec)

/-- ITS FALSE NEIGHBOUR: 'it returns false'. Refute it at one input. -/
def piTellsWrong : ChangeSpec := { name := "piTells", fn := fun _ => fun
  | [d] => { results := [.lit (.bool false)], args := [d] }
  | _ => none }
def PiTellsWrongFalsely : Prop := piTellsRow.holds Try.pinned (OpenSpec.ofChange piTellsWrong)

/-- 'balustradelaw31.PiBack': WHATEVER THE INPUT: true; the input reads as it did. -/
def piBackSpec : ChangeSpec := { name := "piBack", fn := fun _ => fun
  | [d] => { results := [.lit (.bool true)], args := [d] }
  | _ => none }
def piBackRow : OpenClaim := { program := "ytnfkdilmoppbpaa", sum := "9579e926722ae8548e101d1232f77993080b500dc637ba7be5c8b5d3c66255c9", func := "balustrade/balustradelaw31.PiBack", spec := "piBack", unfollowed := true, recurses := true, apart := false }
def PiBackSaid : Prop := piBackRow.holds Try.pinned (OpenSpec.ofChange piBackSpec)

/-- ITS FALSE NEIGHBOUR: 'it returns false'. Refute it at one input. -/
def piBackWrong : ChangeSpec := { name := "piBack", fn := fun _ => fun
  | [d] => { results := [.lit (.bool false)], args := [d] }
  | _ => none }
def PiBackWrongFalsely : Prop := piBackRow.holds Try.pinned (OpenSpec.ofChange piBackWrong)

/- THE SECOND FORM. 'bulk': how many values and letters a reading holds, each counted each time it is reached (what is shared counts as often as it is met; a slice's spare places count too). A statement '..UptoSaid' is the law's where the arguments, and the package variables that the reading takes, are together of bulk at most 1048576: NARROWER than '..Said'. Prove '..Said' where nothing that the law and all that it calls make is longer than what came in: it says more and counts as full. Else prove '..UptoSaid'. A law counts once. -/
mutual
def uptoBulk {H : Type} : DataW H → Nat
  | .lit (.string bytes) => bytes.length + 1
  | .lit _ => 1
  | .nil => 1
  | .ptr d => uptoBulk d + 1
  | .slice elems spare => uptoBulkAll elems + uptoBulkAll spare + 1
  | .agg parts => uptoBulkAll parts + 1
  | .iface _ d => uptoBulk d + 1
  | .map entries => uptoBulkEntries entries + 1
  | .held _ => 1
def uptoBulkAll {H : Type} : List (DataW H) → Nat
  | [] => 0
  | d :: r => uptoBulk d + uptoBulkAll r
def uptoBulkEntries {H : Type} : List (Lit × DataW H) → Nat
  | [] => 0
  | x :: r => uptoBulkEntry x + uptoBulkEntries r
def uptoBulkEntry {H : Type} : Lit × DataW H → Nat
  | (.string bytes, d) => bytes.length + uptoBulk d + 1
  | (_, d) => uptoBulk d + 1
 end
def uptoSmall : (H : Type) → List (DataW H) → Bool := fun _ ds => decide (uptoBulkAll ds ≤ 1048576)
def OpenSpec.upto (s : _root_.Go.ChangeSpec) : _root_.Go.OpenSpec := { _root_.Go.OpenSpec.ofChange s with cond := some uptoSmall }

/-- 'balustradelaw26.WardWhere', WHERE WHAT IT READS IS OF BULK AT MOST 1048576: true; the input reads as it did. -/
def wardWhereUptoRow : OpenClaim := { program := "ytnfkdilmoppbpaa", sum := "9579e926722ae8548e101d1232f77993080b500dc637ba7be5c8b5d3c66255c9", func := "balustrade/balustradelaw26.WardWhere", spec := "wardWhere", unfollowed := true, recurses := true, apart := false, narrowed := true }
def WardWhereUptoSaid : Prop := wardWhereUptoRow.holds Try.pinned (OpenSpec.upto wardWhereSpec)

/-- 'balustradelaw37.RootTells', WHERE WHAT IT READS IS OF BULK AT MOST 1048576: true; the input reads as it did. -/
def rootTellsUptoRow : OpenClaim := { program := "ytnfkdilmoppbpaa", sum := "9579e926722ae8548e101d1232f77993080b500dc637ba7be5c8b5d3c66255c9", func := "balustrade/balustradelaw37.RootTells", spec := "rootTells", recurses := true, apart := false, narrowed := true }
def RootTellsUptoSaid : Prop := rootTellsUptoRow.holds Try.pinned (OpenSpec.upto rootTellsSpec)

/-- 'balustradelaw37.RootEnds', WHERE WHAT IT READS IS OF BULK AT MOST 1048576: true; the input reads as it did. -/
def rootEndsUptoRow : OpenClaim := { program := "ytnfkdilmoppbpaa", sum := "9579e926722ae8548e101d1232f77993080b500dc637ba7be5c8b5d3c66255c9", func := "balustrade/balustradelaw37.RootEnds", spec := "rootEnds", apart := false, narrowed := true }
def RootEndsUptoSaid : Prop := rootEndsUptoRow.holds Try.pinned (OpenSpec.upto rootEndsSpec)

/-- 'balustradelaw29.RimTells', WHERE WHAT IT READS IS OF BULK AT MOST 1048576: true; the input reads as it did. -/
def rimTellsUptoRow : OpenClaim := { program := "ytnfkdilmoppbpaa", sum := "9579e926722ae8548e101d1232f77993080b500dc637ba7be5c8b5d3c66255c9", func := "balustrade/balustradelaw29.RimTells", spec := "rimTells", unfollowed := true, recurses := true, apart := false, narrowed := true }
def RimTellsUptoSaid : Prop := rimTellsUptoRow.holds Try.pinned (OpenSpec.upto rimTellsSpec)

/-- 'balustradelaw25.TidyTells', WHERE WHAT IT READS IS OF BULK AT MOST 1048576: true; the input reads as it did. -/
def tidyTellsUptoRow : OpenClaim := { program := "ytnfkdilmoppbpaa", sum := "9579e926722ae8548e101d1232f77993080b500dc637ba7be5c8b5d3c66255c9", func := "balustrade/balustradelaw25.TidyTells", spec := "tidyTells", unfollowed := true, recurses := true, apart := false, narrowed := true }
def TidyTellsUptoSaid : Prop := tidyTellsUptoRow.holds Try.pinned (OpenSpec.upto tidyTellsSpec)

/-- 'balustradelaw25.TidyTwice', WHERE WHAT IT READS IS OF BULK AT MOST 1048576: true; the input reads as it did. -/
def tidyTwiceUptoRow : OpenClaim := { program := "ytnfkdilmoppbpaa", sum := "9579e926722ae8548e101d1232f77993080b500dc637ba7be5c8b5d3c66255c9", func := "balustrade/balustradelaw25.TidyTwice", spec := "tidyTwice", unfollowed := true, recurses := true, apart := false, narrowed := true }
def TidyTwiceUptoSaid : Prop := tidyTwiceUptoRow.holds Try.pinned (OpenSpec.upto tidyTwiceSpec)

/-- 'balustradelaw25.TidyEnds', WHERE WHAT IT READS IS OF BULK AT MOST 1048576: true; the input reads as it did. -/
def tidyEndsUptoRow : OpenClaim := { program := "ytnfkdilmoppbpaa", sum := "9579e926722ae8548e101d1232f77993080b500dc637ba7be5c8b5d3c66255c9", func := "balustrade/balustradelaw25.TidyEnds", spec := "tidyEnds", unfollowed := true, recurses := true, apart := false, narrowed := true }
def TidyEndsUptoSaid : Prop := tidyEndsUptoRow.holds Try.pinned (OpenSpec.upto tidyEndsSpec)

/-- 'balustradelaw31.PiWords', WHERE WHAT IT READS IS OF BULK AT MOST 1048576: true; the input reads as it did. -/
def piWordsUptoRow : OpenClaim := { program := "ytnfkdilmoppbpaa", sum := "9579e926722ae8548e101d1232f77993080b500dc637ba7be5c8b5d3c66255c9", func := "balustrade/balustradelaw31.PiWords", spec := "piWords", unfollowed := true, recurses := true, apart := false, narrowed := true }
def PiWordsUptoSaid : Prop := piWordsUptoRow.holds Try.pinned (OpenSpec.upto piWordsSpec)

/-- 'balustradelaw31.PiTells', WHERE WHAT IT READS IS OF BULK AT MOST 1048576: true; the input reads as it did. -/
def piTellsUptoRow : OpenClaim := { program := "ytnfkdilmoppbpaa", sum := "9579e926722ae8548e101d1232f77993080b500dc637ba7be5c8b5d3c66255c9", func := "balustrade/balustradelaw31.PiTells", spec := "piTells", unfollowed := true, recurses := true, apart := false, narrowed := true }
def PiTellsUptoSaid : Prop := piTellsUptoRow.holds Try.pinned (OpenSpec.upto piTellsSpec)

/-- 'balustradelaw31.PiBack', WHERE WHAT IT READS IS OF BULK AT MOST 1048576: true; the input reads as it did. -/
def piBackUptoRow : OpenClaim := { program := "ytnfkdilmoppbpaa", sum := "9579e926722ae8548e101d1232f77993080b500dc637ba7be5c8b5d3c66255c9", func := "balustrade/balustradelaw31.PiBack", spec := "piBack", unfollowed := true, recurses := true, apart := false, narrowed := true }
def PiBackUptoSaid : Prop := piBackUptoRow.holds Try.pinned (OpenSpec.upto piBackSpec)

end Rows
end Go.Proofs.Ytnfkdilmoppbpaa
