/-
  No cell of these rows narrows 'for every input' (looked for: loops, veiled, ifaces, maps, wideKeys, modest, calm, conditions, laid).
  DERIVED. THE GIVEN ROWS OF THIS SEAT. 3 by the template 'for every input the law returns true; each argument reads behind the call as it read before'; 0 by the template 'total and deterministic' (their statements: YtbmiffgfmlkdnaaTotals.lean).
  GIVEN WITH THE SEED: the statements are not yours to turn. If you find one false, say at which input.
  Laid BY PROGRAM, IN A SANDBOX (cutbox-rows.mjs): the forced cells as the released guide's own fill.sh prints them over the translation b22624faa956c7b3… (all of the seat's roots in one cut). By AI agents, Wed Nov 11 2026. No macro, syntax, notation, axiom, sorry.
-/
import Derived.Test.YtbmiffgfmlkdnaaChecked
import GoSem.Claim
import GoSem.ClaimJoined
import GoSem.ClaimMapViews
import Derived.JoinedTies
import Derived.KernelRfl
namespace Go.Proofs.Ytbmiffgfmlkdnaa
/- THE CELL 'sum', in the pinned program and in every row, IS THE sha256 OF THE DUMP (.gsa) THAT YtbmiffgfmlkdnaaProg.lean LOADS. Nothing in Lean hashes anything: it is a label: what it is worth is what the hold of that sum in a sandbox is worth. -/
noncomputable def Try.pinned : Pinned := { name := "ytbmiffgfmlkdnaa", sum := "b22624faa956c7b37806d843ff1e87a26807b292c03e9446773771925a35fcbc", checked := Try.checked }
namespace Rows
def none {H : Type} : Left H := { results := [], args := [] }

/-- 'balustradelaw36.LoopHeads': WHATEVER THE INPUT: true; the input reads as it did. -/
def loopHeadsSpec : ChangeSpec := { name := "loopHeads", fn := fun _ => fun
  | [d] => { results := [.lit (.bool true)], args := [d] }
  | _ => none }
def loopHeadsRow : OpenClaim := { program := "ytbmiffgfmlkdnaa", sum := "b22624faa956c7b37806d843ff1e87a26807b292c03e9446773771925a35fcbc", func := "balustrade/balustradelaw36.LoopHeads", spec := "loopHeads", unfollowed := true, recurses := true, apart := false }
def LoopHeadsSaid : Prop := loopHeadsRow.holds Try.pinned (OpenSpec.ofChange loopHeadsSpec)

/-- ITS FALSE NEIGHBOUR: 'it returns false'. Refute it at one input. -/
def loopHeadsWrong : ChangeSpec := { name := "loopHeads", fn := fun _ => fun
  | [d] => { results := [.lit (.bool false)], args := [d] }
  | _ => none }
def LoopHeadsWrongFalsely : Prop := loopHeadsRow.holds Try.pinned (OpenSpec.ofChange loopHeadsWrong)

/-- 'balustradelaw36.LoopNest': WHATEVER THE INPUT: true; the input reads as it did. -/
def loopNestSpec : ChangeSpec := { name := "loopNest", fn := fun _ => fun
  | [d1, d2, d3] => { results := [.lit (.bool true)], args := [d1, d2, d3] }
  | _ => none }
def loopNestRow : OpenClaim := { program := "ytbmiffgfmlkdnaa", sum := "b22624faa956c7b37806d843ff1e87a26807b292c03e9446773771925a35fcbc", func := "balustrade/balustradelaw36.LoopNest", spec := "loopNest", unfollowed := true, recurses := true, apart := false }
def LoopNestSaid : Prop := loopNestRow.holds Try.pinned (OpenSpec.ofChange loopNestSpec)

/-- ITS FALSE NEIGHBOUR: 'it returns false'. Refute it at one input. -/
def loopNestWrong : ChangeSpec := { name := "loopNest", fn := fun _ => fun
  | [d1, d2, d3] => { results := [.lit (.bool false)], args := [d1, d2, d3] }
  | _ => none }
def LoopNestWrongFalsely : Prop := loopNestRow.holds Try.pinned (OpenSpec.ofChange loopNestWrong)

/-- 'balustradelaw36.LoopTells': WHATEVER THE INPUT: true; the input reads as it did. -/
def loopTellsSpec : ChangeSpec := { name := "loopTells", fn := fun _ => fun
  | [d] => { results := [.lit (.bool true)], args := [d] }
  | _ => none }
def loopTellsRow : OpenClaim := { program := "ytbmiffgfmlkdnaa", sum := "b22624faa956c7b37806d843ff1e87a26807b292c03e9446773771925a35fcbc", func := "balustrade/balustradelaw36.LoopTells", spec := "loopTells", unfollowed := true, recurses := true, apart := false }
def LoopTellsSaid : Prop := loopTellsRow.holds Try.pinned (OpenSpec.ofChange loopTellsSpec)

/-- ITS FALSE NEIGHBOUR: 'it returns false'. Refute it at one input. -/
def loopTellsWrong : ChangeSpec := { name := "loopTells", fn := fun _ => fun
  | [d] => { results := [.lit (.bool false)], args := [d] }
  | _ => none }
def LoopTellsWrongFalsely : Prop := loopTellsRow.holds Try.pinned (OpenSpec.ofChange loopTellsWrong)

/- THE SECOND FORM. 'bulk': how many values and letters a reading holds, each counted each time it is reached (what is shared counts as often as it is met; a slice's spare places count too). A statement '..UptoSaid' is the law's where the arguments, and the package variables that the reading takes, are together of bulk at most 1048576: NARROWER than '..Said'. Prove '..Said' where nothing that the law and all that it calls make is longer than what came in: it says more and counts as full. Else prove '..UptoSaid'. A law counts once. -/
mutual
def uptoBulk {H : Type} : DataW H → Nat
  | .lit (.string bytes) => bytes.length + 1
  | .lit _ => 1
  | .nil => 1
  | .ptr d => uptoBulk d + 1
  | .slice elems spare => uptoBulkAll elems + uptoBulkAll spare + 1
  | .agg parts => uptoBulkAll parts + 1
  | .iface _ d => uptoBulk d + 1
  | .map entries => uptoBulkEntries entries + 1
  | .held _ => 1
def uptoBulkAll {H : Type} : List (DataW H) → Nat
  | [] => 0
  | d :: r => uptoBulk d + uptoBulkAll r
def uptoBulkEntries {H : Type} : List (Lit × DataW H) → Nat
  | [] => 0
  | x :: r => uptoBulkEntry x + uptoBulkEntries r
def uptoBulkEntry {H : Type} : Lit × DataW H → Nat
  | (.string bytes, d) => bytes.length + uptoBulk d + 1
  | (_, d) => uptoBulk d + 1
 end
def uptoSmall : (H : Type) → List (DataW H) → Bool := fun _ ds => decide (uptoBulkAll ds ≤ 1048576)
def OpenSpec.upto (s : _root_.Go.ChangeSpec) : _root_.Go.OpenSpec := { _root_.Go.OpenSpec.ofChange s with cond := some uptoSmall }

/-- 'balustradelaw36.LoopHeads', WHERE WHAT IT READS IS OF BULK AT MOST 1048576: true; the input reads as it did. -/
def loopHeadsUptoRow : OpenClaim := { program := "ytbmiffgfmlkdnaa", sum := "b22624faa956c7b37806d843ff1e87a26807b292c03e9446773771925a35fcbc", func := "balustrade/balustradelaw36.LoopHeads", spec := "loopHeads", unfollowed := true, recurses := true, apart := false, narrowed := true }
def LoopHeadsUptoSaid : Prop := loopHeadsUptoRow.holds Try.pinned (OpenSpec.upto loopHeadsSpec)

/-- 'balustradelaw36.LoopNest', WHERE WHAT IT READS IS OF BULK AT MOST 1048576: true; the input reads as it did. -/
def loopNestUptoRow : OpenClaim := { program := "ytbmiffgfmlkdnaa", sum := "b22624faa956c7b37806d843ff1e87a26807b292c03e9446773771925a35fcbc", func := "balustrade/balustradelaw36.LoopNest", spec := "loopNest", unfollowed := true, recurses := true, apart := false, narrowed := true }
def LoopNestUptoSaid : Prop := loopNestUptoRow.holds Try.pinned (OpenSpec.upto loopNestSpec)

/-- 'balustradelaw36.LoopTells', WHERE WHAT IT READS IS OF BULK AT MOST 1048576: true; the input reads as it did. -/
def loopTellsUptoRow : OpenClaim := { program := "ytbmiffgfmlkdnaa", sum := "b22624faa956c7b37806d843ff1e87a26807b292c03e9446773771925a35fcbc", func := "balustrade/balustradelaw36.LoopTells", spec := "loopTells", unfollowed := true, recurses := true, apart := false, narrowed := true }
def LoopTellsUptoSaid : Prop := loopTellsUptoRow.holds Try.pinned (OpenSpec.upto loopTellsSpec)

end Rows
end Go.Proofs.Ytbmiffgfmlkdnaa
