/- live.solved: a block's sets are put behind the others. -/
import Derived.Test.YtdgibhndjdgllaaDoorG12
import Derived.Test.YtdgibhndjdgllaaDoorG11
set_option linter.unusedVariables false
set_option linter.unusedSimpArgs false

namespace Go.Proofs.YtdgibhndjdgllaaDoor
open Go.Ax
set_option maxRecDepth 10000
set_option linter.unusedVariables false
set_option maxHeartbeats 0

/-- What the walk asks of a function. -/
structure LiveR (f : Fun) : Prop extends LiveOK f where
  fit : f.fits
  len : ∀ b ∈ f.blocks, b.length ≤ 1000000
  arg : ∀ b ∈ f.blocks, ∀ i ∈ b, i.op ≠ 44 ∧ i.args.length ≤ 1000000
def hpS (f : Fun) (G K : List (List W)) : HP := [(2, .var (probV f)), (3, .row 1 (G.map oset)), (4, .row 1 (K.map oset)), (0, .var f.cs), (1, .var [nil0, nil0])]
def tmS (f : Fun) (k : Nat) : TM := [(1, .hp 0 0), (2, .hp 1 0), (3, num f.regs.length), (4, .hp 2 0), (23, .sl false 1 (f.blocks.map blk)), (24, num f.blocks.length), (25, num k)]
def fstC : Code → Code
  | .seq a _ => a
  | c => c
def sndC : Code → Code
  | .seq _ b => b
  | c => c
def inC : Code → Code
  | .block _ c => c
  | .loop c => c
  | c => c
def navC : List (Code → Code) → Code → Code
  | [], c => c
  | g :: l, c => navC l (g c)
noncomputable def reg14 : Code := navC [sndC, sndC, sndC, fstC, sndC, inC, inC, sndC, sndC, fstC, inC, sndC, sndC, sndC] (Tryd.f29.body.getD .skip)
theorem push_run (f : Fun) (k : Nat) (a b : List W) (G K2 : List (List W)) (hG : G.length ≤ 65536) (hK : K2.length ≤ 65536) (Qp : AV → Prop) {todo : List Item}
    (h : Run Tryd.prog 29 (Post.one Qp) todo ⟨tmS f k, hpS f (G ++ [a]) (K2 ++ [b]), 5, Tryd.f29.ntmps⟩) :
    Run Tryd.prog 29 (Post.one Qp) (.code reg14 :: todo) ⟨[(7, .hw 5), (8, .hw 6)] ++ tmS f k, [(5, rowW a), (6, rowW b)] ++ hpS f G K2, 7, Tryd.f29.ntmps⟩ := by
  unfold hpS at h
  rw [List.map_append, List.map_append] at h
  unfold reg14 tmS hpS
  refine go 1 Tryd.func29 ?_
  repeat' first | refine Draw.mk (.one 0 false (.one 2 false (.one 5 false (.one 7 false (.alt 1 (.alt 3 (.alt 4 (.alt 6 (ordL [8, 9, 11, 13] [10, 8, 9, 11, 12, 13]) (.alt 8 (ordL [6, 9, 11, 13] [6, 10, 9, 11, 12, 13]) .no)) (.alt 6 (.alt 4 (ordL [8, 9, 11, 13] [10, 8, 9, 11, 12, 13]) (.alt 8 (ordL [4, 9, 11, 13] [4, 10, 9, 11, 12, 13]) .no)) (.alt 8 (.alt 4 (ordL [6, 9, 11, 13] [6, 10, 9, 11, 12, 13]) (.alt 6 (ordL [4, 9, 11, 13] [4, 10, 9, 11, 12, 13]) .no)) .no))) (.alt 6 (.alt 3 (.alt 4 (ordL [8, 9, 11, 13] [10, 8, 9, 11, 12, 13]) (.alt 8 (ordL [4, 9, 11, 13] [4, 10, 9, 11, 12, 13]) .no)) (.alt 8 (ordL [3, 4, 9, 11, 13] [3, 4, 10, 9, 11, 12, 13]) .no)) (.alt 8 (.alt 3 (.alt 4 (ordL [6, 9, 11, 13] [6, 10, 9, 11, 12, 13]) (.alt 6 (ordL [4, 9, 11, 13] [4, 10, 9, 11, 12, 13]) .no)) (.alt 6 (ordL [3, 4, 9, 11, 13] [3, 4, 10, 9, 11, 12, 13]) .no)) .no))) (.alt 3 (.alt 1 (.alt 4 (.alt 6 (ordL [8, 9, 11, 13] [10, 8, 9, 11, 12, 13]) (.alt 8 (ordL [6, 9, 11, 13] [6, 10, 9, 11, 12, 13]) .no)) (.alt 6 (.alt 4 (ordL [8, 9, 11, 13] [10, 8, 9, 11, 12, 13]) (.alt 8 (ordL [4, 9, 11, 13] [4, 10, 9, 11, 12, 13]) .no)) (.alt 8 (.alt 4 (ordL [6, 9, 11, 13] [6, 10, 9, 11, 12, 13]) (.alt 6 (ordL [4, 9, 11, 13] [4, 10, 9, 11, 12, 13]) .no)) .no))) (.alt 6 (.alt 1 (.alt 4 (ordL [8, 9, 11, 13] [10, 8, 9, 11, 12, 13]) (.alt 8 (ordL [4, 9, 11, 13] [4, 10, 9, 11, 12, 13]) .no)) (.alt 8 (ordL [1, 4, 9, 11, 13] [1, 4, 10, 9, 11, 12, 13]) .no)) (.alt 8 (.alt 1 (.alt 4 (ordL [6, 9, 11, 13] [6, 10, 9, 11, 12, 13]) (.alt 6 (ordL [4, 9, 11, 13] [4, 10, 9, 11, 12, 13]) .no)) (.alt 6 (ordL [1, 4, 9, 11, 13] [1, 4, 10, 9, 11, 12, 13]) .no)) .no))) (.alt 6 (.alt 1 (.alt 3 (.alt 4 (ordL [8, 9, 11, 13] [10, 8, 9, 11, 12, 13]) (.alt 8 (ordL [4, 9, 11, 13] [4, 10, 9, 11, 12, 13]) .no)) (.alt 8 (ordL [3, 4, 9, 11, 13] [3, 4, 10, 9, 11, 12, 13]) .no)) (.alt 3 (.alt 1 (.alt 4 (ordL [8, 9, 11, 13] [10, 8, 9, 11, 12, 13]) (.alt 8 (ordL [4, 9, 11, 13] [4, 10, 9, 11, 12, 13]) .no)) (.alt 8 (ordL [1, 4, 9, 11, 13] [1, 4, 10, 9, 11, 12, 13]) .no)) (.alt 8 (.alt 1 (ordL [3, 4, 9, 11, 13] [3, 4, 10, 9, 11, 12, 13]) (.alt 3 (ordL [1, 4, 9, 11, 13] [1, 4, 10, 9, 11, 12, 13]) .no)) .no))) (.alt 8 (.alt 1 (.alt 3 (.alt 4 (ordL [6, 9, 11, 13] [6, 10, 9, 11, 12, 13]) (.alt 6 (ordL [4, 9, 11, 13] [4, 10, 9, 11, 12, 13]) .no)) (.alt 6 (ordL [3, 4, 9, 11, 13] [3, 4, 10, 9, 11, 12, 13]) .no)) (.alt 3 (.alt 1 (.alt 4 (ordL [6, 9, 11, 13] [6, 10, 9, 11, 12, 13]) (.alt 6 (ordL [4, 9, 11, 13] [4, 10, 9, 11, 12, 13]) .no)) (.alt 6 (ordL [1, 4, 9, 11, 13] [1, 4, 10, 9, 11, 12, 13]) .no)) (.alt 6 (.alt 1 (ordL [3, 4, 9, 11, 13] [3, 4, 10, 9, 11, 12, 13]) (.alt 3 (ordL [1, 4, 9, 11, 13] [1, 4, 10, 9, 11, 12, 13]) .no)) .no))) .no)))))))) (by decide +kernel) ?_ | refine Len.map ?_ | refine Len.nil ?_ | refine Len.cons ?_ | refine Br.t rfl ?_ | refine Br.f rfl ?_ | refine Fit.au ?_ | refine Cv.au ?_ | refine Need.ne ?_ | refine Need.au ?_ | refine Pick.map (by assumption) ?_ | refine Pick.mapI (by omega) (by assumption) ?_ | refine PickN.mk _ (by assumption) ?_ | refine PickN.mk _ rfl ?_ | refine PickN.au ?_ | refine App.au rfl ?_ | refine App.au (own_map (fun _ => rfl) _) ?_ | refine Both.mk ?_ ?_ | exact True.intro
  all_goals refine Stop.mk ?_
  all_goals refine run_unfold 2 4 rfl rfl ?_
  all_goals refine run_unfold 2 5 rfl rfl ?_
  all_goals exact Run.fr (g := [(3, 11), (4, 12)]) h ⟨rfl, (by repeat' first | exact trivial | refine ⟨rfl, ?_⟩ | refine ⟨congrArg (fun n => AV.lit (.int .i64 n)) (by omega), ?_⟩ | refine ⟨congrArg (fun l => some (Row.row 1 l)) (by simp [int1, num, tru]), ?_⟩), (by repeat' first | exact trivial | refine ⟨rfl, ?_⟩ | refine ⟨congrArg (fun n => AV.lit (.int .i64 n)) (by omega), ?_⟩ | refine ⟨congrArg (fun l => some (Row.row 1 l)) (by simp [int1, num, tru]), ?_⟩)⟩
end Go.Proofs.YtdgibhndjdgllaaDoor
