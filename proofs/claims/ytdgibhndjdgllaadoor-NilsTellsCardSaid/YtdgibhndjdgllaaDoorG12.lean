/- Blocks and where they go, by contracts. -/
import Derived.Test.YtdgibhndjdgllaaDoorG11
import Derived.Test.YtdgibhndjdgllaaDoorG07
import Derived.Test.YtdgibhndjdgllaaDoorG09
import Derived.Test.YtdgibhndjdgllaaDoorG08
import Derived.Test.YtdgibhndjdgllaaDoorG04
set_option linter.unusedVariables false
set_option linter.unusedSimpArgs false

namespace Go.Proofs.YtdgibhndjdgllaaDoor
open Go.Ax
set_option maxRecDepth 10000
set_option linter.unusedVariables false

theorem Succs_spec (f : Fun) (hf : f.fits) (hn : f.blocks.length ≤ 1000000) : FnSpec Tryd.prog 32 [funA f] (fun r => r = .osl 1 ((succsF f).map olst)) := by
  refine spec_of 1000 Tryd.func32 rfl rfl ?_
  repeat' first | refine Len.map ?_ | refine Len.nil ?_ | refine Len.cons ?_ | refine Br.t rfl ?_ | refine Br.f rfl ?_ | refine Fit.au ?_ | refine Cv.au ?_ | refine Need.ne ?_ | refine Need.au ?_ | refine Pick.map (by assumption) ?_ | refine Pick.mapI (by omega) (by assumption) ?_ | refine PickN.mk _ (by assumption) ?_ | refine PickN.mk _ rfl ?_ | refine PickN.au ?_ | refine App.au rfl ?_ | refine App.au (own_map (fun _ => rfl) _) ?_ | refine Both.mk ?_ ?_ | exact True.intro
  refine Stop.mk (loop_in (fun k : Nat => [(1, .hp 0 0), (3, .hw 1), (4, num k)]) (fun k => [(0, .var f.cs), (1, .row 1 (((succsF f).take k).map olst))]) 2 (fun k => k ≤ f.blocks.length) (fun k => f.blocks.length - k) 0 (by omega) (g := []) ⟨rfl, (by repeat' first | exact trivial | refine ⟨rfl, ?_⟩ | refine ⟨congrArg (fun n => AV.lit (.int .i64 n)) (by omega), ?_⟩ | refine ⟨congrArg (fun l => some (Row.row 1 l)) (by simp [int1, num, tru]), ?_⟩), (by repeat' first | exact trivial | refine ⟨rfl, ?_⟩ | refine ⟨congrArg (fun n => AV.lit (.int .i64 n)) (by omega), ?_⟩ | refine ⟨congrArg (fun l => some (Row.row 1 l)) (by simp [int1, num, tru]), ?_⟩)⟩ (fun k hk ih => ?_))
  refine go 1000 Tryd.func32 ?_
  repeat' first | refine Len.map ?_ | refine Len.nil ?_ | refine Len.cons ?_ | refine Br.t rfl ?_ | refine Br.f rfl ?_ | refine Fit.au ?_ | refine Cv.au ?_ | refine Need.ne ?_ | refine Need.au ?_ | refine Pick.map (by assumption) ?_ | refine Pick.mapI (by omega) (by assumption) ?_ | refine PickN.mk _ (by assumption) ?_ | refine PickN.mk _ rfl ?_ | refine PickN.au ?_ | refine App.au rfl ?_ | refine App.au (own_map (fun _ => rfl) _) ?_ | refine Both.mk ?_ ?_ | exact True.intro
  refine Br.d (fun h2 => ?_) (fun h2 => ?_)
  · obtain ⟨b, gb, gm⟩ := getK (l := f.blocks) (k := k) (by omega)
    obtain ⟨hb1, hb2⟩ := hf.2.2 b gm
    have gs : (succsF f)[k]? = some (succ1 f.blocks.length b) := by simp [succsF, gb]
    have et := take_succ gs
    have hlen := succsF_len f
    have htk : ((succsF f).take k).length = k := by rw [List.length_take]; omega
    repeat' first | refine Len.map ?_ | refine Len.nil ?_ | refine Len.cons ?_ | refine Br.t rfl ?_ | refine Br.f rfl ?_ | refine Fit.au ?_ | refine Cv.au ?_ | refine Need.ne ?_ | refine Need.au ?_ | refine Pick.map (by assumption) ?_ | refine Pick.mapI (by omega) (by assumption) ?_ | refine PickN.mk _ (by assumption) ?_ | refine PickN.mk _ rfl ?_ | refine PickN.au ?_ | refine App.au rfl ?_ | refine App.au (own_map (fun _ => rfl) _) ?_ | refine Both.mk ?_ ?_ | exact True.intro
    refine Br.d (fun h3 => ?_) (fun h3 => ?_)
    · obtain ⟨i, gi, gim⟩ := getK (l := b) (k := b.length - 1) (by omega)
      have gi' : b[((b.length : Int) - 1).toNat]? = some i := by rw [show ((b.length : Int) - 1).toNat = b.length - 1 by omega]; exact gi
      have e1 : succ1 f.blocks.length b = below f.blocks.length (targetsF i) := by unfold succ1; rw [gi]
      have hl := targetsF_len i
      repeat' first | refine Call.eq (Targets_spec i (hb2 i gim)) rfl ?_ | refine Len.map ?_ | refine Len.nil ?_ | refine Len.cons ?_ | refine Br.t rfl ?_ | refine Br.f rfl ?_ | refine Fit.au ?_ | refine Cv.au ?_ | refine Need.ne ?_ | refine Need.au ?_ | refine Pick.map (by assumption) ?_ | refine Pick.mapI (by omega) (by assumption) ?_ | refine PickN.mk _ (by assumption) ?_ | refine PickN.mk _ rfl ?_ | refine PickN.au ?_ | refine App.au rfl ?_ | refine App.au (own_map (fun _ => rfl) _) ?_ | refine Both.mk ?_ ?_ | exact True.intro
      refine Stop.mk (loop_in (fun j : Nat => [(1, .hp 0 0), (3, .hw 1), (4, num k), (6, .hw 2), (7, .hw 3), (8, num j)]) (fun j => [(0, .var f.cs), (1, .row 1 (((succsF f).take k).map olst)), (2, .row 1 ((below f.blocks.length ((targetsF i).take j)).map int1)), (3, .row 1 ((targetsF i).map int1))]) 4 (fun j => j ≤ (targetsF i).length) (fun j => (targetsF i).length - j) 0 (by omega) (g := []) ⟨rfl, (by repeat' first | exact trivial | refine ⟨rfl, ?_⟩ | refine ⟨congrArg (fun n => AV.lit (.int .i64 n)) (by omega), ?_⟩ | refine ⟨congrArg (fun l => some (Row.row 1 l)) (by simp [int1, num, tru]), ?_⟩), (by repeat' first | exact trivial | refine ⟨rfl, ?_⟩ | refine ⟨congrArg (fun n => AV.lit (.int .i64 n)) (by omega), ?_⟩ | refine ⟨congrArg (fun l => some (Row.row 1 l)) (by simp [int1, num, tru]), ?_⟩)⟩ (fun j hj ih2 => ?_))
      refine go 1000 Tryd.func32 ?_
      repeat' first | refine Len.map ?_ | refine Len.nil ?_ | refine Len.cons ?_ | refine Br.t rfl ?_ | refine Br.f rfl ?_ | refine Fit.au ?_ | refine Cv.au ?_ | refine Need.ne ?_ | refine Need.au ?_ | refine Pick.map (by assumption) ?_ | refine Pick.mapI (by omega) (by assumption) ?_ | refine PickN.mk _ (by assumption) ?_ | refine PickN.mk _ rfl ?_ | refine PickN.au ?_ | refine App.au rfl ?_ | refine App.au (own_map (fun _ => rfl) _) ?_ | refine Both.mk ?_ ?_ | exact True.intro
      refine Br.d (fun h4 => ?_) (fun h4 => ?_)
      · obtain ⟨t, gt, gtm⟩ := getK (l := targetsF i) (k := j) (by omega)
        have hfl : (below f.blocks.length ((targetsF i).take j)).length ≤ 2 := by
          have := List.length_filter_le (fun t : Int => decide (t < (f.blocks.length : Int))) ((targetsF i).take j)
          unfold below; rw [List.length_take] at this; omega
        repeat' first | refine Draw.mk (ordL [] [0, 1, 2, 3, 4, 5, 6, 7]) (by decide +kernel) ?_ | refine Len.map ?_ | refine Len.nil ?_ | refine Len.cons ?_ | refine Br.t rfl ?_ | refine Br.f rfl ?_ | refine Fit.au ?_ | refine Cv.au ?_ | refine Need.ne ?_ | refine Need.au ?_ | refine Pick.map (by assumption) ?_ | refine Pick.mapI (by omega) (by assumption) ?_ | refine PickN.mk _ (by assumption) ?_ | refine PickN.mk _ rfl ?_ | refine PickN.au ?_ | refine App.au rfl ?_ | refine App.au (own_map (fun _ => rfl) _) ?_ | refine Both.mk ?_ ?_ | exact True.intro
        refine Br.d (fun h5 => ?_) (fun h5 => ?_)
        · repeat' first | refine Draw.mk (ordL [] [0, 1, 2, 3, 4, 5, 6, 7]) (by decide +kernel) ?_ | refine Len.map ?_ | refine Len.nil ?_ | refine Len.cons ?_ | refine Br.t rfl ?_ | refine Br.f rfl ?_ | refine Fit.au ?_ | refine Cv.au ?_ | refine Need.ne ?_ | refine Need.au ?_ | refine Pick.map (by assumption) ?_ | refine Pick.mapI (by omega) (by assumption) ?_ | refine PickN.mk _ (by assumption) ?_ | refine PickN.mk _ rfl ?_ | refine PickN.au ?_ | refine App.au rfl ?_ | refine App.au (own_map (fun _ => rfl) _) ?_ | refine Both.mk ?_ ?_ | exact True.intro
          have e2 : below f.blocks.length ((targetsF i).take (j + 1)) = below f.blocks.length ((targetsF i).take j) ++ [t] := by
            unfold below; rw [take_succ gt, List.filter_append]; simp [h5]
          refine Stop.mk (ih2 (j + 1) (g := [(2, 5)]) _ _ _ (by omega) (by omega) ?_)
          rw [e2, List.map_append]
          exact ⟨rfl, (by repeat' first | exact trivial | refine ⟨rfl, ?_⟩ | refine ⟨congrArg (fun n => AV.lit (.int .i64 n)) (by omega), ?_⟩ | refine ⟨congrArg (fun l => some (Row.row 1 l)) (by simp [int1, num, tru]), ?_⟩), (by repeat' first | exact trivial | refine ⟨rfl, ?_⟩ | refine ⟨congrArg (fun n => AV.lit (.int .i64 n)) (by omega), ?_⟩ | refine ⟨congrArg (fun l => some (Row.row 1 l)) (by simp [int1, num, tru]), ?_⟩)⟩
        · repeat' first | refine Draw.mk (ordL [] [0, 1, 2, 3, 4, 5, 6, 7]) (by decide +kernel) ?_ | refine Len.map ?_ | refine Len.nil ?_ | refine Len.cons ?_ | refine Br.t rfl ?_ | refine Br.f rfl ?_ | refine Fit.au ?_ | refine Cv.au ?_ | refine Need.ne ?_ | refine Need.au ?_ | refine Pick.map (by assumption) ?_ | refine Pick.mapI (by omega) (by assumption) ?_ | refine PickN.mk _ (by assumption) ?_ | refine PickN.mk _ rfl ?_ | refine PickN.au ?_ | refine App.au rfl ?_ | refine App.au (own_map (fun _ => rfl) _) ?_ | refine Both.mk ?_ ?_ | exact True.intro
          have e2 : below f.blocks.length ((targetsF i).take (j + 1)) = below f.blocks.length ((targetsF i).take j) := by
            unfold below; rw [take_succ gt, List.filter_append]; simp [h5]
          refine Stop.mk (ih2 (j + 1) (g := []) _ _ _ (by omega) (by omega) ?_)
          rw [e2]
          exact ⟨rfl, (by repeat' first | exact trivial | refine ⟨rfl, ?_⟩ | refine ⟨congrArg (fun n => AV.lit (.int .i64 n)) (by omega), ?_⟩ | refine ⟨congrArg (fun l => some (Row.row 1 l)) (by simp [int1, num, tru]), ?_⟩), (by repeat' first | exact trivial | refine ⟨rfl, ?_⟩ | refine ⟨congrArg (fun n => AV.lit (.int .i64 n)) (by omega), ?_⟩ | refine ⟨congrArg (fun l => some (Row.row 1 l)) (by simp [int1, num, tru]), ?_⟩)⟩
      · rw [take_all (l := targetsF i) (by omega)]
        repeat' first | refine Len.map ?_ | refine Len.nil ?_ | refine Len.cons ?_ | refine Br.t rfl ?_ | refine Br.f rfl ?_ | refine Fit.au ?_ | refine Cv.au ?_ | refine Need.ne ?_ | refine Need.au ?_ | refine Pick.map (by assumption) ?_ | refine Pick.mapI (by omega) (by assumption) ?_ | refine PickN.mk _ (by assumption) ?_ | refine PickN.mk _ rfl ?_ | refine PickN.au ?_ | refine App.au rfl ?_ | refine App.au (own_map (fun _ => rfl) _) ?_ | refine Both.mk ?_ ?_ | exact True.intro
        refine Stop.mk (ih (k + 1) (g := [(1, 5)]) _ _ _ (by omega) (by omega) ?_)
        rw [et, e1, List.map_append]
        exact ⟨rfl, (by repeat' first | exact trivial | refine ⟨rfl, ?_⟩ | refine ⟨congrArg (fun n => AV.lit (.int .i64 n)) (by omega), ?_⟩ | refine ⟨congrArg (fun l => some (Row.row 1 l)) (by simp [int1, num, tru]), ?_⟩), (by repeat' first | exact trivial | refine ⟨rfl, ?_⟩ | refine ⟨congrArg (fun n => AV.lit (.int .i64 n)) (by omega), ?_⟩ | refine ⟨congrArg (fun l => some (Row.row 1 l)) (by simp [int1, num, tru]), ?_⟩)⟩
    · repeat' first | refine Len.map ?_ | refine Len.nil ?_ | refine Len.cons ?_ | refine Br.t rfl ?_ | refine Br.f rfl ?_ | refine Fit.au ?_ | refine Cv.au ?_ | refine Need.ne ?_ | refine Need.au ?_ | refine Pick.map (by assumption) ?_ | refine Pick.mapI (by omega) (by assumption) ?_ | refine PickN.mk _ (by assumption) ?_ | refine PickN.mk _ rfl ?_ | refine PickN.au ?_ | refine App.au rfl ?_ | refine App.au (own_map (fun _ => rfl) _) ?_ | refine Both.mk ?_ ?_ | exact True.intro
      have e1 : succ1 f.blocks.length b = [] := by unfold succ1; rw [List.getElem?_eq_none (by omega)]
      refine Stop.mk (ih (k + 1) (g := [(1, 4)]) _ _ _ (by omega) (by omega) ?_)
      rw [et, e1, List.map_append]
      exact ⟨rfl, (by repeat' first | exact trivial | refine ⟨rfl, ?_⟩ | refine ⟨congrArg (fun n => AV.lit (.int .i64 n)) (by omega), ?_⟩ | refine ⟨congrArg (fun l => some (Row.row 1 l)) (by simp [int1, num, tru]), ?_⟩), (by repeat' first | exact trivial | refine ⟨rfl, ?_⟩ | refine ⟨congrArg (fun n => AV.lit (.int .i64 n)) (by omega), ?_⟩ | refine ⟨congrArg (fun l => some (Row.row 1 l)) (by simp [int1, num, tru]), ?_⟩)⟩
  · repeat' first | refine Len.map ?_ | refine Len.nil ?_ | refine Len.cons ?_ | refine Br.t rfl ?_ | refine Br.f rfl ?_ | refine Fit.au ?_ | refine Cv.au ?_ | refine Need.ne ?_ | refine Need.au ?_ | refine Pick.map (by assumption) ?_ | refine Pick.mapI (by omega) (by assumption) ?_ | refine PickN.mk _ (by assumption) ?_ | refine PickN.mk _ rfl ?_ | refine PickN.au ?_ | refine App.au rfl ?_ | refine App.au (own_map (fun _ => rfl) _) ?_ | refine Both.mk ?_ ?_ | exact True.intro
    rw [List.take_of_length_le (by rw [succsF_len]; omega)]
    rfl

end Go.Proofs.YtdgibhndjdgllaaDoor

/- What is reached without a block, by contracts. -/
namespace Go.Proofs.YtdgibhndjdgllaaDoor
open Go.Ax
set_option maxRecDepth 10000
set_option linter.unusedVariables false

theorem fz_olsts (l : List Int) : AV.fzL (olst l) = lst l := by
  show [AV.sl false 1 (AV.fzLL (l.map int1))] = _
  rw [show AV.fzLL (l.map int1) = l.map int1 from fzLL_map (fun _ => rfl) l]; rfl
def lsts (s : List (List Int)) : AV := .sl false 1 (s.map lst)

set_option maxHeartbeats 2000000 in
theorem Without_spec (f : Fun) (x : Int) (hf : f.fits) (hn : f.blocks.length ≤ 1000000) : FnSpec Tryd.prog 56 [funA f, num x] (fun r => ∃ l, r = .osl 1 (l.map tb) ∧ Marks (succsF f) x l) := by
  have hcl := succsF_closed f
  have hsm := succsF_small f
  have hsn : (succsF f).length ≤ 1000000 := by rw [succsF_len]; exact hn
  refine spec_of 11 Tryd.func56 rfl rfl ?_
  repeat' first | refine Call.eq (Succs_spec f hf hn) rfl ?_ | refine Len.map ?_ | refine Len.nil ?_ | refine Len.cons ?_ | refine Br.t rfl ?_ | refine Br.f rfl ?_ | refine Fit.au ?_ | refine Cv.au ?_ | refine Need.ne ?_ | refine Need.au ?_ | refine Pick.map (by assumption) ?_ | refine Pick.mapI (by omega) (by assumption) ?_ | refine PickN.mk _ (by assumption) ?_ | refine PickN.mk _ rfl ?_ | refine PickN.au ?_ | refine App.au rfl ?_ | refine App.au (own_map (fun _ => rfl) _) ?_ | refine Both.mk ?_ ?_ | exact True.intro
  refine Stop.mk (run_frzR 1 rfl (fzLL_map fz_olsts _) ?_)
  generalize succsF f = s at *
  apply join (fun p : Bool × List Bool => [(1, num x), (5, lsts s), (6, .hw 2), (7, tru p.1)]) (fun p => [(2, .row 1 (p.2.map tb))]) 3 (fun p => Sound s x p.2 ∧ (s ≠ [] → x ≠ 0 → p.2[0]? = some true) ∧ (p.1 = false → Shut s x p.2 s.length 0))
  · intro jn
    refine go 25 Tryd.func56 ?_
    repeat' first | refine MkS.mk s.length rfl rfl (by omega) (by omega) ?_ | refine Len.map ?_ | refine Len.nil ?_ | refine Len.cons ?_ | refine Br.t rfl ?_ | refine Br.f rfl ?_ | refine Fit.au ?_ | refine Cv.au ?_ | refine Need.ne ?_ | refine Need.au ?_ | refine Pick.map (by assumption) ?_ | refine Pick.mapI (by omega) (by assumption) ?_ | refine PickN.mk _ (by assumption) ?_ | refine PickN.mk _ rfl ?_ | refine PickN.au ?_ | refine App.au rfl ?_ | refine App.au (own_map (fun _ => rfl) _) ?_ | refine Both.mk ?_ ?_ | exact True.intro | refine Br.d (fun h => ?_) (fun h => ?_) | refine Br.nd (fun h => ?_) (fun h => ?_) | refine Br.mk (fun h => ?_) (fun h => ?_)
    · refine Stop.mk (go 4 Tryd.func56 ?_)
      have hpos : 0 < s.length := by omega
      have gp : (List.replicate s.length (List.map AV.lit [Value.bool false]))[0]? = some [AV.lit (.bool false)] := by rw [List.getElem?_replicate, if_pos hpos]; rfl
      repeat' first | refine PickN.mk _ gp ?_ | refine Len.map ?_ | refine Len.nil ?_ | refine Len.cons ?_ | refine Br.t rfl ?_ | refine Br.f rfl ?_ | refine Fit.au ?_ | refine Cv.au ?_ | refine Need.ne ?_ | refine Need.au ?_ | refine Pick.map (by assumption) ?_ | refine Pick.mapI (by omega) (by assumption) ?_ | refine PickN.mk _ (by assumption) ?_ | refine PickN.mk _ rfl ?_ | refine PickN.au ?_ | refine App.au rfl ?_ | refine App.au (own_map (fun _ => rfl) _) ?_ | refine Both.mk ?_ ?_ | exact True.intro
      refine Stop.mk (jn (!decide (x = 0), (List.replicate s.length false).set 0 true) (g := []) _ _ _ ?_ ⟨?_, ?_, ?_⟩)
      · dsimp only
        rw [List.map_set, List.map_replicate]
        exact ⟨rfl, (by repeat' first | exact trivial | refine ⟨rfl, ?_⟩ | refine ⟨congrArg (fun n => AV.lit (.int .i64 n)) (by omega), ?_⟩ | refine ⟨congrArg (fun l => some (Row.row 1 l)) (by simp [int1, num, tru]), ?_⟩), (by repeat' first | exact trivial | refine ⟨rfl, ?_⟩ | refine ⟨congrArg (fun n => AV.lit (.int .i64 n)) (by omega), ?_⟩ | refine ⟨congrArg (fun l => some (Row.row 1 l)) (by simp [int1, num, tru]), ?_⟩)⟩
      · refine Sound.set ⟨by simp, fun t ht => absurd ht rep_false⟩ (.zero ?_ ?_)
        · intro e; subst e; exact absurd hpos (by decide)
        · exact h
      · intro _ _
        show ((List.replicate s.length false).set 0 true)[0]? = some true
        rw [List.getElem?_set]; simp [hpos]
      · intro e; dsimp only at e; simp at e; exact absurd e h
    · refine Stop.mk (jn (!decide (x = 0), List.replicate s.length false) (g := []) _ _ _ ?_ ⟨⟨by simp, fun t ht => absurd ht rep_false⟩, ?_, fun _ => Shut.none fun u => rep_false⟩)
      · dsimp only
        rw [List.map_replicate]
        exact ⟨rfl, (by repeat' first | exact trivial | refine ⟨rfl, ?_⟩ | refine ⟨congrArg (fun n => AV.lit (.int .i64 n)) (by omega), ?_⟩ | refine ⟨congrArg (fun l => some (Row.row 1 l)) (by simp [int1, num, tru]), ?_⟩), (by repeat' first | exact trivial | refine ⟨rfl, ?_⟩ | refine ⟨congrArg (fun n => AV.lit (.int .i64 n)) (by omega), ?_⟩ | refine ⟨congrArg (fun l => some (Row.row 1 l)) (by simp [int1, num, tru]), ?_⟩)⟩
      · intro h1 h2
        have := List.length_pos_iff.2 h1
        exact absurd h h2
    · refine Stop.mk (jn (false, List.replicate s.length false) (g := []) _ _ _ ?_ ⟨⟨by simp, fun t ht => absurd ht rep_false⟩, ?_, fun _ => Shut.none fun u => rep_false⟩)
      · dsimp only
        rw [List.map_replicate]
        exact ⟨rfl, (by repeat' first | exact trivial | refine ⟨rfl, ?_⟩ | refine ⟨congrArg (fun n => AV.lit (.int .i64 n)) (by omega), ?_⟩ | refine ⟨congrArg (fun l => some (Row.row 1 l)) (by simp [int1, num, tru]), ?_⟩), (by repeat' first | exact trivial | refine ⟨rfl, ?_⟩ | refine ⟨congrArg (fun n => AV.lit (.int .i64 n)) (by omega), ?_⟩ | refine ⟨congrArg (fun l => some (Row.row 1 l)) (by simp [int1, num, tru]), ?_⟩)⟩
      · intro h1 h2
        have := List.length_pos_iff.2 h1
        exact absurd h (by omega)
  rintro ⟨c, out⟩ ⟨h1, h2, h3⟩
  dsimp only at h1 h2 h3
  refine go 1000 Tryd.func56 ?_
  refine Stop.mk (loop_in (fun p : Bool × List Bool => [(1, num x), (5, lsts s), (6, .hw 2), (7, tru p.1)]) (fun p => [(2, .row 1 (p.2.map tb))]) 3 (fun p => Sound s x p.2 ∧ (s ≠ [] → x ≠ 0 → p.2[0]? = some true) ∧ (p.1 = false → Shut s x p.2 s.length 0)) (fun p => 2 * falses p.2 + cond p.1 1 0) (c, out) ⟨h1, h2, h3⟩ (g := []) ⟨rfl, (by repeat' first | exact trivial | refine ⟨rfl, ?_⟩ | refine ⟨congrArg (fun n => AV.lit (.int .i64 n)) (by omega), ?_⟩ | refine ⟨congrArg (fun l => some (Row.row 1 l)) (by simp [int1, num, tru]), ?_⟩), (by repeat' first | exact trivial | refine ⟨rfl, ?_⟩ | refine ⟨congrArg (fun n => AV.lit (.int .i64 n)) (by omega), ?_⟩ | refine ⟨congrArg (fun l => some (Row.row 1 l)) (by simp [int1, num, tru]), ?_⟩)⟩ ?_)
  clear h1 h2 h3 c out
  rintro ⟨c, out⟩ ⟨h1, h2, h3⟩ ih
  dsimp only at h1 h2 h3 ih
  refine go 1000 Tryd.func56 ?_
  repeat' first | refine Len.map ?_ | refine Len.nil ?_ | refine Len.cons ?_ | refine Br.t rfl ?_ | refine Br.f rfl ?_ | refine Fit.au ?_ | refine Cv.au ?_ | refine Need.ne ?_ | refine Need.au ?_ | refine Pick.map (by assumption) ?_ | refine Pick.mapI (by omega) (by assumption) ?_ | refine PickN.mk _ (by assumption) ?_ | refine PickN.mk _ rfl ?_ | refine PickN.au ?_ | refine App.au rfl ?_ | refine App.au (own_map (fun _ => rfl) _) ?_ | refine Both.mk ?_ ?_ | exact True.intro
  refine Br.mk (fun hc => ?_) (fun hc => ?_)
  · dsimp only at hc
    subst hc
    clear h3
    repeat' first | refine Len.map ?_ | refine Len.nil ?_ | refine Len.cons ?_ | refine Br.t rfl ?_ | refine Br.f rfl ?_ | refine Fit.au ?_ | refine Cv.au ?_ | refine Need.ne ?_ | refine Need.au ?_ | refine Pick.map (by assumption) ?_ | refine Pick.mapI (by omega) (by assumption) ?_ | refine PickN.mk _ (by assumption) ?_ | refine PickN.mk _ rfl ?_ | refine PickN.au ?_ | refine App.au rfl ?_ | refine App.au (own_map (fun _ => rfl) _) ?_ | refine Both.mk ?_ ?_ | exact True.intro
    refine Stop.mk (loop_in (fun p : Nat × Bool × List Bool => [(1, num x), (5, lsts s), (6, .hw 2), (7, tru p.2.1), (8, num p.1)]) (fun p => [(2, .row 1 (p.2.2.map tb))]) 3 (fun p => p.1 ≤ s.length ∧ Sound s x p.2.2 ∧ (s ≠ [] → x ≠ 0 → p.2.2[0]? = some true) ∧ (p.2.1 = false → p.2.2 = out ∧ Shut s x out p.1 0) ∧ (p.2.1 = true → falses p.2.2 < falses out)) (fun p => s.length - p.1) (0, false, out) ⟨by dsimp only; omega, h1, h2, fun _ => ⟨rfl, Shut.zero⟩, fun h => by cases h⟩ (g := []) ⟨rfl, (by repeat' first | exact trivial | refine ⟨rfl, ?_⟩ | refine ⟨congrArg (fun n => AV.lit (.int .i64 n)) (by omega), ?_⟩ | refine ⟨congrArg (fun l => some (Row.row 1 l)) (by simp [int1, num, tru]), ?_⟩), (by repeat' first | exact trivial | refine ⟨rfl, ?_⟩ | refine ⟨congrArg (fun n => AV.lit (.int .i64 n)) (by omega), ?_⟩ | refine ⟨congrArg (fun l => some (Row.row 1 l)) (by simp [int1, num, tru]), ?_⟩)⟩ ?_)
    rintro ⟨k, c1, out1⟩ ⟨hk, i1, i2, i3, i4⟩ ih2
    dsimp only at hk i1 i2 i3 i4 ih2
    refine go 1000 Tryd.func56 ?_
    repeat' first | refine Len.map ?_ | refine Len.nil ?_ | refine Len.cons ?_ | refine Br.t rfl ?_ | refine Br.f rfl ?_ | refine Fit.au ?_ | refine Cv.au ?_ | refine Need.ne ?_ | refine Need.au ?_ | refine Pick.map (by assumption) ?_ | refine Pick.mapI (by omega) (by assumption) ?_ | refine PickN.mk _ (by assumption) ?_ | refine PickN.mk _ rfl ?_ | refine PickN.au ?_ | refine App.au rfl ?_ | refine App.au (own_map (fun _ => rfl) _) ?_ | refine Both.mk ?_ ?_ | exact True.intro
    refine Br.d (fun hk1 => ?_) (fun hk1 => ?_)
    · obtain ⟨r, gr, grm⟩ := getK (l := s) (k := k) (by omega)
      repeat' first | refine Len.map ?_ | refine Len.nil ?_ | refine Len.cons ?_ | refine Br.t rfl ?_ | refine Br.f rfl ?_ | refine Fit.au ?_ | refine Cv.au ?_ | refine Need.ne ?_ | refine Need.au ?_ | refine Pick.map (by assumption) ?_ | refine Pick.mapI (by omega) (by assumption) ?_ | refine PickN.mk _ (by assumption) ?_ | refine PickN.mk _ rfl ?_ | refine PickN.au ?_ | refine App.au rfl ?_ | refine App.au (own_map (fun _ => rfl) _) ?_ | refine Both.mk ?_ ?_ | exact True.intro
      refine Stop.mk (loop_in (fun p : Nat × Bool × List Bool => [(1, num x), (5, lsts s), (6, .hw 2), (7, tru p.2.1), (8, num k), (9, num p.1)]) (fun p => [(2, .row 1 (p.2.2.map tb))]) 3 (fun p => p.1 ≤ r.length ∧ Sound s x p.2.2 ∧ (s ≠ [] → x ≠ 0 → p.2.2[0]? = some true) ∧ (p.2.1 = false → p.2.2 = out ∧ Shut s x out k p.1) ∧ (p.2.1 = true → falses p.2.2 < falses out)) (fun p => r.length - p.1) (0, c1, out1) ⟨by dsimp only; omega, i1, i2, i3, i4⟩ (g := []) ⟨rfl, (by repeat' first | exact trivial | refine ⟨rfl, ?_⟩ | refine ⟨congrArg (fun n => AV.lit (.int .i64 n)) (by omega), ?_⟩ | refine ⟨congrArg (fun l => some (Row.row 1 l)) (by simp [int1, num, tru]), ?_⟩), (by repeat' first | exact trivial | refine ⟨rfl, ?_⟩ | refine ⟨congrArg (fun n => AV.lit (.int .i64 n)) (by omega), ?_⟩ | refine ⟨congrArg (fun l => some (Row.row 1 l)) (by simp [int1, num, tru]), ?_⟩)⟩ ?_)
      clear i1 i2 i3 i4
      rintro ⟨j, c2, out2⟩ ⟨hj, i1, i2, i3, i4⟩ ih3
      dsimp only at hj i1 i2 i3 i4 ih3 hk1
      refine go 1000 Tryd.func56 ?_
      repeat' first | refine Len.map ?_ | refine Len.nil ?_ | refine Len.cons ?_ | refine Br.t rfl ?_ | refine Br.f rfl ?_ | refine Fit.au ?_ | refine Cv.au ?_ | refine Need.ne ?_ | refine Need.au ?_ | refine Pick.map (by assumption) ?_ | refine Pick.mapI (by omega) (by assumption) ?_ | refine PickN.mk _ (by assumption) ?_ | refine PickN.mk _ rfl ?_ | refine PickN.au ?_ | refine App.au rfl ?_ | refine App.au (own_map (fun _ => rfl) _) ?_ | refine Both.mk ?_ ?_ | exact True.intro
      refine Br.d (fun hj1 => ?_) (fun hj1 => ?_)
      · dsimp only at hj1
        obtain ⟨t, gt, gtm⟩ := getK (l := r) (k := j) (by omega)
        obtain ⟨ht0, ht1⟩ := hcl r grm t gtm
        have hl := i1.1
        obtain ⟨m1, g1, _⟩ := getK (l := out2) (k := k) (by omega)
        obtain ⟨m2, g2, _⟩ := getK (l := out2) (k := t.toNat) (by omega)
        have hrl := hsm r grm
        repeat' first | refine Fit.ok ⟨by dsimp only; omega, by dsimp only; omega⟩ ?_ | refine Need.mk ⟨by dsimp only; omega, by dsimp only; omega⟩ ?_ | refine Len.map ?_ | refine Len.nil ?_ | refine Len.cons ?_ | refine Br.t rfl ?_ | refine Br.f rfl ?_ | refine Fit.au ?_ | refine Cv.au ?_ | refine Need.ne ?_ | refine Need.au ?_ | refine Pick.map (by assumption) ?_ | refine Pick.mapI (by omega) (by assumption) ?_ | refine PickN.mk _ (by assumption) ?_ | refine PickN.mk _ rfl ?_ | refine PickN.au ?_ | refine App.au rfl ?_ | refine App.au (own_map (fun _ => rfl) _) ?_ | refine Both.mk ?_ ?_ | exact True.intro | refine Br.d (fun h => ?_) (fun h => ?_) | refine Br.nd (fun h => ?_) (fun h => ?_) | refine Br.mk (fun h => ?_) (fun h => ?_)
        · have e1 : m1 = true := by assumption
          have e2 : m2 = false := by simp_all
          have hne : t ≠ x := by assumption
          subst e1 e2
          have hr : Reaches s x t := .step (i1.2 k g1) gr gtm hne
          refine Stop.mk (ih3 (j + 1, true, out2.set t.toNat true) (g := []) _ _ _ ⟨by dsimp only; omega, i1.set (by rw [Int.toNat_of_nonneg ht0]; exact hr), fun a b => set_keep (i2 a b), fun e => (by cases e), fun _ => ?_⟩ (by dsimp only; omega) ?_)
          · have h5 := falses_set g2
            dsimp only
            cases c2 with
            | false => have := (i3 rfl).1; subst this; exact h5
            | true => have := i4 rfl; omega
          · dsimp only
            rw [List.map_set]
            exact ⟨rfl, (by repeat' first | exact trivial | refine ⟨rfl, ?_⟩ | refine ⟨congrArg (fun n => AV.lit (.int .i64 n)) (by omega), ?_⟩ | refine ⟨congrArg (fun l => some (Row.row 1 l)) (by simp [int1, num, tru]), ?_⟩), (by repeat' first | exact trivial | refine ⟨rfl, ?_⟩ | refine ⟨congrArg (fun n => AV.lit (.int .i64 n)) (by omega), ?_⟩ | refine ⟨congrArg (fun l => some (Row.row 1 l)) (by simp [int1, num, tru]), ?_⟩)⟩
        all_goals
          refine Stop.mk (ih3 (j + 1, c2, out2) (g := []) _ _ _ ⟨by dsimp only; omega, i1, i2, fun e => ⟨(i3 e).1, (i3 e).2.step gr gt fun hm hne => ?_⟩, i4⟩ (by dsimp only; omega) ⟨rfl, (by repeat' first | exact trivial | refine ⟨rfl, ?_⟩ | refine ⟨congrArg (fun n => AV.lit (.int .i64 n)) (by omega), ?_⟩ | refine ⟨congrArg (fun l => some (Row.row 1 l)) (by simp [int1, num, tru]), ?_⟩), (by repeat' first | exact trivial | refine ⟨rfl, ?_⟩ | refine ⟨congrArg (fun n => AV.lit (.int .i64 n)) (by omega), ?_⟩ | refine ⟨congrArg (fun l => some (Row.row 1 l)) (by simp [int1, num, tru]), ?_⟩)⟩)
          have e3 := (i3 e).1
          simp_all
      · dsimp only at hj1
        repeat' first | refine Len.map ?_ | refine Len.nil ?_ | refine Len.cons ?_ | refine Br.t rfl ?_ | refine Br.f rfl ?_ | refine Fit.au ?_ | refine Cv.au ?_ | refine Need.ne ?_ | refine Need.au ?_ | refine Pick.map (by assumption) ?_ | refine Pick.mapI (by omega) (by assumption) ?_ | refine PickN.mk _ (by assumption) ?_ | refine PickN.mk _ rfl ?_ | refine PickN.au ?_ | refine App.au rfl ?_ | refine App.au (own_map (fun _ => rfl) _) ?_ | refine Both.mk ?_ ?_ | exact True.intro
        refine Stop.mk (ih2 (k + 1, c2, out2) (g := []) _ _ _ ⟨by dsimp only; omega, i1, i2, fun e => ⟨(i3 e).1, (i3 e).2.row gr (by omega)⟩, i4⟩ (by dsimp only; omega) ⟨rfl, (by repeat' first | exact trivial | refine ⟨rfl, ?_⟩ | refine ⟨congrArg (fun n => AV.lit (.int .i64 n)) (by omega), ?_⟩ | refine ⟨congrArg (fun l => some (Row.row 1 l)) (by simp [int1, num, tru]), ?_⟩), (by repeat' first | exact trivial | refine ⟨rfl, ?_⟩ | refine ⟨congrArg (fun n => AV.lit (.int .i64 n)) (by omega), ?_⟩ | refine ⟨congrArg (fun l => some (Row.row 1 l)) (by simp [int1, num, tru]), ?_⟩)⟩)
    · dsimp only at hk1
      repeat' first | refine Len.map ?_ | refine Len.nil ?_ | refine Len.cons ?_ | refine Br.t rfl ?_ | refine Br.f rfl ?_ | refine Fit.au ?_ | refine Cv.au ?_ | refine Need.ne ?_ | refine Need.au ?_ | refine Pick.map (by assumption) ?_ | refine Pick.mapI (by omega) (by assumption) ?_ | refine PickN.mk _ (by assumption) ?_ | refine PickN.mk _ rfl ?_ | refine PickN.au ?_ | refine App.au rfl ?_ | refine App.au (own_map (fun _ => rfl) _) ?_ | refine Both.mk ?_ ?_ | exact True.intro
      refine Stop.mk (ih (c1, out1) (g := []) _ _ _ ⟨i1, i2, fun e => ?_⟩ ?_ ⟨rfl, (by repeat' first | exact trivial | refine ⟨rfl, ?_⟩ | refine ⟨congrArg (fun n => AV.lit (.int .i64 n)) (by omega), ?_⟩ | refine ⟨congrArg (fun l => some (Row.row 1 l)) (by simp [int1, num, tru]), ?_⟩), (by repeat' first | exact trivial | refine ⟨rfl, ?_⟩ | refine ⟨congrArg (fun n => AV.lit (.int .i64 n)) (by omega), ?_⟩ | refine ⟨congrArg (fun l => some (Row.row 1 l)) (by simp [int1, num, tru]), ?_⟩)⟩)
      · obtain ⟨e1, e2⟩ := i3 e
        have : k = s.length := by omega
        subst this; subst e1; exact e2
      · dsimp only
        cases c1 with
        | false => rw [(i3 rfl).1]; simp
        | true => have := i4 rfl; simp; omega
  · dsimp only at hc
    subst hc
    repeat' first | refine Len.map ?_ | refine Len.nil ?_ | refine Len.cons ?_ | refine Br.t rfl ?_ | refine Br.f rfl ?_ | refine Fit.au ?_ | refine Cv.au ?_ | refine Need.ne ?_ | refine Need.au ?_ | refine Pick.map (by assumption) ?_ | refine Pick.mapI (by omega) (by assumption) ?_ | refine PickN.mk _ (by assumption) ?_ | refine PickN.mk _ rfl ?_ | refine PickN.au ?_ | refine App.au rfl ?_ | refine App.au (own_map (fun _ => rfl) _) ?_ | refine Both.mk ?_ ?_ | exact True.intro
    exact ⟨out, rfl, marks_of hcl h1 h2 (h3 rfl)⟩
end Go.Proofs.YtdgibhndjdgllaaDoor

/- What is reached, dominators, predecessors, writers, by contracts. -/
namespace Go.Proofs.YtdgibhndjdgllaaDoor
open Go.Ax
set_option maxRecDepth 10000
set_option linter.unusedVariables false

theorem Reach_spec (f : Fun) (hf : f.fits) (hn : f.blocks.length ≤ 1000000) : FnSpec Tryd.prog 25 [funA f] (fun r => ∃ l, r = .osl 1 (l.map tb) ∧ Marks (succsF f) (-1) l) := by
  refine spec_of 1000 Tryd.func25 rfl rfl ?_
  repeat' first | refine Len.map ?_ | refine Len.nil ?_ | refine Len.cons ?_ | refine Br.t rfl ?_ | refine Br.f rfl ?_ | refine Fit.au ?_ | refine Cv.au ?_ | refine Need.ne ?_ | refine Need.au ?_ | refine Pick.map (by assumption) ?_ | refine Pick.mapI (by omega) (by assumption) ?_ | refine PickN.mk _ (by assumption) ?_ | refine PickN.mk _ rfl ?_ | refine PickN.au ?_ | refine App.au rfl ?_ | refine App.au (own_map (fun _ => rfl) _) ?_ | refine Both.mk ?_ ?_ | exact True.intro
  refine Call.of (Without_spec f (-1) hf hn) ?_
  rintro r ⟨l, rfl, hl⟩
  refine ⟨rfl, ?_⟩
  repeat' first | refine Len.map ?_ | refine Len.nil ?_ | refine Len.cons ?_ | refine Br.t rfl ?_ | refine Br.f rfl ?_ | refine Fit.au ?_ | refine Cv.au ?_ | refine Need.ne ?_ | refine Need.au ?_ | refine Pick.map (by assumption) ?_ | refine Pick.mapI (by omega) (by assumption) ?_ | refine PickN.mk _ (by assumption) ?_ | refine PickN.mk _ rfl ?_ | refine PickN.au ?_ | refine App.au rfl ?_ | refine App.au (own_map (fun _ => rfl) _) ?_ | refine Both.mk ?_ ?_ | exact True.intro
  exact ⟨l, rfl, hl⟩

theorem Preds_spec (f : Fun) (hf : f.fits) (hn : f.blocks.length ≤ 1000000) : FnSpec Tryd.prog 54 [funA f] (fun r => r = .osl 1 ((predsF (succsF f)).map olst)) := by
  have hsm := succsF_small f
  have hsn : (succsF f).length ≤ 1000000 := by rw [succsF_len]; exact hn
  refine spec_of 11 Tryd.func54 rfl rfl ?_
  repeat' first | refine Call.eq (Succs_spec f hf hn) rfl ?_ | refine Len.map ?_ | refine Len.nil ?_ | refine Len.cons ?_ | refine Br.t rfl ?_ | refine Br.f rfl ?_ | refine Fit.au ?_ | refine Cv.au ?_ | refine Need.ne ?_ | refine Need.au ?_ | refine Pick.map (by assumption) ?_ | refine Pick.mapI (by omega) (by assumption) ?_ | refine PickN.mk _ (by assumption) ?_ | refine PickN.mk _ rfl ?_ | refine PickN.au ?_ | refine App.au rfl ?_ | refine App.au (own_map (fun _ => rfl) _) ?_ | refine Both.mk ?_ ?_ | exact True.intro
  refine Stop.mk (run_frzR 1 rfl (fzLL_map fz_olsts _) ?_)
  generalize succsF f = s at *
  refine go 1000 Tryd.func54 ?_
  repeat' first | refine Len.map ?_ | refine Len.nil ?_ | refine Len.cons ?_ | refine Br.t rfl ?_ | refine Br.f rfl ?_ | refine Fit.au ?_ | refine Cv.au ?_ | refine Need.ne ?_ | refine Need.au ?_ | refine Pick.map (by assumption) ?_ | refine Pick.mapI (by omega) (by assumption) ?_ | refine PickN.mk _ (by assumption) ?_ | refine PickN.mk _ rfl ?_ | refine PickN.au ?_ | refine App.au rfl ?_ | refine App.au (own_map (fun _ => rfl) _) ?_ | refine Both.mk ?_ ?_ | exact True.intro
  refine Stop.mk (loop_in (fun k : Nat => [(3, lsts s), (4, .hw 2), (5, num k)]) (fun k => [(2, .row 1 (((predsF s).take k).map olst))]) 3 (fun k => k ≤ s.length) (fun k => s.length - k) 0 (by omega) (g := []) ⟨rfl, (by repeat' first | exact trivial | refine ⟨rfl, ?_⟩ | refine ⟨congrArg (fun n => AV.lit (.int .i64 n)) (by omega), ?_⟩ | refine ⟨congrArg (fun l => some (Row.row 1 l)) (by simp [int1, num, tru]), ?_⟩), (by repeat' first | exact trivial | refine ⟨rfl, ?_⟩ | refine ⟨congrArg (fun n => AV.lit (.int .i64 n)) (by omega), ?_⟩ | refine ⟨congrArg (fun l => some (Row.row 1 l)) (by simp [int1, num, tru]), ?_⟩)⟩ (fun k hk ih => ?_))
  refine go 1000 Tryd.func54 ?_
  repeat' first | refine Len.map ?_ | refine Len.nil ?_ | refine Len.cons ?_ | refine Br.t rfl ?_ | refine Br.f rfl ?_ | refine Fit.au ?_ | refine Cv.au ?_ | refine Need.ne ?_ | refine Need.au ?_ | refine Pick.map (by assumption) ?_ | refine Pick.mapI (by omega) (by assumption) ?_ | refine PickN.mk _ (by assumption) ?_ | refine PickN.mk _ rfl ?_ | refine PickN.au ?_ | refine App.au rfl ?_ | refine App.au (own_map (fun _ => rfl) _) ?_ | refine Both.mk ?_ ?_ | exact True.intro
  refine Br.d (fun h2 => ?_) (fun h2 => ?_)
  · have htk : ((predsF s).take k).length = k := by rw [List.length_take, predsF_len]; omega
    repeat' first | refine Len.map ?_ | refine Len.nil ?_ | refine Len.cons ?_ | refine Br.t rfl ?_ | refine Br.f rfl ?_ | refine Fit.au ?_ | refine Cv.au ?_ | refine Need.ne ?_ | refine Need.au ?_ | refine Pick.map (by assumption) ?_ | refine Pick.mapI (by omega) (by assumption) ?_ | refine PickN.mk _ (by assumption) ?_ | refine PickN.mk _ rfl ?_ | refine PickN.au ?_ | refine App.au rfl ?_ | refine App.au (own_map (fun _ => rfl) _) ?_ | refine Both.mk ?_ ?_ | exact True.intro
    refine Stop.mk (loop_in (fun j : Nat => [(3, lsts s), (4, .hw 2), (5, num k), (6, .hw 3), (7, num j)]) (fun j => [(2, .row 1 (((predsF s).take k).map olst)), (3, .row 1 ((predOf s k j).map int1))]) 4 (fun j => j ≤ s.length) (fun j => s.length - j) 0 (by omega) (g := []) ⟨rfl, (by repeat' first | exact trivial | refine ⟨rfl, ?_⟩ | refine ⟨congrArg (fun n => AV.lit (.int .i64 n)) (by omega), ?_⟩ | refine ⟨congrArg (fun l => some (Row.row 1 l)) (by simp [int1, num, tru]), ?_⟩), (by repeat' first | exact trivial | refine ⟨rfl, ?_⟩ | refine ⟨congrArg (fun n => AV.lit (.int .i64 n)) (by omega), ?_⟩ | refine ⟨congrArg (fun l => some (Row.row 1 l)) (by simp [int1, num, tru]), ?_⟩)⟩ (fun j hj ih2 => ?_))
    have hpl := predOf_len s k j
    refine go 1000 Tryd.func54 ?_
    repeat' first | refine Len.map ?_ | refine Len.nil ?_ | refine Len.cons ?_ | refine Br.t rfl ?_ | refine Br.f rfl ?_ | refine Fit.au ?_ | refine Cv.au ?_ | refine Need.ne ?_ | refine Need.au ?_ | refine Pick.map (by assumption) ?_ | refine Pick.mapI (by omega) (by assumption) ?_ | refine PickN.mk _ (by assumption) ?_ | refine PickN.mk _ rfl ?_ | refine PickN.au ?_ | refine App.au rfl ?_ | refine App.au (own_map (fun _ => rfl) _) ?_ | refine Both.mk ?_ ?_ | exact True.intro
    refine Br.d (fun h3 => ?_) (fun h3 => ?_)
    · obtain ⟨l, gl, glm⟩ := getK (l := s) (k := j) (by omega)
      have hll := hsm l glm
      have e1 := predOf_succ (k := k) gl
      repeat' first | refine Call.eq (HasInt_spec l _ (by omega)) rfl ?_ | refine Len.map ?_ | refine Len.nil ?_ | refine Len.cons ?_ | refine Br.t rfl ?_ | refine Br.f rfl ?_ | refine Fit.au ?_ | refine Cv.au ?_ | refine Need.ne ?_ | refine Need.au ?_ | refine Pick.map (by assumption) ?_ | refine Pick.mapI (by omega) (by assumption) ?_ | refine PickN.mk _ (by assumption) ?_ | refine PickN.mk _ rfl ?_ | refine PickN.au ?_ | refine App.au rfl ?_ | refine App.au (own_map (fun _ => rfl) _) ?_ | refine Both.mk ?_ ?_ | exact True.intro
      refine Br.d (fun h4 => ?_) (fun h4 => ?_)
      · repeat' first | refine Len.map ?_ | refine Len.nil ?_ | refine Len.cons ?_ | refine Br.t rfl ?_ | refine Br.f rfl ?_ | refine Fit.au ?_ | refine Cv.au ?_ | refine Need.ne ?_ | refine Need.au ?_ | refine Pick.map (by assumption) ?_ | refine Pick.mapI (by omega) (by assumption) ?_ | refine PickN.mk _ (by assumption) ?_ | refine PickN.mk _ rfl ?_ | refine PickN.au ?_ | refine App.au rfl ?_ | refine App.au (own_map (fun _ => rfl) _) ?_ | refine Both.mk ?_ ?_ | exact True.intro
        refine Stop.mk (ih2 (j + 1) (g := [(3, 5)]) _ _ _ (by omega) (by omega) ?_)
        rw [e1, if_pos h4, List.map_append]
        exact ⟨rfl, (by repeat' first | exact trivial | refine ⟨rfl, ?_⟩ | refine ⟨congrArg (fun n => AV.lit (.int .i64 n)) (by omega), ?_⟩ | refine ⟨congrArg (fun l => some (Row.row 1 l)) (by simp [int1, num, tru]), ?_⟩), (by repeat' first | exact trivial | refine ⟨rfl, ?_⟩ | refine ⟨congrArg (fun n => AV.lit (.int .i64 n)) (by omega), ?_⟩ | refine ⟨congrArg (fun l => some (Row.row 1 l)) (by simp [int1, num, tru]), ?_⟩)⟩
      · repeat' first | refine Len.map ?_ | refine Len.nil ?_ | refine Len.cons ?_ | refine Br.t rfl ?_ | refine Br.f rfl ?_ | refine Fit.au ?_ | refine Cv.au ?_ | refine Need.ne ?_ | refine Need.au ?_ | refine Pick.map (by assumption) ?_ | refine Pick.mapI (by omega) (by assumption) ?_ | refine PickN.mk _ (by assumption) ?_ | refine PickN.mk _ rfl ?_ | refine PickN.au ?_ | refine App.au rfl ?_ | refine App.au (own_map (fun _ => rfl) _) ?_ | refine Both.mk ?_ ?_ | exact True.intro
        refine Stop.mk (ih2 (j + 1) (g := []) _ _ _ (by omega) (by omega) ?_)
        rw [e1, if_neg h4, List.append_nil]
        exact ⟨rfl, (by repeat' first | exact trivial | refine ⟨rfl, ?_⟩ | refine ⟨congrArg (fun n => AV.lit (.int .i64 n)) (by omega), ?_⟩ | refine ⟨congrArg (fun l => some (Row.row 1 l)) (by simp [int1, num, tru]), ?_⟩), (by repeat' first | exact trivial | refine ⟨rfl, ?_⟩ | refine ⟨congrArg (fun n => AV.lit (.int .i64 n)) (by omega), ?_⟩ | refine ⟨congrArg (fun l => some (Row.row 1 l)) (by simp [int1, num, tru]), ?_⟩)⟩
    · repeat' first | refine Len.map ?_ | refine Len.nil ?_ | refine Len.cons ?_ | refine Br.t rfl ?_ | refine Br.f rfl ?_ | refine Fit.au ?_ | refine Cv.au ?_ | refine Need.ne ?_ | refine Need.au ?_ | refine Pick.map (by assumption) ?_ | refine Pick.mapI (by omega) (by assumption) ?_ | refine PickN.mk _ (by assumption) ?_ | refine PickN.mk _ rfl ?_ | refine PickN.au ?_ | refine App.au rfl ?_ | refine App.au (own_map (fun _ => rfl) _) ?_ | refine Both.mk ?_ ?_ | exact True.intro
      have : j = s.length := by omega
      subst this
      refine Stop.mk (ih (k + 1) (g := [(2, 5)]) _ _ _ (by omega) (by omega) ?_)
      rw [predsF_take (by omega), List.map_append]
      exact ⟨rfl, (by repeat' first | exact trivial | refine ⟨rfl, ?_⟩ | refine ⟨congrArg (fun n => AV.lit (.int .i64 n)) (by omega), ?_⟩ | refine ⟨congrArg (fun l => some (Row.row 1 l)) (by simp [int1, num, tru]), ?_⟩), (by repeat' first | exact trivial | refine ⟨rfl, ?_⟩ | refine ⟨congrArg (fun n => AV.lit (.int .i64 n)) (by omega), ?_⟩ | refine ⟨congrArg (fun l => some (Row.row 1 l)) (by simp [int1, num, tru]), ?_⟩)⟩
  · repeat' first | refine Len.map ?_ | refine Len.nil ?_ | refine Len.cons ?_ | refine Br.t rfl ?_ | refine Br.f rfl ?_ | refine Fit.au ?_ | refine Cv.au ?_ | refine Need.ne ?_ | refine Need.au ?_ | refine Pick.map (by assumption) ?_ | refine Pick.mapI (by omega) (by assumption) ?_ | refine PickN.mk _ (by assumption) ?_ | refine PickN.mk _ rfl ?_ | refine PickN.au ?_ | refine App.au rfl ?_ | refine App.au (own_map (fun _ => rfl) _) ?_ | refine Both.mk ?_ ?_ | exact True.intro
    rw [List.take_of_length_le (by rw [predsF_len]; omega)]
    rfl

theorem PickN_getD {α : Type} {enc : α → List AV} {l : List α} {n : Nat} {k : List AV → Prop} {d : α} (h : n < l.length) (hk : k (enc (l.getD n d))) : PickN (l.map enc) n k :=
  PickN.map (e := l.getD n d) (by rw [List.getD_eq_getElem?_getD, List.getElem?_eq_getElem h]; rfl) hk
theorem Marks.getD {s : List (List Int)} {x : Int} {l : List Bool} (h : Marks s x l) {t : Int} (h0 : 0 ≤ t) : l.getD t.toNat false = true ↔ Reaches s x t := by
  have := h.2 t.toNat
  rw [Int.toNat_of_nonneg h0] at this
  rw [← this, List.getD_eq_getElem?_getD]
  cases l[t.toNat]? with
  | none => simp
  | some b => simp
theorem Reaches.bound {s : List (List Int)} {x : Int} {l : List Bool} (h : Marks s x l) {t : Int} (h0 : 0 ≤ t) (hr : Reaches s x t) : t < l.length := by
  have := (h.2 t.toNat).2 (by rw [Int.toNat_of_nonneg h0]; exact hr)
  have := (List.getElem?_eq_some_iff.1 this).1
  omega

theorem Dominates_spec (f : Fun) (a b : Int) (hf : f.fits) (hn : f.blocks.length ≤ 1000000) : FnSpec Tryd.prog 116 [funA f, num a, num b] (fun r => ∃ v, r = tru v ∧ (v = true ↔ Dom (succsF f) a b)) := by
  have hcl := succsF_closed f
  refine spec_of 1000 Tryd.func116 rfl rfl ?_
  repeat' first | refine Len.map ?_ | refine Len.nil ?_ | refine Len.cons ?_ | refine Br.t rfl ?_ | refine Br.f rfl ?_ | refine Fit.au ?_ | refine Cv.au ?_ | refine Need.ne ?_ | refine Need.au ?_ | refine Pick.map (by assumption) ?_ | refine Pick.mapI (by omega) (by assumption) ?_ | refine PickN.mk _ (by assumption) ?_ | refine PickN.mk _ rfl ?_ | refine PickN.au ?_ | refine App.au rfl ?_ | refine App.au (own_map (fun _ => rfl) _) ?_ | refine Both.mk ?_ ?_ | exact True.intro
  refine Call.of (Reach_spec f hf hn) ?_
  rintro r ⟨l, rfl, hl⟩
  refine ⟨rfl, ?_⟩
  have hll := hl.1
  have hsl := succsF_len f
  have hA := fun h : 0 ≤ a => hl.getD h
  have hB := fun h : 0 ≤ b => hl.getD h
  have bA := fun (h : 0 ≤ a) => Reaches.bound (t := a) hl h
  have bB := fun (h : 0 ≤ b) => Reaches.bound (t := b) hl h
  repeat' first | refine PickN_getD (d := false) (by omega) ?_ | refine Len.map ?_ | refine Len.nil ?_ | refine Len.cons ?_ | refine Br.t rfl ?_ | refine Br.f rfl ?_ | refine Fit.au ?_ | refine Cv.au ?_ | refine Need.ne ?_ | refine Need.au ?_ | refine Pick.map (by assumption) ?_ | refine Pick.mapI (by omega) (by assumption) ?_ | refine PickN.mk _ (by assumption) ?_ | refine PickN.mk _ rfl ?_ | refine PickN.au ?_ | refine App.au rfl ?_ | refine App.au (own_map (fun _ => rfl) _) ?_ | refine Both.mk ?_ ?_ | exact True.intro | refine Br.d (fun h => ?_) (fun h => ?_) | refine Br.nd (fun h => ?_) (fun h => ?_) | refine Br.mk (fun h => ?_) (fun h => ?_)
  any_goals (refine ⟨false, rfl, ?_⟩; simp only [Dom]; constructor; · intro h; cases h)
  any_goals (rintro ⟨d1, d2, d3⟩; exfalso; have := d1.lt hcl; have := d2.lt hcl; first | omega | (simp_all; done))
  refine Call.of (Without_spec f a hf hn) ?_
  rintro r ⟨l2, rfl, hl2⟩
  refine ⟨rfl, ?_⟩
  have h2 := hl2.1
  have hC := fun h : 0 ≤ b => hl2.getD h
  repeat' first | refine PickN_getD (d := false) (by omega) ?_ | refine Len.map ?_ | refine Len.nil ?_ | refine Len.cons ?_ | refine Br.t rfl ?_ | refine Br.f rfl ?_ | refine Fit.au ?_ | refine Cv.au ?_ | refine Need.ne ?_ | refine Need.au ?_ | refine Pick.map (by assumption) ?_ | refine Pick.mapI (by omega) (by assumption) ?_ | refine PickN.mk _ (by assumption) ?_ | refine PickN.mk _ rfl ?_ | refine PickN.au ?_ | refine App.au rfl ?_ | refine App.au (own_map (fun _ => rfl) _) ?_ | refine Both.mk ?_ ?_ | exact True.intro
  refine ⟨_, rfl, ?_⟩
  simp only [Dom]
  have := hA (by omega)
  have := hB (by omega)
  have := hC (by omega)
  simp_all
  rw [← hC]; simp

theorem Writer34_spec (f : Fun) (reg : Int) (hf : f.fits) (hn : f.blocks.length ≤ 1000000) : FnSpec Tryd.prog 95 [funA f, num reg] (fun r => ∃ k a v, r = .tup [num k, num a, tru v] ∧ WriterIs f reg k a v) := by
  refine spec_of 1000 Tryd.func95 rfl rfl ?_
  repeat' first | refine Len.map ?_ | refine Len.nil ?_ | refine Len.cons ?_ | refine Br.t rfl ?_ | refine Br.f rfl ?_ | refine Fit.au ?_ | refine Cv.au ?_ | refine Need.ne ?_ | refine Need.au ?_ | refine Pick.map (by assumption) ?_ | refine Pick.mapI (by omega) (by assumption) ?_ | refine PickN.mk _ (by assumption) ?_ | refine PickN.mk _ rfl ?_ | refine PickN.au ?_ | refine App.au rfl ?_ | refine App.au (own_map (fun _ => rfl) _) ?_ | refine Both.mk ?_ ?_ | exact True.intro
  refine Stop.mk (loop_in (fun k : Nat => [(2, .hp 0 0), (1, num reg), (7, num k)]) (fun _ => [(0, .var f.cs)]) 1 (fun k => k ≤ f.blocks.length ∧ ∀ k' a', 0 ≤ reg → WrittenAt f reg k' a' → k ≤ k') (fun k => f.blocks.length - k) 0 ⟨by omega, fun _ _ _ _ => by omega⟩ (g := []) ⟨rfl, (by repeat' first | exact trivial | refine ⟨rfl, ?_⟩ | refine ⟨congrArg (fun n => AV.lit (.int .i64 n)) (by omega), ?_⟩ | refine ⟨congrArg (fun l => some (Row.row 1 l)) (by simp [int1, num, tru]), ?_⟩), (by repeat' first | exact trivial | refine ⟨rfl, ?_⟩ | refine ⟨congrArg (fun n => AV.lit (.int .i64 n)) (by omega), ?_⟩ | refine ⟨congrArg (fun l => some (Row.row 1 l)) (by simp [int1, num, tru]), ?_⟩)⟩ (fun k hk ih => ?_))
  obtain ⟨hk, hw⟩ := hk
  refine go 1000 Tryd.func95 ?_
  repeat' first | refine Len.map ?_ | refine Len.nil ?_ | refine Len.cons ?_ | refine Br.t rfl ?_ | refine Br.f rfl ?_ | refine Fit.au ?_ | refine Cv.au ?_ | refine Need.ne ?_ | refine Need.au ?_ | refine Pick.map (by assumption) ?_ | refine Pick.mapI (by omega) (by assumption) ?_ | refine PickN.mk _ (by assumption) ?_ | refine PickN.mk _ rfl ?_ | refine PickN.au ?_ | refine App.au rfl ?_ | refine App.au (own_map (fun _ => rfl) _) ?_ | refine Both.mk ?_ ?_ | exact True.intro
  refine Br.d (fun h2 => ?_) (fun h2 => ?_)
  · obtain ⟨b, gb, gm⟩ := getK (l := f.blocks) (k := k) (by omega)
    obtain ⟨hb1, hb2⟩ := hf.2.2 b gm
    repeat' first | refine Len.map ?_ | refine Len.nil ?_ | refine Len.cons ?_ | refine Br.t rfl ?_ | refine Br.f rfl ?_ | refine Fit.au ?_ | refine Cv.au ?_ | refine Need.ne ?_ | refine Need.au ?_ | refine Pick.map (by assumption) ?_ | refine Pick.mapI (by omega) (by assumption) ?_ | refine PickN.mk _ (by assumption) ?_ | refine PickN.mk _ rfl ?_ | refine PickN.au ?_ | refine App.au rfl ?_ | refine App.au (own_map (fun _ => rfl) _) ?_ | refine Both.mk ?_ ?_ | exact True.intro
    refine Stop.mk (loop_in (fun j : Nat => [(2, .hp 0 0), (1, num reg), (7, num k), (8, num j)]) (fun _ => [(0, .var f.cs)]) 1 (fun j => j ≤ b.length ∧ ∀ k' a', 0 ≤ reg → WrittenAt f reg k' a' → k < k' ∨ (k = k' ∧ j ≤ a')) (fun j => b.length - j) 0 ⟨by omega, fun k' a' h h' => by have := hw k' a' h h'; omega⟩ (g := []) ⟨rfl, (by repeat' first | exact trivial | refine ⟨rfl, ?_⟩ | refine ⟨congrArg (fun n => AV.lit (.int .i64 n)) (by omega), ?_⟩ | refine ⟨congrArg (fun l => some (Row.row 1 l)) (by simp [int1, num, tru]), ?_⟩), (by repeat' first | exact trivial | refine ⟨rfl, ?_⟩ | refine ⟨congrArg (fun n => AV.lit (.int .i64 n)) (by omega), ?_⟩ | refine ⟨congrArg (fun l => some (Row.row 1 l)) (by simp [int1, num, tru]), ?_⟩)⟩ (fun j hj ih2 => ?_))
    obtain ⟨hj, hw2⟩ := hj
    refine go 1000 Tryd.func95 ?_
    repeat' first | refine Len.map ?_ | refine Len.nil ?_ | refine Len.cons ?_ | refine Br.t rfl ?_ | refine Br.f rfl ?_ | refine Fit.au ?_ | refine Cv.au ?_ | refine Need.ne ?_ | refine Need.au ?_ | refine Pick.map (by assumption) ?_ | refine Pick.mapI (by omega) (by assumption) ?_ | refine PickN.mk _ (by assumption) ?_ | refine PickN.mk _ rfl ?_ | refine PickN.au ?_ | refine App.au rfl ?_ | refine App.au (own_map (fun _ => rfl) _) ?_ | refine Both.mk ?_ ?_ | exact True.intro
    refine Br.d (fun h3 => ?_) (fun h3 => ?_)
    · obtain ⟨i, gi, gim⟩ := getK (l := b) (k := j) (by omega)
      repeat' first | refine Call.eq (Def15_spec i (hb2 i gim)) rfl ?_ | refine Len.map ?_ | refine Len.nil ?_ | refine Len.cons ?_ | refine Br.t rfl ?_ | refine Br.f rfl ?_ | refine Fit.au ?_ | refine Cv.au ?_ | refine Need.ne ?_ | refine Need.au ?_ | refine Pick.map (by assumption) ?_ | refine Pick.mapI (by omega) (by assumption) ?_ | refine PickN.mk _ (by assumption) ?_ | refine PickN.mk _ rfl ?_ | refine PickN.au ?_ | refine App.au rfl ?_ | refine App.au (own_map (fun _ => rfl) _) ?_ | refine Both.mk ?_ ?_ | exact True.intro | refine Br.d (fun h => ?_) (fun h => ?_) | refine Br.nd (fun h => ?_) (fun h => ?_) | refine Br.mk (fun h => ?_) (fun h => ?_)
      · refine ⟨k, j, true, rfl, fun _ => ⟨k, j, rfl, rfl, by assumption, ⟨b, i, gb, gi, by assumption⟩, fun k' a' h' => hw2 k' a' (by assumption) h'⟩, fun h => by cases h⟩
      all_goals
        refine Stop.mk (ih2 (j + 1) (g := []) _ _ _ ⟨by omega, fun k' a' h0 h' => ?_⟩ (by omega) ⟨rfl, (by repeat' first | exact trivial | refine ⟨rfl, ?_⟩ | refine ⟨congrArg (fun n => AV.lit (.int .i64 n)) (by omega), ?_⟩ | refine ⟨congrArg (fun l => some (Row.row 1 l)) (by simp [int1, num, tru]), ?_⟩), (by repeat' first | exact trivial | refine ⟨rfl, ?_⟩ | refine ⟨congrArg (fun n => AV.lit (.int .i64 n)) (by omega), ?_⟩ | refine ⟨congrArg (fun l => some (Row.row 1 l)) (by simp [int1, num, tru]), ?_⟩)⟩)
        rcases hw2 k' a' h0 h' with h4 | ⟨rfl, h4⟩
        · exact .inl h4
        · refine .inr ⟨rfl, ?_⟩
          by_cases e : j = a'
          · obtain ⟨b', i', e1, e2, e3⟩ := h'
            rw [gb] at e1; cases e1
            subst e
            rw [gi] at e2; cases e2
            exfalso; first | omega | exact absurd e3 (by assumption)
          · omega
    · repeat' first | refine Len.map ?_ | refine Len.nil ?_ | refine Len.cons ?_ | refine Br.t rfl ?_ | refine Br.f rfl ?_ | refine Fit.au ?_ | refine Cv.au ?_ | refine Need.ne ?_ | refine Need.au ?_ | refine Pick.map (by assumption) ?_ | refine Pick.mapI (by omega) (by assumption) ?_ | refine PickN.mk _ (by assumption) ?_ | refine PickN.mk _ rfl ?_ | refine PickN.au ?_ | refine App.au rfl ?_ | refine App.au (own_map (fun _ => rfl) _) ?_ | refine Both.mk ?_ ?_ | exact True.intro
      refine Stop.mk (ih (k + 1) (g := []) _ _ _ ⟨by omega, fun k' a' h h' => ?_⟩ (by omega) ⟨rfl, (by repeat' first | exact trivial | refine ⟨rfl, ?_⟩ | refine ⟨congrArg (fun n => AV.lit (.int .i64 n)) (by omega), ?_⟩ | refine ⟨congrArg (fun l => some (Row.row 1 l)) (by simp [int1, num, tru]), ?_⟩), (by repeat' first | exact trivial | refine ⟨rfl, ?_⟩ | refine ⟨congrArg (fun n => AV.lit (.int .i64 n)) (by omega), ?_⟩ | refine ⟨congrArg (fun l => some (Row.row 1 l)) (by simp [int1, num, tru]), ?_⟩)⟩)
      rcases hw2 k' a' h h' with h4 | ⟨rfl, h4⟩
      · omega
      · obtain ⟨b', i', e1, e2, _⟩ := h'
        rw [gb] at e1; cases e1
        have := (List.getElem?_eq_some_iff.1 e2).1
        omega
  · repeat' first | refine Len.map ?_ | refine Len.nil ?_ | refine Len.cons ?_ | refine Br.t rfl ?_ | refine Br.f rfl ?_ | refine Fit.au ?_ | refine Cv.au ?_ | refine Need.ne ?_ | refine Need.au ?_ | refine Pick.map (by assumption) ?_ | refine Pick.mapI (by omega) (by assumption) ?_ | refine PickN.mk _ (by assumption) ?_ | refine PickN.mk _ rfl ?_ | refine PickN.au ?_ | refine App.au rfl ?_ | refine App.au (own_map (fun _ => rfl) _) ?_ | refine Both.mk ?_ ?_ | exact True.intro
    refine ⟨0, 0, false, rfl, (fun h => by cases h), fun _ => ⟨rfl, rfl, fun h k' a' h' => ?_⟩⟩
    have := hw k' a' h h'
    obtain ⟨b', i', e1, e2, _⟩ := h'
    have := (List.getElem?_eq_some_iff.1 e1).1
    omega
end Go.Proofs.YtdgibhndjdgllaaDoor

/- Where blocks go and come from, as the program reckons it, by contracts. -/
namespace Go.Proofs.YtdgibhndjdgllaaDoor
open Go.Ax
set_option maxRecDepth 10000
set_option linter.unusedVariables false

theorem zero_olst (n : Nat) : OLeLL (List.replicate n [.lit (.slice none 0 0)]) ((List.replicate n ([] : List Int)).map olst) := by
  rw [List.map_replicate]
  exact OLeLL.rep (.cons OLe.onil .nil) n
theorem set_olst {s : List (List Int)} {k : Nat} {l : List Int} : (s.map olst).set k [.osl 1 (l.map int1)] = (s.set k l).map olst := by rw [List.map_set]; rfl
theorem set_olst1 {s : List (List Int)} {k : Nat} {l : List Int} {t : Int} : (s.map olst).set k [.osl 1 (l.map int1 ++ [int1 t])] = (s.set k (l ++ [t])).map olst := by rw [← set_olst, List.map_append]; rfl

set_option maxHeartbeats 1000000 in
theorem Succs95_spec (f : Fun) (hf : f.fits) (hn : f.blocks.length ≤ 1000000) : FnSpec Tryd.prog 42 [funA f] (fun r => r = .osl 1 ((succsF f).map olst)) := by
  have hs := succsF_len f
  refine spec_of 1000 Tryd.func42 rfl rfl ?_
  repeat' first | refine MkS.mk _ rfl rfl (by omega) (by omega) ?_ | refine Len.map ?_ | refine Len.nil ?_ | refine Len.cons ?_ | refine Br.t rfl ?_ | refine Br.f rfl ?_ | refine Fit.au ?_ | refine Cv.au ?_ | refine Need.ne ?_ | refine Need.au ?_ | refine Pick.map (by assumption) ?_ | refine Pick.mapI (by omega) (by assumption) ?_ | refine PickN.mk _ (by assumption) ?_ | refine PickN.mk _ rfl ?_ | refine PickN.au ?_ | refine App.au rfl ?_ | refine App.au (own_map (fun _ => rfl) _) ?_ | refine Both.mk ?_ ?_ | exact True.intro
  refine Stop.mk (run_rowO 1 rfl (zero_olst _) ?_)
  refine loop_in (g := []) (fun k : Nat => [(1, .hp 0 0), (3, .hw 1), (13, .sl false 1 (f.blocks.map blk)), (14, num f.blocks.length), (15, num k)]) (fun k => [(0, .var f.cs), (1, .row 1 ((outS (succsF f) k).map olst))]) 2 (fun k => k ≤ f.blocks.length) (fun k => f.blocks.length - k) 0 (by omega) ?_ (fun k hk ih => ?_)
  · rw [show outS (succsF f) 0 = List.replicate f.blocks.length [] by unfold outS; rw [hs]; simp]
    exact ⟨rfl, (by repeat' first | exact trivial | refine ⟨rfl, ?_⟩ | refine ⟨congrArg (fun n => AV.lit (.int .i64 n)) (by omega), ?_⟩ | refine ⟨congrArg (fun l => some (Row.row 1 l)) (by simp [int1, num, tru]), ?_⟩), (by repeat' first | exact trivial | refine ⟨rfl, ?_⟩ | refine ⟨congrArg (fun n => AV.lit (.int .i64 n)) (by omega), ?_⟩ | refine ⟨congrArg (fun l => some (Row.row 1 l)) (by simp [int1, num, tru]), ?_⟩)⟩
  refine go 1000 Tryd.func42 ?_
  repeat' first | refine Len.map ?_ | refine Len.nil ?_ | refine Len.cons ?_ | refine Br.t rfl ?_ | refine Br.f rfl ?_ | refine Fit.au ?_ | refine Cv.au ?_ | refine Need.ne ?_ | refine Need.au ?_ | refine Pick.map (by assumption) ?_ | refine Pick.mapI (by omega) (by assumption) ?_ | refine PickN.mk _ (by assumption) ?_ | refine PickN.mk _ rfl ?_ | refine PickN.au ?_ | refine App.au rfl ?_ | refine App.au (own_map (fun _ => rfl) _) ?_ | refine Both.mk ?_ ?_ | exact True.intro
  refine Br.d (fun h2 => ?_) (fun h2 => ?_)
  · obtain ⟨b, gb, gbm⟩ := getK (l := f.blocks) (k := k) (by omega)
    obtain ⟨hb1, hb2⟩ := hf.2.2 b gbm
    have gs : (succsF f)[k]? = some (succ1 f.blocks.length b) := by unfold succsF; rw [List.getElem?_map, gb]; rfl
    have go0 := outS_at (succsF f) (k := k) (by omega)
    have golen := outS_len (succsF f) (k := k) (by omega)
    have gosucc := outS_succ gs
    repeat' first | refine Len.map ?_ | refine Len.nil ?_ | refine Len.cons ?_ | refine Br.t rfl ?_ | refine Br.f rfl ?_ | refine Fit.au ?_ | refine Cv.au ?_ | refine Need.ne ?_ | refine Need.au ?_ | refine Pick.map (by assumption) ?_ | refine Pick.mapI (by omega) (by assumption) ?_ | refine PickN.mk _ (by assumption) ?_ | refine PickN.mk _ rfl ?_ | refine PickN.au ?_ | refine App.au rfl ?_ | refine App.au (own_map (fun _ => rfl) _) ?_ | refine Both.mk ?_ ?_ | exact True.intro
    refine Br.d (fun h3 => ?_) (fun h3 => ?_)
    · repeat' first | refine Len.map ?_ | refine Len.nil ?_ | refine Len.cons ?_ | refine Br.t rfl ?_ | refine Br.f rfl ?_ | refine Fit.au ?_ | refine Cv.au ?_ | refine Need.ne ?_ | refine Need.au ?_ | refine Pick.map (by assumption) ?_ | refine Pick.mapI (by omega) (by assumption) ?_ | refine PickN.mk _ (by assumption) ?_ | refine PickN.mk _ rfl ?_ | refine PickN.au ?_ | refine App.au rfl ?_ | refine App.au (own_map (fun _ => rfl) _) ?_ | refine Both.mk ?_ ?_ | exact True.intro
      have e : succ1 f.blocks.length b = [] := by unfold succ1; rw [List.getElem?_eq_none (by omega)]
      rw [e] at gs
      refine Stop.mk (ih (k + 1) (g := []) _ _ _ (by omega) (by omega) ?_)
      rw [outS_nil gs]
      exact ⟨rfl, (by repeat' first | exact trivial | refine ⟨rfl, ?_⟩ | refine ⟨congrArg (fun n => AV.lit (.int .i64 n)) (by omega), ?_⟩ | refine ⟨congrArg (fun l => some (Row.row 1 l)) (by simp [int1, num, tru]), ?_⟩), (by repeat' first | exact trivial | refine ⟨rfl, ?_⟩ | refine ⟨congrArg (fun n => AV.lit (.int .i64 n)) (by omega), ?_⟩ | refine ⟨congrArg (fun l => some (Row.row 1 l)) (by simp [int1, num, tru]), ?_⟩)⟩
    · obtain ⟨i, gi, gim⟩ := getK (l := b) (k := b.length - 1) (by omega)
      have gi' : b[((b.length : Int) - 1).toNat]? = some i := by rw [show ((b.length : Int) - 1).toNat = b.length - 1 by omega]; exact gi
      have e : succ1 f.blocks.length b = below f.blocks.length (targetsF i) := by unfold succ1; rw [gi]
      have htl := targetsF_len i
      rw [e] at gosucc
      clear gs
      generalize outS (succsF f) k = out at *
      repeat' first | refine Call.eq (Targets100_spec i (hb2 i gim)) rfl ?_ | refine Len.map ?_ | refine Len.nil ?_ | refine Len.cons ?_ | refine Br.t rfl ?_ | refine Br.f rfl ?_ | refine Fit.au ?_ | refine Cv.au ?_ | refine Need.ne ?_ | refine Need.au ?_ | refine Pick.map (by assumption) ?_ | refine Pick.mapI (by omega) (by assumption) ?_ | refine PickN.mk _ (by assumption) ?_ | refine PickN.mk _ rfl ?_ | refine PickN.au ?_ | refine App.au rfl ?_ | refine App.au (own_map (fun _ => rfl) _) ?_ | refine Both.mk ?_ ?_ | exact True.intro
      refine Stop.mk (loop_in (g := []) (fun j : Nat => [(1, .hp 0 0), (3, .hw 1), (13, .sl false 1 (f.blocks.map blk)), (14, num f.blocks.length), (15, num k), (4, num k), (29, .hw 2), (30, num (targetsF i).length), (31, num j)]) (fun j => [(0, .var f.cs), (1, .row 1 ((out.set k (below f.blocks.length ((targetsF i).take j))).map olst)), (2, .row 1 ((targetsF i).map int1))]) 3 (fun j => j ≤ (targetsF i).length) (fun j => (targetsF i).length - j) 0 (by omega) ?_ (fun j hj ih2 => ?_))
      · have e0 : out.set k (below f.blocks.length ((targetsF i).take 0)) = out := by
          refine List.ext_getElem? fun u => ?_
          rw [List.getElem?_set]
          split
          · rename_i eu; subst eu; rw [go0, if_pos (by omega)]; rfl
          · rfl
        rw [e0]
        exact ⟨rfl, (by repeat' first | exact trivial | refine ⟨rfl, ?_⟩ | refine ⟨congrArg (fun n => AV.lit (.int .i64 n)) (by omega), ?_⟩ | refine ⟨congrArg (fun l => some (Row.row 1 l)) (by simp [int1, num, tru]), ?_⟩), (by repeat' first | exact trivial | refine ⟨rfl, ?_⟩ | refine ⟨congrArg (fun n => AV.lit (.int .i64 n)) (by omega), ?_⟩ | refine ⟨congrArg (fun l => some (Row.row 1 l)) (by simp [int1, num, tru]), ?_⟩)⟩
      have hbl := below_len f.blocks.length ((targetsF i).take j)
      rw [List.length_take] at hbl
      refine go 1000 Tryd.func42 ?_
      repeat' first | refine Len.map ?_ | refine Len.nil ?_ | refine Len.cons ?_ | refine Br.t rfl ?_ | refine Br.f rfl ?_ | refine Fit.au ?_ | refine Cv.au ?_ | refine Need.ne ?_ | refine Need.au ?_ | refine Pick.map (by assumption) ?_ | refine Pick.mapI (by omega) (by assumption) ?_ | refine PickN.mk _ (by assumption) ?_ | refine PickN.mk _ rfl ?_ | refine PickN.au ?_ | refine App.au rfl ?_ | refine App.au (own_map (fun _ => rfl) _) ?_ | refine Both.mk ?_ ?_ | exact True.intro
      refine Br.d (fun h4 => ?_) (fun h4 => ?_)
      · obtain ⟨t, gt, gtm⟩ := getK (l := targetsF i) (k := j) (by omega)
        have ebs := below_succ (n := f.blocks.length) gt
        have gat : (out.set k (below f.blocks.length ((targetsF i).take j)))[k]? = some (below f.blocks.length ((targetsF i).take j)) := set_at go0
        have glen : (out.set k (below f.blocks.length ((targetsF i).take j))).length = out.length := List.length_set
        repeat' first | refine Len.map ?_ | refine Len.nil ?_ | refine Len.cons ?_ | refine Br.t rfl ?_ | refine Br.f rfl ?_ | refine Fit.au ?_ | refine Cv.au ?_ | refine Need.ne ?_ | refine Need.au ?_ | refine Pick.map (by assumption) ?_ | refine Pick.mapI (by omega) (by assumption) ?_ | refine PickN.mk _ (by assumption) ?_ | refine PickN.mk _ rfl ?_ | refine PickN.au ?_ | refine App.au rfl ?_ | refine App.au (own_map (fun _ => rfl) _) ?_ | refine Both.mk ?_ ?_ | exact True.intro
        refine Br.d (fun h5 => ?_) (fun h5 => ?_)
        · rw [if_pos h5] at ebs
          repeat' first | refine Len.map ?_ | refine Len.nil ?_ | refine Len.cons ?_ | refine Br.t rfl ?_ | refine Br.f rfl ?_ | refine Fit.au ?_ | refine Cv.au ?_ | refine Need.ne ?_ | refine Need.au ?_ | refine Pick.map (by assumption) ?_ | refine Pick.mapI (by omega) (by assumption) ?_ | refine PickN.mk _ (by assumption) ?_ | refine PickN.mk _ rfl ?_ | refine PickN.au ?_ | refine App.au rfl ?_ | refine App.au (own_map (fun _ => rfl) _) ?_ | refine Both.mk ?_ ?_ | exact True.intro
          refine Need.mk rfl ?_
          repeat' first | refine Len.map ?_ | refine Len.nil ?_ | refine Len.cons ?_ | refine Br.t rfl ?_ | refine Br.f rfl ?_ | refine Fit.au ?_ | refine Cv.au ?_ | refine Need.ne ?_ | refine Need.au ?_ | refine Pick.map (by assumption) ?_ | refine Pick.mapI (by omega) (by assumption) ?_ | refine PickN.mk _ (by assumption) ?_ | refine PickN.mk _ rfl ?_ | refine PickN.au ?_ | refine App.au rfl ?_ | refine App.au (own_map (fun _ => rfl) _) ?_ | refine Both.mk ?_ ?_ | exact True.intro
          refine Stop.mk (ih2 (j + 1) (g := []) _ _ _ (by omega) (by omega) ?_)
          rw [ebs, show out.set k (below f.blocks.length ((targetsF i).take j) ++ [t]) = (out.set k (below f.blocks.length ((targetsF i).take j))).set k (below f.blocks.length ((targetsF i).take j) ++ [t]) by rw [List.set_set], ← set_olst1]
          exact ⟨rfl, (by repeat' first | exact trivial | refine ⟨rfl, ?_⟩ | refine ⟨congrArg (fun n => AV.lit (.int .i64 n)) (by omega), ?_⟩ | refine ⟨congrArg (fun l => some (Row.row 1 l)) (by simp [int1, num, tru]), ?_⟩), (by repeat' first | exact trivial | refine ⟨rfl, ?_⟩ | refine ⟨congrArg (fun n => AV.lit (.int .i64 n)) (by omega), ?_⟩ | refine ⟨congrArg (fun l => some (Row.row 1 l)) (by simp [int1, num, tru]), ?_⟩)⟩
        · rw [if_neg h5] at ebs
          repeat' first | refine Len.map ?_ | refine Len.nil ?_ | refine Len.cons ?_ | refine Br.t rfl ?_ | refine Br.f rfl ?_ | refine Fit.au ?_ | refine Cv.au ?_ | refine Need.ne ?_ | refine Need.au ?_ | refine Pick.map (by assumption) ?_ | refine Pick.mapI (by omega) (by assumption) ?_ | refine PickN.mk _ (by assumption) ?_ | refine PickN.mk _ rfl ?_ | refine PickN.au ?_ | refine App.au rfl ?_ | refine App.au (own_map (fun _ => rfl) _) ?_ | refine Both.mk ?_ ?_ | exact True.intro
          refine Stop.mk (ih2 (j + 1) (g := []) _ _ _ (by omega) (by omega) ?_)
          rw [ebs]
          exact ⟨rfl, (by repeat' first | exact trivial | refine ⟨rfl, ?_⟩ | refine ⟨congrArg (fun n => AV.lit (.int .i64 n)) (by omega), ?_⟩ | refine ⟨congrArg (fun l => some (Row.row 1 l)) (by simp [int1, num, tru]), ?_⟩), (by repeat' first | exact trivial | refine ⟨rfl, ?_⟩ | refine ⟨congrArg (fun n => AV.lit (.int .i64 n)) (by omega), ?_⟩ | refine ⟨congrArg (fun l => some (Row.row 1 l)) (by simp [int1, num, tru]), ?_⟩)⟩
      · repeat' first | refine Len.map ?_ | refine Len.nil ?_ | refine Len.cons ?_ | refine Br.t rfl ?_ | refine Br.f rfl ?_ | refine Fit.au ?_ | refine Cv.au ?_ | refine Need.ne ?_ | refine Need.au ?_ | refine Pick.map (by assumption) ?_ | refine Pick.mapI (by omega) (by assumption) ?_ | refine PickN.mk _ (by assumption) ?_ | refine PickN.mk _ rfl ?_ | refine PickN.au ?_ | refine App.au rfl ?_ | refine App.au (own_map (fun _ => rfl) _) ?_ | refine Both.mk ?_ ?_ | exact True.intro
        refine Stop.mk (ih (k + 1) (g := []) _ _ _ (by omega) (by omega) ?_)
        rw [gosucc, take_all (l := targetsF i) (by omega)]
        exact ⟨rfl, (by repeat' first | exact trivial | refine ⟨rfl, ?_⟩ | refine ⟨congrArg (fun n => AV.lit (.int .i64 n)) (by omega), ?_⟩ | refine ⟨congrArg (fun l => some (Row.row 1 l)) (by simp [int1, num, tru]), ?_⟩), (by repeat' first | exact trivial | refine ⟨rfl, ?_⟩ | refine ⟨congrArg (fun n => AV.lit (.int .i64 n)) (by omega), ?_⟩ | refine ⟨congrArg (fun l => some (Row.row 1 l)) (by simp [int1, num, tru]), ?_⟩)⟩
  · repeat' first | refine Len.map ?_ | refine Len.nil ?_ | refine Len.cons ?_ | refine Br.t rfl ?_ | refine Br.f rfl ?_ | refine Fit.au ?_ | refine Cv.au ?_ | refine Need.ne ?_ | refine Need.au ?_ | refine Pick.map (by assumption) ?_ | refine Pick.mapI (by omega) (by assumption) ?_ | refine PickN.mk _ (by assumption) ?_ | refine PickN.mk _ rfl ?_ | refine PickN.au ?_ | refine App.au rfl ?_ | refine App.au (own_map (fun _ => rfl) _) ?_ | refine Both.mk ?_ ?_ | exact True.intro
    have : k = (succsF f).length := by omega
    subst this
    rw [outS_all]
    rfl

end Go.Proofs.YtdgibhndjdgllaaDoor

/- The flow's problem: whether it may be, and its ways: by contracts. -/
namespace Go.Proofs.YtdgibhndjdgllaaDoor
open Go.Ax
set_option maxRecDepth 10000
set_option linter.unusedVariables false

theorem turned103_spec (s : List (List Int)) (hcl : Closed s) (hsm : ∀ l ∈ s, l.length ≤ 2) (hn : s.length ≤ 1000000) : FnSpec Tryd.prog 103 [lsts s] (fun r => r = .osl 1 ((predsD s).map olst)) := by
  refine spec_of 1000 Tryd.func103 rfl rfl ?_
  repeat' first | refine MkS.mk _ rfl rfl (by omega) (by omega) ?_ | refine Len.rep ?_ | refine Len.map ?_ | refine Len.nil ?_ | refine Len.cons ?_ | refine Br.t rfl ?_ | refine Br.f rfl ?_ | refine Fit.au ?_ | refine Cv.au ?_ | refine Need.ne ?_ | refine Need.au ?_ | refine Pick.map (by assumption) ?_ | refine Pick.mapI (by omega) (by assumption) ?_ | refine PickN.mk _ (by assumption) ?_ | refine PickN.mk _ rfl ?_ | refine PickN.au ?_ | refine App.au rfl ?_ | refine App.au (own_map (fun _ => rfl) _) ?_ | refine Both.mk ?_ ?_ | exact True.intro
  refine Stop.mk (run_rowO 0 rfl (zero_olst _) ?_)
  refine loop_in (g := []) (fun k : Nat => [(0, lsts s), (3, .hw 0), (11, lsts s), (12, num s.length), (13, num k)]) (fun k => [(0, .row 1 ((predsP s k 0).map olst))]) 1 (fun k => k ≤ s.length) (fun k => s.length - k) 0 (by omega) ?_ (fun k hk ih => ?_)
  · rw [predsP_zero]
    exact ⟨rfl, (by repeat' first | exact trivial | refine ⟨rfl, ?_⟩ | refine ⟨congrArg (fun n => AV.lit (.int .i64 n)) (by omega), ?_⟩ | refine ⟨congrArg (fun l => some (Row.row 1 l)) (by simp [int1, num, tru]), ?_⟩), (by repeat' first | exact trivial | refine ⟨rfl, ?_⟩ | refine ⟨congrArg (fun n => AV.lit (.int .i64 n)) (by omega), ?_⟩ | refine ⟨congrArg (fun l => some (Row.row 1 l)) (by simp [int1, num, tru]), ?_⟩)⟩
  refine go 1000 Tryd.func103 ?_
  repeat' first | refine Len.map ?_ | refine Len.nil ?_ | refine Len.cons ?_ | refine Br.t rfl ?_ | refine Br.f rfl ?_ | refine Fit.au ?_ | refine Cv.au ?_ | refine Need.ne ?_ | refine Need.au ?_ | refine Pick.map (by assumption) ?_ | refine Pick.mapI (by omega) (by assumption) ?_ | refine PickN.mk _ (by assumption) ?_ | refine PickN.mk _ rfl ?_ | refine PickN.au ?_ | refine App.au rfl ?_ | refine App.au (own_map (fun _ => rfl) _) ?_ | refine Both.mk ?_ ?_ | exact True.intro
  refine Br.d (fun h2 => ?_) (fun h2 => ?_)
  · obtain ⟨l, gl, glm⟩ := getK (l := s) (k := k) (by omega)
    have hll := hsm l glm
    have hlc := hcl l glm
    have hnext := predsP_next gl
    repeat' first | refine Pick.map gl ?_ | refine Len.map ?_ | refine Len.nil ?_ | refine Len.cons ?_ | refine Br.t rfl ?_ | refine Br.f rfl ?_ | refine Fit.au ?_ | refine Cv.au ?_ | refine Need.ne ?_ | refine Need.au ?_ | refine Pick.map (by assumption) ?_ | refine Pick.mapI (by omega) (by assumption) ?_ | refine PickN.mk _ (by assumption) ?_ | refine PickN.mk _ rfl ?_ | refine PickN.au ?_ | refine App.au rfl ?_ | refine App.au (own_map (fun _ => rfl) _) ?_ | refine Both.mk ?_ ?_ | exact True.intro
    refine Stop.mk (loop_in (g := []) (fun j : Nat => [(0, lsts s), (3, .hw 0), (11, lsts s), (12, num s.length), (13, num k), (4, num k), (18, ints l), (19, num l.length), (20, num j)]) (fun j => [(0, .row 1 ((predsP s k j).map olst))]) 1 (fun j => j ≤ l.length) (fun j => l.length - j) 0 (by omega) ⟨rfl, (by repeat' first | exact trivial | refine ⟨rfl, ?_⟩ | refine ⟨congrArg (fun n => AV.lit (.int .i64 n)) (by omega), ?_⟩ | refine ⟨congrArg (fun l => some (Row.row 1 l)) (by simp [int1, num, tru]), ?_⟩), (by repeat' first | exact trivial | refine ⟨rfl, ?_⟩ | refine ⟨congrArg (fun n => AV.lit (.int .i64 n)) (by omega), ?_⟩ | refine ⟨congrArg (fun l => some (Row.row 1 l)) (by simp [int1, num, tru]), ?_⟩)⟩ (fun j hj ih2 => ?_))
    refine go 1000 Tryd.func103 ?_
    repeat' first | refine Len.map ?_ | refine Len.nil ?_ | refine Len.cons ?_ | refine Br.t rfl ?_ | refine Br.f rfl ?_ | refine Fit.au ?_ | refine Cv.au ?_ | refine Need.ne ?_ | refine Need.au ?_ | refine Pick.map (by assumption) ?_ | refine Pick.mapI (by omega) (by assumption) ?_ | refine PickN.mk _ (by assumption) ?_ | refine PickN.mk _ rfl ?_ | refine PickN.au ?_ | refine App.au rfl ?_ | refine App.au (own_map (fun _ => rfl) _) ?_ | refine Both.mk ?_ ?_ | exact True.intro
    refine Br.d (fun h3 => ?_) (fun h3 => ?_)
    · obtain ⟨t, gt, gtm⟩ := getK (l := l) (k := j) (by omega)
      obtain ⟨ht0, ht1⟩ := hlc t gtm
      obtain ⟨t, rfl⟩ : ∃ t' : Nat, t = (t' : Int) := ⟨t.toNat, by omega⟩
      have hstep := predsP_step gl gt (by omega)
      have hat : (predsP s k j)[t]? = some (predP s k j t) := predsP_at (by omega)
      have hlen := predsP_len s k j
      have hpl := predP_len hsm k j t
      repeat' first | refine Pick.map gt ?_ | refine PickN.map hat ?_ | refine Len.map ?_ | refine Len.nil ?_ | refine Len.cons ?_ | refine Br.t rfl ?_ | refine Br.f rfl ?_ | refine Fit.au ?_ | refine Cv.au ?_ | refine Need.ne ?_ | refine Need.au ?_ | refine Pick.map (by assumption) ?_ | refine Pick.mapI (by omega) (by assumption) ?_ | refine PickN.mk _ (by assumption) ?_ | refine PickN.mk _ rfl ?_ | refine PickN.au ?_ | refine App.au rfl ?_ | refine App.au (own_map (fun _ => rfl) _) ?_ | refine Both.mk ?_ ?_ | exact True.intro
      refine Need.mk rfl ?_
      repeat' first | refine Len.map ?_ | refine Len.nil ?_ | refine Len.cons ?_ | refine Br.t rfl ?_ | refine Br.f rfl ?_ | refine Fit.au ?_ | refine Cv.au ?_ | refine Need.ne ?_ | refine Need.au ?_ | refine Pick.map (by assumption) ?_ | refine Pick.mapI (by omega) (by assumption) ?_ | refine PickN.mk _ (by assumption) ?_ | refine PickN.mk _ rfl ?_ | refine PickN.au ?_ | refine App.au rfl ?_ | refine App.au (own_map (fun _ => rfl) _) ?_ | refine Both.mk ?_ ?_ | exact True.intro
      refine Stop.mk (ih2 (j + 1) (g := []) _ _ _ (by omega) (by omega) ?_)
      rw [hstep, ← set_olst1]
      exact ⟨rfl, (by repeat' first | exact trivial | refine ⟨rfl, ?_⟩ | refine ⟨congrArg (fun n => AV.lit (.int .i64 n)) (by omega), ?_⟩ | refine ⟨congrArg (fun l => some (Row.row 1 l)) (by simp [int1, num, tru]), ?_⟩), (by repeat' first | exact trivial | refine ⟨rfl, ?_⟩ | refine ⟨congrArg (fun n => AV.lit (.int .i64 n)) (by omega), ?_⟩ | refine ⟨congrArg (fun l => some (Row.row 1 l)) (by simp [int1, num, tru]), ?_⟩)⟩
    · repeat' first | refine Len.map ?_ | refine Len.nil ?_ | refine Len.cons ?_ | refine Br.t rfl ?_ | refine Br.f rfl ?_ | refine Fit.au ?_ | refine Cv.au ?_ | refine Need.ne ?_ | refine Need.au ?_ | refine Pick.map (by assumption) ?_ | refine Pick.mapI (by omega) (by assumption) ?_ | refine PickN.mk _ (by assumption) ?_ | refine PickN.mk _ rfl ?_ | refine PickN.au ?_ | refine App.au rfl ?_ | refine App.au (own_map (fun _ => rfl) _) ?_ | refine Both.mk ?_ ?_ | exact True.intro
      have : j = l.length := by omega
      subst this
      refine Stop.mk (ih (k + 1) (g := []) _ _ _ (by omega) (by omega) ?_)
      rw [← hnext]
      exact ⟨rfl, (by repeat' first | exact trivial | refine ⟨rfl, ?_⟩ | refine ⟨congrArg (fun n => AV.lit (.int .i64 n)) (by omega), ?_⟩ | refine ⟨congrArg (fun l => some (Row.row 1 l)) (by simp [int1, num, tru]), ?_⟩), (by repeat' first | exact trivial | refine ⟨rfl, ?_⟩ | refine ⟨congrArg (fun n => AV.lit (.int .i64 n)) (by omega), ?_⟩ | refine ⟨congrArg (fun l => some (Row.row 1 l)) (by simp [int1, num, tru]), ?_⟩)⟩
  · repeat' first | refine Len.map ?_ | refine Len.nil ?_ | refine Len.cons ?_ | refine Br.t rfl ?_ | refine Br.f rfl ?_ | refine Fit.au ?_ | refine Cv.au ?_ | refine Need.ne ?_ | refine Need.au ?_ | refine Pick.map (by assumption) ?_ | refine Pick.mapI (by omega) (by assumption) ?_ | refine PickN.mk _ (by assumption) ?_ | refine PickN.mk _ rfl ?_ | refine PickN.au ?_ | refine App.au rfl ?_ | refine App.au (own_map (fun _ => rfl) _) ?_ | refine Both.mk ?_ ?_ | exact True.intro
    have : k = s.length := by omega
    subst this
    rfl
theorem Right71_spec (p : Prob) (hp : p.OK) : FnSpec Tryd.prog 71 [probA p] (fun r => r = tru true) := by
  have hw := hp.wid
  have hf := hp.few
  have h1 := Right102_spec p.start p.width hp.wid hp.start_
  have e1 := hp.genl
  have e2 := hp.kill_
  refine spec_of 1000 Tryd.func71 rfl rfl ?_
  repeat' first | (refine Br.f ?_ ?_; focus (first | (simp; omega) | (simp; done))) | refine Call.eq h1 rfl ?_ | refine Len.map ?_ | refine Len.nil ?_ | refine Len.cons ?_ | refine Br.t rfl ?_ | refine Br.f rfl ?_ | refine Fit.au ?_ | refine Cv.au ?_ | refine Need.ne ?_ | refine Need.au ?_ | refine Pick.map (by assumption) ?_ | refine Pick.mapI (by omega) (by assumption) ?_ | refine PickN.mk _ (by assumption) ?_ | refine PickN.mk _ rfl ?_ | refine PickN.au ?_ | refine App.au rfl ?_ | refine App.au (own_map (fun _ => rfl) _) ?_ | refine Both.mk ?_ ?_ | exact True.intro
  refine Stop.mk (loop_in (g := []) (fun k : Nat => [(1, .hp 0 0), (2, tru false), (3, num p.edges.length), (36, lsts p.edges), (37, num p.edges.length), (38, num k)]) (fun k => [(0, .var p.cs)]) 1 (fun k => k ≤ p.edges.length) (fun k => p.edges.length - k) 0 (by omega) ⟨rfl, (by repeat' first | exact trivial | refine ⟨rfl, ?_⟩ | refine ⟨congrArg (fun n => AV.lit (.int .i64 n)) (by omega), ?_⟩ | refine ⟨congrArg (fun l => some (Row.row 1 l)) (by simp [int1, num, tru]), ?_⟩), (by repeat' first | exact trivial | refine ⟨rfl, ?_⟩ | refine ⟨congrArg (fun n => AV.lit (.int .i64 n)) (by omega), ?_⟩ | refine ⟨congrArg (fun l => some (Row.row 1 l)) (by simp [int1, num, tru]), ?_⟩)⟩ (fun k hk ih => ?_))
  refine go 1000 Tryd.func71 ?_
  repeat' first | refine Len.map ?_ | refine Len.nil ?_ | refine Len.cons ?_ | refine Br.t rfl ?_ | refine Br.f rfl ?_ | refine Fit.au ?_ | refine Cv.au ?_ | refine Need.ne ?_ | refine Need.au ?_ | refine Pick.map (by assumption) ?_ | refine Pick.mapI (by omega) (by assumption) ?_ | refine PickN.mk _ (by assumption) ?_ | refine PickN.mk _ rfl ?_ | refine PickN.au ?_ | refine App.au rfl ?_ | refine App.au (own_map (fun _ => rfl) _) ?_ | refine Both.mk ?_ ?_ | exact True.intro
  refine Br.d (fun h2 => ?_) (fun h2 => ?_)
  · obtain ⟨l, gl, glm⟩ := getK (l := p.edges) (k := k) (by omega)
    obtain ⟨x, gx, gxm⟩ := getK (l := p.gen) (k := k) (by omega)
    obtain ⟨y, gy, gym⟩ := getK (l := p.kill) (k := k) (by omega)
    have hll := hp.small l glm
    have hlc := hp.closed l glm
    have hx := Right102_spec x p.width hp.wid (hp.gens x gxm)
    have hy := Right102_spec y p.width hp.wid (hp.kills y gym)
    repeat' first | refine Draw.mk (ordL [7, 17] [0, 1, 2, 3, 4, 5, 6, 7, 8, 9, 10, 11, 12, 13, 14, 15, 16, 17, 18, 19]) (by decide +kernel) ?_ | refine Pick.map gl ?_ | refine Pick.map gx ?_ | refine Pick.map gy ?_ | refine Call.eq hx rfl ?_ | refine Call.eq hy rfl ?_ | refine Len.map ?_ | refine Len.nil ?_ | refine Len.cons ?_ | refine Br.t rfl ?_ | refine Br.f rfl ?_ | refine Fit.au ?_ | refine Cv.au ?_ | refine Need.ne ?_ | refine Need.au ?_ | refine Pick.map (by assumption) ?_ | refine Pick.mapI (by omega) (by assumption) ?_ | refine PickN.mk _ (by assumption) ?_ | refine PickN.mk _ rfl ?_ | refine PickN.au ?_ | refine App.au rfl ?_ | refine App.au (own_map (fun _ => rfl) _) ?_ | refine Both.mk ?_ ?_ | exact True.intro
    refine Stop.mk (loop_in (g := []) (fun j : Nat => [(1, .hp 0 0), (2, tru false), (3, num p.edges.length), (36, lsts p.edges), (37, num p.edges.length), (38, num k), (63, ints l), (64, num l.length), (65, num j)]) (fun j => [(0, .var p.cs)]) 1 (fun j => j ≤ l.length) (fun j => l.length - j) 0 (by omega) ⟨rfl, (by repeat' first | exact trivial | refine ⟨rfl, ?_⟩ | refine ⟨congrArg (fun n => AV.lit (.int .i64 n)) (by omega), ?_⟩ | refine ⟨congrArg (fun l => some (Row.row 1 l)) (by simp [int1, num, tru]), ?_⟩), (by repeat' first | exact trivial | refine ⟨rfl, ?_⟩ | refine ⟨congrArg (fun n => AV.lit (.int .i64 n)) (by omega), ?_⟩ | refine ⟨congrArg (fun l => some (Row.row 1 l)) (by simp [int1, num, tru]), ?_⟩)⟩ (fun j hj ih2 => ?_))
    refine go 1000 Tryd.func71 ?_
    repeat' first | refine Len.map ?_ | refine Len.nil ?_ | refine Len.cons ?_ | refine Br.t rfl ?_ | refine Br.f rfl ?_ | refine Fit.au ?_ | refine Cv.au ?_ | refine Need.ne ?_ | refine Need.au ?_ | refine Pick.map (by assumption) ?_ | refine Pick.mapI (by omega) (by assumption) ?_ | refine PickN.mk _ (by assumption) ?_ | refine PickN.mk _ rfl ?_ | refine PickN.au ?_ | refine App.au rfl ?_ | refine App.au (own_map (fun _ => rfl) _) ?_ | refine Both.mk ?_ ?_ | exact True.intro
    refine Br.d (fun h3 => ?_) (fun h3 => ?_)
    · obtain ⟨t, gt, gtm⟩ := getK (l := l) (k := j) (by omega)
      have ht := hlc t gtm
      repeat' first | refine Pick.map gt ?_ | (refine Br.f ?_ ?_; focus (simp; omega)) | refine Len.map ?_ | refine Len.nil ?_ | refine Len.cons ?_ | refine Br.t rfl ?_ | refine Br.f rfl ?_ | refine Fit.au ?_ | refine Cv.au ?_ | refine Need.ne ?_ | refine Need.au ?_ | refine Pick.map (by assumption) ?_ | refine Pick.mapI (by omega) (by assumption) ?_ | refine PickN.mk _ (by assumption) ?_ | refine PickN.mk _ rfl ?_ | refine PickN.au ?_ | refine App.au rfl ?_ | refine App.au (own_map (fun _ => rfl) _) ?_ | refine Both.mk ?_ ?_ | exact True.intro
      exact Stop.mk (ih2 (j + 1) (g := []) _ _ _ (by omega) (by omega) ⟨rfl, (by repeat' first | exact trivial | refine ⟨rfl, ?_⟩ | refine ⟨congrArg (fun n => AV.lit (.int .i64 n)) (by omega), ?_⟩ | refine ⟨congrArg (fun l => some (Row.row 1 l)) (by simp [int1, num, tru]), ?_⟩), (by repeat' first | exact trivial | refine ⟨rfl, ?_⟩ | refine ⟨congrArg (fun n => AV.lit (.int .i64 n)) (by omega), ?_⟩ | refine ⟨congrArg (fun l => some (Row.row 1 l)) (by simp [int1, num, tru]), ?_⟩)⟩)
    · repeat' first | refine Len.map ?_ | refine Len.nil ?_ | refine Len.cons ?_ | refine Br.t rfl ?_ | refine Br.f rfl ?_ | refine Fit.au ?_ | refine Cv.au ?_ | refine Need.ne ?_ | refine Need.au ?_ | refine Pick.map (by assumption) ?_ | refine Pick.mapI (by omega) (by assumption) ?_ | refine PickN.mk _ (by assumption) ?_ | refine PickN.mk _ rfl ?_ | refine PickN.au ?_ | refine App.au rfl ?_ | refine App.au (own_map (fun _ => rfl) _) ?_ | refine Both.mk ?_ ?_ | exact True.intro
      exact Stop.mk (ih (k + 1) (g := []) _ _ _ (by omega) (by omega) ⟨rfl, (by repeat' first | exact trivial | refine ⟨rfl, ?_⟩ | refine ⟨congrArg (fun n => AV.lit (.int .i64 n)) (by omega), ?_⟩ | refine ⟨congrArg (fun l => some (Row.row 1 l)) (by simp [int1, num, tru]), ?_⟩), (by repeat' first | exact trivial | refine ⟨rfl, ?_⟩ | refine ⟨congrArg (fun n => AV.lit (.int .i64 n)) (by omega), ?_⟩ | refine ⟨congrArg (fun l => some (Row.row 1 l)) (by simp [int1, num, tru]), ?_⟩)⟩)
  · repeat' first | refine Len.map ?_ | refine Len.nil ?_ | refine Len.cons ?_ | refine Br.t rfl ?_ | refine Br.f rfl ?_ | refine Fit.au ?_ | refine Cv.au ?_ | refine Need.ne ?_ | refine Need.au ?_ | refine Pick.map (by assumption) ?_ | refine Pick.mapI (by omega) (by assumption) ?_ | refine PickN.mk _ (by assumption) ?_ | refine PickN.mk _ rfl ?_ | refine PickN.au ?_ | refine App.au rfl ?_ | refine App.au (own_map (fun _ => rfl) _) ?_ | refine Both.mk ?_ ?_ | exact True.intro
    rfl
theorem ways72_spec (p : Prob) (hp : p.OK) : FnSpec Tryd.prog 72 [probA p] (fun r => r = bif p.back then .tup [lsts p.edges, .osl 1 ((predsD p.edges).map olst)] else .tup [.osl 1 ((predsD p.edges).map olst), lsts p.edges]) := by
  have hT := turned103_spec p.edges hp.closed hp.small (by have := hp.few; omega)
  obtain ⟨edges, back, all, width, gen, kill, start⟩ := p
  dsimp only at hT ⊢
  refine spec_of 1000 Tryd.func72 rfl rfl ?_
  repeat' first | refine Call.eq hT rfl ?_ | refine Len.map ?_ | refine Len.nil ?_ | refine Len.cons ?_ | refine Br.t rfl ?_ | refine Br.f rfl ?_ | refine Fit.au ?_ | refine Cv.au ?_ | refine Need.ne ?_ | refine Need.au ?_ | refine Pick.map (by assumption) ?_ | refine Pick.mapI (by omega) (by assumption) ?_ | refine PickN.mk _ (by assumption) ?_ | refine PickN.mk _ rfl ?_ | refine PickN.au ?_ | refine App.au rfl ?_ | refine App.au (own_map (fun _ => rfl) _) ?_ | refine Both.mk ?_ ?_ | exact True.intro
  cases back with
  | true =>
    repeat' first | refine Draw.mk (ordL [] [0, 1, 2, 3, 4]) (by decide +kernel) ?_ | refine Len.map ?_ | refine Len.nil ?_ | refine Len.cons ?_ | refine Br.t rfl ?_ | refine Br.f rfl ?_ | refine Fit.au ?_ | refine Cv.au ?_ | refine Need.ne ?_ | refine Need.au ?_ | refine Pick.map (by assumption) ?_ | refine Pick.mapI (by omega) (by assumption) ?_ | refine PickN.mk _ (by assumption) ?_ | refine PickN.mk _ rfl ?_ | refine PickN.au ?_ | refine App.au rfl ?_ | refine App.au (own_map (fun _ => rfl) _) ?_ | refine Both.mk ?_ ?_ | exact True.intro
    rfl
  | false =>
    repeat' first | refine Draw.mk (ordL [] [0, 1, 2, 3, 4]) (by decide +kernel) ?_ | refine Len.map ?_ | refine Len.nil ?_ | refine Len.cons ?_ | refine Br.t rfl ?_ | refine Br.f rfl ?_ | refine Fit.au ?_ | refine Cv.au ?_ | refine Need.ne ?_ | refine Need.au ?_ | refine Pick.map (by assumption) ?_ | refine Pick.mapI (by omega) (by assumption) ?_ | refine PickN.mk _ (by assumption) ?_ | refine PickN.mk _ rfl ?_ | refine PickN.au ?_ | refine App.au rfl ?_ | refine App.au (own_map (fun _ => rfl) _) ?_ | refine Both.mk ?_ ?_ | exact True.intro
    rfl
theorem of73_spec (p : Prob) : FnSpec Tryd.prog 73 [probA p] (fun r => r = .agg (bif p.all then [.fn 43 [], .fn 104 []] else [.fn 35 [], .fn 36 []])) := by
  obtain ⟨edges, back, all, width, gen, kill, start⟩ := p
  refine spec_of 1000 Tryd.func73 rfl rfl ?_
  repeat' first | refine Len.map ?_ | refine Len.nil ?_ | refine Len.cons ?_ | refine Br.t rfl ?_ | refine Br.f rfl ?_ | refine Fit.au ?_ | refine Cv.au ?_ | refine Need.ne ?_ | refine Need.au ?_ | refine Pick.map (by assumption) ?_ | refine Pick.mapI (by omega) (by assumption) ?_ | refine PickN.mk _ (by assumption) ?_ | refine PickN.mk _ rfl ?_ | refine PickN.au ?_ | refine App.au rfl ?_ | refine App.au (own_map (fun _ => rfl) _) ?_ | refine Both.mk ?_ ?_ | exact True.intro
  cases all with
  | true =>
    repeat' first | refine Len.map ?_ | refine Len.nil ?_ | refine Len.cons ?_ | refine Br.t rfl ?_ | refine Br.f rfl ?_ | refine Fit.au ?_ | refine Cv.au ?_ | refine Need.ne ?_ | refine Need.au ?_ | refine Pick.map (by assumption) ?_ | refine Pick.mapI (by omega) (by assumption) ?_ | refine PickN.mk _ (by assumption) ?_ | refine PickN.mk _ rfl ?_ | refine PickN.au ?_ | refine App.au rfl ?_ | refine App.au (own_map (fun _ => rfl) _) ?_ | refine Both.mk ?_ ?_ | exact True.intro
    rfl
  | false =>
    repeat' first | refine Len.map ?_ | refine Len.nil ?_ | refine Len.cons ?_ | refine Br.t rfl ?_ | refine Br.f rfl ?_ | refine Fit.au ?_ | refine Cv.au ?_ | refine Need.ne ?_ | refine Need.au ?_ | refine Pick.map (by assumption) ?_ | refine Pick.mapI (by omega) (by assumption) ?_ | refine PickN.mk _ (by assumption) ?_ | refine PickN.mk _ rfl ?_ | refine PickN.au ?_ | refine App.au rfl ?_ | refine App.au (own_map (fun _ => rfl) _) ?_ | refine Both.mk ?_ ?_ | exact True.intro
    rfl
end Go.Proofs.YtdgibhndjdgllaaDoor

/- What comes to a block, and what leaves it: by contracts. -/
namespace Go.Proofs.YtdgibhndjdgllaaDoor
open Go.Ax
set_option maxRecDepth 10000
set_option linter.unusedVariables false

theorem to78_spec (p : Prob) (hp : p.OK) (k : Nat) (hk : k < p.edges.length) (s : List W) (hs : s.length ≤ 100000) : FnSpec Tryd.prog 78 [probA p, num k, sets s] (fun r => r = .osl 1 ((toW p k s).map u1)) := by
  have e1 := hp.genl
  have e2 := hp.kill_
  obtain ⟨x, gx, gxm⟩ := getK (l := p.gen) (k := k) (by omega)
  obtain ⟨y, gy, gym⟩ := getK (l := p.kill) (k := k) (by omega)
  have hxl := (hp.gens x gxm).len hp.wid
  have hyl := (hp.kills y gym).len hp.wid
  have hL := Less45_spec s y (by omega) (by omega)
  have hll : (lessW s y).length = s.length := fillW_len ..
  have hO := Or36_spec x (lessW s y) (by omega) (by omega)
  have hto : toW p k s = orW x (lessW s y) := by
    unfold toW
    rw [List.getD_eq_getElem?_getD, List.getD_eq_getElem?_getD, gx, gy]; rfl
  rw [hto]
  obtain ⟨edges, back, all, width, gen, kill, start⟩ := p
  dsimp only at gx gy
  refine spec_of 1000 Tryd.func78 rfl rfl ?_
  repeat' first | refine Draw.mk (ordL [11, 12] [0, 1, 2, 3, 4, 5, 6, 7, 8, 9, 10, 11, 12, 13]) (by decide +kernel) ?_ | refine Pick.map gx ?_ | refine Pick.map gy ?_ | refine Call.eq hL rfl ?_ | (refine Look.yes (View.mk _ (fzw _) ?_); refine CallV.eq hO rfl (by repeat' first | exact Free.lit _ | refine Free.tup ?_ | refine Free.agg ?_ | (refine Free.map ?_; intro e _) | refine List.forall_mem_cons.2 ⟨?_, ?_⟩ | exact List.forall_mem_nil _) ?_) | refine Len.map ?_ | refine Len.nil ?_ | refine Len.cons ?_ | refine Br.t rfl ?_ | refine Br.f rfl ?_ | refine Fit.au ?_ | refine Cv.au ?_ | refine Need.ne ?_ | refine Need.au ?_ | refine Pick.map (by assumption) ?_ | refine Pick.mapI (by omega) (by assumption) ?_ | refine PickN.mk _ (by assumption) ?_ | refine PickN.mk _ rfl ?_ | refine PickN.au ?_ | refine App.au rfl ?_ | refine App.au (own_map (fun _ => rfl) _) ?_ | refine Both.mk ?_ ?_ | exact True.intro
  all_goals rfl
/-- What a problem's lattice is: its functions' numbers, and their contracts. -/
structure LatP (p : Prob) (g h : Nat) : Prop where
  of_ : FnSpec Tryd.prog 73 [probA p] (fun r => r = .agg [.fn g [], .fn h []])
  none_ : FnSpec Tryd.prog g [num p.width] (fun r => r = .osl 1 ((noneW p).map u1))
  meet_ : ∀ a b : List W, a.length ≤ 1000000 → b.length ≤ 1000000 → FnSpec Tryd.prog h [sets a, sets b] (fun r => r = .osl 1 ((meetW p a b).map u1))
theorem latP (p : Prob) (hp : p.OK) : ∃ g h, LatP p g h := by
  have hO := of73_spec p
  have h1 := Full43_spec p.width hp.wid
  have h2 := New35_spec p.width hp.wid
  cases ha : p.all with
  | true =>
    rw [ha] at hO
    refine ⟨43, 104, hO, ?_, fun a b h3 h4 => ?_⟩
    · unfold noneW; rw [ha]; exact h1
    · unfold meetW; rw [ha]; exact And104_spec a b h3 h4
  | false =>
    rw [ha] at hO
    refine ⟨35, 36, hO, ?_, fun a b h3 h4 => ?_⟩
    · unfold noneW; rw [ha]; exact h2
    · unfold meetW; rw [ha]; exact Or36_spec a b h3 h4
theorem noneW_len {p : Prob} (hp : p.OK) : (noneW p).length ≤ 1024 := by
  have := wn_le hp.wid
  unfold noneW
  split
  · rw [fullW_len]; exact this
  · rw [newW_len]; exact this
theorem from77_spec (p : Prob) (hp : p.OK) (k : Nat) (ahead : List (List Int)) (row : List Int) (hk : ahead[k]? = some row) (to : List (List W)) (hrow : ∀ a ∈ row, 0 ≤ a ∧ a < to.length) (hto : ∀ s ∈ to, s.length ≤ 1024) (hrl : row.length ≤ 1000000) :
    FnSpec Tryd.prog 77 [probA p, num k, lsts ahead, setsL to] (fun r => r = .osl 1 ((fromW p k row to).map u1)) := by
  obtain ⟨g, h, hL⟩ := latP p hp
  have hN := hL.none_
  have hM := hL.meet_
  have hnl := noneW_len hp
  have hsl := hp.start_.len hp.wid
  refine spec_of 12 Tryd.func77 rfl rfl ?_
  repeat' first | refine Call.eq hL.of_ rfl ?_ | refine Len.map ?_ | refine Len.nil ?_ | refine Len.cons ?_ | refine Br.t rfl ?_ | refine Br.f rfl ?_ | refine Fit.au ?_ | refine Cv.au ?_ | refine Need.ne ?_ | refine Need.au ?_ | refine Pick.map (by assumption) ?_ | refine Pick.mapI (by omega) (by assumption) ?_ | refine PickN.mk _ (by assumption) ?_ | refine PickN.mk _ rfl ?_ | refine PickN.au ?_ | refine App.au rfl ?_ | refine App.au (own_map (fun _ => rfl) _) ?_ | refine Both.mk ?_ ?_ | exact True.intro
  refine Stop.mk ?_
  apply join (fun o : List W => [(3, setsL to), (4, .hp 0 0), (9, .hp 1 0), (10, .hw 2), (48, ints row), (49, num row.length), (50, num 0)]) (fun o => [(0, .var p.cs), (1, .var [.fn g [], .fn h []]), (2, .row 1 (o.map u1))]) 3 (fun o => o = beginW p k row)
  · intro jn
    have plain : ¬ ((p.back && row.isEmpty) || (!p.back && k == 0)) = true → beginW p k row = noneW p := fun h => if_neg h
    have begun : ((p.back && row.isEmpty) || (!p.back && k == 0)) = true → beginW p k row = meetW p (noneW p) p.start := fun h => if_pos h
    have hm := hM (noneW p) p.start (by omega) (by omega)
    refine go 1000 Tryd.func77 ?_
    repeat' first | (refine Dyn.spec _ _ hN (.cons (.inl rfl) .nil) rfl (fun r hr => ?_); subst hr; refine ⟨rfl, (by repeat' first | exact Free.lit _ | refine Free.tup ?_ | refine Free.agg ?_ | (refine Free.map ?_; intro e _) | refine List.forall_mem_cons.2 ⟨?_, ?_⟩ | exact List.forall_mem_nil _), ?_⟩) | refine Len.map ?_ | refine Len.nil ?_ | refine Len.cons ?_ | refine Br.t rfl ?_ | refine Br.f rfl ?_ | refine Fit.au ?_ | refine Cv.au ?_ | refine Need.ne ?_ | refine Need.au ?_ | refine Pick.map (by assumption) ?_ | refine Pick.mapI (by omega) (by assumption) ?_ | refine PickN.mk _ (by assumption) ?_ | refine PickN.mk _ rfl ?_ | refine PickN.au ?_ | refine App.au rfl ?_ | refine App.au (own_map (fun _ => rfl) _) ?_ | refine Both.mk ?_ ?_ | exact True.intro
    cases hb : p.back with
    | true =>
      obtain ⟨edges, back, all, width, gen, kill, start⟩ := p
      dsimp only at hb
      subst hb
      repeat' first | refine Pick.map hk ?_ | refine Len.map ?_ | refine Len.nil ?_ | refine Len.cons ?_ | refine Br.t rfl ?_ | refine Br.f rfl ?_ | refine Fit.au ?_ | refine Cv.au ?_ | refine Need.ne ?_ | refine Need.au ?_ | refine Pick.map (by assumption) ?_ | refine Pick.mapI (by omega) (by assumption) ?_ | refine PickN.mk _ (by assumption) ?_ | refine PickN.mk _ rfl ?_ | refine PickN.au ?_ | refine App.au rfl ?_ | refine App.au (own_map (fun _ => rfl) _) ?_ | refine Both.mk ?_ ?_ | exact True.intro
      refine Br.d (fun h0 => ?_) (fun h0 => ?_)
      · have e0 := begun (by rw [show row = [] from List.eq_nil_of_length_eq_zero (by omega)]; rfl)
        repeat' first | (refine Dyn.spec _ _ hm (.cons (seen_hw rfl (fzw _)) (.cons (.inl rfl) .nil)) rfl (fun r hr => ?_); subst hr; refine ⟨rfl, (by repeat' first | exact Free.lit _ | refine Free.tup ?_ | refine Free.agg ?_ | (refine Free.map ?_; intro e _) | refine List.forall_mem_cons.2 ⟨?_, ?_⟩ | exact List.forall_mem_nil _), ?_⟩) | refine Pick.map hk ?_ | refine Len.map ?_ | refine Len.nil ?_ | refine Len.cons ?_ | refine Br.t rfl ?_ | refine Br.f rfl ?_ | refine Fit.au ?_ | refine Cv.au ?_ | refine Need.ne ?_ | refine Need.au ?_ | refine Pick.map (by assumption) ?_ | refine Pick.mapI (by omega) (by assumption) ?_ | refine PickN.mk _ (by assumption) ?_ | refine PickN.mk _ rfl ?_ | refine PickN.au ?_ | refine App.au rfl ?_ | refine App.au (own_map (fun _ => rfl) _) ?_ | refine Both.mk ?_ ?_ | exact True.intro
        exact Stop.mk (jn _ (g := [(2, 3)]) _ _ _ ⟨rfl, (by repeat' first | exact trivial | refine ⟨rfl, ?_⟩), (by repeat' first | exact trivial | refine ⟨rfl, ?_⟩)⟩ e0.symm)
      · have e0 := plain (by cases row with | nil => simp at h0 | cons => simp)
        repeat' first | refine Pick.map hk ?_ | refine Len.map ?_ | refine Len.nil ?_ | refine Len.cons ?_ | refine Br.t rfl ?_ | refine Br.f rfl ?_ | refine Fit.au ?_ | refine Cv.au ?_ | refine Need.ne ?_ | refine Need.au ?_ | refine Pick.map (by assumption) ?_ | refine Pick.mapI (by omega) (by assumption) ?_ | refine PickN.mk _ (by assumption) ?_ | refine PickN.mk _ rfl ?_ | refine PickN.au ?_ | refine App.au rfl ?_ | refine App.au (own_map (fun _ => rfl) _) ?_ | refine Both.mk ?_ ?_ | exact True.intro
        exact Stop.mk (jn _ (g := []) _ _ _ ⟨rfl, (by repeat' first | exact trivial | refine ⟨rfl, ?_⟩), (by repeat' first | exact trivial | refine ⟨rfl, ?_⟩)⟩ e0.symm)
    | false =>
      obtain ⟨edges, back, all, width, gen, kill, start⟩ := p
      dsimp only at hb
      subst hb
      repeat' first | refine Pick.map hk ?_ | refine Len.map ?_ | refine Len.nil ?_ | refine Len.cons ?_ | refine Br.t rfl ?_ | refine Br.f rfl ?_ | refine Fit.au ?_ | refine Cv.au ?_ | refine Need.ne ?_ | refine Need.au ?_ | refine Pick.map (by assumption) ?_ | refine Pick.mapI (by omega) (by assumption) ?_ | refine PickN.mk _ (by assumption) ?_ | refine PickN.mk _ rfl ?_ | refine PickN.au ?_ | refine App.au rfl ?_ | refine App.au (own_map (fun _ => rfl) _) ?_ | refine Both.mk ?_ ?_ | exact True.intro
      refine Br.d (fun h0 => ?_) (fun h0 => ?_)
      · have e0 := begun (by simp; omega)
        repeat' first | (refine Dyn.spec _ _ hm (.cons (seen_hw rfl (fzw _)) (.cons (.inl rfl) .nil)) rfl (fun r hr => ?_); subst hr; refine ⟨rfl, (by repeat' first | exact Free.lit _ | refine Free.tup ?_ | refine Free.agg ?_ | (refine Free.map ?_; intro e _) | refine List.forall_mem_cons.2 ⟨?_, ?_⟩ | exact List.forall_mem_nil _), ?_⟩) | refine Pick.map hk ?_ | refine Len.map ?_ | refine Len.nil ?_ | refine Len.cons ?_ | refine Br.t rfl ?_ | refine Br.f rfl ?_ | refine Fit.au ?_ | refine Cv.au ?_ | refine Need.ne ?_ | refine Need.au ?_ | refine Pick.map (by assumption) ?_ | refine Pick.mapI (by omega) (by assumption) ?_ | refine PickN.mk _ (by assumption) ?_ | refine PickN.mk _ rfl ?_ | refine PickN.au ?_ | refine App.au rfl ?_ | refine App.au (own_map (fun _ => rfl) _) ?_ | refine Both.mk ?_ ?_ | exact True.intro
        exact Stop.mk (jn _ (g := [(2, 3)]) _ _ _ ⟨rfl, (by repeat' first | exact trivial | refine ⟨rfl, ?_⟩), (by repeat' first | exact trivial | refine ⟨rfl, ?_⟩)⟩ e0.symm)
      · have e0 := plain (by simp; omega)
        repeat' first | refine Pick.map hk ?_ | refine Len.map ?_ | refine Len.nil ?_ | refine Len.cons ?_ | refine Br.t rfl ?_ | refine Br.f rfl ?_ | refine Fit.au ?_ | refine Cv.au ?_ | refine Need.ne ?_ | refine Need.au ?_ | refine Pick.map (by assumption) ?_ | refine Pick.mapI (by omega) (by assumption) ?_ | refine PickN.mk _ (by assumption) ?_ | refine PickN.mk _ rfl ?_ | refine PickN.au ?_ | refine App.au rfl ?_ | refine App.au (own_map (fun _ => rfl) _) ?_ | refine Both.mk ?_ ?_ | exact True.intro
        exact Stop.mk (jn _ (g := []) _ _ _ ⟨rfl, (by repeat' first | exact trivial | refine ⟨rfl, ?_⟩), (by repeat' first | exact trivial | refine ⟨rfl, ?_⟩)⟩ e0.symm)
  rintro o rfl
  have hbl : (beginW p k row).length ≤ 1024 := by
    unfold beginW
    split
    · have := @meetW_len p (noneW p) p.start; omega
    · exact hnl
  unfold fromW
  generalize hob : beginW p k row = o at *
  refine loop_in (g := []) (fun q : Nat × List W => [(3, setsL to), (4, .hp 0 0), (9, .hp 1 0), (10, .hw 2), (48, ints row), (49, num row.length), (50, num q.1)]) (fun q => [(0, .var p.cs), (1, .var [.fn g [], .fn h []]), (2, .row 1 (q.2.map u1))]) 3 (fun q => q.1 ≤ row.length ∧ q.2.length ≤ 1024 ∧ (row.drop q.1).foldl (fun o a => meetW p o (to.getD a.toNat [])) q.2 = row.foldl (fun o a => meetW p o (to.getD a.toNat [])) o) (fun q => row.length - q.1) (0, o) ⟨by simp only; omega, hbl, rfl⟩ ⟨rfl, (by repeat' first | exact trivial | refine ⟨rfl, ?_⟩ | refine ⟨congrArg (fun n => AV.lit (.int .i64 n)) (by omega), ?_⟩ | refine ⟨congrArg (fun l => some (Row.row 1 l)) (by simp [int1, num, tru]), ?_⟩), (by repeat' first | exact trivial | refine ⟨rfl, ?_⟩ | refine ⟨congrArg (fun n => AV.lit (.int .i64 n)) (by omega), ?_⟩ | refine ⟨congrArg (fun l => some (Row.row 1 l)) (by simp [int1, num, tru]), ?_⟩)⟩ (fun q hq ih => ?_)
  obtain ⟨j, q⟩ := q
  obtain ⟨hj, hql, hqe⟩ := hq
  dsimp only at hj hql hqe ih ⊢
  refine go 1000 Tryd.func77 ?_
  repeat' first | refine Len.map ?_ | refine Len.nil ?_ | refine Len.cons ?_ | refine Br.t rfl ?_ | refine Br.f rfl ?_ | refine Fit.au ?_ | refine Cv.au ?_ | refine Need.ne ?_ | refine Need.au ?_ | refine Pick.map (by assumption) ?_ | refine Pick.mapI (by omega) (by assumption) ?_ | refine PickN.mk _ (by assumption) ?_ | refine PickN.mk _ rfl ?_ | refine PickN.au ?_ | refine App.au rfl ?_ | refine App.au (own_map (fun _ => rfl) _) ?_ | refine Both.mk ?_ ?_ | exact True.intro
  refine Br.d (fun h2 => ?_) (fun h2 => ?_)
  · obtain ⟨a, ga, gam⟩ := getK (l := row) (k := j) (by omega)
    obtain ⟨ha0, ha1⟩ := hrow a gam
    obtain ⟨a, rfl⟩ : ∃ n : Nat, a = n := ⟨a.toNat, by omega⟩
    obtain ⟨s, gs, gsm⟩ := getK (l := to) (k := a) (by omega)
    have hs := hto s gsm
    have hm := hM q s (by omega) (by omega)
    have hml := @meetW_len p q s
    have hdr : row.drop j = (a : Int) :: row.drop (j + 1) := by
      obtain ⟨hk2, e⟩ := List.getElem?_eq_some_iff.1 ga
      rw [← e]; exact List.drop_eq_getElem_cons hk2
    rw [hdr, List.foldl_cons, Int.toNat_natCast, show to.getD a [] = s by rw [List.getD_eq_getElem?_getD, gs]; rfl] at hqe
    repeat' first | refine Draw.mk (ordL [7] [0, 1, 2, 3, 4, 5, 6, 7, 8]) (by decide +kernel) ?_ | refine Pick.map ga ?_ | refine Pick.map gs ?_ | (refine Dyn.spec _ _ hm (.cons (seen_hw rfl (fzw _)) (.cons (.inl rfl) .nil)) rfl (fun r hr => ?_); subst hr; refine ⟨rfl, (by repeat' first | exact Free.lit _ | refine Free.tup ?_ | refine Free.agg ?_ | (refine Free.map ?_; intro e _) | refine List.forall_mem_cons.2 ⟨?_, ?_⟩ | exact List.forall_mem_nil _), ?_⟩) | refine Len.map ?_ | refine Len.nil ?_ | refine Len.cons ?_ | refine Br.t rfl ?_ | refine Br.f rfl ?_ | refine Fit.au ?_ | refine Cv.au ?_ | refine Need.ne ?_ | refine Need.au ?_ | refine Pick.map (by assumption) ?_ | refine Pick.mapI (by omega) (by assumption) ?_ | refine PickN.mk _ (by assumption) ?_ | refine PickN.mk _ rfl ?_ | refine PickN.au ?_ | refine App.au rfl ?_ | refine App.au (own_map (fun _ => rfl) _) ?_ | refine Both.mk ?_ ?_ | exact True.intro
    all_goals exact Stop.mk (ih (j + 1, meetW p q s) (g := [(2, 3)]) _ _ _ ⟨by simp only; omega, by simp only; omega, hqe⟩ (by simp only; omega) ⟨rfl, (by repeat' first | exact trivial | refine ⟨rfl, ?_⟩ | refine ⟨congrArg (fun n => AV.lit (.int .i64 n)) (by omega), ?_⟩ | refine ⟨congrArg (fun l => some (Row.row 1 l)) (by simp [int1, num, tru]), ?_⟩), (by repeat' first | exact trivial | refine ⟨rfl, ?_⟩ | refine ⟨congrArg (fun n => AV.lit (.int .i64 n)) (by omega), ?_⟩ | refine ⟨congrArg (fun l => some (Row.row 1 l)) (by simp [int1, num, tru]), ?_⟩)⟩)
  · rw [List.drop_of_length_le (by omega)] at hqe
    repeat' first | refine Len.map ?_ | refine Len.nil ?_ | refine Len.cons ?_ | refine Br.t rfl ?_ | refine Br.f rfl ?_ | refine Fit.au ?_ | refine Cv.au ?_ | refine Need.ne ?_ | refine Need.au ?_ | refine Pick.map (by assumption) ?_ | refine Pick.mapI (by omega) (by assumption) ?_ | refine PickN.mk _ (by assumption) ?_ | refine PickN.mk _ rfl ?_ | refine PickN.au ?_ | refine App.au rfl ?_ | refine App.au (own_map (fun _ => rfl) _) ?_ | refine Both.mk ?_ ?_ | exact True.intro
    rw [← hqe]
    rfl
end Go.Proofs.YtdgibhndjdgllaaDoor

/- The queue, called in line. -/
namespace Go.Proofs.YtdgibhndjdgllaaDoor
open Go.Ax
set_option maxRecDepth 10000
set_option linter.unusedVariables false
set_option maxHeartbeats 0

def oset (s : List W) : List AV := [.osl 1 (s.map u1)]
def nil0 : AV := .lit (.slice none 0 0)
def waitsL (n : Nat) (Q : List Nat) : List (List AV) := (List.range n).map fun i => [tru (decide (i ∈ Q))]
def queI (Q : List Nat) : List Int := Q.map (fun (k : Nat) => (k : Int))
def sndN : Nat → Code → Code
  | 0, c => c
  | n + 1, .seq _ b => sndN n b
  | _ + 1, c => c
noncomputable def rest46 (n : Nat) : Code := sndN n (Tryd.f46.body.getD .skip)
def hpN (p : Prob) (F T : List (List W)) : HP := [(4, .row 1 (T.map oset)), (2, .var [.hw 3, .hw 4]), (3, .row 1 (F.map oset)), (0, .var p.cs), (1, .var [nil0, nil0])]
def tmN (p : Prob) : TM := [(1, .hp 0 0), (2, .hp 1 0), (3, tru false), (4, num p.edges.length), (5, .hp 2 0), (6, lsts (aheadL p)), (7, lsts (behindL p))]
def hpQ (p : Prob) (F T : List (List W)) (Q : List Nat) : HP := [(5, .chn p.edges.length (queI Q)), (7, .row 1 (waitsL p.edges.length Q)), (6, .var [.hc 5, .hw 7])] ++ hpN p F T
def tmQ (p : Prob) : TM := (9, .hp 6 0) :: tmN p
theorem waits_nil (n : Nat) : List.replicate n [tru false] = waitsL n [] := by
  unfold waitsL
  refine List.ext_getElem? fun i => ?_
  rw [List.getElem?_map, List.getElem?_replicate]
  by_cases h : i < n
  · rw [List.getElem?_range h]; simp [h]
  · rw [List.getElem?_eq_none (by simpa using h)]; simp [h]
theorem new_run (p : Prob) (hp : p.OK) (F T : List (List W)) (Qp : AV → Prop) (h : Run Tryd.prog 46 (Post.one Qp) [.code (rest46 7)] ⟨tmQ p, hpQ p F T [], 8, Tryd.f46.ntmps⟩) : Run Tryd.prog 46 (Post.one Qp) [.code (rest46 6)] ⟨tmN p, hpN p F T, 5, Tryd.f46.ntmps⟩ := by
  have hfew := hp.few
  apply join (fun _ : Unit => tmQ p) (fun _ => (6, .var [.hc 5, .osl 1 (List.replicate p.edges.length [tru false])]) :: (5, .chn p.edges.length []) :: hpN p F T) 7 (fun _ => True) (todo' := [.code (rest46 7)])
  · intro jn
    unfold tmQ tmN hpN at jn
    unfold tmN hpN
    refine go 3 Tryd.func46 ?_
    repeat' first | refine Len.map ?_ | refine Len.nil ?_ | refine Len.cons ?_ | refine Br.t rfl ?_ | refine Br.f rfl ?_ | refine Fit.au ?_ | refine Cv.au ?_ | refine Need.ne ?_ | refine Need.au ?_ | refine Pick.map (by assumption) ?_ | refine Pick.mapI (by omega) (by assumption) ?_ | refine PickN.mk _ (by assumption) ?_ | refine PickN.mk _ rfl ?_ | refine PickN.au ?_ | refine App.au rfl ?_ | refine App.au (own_map (fun _ => rfl) _) ?_ | refine Both.mk ?_ ?_ | exact True.intro
    refine Stop.mk ?_
    refine run_inlC rfl want_none rfl rfl rfl rfl rfl rfl rfl (goI 1000 Tryd.func74 ?_)
    repeat' first | refine Draw.mk (.one 0 false (.one 2 false (.alt 1 (ordL [3, 5] [3, 4, 5, 6]) (.alt 3 (ordL [1, 5] [1, 4, 5, 6]) .no)))) (by decide +kernel) ?_ | (refine Br.f ?_ ?_; focus (simp; omega)) | refine MkS.mk p.edges.length rfl rfl (by omega) (by omega) ?_ | refine Need.mk ⟨by omega, by omega⟩ ?_ | refine Len.map ?_ | refine Len.nil ?_ | refine Len.cons ?_ | refine Br.t rfl ?_ | refine Br.f rfl ?_ | refine Fit.au ?_ | refine Cv.au ?_ | refine Need.ne ?_ | refine Need.au ?_ | refine Pick.map (by assumption) ?_ | refine Pick.mapI (by omega) (by assumption) ?_ | refine PickN.mk _ (by assumption) ?_ | refine PickN.mk _ rfl ?_ | refine PickN.au ?_ | refine App.au rfl ?_ | refine App.au (own_map (fun _ => rfl) _) ?_ | refine Both.mk ?_ ?_ | exact True.intro
    all_goals refine go 2 Tryd.func46 ?_
    all_goals refine Stop.mk ?_
    all_goals first | (refine jn () (g := [(6, 7)]) _ _ _ ⟨rfl, ?_, ?_⟩ trivial; all_goals (repeat' first | exact trivial | refine ⟨rfl, ?_⟩); done) | (refine jn () (g := [(5, 6), (6, 7)]) _ _ _ ⟨rfl, ?_, ?_⟩ trivial; all_goals (repeat' first | exact trivial | refine ⟨rfl, ?_⟩); done)
  rintro _ _
  refine run_unfold 6 1 rfl rfl ?_
  rw [waits_nil]
  exact Run.fr (g := []) h ⟨rfl, (by repeat' first | exact trivial | refine ⟨rfl, ?_⟩), (by repeat' first | exact trivial | refine ⟨rfl, ?_⟩)⟩
end Go.Proofs.YtdgibhndjdgllaaDoor

/- One is put into the queue, in line. -/
namespace Go.Proofs.YtdgibhndjdgllaaDoor
open Go.Ax
set_option maxRecDepth 10000
set_option linter.unusedVariables false
set_option maxHeartbeats 0

theorem waits_len (n : Nat) (Q : List Nat) : (waitsL n Q).length = n := by simp [waitsL]
theorem waits_at {n i : Nat} {Q : List Nat} (h : i < n) : (waitsL n Q)[i]? = some [tru (decide (i ∈ Q))] := by
  unfold waitsL
  rw [List.getElem?_map, List.getElem?_range h]; rfl
def hpR (p : Prob) (F T : List (List W)) (Q : List Nat) : HP := [(7, .row 1 (waitsL p.edges.length Q)), (5, .chn p.edges.length (queI Q)), (6, .var [.hc 5, .hw 7])] ++ hpN p F T
theorem waits_set {n i : Nat} {Q : List Nat} : (waitsL n Q).set i [tru true] = waitsL n (Q ++ [i]) := by
  refine List.ext_getElem? fun j => ?_
  rw [List.getElem?_set, waits_len]
  by_cases hj : j < n
  · rw [waits_at hj, waits_at hj]
    by_cases e : i = j
    · subst e; rw [if_pos rfl, if_pos hj]; simp
    · rw [if_neg e]
      have : (j ∈ Q ++ [i]) ↔ j ∈ Q := by simp; omega
      simp only [this]
  · rw [List.getElem?_eq_none (by rw [waits_len]; omega), List.getElem?_eq_none (by rw [waits_len]; omega)]
    by_cases e : i = j
    · rw [if_pos e, if_neg (by omega)]
    · rw [if_neg e]
theorem queI_app (Q : List Nat) (i : Nat) : queI (Q ++ [i]) = queI Q ++ [(i : Int)] := by simp [queI]
theorem put_run (p : Prob) (hp : p.OK) (F T : List (List W)) (Q : List Nat) (i : Nat) (hi : i < p.edges.length) (hQ : i ∉ Q → Q.length < p.edges.length) {K : AV → HP → Nat → Prop}
    (h1 : i ∈ Q → K (tru false) (hpQ p F T Q) 8) (h2 : i ∉ Q → K (tru true) (hpR p F T (Q ++ [i])) 8) : Run Tryd.prog 75 (Post.inl 8 K) [.code (Tryd.f75.body.getD .skip)] ⟨slots 0 [.hp 6 0, num i], hpQ p F T Q, 8, Tryd.f75.ntmps⟩ := by
  have hfew := hp.few
  have hwl := waits_len p.edges.length Q
  have hwa := waits_at (Q := Q) hi
  unfold hpQ hpN
  by_cases hq : i ∈ Q
  · rw [decide_eq_true hq] at hwa
    replace h1 := h1 hq
    refine goI 1000 Tryd.func75 ?_
    repeat' first | (refine Br.f ?_ ?_; focus (first | (simp; done) | (simp [hwl]; done) | (simp; omega))) | refine Need.mk ⟨by omega, by rw [Int.toNat_natCast]; omega⟩ ?_ | refine PickN.mk _ hwa ?_ | refine Len.map ?_ | refine Len.nil ?_ | refine Len.cons ?_ | refine Br.t rfl ?_ | refine Br.f rfl ?_ | refine Fit.au ?_ | refine Cv.au ?_ | refine Need.ne ?_ | refine Need.au ?_ | refine Pick.map (by assumption) ?_ | refine Pick.mapI (by omega) (by assumption) ?_ | refine PickN.mk _ (by assumption) ?_ | refine PickN.mk _ rfl ?_ | refine PickN.au ?_ | refine App.au rfl ?_ | refine App.au (own_map (fun _ => rfl) _) ?_ | refine Both.mk ?_ ?_ | exact True.intro
    exact h1
  · rw [decide_eq_false hq] at hwa
    replace h2 := h2 hq
    have hql : (queI Q).length < p.edges.length := by unfold queI; rw [List.length_map]; exact hQ hq
    refine goI 1000 Tryd.func75 ?_
    repeat' first | (refine Br.f ?_ ?_; focus (first | (simp; done) | (simp [hwl]; done) | (simp; omega))) | refine Need.mk ⟨by omega, by rw [Int.toNat_natCast]; omega⟩ ?_ | refine PickN.mk _ hwa ?_ | refine Len.map ?_ | refine Len.nil ?_ | refine Len.cons ?_ | refine Br.t rfl ?_ | refine Br.f rfl ?_ | refine Fit.au ?_ | refine Cv.au ?_ | refine Need.ne ?_ | refine Need.au ?_ | refine Pick.map (by assumption) ?_ | refine Pick.mapI (by omega) (by assumption) ?_ | refine PickN.mk _ (by assumption) ?_ | refine PickN.mk _ rfl ?_ | refine PickN.au ?_ | refine App.au rfl ?_ | refine App.au (own_map (fun _ => rfl) _) ?_ | refine Both.mk ?_ ?_ | exact True.intro
    refine Stop.mk ?_
    refine run_selSend rfl rfl (TyT.find_ok (HasT.ok (P := Tryd.prog)) (t := 3) rfl) rfl rfl rfl hql ?_
    refine goI 1000 Tryd.func75 ?_
    repeat' first | (refine Br.f ?_ ?_; focus (first | (simp; done) | (simp [hwl]; done) | (simp; omega))) | refine Need.mk ⟨by omega, by rw [Int.toNat_natCast]; omega⟩ ?_ | refine PickN.mk _ hwa ?_ | refine Len.map ?_ | refine Len.nil ?_ | refine Len.cons ?_ | refine Br.t rfl ?_ | refine Br.f rfl ?_ | refine Fit.au ?_ | refine Cv.au ?_ | refine Need.ne ?_ | refine Need.au ?_ | refine Pick.map (by assumption) ?_ | refine Pick.mapI (by omega) (by assumption) ?_ | refine PickN.mk _ (by assumption) ?_ | refine PickN.mk _ rfl ?_ | refine PickN.au ?_ | refine App.au rfl ?_ | refine App.au (own_map (fun _ => rfl) _) ?_ | refine Both.mk ?_ ?_ | exact True.intro
    unfold hpR hpN at h2
    rw [← waits_set, queI_app] at h2
    exact h2
end Go.Proofs.YtdgibhndjdgllaaDoor

/- One is taken out of the queue, in line. -/
namespace Go.Proofs.YtdgibhndjdgllaaDoor
open Go.Ax
set_option maxRecDepth 10000
set_option linter.unusedVariables false
set_option maxHeartbeats 0

theorem take_none (p : Prob) (hp : p.OK) (F T : List (List W)) {K : AV → HP → Nat → Prop}
    (h : K (.tup [num 0, tru false]) (hpQ p F T []) 8) : Run Tryd.prog 76 (Post.inl 8 K) [.code (Tryd.f76.body.getD .skip)] ⟨slots 0 [.hp 6 0], hpQ p F T [], 8, Tryd.f76.ntmps⟩ := by
  have hfew := hp.few
  unfold hpQ hpN
  refine goI 9 Tryd.func76 ?_
  repeat' first | refine Len.map ?_ | refine Len.nil ?_ | refine Len.cons ?_ | refine Br.t rfl ?_ | refine Br.f rfl ?_ | refine Fit.au ?_ | refine Cv.au ?_ | refine Need.ne ?_ | refine Need.au ?_ | refine Pick.map (by assumption) ?_ | refine Pick.mapI (by omega) (by assumption) ?_ | refine PickN.mk _ (by assumption) ?_ | refine PickN.mk _ rfl ?_ | refine PickN.au ?_ | refine App.au rfl ?_ | refine App.au (own_map (fun _ => rfl) _) ?_ | refine Both.mk ?_ ?_ | exact True.intro
  refine Stop.mk ?_
  refine run_inlC rfl want_none rfl rfl rfl rfl rfl rfl rfl (goI 1000 Tryd.func105 ?_)
  repeat' first | refine Stop.mk (run_loop (goI 1000 Tryd.func105 ?_)) | refine Len.map ?_ | refine Len.nil ?_ | refine Len.cons ?_ | refine Br.t rfl ?_ | refine Br.f rfl ?_ | refine Fit.au ?_ | refine Cv.au ?_ | refine Need.ne ?_ | refine Need.au ?_ | refine Pick.map (by assumption) ?_ | refine Pick.mapI (by omega) (by assumption) ?_ | refine PickN.mk _ (by assumption) ?_ | refine PickN.mk _ rfl ?_ | refine PickN.au ?_ | refine App.au rfl ?_ | refine App.au (own_map (fun _ => rfl) _) ?_ | refine Both.mk ?_ ?_ | exact True.intro
  refine Stop.mk ?_
  refine run_selNone (v := 0) rfl rfl (TyT.find_ok (HasT.ok (P := Tryd.prog)) (t := 3) rfl) rfl rfl rfl rfl ?_
  refine goI 1000 Tryd.func105 ?_
  repeat' first | refine Len.map ?_ | refine Len.nil ?_ | refine Len.cons ?_ | refine Br.t rfl ?_ | refine Br.f rfl ?_ | refine Fit.au ?_ | refine Cv.au ?_ | refine Need.ne ?_ | refine Need.au ?_ | refine Pick.map (by assumption) ?_ | refine Pick.mapI (by omega) (by assumption) ?_ | refine PickN.mk _ (by assumption) ?_ | refine PickN.mk _ rfl ?_ | refine PickN.au ?_ | refine App.au rfl ?_ | refine App.au (own_map (fun _ => rfl) _) ?_ | refine Both.mk ?_ ?_ | exact True.intro
  refine goI 1000 Tryd.func76 ?_
  repeat' first | refine Len.map ?_ | refine Len.nil ?_ | refine Len.cons ?_ | refine Br.t rfl ?_ | refine Br.f rfl ?_ | refine Fit.au ?_ | refine Cv.au ?_ | refine Need.ne ?_ | refine Need.au ?_ | refine Pick.map (by assumption) ?_ | refine Pick.mapI (by omega) (by assumption) ?_ | refine PickN.mk _ (by assumption) ?_ | refine PickN.mk _ rfl ?_ | refine PickN.au ?_ | refine App.au rfl ?_ | refine App.au (own_map (fun _ => rfl) _) ?_ | refine Both.mk ?_ ?_ | exact True.intro
  exact h
theorem waits_drop {n x : Nat} {Q : List Nat} (h : x ∉ Q) : (waitsL n (x :: Q)).set x [tru false] = waitsL n Q := by
  refine List.ext_getElem? fun j => ?_
  rw [List.getElem?_set, waits_len]
  by_cases hj : j < n
  · rw [waits_at hj, waits_at hj]
    by_cases e : x = j
    · subst e; rw [if_pos rfl, if_pos hj, decide_eq_false h]
    · rw [if_neg e]
      have : (j ∈ x :: Q) ↔ j ∈ Q := by simp; omega
      simp only [this]
  · rw [List.getElem?_eq_none (by rw [waits_len]; omega), List.getElem?_eq_none (by rw [waits_len]; omega)]
    by_cases e : x = j
    · rw [if_pos e, if_neg (by omega)]
    · rw [if_neg e]
theorem take_some (p : Prob) (hp : p.OK) (F T : List (List W)) (x : Nat) (Q : List Nat) (hx : x < p.edges.length) (hQ : x ∉ Q) {K : AV → HP → Nat → Prop}
    (h : K (.tup [num x, tru true]) ((10, .row 1 [[num x]]) :: hpR p F T Q) 11) : Run Tryd.prog 76 (Post.inl 8 K) [.code (Tryd.f76.body.getD .skip)] ⟨slots 0 [.hp 6 0], hpQ p F T (x :: Q), 8, Tryd.f76.ntmps⟩ := by
  have hfew := hp.few
  have hwl := waits_len p.edges.length (x :: Q)
  have hwa := waits_at (Q := x :: Q) hx
  unfold hpQ hpN
  refine goI 9 Tryd.func76 ?_
  repeat' first | refine Len.map ?_ | refine Len.nil ?_ | refine Len.cons ?_ | refine Br.t rfl ?_ | refine Br.f rfl ?_ | refine Fit.au ?_ | refine Cv.au ?_ | refine Need.ne ?_ | refine Need.au ?_ | refine Pick.map (by assumption) ?_ | refine Pick.mapI (by omega) (by assumption) ?_ | refine PickN.mk _ (by assumption) ?_ | refine PickN.mk _ rfl ?_ | refine PickN.au ?_ | refine App.au rfl ?_ | refine App.au (own_map (fun _ => rfl) _) ?_ | refine Both.mk ?_ ?_ | exact True.intro
  refine Stop.mk ?_
  refine run_inlC rfl want_none rfl rfl rfl rfl rfl rfl rfl (goI 1000 Tryd.func105 ?_)
  repeat' first | refine Len.map ?_ | refine Len.nil ?_ | refine Len.cons ?_ | refine Br.t rfl ?_ | refine Br.f rfl ?_ | refine Fit.au ?_ | refine Cv.au ?_ | refine Need.ne ?_ | refine Need.au ?_ | refine Pick.map (by assumption) ?_ | refine Pick.mapI (by omega) (by assumption) ?_ | refine PickN.mk _ (by assumption) ?_ | refine PickN.mk _ rfl ?_ | refine PickN.au ?_ | refine App.au rfl ?_ | refine App.au (own_map (fun _ => rfl) _) ?_ | refine Both.mk ?_ ?_ | exact True.intro
  refine Stop.mk (run_nilT 5 1 rfl ?_)
  refine run_loop (goI 1000 Tryd.func105 ?_)
  repeat' first | refine Len.map ?_ | refine Len.nil ?_ | refine Len.cons ?_ | refine Br.t rfl ?_ | refine Br.f rfl ?_ | refine Fit.au ?_ | refine Cv.au ?_ | refine Need.ne ?_ | refine Need.au ?_ | refine Pick.map (by assumption) ?_ | refine Pick.mapI (by omega) (by assumption) ?_ | refine PickN.mk _ (by assumption) ?_ | refine PickN.mk _ rfl ?_ | refine PickN.au ?_ | refine App.au rfl ?_ | refine App.au (own_map (fun _ => rfl) _) ?_ | refine Both.mk ?_ ?_ | exact True.intro
  refine Stop.mk ?_
  refine run_selRecv (x := x) (xs := queI Q) rfl rfl (TyT.find_ok (HasT.ok (P := Tryd.prog)) (t := 3) rfl) rfl rfl ?_
  refine goI 1000 Tryd.func105 ?_
  repeat' first | (refine Need.mk ⟨by omega, by rw [Int.toNat_natCast]; omega⟩ ?_) | refine PickN.mk _ hwa ?_ | refine Len.map ?_ | refine Len.nil ?_ | refine Len.cons ?_ | refine Br.t rfl ?_ | refine Br.f rfl ?_ | refine Fit.au ?_ | refine Cv.au ?_ | refine Need.ne ?_ | refine Need.au ?_ | refine Pick.map (by assumption) ?_ | refine Pick.mapI (by omega) (by assumption) ?_ | refine PickN.mk _ (by assumption) ?_ | refine PickN.mk _ rfl ?_ | refine PickN.au ?_ | refine App.au rfl ?_ | refine App.au (own_map (fun _ => rfl) _) ?_ | refine Both.mk ?_ ?_ | exact True.intro
  refine Stop.mk (run_inLoop (goI 1000 Tryd.func105 ?_))
  repeat' first | refine Len.map ?_ | refine Len.nil ?_ | refine Len.cons ?_ | refine Br.t rfl ?_ | refine Br.f rfl ?_ | refine Fit.au ?_ | refine Cv.au ?_ | refine Need.ne ?_ | refine Need.au ?_ | refine Pick.map (by assumption) ?_ | refine Pick.mapI (by omega) (by assumption) ?_ | refine PickN.mk _ (by assumption) ?_ | refine PickN.mk _ rfl ?_ | refine PickN.au ?_ | refine App.au rfl ?_ | refine App.au (own_map (fun _ => rfl) _) ?_ | refine Both.mk ?_ ?_ | exact True.intro
  refine goI 1000 Tryd.func76 ?_
  repeat' first | refine Len.map ?_ | refine Len.nil ?_ | refine Len.cons ?_ | refine Br.t rfl ?_ | refine Br.f rfl ?_ | refine Fit.au ?_ | refine Cv.au ?_ | refine Need.ne ?_ | refine Need.au ?_ | refine Pick.map (by assumption) ?_ | refine Pick.mapI (by omega) (by assumption) ?_ | refine PickN.mk _ (by assumption) ?_ | refine PickN.mk _ rfl ?_ | refine PickN.au ?_ | refine App.au rfl ?_ | refine App.au (own_map (fun _ => rfl) _) ?_ | refine Both.mk ?_ ?_ | exact True.intro
  unfold hpR hpN at h
  rw [← waits_drop hQ] at h
  exact h
end Go.Proofs.YtdgibhndjdgllaaDoor
