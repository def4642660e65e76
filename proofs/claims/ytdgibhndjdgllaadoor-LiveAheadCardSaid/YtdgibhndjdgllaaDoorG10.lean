/- What instructions do with a register (the document's). -/
import Derived.Test.YtdgibhndjdgllaaDoorG07
import Derived.Test.YtdgibhndjdgllaaDoorG09
import Derived.Test.YtdgibhndjdgllaaDoorG08
import Derived.Test.YtdgibhndjdgllaaDoorG04
import Derived.Test.YtdgibhndjdgllaaDoorG06
import Derived.Test.YtdgibhndjdgllaaDoorG03
import Derived.Test.YtdgibhndjdgllaaDoorDTy2
set_option linter.unusedVariables false
set_option linter.unusedSimpArgs false

namespace Go.Proofs.YtdgibhndjdgllaaDoor
open Go.Ax
set_option maxRecDepth 10000
set_option linter.unusedVariables false
set_option maxHeartbeats 0

theorem look31_spec (b : List Ins) (a : Nat) (r : Int) (hb : b.length ≤ 1000000) (ha : a ≤ 1000000000) (hi : ∀ i ∈ b, i.args.length ≤ 1000000) : FnSpec Tryd.prog 31 [.sl false 9 (b.map Ins.cs), num a, num r] (fun v => v = num (lookL (b.drop a) r)) := by
  refine spec_of 1000 Tryd.func31 rfl rfl ?_
  repeat' first | refine Len.map ?_ | refine Len.nil ?_ | refine Len.cons ?_ | refine Br.t rfl ?_ | refine Br.f rfl ?_ | refine Fit.au ?_ | refine Cv.au ?_ | refine Need.ne ?_ | refine Need.au ?_ | refine Pick.map (by assumption) ?_ | refine Pick.mapI (by omega) (by assumption) ?_ | refine PickN.mk _ (by assumption) ?_ | refine PickN.mk _ rfl ?_ | refine PickN.au ?_ | refine App.au rfl ?_ | refine App.au (own_map (fun _ => rfl) _) ?_ | refine Both.mk ?_ ?_ | exact True.intro
  refine Stop.mk (loop_in (g := []) (fun k : Nat => [(0, .sl false 9 (b.map Ins.cs)), (2, num r), (7, num k)]) (fun k => []) 0 (fun k => k ≤ 1000000000 ∧ lookL (b.drop k) r = lookL (b.drop a) r) (fun k => b.length - k) a ⟨ha, rfl⟩ ⟨rfl, (by repeat' first | exact trivial | refine ⟨rfl, ?_⟩ | refine ⟨congrArg (fun n => AV.lit (.int .i64 n)) (by omega), ?_⟩ | refine ⟨congrArg (fun l => some (Row.row 1 l)) (by simp [int1, num, tru]), ?_⟩), (by repeat' first | exact trivial | refine ⟨rfl, ?_⟩ | refine ⟨congrArg (fun n => AV.lit (.int .i64 n)) (by omega), ?_⟩ | refine ⟨congrArg (fun l => some (Row.row 1 l)) (by simp [int1, num, tru]), ?_⟩)⟩ (fun k hk ih => ?_))
  obtain ⟨hk1, hk2⟩ := hk
  by_cases h2 : k < b.length
  · obtain ⟨i, gi, him⟩ := getK (l := b) (k := k) h2
    have hargs := hi i him
    have hU := Uses_spec i hargs
    have hul := usesF_len i
    have hH := HasInt_spec (usesF i) r (by omega)
    have hD := Def15_spec i (by unfold Ins.fits; omega)
    rw [← def_eq] at hD
    have hst : lookL (b.drop k) r = if r ∈ usesF i then 1 else if defF i = r then 2 else lookL (b.drop (k + 1)) r := by
      obtain ⟨hkk, rfl⟩ := List.getElem?_eq_some_iff.1 gi
      rw [List.drop_eq_getElem_cons hkk]; rfl
    refine go 1000 Tryd.func31 ?_
    repeat' first | (refine Br.t ?_ ?_; focus (simp; omega)) | refine Pick.map gi ?_ | refine Call.eq hU rfl ?_ | refine Look.yes ?_ | refine View.map (fun _ => rfl) ?_ | refine CallV.eq hH rfl (Free.lit _) ?_ | refine Len.map ?_ | refine Len.nil ?_ | refine Len.cons ?_ | refine Br.t rfl ?_ | refine Br.f rfl ?_ | refine Fit.au ?_ | refine Cv.au ?_ | refine Need.ne ?_ | refine Need.au ?_ | refine Pick.map (by assumption) ?_ | refine Pick.mapI (by omega) (by assumption) ?_ | refine PickN.mk _ (by assumption) ?_ | refine PickN.mk _ rfl ?_ | refine PickN.au ?_ | refine App.au rfl ?_ | refine App.au (own_map (fun _ => rfl) _) ?_ | refine Both.mk ?_ ?_ | exact True.intro
    refine Br.d (fun h3 => ?_) (fun h3 => ?_)
    · repeat' first | refine Len.map ?_ | refine Len.nil ?_ | refine Len.cons ?_ | refine Br.t rfl ?_ | refine Br.f rfl ?_ | refine Fit.au ?_ | refine Cv.au ?_ | refine Need.ne ?_ | refine Need.au ?_ | refine Pick.map (by assumption) ?_ | refine Pick.mapI (by omega) (by assumption) ?_ | refine PickN.mk _ (by assumption) ?_ | refine PickN.mk _ rfl ?_ | refine PickN.au ?_ | refine App.au rfl ?_ | refine App.au (own_map (fun _ => rfl) _) ?_ | refine Both.mk ?_ ?_ | exact True.intro
      rw [← hk2, hst, if_pos h3]; rfl
    · repeat' first | refine Pick.map gi ?_ | refine Call.eq hD rfl ?_ | refine Len.map ?_ | refine Len.nil ?_ | refine Len.cons ?_ | refine Br.t rfl ?_ | refine Br.f rfl ?_ | refine Fit.au ?_ | refine Cv.au ?_ | refine Need.ne ?_ | refine Need.au ?_ | refine Pick.map (by assumption) ?_ | refine Pick.mapI (by omega) (by assumption) ?_ | refine PickN.mk _ (by assumption) ?_ | refine PickN.mk _ rfl ?_ | refine PickN.au ?_ | refine App.au rfl ?_ | refine App.au (own_map (fun _ => rfl) _) ?_ | refine Both.mk ?_ ?_ | exact True.intro
      refine Br.d (fun h4 => ?_) (fun h4 => ?_)
      · repeat' first | refine Len.map ?_ | refine Len.nil ?_ | refine Len.cons ?_ | refine Br.t rfl ?_ | refine Br.f rfl ?_ | refine Fit.au ?_ | refine Cv.au ?_ | refine Need.ne ?_ | refine Need.au ?_ | refine Pick.map (by assumption) ?_ | refine Pick.mapI (by omega) (by assumption) ?_ | refine PickN.mk _ (by assumption) ?_ | refine PickN.mk _ rfl ?_ | refine PickN.au ?_ | refine App.au rfl ?_ | refine App.au (own_map (fun _ => rfl) _) ?_ | refine Both.mk ?_ ?_ | exact True.intro
        rw [← hk2, hst, if_neg h3, if_pos h4]; rfl
      · rw [if_neg h3, if_neg h4] at hst
        repeat' first | refine Len.map ?_ | refine Len.nil ?_ | refine Len.cons ?_ | refine Br.t rfl ?_ | refine Br.f rfl ?_ | refine Fit.au ?_ | refine Cv.au ?_ | refine Need.ne ?_ | refine Need.au ?_ | refine Pick.map (by assumption) ?_ | refine Pick.mapI (by omega) (by assumption) ?_ | refine PickN.mk _ (by assumption) ?_ | refine PickN.mk _ rfl ?_ | refine PickN.au ?_ | refine App.au rfl ?_ | refine App.au (own_map (fun _ => rfl) _) ?_ | refine Both.mk ?_ ?_ | exact True.intro
        exact Stop.mk (ih (k + 1) (g := []) _ _ _ ⟨by omega, hst ▸ hk2⟩ (by omega) ⟨rfl, (by repeat' first | exact trivial | refine ⟨rfl, ?_⟩ | refine ⟨congrArg (fun n => AV.lit (.int .i64 n)) (by omega), ?_⟩ | refine ⟨congrArg (fun l => some (Row.row 1 l)) (by simp [int1, num, tru]), ?_⟩), (by repeat' first | exact trivial | refine ⟨rfl, ?_⟩ | refine ⟨congrArg (fun n => AV.lit (.int .i64 n)) (by omega), ?_⟩ | refine ⟨congrArg (fun l => some (Row.row 1 l)) (by simp [int1, num, tru]), ?_⟩)⟩)
  · refine go 1000 Tryd.func31 ?_
    repeat' first | (refine Br.f ?_ ?_; focus (simp; omega)) | refine Len.map ?_ | refine Len.nil ?_ | refine Len.cons ?_ | refine Br.t rfl ?_ | refine Br.f rfl ?_ | refine Fit.au ?_ | refine Cv.au ?_ | refine Need.ne ?_ | refine Need.au ?_ | refine Pick.map (by assumption) ?_ | refine Pick.mapI (by omega) (by assumption) ?_ | refine PickN.mk _ (by assumption) ?_ | refine PickN.mk _ rfl ?_ | refine PickN.au ?_ | refine App.au rfl ?_ | refine App.au (own_map (fun _ => rfl) _) ?_ | refine Both.mk ?_ ?_ | exact True.intro
    rw [← hk2, List.drop_of_length_le (by omega)]
    rfl
end Go.Proofs.YtdgibhndjdgllaaDoor

/- Blocks and where they go, by contracts. -/
namespace Go.Proofs.YtdgibhndjdgllaaDoor
open Go.Ax
set_option maxRecDepth 10000
set_option linter.unusedVariables false

theorem Succs_spec (f : Fun) (hf : f.fits) (hn : f.blocks.length ≤ 1000000) : FnSpec Tryd.prog 32 [funA f] (fun r => r = .osl 1 ((succsF f).map olst)) := by
  refine spec_of 1000 Tryd.func32 rfl rfl ?_
  repeat' first | refine Len.map ?_ | refine Len.nil ?_ | refine Len.cons ?_ | refine Br.t rfl ?_ | refine Br.f rfl ?_ | refine Fit.au ?_ | refine Cv.au ?_ | refine Need.ne ?_ | refine Need.au ?_ | refine Pick.map (by assumption) ?_ | refine Pick.mapI (by omega) (by assumption) ?_ | refine PickN.mk _ (by assumption) ?_ | refine PickN.mk _ rfl ?_ | refine PickN.au ?_ | refine App.au rfl ?_ | refine App.au (own_map (fun _ => rfl) _) ?_ | refine Both.mk ?_ ?_ | exact True.intro
  refine Stop.mk (loop_in (fun k : Nat => [(1, .hp 0 0), (3, .hw 1), (4, num k)]) (fun k => [(0, .var f.cs), (1, .row 1 (((succsF f).take k).map olst))]) 2 (fun k => k ≤ f.blocks.length) (fun k => f.blocks.length - k) 0 (by omega) (g := []) ⟨rfl, (by repeat' first | exact trivial | refine ⟨rfl, ?_⟩ | refine ⟨congrArg (fun n => AV.lit (.int .i64 n)) (by omega), ?_⟩ | refine ⟨congrArg (fun l => some (Row.row 1 l)) (by simp [int1, num, tru]), ?_⟩), (by repeat' first | exact trivial | refine ⟨rfl, ?_⟩ | refine ⟨congrArg (fun n => AV.lit (.int .i64 n)) (by omega), ?_⟩ | refine ⟨congrArg (fun l => some (Row.row 1 l)) (by simp [int1, num, tru]), ?_⟩)⟩ (fun k hk ih => ?_))
  refine go 1000 Tryd.func32 ?_
  repeat' first | refine Len.map ?_ | refine Len.nil ?_ | refine Len.cons ?_ | refine Br.t rfl ?_ | refine Br.f rfl ?_ | refine Fit.au ?_ | refine Cv.au ?_ | refine Need.ne ?_ | refine Need.au ?_ | refine Pick.map (by assumption) ?_ | refine Pick.mapI (by omega) (by assumption) ?_ | refine PickN.mk _ (by assumption) ?_ | refine PickN.mk _ rfl ?_ | refine PickN.au ?_ | refine App.au rfl ?_ | refine App.au (own_map (fun _ => rfl) _) ?_ | refine Both.mk ?_ ?_ | exact True.intro
  refine Br.d (fun h2 => ?_) (fun h2 => ?_)
  · obtain ⟨b, gb, gm⟩ := getK (l := f.blocks) (k := k) (by omega)
    obtain ⟨hb1, hb2⟩ := hf.2.2 b gm
    have gs : (succsF f)[k]? = some (succ1 f.blocks.length b) := by simp [succsF, gb]
    have et := take_succ gs
    have hlen := succsF_len f
    have htk : ((succsF f).take k).length = k := by rw [List.length_take]; omega
    repeat' first | refine Len.map ?_ | refine Len.nil ?_ | refine Len.cons ?_ | refine Br.t rfl ?_ | refine Br.f rfl ?_ | refine Fit.au ?_ | refine Cv.au ?_ | refine Need.ne ?_ | refine Need.au ?_ | refine Pick.map (by assumption) ?_ | refine Pick.mapI (by omega) (by assumption) ?_ | refine PickN.mk _ (by assumption) ?_ | refine PickN.mk _ rfl ?_ | refine PickN.au ?_ | refine App.au rfl ?_ | refine App.au (own_map (fun _ => rfl) _) ?_ | refine Both.mk ?_ ?_ | exact True.intro
    refine Br.d (fun h3 => ?_) (fun h3 => ?_)
    · obtain ⟨i, gi, gim⟩ := getK (l := b) (k := b.length - 1) (by omega)
      have gi' : b[((b.length : Int) - 1).toNat]? = some i := by rw [show ((b.length : Int) - 1).toNat = b.length - 1 by omega]; exact gi
      have e1 : succ1 f.blocks.length b = below f.blocks.length (targetsF i) := by unfold succ1; rw [gi]
      have hl := targetsF_len i
      repeat' first | refine Call.eq (Targets_spec i (hb2 i gim)) rfl ?_ | refine Len.map ?_ | refine Len.nil ?_ | refine Len.cons ?_ | refine Br.t rfl ?_ | refine Br.f rfl ?_ | refine Fit.au ?_ | refine Cv.au ?_ | refine Need.ne ?_ | refine Need.au ?_ | refine Pick.map (by assumption) ?_ | refine Pick.mapI (by omega) (by assumption) ?_ | refine PickN.mk _ (by assumption) ?_ | refine PickN.mk _ rfl ?_ | refine PickN.au ?_ | refine App.au rfl ?_ | refine App.au (own_map (fun _ => rfl) _) ?_ | refine Both.mk ?_ ?_ | exact True.intro
      refine Stop.mk (loop_in (fun j : Nat => [(1, .hp 0 0), (3, .hw 1), (4, num k), (6, .hw 2), (7, .hw 3), (8, num j)]) (fun j => [(0, .var f.cs), (1, .row 1 (((succsF f).take k).map olst)), (2, .row 1 ((below f.blocks.length ((targetsF i).take j)).map int1)), (3, .row 1 ((targetsF i).map int1))]) 4 (fun j => j ≤ (targetsF i).length) (fun j => (targetsF i).length - j) 0 (by omega) (g := []) ⟨rfl, (by repeat' first | exact trivial | refine ⟨rfl, ?_⟩ | refine ⟨congrArg (fun n => AV.lit (.int .i64 n)) (by omega), ?_⟩ | refine ⟨congrArg (fun l => some (Row.row 1 l)) (by simp [int1, num, tru]), ?_⟩), (by repeat' first | exact trivial | refine ⟨rfl, ?_⟩ | refine ⟨congrArg (fun n => AV.lit (.int .i64 n)) (by omega), ?_⟩ | refine ⟨congrArg (fun l => some (Row.row 1 l)) (by simp [int1, num, tru]), ?_⟩)⟩ (fun j hj ih2 => ?_))
      refine go 1000 Tryd.func32 ?_
      repeat' first | refine Len.map ?_ | refine Len.nil ?_ | refine Len.cons ?_ | refine Br.t rfl ?_ | refine Br.f rfl ?_ | refine Fit.au ?_ | refine Cv.au ?_ | refine Need.ne ?_ | refine Need.au ?_ | refine Pick.map (by assumption) ?_ | refine Pick.mapI (by omega) (by assumption) ?_ | refine PickN.mk _ (by assumption) ?_ | refine PickN.mk _ rfl ?_ | refine PickN.au ?_ | refine App.au rfl ?_ | refine App.au (own_map (fun _ => rfl) _) ?_ | refine Both.mk ?_ ?_ | exact True.intro
      refine Br.d (fun h4 => ?_) (fun h4 => ?_)
      · obtain ⟨t, gt, gtm⟩ := getK (l := targetsF i) (k := j) (by omega)
        have hfl : (below f.blocks.length ((targetsF i).take j)).length ≤ 2 := by
          have := List.length_filter_le (fun t : Int => decide (t < (f.blocks.length : Int))) ((targetsF i).take j)
          unfold below; rw [List.length_take] at this; omega
        repeat' first | refine Draw.mk (ordL [] [0, 1, 2, 3, 4, 5, 6, 7]) (by decide +kernel) ?_ | refine Len.map ?_ | refine Len.nil ?_ | refine Len.cons ?_ | refine Br.t rfl ?_ | refine Br.f rfl ?_ | refine Fit.au ?_ | refine Cv.au ?_ | refine Need.ne ?_ | refine Need.au ?_ | refine Pick.map (by assumption) ?_ | refine Pick.mapI (by omega) (by assumption) ?_ | refine PickN.mk _ (by assumption) ?_ | refine PickN.mk _ rfl ?_ | refine PickN.au ?_ | refine App.au rfl ?_ | refine App.au (own_map (fun _ => rfl) _) ?_ | refine Both.mk ?_ ?_ | exact True.intro
        refine Br.d (fun h5 => ?_) (fun h5 => ?_)
        · repeat' first | refine Draw.mk (ordL [] [0, 1, 2, 3, 4, 5, 6, 7]) (by decide +kernel) ?_ | refine Len.map ?_ | refine Len.nil ?_ | refine Len.cons ?_ | refine Br.t rfl ?_ | refine Br.f rfl ?_ | refine Fit.au ?_ | refine Cv.au ?_ | refine Need.ne ?_ | refine Need.au ?_ | refine Pick.map (by assumption) ?_ | refine Pick.mapI (by omega) (by assumption) ?_ | refine PickN.mk _ (by assumption) ?_ | refine PickN.mk _ rfl ?_ | refine PickN.au ?_ | refine App.au rfl ?_ | refine App.au (own_map (fun _ => rfl) _) ?_ | refine Both.mk ?_ ?_ | exact True.intro
          have e2 : below f.blocks.length ((targetsF i).take (j + 1)) = below f.blocks.length ((targetsF i).take j) ++ [t] := by
            unfold below; rw [take_succ gt, List.filter_append]; simp [h5]
          refine Stop.mk (ih2 (j + 1) (g := [(2, 5)]) _ _ _ (by omega) (by omega) ?_)
          rw [e2, List.map_append]
          exact ⟨rfl, (by repeat' first | exact trivial | refine ⟨rfl, ?_⟩ | refine ⟨congrArg (fun n => AV.lit (.int .i64 n)) (by omega), ?_⟩ | refine ⟨congrArg (fun l => some (Row.row 1 l)) (by simp [int1, num, tru]), ?_⟩), (by repeat' first | exact trivial | refine ⟨rfl, ?_⟩ | refine ⟨congrArg (fun n => AV.lit (.int .i64 n)) (by omega), ?_⟩ | refine ⟨congrArg (fun l => some (Row.row 1 l)) (by simp [int1, num, tru]), ?_⟩)⟩
        · repeat' first | refine Draw.mk (ordL [] [0, 1, 2, 3, 4, 5, 6, 7]) (by decide +kernel) ?_ | refine Len.map ?_ | refine Len.nil ?_ | refine Len.cons ?_ | refine Br.t rfl ?_ | refine Br.f rfl ?_ | refine Fit.au ?_ | refine Cv.au ?_ | refine Need.ne ?_ | refine Need.au ?_ | refine Pick.map (by assumption) ?_ | refine Pick.mapI (by omega) (by assumption) ?_ | refine PickN.mk _ (by assumption) ?_ | refine PickN.mk _ rfl ?_ | refine PickN.au ?_ | refine App.au rfl ?_ | refine App.au (own_map (fun _ => rfl) _) ?_ | refine Both.mk ?_ ?_ | exact True.intro
          have e2 : below f.blocks.length ((targetsF i).take (j + 1)) = below f.blocks.length ((targetsF i).take j) := by
            unfold below; rw [take_succ gt, List.filter_append]; simp [h5]
          refine Stop.mk (ih2 (j + 1) (g := []) _ _ _ (by omega) (by omega) ?_)
          rw [e2]
          exact ⟨rfl, (by repeat' first | exact trivial | refine ⟨rfl, ?_⟩ | refine ⟨congrArg (fun n => AV.lit (.int .i64 n)) (by omega), ?_⟩ | refine ⟨congrArg (fun l => some (Row.row 1 l)) (by simp [int1, num, tru]), ?_⟩), (by repeat' first | exact trivial | refine ⟨rfl, ?_⟩ | refine ⟨congrArg (fun n => AV.lit (.int .i64 n)) (by omega), ?_⟩ | refine ⟨congrArg (fun l => some (Row.row 1 l)) (by simp [int1, num, tru]), ?_⟩)⟩
      · rw [take_all (l := targetsF i) (by omega)]
        repeat' first | refine Len.map ?_ | refine Len.nil ?_ | refine Len.cons ?_ | refine Br.t rfl ?_ | refine Br.f rfl ?_ | refine Fit.au ?_ | refine Cv.au ?_ | refine Need.ne ?_ | refine Need.au ?_ | refine Pick.map (by assumption) ?_ | refine Pick.mapI (by omega) (by assumption) ?_ | refine PickN.mk _ (by assumption) ?_ | refine PickN.mk _ rfl ?_ | refine PickN.au ?_ | refine App.au rfl ?_ | refine App.au (own_map (fun _ => rfl) _) ?_ | refine Both.mk ?_ ?_ | exact True.intro
        refine Stop.mk (ih (k + 1) (g := [(1, 5)]) _ _ _ (by omega) (by omega) ?_)
        rw [et, e1, List.map_append]
        exact ⟨rfl, (by repeat' first | exact trivial | refine ⟨rfl, ?_⟩ | refine ⟨congrArg (fun n => AV.lit (.int .i64 n)) (by omega), ?_⟩ | refine ⟨congrArg (fun l => some (Row.row 1 l)) (by simp [int1, num, tru]), ?_⟩), (by repeat' first | exact trivial | refine ⟨rfl, ?_⟩ | refine ⟨congrArg (fun n => AV.lit (.int .i64 n)) (by omega), ?_⟩ | refine ⟨congrArg (fun l => some (Row.row 1 l)) (by simp [int1, num, tru]), ?_⟩)⟩
    · repeat' first | refine Len.map ?_ | refine Len.nil ?_ | refine Len.cons ?_ | refine Br.t rfl ?_ | refine Br.f rfl ?_ | refine Fit.au ?_ | refine Cv.au ?_ | refine Need.ne ?_ | refine Need.au ?_ | refine Pick.map (by assumption) ?_ | refine Pick.mapI (by omega) (by assumption) ?_ | refine PickN.mk _ (by assumption) ?_ | refine PickN.mk _ rfl ?_ | refine PickN.au ?_ | refine App.au rfl ?_ | refine App.au (own_map (fun _ => rfl) _) ?_ | refine Both.mk ?_ ?_ | exact True.intro
      have e1 : succ1 f.blocks.length b = [] := by unfold succ1; rw [List.getElem?_eq_none (by omega)]
      refine Stop.mk (ih (k + 1) (g := [(1, 4)]) _ _ _ (by omega) (by omega) ?_)
      rw [et, e1, List.map_append]
      exact ⟨rfl, (by repeat' first | exact trivial | refine ⟨rfl, ?_⟩ | refine ⟨congrArg (fun n => AV.lit (.int .i64 n)) (by omega), ?_⟩ | refine ⟨congrArg (fun l => some (Row.row 1 l)) (by simp [int1, num, tru]), ?_⟩), (by repeat' first | exact trivial | refine ⟨rfl, ?_⟩ | refine ⟨congrArg (fun n => AV.lit (.int .i64 n)) (by omega), ?_⟩ | refine ⟨congrArg (fun l => some (Row.row 1 l)) (by simp [int1, num, tru]), ?_⟩)⟩
  · repeat' first | refine Len.map ?_ | refine Len.nil ?_ | refine Len.cons ?_ | refine Br.t rfl ?_ | refine Br.f rfl ?_ | refine Fit.au ?_ | refine Cv.au ?_ | refine Need.ne ?_ | refine Need.au ?_ | refine Pick.map (by assumption) ?_ | refine Pick.mapI (by omega) (by assumption) ?_ | refine PickN.mk _ (by assumption) ?_ | refine PickN.mk _ rfl ?_ | refine PickN.au ?_ | refine App.au rfl ?_ | refine App.au (own_map (fun _ => rfl) _) ?_ | refine Both.mk ?_ ?_ | exact True.intro
    rw [List.take_of_length_le (by rw [succsF_len]; omega)]
    rfl

end Go.Proofs.YtdgibhndjdgllaaDoor

/- What an instruction reads and goes to, as the program says it, by contracts; copies of lists. -/
namespace Go.Proofs.YtdgibhndjdgllaaDoor
open Go.Ax
set_option maxRecDepth 10000
set_option linter.unusedVariables false

/-- The parts of the first loop over a function. -/
def findRange : Code → Option (Array Nat × Code × Code)
  | .rangeFunc _ ps a b => some (ps, a, b)
  | .seq a b => (findRange a).or (findRange b)
  | .block _ c => findRange c
  | _ => none
def rangeOf (f : Func) : Array Nat × Code × Code := (f.body.bind findRange).getD (#[], .skip, .skip)

theorem Ends123_spec (op : Int) : FnSpec Tryd.prog 99 [num op] (fun r => r = tru (endsF op)) := by
  refine spec_of 1000 Tryd.func99 rfl rfl ?_
  repeat' first | refine Len.map ?_ | refine Len.nil ?_ | refine Len.cons ?_ | refine Br.t rfl ?_ | refine Br.f rfl ?_ | refine Fit.au ?_ | refine Cv.au ?_ | refine Need.ne ?_ | refine Need.au ?_ | refine Pick.map (by assumption) ?_ | refine Pick.mapI (by omega) (by assumption) ?_ | refine PickN.mk _ (by assumption) ?_ | refine PickN.mk _ rfl ?_ | refine PickN.au ?_ | refine App.au rfl ?_ | refine App.au (own_map (fun _ => rfl) _) ?_ | refine Both.mk ?_ ?_ | exact True.intro | refine Br.d (fun h => ?_) (fun h => ?_) | refine Br.nd (fun h => ?_) (fun h => ?_) | refine Br.mk (fun h => ?_) (fun h => ?_)
  all_goals (show _ = _; unfold endsF; simp_all [asRes, tru]; try omega)
theorem Targets100_spec (i : Ins) (hi : i.fits) : FnSpec Tryd.prog 69 [insA i] (fun r => r = .osl 1 ((targetsF i).map int1)) := by
  refine FnSpec.weakV (spec_of 1000 Tryd.func69 rfl rfl ?_)
  repeat' first | refine Call.eq (Right_spec i hi) rfl ?_ | refine Call.eq (Ends123_spec _) rfl ?_ | refine Len.map ?_ | refine Len.nil ?_ | refine Len.cons ?_ | refine Br.t rfl ?_ | refine Br.f rfl ?_ | refine Fit.au ?_ | refine Cv.au ?_ | refine Need.ne ?_ | refine Need.au ?_ | refine Pick.map (by assumption) ?_ | refine Pick.mapI (by omega) (by assumption) ?_ | refine PickN.mk _ (by assumption) ?_ | refine PickN.mk _ rfl ?_ | refine PickN.au ?_ | refine App.au rfl ?_ | refine App.au (own_map (fun _ => rfl) _) ?_ | refine Both.mk ?_ ?_ | exact True.intro | refine Br.d (fun h => ?_) (fun h => ?_) | refine Br.nd (fun h => ?_) (fun h => ?_) | refine Br.mk (fun h => ?_) (fun h => ?_)
  all_goals (try simp only [right_eq, endsF] at *)
  all_goals first
    | (refine .inr ?_
       have e : targetsF i = [] := by unfold targetsF; rw [if_neg (by simp_all <;> omega), if_neg (by simp_all <;> omega)]
       rw [e]; exact OLe.onil)
    | (refine .inl ?_
       have e : targetsF i = [i.n] := by unfold targetsF; rw [if_pos (by simp_all)]
       rw [e]; rfl)
    | (refine .inl ?_
       have e : targetsF i = [i.n, i.m] := by unfold targetsF; rw [if_neg (by simp_all), if_pos (by simp_all <;> omega)]
       rw [e]; rfl)
theorem Ints_spec (l : List Int) (hl : l.length ≤ 1000000) : FnSpec Tryd.prog 33 [ints l] (fun r => r = .osl 1 (l.map int1)) := by
  refine spec_of 1000 Tryd.func33 rfl rfl ?_
  repeat' first | refine Len.map ?_ | refine Len.nil ?_ | refine Len.cons ?_ | refine Br.t rfl ?_ | refine Br.f rfl ?_ | refine Fit.au ?_ | refine Cv.au ?_ | refine Need.ne ?_ | refine Need.au ?_ | refine Pick.map (by assumption) ?_ | refine Pick.mapI (by omega) (by assumption) ?_ | refine PickN.mk _ (by assumption) ?_ | refine PickN.mk _ rfl ?_ | refine PickN.au ?_ | refine App.au rfl ?_ | refine App.au (own_map (fun _ => rfl) _) ?_ | refine Both.mk ?_ ?_ | exact True.intro
  rfl
end Go.Proofs.YtdgibhndjdgllaaDoor

/- Sets of bits: by contracts. -/
namespace Go.Proofs.YtdgibhndjdgllaaDoor
open Go.Ax
set_option maxRecDepth 10000
set_option linter.unusedVariables false

theorem word64_spec (s : List W) (i : Nat) (hs : s.length ≤ 1000000000) : FnSpec Tryd.prog 64 [sets s, num i] (fun r => r = w64 (s.getD i 0)) := by
  refine spec_of 1000 Tryd.func64 rfl rfl ?_
  repeat' first | refine Len.map ?_ | refine Len.nil ?_ | refine Len.cons ?_ | refine Br.t rfl ?_ | refine Br.f rfl ?_ | refine Fit.au ?_ | refine Cv.au ?_ | refine Need.ne ?_ | refine Need.au ?_ | refine Pick.map (by assumption) ?_ | refine Pick.mapI (by omega) (by assumption) ?_ | refine PickN.mk _ (by assumption) ?_ | refine PickN.mk _ rfl ?_ | refine PickN.au ?_ | refine App.au rfl ?_ | refine App.au (own_map (fun _ => rfl) _) ?_ | refine Both.mk ?_ ?_ | exact True.intro
  refine Br.d (fun h => ?_) (fun h => ?_)
  · obtain ⟨w, gw, -⟩ := getK (l := s) (k := i) (by omega)
    repeat' first | refine Pick.map gw ?_ | refine Len.map ?_ | refine Len.nil ?_ | refine Len.cons ?_ | refine Br.t rfl ?_ | refine Br.f rfl ?_ | refine Fit.au ?_ | refine Cv.au ?_ | refine Need.ne ?_ | refine Need.au ?_ | refine Pick.map (by assumption) ?_ | refine Pick.mapI (by omega) (by assumption) ?_ | refine PickN.mk _ (by assumption) ?_ | refine PickN.mk _ rfl ?_ | refine PickN.au ?_ | refine App.au rfl ?_ | refine App.au (own_map (fun _ => rfl) _) ?_ | refine Both.mk ?_ ?_ | exact True.intro
    show _ = _
    rw [List.getD_eq_getElem?_getD, gw]; rfl
  · repeat' first | refine Len.map ?_ | refine Len.nil ?_ | refine Len.cons ?_ | refine Br.t rfl ?_ | refine Br.f rfl ?_ | refine Fit.au ?_ | refine Cv.au ?_ | refine Need.ne ?_ | refine Need.au ?_ | refine Pick.map (by assumption) ?_ | refine Pick.mapI (by omega) (by assumption) ?_ | refine PickN.mk _ (by assumption) ?_ | refine PickN.mk _ rfl ?_ | refine PickN.au ?_ | refine App.au rfl ?_ | refine App.au (own_map (fun _ => rfl) _) ?_ | refine Both.mk ?_ ?_ | exact True.intro
    show _ = _
    rw [List.getD_eq_getElem?_getD, List.getElem?_eq_none (by omega)]; rfl
theorem New35_spec (n : Nat) (hn : n ≤ 65536) : FnSpec Tryd.prog 35 [num n] (fun r => r = .osl 1 ((newW n).map u1)) := by
  refine spec_of 1000 Tryd.func35 rfl rfl ?_
  repeat' first | (refine Br.f ?_ ?_; focus (simp; omega)) | refine Len.map ?_ | refine Len.nil ?_ | refine Len.cons ?_ | refine Br.t rfl ?_ | refine Br.f rfl ?_ | refine Fit.au ?_ | refine Cv.au ?_ | refine Need.ne ?_ | refine Need.au ?_ | refine Pick.map (by assumption) ?_ | refine Pick.mapI (by omega) (by assumption) ?_ | refine PickN.mk _ (by assumption) ?_ | refine PickN.mk _ rfl ?_ | refine PickN.au ?_ | refine App.au rfl ?_ | refine App.au (own_map (fun _ => rfl) _) ?_ | refine Both.mk ?_ ?_ | exact True.intro
  have hq : ((n : Int) + 64 - 1).tdiv 64 = ((wn n : Nat) : Int) := by
    rw [Int.tdiv_eq_ediv_of_nonneg (by omega)]; unfold wn; omega
  have hw : wn n ≤ 1024 := by unfold wn; omega
  rw [hq]
  refine Cv.au ?_
  repeat' first | refine MkS.mk (wn n) rfl rfl (by omega) (by omega) ?_ | refine Len.map ?_ | refine Len.nil ?_ | refine Len.cons ?_ | refine Br.t rfl ?_ | refine Br.f rfl ?_ | refine Fit.au ?_ | refine Cv.au ?_ | refine Need.ne ?_ | refine Need.au ?_ | refine Pick.map (by assumption) ?_ | refine Pick.mapI (by omega) (by assumption) ?_ | refine PickN.mk _ (by assumption) ?_ | refine PickN.mk _ rfl ?_ | refine PickN.au ?_ | refine App.au rfl ?_ | refine App.au (own_map (fun _ => rfl) _) ?_ | refine Both.mk ?_ ?_ | exact True.intro
  show _ = _
  unfold newW
  rw [List.map_replicate]
  rfl
theorem Or36_spec (a b : List W) (ha : a.length ≤ 1000000) (hb : b.length ≤ 1000000) : FnSpec Tryd.prog 36 [sets a, sets b] (fun r => r = .osl 1 ((orW a b).map u1)) := by
  have wa := fun i : Nat => word64_spec a i (by omega)
  have wb := fun i : Nat => word64_spec b i (by omega)
  refine spec_of 1000 Tryd.func36 rfl rfl ?_
  repeat' first | refine Len.map ?_ | refine Len.nil ?_ | refine Len.cons ?_ | refine Br.t rfl ?_ | refine Br.f rfl ?_ | refine Fit.au ?_ | refine Cv.au ?_ | refine Need.ne ?_ | refine Need.au ?_ | refine Pick.map (by assumption) ?_ | refine Pick.mapI (by omega) (by assumption) ?_ | refine PickN.mk _ (by assumption) ?_ | refine PickN.mk _ rfl ?_ | refine PickN.au ?_ | refine App.au rfl ?_ | refine App.au (own_map (fun _ => rfl) _) ?_ | refine Both.mk ?_ ?_ | exact True.intro
  obtain ⟨M, hM⟩ : ∃ M, M = max a.length b.length := ⟨_, rfl⟩
  obtain ⟨f, hf⟩ : ∃ f : Nat → W, f = fun i => a.getD i 0 ||| b.getD i 0 := ⟨_, rfl⟩
  have hfk : ∀ k, f k = a.getD k 0 ||| b.getD k 0 := fun k => by rw [hf]
  have hor : orW a b = fillW M M f := by rw [hM, hf]; rfl
  rw [hor]
  refine MkS.mk M (by omega) (by omega) (by omega) (by omega) ?_
  repeat' first | refine Len.rep ?_ | refine Len.map ?_ | refine Len.nil ?_ | refine Len.cons ?_ | refine Br.t rfl ?_ | refine Br.f rfl ?_ | refine Fit.au ?_ | refine Cv.au ?_ | refine Need.ne ?_ | refine Need.au ?_ | refine Pick.map (by assumption) ?_ | refine Pick.mapI (by omega) (by assumption) ?_ | refine PickN.mk _ (by assumption) ?_ | refine PickN.mk _ rfl ?_ | refine PickN.au ?_ | refine App.au rfl ?_ | refine App.au (own_map (fun _ => rfl) _) ?_ | refine Both.mk ?_ ?_ | exact True.intro
  refine Stop.mk (loop_in (g := []) (fun k : Nat => [(0, sets a), (1, sets b), (5, .hw 0), (14, num M), (15, num k)]) (fun k => [(0, .row 1 ((fillW M k f).map u1))]) 1 (fun k => k ≤ M) (fun k => M - k) 0 (by omega) ⟨rfl, (by repeat' first | exact trivial | refine ⟨rfl, ?_⟩), by refine ⟨congrArg (fun l => some (Row.row 1 l)) ?_, trivial⟩; rw [fillW_zero, List.map_replicate]; rfl⟩ (fun k hk ih => ?_))
  have hfl := fillW_len M k f
  refine go 1000 Tryd.func36 ?_
  repeat' first | refine Len.map ?_ | refine Len.nil ?_ | refine Len.cons ?_ | refine Br.t rfl ?_ | refine Br.f rfl ?_ | refine Fit.au ?_ | refine Cv.au ?_ | refine Need.ne ?_ | refine Need.au ?_ | refine Pick.map (by assumption) ?_ | refine Pick.mapI (by omega) (by assumption) ?_ | refine PickN.mk _ (by assumption) ?_ | refine PickN.mk _ rfl ?_ | refine PickN.au ?_ | refine App.au rfl ?_ | refine App.au (own_map (fun _ => rfl) _) ?_ | refine Both.mk ?_ ?_ | exact True.intro
  refine Br.d (fun h => ?_) (fun h => ?_)
  · have gk := fillW_at (n := M) (k := k) (i := k) (f := f) (by omega)
    have hset := fillW_set (n := M) (k := k) (f := f) (by omega)
    have h2 : ((fillW M k f).map u1).set k [.lit (.int .u64 (IntKind.u64.wrap ((BitVec.ofInt IntKind.u64.bits ((a.getD k 0).toNat : Int) ||| BitVec.ofInt IntKind.u64.bits ((b.getD k 0).toNat : Int)).toNat : Int)))] = (fillW M (k + 1) f).map u1 := by
      rw [← hset, List.map_set, hfk, orI]; rfl
    repeat' first | refine Call.eq (wa _) rfl ?_ | refine Call.eq (wb _) rfl ?_ | refine Need.mk ⟨by omega, by rw [List.length_map, hfl, Int.toNat_natCast]; omega⟩ ?_ | refine PickN.map gk ?_ | refine Len.map ?_ | refine Len.nil ?_ | refine Len.cons ?_ | refine Br.t rfl ?_ | refine Br.f rfl ?_ | refine Fit.au ?_ | refine Cv.au ?_ | refine Need.ne ?_ | refine Need.au ?_ | refine Pick.map (by assumption) ?_ | refine Pick.mapI (by omega) (by assumption) ?_ | refine PickN.mk _ (by assumption) ?_ | refine PickN.mk _ rfl ?_ | refine PickN.au ?_ | refine App.au rfl ?_ | refine App.au (own_map (fun _ => rfl) _) ?_ | refine Both.mk ?_ ?_ | exact True.intro
    refine Stop.mk (ih (k + 1) (g := []) _ _ _ (by omega) (by omega) ⟨rfl, (by repeat' first | exact trivial | refine ⟨rfl, ?_⟩), by refine ⟨congrArg (fun l => some (Row.row 1 l)) h2, trivial⟩⟩)
  · obtain rfl : k = M := by omega
    repeat' first | refine Len.map ?_ | refine Len.nil ?_ | refine Len.cons ?_ | refine Br.t rfl ?_ | refine Br.f rfl ?_ | refine Fit.au ?_ | refine Cv.au ?_ | refine Need.ne ?_ | refine Need.au ?_ | refine Pick.map (by assumption) ?_ | refine Pick.mapI (by omega) (by assumption) ?_ | refine PickN.mk _ (by assumption) ?_ | refine PickN.mk _ rfl ?_ | refine PickN.au ?_ | refine App.au rfl ?_ | refine App.au (own_map (fun _ => rfl) _) ?_ | refine Both.mk ?_ ?_ | exact True.intro
    rfl
theorem And104_spec (a b : List W) (ha : a.length ≤ 1000000) (hb : b.length ≤ 1000000) : FnSpec Tryd.prog 104 [sets a, sets b] (fun r => r = .osl 1 ((andW a b).map u1)) := by
  refine spec_of 1000 Tryd.func104 rfl rfl ?_
  repeat' first | refine Len.map ?_ | refine Len.nil ?_ | refine Len.cons ?_ | refine Br.t rfl ?_ | refine Br.f rfl ?_ | refine Fit.au ?_ | refine Cv.au ?_ | refine Need.ne ?_ | refine Need.au ?_ | refine Pick.map (by assumption) ?_ | refine Pick.mapI (by omega) (by assumption) ?_ | refine PickN.mk _ (by assumption) ?_ | refine PickN.mk _ rfl ?_ | refine PickN.au ?_ | refine App.au rfl ?_ | refine App.au (own_map (fun _ => rfl) _) ?_ | refine Both.mk ?_ ?_ | exact True.intro
  obtain ⟨M, hM⟩ : ∃ M, M = min a.length b.length := ⟨_, rfl⟩
  obtain ⟨f, hf⟩ : ∃ f : Nat → W, f = fun i => a.getD i 0 &&& b.getD i 0 := ⟨_, rfl⟩
  have hfk : ∀ k, f k = a.getD k 0 &&& b.getD k 0 := fun k => by rw [hf]
  have hor : andW a b = fillW M M f := by rw [hM, hf]; rfl
  rw [hor]
  refine MkS.mk M (by omega) (by omega) (by omega) (by omega) ?_
  repeat' first | refine Len.rep ?_ | refine Len.map ?_ | refine Len.nil ?_ | refine Len.cons ?_ | refine Br.t rfl ?_ | refine Br.f rfl ?_ | refine Fit.au ?_ | refine Cv.au ?_ | refine Need.ne ?_ | refine Need.au ?_ | refine Pick.map (by assumption) ?_ | refine Pick.mapI (by omega) (by assumption) ?_ | refine PickN.mk _ (by assumption) ?_ | refine PickN.mk _ rfl ?_ | refine PickN.au ?_ | refine App.au rfl ?_ | refine App.au (own_map (fun _ => rfl) _) ?_ | refine Both.mk ?_ ?_ | exact True.intro
  refine Stop.mk (loop_in (g := []) (fun k : Nat => [(0, sets a), (1, sets b), (5, .hw 0), (14, num M), (15, num k)]) (fun k => [(0, .row 1 ((fillW M k f).map u1))]) 1 (fun k => k ≤ M) (fun k => M - k) 0 (by omega) ⟨rfl, (by repeat' first | exact trivial | refine ⟨rfl, ?_⟩), by refine ⟨congrArg (fun l => some (Row.row 1 l)) ?_, trivial⟩; rw [fillW_zero, List.map_replicate]; rfl⟩ (fun k hk ih => ?_))
  have hfl := fillW_len M k f
  refine go 1000 Tryd.func104 ?_
  repeat' first | refine Len.map ?_ | refine Len.nil ?_ | refine Len.cons ?_ | refine Br.t rfl ?_ | refine Br.f rfl ?_ | refine Fit.au ?_ | refine Cv.au ?_ | refine Need.ne ?_ | refine Need.au ?_ | refine Pick.map (by assumption) ?_ | refine Pick.mapI (by omega) (by assumption) ?_ | refine PickN.mk _ (by assumption) ?_ | refine PickN.mk _ rfl ?_ | refine PickN.au ?_ | refine App.au rfl ?_ | refine App.au (own_map (fun _ => rfl) _) ?_ | refine Both.mk ?_ ?_ | exact True.intro
  refine Br.d (fun h => ?_) (fun h => ?_)
  · have gk := fillW_at (n := M) (k := k) (i := k) (f := f) (by omega)
    have hset := fillW_set (n := M) (k := k) (f := f) (by omega)
    obtain ⟨x, gx, -⟩ := getK (l := a) (k := k) (by omega)
    obtain ⟨y, gy, -⟩ := getK (l := b) (k := k) (by omega)
    have ex : a.getD k 0 = x := by rw [List.getD_eq_getElem?_getD, gx]; rfl
    have ey : b.getD k 0 = y := by rw [List.getD_eq_getElem?_getD, gy]; rfl
    have h2 : ((fillW M k f).map u1).set k [.lit (.int .u64 (IntKind.u64.wrap ((BitVec.ofInt IntKind.u64.bits (x.toNat : Int) &&& BitVec.ofInt IntKind.u64.bits (y.toNat : Int)).toNat : Int)))] = (fillW M (k + 1) f).map u1 := by
      rw [← hset, List.map_set, hfk, ex, ey, andI]; rfl
    repeat' first | refine Draw.mk (ordL [12] [0, 1, 2, 3, 4, 5, 6, 7, 8, 9, 10, 11, 12]) (by decide +kernel) ?_ | refine Pick.map gx ?_ | refine Pick.map gy ?_ | refine Need.mk ⟨by omega, by rw [List.length_map, hfl, Int.toNat_natCast]; omega⟩ ?_ | refine PickN.map gk ?_ | refine Len.map ?_ | refine Len.nil ?_ | refine Len.cons ?_ | refine Br.t rfl ?_ | refine Br.f rfl ?_ | refine Fit.au ?_ | refine Cv.au ?_ | refine Need.ne ?_ | refine Need.au ?_ | refine Pick.map (by assumption) ?_ | refine Pick.mapI (by omega) (by assumption) ?_ | refine PickN.mk _ (by assumption) ?_ | refine PickN.mk _ rfl ?_ | refine PickN.au ?_ | refine App.au rfl ?_ | refine App.au (own_map (fun _ => rfl) _) ?_ | refine Both.mk ?_ ?_ | exact True.intro
    refine Stop.mk (ih (k + 1) (g := []) _ _ _ (by omega) (by omega) ⟨rfl, (by repeat' first | exact trivial | refine ⟨rfl, ?_⟩), by refine ⟨congrArg (fun l => some (Row.row 1 l)) h2, trivial⟩⟩)
  · obtain rfl : k = M := by omega
    repeat' first | refine Len.map ?_ | refine Len.nil ?_ | refine Len.cons ?_ | refine Br.t rfl ?_ | refine Br.f rfl ?_ | refine Fit.au ?_ | refine Cv.au ?_ | refine Need.ne ?_ | refine Need.au ?_ | refine Pick.map (by assumption) ?_ | refine Pick.mapI (by omega) (by assumption) ?_ | refine PickN.mk _ (by assumption) ?_ | refine PickN.mk _ rfl ?_ | refine PickN.au ?_ | refine App.au rfl ?_ | refine App.au (own_map (fun _ => rfl) _) ?_ | refine Both.mk ?_ ?_ | exact True.intro
    rfl
theorem Less45_spec (a b : List W) (ha : a.length ≤ 1000000) (hb : b.length ≤ 1000000) : FnSpec Tryd.prog 45 [sets a, sets b] (fun r => r = .osl 1 ((lessW a b).map u1)) := by
  have wb := fun i : Nat => word64_spec b i (by omega)
  refine spec_of 1000 Tryd.func45 rfl rfl ?_
  repeat' first | refine Len.map ?_ | refine Len.nil ?_ | refine Len.cons ?_ | refine Br.t rfl ?_ | refine Br.f rfl ?_ | refine Fit.au ?_ | refine Cv.au ?_ | refine Need.ne ?_ | refine Need.au ?_ | refine Pick.map (by assumption) ?_ | refine Pick.mapI (by omega) (by assumption) ?_ | refine PickN.mk _ (by assumption) ?_ | refine PickN.mk _ rfl ?_ | refine PickN.au ?_ | refine App.au rfl ?_ | refine App.au (own_map (fun _ => rfl) _) ?_ | refine Both.mk ?_ ?_ | exact True.intro
  obtain ⟨M, hM⟩ : ∃ M, M = a.length := ⟨_, rfl⟩
  obtain ⟨f, hf⟩ : ∃ f : Nat → W, f = fun i => a.getD i 0 &&& ~~~b.getD i 0 := ⟨_, rfl⟩
  have hfk : ∀ k, f k = a.getD k 0 &&& ~~~b.getD k 0 := fun k => by rw [hf]
  have hor : lessW a b = fillW M M f := by rw [hM, hf]; rfl
  rw [hor]
  refine MkS.mk M (by omega) (by omega) (by omega) (by omega) ?_
  repeat' first | refine Len.rep ?_ | refine Len.map ?_ | refine Len.nil ?_ | refine Len.cons ?_ | refine Br.t rfl ?_ | refine Br.f rfl ?_ | refine Fit.au ?_ | refine Cv.au ?_ | refine Need.ne ?_ | refine Need.au ?_ | refine Pick.map (by assumption) ?_ | refine Pick.mapI (by omega) (by assumption) ?_ | refine PickN.mk _ (by assumption) ?_ | refine PickN.mk _ rfl ?_ | refine PickN.au ?_ | refine App.au rfl ?_ | refine App.au (own_map (fun _ => rfl) _) ?_ | refine Both.mk ?_ ?_ | exact True.intro
  refine Stop.mk (loop_in (g := []) (fun k : Nat => [(0, sets a), (1, sets b), (5, .hw 0), (11, num M), (12, num k)]) (fun k => [(0, .row 1 ((fillW M k f).map u1))]) 1 (fun k => k ≤ M) (fun k => M - k) 0 (by omega) ⟨rfl, (by repeat' first | exact trivial | refine ⟨rfl, ?_⟩), by refine ⟨congrArg (fun l => some (Row.row 1 l)) ?_, trivial⟩; rw [fillW_zero, List.map_replicate]; rfl⟩ (fun k hk ih => ?_))
  have hfl := fillW_len M k f
  refine go 1000 Tryd.func45 ?_
  repeat' first | refine Len.map ?_ | refine Len.nil ?_ | refine Len.cons ?_ | refine Br.t rfl ?_ | refine Br.f rfl ?_ | refine Fit.au ?_ | refine Cv.au ?_ | refine Need.ne ?_ | refine Need.au ?_ | refine Pick.map (by assumption) ?_ | refine Pick.mapI (by omega) (by assumption) ?_ | refine PickN.mk _ (by assumption) ?_ | refine PickN.mk _ rfl ?_ | refine PickN.au ?_ | refine App.au rfl ?_ | refine App.au (own_map (fun _ => rfl) _) ?_ | refine Both.mk ?_ ?_ | exact True.intro
  refine Br.d (fun h => ?_) (fun h => ?_)
  · have gk := fillW_at (n := M) (k := k) (i := k) (f := f) (by omega)
    have hset := fillW_set (n := M) (k := k) (f := f) (by omega)
    obtain ⟨x, gx, -⟩ := getK (l := a) (k := k) (by omega)
    have ex : a.getD k 0 = x := by rw [List.getD_eq_getElem?_getD, gx]; rfl
    have h2 : ((fillW M k f).map u1).set k [.lit (.int .u64 (IntKind.u64.wrap ((BitVec.ofInt IntKind.u64.bits (x.toNat : Int) &&& ~~~BitVec.ofInt IntKind.u64.bits ((b.getD k 0).toNat : Int)).toNat : Int)))] = (fillW M (k + 1) f).map u1 := by
      rw [← hset, List.map_set, hfk, ex, lessI]; rfl
    repeat' first | refine Draw.mk (ordL [8, 11] [0, 1, 2, 3, 4, 5, 6, 7, 8, 9, 10, 11]) (by decide +kernel) ?_ | refine Pick.map gx ?_ | refine Call.eq (wb _) rfl ?_ | refine Need.mk ⟨by omega, by rw [List.length_map, hfl, Int.toNat_natCast]; omega⟩ ?_ | refine PickN.map gk ?_ | refine Len.map ?_ | refine Len.nil ?_ | refine Len.cons ?_ | refine Br.t rfl ?_ | refine Br.f rfl ?_ | refine Fit.au ?_ | refine Cv.au ?_ | refine Need.ne ?_ | refine Need.au ?_ | refine Pick.map (by assumption) ?_ | refine Pick.mapI (by omega) (by assumption) ?_ | refine PickN.mk _ (by assumption) ?_ | refine PickN.mk _ rfl ?_ | refine PickN.au ?_ | refine App.au rfl ?_ | refine App.au (own_map (fun _ => rfl) _) ?_ | refine Both.mk ?_ ?_ | exact True.intro
    all_goals refine Stop.mk (ih (k + 1) (g := []) _ _ _ (by omega) (by omega) ⟨rfl, (by repeat' first | exact trivial | refine ⟨rfl, ?_⟩), by refine ⟨congrArg (fun l => some (Row.row 1 l)) h2, trivial⟩⟩)
  · obtain rfl : k = M := by omega
    repeat' first | refine Len.map ?_ | refine Len.nil ?_ | refine Len.cons ?_ | refine Br.t rfl ?_ | refine Br.f rfl ?_ | refine Fit.au ?_ | refine Cv.au ?_ | refine Need.ne ?_ | refine Need.au ?_ | refine Pick.map (by assumption) ?_ | refine Pick.mapI (by omega) (by assumption) ?_ | refine PickN.mk _ (by assumption) ?_ | refine PickN.mk _ rfl ?_ | refine PickN.au ?_ | refine App.au rfl ?_ | refine App.au (own_map (fun _ => rfl) _) ?_ | refine Both.mk ?_ ?_ | exact True.intro
    rfl
theorem Same79_spec (a b : List W) (ha : a.length ≤ 1000000) (hb : b.length ≤ 1000000) : FnSpec Tryd.prog 79 [sets a, sets b] (fun r => ∃ v, r = tru v ∧ (v = true ↔ sameW a b)) := by
  have wa := fun i : Nat => word64_spec a i (by omega)
  have wb := fun i : Nat => word64_spec b i (by omega)
  obtain ⟨M, hM⟩ : ∃ M, M = max a.length b.length := ⟨_, rfl⟩
  refine spec_of 1000 Tryd.func79 rfl rfl ?_
  repeat' first | refine Len.map ?_ | refine Len.nil ?_ | refine Len.cons ?_ | refine Br.t rfl ?_ | refine Br.f rfl ?_ | refine Fit.au ?_ | refine Cv.au ?_ | refine Need.ne ?_ | refine Need.au ?_ | refine Pick.map (by assumption) ?_ | refine Pick.mapI (by omega) (by assumption) ?_ | refine PickN.mk _ (by assumption) ?_ | refine PickN.mk _ rfl ?_ | refine PickN.au ?_ | refine App.au rfl ?_ | refine App.au (own_map (fun _ => rfl) _) ?_ | refine Both.mk ?_ ?_ | exact True.intro
  refine Stop.mk (loop_in (g := []) (fun k : Nat => [(0, sets a), (1, sets b), (10, num (max (a.length : Int) (b.length : Int))), (11, num k)]) (fun k => []) 0 (fun k => k ≤ M ∧ ∀ i, i < k → a.getD i 0 = b.getD i 0) (fun k => M - k) 0 ⟨by omega, by simp⟩ ⟨rfl, (by repeat' first | exact trivial | refine ⟨rfl, ?_⟩ | refine ⟨congrArg (fun n => AV.lit (.int .i64 n)) (by omega), ?_⟩ | refine ⟨congrArg (fun l => some (Row.row 1 l)) (by simp [int1, num, tru]), ?_⟩), (by repeat' first | exact trivial | refine ⟨rfl, ?_⟩ | refine ⟨congrArg (fun n => AV.lit (.int .i64 n)) (by omega), ?_⟩ | refine ⟨congrArg (fun l => some (Row.row 1 l)) (by simp [int1, num, tru]), ?_⟩)⟩ (fun k hk ih => ?_))
  obtain ⟨hk, he⟩ := hk
  refine go 1000 Tryd.func79 ?_
  repeat' first | refine Len.map ?_ | refine Len.nil ?_ | refine Len.cons ?_ | refine Br.t rfl ?_ | refine Br.f rfl ?_ | refine Fit.au ?_ | refine Cv.au ?_ | refine Need.ne ?_ | refine Need.au ?_ | refine Pick.map (by assumption) ?_ | refine Pick.mapI (by omega) (by assumption) ?_ | refine PickN.mk _ (by assumption) ?_ | refine PickN.mk _ rfl ?_ | refine PickN.au ?_ | refine App.au rfl ?_ | refine App.au (own_map (fun _ => rfl) _) ?_ | refine Both.mk ?_ ?_ | exact True.intro
  refine Br.d (fun h => ?_) (fun h => ?_)
  · repeat' first | refine Call.eq (wa _) rfl ?_ | refine Call.eq (wb _) rfl ?_ | refine Len.map ?_ | refine Len.nil ?_ | refine Len.cons ?_ | refine Br.t rfl ?_ | refine Br.f rfl ?_ | refine Fit.au ?_ | refine Cv.au ?_ | refine Need.ne ?_ | refine Need.au ?_ | refine Pick.map (by assumption) ?_ | refine Pick.mapI (by omega) (by assumption) ?_ | refine PickN.mk _ (by assumption) ?_ | refine PickN.mk _ rfl ?_ | refine PickN.au ?_ | refine App.au rfl ?_ | refine App.au (own_map (fun _ => rfl) _) ?_ | refine Both.mk ?_ ?_ | exact True.intro
    refine Br.mk (fun h3 => ?_) (fun h3 => ?_)
    · repeat' first | refine Len.map ?_ | refine Len.nil ?_ | refine Len.cons ?_ | refine Br.t rfl ?_ | refine Br.f rfl ?_ | refine Fit.au ?_ | refine Cv.au ?_ | refine Need.ne ?_ | refine Need.au ?_ | refine Pick.map (by assumption) ?_ | refine Pick.mapI (by omega) (by assumption) ?_ | refine PickN.mk _ (by assumption) ?_ | refine PickN.mk _ rfl ?_ | refine PickN.au ?_ | refine App.au rfl ?_ | refine App.au (own_map (fun _ => rfl) _) ?_ | refine Both.mk ?_ ?_ | exact True.intro
      refine ⟨false, rfl, ⟨fun e => (by cases e), fun hs => ?_⟩⟩
      rw [hs k] at h3
      simp at h3
    · have e2 : a.getD k 0 = b.getD k 0 := by
        have h4 : ((a.getD k 0).toNat : Int) = ((b.getD k 0).toNat : Int) := by simpa using h3
        exact BitVec.eq_of_toNat_eq (by omega)
      repeat' first | refine Len.map ?_ | refine Len.nil ?_ | refine Len.cons ?_ | refine Br.t rfl ?_ | refine Br.f rfl ?_ | refine Fit.au ?_ | refine Cv.au ?_ | refine Need.ne ?_ | refine Need.au ?_ | refine Pick.map (by assumption) ?_ | refine Pick.mapI (by omega) (by assumption) ?_ | refine PickN.mk _ (by assumption) ?_ | refine PickN.mk _ rfl ?_ | refine PickN.au ?_ | refine App.au rfl ?_ | refine App.au (own_map (fun _ => rfl) _) ?_ | refine Both.mk ?_ ?_ | exact True.intro
      refine Stop.mk (ih (k + 1) (g := []) _ _ _ ⟨by omega, fun i hi => ?_⟩ (by omega) ⟨rfl, (by repeat' first | exact trivial | refine ⟨rfl, ?_⟩ | refine ⟨congrArg (fun n => AV.lit (.int .i64 n)) (by omega), ?_⟩ | refine ⟨congrArg (fun l => some (Row.row 1 l)) (by simp [int1, num, tru]), ?_⟩), (by repeat' first | exact trivial | refine ⟨rfl, ?_⟩ | refine ⟨congrArg (fun n => AV.lit (.int .i64 n)) (by omega), ?_⟩ | refine ⟨congrArg (fun l => some (Row.row 1 l)) (by simp [int1, num, tru]), ?_⟩)⟩)
      by_cases e : i = k
      · rw [e]; exact e2
      · exact he i (by omega)
  · repeat' first | refine Len.map ?_ | refine Len.nil ?_ | refine Len.cons ?_ | refine Br.t rfl ?_ | refine Br.f rfl ?_ | refine Fit.au ?_ | refine Cv.au ?_ | refine Need.ne ?_ | refine Need.au ?_ | refine Pick.map (by assumption) ?_ | refine Pick.mapI (by omega) (by assumption) ?_ | refine PickN.mk _ (by assumption) ?_ | refine PickN.mk _ rfl ?_ | refine PickN.au ?_ | refine App.au rfl ?_ | refine App.au (own_map (fun _ => rfl) _) ?_ | refine Both.mk ?_ ?_ | exact True.intro
    refine ⟨true, rfl, fun _ i => ?_, fun _ => rfl⟩
    by_cases hi : i < M
    · exact he i (by omega)
    · rw [List.getD_eq_getElem?_getD, List.getD_eq_getElem?_getD, List.getElem?_eq_none (by omega), List.getElem?_eq_none (by omega)]
end Go.Proofs.YtdgibhndjdgllaaDoor

/- What the flow comes to is what going on from block to block tells. No program is in sight here. -/
namespace Go.Proofs.YtdgibhndjdgllaaDoor
open Go.Ax
def liveP (f : Fun) : Prob := { edges := succsF f, back := true, all := false, width := f.regs.length, gen := f.blocks.map fun b => scanW b (newW f.regs.length), kill := f.blocks.map fun b => killW f.regs.length b (newW f.regs.length), start := newW f.regs.length }
structure LiveOK (f : Fun) : Prop where
  blocks : f.blocks.length ≤ 65536
  regs : f.regs.length ≤ 65536
  ins : ∀ b ∈ f.blocks, ∀ i ∈ b, InsB f.regs.length i
theorem newW_right (n : Nat) : RightW (newW n) n := ⟨newW_len n, fun i h => by rw [hasW_new] at h; cases h⟩
theorem liveP_ok {f : Fun} (h : LiveOK f) : (liveP f).OK := by
  have e : (liveP f).edges.length = f.blocks.length := succsF_len f
  refine ⟨by rw [e]; exact h.blocks, h.regs, ?_, ?_, newW_right _, fun s hs => ?_, fun s hs => ?_, succsF_closed f, succsF_small f⟩
  · rw [e]; exact List.length_map ..
  · rw [e]; exact List.length_map ..
  · obtain ⟨b, hb, rfl⟩ := List.mem_map.1 hs
    refine ⟨(scanW_len ..).trans (newW_len _), fun i hi => ?_⟩
    rw [hasW_scan (h.ins b hb) (newW_len _), hasW_new] at hi
    simp at hi
    obtain ⟨j, hj, hu⟩ := look_one hi
    have := (h.ins b hb j hj).2 _ hu
    show i < f.regs.length
    omega
  · obtain ⟨b, hb, rfl⟩ := List.mem_map.1 hs
    refine ⟨(killW_len ..).trans (newW_len _), fun i hi => ?_⟩
    rw [hasW_kill (newW_len _), hasW_new] at hi
    simp at hi
    exact hi.1
/-- Whither one goes while nothing is done with a register. -/
inductive ReachN (f : Fun) (r : Int) (k : Nat) : Int → Prop
  | base {j : Int} : j ∈ (succsF f).getD k [] → ReachN f r k j
  | step {j t : Int} : ReachN f r k j → lookL (f.blocks.getD j.toNat []) r = 0 → t ∈ (succsF f).getD j.toNat [] → ReachN f r k t
def NeedO (f : Fun) (k : Nat) (r : Int) : Prop := ∃ j, ReachN f r k j ∧ lookL (f.blocks.getD j.toNat []) r = 1
def NeedP (f : Fun) (k at_ : Nat) (r : Int) : Prop := lookL ((f.blocks.getD k []).drop at_) r = 1 ∨ (lookL ((f.blocks.getD k []).drop at_) r = 0 ∧ NeedO f k r)
theorem stepB_live (f : Fun) (t : Nat → Nat → Bool) (k i : Nat) : stepB (liveP f) t k i = ((succsF f).getD k []).any fun a => t a.toNat i := by
  have hb : ∀ row, beginB (liveP f) k row i = false := fun row => by
    unfold beginB meetB noneB liveP
    dsimp only
    rw [hasW_new]
    split <;> simp
  show fromB (liveP f) k (aheadAt (liveP f) k) t i = _
  have e : aheadAt (liveP f) k = (succsF f).getD k [] := rfl
  rw [e]
  unfold fromB
  rw [hb]
  have key : ∀ (l : List Int) (o : Bool), l.foldl (fun o a => meetB (liveP f) o (t a.toNat i)) o = (o || l.any fun a => t a.toNat i) := by
    intro l
    induction l with
    | nil => intro o; simp
    | cons a l ih =>
      intro o
      rw [List.foldl_cons, ih, List.any_cons, ← Bool.or_assoc]; rfl
  rw [key]; simp
theorem toB_live {f : Fun} (h : LiveOK f) {k : Nat} (hk : k < f.blocks.length) (b : Bool) (i : Nat) :
    toB (liveP f) k b i = (decide (lookL (f.blocks.getD k []) i = 1) || (decide (lookL (f.blocks.getD k []) i = 0) && b)) := by
  have hm : f.blocks.getD k [] ∈ f.blocks := getD_mem hk
  have e1 : (liveP f).gen.getD k [] = scanW (f.blocks.getD k []) (newW f.regs.length) := by
    show (f.blocks.map _).getD k [] = _
    rw [List.getD_eq_getElem?_getD, List.getD_eq_getElem?_getD, List.getElem?_map, List.getElem?_eq_getElem hk]; rfl
  have e2 : (liveP f).kill.getD k [] = killW f.regs.length (f.blocks.getD k []) (newW f.regs.length) := by
    show (f.blocks.map _).getD k [] = _
    rw [List.getD_eq_getElem?_getD, List.getD_eq_getElem?_getD, List.getElem?_map, List.getElem?_eq_getElem hk]; rfl
  unfold toB
  rw [e1, e2, hasW_scan (h.ins _ hm) (newW_len _), hasW_kill (newW_len _), hasW_new]
  have hin := h.ins _ hm
  clear e1 e2
  generalize f.blocks.getD k [] = bk at *
  rcases lookL_cases bk i with e | e | e
  · have := look_def e
    simp [e, this]
  · simp [e]
  · obtain ⟨j, hj, hd⟩ := look_two e
    have h3 := (hin j hj).1
    have h4 : i < f.regs.length := by omega
    have h5 : ∃ i_1 ∈ bk, defF i_1 = (i : Int) := ⟨j, hj, hd⟩
    rw [e, decide_eq_true (show i < f.regs.length ∧ _ from ⟨h4, h5⟩)]; simp
theorem succ_rng {f : Fun} {k : Nat} {j : Int} (h : j ∈ (succsF f).getD k []) : 0 ≤ j ∧ j.toNat < f.blocks.length := by
  by_cases hk : k < (succsF f).length
  · have := succsF_closed f _ (getD_mem (d := []) hk) j h
    rw [succsF_len] at this
    omega
  · rw [List.getD_eq_getElem?_getD, List.getElem?_eq_none (by omega)] at h; cases h
theorem ReachN.rng {f : Fun} {r : Int} {k : Nat} {j : Int} (h : ReachN f r k j) : 0 ≤ j ∧ j.toNat < f.blocks.length := by
  cases h with
  | base h => exact succ_rng h
  | step _ _ h => exact succ_rng h
theorem ReachN.ahead {f : Fun} {r : Int} {s : Nat} {j : Int} (h : ReachN f r s j) {k : Nat} (hs : (s : Int) ∈ (succsF f).getD k []) (h0 : lookL (f.blocks.getD s []) r = 0) : ReachN f r k j := by
  induction h with
  | base h => exact .step (.base hs) h0 h
  | step _ h1 h2 ih => exact .step ih h1 h2
theorem needO_iff {f : Fun} {k : Nat} {r : Int} : NeedO f k r ↔ ∃ s ∈ (succsF f).getD k [], NeedP f s.toNat 0 r := by
  constructor
  · rintro ⟨j, hj, h1⟩
    have key : ∀ j, ReachN f r k j → NeedP f j.toNat 0 r → ∃ s ∈ (succsF f).getD k [], NeedP f s.toNat 0 r := by
      intro j hj
      induction hj with
      | @base j h => exact fun h2 => ⟨j, h, h2⟩
      | @step j t h0 h1 h2 ih =>
        intro h3
        refine ih (.inr ⟨by rw [List.drop_zero]; exact h1, ?_⟩)
        rcases h3 with h3 | ⟨h3, u, hu, h4⟩
        · exact ⟨t, .base h2, by rwa [List.drop_zero] at h3⟩
        · rw [List.drop_zero] at h3
          have := succ_rng h2
          exact ⟨u, hu.ahead (by rw [Int.toNat_of_nonneg this.1]; exact h2) h3, h4⟩
    exact key j hj (.inl (by rw [List.drop_zero]; exact h1))
  · rintro ⟨s, hs, h | ⟨h, j, hj, h1⟩⟩
    · exact ⟨s, .base hs, by rwa [List.drop_zero] at h⟩
    · rw [List.drop_zero] at h
      have := succ_rng hs
      exact ⟨j, hj.ahead (by rw [Int.toNat_of_nonneg this.1]; exact hs) h, h1⟩
open Classical in
theorem live_sol {f : Fun} (h : LiveOK f) {T F : List (List W)} (hs : SolP (liveP f) T F) {k : Nat} (hk : k < f.blocks.length) (r : Nat) :
    (hasW (T.getD k []) r = true ↔ NeedP f k 0 r) ∧ (hasW (F.getD k []) r = true ↔ NeedO f k r) := by
  have e0 : (liveP f).edges.length = f.blocks.length := succsF_len f
  have hT : ∀ k i, k < f.blocks.length → bitsOf T k i = (decide (lookL (f.blocks.getD k []) i = 1) || (decide (lookL (f.blocks.getD k []) i = 0) && ((succsF f).getD k []).any fun a => bitsOf T a.toNat i)) := fun k i hk => by
    rw [hs.sol.eq k i (by rw [e0]; exact hk), toB_live h hk, stepB_live]
  have up : ∀ (k : Nat) (j : Int), ReachN f r k j → bitsOf T j.toNat r = true → ((succsF f).getD k []).any (fun a => bitsOf T a.toNat r) = true := by
    intro k j hj
    induction hj with
    | @base j h => exact fun h2 => List.any_eq_true.2 ⟨j, h, h2⟩
    | @step j t h0 h1 h2 ih =>
      intro h3
      refine ih ?_
      rw [hT _ _ h0.rng.2, h1]
      simp only [decide_true, Bool.true_and, Bool.or_eq_true]
      exact .inr (List.any_eq_true.2 ⟨t, h2, h3⟩)
  have lo : ∀ k, k < f.blocks.length → (NeedP f k 0 r → bitsOf T k r = true) := by
    rintro k hk (h1 | ⟨h1, j, hj, h2⟩)
    · rw [List.drop_zero] at h1
      rw [hT k r hk, h1]; simp
    · rw [List.drop_zero] at h1
      rw [hT k r hk, h1]
      simp only [decide_true, Bool.true_and, Bool.or_eq_true]
      refine .inr (up k j hj ?_)
      rw [hT _ _ hj.rng.2, h2]; simp
  have solN : SolB (liveP f) fun k i => decide (NeedP f k 0 i) := by
    refine ⟨fun k i hk => ?_, fun k i hk hi => ?_⟩
    · rw [e0] at hk
      rw [toB_live h hk, stepB_live, Bool.eq_iff_iff]
      simp only [decide_eq_true_eq, Bool.or_eq_true, Bool.and_eq_true, List.any_eq_true]
      unfold NeedP
      rw [List.drop_zero, needO_iff]
      rfl
    · rw [e0] at hk
      have hm : f.blocks.getD k [] ∈ f.blocks := getD_mem hk
      rcases of_decide_eq_true hi with h1 | ⟨_, j, hj, h1⟩
      · rw [List.drop_zero] at h1
        obtain ⟨x, hx, hu⟩ := look_one h1
        have := (h.ins _ hm x hx).2 _ hu
        show i < f.regs.length
        omega
      · obtain ⟨x, hx, hu⟩ := look_one h1
        have := (h.ins _ (getD_mem hj.rng.2) x hx).2 _ hu
        show i < f.regs.length
        omega
  have hi : ∀ k, k < f.blocks.length → (bitsOf T k r = true → NeedP f k 0 r) := fun k hk hb => by
    have := hs.near _ solN k r (by rw [e0]; exact hk)
    have h2 : leB (liveP f) (bitsOf T k r) (decide (NeedP f k 0 r)) := this
    unfold leB at h2
    rw [if_neg (by simp [liveP])] at h2
    exact of_decide_eq_true (h2 hb)
  refine ⟨⟨hi k hk, lo k hk⟩, ?_⟩
  have h3 : bitsOf F k r = ((succsF f).getD k []).any fun a => bitsOf T a.toNat r := by
    rw [hs.from_ k r (by rw [e0]; exact hk), stepB_live]
  show bitsOf F k r = true ↔ _
  rw [h3, needO_iff, List.any_eq_true]
  constructor
  · rintro ⟨a, ha, hb⟩; exact ⟨a, ha, hi _ (succ_rng ha).2 hb⟩
  · rintro ⟨a, ha, hb⟩; exact ⟨a, ha, lo _ (succ_rng ha).2 hb⟩
end Go.Proofs.YtdgibhndjdgllaaDoor

/- Bits put in and taken out: when nothing changes; instructions from the last one on. No program is in sight here. -/
namespace Go.Proofs.YtdgibhndjdgllaaDoor
open Go.Ax
theorem getD_set_self {s : List W} {k : Nat} {x : W} (h : k < s.length → x = s.getD k 0) : s.set k x = s := by
  by_cases hk : k < s.length
  · rw [h hk]
    refine List.ext_getElem? fun j => ?_
    rw [List.getElem?_set]
    split
    · rename_i e; subst e
      rw [List.getD_eq_getElem?_getD, List.getElem?_eq_getElem hk]; simp
    · rfl
  · exact List.set_eq_of_length_le (by omega)
theorem and_bit (x : W) (i : Nat) : x &&& bitW i = 0 ↔ x.getLsbD (i % 64) = false := by
  have hm : i % 64 < 64 := Nat.mod_lt _ (by decide)
  constructor
  · intro h
    have h2 := congrArg (fun y : W => y.getLsbD (i % 64)) h
    simp only [BitVec.getLsbD_and, bitW_at hm] at h2
    simpa using h2
  · intro h
    refine BitVec.eq_of_getLsbD_eq fun j hj => ?_
    rw [BitVec.getLsbD_and, bitW_at hj]
    by_cases e : j = i % 64
    · rw [e, h]; simp
    · simp [e]
theorem hasW_andB (s : List W) (i : Nat) : hasW s i = false ↔ s.getD (i / 64) 0 &&& bitW i = 0 := (and_bit _ _).symm
theorem putW_same {s : List W} {i : Nat} (h : hasW s i = true) : putW s i = s := by
  unfold putW
  refine getD_set_self fun _ => ?_
  refine BitVec.eq_of_getLsbD_eq fun j hj => ?_
  rw [BitVec.getLsbD_or, bitW_at hj]
  by_cases e : j = i % 64
  · subst e; unfold hasW at h; rw [h]; rfl
  · simp [e]
theorem dropW_same {s : List W} {i : Nat} (h : hasW s i = false) : dropW s i = s := by
  unfold dropW
  refine getD_set_self fun _ => ?_
  refine BitVec.eq_of_getLsbD_eq fun j hj => ?_
  rw [BitVec.getLsbD_and, BitVec.getLsbD_not, bitW_at hj]
  by_cases e : j = i % 64
  · subst e; unfold hasW at h; rw [h]; rfl
  · simp [e, hj]
theorem putW_out {s : List W} {i : Nat} (h : s.length ≤ i / 64) : putW s i = s := List.set_eq_of_length_le h
theorem dropW_out {s : List W} {i : Nat} (h : s.length ≤ i / 64) : dropW s i = s := List.set_eq_of_length_le h
theorem scanW_at {l : List Ins} {k : Nat} {i : Ins} {s : List W} (h : l[k]? = some i) : scanW (l.drop k) s = overW i (scanW (l.drop (k + 1)) s) := by
  obtain ⟨hk, rfl⟩ := List.getElem?_eq_some_iff.1 h
  rw [List.drop_eq_getElem_cons hk]; rfl
theorem killW_at {n : Nat} {l : List Ins} {k : Nat} {i : Ins} {s : List W} (h : l[k]? = some i) : killW n (l.drop k) s = if 0 ≤ defF i ∧ defF i < n then putW (killW n (l.drop (k + 1)) s) (defF i).toNat else killW n (l.drop (k + 1)) s := by
  obtain ⟨hk, rfl⟩ := List.getElem?_eq_some_iff.1 h
  rw [List.drop_eq_getElem_cons hk]; rfl
theorem scanW_end {l : List Ins} {k : Nat} {s : List W} (h : l.length ≤ k) : scanW (l.drop k) s = s := by
  rw [List.drop_of_length_le h]; rfl
theorem killW_end {n : Nat} {l : List Ins} {k : Nat} {s : List W} (h : l.length ≤ k) : killW n (l.drop k) s = s := by
  rw [List.drop_of_length_le h]; rfl
theorem hasW_orn (s : List W) (i : Nat) : hasW (orW s []) i = hasW s i := by
  rw [hasW_or]; unfold hasW; simp
theorem orn_len (s : List W) : (orW s []).length = s.length := by unfold orW; rw [fillW_len]; simp
/-- What is needed ahead of an instruction. -/
theorem live_at {f : Fun} (h : LiveOK f) {T F : List (List W)} (hs : SolP (liveP f) T F) {k : Nat} (hk : k < f.blocks.length) (a r : Nat) :
    hasW (scanW ((f.blocks.getD k []).drop a) (orW (F.getD k []) [])) r = true ↔ NeedP f k a r := by
  have hm : f.blocks.getD k [] ∈ f.blocks := getD_mem hk
  have hl : (F.getD k []).length = wn f.regs.length := hs.widF k (by show k < (succsF f).length; rw [succsF_len]; exact hk)
  rw [hasW_scan (n := f.regs.length) (fun i hi => h.ins _ hm i (List.mem_of_mem_drop hi)) (by rw [orn_len, hl]), hasW_orn, Bool.or_eq_true, Bool.and_eq_true, decide_eq_true_eq, decide_eq_true_eq, (live_sol h hs hk r).2]
  rfl
end Go.Proofs.YtdgibhndjdgllaaDoor

/- Whether a number is in a set, by a contract. -/
namespace Go.Proofs.YtdgibhndjdgllaaDoor
open Go.Ax
set_option maxRecDepth 10000
set_option linter.unusedVariables false
set_option maxHeartbeats 0

theorem bit_nat (i : Nat) : ((bitW i).toNat : Int) = 2 ^ (i % 64) := by
  have hm : i % 64 < 64 := Nat.mod_lt _ (by decide)
  unfold bitW
  rw [BitVec.toNat_shiftLeft, Nat.shiftLeft_eq, Nat.mod_eq_of_lt]
  · simp
  · simp only [BitVec.toNat_ofNat]
    have := Nat.pow_lt_pow_right (a := 2) (by decide) hm
    omega
theorem quoI (i : Nat) : (i : Int).tdiv 64 = ((i / 64 : Nat) : Int) := by rw [Int.tdiv_eq_ediv_of_nonneg (by omega)]; omega
theorem bitI (i : Nat) : (1 : Int) * 2 ^ min ((i : Int).tmod 64).toNat 64 = ((bitW i).toNat : Int) := by
  have hm : i % 64 < 64 := Nat.mod_lt _ (by decide)
  rw [bit_nat, Int.tmod_eq_emod_of_nonneg (by omega)]
  have : min ((i : Int) % 64).toNat 64 = i % 64 := by omega
  rw [this]; simp
theorem cvBit {i : Nat} {K : AV → Prop} (h : K (w64 (bitW i))) : Cv .u64 (1 * 2 ^ min ((i : Int).tmod 64).toNat 64) K := by
  rw [bitI]
  exact .same (wrapB _) h
theorem nat0 (w : W) : ((w.toNat : Int) = 0) ↔ w = 0 := by
  constructor
  · intro h; exact BitVec.eq_of_toNat_eq (by simpa using h)
  · rintro rfl; rfl
theorem hasW_eq (s : List W) (i : Nat) : hasW s i = !decide (((s.getD (i / 64) 0 &&& bitW i).toNat : Int) = 0) := by
  rw [Bool.eq_iff_iff, Bool.not_eq_true', decide_eq_false_iff_not, nat0, ← hasW_andB]; simp
theorem hasW_out {s : List W} {i : Nat} (h : s.length ≤ i / 64) : hasW s i = false := by
  unfold hasW; rw [getD_out h]; simp
theorem Has11_spec (s : List W) (i : Nat) (hs : s.length ≤ 1000000) (hi : i ≤ 1000000000) : FnSpec Tryd.prog 11 [sets s, num i] (fun r => r = tru (hasW s i)) := by
  refine spec_of 8 Tryd.func11 rfl rfl ?_
  repeat' first | refine Len.map ?_ | refine Len.nil ?_ | refine Len.cons ?_ | refine Br.t rfl ?_ | refine Br.f rfl ?_ | refine Fit.au ?_ | refine Cv.au ?_ | refine Need.ne ?_ | refine Need.au ?_ | refine Pick.map (by assumption) ?_ | refine Pick.mapI (by omega) (by assumption) ?_ | refine PickN.mk _ (by assumption) ?_ | refine PickN.mk _ rfl ?_ | refine PickN.au ?_ | refine App.au rfl ?_ | refine App.au (own_map (fun _ => rfl) _) ?_ | refine Both.mk ?_ ?_ | exact True.intro
  by_cases h : i / 64 < s.length
  · obtain ⟨w, gw, -⟩ := getK (l := s) (k := i / 64) h
    have ew : s.getD (i / 64) 0 = w := by rw [List.getD_eq_getElem?_getD, gw]; rfl
    refine Stop.mk ?_
    refine run_inlC rfl want_none rfl rfl rfl rfl rfl rfl rfl (goI 1000 Tryd.func30 ?_)
    repeat' first | refine Len.map ?_ | refine Len.nil ?_ | refine Len.cons ?_ | refine Br.t rfl ?_ | refine Br.f rfl ?_ | refine Fit.au ?_ | refine Cv.au ?_ | refine Need.ne ?_ | refine Need.au ?_ | refine Pick.map (by assumption) ?_ | refine Pick.mapI (by omega) (by assumption) ?_ | refine PickN.mk _ (by assumption) ?_ | refine PickN.mk _ rfl ?_ | refine PickN.au ?_ | refine App.au rfl ?_ | refine App.au (own_map (fun _ => rfl) _) ?_ | refine Both.mk ?_ ?_ | exact True.intro
    rw [quoI]
    refine Br.f (by simp; omega) ?_
    repeat' first | refine Draw.mk (ordL [] [0, 1, 2, 3, 4, 5, 6, 7, 8, 9]) (by decide +kernel) ?_ | (rw [quoI]; refine Pick.map gw ?_) | refine Need.mk (Int.tmod_nonneg _ (by omega)) ?_ | refine cvBit ?_ | refine Len.map ?_ | refine Len.nil ?_ | refine Len.cons ?_ | refine Br.t rfl ?_ | refine Br.f rfl ?_ | refine Fit.au ?_ | refine Cv.au ?_ | refine Need.ne ?_ | refine Need.au ?_ | refine Pick.map (by assumption) ?_ | refine Pick.mapI (by omega) (by assumption) ?_ | refine PickN.mk _ (by assumption) ?_ | refine PickN.mk _ rfl ?_ | refine PickN.au ?_ | refine App.au rfl ?_ | refine App.au (own_map (fun _ => rfl) _) ?_ | refine Both.mk ?_ ?_ | exact True.intro
    all_goals refine go 1000 Tryd.func11 ?_
    repeat' first | refine Len.map ?_ | refine Len.nil ?_ | refine Len.cons ?_ | refine Br.t rfl ?_ | refine Br.f rfl ?_ | refine Fit.au ?_ | refine Cv.au ?_ | refine Need.ne ?_ | refine Need.au ?_ | refine Pick.map (by assumption) ?_ | refine Pick.mapI (by omega) (by assumption) ?_ | refine PickN.mk _ (by assumption) ?_ | refine PickN.mk _ rfl ?_ | refine PickN.au ?_ | refine App.au rfl ?_ | refine App.au (own_map (fun _ => rfl) _) ?_ | refine Both.mk ?_ ?_ | exact True.intro
    all_goals (show AV.lit _ = AV.lit _; rw [andI, hasW_eq, ew])
  · refine Stop.mk ?_
    refine run_inlC rfl want_none rfl rfl rfl rfl rfl rfl rfl (goI 1000 Tryd.func30 ?_)
    repeat' first | refine Len.map ?_ | refine Len.nil ?_ | refine Len.cons ?_ | refine Br.t rfl ?_ | refine Br.f rfl ?_ | refine Fit.au ?_ | refine Cv.au ?_ | refine Need.ne ?_ | refine Need.au ?_ | refine Pick.map (by assumption) ?_ | refine Pick.mapI (by omega) (by assumption) ?_ | refine PickN.mk _ (by assumption) ?_ | refine PickN.mk _ rfl ?_ | refine PickN.au ?_ | refine App.au rfl ?_ | refine App.au (own_map (fun _ => rfl) _) ?_ | refine Both.mk ?_ ?_ | exact True.intro
    rw [quoI]
    refine Br.t (by simp; omega) ?_
    repeat' first | refine Len.map ?_ | refine Len.nil ?_ | refine Len.cons ?_ | refine Br.t rfl ?_ | refine Br.f rfl ?_ | refine Fit.au ?_ | refine Cv.au ?_ | refine Need.ne ?_ | refine Need.au ?_ | refine Pick.map (by assumption) ?_ | refine Pick.mapI (by omega) (by assumption) ?_ | refine PickN.mk _ (by assumption) ?_ | refine PickN.mk _ rfl ?_ | refine PickN.au ?_ | refine App.au rfl ?_ | refine App.au (own_map (fun _ => rfl) _) ?_ | refine Both.mk ?_ ?_ | exact True.intro
    refine go 1000 Tryd.func11 ?_
    repeat' first | refine Len.map ?_ | refine Len.nil ?_ | refine Len.cons ?_ | refine Br.t rfl ?_ | refine Br.f rfl ?_ | refine Fit.au ?_ | refine Cv.au ?_ | refine Need.ne ?_ | refine Need.au ?_ | refine Pick.map (by assumption) ?_ | refine Pick.mapI (by omega) (by assumption) ?_ | refine PickN.mk _ (by assumption) ?_ | refine PickN.mk _ rfl ?_ | refine PickN.au ?_ | refine App.au rfl ?_ | refine App.au (own_map (fun _ => rfl) _) ?_ | refine Both.mk ?_ ?_ | exact True.intro
    rw [hasW_out (by omega)]; rfl
end Go.Proofs.YtdgibhndjdgllaaDoor

/- What an instruction reads, as the program says it, by a contract. -/
namespace Go.Proofs.YtdgibhndjdgllaaDoor
open Go.Ax
set_option maxRecDepth 10000
set_option linter.unusedVariables false

def uY (l : Nat) : AV := .lit (.func (.yield l) #[] #[])
def uTM : TM := [(8, .fn 112 [.hp 3 0, .hp 2 0]), (3, .hp 1 0)]
def uLp (sa bd : Code) (l D : Nat) : Lp := ⟨l, D, 66, 17, uTM, #[9], sa, bd, .ready, none⟩
def uH (sa bd : Code) (i : Ins) (l D : Nat) (xs : List Int) : HP := [(0, .var i.cs), (1, .var [.osl 1 (xs.map int1)]), (2, .var [.hp 0 0]), (3, .var [num (hasF i.op)]), (4, .lp (uLp sa bd l D))]

def rangeSa (f : Func) : Code := (rangeOf f).2.1
def rangeBd (f : Func) : Code := (rangeOf f).2.2
set_option maxHeartbeats 2000000 in
theorem round133 (i : Ins) (l D lo : Nat) (xs : List Int) (v : Int) (r : AV) (hr : (r = .hp 0 2 ∧ v = i.a) ∨ (r = .hp 0 3 ∧ v = i.b) ∨ (r = .hp 0 4 ∧ v = i.c) ∨ r = .pt [num v]) (hx : xs.length ≤ 2000000)
    {K : AV → HP → Nat → Prop} (hK : ∀ hp nx, subR [] hp (uH (rangeSa Tryd.f66) (rangeBd Tryd.f66) i l D (xs ++ [v])) → K (.lit (.bool true)) hp nx) :
    Run Tryd.prog 66 (Post.rnd l lo K) [.code (rangeSa Tryd.f66), .beginRound, .code (rangeBd Tryd.f66)] ⟨(9, r) :: uTM, uH (rangeSa Tryd.f66) (rangeBd Tryd.f66) i l D xs, 5, 17⟩ := by
  rcases hr with ⟨rfl, rfl⟩ | ⟨rfl, rfl⟩ | ⟨rfl, rfl⟩ | rfl
  all_goals
    refine goR 1000 ?_
    repeat' first | refine Len.map ?_ | refine Len.nil ?_ | refine Len.cons ?_ | refine Br.t rfl ?_ | refine Br.f rfl ?_ | refine Fit.au ?_ | refine Cv.au ?_ | refine Need.ne ?_ | refine Need.au ?_ | refine Pick.map (by assumption) ?_ | refine Pick.mapI (by omega) (by assumption) ?_ | refine PickN.mk _ (by assumption) ?_ | refine PickN.mk _ rfl ?_ | refine PickN.au ?_ | refine App.au rfl ?_ | refine App.au (own_map (fun _ => rfl) _) ?_ | refine Both.mk ?_ ?_ | exact True.intro
    refine Stop.mk (run_begin 4 rfl rfl rfl (goR 1000 ?_))
    repeat' first | refine Draw.mk (.one 1 false (.one 2 false (.alt 0 (ordL [3, 4, 5, 6] [3, 4, 5, 6]) (.alt 3 (.alt 0 (ordL [4, 5, 6] [4, 5, 6]) (.alt 4 (ordL [0, 5, 6] [0, 5, 6]) .no)) .no)))) (by decide +kernel) ?_ | refine Len.map ?_ | refine Len.nil ?_ | refine Len.cons ?_ | refine Br.t rfl ?_ | refine Br.f rfl ?_ | refine Fit.au ?_ | refine Cv.au ?_ | refine Need.ne ?_ | refine Need.au ?_ | refine Pick.map (by assumption) ?_ | refine Pick.mapI (by omega) (by assumption) ?_ | refine PickN.mk _ (by assumption) ?_ | refine PickN.mk _ rfl ?_ | refine PickN.au ?_ | refine App.au rfl ?_ | refine App.au (own_map (fun _ => rfl) _) ?_ | refine Both.mk ?_ ?_ | exact True.intro
  all_goals
    refine Need.mk rfl ?_
    refine hK _ _ ?_
    unfold uH
    rw [List.map_append]
    repeat' first | exact trivial | refine ⟨rfl, ?_⟩

set_option maxHeartbeats 4000000 in
theorem Uses133_spec (i : Ins) (hi : i.args.length ≤ 1000000) : FnSpec Tryd.prog 66 [insA i] (fun r => r = .osl 1 ((usesF i).map int1)) := by
  have hi2 : i.fits := by unfold Ins.fits; omega
  have la := usesA_len i
  have lb := usesB_len i
  have lc := usesC_len i
  refine FnSpec.weakV (spec_of 1000 Tryd.func66 rfl rfl ?_)
  repeat' first | refine Call.eq (Right_spec i hi2) rfl ?_ | refine Len.map ?_ | refine Len.nil ?_ | refine Len.cons ?_ | refine Br.t rfl ?_ | refine Br.f rfl ?_ | refine Fit.au ?_ | refine Cv.au ?_ | refine Need.ne ?_ | refine Need.au ?_ | refine Pick.map (by assumption) ?_ | refine Pick.mapI (by omega) (by assumption) ?_ | refine PickN.mk _ (by assumption) ?_ | refine PickN.mk _ rfl ?_ | refine PickN.au ?_ | refine App.au rfl ?_ | refine App.au (own_map (fun _ => rfl) _) ?_ | refine Both.mk ?_ ?_ | exact True.intro
  refine Br.mk (fun h => ?_) (fun h => ?_)
  · repeat' first | refine Len.map ?_ | refine Len.nil ?_ | refine Len.cons ?_ | refine Br.t rfl ?_ | refine Br.f rfl ?_ | refine Fit.au ?_ | refine Cv.au ?_ | refine Need.ne ?_ | refine Need.au ?_ | refine Pick.map (by assumption) ?_ | refine Pick.mapI (by omega) (by assumption) ?_ | refine PickN.mk _ (by assumption) ?_ | refine PickN.mk _ rfl ?_ | refine PickN.au ?_ | refine App.au rfl ?_ | refine App.au (own_map (fun _ => rfl) _) ?_ | refine Both.mk ?_ ?_ | exact True.intro
    refine .inr ?_
    have e : usesF i = [] := by unfold usesF; rw [if_neg (by rw [← right_eq]; simp_all)]
    rw [e]; exact OLe.onil
  have hr : rightF i = true := by simpa using h
  repeat' first | refine Len.map ?_ | refine Len.nil ?_ | refine Len.cons ?_ | refine Br.t rfl ?_ | refine Br.f rfl ?_ | refine Fit.au ?_ | refine Cv.au ?_ | refine Need.ne ?_ | refine Need.au ?_ | refine Pick.map (by assumption) ?_ | refine Pick.mapI (by omega) (by assumption) ?_ | refine PickN.mk _ (by assumption) ?_ | refine PickN.mk _ rfl ?_ | refine PickN.au ?_ | refine App.au rfl ?_ | refine App.au (own_map (fun _ => rfl) _) ?_ | refine Both.mk ?_ ?_ | exact True.intro
  refine Look.stop (Stop.mk ?_)
  refine run_inlC rfl want_none rfl rfl rfl rfl rfl rfl rfl (goI 1000 Tryd.func94 ?_)
  repeat' first | refine Call.eq (has_spec _) rfl ?_ | refine Len.map ?_ | refine Len.nil ?_ | refine Len.cons ?_ | refine Br.t rfl ?_ | refine Br.f rfl ?_ | refine Fit.au ?_ | refine Cv.au ?_ | refine Need.ne ?_ | refine Need.au ?_ | refine Pick.map (by assumption) ?_ | refine Pick.mapI (by omega) (by assumption) ?_ | refine PickN.mk _ (by assumption) ?_ | refine PickN.mk _ rfl ?_ | refine PickN.au ?_ | refine App.au rfl ?_ | refine App.au (own_map (fun _ => rfl) _) ?_ | refine Both.mk ?_ ?_ | exact True.intro
  refine go 1000 Tryd.func66 ?_
  repeat' first | refine Len.map ?_ | refine Len.nil ?_ | refine Len.cons ?_ | refine Br.t rfl ?_ | refine Br.f rfl ?_ | refine Fit.au ?_ | refine Cv.au ?_ | refine Need.ne ?_ | refine Need.au ?_ | refine Pick.map (by assumption) ?_ | refine Pick.mapI (by omega) (by assumption) ?_ | refine PickN.mk _ (by assumption) ?_ | refine PickN.mk _ rfl ?_ | refine PickN.au ?_ | refine App.au rfl ?_ | refine App.au (own_map (fun _ => rfl) _) ?_ | refine Both.mk ?_ ?_ | exact True.intro
  refine Stop.mk (run_varLe 1 rfl (.cons (VLe.onil (sz := 1)) .nil) ?_)
  refine Run.fr (tm' := uTM) (hp' := [(0, .var i.cs), (1, .var [.osl 1 []]), (2, .var [.hp 0 0]), (3, .var [num (hasF i.op)])]) (nx' := 4) (nt := 17) ?_ (g := []) ⟨rfl, (by repeat' first | exact trivial | refine ⟨rfl, ?_⟩ | refine ⟨congrArg (fun n => AV.lit (.int .i64 n)) (by omega), ?_⟩ | refine ⟨congrArg (fun l => some (Row.row 1 l)) (by simp [int1, num, tru]), ?_⟩), (by repeat' first | exact trivial | refine ⟨rfl, ?_⟩ | refine ⟨congrArg (fun n => AV.lit (.int .i64 n)) (by omega), ?_⟩ | refine ⟨congrArg (fun l => some (Row.row 1 l)) (by simp [int1, num, tru]), ?_⟩)⟩
  refine run_rangeC rfl rfl rfl rfl rfl rfl rfl (fun l D => ?_)
  refine Run.fr (tm' := [(0, uY l), (1, .hp 3 0), (2, .hp 2 0)]) (hp' := uH (rangeSa Tryd.f66) (rangeBd Tryd.f66) i l D []) (nx' := 5) (nt := 68) ?_ (g := []) ⟨rfl, (by repeat' first | exact trivial | refine ⟨rfl, ?_⟩ | refine ⟨congrArg (fun n => AV.lit (.int .i64 n)) (by omega), ?_⟩ | refine ⟨congrArg (fun l => some (Row.row 1 l)) (by simp [int1, num, tru]), ?_⟩), (by repeat' first | exact trivial | refine ⟨rfl, ?_⟩ | refine ⟨congrArg (fun n => AV.lit (.int .i64 n)) (by omega), ?_⟩ | refine ⟨congrArg (fun l => some (Row.row 1 l)) (by simp [int1, num, tru]), ?_⟩)⟩
  apply join (fun xs : List Int => [(0, uY l), (1, .hp 3 0), (2, .hp 2 0)]) (fun xs => uH (rangeSa Tryd.f66) (rangeBd Tryd.f66) i l D xs) 5 (fun xs => xs = usesA i)
  · intro jn
    refine goI 17 Tryd.func112 ?_
    repeat' first | refine Len.map ?_ | refine Len.nil ?_ | refine Len.cons ?_ | refine Br.t rfl ?_ | refine Br.f rfl ?_ | refine Fit.au ?_ | refine Cv.au ?_ | refine Need.ne ?_ | refine Need.au ?_ | refine Pick.map (by assumption) ?_ | refine Pick.mapI (by omega) (by assumption) ?_ | refine PickN.mk _ (by assumption) ?_ | refine PickN.mk _ rfl ?_ | refine PickN.au ?_ | refine App.au rfl ?_ | refine App.au (own_map (fun _ => rfl) _) ?_ | refine Both.mk ?_ ?_ | exact True.intro | refine Br.d (fun h => ?_) (fun h => ?_) | refine Br.nd (fun h => ?_) (fun h => ?_) | refine Br.mk (fun h => ?_) (fun h => ?_)
    · refine Stop.mk (run_yieldC 4 rfl ⟨_, rfl, rfl, rfl⟩ rfl rfl rfl rfl rfl rfl rfl (round133 i l D 5 [] i.a (.hp 0 2) (.inl ⟨rfl, rfl⟩) (by simp) fun hp nx hs => ?_))
      refine Run.fr (g := []) (tm' := [(13, tru true), (8, tru true), (0, uY l), (1, .hp 3 0), (2, .hp 2 0)]) (hp' := uH (rangeSa Tryd.f66) (rangeBd Tryd.f66) i l D ([] ++ [i.a])) (nx' := 5) (nt := 68) ?_ ⟨rfl, (by repeat' first | exact trivial | refine ⟨rfl, ?_⟩), hs⟩
      refine goI 5 Tryd.func112 ?_
      repeat' first | refine Len.map ?_ | refine Len.nil ?_ | refine Len.cons ?_ | refine Br.t rfl ?_ | refine Br.f rfl ?_ | refine Fit.au ?_ | refine Cv.au ?_ | refine Need.ne ?_ | refine Need.au ?_ | refine Pick.map (by assumption) ?_ | refine Pick.mapI (by omega) (by assumption) ?_ | refine PickN.mk _ (by assumption) ?_ | refine PickN.mk _ rfl ?_ | refine PickN.au ?_ | refine App.au rfl ?_ | refine App.au (own_map (fun _ => rfl) _) ?_ | refine Both.mk ?_ ?_ | exact True.intro
      refine Stop.mk (jn [i.a] (g := []) _ _ _ ⟨rfl, (by repeat' first | exact trivial | refine ⟨rfl, ?_⟩ | refine ⟨congrArg (fun n => AV.lit (.int .i64 n)) (by omega), ?_⟩ | refine ⟨congrArg (fun l => some (Row.row 1 l)) (by simp [int1, num, tru]), ?_⟩), (by repeat' first | exact trivial | refine ⟨rfl, ?_⟩ | refine ⟨congrArg (fun n => AV.lit (.int .i64 n)) (by omega), ?_⟩ | refine ⟨congrArg (fun l => some (Row.row 1 l)) (by simp [int1, num, tru]), ?_⟩)⟩ ?_)
      exact (if_pos h).symm
    · refine Stop.mk (jn [] (g := []) _ _ _ ⟨rfl, (by repeat' first | exact trivial | refine ⟨rfl, ?_⟩ | refine ⟨congrArg (fun n => AV.lit (.int .i64 n)) (by omega), ?_⟩ | refine ⟨congrArg (fun l => some (Row.row 1 l)) (by simp [int1, num, tru]), ?_⟩), (by repeat' first | exact trivial | refine ⟨rfl, ?_⟩ | refine ⟨congrArg (fun n => AV.lit (.int .i64 n)) (by omega), ?_⟩ | refine ⟨congrArg (fun l => some (Row.row 1 l)) (by simp [int1, num, tru]), ?_⟩)⟩ ?_)
      exact (if_neg (fun hn => hn h)).symm
  intro xs hxs
  have lx : xs.length ≤ 1 := by rw [hxs]; exact la
  apply join (fun xs : List Int => [(0, uY l), (1, .hp 3 0), (2, .hp 2 0)]) (fun xs => uH (rangeSa Tryd.f66) (rangeBd Tryd.f66) i l D xs) 5 (fun ys => ys = xs ++ usesB i)
  · intro jn
    refine goI 29 Tryd.func112 ?_
    repeat' first | refine Len.map ?_ | refine Len.nil ?_ | refine Len.cons ?_ | refine Br.t rfl ?_ | refine Br.f rfl ?_ | refine Fit.au ?_ | refine Cv.au ?_ | refine Need.ne ?_ | refine Need.au ?_ | refine Pick.map (by assumption) ?_ | refine Pick.mapI (by omega) (by assumption) ?_ | refine PickN.mk _ (by assumption) ?_ | refine PickN.mk _ rfl ?_ | refine PickN.au ?_ | refine App.au rfl ?_ | refine App.au (own_map (fun _ => rfl) _) ?_ | refine Both.mk ?_ ?_ | exact True.intro | refine Br.d (fun h => ?_) (fun h => ?_) | refine Br.nd (fun h => ?_) (fun h => ?_) | refine Br.mk (fun h => ?_) (fun h => ?_)
    · refine Stop.mk (run_yieldC 4 rfl ⟨_, rfl, rfl, rfl⟩ rfl rfl rfl rfl rfl rfl rfl (round133 i l D 5 xs i.b (.hp 0 3) (.inr (.inl ⟨rfl, rfl⟩)) (by omega) fun hp nx hs => ?_))
      refine Run.fr (g := []) (tm' := [(36, tru true), (31, tru true), (0, uY l), (1, .hp 3 0), (2, .hp 2 0)]) (hp' := uH (rangeSa Tryd.f66) (rangeBd Tryd.f66) i l D (xs ++ [i.b])) (nx' := 5) (nt := 68) ?_ ⟨rfl, (by repeat' first | exact trivial | refine ⟨rfl, ?_⟩), hs⟩
      refine goI 5 Tryd.func112 ?_
      repeat' first | refine Len.map ?_ | refine Len.nil ?_ | refine Len.cons ?_ | refine Br.t rfl ?_ | refine Br.f rfl ?_ | refine Fit.au ?_ | refine Cv.au ?_ | refine Need.ne ?_ | refine Need.au ?_ | refine Pick.map (by assumption) ?_ | refine Pick.mapI (by omega) (by assumption) ?_ | refine PickN.mk _ (by assumption) ?_ | refine PickN.mk _ rfl ?_ | refine PickN.au ?_ | refine App.au rfl ?_ | refine App.au (own_map (fun _ => rfl) _) ?_ | refine Both.mk ?_ ?_ | exact True.intro
      refine Stop.mk (jn (xs ++ [i.b]) (g := []) _ _ _ ⟨rfl, (by repeat' first | exact trivial | refine ⟨rfl, ?_⟩ | refine ⟨congrArg (fun n => AV.lit (.int .i64 n)) (by omega), ?_⟩ | refine ⟨congrArg (fun l => some (Row.row 1 l)) (by simp [int1, num, tru]), ?_⟩), (by repeat' first | exact trivial | refine ⟨rfl, ?_⟩ | refine ⟨congrArg (fun n => AV.lit (.int .i64 n)) (by omega), ?_⟩ | refine ⟨congrArg (fun l => some (Row.row 1 l)) (by simp [int1, num, tru]), ?_⟩)⟩ ?_)
      have e : usesB i = [i.b] := if_pos (by clear jn; simp only [band_eq] at *; simp_all; done)
      rw [e]
    · refine Stop.mk (run_yieldC 4 rfl ⟨_, rfl, rfl, rfl⟩ rfl rfl rfl rfl rfl rfl rfl (round133 i l D 5 xs i.b (.hp 0 3) (.inr (.inl ⟨rfl, rfl⟩)) (by omega) fun hp nx hs => ?_))
      refine Run.fr (g := []) (tm' := [(36, tru true), (31, tru true), (0, uY l), (1, .hp 3 0), (2, .hp 2 0)]) (hp' := uH (rangeSa Tryd.f66) (rangeBd Tryd.f66) i l D (xs ++ [i.b])) (nx' := 5) (nt := 68) ?_ ⟨rfl, (by repeat' first | exact trivial | refine ⟨rfl, ?_⟩), hs⟩
      refine goI 5 Tryd.func112 ?_
      repeat' first | refine Len.map ?_ | refine Len.nil ?_ | refine Len.cons ?_ | refine Br.t rfl ?_ | refine Br.f rfl ?_ | refine Fit.au ?_ | refine Cv.au ?_ | refine Need.ne ?_ | refine Need.au ?_ | refine Pick.map (by assumption) ?_ | refine Pick.mapI (by omega) (by assumption) ?_ | refine PickN.mk _ (by assumption) ?_ | refine PickN.mk _ rfl ?_ | refine PickN.au ?_ | refine App.au rfl ?_ | refine App.au (own_map (fun _ => rfl) _) ?_ | refine Both.mk ?_ ?_ | exact True.intro
      refine Stop.mk (jn (xs ++ [i.b]) (g := []) _ _ _ ⟨rfl, (by repeat' first | exact trivial | refine ⟨rfl, ?_⟩ | refine ⟨congrArg (fun n => AV.lit (.int .i64 n)) (by omega), ?_⟩ | refine ⟨congrArg (fun l => some (Row.row 1 l)) (by simp [int1, num, tru]), ?_⟩), (by repeat' first | exact trivial | refine ⟨rfl, ?_⟩ | refine ⟨congrArg (fun n => AV.lit (.int .i64 n)) (by omega), ?_⟩ | refine ⟨congrArg (fun l => some (Row.row 1 l)) (by simp [int1, num, tru]), ?_⟩)⟩ ?_)
      have e : usesB i = [i.b] := if_pos (by clear jn; simp only [band_eq] at *; simp_all; done)
      rw [e]
    · refine Stop.mk (jn xs (g := []) _ _ _ ⟨rfl, (by repeat' first | exact trivial | refine ⟨rfl, ?_⟩ | refine ⟨congrArg (fun n => AV.lit (.int .i64 n)) (by omega), ?_⟩ | refine ⟨congrArg (fun l => some (Row.row 1 l)) (by simp [int1, num, tru]), ?_⟩), (by repeat' first | exact trivial | refine ⟨rfl, ?_⟩ | refine ⟨congrArg (fun n => AV.lit (.int .i64 n)) (by omega), ?_⟩ | refine ⟨congrArg (fun l => some (Row.row 1 l)) (by simp [int1, num, tru]), ?_⟩)⟩ ?_)
      have e : usesB i = [] := if_neg (by clear jn; simp only [band_eq] at *; simp_all; done)
      rw [e, List.append_nil]
    · refine Stop.mk (jn xs (g := []) _ _ _ ⟨rfl, (by repeat' first | exact trivial | refine ⟨rfl, ?_⟩ | refine ⟨congrArg (fun n => AV.lit (.int .i64 n)) (by omega), ?_⟩ | refine ⟨congrArg (fun l => some (Row.row 1 l)) (by simp [int1, num, tru]), ?_⟩), (by repeat' first | exact trivial | refine ⟨rfl, ?_⟩ | refine ⟨congrArg (fun n => AV.lit (.int .i64 n)) (by omega), ?_⟩ | refine ⟨congrArg (fun l => some (Row.row 1 l)) (by simp [int1, num, tru]), ?_⟩)⟩ ?_)
      have e : usesB i = [] := if_neg (by clear jn; simp only [band_eq] at *; simp_all; done)
      rw [e, List.append_nil]
  intro ys hys
  have ly : ys.length ≤ 2 := by rw [hys, List.length_append]; omega
  apply join (fun xs : List Int => [(0, uY l), (1, .hp 3 0), (2, .hp 2 0)]) (fun xs => uH (rangeSa Tryd.f66) (rangeBd Tryd.f66) i l D xs) 5 (fun zs => zs = ys ++ usesC i)
  · intro jn
    refine goI 17 Tryd.func112 ?_
    repeat' first | refine Len.map ?_ | refine Len.nil ?_ | refine Len.cons ?_ | refine Br.t rfl ?_ | refine Br.f rfl ?_ | refine Fit.au ?_ | refine Cv.au ?_ | refine Need.ne ?_ | refine Need.au ?_ | refine Pick.map (by assumption) ?_ | refine Pick.mapI (by omega) (by assumption) ?_ | refine PickN.mk _ (by assumption) ?_ | refine PickN.mk _ rfl ?_ | refine PickN.au ?_ | refine App.au rfl ?_ | refine App.au (own_map (fun _ => rfl) _) ?_ | refine Both.mk ?_ ?_ | exact True.intro | refine Br.d (fun h => ?_) (fun h => ?_) | refine Br.nd (fun h => ?_) (fun h => ?_) | refine Br.mk (fun h => ?_) (fun h => ?_)
    · refine Stop.mk (run_yieldC 4 rfl ⟨_, rfl, rfl, rfl⟩ rfl rfl rfl rfl rfl rfl rfl (round133 i l D 5 ys i.c (.hp 0 4) (.inr (.inr (.inl ⟨rfl, rfl⟩))) (by omega) fun hp nx hs => ?_))
      refine Run.fr (g := []) (tm' := [(47, tru true), (42, tru true), (0, uY l), (1, .hp 3 0), (2, .hp 2 0)]) (hp' := uH (rangeSa Tryd.f66) (rangeBd Tryd.f66) i l D (ys ++ [i.c])) (nx' := 5) (nt := 68) ?_ ⟨rfl, (by repeat' first | exact trivial | refine ⟨rfl, ?_⟩), hs⟩
      refine goI 5 Tryd.func112 ?_
      repeat' first | refine Len.map ?_ | refine Len.nil ?_ | refine Len.cons ?_ | refine Br.t rfl ?_ | refine Br.f rfl ?_ | refine Fit.au ?_ | refine Cv.au ?_ | refine Need.ne ?_ | refine Need.au ?_ | refine Pick.map (by assumption) ?_ | refine Pick.mapI (by omega) (by assumption) ?_ | refine PickN.mk _ (by assumption) ?_ | refine PickN.mk _ rfl ?_ | refine PickN.au ?_ | refine App.au rfl ?_ | refine App.au (own_map (fun _ => rfl) _) ?_ | refine Both.mk ?_ ?_ | exact True.intro
      refine Stop.mk (jn (ys ++ [i.c]) (g := []) _ _ _ ⟨rfl, (by repeat' first | exact trivial | refine ⟨rfl, ?_⟩ | refine ⟨congrArg (fun n => AV.lit (.int .i64 n)) (by omega), ?_⟩ | refine ⟨congrArg (fun l => some (Row.row 1 l)) (by simp [int1, num, tru]), ?_⟩), (by repeat' first | exact trivial | refine ⟨rfl, ?_⟩ | refine ⟨congrArg (fun n => AV.lit (.int .i64 n)) (by omega), ?_⟩ | refine ⟨congrArg (fun l => some (Row.row 1 l)) (by simp [int1, num, tru]), ?_⟩)⟩ ?_)
      rw [show usesC i = [i.c] from if_pos h]
    · refine Stop.mk (jn ys (g := []) _ _ _ ⟨rfl, (by repeat' first | exact trivial | refine ⟨rfl, ?_⟩ | refine ⟨congrArg (fun n => AV.lit (.int .i64 n)) (by omega), ?_⟩ | refine ⟨congrArg (fun l => some (Row.row 1 l)) (by simp [int1, num, tru]), ?_⟩), (by repeat' first | exact trivial | refine ⟨rfl, ?_⟩ | refine ⟨congrArg (fun n => AV.lit (.int .i64 n)) (by omega), ?_⟩ | refine ⟨congrArg (fun l => some (Row.row 1 l)) (by simp [int1, num, tru]), ?_⟩)⟩ ?_)
      rw [show usesC i = [] from if_neg (fun hn => hn h), List.append_nil]
  intro zs hzs
  have lz : zs.length ≤ 3 := by rw [hzs, List.length_append]; omega
  refine goI 1000 Tryd.func112 ?_
  repeat' first | refine Len.map ?_ | refine Len.nil ?_ | refine Len.cons ?_ | refine Br.t rfl ?_ | refine Br.f rfl ?_ | refine Fit.au ?_ | refine Cv.au ?_ | refine Need.ne ?_ | refine Need.au ?_ | refine Pick.map (by assumption) ?_ | refine Pick.mapI (by omega) (by assumption) ?_ | refine PickN.mk _ (by assumption) ?_ | refine PickN.mk _ rfl ?_ | refine PickN.au ?_ | refine App.au rfl ?_ | refine App.au (own_map (fun _ => rfl) _) ?_ | refine Both.mk ?_ ?_ | exact True.intro
  refine Stop.mk (loop_in (g := []) (fun k : Nat => [(0, uY l), (2, .hp 2 0), (54, num i.args.length), (55, num k)]) (fun k => uH (rangeSa Tryd.f66) (rangeBd Tryd.f66) i l D (zs ++ i.args.take k)) 5 (fun k => k ≤ i.args.length) (fun k => i.args.length - k) 0 (by omega) ?_ (fun k hk ih => ?_))
  · rw [List.take_zero, List.append_nil]; exact ⟨rfl, (by repeat' first | exact trivial | refine ⟨rfl, ?_⟩ | refine ⟨congrArg (fun n => AV.lit (.int .i64 n)) (by omega), ?_⟩ | refine ⟨congrArg (fun l => some (Row.row 1 l)) (by simp [int1, num, tru]), ?_⟩), (by repeat' first | exact trivial | refine ⟨rfl, ?_⟩ | refine ⟨congrArg (fun n => AV.lit (.int .i64 n)) (by omega), ?_⟩ | refine ⟨congrArg (fun l => some (Row.row 1 l)) (by simp [int1, num, tru]), ?_⟩)⟩
  refine goI 1000 Tryd.func112 ?_
  repeat' first | refine Len.map ?_ | refine Len.nil ?_ | refine Len.cons ?_ | refine Br.t rfl ?_ | refine Br.f rfl ?_ | refine Fit.au ?_ | refine Cv.au ?_ | refine Need.ne ?_ | refine Need.au ?_ | refine Pick.map (by assumption) ?_ | refine Pick.mapI (by omega) (by assumption) ?_ | refine PickN.mk _ (by assumption) ?_ | refine PickN.mk _ rfl ?_ | refine PickN.au ?_ | refine App.au rfl ?_ | refine App.au (own_map (fun _ => rfl) _) ?_ | refine Both.mk ?_ ?_ | exact True.intro
  refine Br.d (fun h2 => ?_) (fun h2 => ?_)
  · obtain ⟨x, gx, gxm⟩ := getK (l := i.args) (k := k) (by omega)
    repeat' first | refine Len.map ?_ | refine Len.nil ?_ | refine Len.cons ?_ | refine Br.t rfl ?_ | refine Br.f rfl ?_ | refine Fit.au ?_ | refine Cv.au ?_ | refine Need.ne ?_ | refine Need.au ?_ | refine Pick.map (by assumption) ?_ | refine Pick.mapI (by omega) (by assumption) ?_ | refine PickN.mk _ (by assumption) ?_ | refine PickN.mk _ rfl ?_ | refine PickN.au ?_ | refine App.au rfl ?_ | refine App.au (own_map (fun _ => rfl) _) ?_ | refine Both.mk ?_ ?_ | exact True.intro
    refine Stop.mk (run_yieldC 4 rfl want_none rfl rfl rfl rfl rfl rfl rfl (round133 i l D 5 (zs ++ i.args.take k) x (.pt [num x]) (.inr (.inr (.inr rfl))) (by simp; omega) fun hp nx hs => ?_))
    refine Run.fr (g := []) (tm' := [(65, tru true), (0, uY l), (2, .hp 2 0), (54, num i.args.length), (55, num k)]) (hp' := uH (rangeSa Tryd.f66) (rangeBd Tryd.f66) i l D ((zs ++ i.args.take k) ++ [x])) (nx' := 5) (nt := 68) ?_ ⟨rfl, (by repeat' first | exact trivial | refine ⟨rfl, ?_⟩), hs⟩
    refine goI 1000 Tryd.func112 ?_
    repeat' first | refine Len.map ?_ | refine Len.nil ?_ | refine Len.cons ?_ | refine Br.t rfl ?_ | refine Br.f rfl ?_ | refine Fit.au ?_ | refine Cv.au ?_ | refine Need.ne ?_ | refine Need.au ?_ | refine Pick.map (by assumption) ?_ | refine Pick.mapI (by omega) (by assumption) ?_ | refine PickN.mk _ (by assumption) ?_ | refine PickN.mk _ rfl ?_ | refine PickN.au ?_ | refine App.au rfl ?_ | refine App.au (own_map (fun _ => rfl) _) ?_ | refine Both.mk ?_ ?_ | exact True.intro
    refine Stop.mk (ih (k + 1) (g := []) _ _ _ (by omega) (by omega) ?_)
    rw [take_succ gx, ← List.append_assoc]
    exact ⟨rfl, (by repeat' first | exact trivial | refine ⟨rfl, ?_⟩ | refine ⟨congrArg (fun n => AV.lit (.int .i64 n)) (by omega), ?_⟩ | refine ⟨congrArg (fun l => some (Row.row 1 l)) (by simp [int1, num, tru]), ?_⟩), (by repeat' first | exact trivial | refine ⟨rfl, ?_⟩ | refine ⟨congrArg (fun n => AV.lit (.int .i64 n)) (by omega), ?_⟩ | refine ⟨congrArg (fun l => some (Row.row 1 l)) (by simp [int1, num, tru]), ?_⟩)⟩
  · repeat' first | refine Len.map ?_ | refine Len.nil ?_ | refine Len.cons ?_ | refine Br.t rfl ?_ | refine Br.f rfl ?_ | refine Fit.au ?_ | refine Cv.au ?_ | refine Need.ne ?_ | refine Need.au ?_ | refine Pick.map (by assumption) ?_ | refine Pick.mapI (by omega) (by assumption) ?_ | refine PickN.mk _ (by assumption) ?_ | refine PickN.mk _ rfl ?_ | refine PickN.au ?_ | refine App.au rfl ?_ | refine App.au (own_map (fun _ => rfl) _) ?_ | refine Both.mk ?_ ?_ | exact True.intro
    rw [take_all (by omega)]
    refine ⟨_, rfl, rfl, rfl, (by intro h; cases h), goD 1000 Tryd.func66 ?_⟩
    repeat' first | refine Len.map ?_ | refine Len.nil ?_ | refine Len.cons ?_ | refine Br.t rfl ?_ | refine Br.f rfl ?_ | refine Fit.au ?_ | refine Cv.au ?_ | refine Need.ne ?_ | refine Need.au ?_ | refine Pick.map (by assumption) ?_ | refine Pick.mapI (by omega) (by assumption) ?_ | refine PickN.mk _ (by assumption) ?_ | refine PickN.mk _ rfl ?_ | refine PickN.au ?_ | refine App.au rfl ?_ | refine App.au (own_map (fun _ => rfl) _) ?_ | refine Both.mk ?_ ?_ | exact True.intro
    refine Need.mk rfl ?_
    refine .inl ?_
    show _ = _
    rw [uses_eq hr, hzs, hys, hxs]
    simp [asRes]
end Go.Proofs.YtdgibhndjdgllaaDoor

/- The names of a function, by contracts. -/
namespace Go.Proofs.YtdgibhndjdgllaaDoor
open Go.Ax
set_option maxRecDepth 10000
set_option linter.unusedVariables false

def nilP : AV := .lit (.pointer none)
theorem le_wr0 : OLe (.agg [num 0, num 0, num 0, num 0, num 0, num 0, num 0, num 0, .lit (.slice none 0 0), num 0, tru false]) (.agg Wr0.cs) :=
  .agg (by repeat' first | exact .nil | refine .cons (Le.refl _) ?_ | refine .cons Le.none ?_) rfl

theorem of_spec (n : Names) (x : Int) : FnSpec Tryd.prog 106 [namesA n, num x] (fun r => r = .agg (n.of x).cs) := by
  refine FnSpec.weak (spec_of 1000 Tryd.func106 rfl rfl ?_)
  repeat' first | refine Len.map ?_ | refine Len.nil ?_ | refine Len.cons ?_ | refine Br.t rfl ?_ | refine Br.f rfl ?_ | refine Fit.au ?_ | refine Cv.au ?_ | refine Need.ne ?_ | refine Need.au ?_ | refine Pick.map (by assumption) ?_ | refine Pick.mapI (by omega) (by assumption) ?_ | refine PickN.mk _ (by assumption) ?_ | refine PickN.mk _ rfl ?_ | refine PickN.au ?_ | refine App.au rfl ?_ | refine App.au (own_map (fun _ => rfl) _) ?_ | refine Both.mk ?_ ?_ | exact True.intro | refine Br.d (fun h => ?_) (fun h => ?_) | refine Br.nd (fun h => ?_) (fun h => ?_) | refine Br.mk (fun h => ?_) (fun h => ?_)
  any_goals (show OLe _ _; rw [Names.of, if_neg (by omega)]; exact le_wr0)
  obtain ⟨w, gw, -⟩ := getK (l := n.ws) (k := x.toNat) (by omega)
  repeat' first | refine Len.map ?_ | refine Len.nil ?_ | refine Len.cons ?_ | refine Br.t rfl ?_ | refine Br.f rfl ?_ | refine Fit.au ?_ | refine Cv.au ?_ | refine Need.ne ?_ | refine Need.au ?_ | refine Pick.map (by assumption) ?_ | refine Pick.mapI (by omega) (by assumption) ?_ | refine PickN.mk _ (by assumption) ?_ | refine PickN.mk _ rfl ?_ | refine PickN.au ?_ | refine App.au rfl ?_ | refine App.au (own_map (fun _ => rfl) _) ?_ | refine Both.mk ?_ ?_ | exact True.intro
  show OLe _ _
  rw [Names.of, if_pos (by omega)]
  simp only [List.getD_eq_getElem?_getD, gw, Option.getD_some]
  exact OLe.refl _

theorem of_nil (x : Int) : FnSpec Tryd.prog 106 [nilP, num x] (fun r => r = .agg Wr0.cs) := by
  refine FnSpec.weak (spec_of 1000 Tryd.func106 rfl rfl ?_)
  repeat' first | refine Len.map ?_ | refine Len.nil ?_ | refine Len.cons ?_ | refine Br.t rfl ?_ | refine Br.f rfl ?_ | refine Fit.au ?_ | refine Cv.au ?_ | refine Need.ne ?_ | refine Need.au ?_ | refine Pick.map (by assumption) ?_ | refine Pick.mapI (by omega) (by assumption) ?_ | refine PickN.mk _ (by assumption) ?_ | refine PickN.mk _ rfl ?_ | refine PickN.au ?_ | refine App.au rfl ?_ | refine App.au (own_map (fun _ => rfl) _) ?_ | refine Both.mk ?_ ?_ | exact True.intro | refine Br.d (fun h => ?_) (fun h => ?_) | refine Br.nd (fun h => ?_) (fun h => ?_) | refine Br.mk (fun h => ?_) (fun h => ?_)
  exact le_wr0

theorem Writer_spec (n : Names) (x : Int) : FnSpec Tryd.prog 81 [namesA n, num x] (fun r => r = .tup [insA (n.of x).i, tru (n.of x).is]) := by
  refine spec_of 1000 Tryd.func81 rfl rfl ?_
  repeat' first | refine Call.eq (of_spec n _) rfl ?_ | refine Draw.mk (.one 0 false (.one 1 false (.one 2 false (.alt 3 (ordL [4] [4, 5]) (.alt 4 (ordL [] [3, 5]) .no))))) (by decide +kernel) ?_ | refine Len.map ?_ | refine Len.nil ?_ | refine Len.cons ?_ | refine Br.t rfl ?_ | refine Br.f rfl ?_ | refine Fit.au ?_ | refine Cv.au ?_ | refine Need.ne ?_ | refine Need.au ?_ | refine Pick.map (by assumption) ?_ | refine Pick.mapI (by omega) (by assumption) ?_ | refine PickN.mk _ (by assumption) ?_ | refine PickN.mk _ rfl ?_ | refine PickN.au ?_ | refine App.au rfl ?_ | refine App.au (own_map (fun _ => rfl) _) ?_ | refine Both.mk ?_ ?_ | exact True.intro | refine Br.d (fun h => ?_) (fun h => ?_) | refine Br.nd (fun h => ?_) (fun h => ?_) | refine Br.mk (fun h => ?_) (fun h => ?_)
  all_goals rfl
theorem Writer_nil (x : Int) : FnSpec Tryd.prog 81 [nilP, num x] (fun r => r = .tup [insA Ins.none, tru false]) := by
  refine spec_of 1000 Tryd.func81 rfl rfl ?_
  repeat' first | refine Call.eq (of_nil _) rfl ?_ | refine Draw.mk (.one 0 false (.one 1 false (.one 2 false (.alt 3 (ordL [4] [4, 5]) (.alt 4 (ordL [] [3, 5]) .no))))) (by decide +kernel) ?_ | refine Len.map ?_ | refine Len.nil ?_ | refine Len.cons ?_ | refine Br.t rfl ?_ | refine Br.f rfl ?_ | refine Fit.au ?_ | refine Cv.au ?_ | refine Need.ne ?_ | refine Need.au ?_ | refine Pick.map (by assumption) ?_ | refine Pick.mapI (by omega) (by assumption) ?_ | refine PickN.mk _ (by assumption) ?_ | refine PickN.mk _ rfl ?_ | refine PickN.au ?_ | refine App.au rfl ?_ | refine App.au (own_map (fun _ => rfl) _) ?_ | refine Both.mk ?_ ?_ | exact True.intro | refine Br.d (fun h => ?_) (fun h => ?_) | refine Br.nd (fun h => ?_) (fun h => ?_) | refine Br.mk (fun h => ?_) (fun h => ?_)
  all_goals rfl

theorem Chain_spec (n : Names) (x : Int) (hn : n.ws.length ≤ 1000) : FnSpec Tryd.prog 80 [namesA n, num x] (fun r => r = .osl 1 ((n.chain x).map int1) ∨ (r = .lit (.slice none 0 0) ∧ n.chain x = [])) := by
  refine spec_of 1000 Tryd.func80 rfl rfl ?_
  repeat' first | refine Len.map ?_ | refine Len.nil ?_ | refine Len.cons ?_ | refine Br.t rfl ?_ | refine Br.f rfl ?_ | refine Fit.au ?_ | refine Cv.au ?_ | refine Need.ne ?_ | refine Need.au ?_ | refine Pick.map (by assumption) ?_ | refine Pick.mapI (by omega) (by assumption) ?_ | refine PickN.mk _ (by assumption) ?_ | refine PickN.mk _ rfl ?_ | refine PickN.au ?_ | refine App.au rfl ?_ | refine App.au (own_map (fun _ => rfl) _) ?_ | refine Both.mk ?_ ?_ | exact True.intro | refine Br.d (fun h => ?_) (fun h => ?_) | refine Br.nd (fun h => ?_) (fun h => ?_) | refine Br.mk (fun h => ?_) (fun h => ?_)
  any_goals first | (show _ ∨ _; right; refine ⟨rfl, ?_⟩; rw [Names.chain, if_neg (by omega)]) | skip
  refine Stop.mk (loop_in (fun p : List Int × Int => [(0, namesA n), (5, .hw 0)]) (fun p => [(0, .row 1 ((p.1 ++ [p.2]).map int1))]) 1 (fun p => p.1.length ≤ n.ws.length ∧ n.chain x = p.1 ++ n.up (n.ws.length - p.1.length) p.2) (fun p => n.ws.length - p.1.length) ([], x) ⟨by simp, by rw [Names.chain, if_pos (by omega)]; rfl⟩ (g := []) ⟨rfl, (by repeat' first | exact trivial | refine ⟨rfl, ?_⟩ | refine ⟨congrArg (fun n => AV.lit (.int .i64 n)) (by omega), ?_⟩ | refine ⟨congrArg (fun l => some (Row.row 1 l)) (by simp [int1, num, tru]), ?_⟩), (by repeat' first | exact trivial | refine ⟨rfl, ?_⟩ | refine ⟨congrArg (fun n => AV.lit (.int .i64 n)) (by omega), ?_⟩ | refine ⟨congrArg (fun l => some (Row.row 1 l)) (by simp [int1, num, tru]), ?_⟩)⟩ (fun p hp ih => ?_))
  obtain ⟨pre, y⟩ := p
  obtain ⟨h1, h2⟩ := hp
  dsimp only at h1 h2 ih ⊢
  refine go 1000 Tryd.func80 ?_
  have hlen : (pre ++ [y]).length = pre.length + 1 := by simp
  have gy : ((pre ++ [y]).map int1)[(((pre ++ [y]).length : Int) - 1).toNat]? = some (int1 y) := by
    rw [show (((pre ++ [y]).length : Int) - 1).toNat = pre.length by omega]; simp
  repeat' first | refine Len.map ?_ | refine Len.nil ?_ | refine Len.cons ?_ | refine Br.t rfl ?_ | refine Br.f rfl ?_ | refine Fit.au ?_ | refine Cv.au ?_ | refine Need.ne ?_ | refine Need.au ?_ | refine Pick.map (by assumption) ?_ | refine Pick.mapI (by omega) (by assumption) ?_ | refine PickN.mk _ (by assumption) ?_ | refine PickN.mk _ rfl ?_ | refine PickN.au ?_ | refine App.au rfl ?_ | refine App.au (own_map (fun _ => rfl) _) ?_ | refine Both.mk ?_ ?_ | exact True.intro
  refine Br.d (fun h3 => ?_) (fun h3 => ?_)
  · have hk : n.ws.length - pre.length = (n.ws.length - (pre.length + 1)) + 1 := by omega
    rw [hk] at h2
    simp only [Names.up] at h2
    repeat' first | refine Call.eq (of_spec n _) rfl ?_ | refine Len.map ?_ | refine Len.nil ?_ | refine Len.cons ?_ | refine Br.t rfl ?_ | refine Br.f rfl ?_ | refine Fit.au ?_ | refine Cv.au ?_ | refine Need.ne ?_ | refine Need.au ?_ | refine Pick.map (by assumption) ?_ | refine Pick.mapI (by omega) (by assumption) ?_ | refine PickN.mk _ (by assumption) ?_ | refine PickN.mk _ rfl ?_ | refine PickN.au ?_ | refine App.au rfl ?_ | refine App.au (own_map (fun _ => rfl) _) ?_ | refine Both.mk ?_ ?_ | exact True.intro | refine Br.d (fun h => ?_) (fun h => ?_) | refine Br.nd (fun h => ?_) (fun h => ?_) | refine Br.mk (fun h => ?_) (fun h => ?_)
    · rename_i h4
      refine Stop.mk (ih (pre ++ [y], (n.of y).i.a) _ _ _ ⟨by simp; omega, ?_⟩ (by simp; omega) (g := [(0, 3)]) ⟨rfl, (by repeat' first | exact trivial | refine ⟨rfl, ?_⟩ | refine ⟨congrArg (fun n => AV.lit (.int .i64 n)) (by omega), ?_⟩ | refine ⟨congrArg (fun l => some (Row.row 1 l)) (by simp [int1, num, tru]), ?_⟩), (by repeat' first | exact trivial | refine ⟨rfl, ?_⟩ | refine ⟨congrArg (fun n => AV.lit (.int .i64 n)) (by omega), ?_⟩ | refine ⟨congrArg (fun l => some (Row.row 1 l)) (by simp [int1, num, tru]), ?_⟩)⟩)
      rw [h2, if_pos ⟨h4, .inl h⟩]; simp
    · rename_i h4 h5
      refine Stop.mk (ih (pre ++ [y], (n.of y).i.a) _ _ _ ⟨by simp; omega, ?_⟩ (by simp; omega) (g := [(0, 3)]) ⟨rfl, (by repeat' first | exact trivial | refine ⟨rfl, ?_⟩ | refine ⟨congrArg (fun n => AV.lit (.int .i64 n)) (by omega), ?_⟩ | refine ⟨congrArg (fun l => some (Row.row 1 l)) (by simp [int1, num, tru]), ?_⟩), (by repeat' first | exact trivial | refine ⟨rfl, ?_⟩ | refine ⟨congrArg (fun n => AV.lit (.int .i64 n)) (by omega), ?_⟩ | refine ⟨congrArg (fun l => some (Row.row 1 l)) (by simp [int1, num, tru]), ?_⟩)⟩)
      rw [h2, if_pos ⟨h4, .inr h⟩]; simp
    · rename_i h4 h5
      left
      rw [h2, if_neg (by simp [h4, h5, h])]; rfl
    · left
      rw [h2, if_neg (by simp [h])]; rfl
  · repeat' first | refine Len.map ?_ | refine Len.nil ?_ | refine Len.cons ?_ | refine Br.t rfl ?_ | refine Br.f rfl ?_ | refine Fit.au ?_ | refine Cv.au ?_ | refine Need.ne ?_ | refine Need.au ?_ | refine Pick.map (by assumption) ?_ | refine Pick.mapI (by omega) (by assumption) ?_ | refine PickN.mk _ (by assumption) ?_ | refine PickN.mk _ rfl ?_ | refine PickN.au ?_ | refine App.au rfl ?_ | refine App.au (own_map (fun _ => rfl) _) ?_ | refine Both.mk ?_ ?_ | exact True.intro
    left
    rw [h2, show n.ws.length - pre.length = 0 by omega]; rfl

theorem Chain_nil (x : Int) : FnSpec Tryd.prog 80 [nilP, num x] (fun r => r = .lit (.slice none 0 0)) := by
  refine spec_of 1000 Tryd.func80 rfl rfl ?_
  repeat' first | refine Len.map ?_ | refine Len.nil ?_ | refine Len.cons ?_ | refine Br.t rfl ?_ | refine Br.f rfl ?_ | refine Fit.au ?_ | refine Cv.au ?_ | refine Need.ne ?_ | refine Need.au ?_ | refine Pick.map (by assumption) ?_ | refine Pick.mapI (by omega) (by assumption) ?_ | refine PickN.mk _ (by assumption) ?_ | refine PickN.mk _ rfl ?_ | refine PickN.au ?_ | refine App.au rfl ?_ | refine App.au (own_map (fun _ => rfl) _) ?_ | refine Both.mk ?_ ?_ | exact True.intro | refine Br.d (fun h => ?_) (fun h => ?_) | refine Br.nd (fun h => ?_) (fun h => ?_) | refine Br.mk (fun h => ?_) (fun h => ?_)
  rfl

theorem chain_ne {n : Names} {x : Int} (h : 0 ≤ x ∧ x < n.ws.length) : n.chain x ≠ [] := by
  rw [Names.chain, if_pos h]
  cases n.ws.length with
  | zero => simp [Names.up]
  | succ k => unfold Names.up; split <;> simp

theorem Root_spec (n : Names) (x : Int) (hn : n.ws.length ≤ 1000) : FnSpec Tryd.prog 49 [namesA n, num x] (fun r => r = num (n.root x)) := by
  refine spec_of 1000 Tryd.func49 rfl rfl ?_
  refine Call.of (Chain_spec n _ hn) ?_
  rintro r (rfl | ⟨rfl, h⟩)
  · refine ⟨rfl, ?_⟩
    repeat' first | refine Len.map ?_ | refine Len.nil ?_ | refine Len.cons ?_ | refine Br.t rfl ?_ | refine Br.f rfl ?_ | refine Fit.au ?_ | refine Cv.au ?_ | refine Need.ne ?_ | refine Need.au ?_ | refine Pick.map (by assumption) ?_ | refine Pick.mapI (by omega) (by assumption) ?_ | refine PickN.mk _ (by assumption) ?_ | refine PickN.mk _ rfl ?_ | refine PickN.au ?_ | refine App.au rfl ?_ | refine App.au (own_map (fun _ => rfl) _) ?_ | refine Both.mk ?_ ?_ | exact True.intro
    refine Br.d (fun h => ?_) (fun h => ?_)
    · have hl := chain_len n x
      obtain ⟨y, gy, -⟩ := getK (l := n.chain x) (k := (n.chain x).length - 1) (by omega)
      have gy2 : ((n.chain x).map int1)[(((n.chain x).length : Int) - 1).toNat]? = some (int1 y) := by
        rw [show (((n.chain x).length : Int) - 1).toNat = (n.chain x).length - 1 by omega]; simp [gy]
      repeat' first | refine Len.map ?_ | refine Len.nil ?_ | refine Len.cons ?_ | refine Br.t rfl ?_ | refine Br.f rfl ?_ | refine Fit.au ?_ | refine Cv.au ?_ | refine Need.ne ?_ | refine Need.au ?_ | refine Pick.map (by assumption) ?_ | refine Pick.mapI (by omega) (by assumption) ?_ | refine PickN.mk _ (by assumption) ?_ | refine PickN.mk _ rfl ?_ | refine PickN.au ?_ | refine App.au rfl ?_ | refine App.au (own_map (fun _ => rfl) _) ?_ | refine Both.mk ?_ ?_ | exact True.intro
      show _ = _
      rw [Names.root, List.getLastD_eq_getLast?, List.getLast?_eq_getElem?, gy]; rfl
    · show _ = _
      rw [Names.root, List.eq_nil_of_length_eq_zero (l := n.chain x) (by omega)]; rfl
  · refine ⟨rfl, ?_⟩
    repeat' first | refine Len.map ?_ | refine Len.nil ?_ | refine Len.cons ?_ | refine Br.t rfl ?_ | refine Br.f rfl ?_ | refine Fit.au ?_ | refine Cv.au ?_ | refine Need.ne ?_ | refine Need.au ?_ | refine Pick.map (by assumption) ?_ | refine Pick.mapI (by omega) (by assumption) ?_ | refine PickN.mk _ (by assumption) ?_ | refine PickN.mk _ rfl ?_ | refine PickN.au ?_ | refine App.au rfl ?_ | refine App.au (own_map (fun _ => rfl) _) ?_ | refine Both.mk ?_ ?_ | exact True.intro
    show _ = _
    rw [Names.root, h]; rfl
theorem Root_nil (x : Int) : FnSpec Tryd.prog 49 [nilP, num x] (fun r => r = num x) := by
  refine spec_of 1000 Tryd.func49 rfl rfl ?_
  repeat' first | refine Call.eq (Chain_nil _) rfl ?_ | refine Len.map ?_ | refine Len.nil ?_ | refine Len.cons ?_ | refine Br.t rfl ?_ | refine Br.f rfl ?_ | refine Fit.au ?_ | refine Cv.au ?_ | refine Need.ne ?_ | refine Need.au ?_ | refine Pick.map (by assumption) ?_ | refine Pick.mapI (by omega) (by assumption) ?_ | refine PickN.mk _ (by assumption) ?_ | refine PickN.mk _ rfl ?_ | refine PickN.au ?_ | refine App.au rfl ?_ | refine App.au (own_map (fun _ => rfl) _) ?_ | refine Both.mk ?_ ?_ | exact True.intro
  rfl

theorem zero_wr (n : Nat) : LeLL (List.replicate n [num 0, num 0, num 0, num 0, num 0, num 0, num 0, num 0, .lit (.slice none 0 0), num 0, tru false]) ((List.replicate n Wr0).map Wr.cs) := by
  rw [List.map_replicate]
  exact LeLL.rep (by repeat' first | exact .nil | refine .cons (Le.refl _) ?_ | refine .cons Le.none ?_) n

theorem New_spec (f : Fun) (hf : f.fits) (hr : f.regs.length ≤ 100) : FnSpec Tryd.prog 40 [funA f] (fun r => r = ownNames (newF f)) := by
  refine spec_of 1000 Tryd.func40 rfl rfl ?_
  repeat' first | refine Draw.mk (ordL [3, 7] [0, 1, 2, 4, 5, 3, 6, 7, 8]) (by decide +kernel) ?_ | refine Draw.mk (ordL [9] [0, 1, 2, 3, 4, 5, 6, 7, 8, 9]) (by decide +kernel) ?_ | refine MkS.mk _ rfl rfl (by omega) (by omega) ?_ | refine Len.map ?_ | refine Len.nil ?_ | refine Len.cons ?_ | refine Br.t rfl ?_ | refine Br.f rfl ?_ | refine Fit.au ?_ | refine Cv.au ?_ | refine Need.ne ?_ | refine Need.au ?_ | refine Pick.map (by assumption) ?_ | refine Pick.mapI (by omega) (by assumption) ?_ | refine PickN.mk _ (by assumption) ?_ | refine PickN.mk _ rfl ?_ | refine PickN.au ?_ | refine App.au rfl ?_ | refine App.au (own_map (fun _ => rfl) _) ?_ | refine Both.mk ?_ ?_ | exact True.intro
  refine Stop.mk (run_varLe 2 rfl (.cons (.osl (zero_wr _) (by intro x hx; rw [List.eq_of_mem_replicate hx]; rfl)) (.cons (.refl _) .nil)) ?_)
  refine loop_in (fun k : Nat => [(3, .hp 2 0), (18, .sl false 1 (f.blocks.map blk)), (19, num f.blocks.length), (20, num k)]) (fun k => [(2, .var [.osl 11 ((outW f k).map Wr.cs), num f.params])]) 3 (fun k => k ≤ f.blocks.length) (fun k => f.blocks.length - k) 0 (by omega) (g := []) ⟨rfl, (by repeat' first | exact trivial | refine ⟨rfl, ?_⟩ | refine ⟨congrArg (fun n => AV.lit (.int .i64 n)) (by omega), ?_⟩ | refine ⟨congrArg (fun l => some (Row.row 1 l)) (by simp [int1, num, tru]), ?_⟩), (by repeat' first | exact trivial | refine ⟨rfl, ?_⟩ | refine ⟨congrArg (fun n => AV.lit (.int .i64 n)) (by omega), ?_⟩ | refine ⟨congrArg (fun l => some (Row.row 1 l)) (by simp [int1, num, tru]), ?_⟩)⟩ (fun k hk ih => ?_)
  have hlen := outW_len f k
  have hfb := hf.1
  refine go 1000 Tryd.func40 ?_
  repeat' first | refine Len.map ?_ | refine Len.nil ?_ | refine Len.cons ?_ | refine Br.t rfl ?_ | refine Br.f rfl ?_ | refine Fit.au ?_ | refine Cv.au ?_ | refine Need.ne ?_ | refine Need.au ?_ | refine Pick.map (by assumption) ?_ | refine Pick.mapI (by omega) (by assumption) ?_ | refine PickN.mk _ (by assumption) ?_ | refine PickN.mk _ rfl ?_ | refine PickN.au ?_ | refine App.au rfl ?_ | refine App.au (own_map (fun _ => rfl) _) ?_ | refine Both.mk ?_ ?_ | exact True.intro
  refine Br.d (fun h2 => ?_) (fun h2 => ?_)
  · obtain ⟨b, gb, gbm⟩ := getK (l := f.blocks) (k := k) (by omega)
    obtain ⟨hb1, hb2⟩ := hf.2.2 b gbm
    have hk1 := outW_succ gb
    generalize outW f k = ws at hlen hk1
    repeat' first | refine Len.map ?_ | refine Len.nil ?_ | refine Len.cons ?_ | refine Br.t rfl ?_ | refine Br.f rfl ?_ | refine Fit.au ?_ | refine Cv.au ?_ | refine Need.ne ?_ | refine Need.au ?_ | refine Pick.map (by assumption) ?_ | refine Pick.mapI (by omega) (by assumption) ?_ | refine PickN.mk _ (by assumption) ?_ | refine PickN.mk _ rfl ?_ | refine PickN.au ?_ | refine App.au rfl ?_ | refine App.au (own_map (fun _ => rfl) _) ?_ | refine Both.mk ?_ ?_ | exact True.intro
    refine Stop.mk (loop_in (fun j : Nat => [(3, .hp 2 0), (18, .sl false 1 (f.blocks.map blk)), (19, num f.blocks.length), (20, num k), (4, num k), (25, .sl false 9 (b.map Ins.cs)), (26, num b.length), (27, num j)]) (fun j => [(2, .var [.osl 11 ((blkW ws k b j).map Wr.cs), num f.params])]) 3 (fun j => j ≤ b.length) (fun j => b.length - j) 0 (by omega) (g := []) ⟨rfl, (by repeat' first | exact trivial | refine ⟨rfl, ?_⟩ | refine ⟨congrArg (fun n => AV.lit (.int .i64 n)) (by omega), ?_⟩ | refine ⟨congrArg (fun l => some (Row.row 1 l)) (by simp [int1, num, tru]), ?_⟩), (by repeat' first | exact trivial | refine ⟨rfl, ?_⟩ | refine ⟨congrArg (fun n => AV.lit (.int .i64 n)) (by omega), ?_⟩ | refine ⟨congrArg (fun l => some (Row.row 1 l)) (by simp [int1, num, tru]), ?_⟩)⟩ (fun j hj ih2 => ?_))
    have hlen2 := blkW_len ws k b j
    refine go 1000 Tryd.func40 ?_
    repeat' first | refine Len.map ?_ | refine Len.nil ?_ | refine Len.cons ?_ | refine Br.t rfl ?_ | refine Br.f rfl ?_ | refine Fit.au ?_ | refine Cv.au ?_ | refine Need.ne ?_ | refine Need.au ?_ | refine Pick.map (by assumption) ?_ | refine Pick.mapI (by omega) (by assumption) ?_ | refine PickN.mk _ (by assumption) ?_ | refine PickN.mk _ rfl ?_ | refine PickN.au ?_ | refine App.au rfl ?_ | refine App.au (own_map (fun _ => rfl) _) ?_ | refine Both.mk ?_ ?_ | exact True.intro
    refine Br.d (fun h3 => ?_) (fun h3 => ?_)
    · obtain ⟨i, gi, gim⟩ := getK (l := b) (k := j) (by omega)
      have hj1 := blkW_succ (ws := ws) (k := k) gi
      generalize blkW ws k b j = vs at hlen2 hj1
      have stay : ¬ (0 ≤ defF i ∧ defF i < vs.length ∧ (vs.getD (defF i).toNat Wr0).is = false) → setW vs k i = vs := fun h => if_neg h
      repeat' first | refine Call.eq (Def_spec i (hb2 i gim)) rfl ?_ | refine Len.map ?_ | refine Len.nil ?_ | refine Len.cons ?_ | refine Br.t rfl ?_ | refine Br.f rfl ?_ | refine Fit.au ?_ | refine Cv.au ?_ | refine Need.ne ?_ | refine Need.au ?_ | refine Pick.map (by assumption) ?_ | refine Pick.mapI (by omega) (by assumption) ?_ | refine PickN.mk _ (by assumption) ?_ | refine PickN.mk _ rfl ?_ | refine PickN.au ?_ | refine App.au rfl ?_ | refine App.au (own_map (fun _ => rfl) _) ?_ | refine Both.mk ?_ ?_ | exact True.intro
      refine Br.d (fun g1 => ?_) (fun g1 => ?_)
      · repeat' first | refine Len.map ?_ | refine Len.nil ?_ | refine Len.cons ?_ | refine Br.t rfl ?_ | refine Br.f rfl ?_ | refine Fit.au ?_ | refine Cv.au ?_ | refine Need.ne ?_ | refine Need.au ?_ | refine Pick.map (by assumption) ?_ | refine Pick.mapI (by omega) (by assumption) ?_ | refine PickN.mk _ (by assumption) ?_ | refine PickN.mk _ rfl ?_ | refine PickN.au ?_ | refine App.au rfl ?_ | refine App.au (own_map (fun _ => rfl) _) ?_ | refine Both.mk ?_ ?_ | exact True.intro
        refine Br.d (fun g2 => ?_) (fun g2 => ?_)
        · obtain ⟨w, gw, -⟩ := getK (l := vs) (k := (defF i).toNat) (by omega)
          have gw2 : (vs.map Wr.cs)[(defF i).toNat]? = some w.cs := by simp [gw]
          have gw3 : (vs.getD (defF i).toNat Wr0).is = w.is := by simp [List.getD_eq_getElem?_getD, gw]
          repeat' first | refine Len.map ?_ | refine Len.nil ?_ | refine Len.cons ?_ | refine Br.t rfl ?_ | refine Br.f rfl ?_ | refine Fit.au ?_ | refine Cv.au ?_ | refine Need.ne ?_ | refine Need.au ?_ | refine Pick.map (by assumption) ?_ | refine Pick.mapI (by omega) (by assumption) ?_ | refine PickN.mk _ (by assumption) ?_ | refine PickN.mk _ rfl ?_ | refine PickN.au ?_ | refine App.au rfl ?_ | refine App.au (own_map (fun _ => rfl) _) ?_ | refine Both.mk ?_ ?_ | exact True.intro
          refine Br.mk (fun g3 => ?_) (fun g3 => ?_)
          · have e : setW vs k i = vs.set (defF i).toNat ⟨i, k, true⟩ := if_pos ⟨g1, by omega, by rw [gw3]; simpa using g3⟩
            repeat' first | refine Draw.mk (ordL [3, 7] [0, 1, 2, 4, 5, 3, 6, 7, 8]) (by decide +kernel) ?_ | refine Draw.mk (ordL [9] [0, 1, 2, 3, 4, 5, 6, 7, 8, 9]) (by decide +kernel) ?_ | refine Len.map ?_ | refine Len.nil ?_ | refine Len.cons ?_ | refine Br.t rfl ?_ | refine Br.f rfl ?_ | refine Fit.au ?_ | refine Cv.au ?_ | refine Need.ne ?_ | refine Need.au ?_ | refine Pick.map (by assumption) ?_ | refine Pick.mapI (by omega) (by assumption) ?_ | refine PickN.mk _ (by assumption) ?_ | refine PickN.mk _ rfl ?_ | refine PickN.au ?_ | refine App.au rfl ?_ | refine App.au (own_map (fun _ => rfl) _) ?_ | refine Both.mk ?_ ?_ | exact True.intro
            refine Stop.mk (run_foldV 2 rfl rfl (ih2 (j + 1) _ _ _ (by omega) (by omega) (g := []) ?_))
            rw [hj1, e, List.map_set]
            exact ⟨rfl, by repeat' first | exact trivial | refine ⟨rfl, ?_⟩, by repeat' first | exact trivial | refine ⟨rfl, ?_⟩⟩
          · have hs := stay (by rw [gw3]; simp at g3; simp [g3])
            repeat' first | refine Len.map ?_ | refine Len.nil ?_ | refine Len.cons ?_ | refine Br.t rfl ?_ | refine Br.f rfl ?_ | refine Fit.au ?_ | refine Cv.au ?_ | refine Need.ne ?_ | refine Need.au ?_ | refine Pick.map (by assumption) ?_ | refine Pick.mapI (by omega) (by assumption) ?_ | refine PickN.mk _ (by assumption) ?_ | refine PickN.mk _ rfl ?_ | refine PickN.au ?_ | refine App.au rfl ?_ | refine App.au (own_map (fun _ => rfl) _) ?_ | refine Both.mk ?_ ?_ | exact True.intro
            refine Stop.mk (run_foldV 2 rfl rfl (ih2 (j + 1) _ _ _ (by omega) (by omega) (g := []) ?_))
            rw [hj1, hs]
            exact ⟨rfl, by repeat' first | exact trivial | refine ⟨rfl, ?_⟩, by repeat' first | exact trivial | refine ⟨rfl, ?_⟩⟩
        · have hs := stay (by omega)
          repeat' first | refine Len.map ?_ | refine Len.nil ?_ | refine Len.cons ?_ | refine Br.t rfl ?_ | refine Br.f rfl ?_ | refine Fit.au ?_ | refine Cv.au ?_ | refine Need.ne ?_ | refine Need.au ?_ | refine Pick.map (by assumption) ?_ | refine Pick.mapI (by omega) (by assumption) ?_ | refine PickN.mk _ (by assumption) ?_ | refine PickN.mk _ rfl ?_ | refine PickN.au ?_ | refine App.au rfl ?_ | refine App.au (own_map (fun _ => rfl) _) ?_ | refine Both.mk ?_ ?_ | exact True.intro
          refine Stop.mk (run_foldV 2 rfl rfl (ih2 (j + 1) _ _ _ (by omega) (by omega) (g := []) ?_))
          rw [hj1, hs]
          exact ⟨rfl, by repeat' first | exact trivial | refine ⟨rfl, ?_⟩, by repeat' first | exact trivial | refine ⟨rfl, ?_⟩⟩
      · have hs := stay (by omega)
        repeat' first | refine Len.map ?_ | refine Len.nil ?_ | refine Len.cons ?_ | refine Br.t rfl ?_ | refine Br.f rfl ?_ | refine Fit.au ?_ | refine Cv.au ?_ | refine Need.ne ?_ | refine Need.au ?_ | refine Pick.map (by assumption) ?_ | refine Pick.mapI (by omega) (by assumption) ?_ | refine PickN.mk _ (by assumption) ?_ | refine PickN.mk _ rfl ?_ | refine PickN.au ?_ | refine App.au rfl ?_ | refine App.au (own_map (fun _ => rfl) _) ?_ | refine Both.mk ?_ ?_ | exact True.intro
        refine Stop.mk (ih2 (j + 1) _ _ _ (by omega) (by omega) (g := []) ?_)
        rw [hj1, hs]
        exact ⟨rfl, by repeat' first | exact trivial | refine ⟨rfl, ?_⟩, by repeat' first | exact trivial | refine ⟨rfl, ?_⟩⟩
    · repeat' first | refine Len.map ?_ | refine Len.nil ?_ | refine Len.cons ?_ | refine Br.t rfl ?_ | refine Br.f rfl ?_ | refine Fit.au ?_ | refine Cv.au ?_ | refine Need.ne ?_ | refine Need.au ?_ | refine Pick.map (by assumption) ?_ | refine Pick.mapI (by omega) (by assumption) ?_ | refine PickN.mk _ (by assumption) ?_ | refine PickN.mk _ rfl ?_ | refine PickN.au ?_ | refine App.au rfl ?_ | refine App.au (own_map (fun _ => rfl) _) ?_ | refine Both.mk ?_ ?_ | exact True.intro
      refine Stop.mk (ih (k + 1) _ _ _ (by omega) (by omega) (g := []) ?_)
      rw [hk1, show b.length = j by omega]
      exact ⟨rfl, by repeat' first | exact trivial | refine ⟨rfl, ?_⟩, by repeat' first | exact trivial | refine ⟨rfl, ?_⟩⟩
  · repeat' first | refine Len.map ?_ | refine Len.nil ?_ | refine Len.cons ?_ | refine Br.t rfl ?_ | refine Br.f rfl ?_ | refine Fit.au ?_ | refine Cv.au ?_ | refine Need.ne ?_ | refine Need.au ?_ | refine Pick.map (by assumption) ?_ | refine Pick.mapI (by omega) (by assumption) ?_ | refine PickN.mk _ (by assumption) ?_ | refine PickN.mk _ rfl ?_ | refine PickN.au ?_ | refine App.au rfl ?_ | refine App.au (own_map (fun _ => rfl) _) ?_ | refine Both.mk ?_ ?_ | exact True.intro
    show _ = _
    rw [newF, show f.blocks.length = k by omega]; rfl
end Go.Proofs.YtdgibhndjdgllaaDoor
