/- The law PiTells as a function. -/
import Derived.Test.YtnfkdilmoppbpaaPG14
import Derived.Test.YtnfkdilmoppbpaaPG15
set_option linter.unusedVariables false
set_option linter.unusedSimpArgs false

namespace Go.Proofs.Ytnfkdilmoppbpaa
open Go.Ax
set_option maxRecDepth 10000
set_option linter.unusedVariables false

theorem fz_cblk (b : List Ins) : AV.fzL (cblk b) = blk b := by
  show AV.sl false 9 (AV.fzLL (b.map Ins.cs)) :: _ = _
  rw [fz_icsL]; rfl
theorem fz_fccs (f : Fun) : AV.fzL f.ccs = f.cs := by
  show [_, _, _, AV.sl false 1 (AV.fzLL (f.regs.map int1)), AV.sl false 1 (AV.fzLL (f.blocks.map cblk))] = _
  rw [fzm, fzLL_map fz_cblk]; rfl
theorem fz_prc (l : List Fun) (m : Int) (s : List (Int × Int)) : AV.fzL [.osl 5 (l.map Fun.ccs), num m, .osl 2 (s.map site)] = [.sl false 5 (l.map Fun.cs), num m, .sl false 2 (s.map site)] := by
  show [AV.sl false 5 (AV.fzLL (l.map Fun.ccs)), _, AV.sl false 2 (AV.fzLL (s.map site))] = _
  rw [fzLL_map fz_fccs, fzLL_map fz_site]; rfl
theorem refF_eq {p : Pro} {f : Fun} (h : proP p) (hf : f ∈ p.funcs) : refF f = insF f := by
  unfold refF insF
  congr 1
  apply List.ext_getElem?
  intro k
  rw [List.getElem?_mapIdx, List.getElem?_mapIdx]
  congr 1
  funext b
  unfold refB insB
  rw [told_eq h hf]

set_option maxHeartbeats 2000000 in
theorem PiTells_spec (p : Pro) (hp : p.fits) (hl : p.light) : FnSpec Try.prog 11 [proA p] (fun r => r = tru true) := by
  refine spec_of 1000 Try.func11 rfl rfl ?_
  refine Call.of (valid52_spec p hp hl) ?_
  rintro r ⟨v, rfl, hv⟩
  refine ⟨rfl, ?_⟩
  repeat' first | refine Len.map ?_ | refine Len.nil ?_ | refine Len.cons ?_ | refine Br.t rfl ?_ | refine Br.f rfl ?_ | refine Fit.au ?_ | refine Need.au ?_ | refine Pick.map (by assumption) ?_ | refine Pick.mapI (by omega) (by assumption) ?_ | refine PickN.mk _ (by assumption) ?_ | refine PickN.mk _ rfl ?_ | refine PickN.au ?_ | refine App.au rfl ?_ | refine App.au (own_map (fun _ => rfl) _) ?_ | refine Both.mk ?_ ?_ | exact True.intro
  refine Br.mk (fun h => ?_) (fun h => ?_)
  · repeat' first | refine Call.eq works31 rfl ?_ | refine Len.map ?_ | refine Len.nil ?_ | refine Len.cons ?_ | refine Br.t rfl ?_ | refine Br.f rfl ?_ | refine Fit.au ?_ | refine Need.au ?_ | refine Pick.map (by assumption) ?_ | refine Pick.mapI (by omega) (by assumption) ?_ | refine PickN.mk _ (by assumption) ?_ | refine PickN.mk _ rfl ?_ | refine PickN.au ?_ | refine App.au rfl ?_ | refine App.au (own_map (fun _ => rfl) _) ?_ | refine Both.mk ?_ ?_ | exact True.intro
    rfl
  obtain ⟨hb, hvp⟩ := hv (by simpa using h)
  clear h hv
  have hpro := hvp.1
  have hs := hb.slim (by decide) hp
  have ho := hb.okT hp
  have ho1 := ho.1
  have hok : ∀ f ∈ p.funcs, f.okP := fun f hf => hpro.okP hf fun b hbm i him => ((ho.2.2 f hf).2.2.2 b hbm).2 i him
  have hR := refPro_spec p ho fun f hf => ⟨hok f hf, fun b hbm => by
    obtain ⟨k, gb⟩ := List.getElem?_of_mem hbm
    exact ((hpro.2.2.2 f hf).2 k b gb).1⟩
  have hQ := Program54_spec p ho hok
  have e1 : p.funcs.map (fun f => (refF f).ccs) = (p.funcs.map insF).map Fun.ccs := by
    rw [List.map_map]
    exact List.map_congr_left fun f hf => by rw [refF_eq hpro hf]; rfl
  have e2 : p.funcs.map (fun f => (insF f).ocs) = (p.funcs.map insF).map Fun.ocs := by rw [List.map_map]; rfl
  rw [e1] at hR
  rw [e2] at hQ
  have hfi := insPro_fits hb hp
  have hoi := insPro_okT hb hp
  have hS := SameProgram_spec (insPro p) (insPro p) hfi hfi (by have := hoi.2.1; omega) (by have := hoi.1; omega) (fun f hf => by
    obtain ⟨a1, a2, a3, a4⟩ := hoi.2.2 f hf
    exact ⟨by omega, fun b hb => by have := (a4 b hb).1; omega⟩)
  rw [decide_eq_true rfl] at hS
  have hts : ∀ (k : Nat) (f : Fun), p.funcs[k]? = some f → (p.funcs.map insF)[k]? = some (insF f) := fun k f h => by rw [List.getElem?_map, h]; rfl
  have hSF : ∀ f ∈ p.funcs, FnSpec Try.prog 40 [funA (insF f), funA (insF f)] (fun r => r = tru true) := fun f hf => by
    obtain ⟨a1, a2, a3, a4⟩ := hoi.2.2 (insF f) (List.mem_map.2 ⟨f, hf, rfl⟩)
    have := SameFunc_spec (insF f) (insF f) a1 a1 (by omega) (fun b hb => by have := (a4 b hb).1; omega)
    rw [decide_eq_true rfl] at this
    exact this
  have eP : proA (insPro p) = .agg [.sl false 5 ((p.funcs.map insF).map Fun.cs), num p.main, .sl false 2 (p.sites.map site)] := rfl
  rw [eP] at hS
  generalize p.funcs.map insF = ts at *
  repeat' first | refine Call.eq hR rfl ?_ | refine Call.eq hQ rfl ?_ | refine Len.map ?_ | refine Len.nil ?_ | refine Len.cons ?_ | refine Br.t rfl ?_ | refine Br.f rfl ?_ | refine Fit.au ?_ | refine Need.au ?_ | refine Pick.map (by assumption) ?_ | refine Pick.mapI (by omega) (by assumption) ?_ | refine PickN.mk _ (by assumption) ?_ | refine PickN.mk _ rfl ?_ | refine PickN.au ?_ | refine App.au rfl ?_ | refine App.au (own_map (fun _ => rfl) _) ?_ | refine Both.mk ?_ ?_ | exact True.intro
  refine Stop.mk (run_frzV 3 rfl rfl (fz_prc _ _ _) ?_)
  refine run_frzV 6 rfl rfl (fz_prO _ _ _) ?_
  refine Run.fr (g := []) (tm' := [(1, .hp 0 0), (3, .pt [.sl false 5 (ts.map Fun.cs), num p.main, .sl false 2 (p.sites.map site)]), (4, .pt [.sl false 5 (ts.map Fun.cs), num p.main, .sl false 2 (p.sites.map site)]), (5, num 0)]) (hp' := [(0, .var p.cs)]) (nx' := 1) ?_ ⟨rfl, (by repeat' first | exact trivial | refine ⟨rfl, ?_⟩ | refine ⟨congrArg (fun n => AV.lit (.int .i64 n)) (by omega), ?_⟩ | refine ⟨congrArg (fun l => some (Row.row 1 l)) (by simp [int1, num, tru]), ?_⟩), (by repeat' first | exact trivial | refine ⟨rfl, ?_⟩ | refine ⟨congrArg (fun n => AV.lit (.int .i64 n)) (by omega), ?_⟩ | refine ⟨congrArg (fun l => some (Row.row 1 l)) (by simp [int1, num, tru]), ?_⟩)⟩
  refine loop_in (g := []) (fun k : Nat => [(1, .hp 0 0), (3, .pt [.sl false 5 (ts.map Fun.cs), num p.main, .sl false 2 (p.sites.map site)]), (4, .pt [.sl false 5 (ts.map Fun.cs), num p.main, .sl false 2 (p.sites.map site)]), (5, num k)]) (fun k => [(0, .var p.cs)]) 1 (fun k => k ≤ p.funcs.length) (fun k => p.funcs.length - k) 0 (by omega) ⟨rfl, (by repeat' first | exact trivial | refine ⟨rfl, ?_⟩ | refine ⟨congrArg (fun n => AV.lit (.int .i64 n)) (by omega), ?_⟩ | refine ⟨congrArg (fun l => some (Row.row 1 l)) (by simp [int1, num, tru]), ?_⟩), (by repeat' first | exact trivial | refine ⟨rfl, ?_⟩ | refine ⟨congrArg (fun n => AV.lit (.int .i64 n)) (by omega), ?_⟩ | refine ⟨congrArg (fun l => some (Row.row 1 l)) (by simp [int1, num, tru]), ?_⟩)⟩ (fun k hk ih => ?_)
  refine go 1000 Try.func11 ?_
  repeat' first | refine Len.map ?_ | refine Len.nil ?_ | refine Len.cons ?_ | refine Br.t rfl ?_ | refine Br.f rfl ?_ | refine Fit.au ?_ | refine Need.au ?_ | refine Pick.map (by assumption) ?_ | refine Pick.mapI (by omega) (by assumption) ?_ | refine PickN.mk _ (by assumption) ?_ | refine PickN.mk _ rfl ?_ | refine PickN.au ?_ | refine App.au rfl ?_ | refine App.au (own_map (fun _ => rfl) _) ?_ | refine Both.mk ?_ ?_ | exact True.intro
  refine Br.d (fun h2 => ?_) (fun h2 => ?_)
  · obtain ⟨f, gf, gm⟩ := getK (l := p.funcs) (k := k) (by omega)
    have gt := hts k f gf
    obtain ⟨hf, hbl, hrl, hbb⟩ := ho.2.2 f gm
    have hI := Insert55_spec f hf (hok f gm) hbl hrl (fun b hb => (hbb b hb).1)
    have hSf := hSF f gm
    generalize insF f = tf at *
    repeat' first | refine Draw.mk (ordL [5, 11] [0, 1, 2, 3, 4, 6, 7, 8, 9, 10, 5, 11, 12]) (by decide +kernel) ?_ | refine Draw.mk (ordL [2, 5, 7, 10] [0, 1, 2, 3, 4, 6, 5, 7, 8, 9, 10, 11, 12]) (by decide +kernel) ?_ | refine Pick.map gf ?_ | refine Pick.map gt ?_ | refine Call.eq hI rfl ?_ | refine Call.eq hSf rfl ?_ | refine Look.yes (View.mk _ (fzm _) (View.mk _ (fzLL_map fz_oblk _) ?_)) | refine CallV.eq hSf rfl (Free.lit _) ?_ | refine Len.map ?_ | refine Len.nil ?_ | refine Len.cons ?_ | refine Br.t rfl ?_ | refine Br.f rfl ?_ | refine Fit.au ?_ | refine Need.au ?_ | refine Pick.map (by assumption) ?_ | refine Pick.mapI (by omega) (by assumption) ?_ | refine PickN.mk _ (by assumption) ?_ | refine PickN.mk _ rfl ?_ | refine PickN.au ?_ | refine App.au rfl ?_ | refine App.au (own_map (fun _ => rfl) _) ?_ | refine Both.mk ?_ ?_ | exact True.intro
    all_goals exact Stop.mk (ih (k + 1) (g := []) _ _ _ (by omega) (by omega) ⟨rfl, (by repeat' first | exact trivial | refine ⟨rfl, ?_⟩ | refine ⟨congrArg (fun n => AV.lit (.int .i64 n)) (by omega), ?_⟩ | refine ⟨congrArg (fun l => some (Row.row 1 l)) (by simp [int1, num, tru]), ?_⟩), (by repeat' first | exact trivial | refine ⟨rfl, ?_⟩ | refine ⟨congrArg (fun n => AV.lit (.int .i64 n)) (by omega), ?_⟩ | refine ⟨congrArg (fun l => some (Row.row 1 l)) (by simp [int1, num, tru]), ?_⟩)⟩)
  · repeat' first | refine Draw.mk (ordL [5, 11] [0, 1, 2, 3, 4, 6, 7, 8, 9, 10, 5, 11, 12]) (by decide +kernel) ?_ | refine Draw.mk (ordL [2, 5, 7, 10] [0, 1, 2, 3, 4, 6, 5, 7, 8, 9, 10, 11, 12]) (by decide +kernel) ?_ | refine Call.eq hR rfl ?_ | refine Call.eq hS rfl ?_ | refine Look.yes (View.mk _ (fzLL_map fz_fccs _) (View.mk _ (fzLL_map fz_site _) ?_)) | refine CallV.eq hS rfl (Free.lit _) ?_ | refine Call.eq works31 rfl ?_ | refine Len.map ?_ | refine Len.nil ?_ | refine Len.cons ?_ | refine Br.t rfl ?_ | refine Br.f rfl ?_ | refine Fit.au ?_ | refine Need.au ?_ | refine Pick.map (by assumption) ?_ | refine Pick.mapI (by omega) (by assumption) ?_ | refine PickN.mk _ (by assumption) ?_ | refine PickN.mk _ rfl ?_ | refine PickN.au ?_ | refine App.au rfl ?_ | refine App.au (own_map (fun _ => rfl) _) ?_ | refine Both.mk ?_ ?_ | exact True.intro
    all_goals rfl
end Go.Proofs.Ytnfkdilmoppbpaa
