/- The chapter's example, by a contract. -/
import Derived.Test.YtdgibhndjdgllaaDoorH18
set_option linter.unusedVariables false
set_option linter.unusedSimpArgs false

namespace Go.Proofs.YtdgibhndjdgllaaDoor
open Go.Ax
set_option maxRecDepth 10000
set_option linter.unusedVariables false
set_option maxHeartbeats 0

def exN : Fun := ⟨⟨#[]⟩, 2, 1, [3, 3, 3], [[⟨31, 0, 1, 0, 0, 0, 0, 0, []⟩, ⟨23, 2, 1, 0, 0, 0, 0, 0, []⟩, ⟨43, 0, 0, 0, 0, 0, 0, 0, []⟩]]⟩
theorem exN_W : NilW exN := by
  refine { blocks := by decide, regs := by decide, ins := ?_, fit := ?_, few := by decide, reg := by decide, len := ?_ }
  · intro b hb i hi
    simp only [exN, List.mem_cons, List.not_mem_nil, or_false] at hb
    subst hb
    simp only [List.mem_cons, List.not_mem_nil, or_false] at hi
    rcases hi with rfl | rfl | rfl <;> (unfold NilB; decide +kernel)
  · refine ⟨by decide, by decide, fun b hb => ?_⟩
    simp only [exN, List.mem_cons, List.not_mem_nil, or_false] at hb
    subst hb
    exact ⟨by decide, fun i hi => by simp only [List.mem_cons, List.not_mem_nil, or_false] at hi; rcases hi with rfl | rfl | rfl <;> (unfold Ins.fits; decide)⟩
  · intro b hb
    simp only [exN, List.mem_cons, List.not_mem_nil, or_false] at hb
    subst hb; decide
theorem sure0 (f : Fun) (x a : Nat) : sureB f x 0 a = (decide (bornP f x) || decide (lastN f ((newF f).root x) ((f.blocks.getD 0 []).take a) = 1)) := by
  unfold sureB
  congr 1
  rw [Bool.eq_iff_iff, nowB_iff, decide_eq_true_iff]
  unfold AskP AskK
  simp
theorem exN_s1 : sureB exN ((2 : Nat) : Int) 0 2 = true := by rw [sure0]; decide +kernel
theorem exN_s2 : sureB exN ((1 : Nat) : Int) 0 0 = false := by rw [sure0]; decide +kernel
theorem exN_s3 : sureB exN ((1 : Nat) : Int) 0 1 = true := by rw [sure0]; decide +kernel
theorem exN_s4 : sureB exN ((0 : Nat) : Int) 0 2 = false := by rw [sure0]; decide +kernel
theorem fz_fact (f : Fun) (L : List Bool) (F : List (List W)) : AV.fzL (f.cs ++ [namesA (newF f), .osl 1 (L.map tb), .osl 1 (F.map oset)]) = factC f L F := by
  have h1 := fzLL_map (enc := tb) (enc2 := tb) (fun _ => rfl) L
  have h2 := fzLL_map fz_oset F
  show [_, _, _, _, _, _, AV.sl false 1 (AV.fzLL (L.map tb)), AV.sl false 1 (AV.fzLL (F.map oset))] = _
  rw [h1, h2]; rfl
theorem works16_spec : FnSpec Tryd.prog 16 [] (fun r => r = tru true) := by
  have hN := New17_spec exN exN_W
  refine spec_of 17 Tryd.func16 rfl rfl ?_
  repeat' first | refine Len.map ?_ | refine Len.nil ?_ | refine Len.cons ?_ | refine Br.t rfl ?_ | refine Br.f rfl ?_ | refine Fit.au ?_ | refine Cv.au ?_ | refine Need.ne ?_ | refine Need.au ?_ | refine Pick.map (by assumption) ?_ | refine Pick.mapI (by omega) (by assumption) ?_ | refine PickN.mk _ (by assumption) ?_ | refine PickN.mk _ rfl ?_ | refine PickN.au ?_ | refine App.au rfl ?_ | refine App.au (own_map (fun _ => rfl) _) ?_ | refine Both.mk ?_ ?_ | exact True.intro
  refine Stop.mk (run_frzV 3 rfl rfl rfl ?_)
  refine go 8 Tryd.func16 ?_
  refine Call.le (by repeat' first | exact Le.refl _ | exact Le.none | exact LeL.nil | refine LeL.cons ?_ ?_ | exact LeLL.nil | refine LeLL.cons ?_ ?_ | refine Le.agg ?_ | refine Le.sl ?_ | refine Le.pt ?_) (Call.of hN ?_)
  rintro r ⟨T, F, hs, rfl⟩
  refine ⟨rfl, ?_⟩
  have hm : ∀ k : Nat, k < exN.blocks.length → (marksF (succsF exN) (-1))[k]? = some true := fun k hk => by
    have h0 : k = 0 := by
      have : k < 1 := hk
      omega
    subst h0
    refine marksF_at.2 ⟨by rw [succsF_len]; decide, ?_⟩
    exact .zero (by intro e; have := congrArg List.length e; rw [succsF_len] at this; simp [exN] at this) (by decide)
  have h1 := Sure18_spec exN exN_W _ hm hs 0 2 2 _ rfl rfl (by decide) (by decide +kernel)
  have h2 := Sure18_spec exN exN_W _ hm hs 0 1 0 _ rfl rfl (by decide) (by decide +kernel)
  have h3 := Sure18_spec exN exN_W _ hm hs 0 1 1 _ rfl rfl (by decide) (by decide +kernel)
  have h4 := Sure18_spec exN exN_W _ hm hs 0 0 2 _ rfl rfl (by decide) (by decide +kernel)
  rw [exN_s1] at h1
  rw [exN_s2] at h2
  rw [exN_s3] at h3
  rw [exN_s4] at h4
  repeat' first | refine Len.map ?_ | refine Len.nil ?_ | refine Len.cons ?_ | refine Br.t rfl ?_ | refine Br.f rfl ?_ | refine Fit.au ?_ | refine Cv.au ?_ | refine Need.ne ?_ | refine Need.au ?_ | refine Pick.map (by assumption) ?_ | refine Pick.mapI (by omega) (by assumption) ?_ | refine PickN.mk _ (by assumption) ?_ | refine PickN.mk _ rfl ?_ | refine PickN.au ?_ | refine App.au rfl ?_ | refine App.au (own_map (fun _ => rfl) _) ?_ | refine Both.mk ?_ ?_ | exact True.intro
  refine Stop.mk (run_frzV 4 rfl rfl (fz_fact exN _ F) ?_)
  refine go 1000 Tryd.func16 ?_
  repeat' first | refine Call.eq h1 rfl ?_ | refine Call.eq h2 rfl ?_ | refine Call.eq h3 rfl ?_ | refine Call.eq h4 rfl ?_ | refine Len.map ?_ | refine Len.nil ?_ | refine Len.cons ?_ | refine Br.t rfl ?_ | refine Br.f rfl ?_ | refine Fit.au ?_ | refine Cv.au ?_ | refine Need.ne ?_ | refine Need.au ?_ | refine Pick.map (by assumption) ?_ | refine Pick.mapI (by omega) (by assumption) ?_ | refine PickN.mk _ (by assumption) ?_ | refine PickN.mk _ rfl ?_ | refine PickN.au ?_ | refine App.au rfl ?_ | refine App.au (own_map (fun _ => rfl) _) ?_ | refine Both.mk ?_ ?_ | exact True.intro
  rfl
end Go.Proofs.YtdgibhndjdgllaaDoor
