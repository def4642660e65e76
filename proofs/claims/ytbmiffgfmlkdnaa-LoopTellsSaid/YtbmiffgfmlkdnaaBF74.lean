/- The chapter's example of loops, by contracts. -/
import Derived.Test.YtbmiffgfmlkdnaaG12
import Derived.Test.YtbmiffgfmlkdnaaG13
set_option linter.unusedVariables false
set_option linter.unusedSimpArgs false

namespace Go.Proofs.Ytbmiffgfmlkdnaa
open Go.Ax
set_option maxRecDepth 10000
set_option linter.unusedVariables false

def ex36 : Fun := ⟨⟨#[]⟩, 0, 0, [], [[⟨41, 0, 0, 0, 0, 1, 0, 0, []⟩], [⟨42, 0, 0, 0, 0, 2, 3, 0, []⟩], [⟨41, 0, 0, 0, 0, 1, 0, 0, []⟩], [⟨43, 0, 0, 0, 0, 0, 0, 0, []⟩]]⟩
theorem ex36_succs : succsF ex36 = s36 := by kernel_rfl
theorem ex36_fits : ex36.fits := by
  refine ⟨by decide, by decide, ?_⟩
  simp [ex36, Ins.fits]
def i36 (op n m : Int) : AV := .sl false 9 [[num op, num 0, num 0, num 0, num 0, num n, num m, num 0, .lit (.slice none 0 0)]]
def c36 : List AV := [.lit (.string ⟨#[]⟩), num 0, num 0, .lit (.slice none 0 0), .sl false 1 [[i36 41 1 0], [i36 42 2 3], [i36 41 1 0], [i36 43 0 0]]]
theorem counts23 : FnSpec Try.prog 23 [] (fun r => r = .agg c36) := by
  refine spec_of 15 Try.func23 rfl rfl ?_
  repeat' first | refine Len.map ?_ | refine Len.nil ?_ | refine Len.cons ?_ | refine Br.t rfl ?_ | refine Br.f rfl ?_ | refine Fit.au ?_ | refine Cv.au ?_ | refine Need.ne ?_ | refine Need.au ?_ | refine Pick.map (by assumption) ?_ | refine Pick.mapI (by omega) (by assumption) ?_ | refine PickN.mk _ (by assumption) ?_ | refine PickN.mk _ rfl ?_ | refine PickN.au ?_ | refine App.au rfl ?_ | refine App.au (own_map (fun _ => rfl) _) ?_ | refine Both.mk ?_ ?_ | exact True.intro
  refine Stop.mk (run_frzR 5 rfl rfl ?_)
  refine go 1000 Try.func23 ?_
  repeat' first | refine Len.map ?_ | refine Len.nil ?_ | refine Len.cons ?_ | refine Br.t rfl ?_ | refine Br.f rfl ?_ | refine Fit.au ?_ | refine Cv.au ?_ | refine Need.ne ?_ | refine Need.au ?_ | refine Pick.map (by assumption) ?_ | refine Pick.mapI (by omega) (by assumption) ?_ | refine PickN.mk _ (by assumption) ?_ | refine PickN.mk _ rfl ?_ | refine PickN.au ?_ | refine App.au rfl ?_ | refine App.au (own_map (fun _ => rfl) _) ?_ | refine Both.mk ?_ ?_ | exact True.intro
  rfl
theorem lone36 {ls : List Lp1} (h : OutI [⟨1, [1, 2], [2], -1⟩] 1 ls) : ls = [⟨1, [1, 2], [2], -1⟩] := by
  obtain ⟨⟨hl, hs⟩, hi⟩ := h
  match ls, hl with
  | [x], _ =>
    obtain ⟨h1, h2, h3⟩ := hs 0 _ x rfl rfl
    have h4 : InIs (Lf [⟨1, [1, 2], [2], -1⟩] 0) (lenf [⟨1, [1, 2], [2], -1⟩]) 0 1 x.inn := (hi 0 x rfl).1 (by omega)
    have h5 : x.inn = -1 := h4.eq (.inl ⟨rfl, fun k _ hk => by obtain rfl : k = 0 := by omega
                                                               rfl⟩)
    obtain ⟨a, b, c, d⟩ := x
    cases h1; cases h2; cases h3; cases h5
    rfl
theorem works7 : FnSpec Try.prog 7 [] (fun r => r = tru true) := by
  have hL := Loops8_spec ex36 ex36_fits (by decide)
  rw [ex36_succs] at hL
  have e1 : lps s36 ex36.blocks.length = [⟨1, [1, 2], [2], -1⟩] := lps36
  rw [e1] at hL
  refine spec_of 1000 Try.func7 rfl rfl ?_
  repeat' first | refine Call.eq counts23 rfl ?_ | refine Len.map ?_ | refine Len.nil ?_ | refine Len.cons ?_ | refine Br.t rfl ?_ | refine Br.f rfl ?_ | refine Fit.au ?_ | refine Cv.au ?_ | refine Need.ne ?_ | refine Need.au ?_ | refine Pick.map (by assumption) ?_ | refine Pick.mapI (by omega) (by assumption) ?_ | refine PickN.mk _ (by assumption) ?_ | refine PickN.mk _ rfl ?_ | refine PickN.au ?_ | refine App.au rfl ?_ | refine App.au (own_map (fun _ => rfl) _) ?_ | refine Both.mk ?_ ?_ | exact True.intro
  refine Call.le (bs := [funA ex36]) (by repeat' first | exact Le.refl _ | exact Le.none | exact LeL.nil | refine LeL.cons ?_ ?_ | exact LeLL.nil | refine LeLL.cons ?_ ?_ | refine Le.agg ?_ | refine Le.sl ?_ | refine Le.pt ?_) (Call.of hL ?_)
  rintro r ⟨ls, rfl, hls⟩
  obtain rfl := lone36 hls
  refine ⟨rfl, ?_⟩
  have hS1 := SameInts_spec [1, 2] [1, 2] (by decide)
  have hS2 := SameInts_spec [2] [2] (by decide)
  rw [decide_eq_true rfl] at hS1 hS2
  repeat' first | refine Len.map ?_ | refine Len.nil ?_ | refine Len.cons ?_ | refine Br.t rfl ?_ | refine Br.f rfl ?_ | refine Fit.au ?_ | refine Cv.au ?_ | refine Need.ne ?_ | refine Need.au ?_ | refine Pick.map (by assumption) ?_ | refine Pick.mapI (by omega) (by assumption) ?_ | refine PickN.mk _ (by assumption) ?_ | refine PickN.mk _ rfl ?_ | refine PickN.au ?_ | refine App.au rfl ?_ | refine App.au (own_map (fun _ => rfl) _) ?_ | refine Both.mk ?_ ?_ | exact True.intro
  refine Look.yes (View.mk _ rfl ?_)
  refine CallV.eq hS1 rfl (Free.lit _) ?_
  repeat' first | refine Len.map ?_ | refine Len.nil ?_ | refine Len.cons ?_ | refine Br.t rfl ?_ | refine Br.f rfl ?_ | refine Fit.au ?_ | refine Cv.au ?_ | refine Need.ne ?_ | refine Need.au ?_ | refine Pick.map (by assumption) ?_ | refine Pick.mapI (by omega) (by assumption) ?_ | refine PickN.mk _ (by assumption) ?_ | refine PickN.mk _ rfl ?_ | refine PickN.au ?_ | refine App.au rfl ?_ | refine App.au (own_map (fun _ => rfl) _) ?_ | refine Both.mk ?_ ?_ | exact True.intro
  refine Look.yes (View.mk _ rfl ?_)
  refine CallV.eq hS2 rfl (Free.lit _) ?_
  repeat' first | refine Len.map ?_ | refine Len.nil ?_ | refine Len.cons ?_ | refine Br.t rfl ?_ | refine Br.f rfl ?_ | refine Fit.au ?_ | refine Cv.au ?_ | refine Need.ne ?_ | refine Need.au ?_ | refine Pick.map (by assumption) ?_ | refine Pick.mapI (by omega) (by assumption) ?_ | refine PickN.mk _ (by assumption) ?_ | refine PickN.mk _ rfl ?_ | refine PickN.au ?_ | refine App.au rfl ?_ | refine App.au (own_map (fun _ => rfl) _) ?_ | refine Both.mk ?_ ?_ | exact True.intro
  rfl
end Go.Proofs.Ytbmiffgfmlkdnaa
