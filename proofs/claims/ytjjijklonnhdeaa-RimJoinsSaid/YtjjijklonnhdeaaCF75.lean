/- The law RimJoins as a function. -/
import Derived.Test.YtjjijklonnhdeaaCF73
import Derived.Test.YtjjijklonnhdeaaG14
set_option linter.unusedVariables false
set_option linter.unusedSimpArgs false

namespace Go.Proofs.Ytjjijklonnhdeaa
open Go.Ax
set_option maxRecDepth 10000
set_option linter.unusedVariables false

set_option maxHeartbeats 4000000 in
theorem RimJoins_spec (f : Fun) (a b c : Int) (hf : f.fits) (hl : f.blocks.length ≤ 1000 → f.count ≤ 100000000000000000) (ha : 0 ≤ a ∧ a < 256) (hb : 0 ≤ b ∧ b < 256) (hc : 0 ≤ c ∧ c < 256) :
    FnSpec Try.prog 4 [funA f, .lit (.int .u8 a), .lit (.int .u8 b), .lit (.int .u8 c)] (fun r => r = tru true) := by
  refine spec_of 1000 Try.func4 rfl rfl ?_
  repeat' first | refine Len.map ?_ | refine Len.nil ?_ | refine Len.cons ?_ | refine Br.t rfl ?_ | refine Br.f rfl ?_ | refine Fit.au ?_ | refine Cv.au ?_ | refine Need.ne ?_ | refine Need.au ?_ | refine Pick.map (by assumption) ?_ | refine Pick.mapI (by omega) (by assumption) ?_ | refine PickN.mk _ (by assumption) ?_ | refine PickN.mk _ rfl ?_ | refine PickN.au ?_ | refine App.au rfl ?_ | refine App.au (own_map (fun _ => rfl) _) ?_ | refine Both.mk ?_ ?_ | exact True.intro
  refine Call.of (few32_spec f hf hl) ?_
  rintro r ⟨v, rfl, hv⟩
  refine ⟨rfl, ?_⟩
  repeat' first | refine Len.map ?_ | refine Len.nil ?_ | refine Len.cons ?_ | refine Br.t rfl ?_ | refine Br.f rfl ?_ | refine Fit.au ?_ | refine Cv.au ?_ | refine Need.ne ?_ | refine Need.au ?_ | refine Pick.map (by assumption) ?_ | refine Pick.mapI (by omega) (by assumption) ?_ | refine PickN.mk _ (by assumption) ?_ | refine PickN.mk _ rfl ?_ | refine PickN.au ?_ | refine App.au rfl ?_ | refine App.au (own_map (fun _ => rfl) _) ?_ | refine Both.mk ?_ ?_ | exact True.intro
  cases v with
  | false =>
    repeat' first | refine Call.eq works33 rfl ?_ | refine Len.map ?_ | refine Len.nil ?_ | refine Len.cons ?_ | refine Br.t rfl ?_ | refine Br.f rfl ?_ | refine Fit.au ?_ | refine Cv.au ?_ | refine Need.ne ?_ | refine Need.au ?_ | refine Pick.map (by assumption) ?_ | refine Pick.mapI (by omega) (by assumption) ?_ | refine PickN.mk _ (by assumption) ?_ | refine PickN.mk _ rfl ?_ | refine PickN.au ?_ | refine App.au rfl ?_ | refine App.au (own_map (fun _ => rfl) _) ?_ | refine Both.mk ?_ ?_ | exact True.intro
    rfl
  | true =>
    have hn := hv rfl
    repeat' first | refine Len.map ?_ | refine Len.nil ?_ | refine Len.cons ?_ | refine Br.t rfl ?_ | refine Br.f rfl ?_ | refine Fit.au ?_ | refine Cv.au ?_ | refine Need.ne ?_ | refine Need.au ?_ | refine Pick.map (by assumption) ?_ | refine Pick.mapI (by omega) (by assumption) ?_ | refine PickN.mk _ (by assumption) ?_ | refine PickN.mk _ rfl ?_ | refine PickN.au ?_ | refine App.au rfl ?_ | refine App.au (own_map (fun _ => rfl) _) ?_ | refine Both.mk ?_ ?_ | exact True.intro
    refine Br.d (fun h1 => ?_) (fun h1 => ?_)
    · repeat' first | refine Call.eq works33 rfl ?_ | refine Len.map ?_ | refine Len.nil ?_ | refine Len.cons ?_ | refine Br.t rfl ?_ | refine Br.f rfl ?_ | refine Fit.au ?_ | refine Cv.au ?_ | refine Need.ne ?_ | refine Need.au ?_ | refine Pick.map (by assumption) ?_ | refine Pick.mapI (by omega) (by assumption) ?_ | refine PickN.mk _ (by assumption) ?_ | refine PickN.mk _ rfl ?_ | refine PickN.au ?_ | refine App.au rfl ?_ | refine App.au (own_map (fun _ => rfl) _) ?_ | refine Both.mk ?_ ?_ | exact True.intro
      rfl
    repeat' first | refine Len.map ?_ | refine Len.nil ?_ | refine Len.cons ?_ | refine Br.t rfl ?_ | refine Br.f rfl ?_ | refine Fit.au ?_ | refine Cv.au ?_ | refine Need.ne ?_ | refine Need.au ?_ | refine Pick.map (by assumption) ?_ | refine Pick.mapI (by omega) (by assumption) ?_ | refine PickN.mk _ (by assumption) ?_ | refine PickN.mk _ rfl ?_ | refine PickN.au ?_ | refine App.au rfl ?_ | refine App.au (own_map (fun _ => rfl) _) ?_ | refine Both.mk ?_ ?_ | exact True.intro
    refine Br.d (fun h2 => ?_) (fun h2 => ?_)
    · repeat' first | refine Call.eq works33 rfl ?_ | refine Len.map ?_ | refine Len.nil ?_ | refine Len.cons ?_ | refine Br.t rfl ?_ | refine Br.f rfl ?_ | refine Fit.au ?_ | refine Cv.au ?_ | refine Need.ne ?_ | refine Need.au ?_ | refine Pick.map (by assumption) ?_ | refine Pick.mapI (by omega) (by assumption) ?_ | refine PickN.mk _ (by assumption) ?_ | refine PickN.mk _ rfl ?_ | refine PickN.au ?_ | refine App.au rfl ?_ | refine App.au (own_map (fun _ => rfl) _) ?_ | refine Both.mk ?_ ?_ | exact True.intro
      rfl
    have hp : (0 : Int) < f.blocks.length := by omega
    have ha1 := Int.tmod_nonneg (f.blocks.length : Int) ha.1
    have ha2 := Int.tmod_lt_of_pos a hp
    have hb1 := Int.tmod_nonneg (f.blocks.length : Int) hb.1
    have hb2 := Int.tmod_lt_of_pos b hp
    have hc1 := Int.tmod_nonneg (f.blocks.length : Int) hc.1
    have hc2 := Int.tmod_lt_of_pos c hp
    obtain ⟨x, hx⟩ : ∃ n : Nat, a.tmod (f.blocks.length : Int) = n := ⟨(a.tmod (f.blocks.length : Int)).toNat, by omega⟩
    obtain ⟨y, hy⟩ : ∃ n : Nat, b.tmod (f.blocks.length : Int) = n := ⟨(b.tmod (f.blocks.length : Int)).toNat, by omega⟩
    obtain ⟨z, hz⟩ : ∃ n : Nat, c.tmod (f.blocks.length : Int) = n := ⟨(c.tmod (f.blocks.length : Int)).toNat, by omega⟩
    have hR := Reach_spec f hf (by omega)
    have hsl := succsF_len f
    have hml := marksF_len (succsF f) (-1)
    have hma := fun c : Nat => marksF_at (s := succsF f) (x := -1) (k := c)
    have hJ := Joins11_spec f x y z hf (by omega) (by omega) (by omega)
    repeat' first | refine Draw.mk (ordL [] [0, 1, 2, 3, 4, 5, 6, 7, 8, 9, 10, 11, 12, 13, 14]) (by decide +kernel) ?_ | (refine Call.of hR ?_; rintro r ⟨m, rfl, hm⟩; refine ⟨rfl, ?_⟩; obtain rfl := hm.eq) | refine Len.map ?_ | refine Len.nil ?_ | refine Len.cons ?_ | refine Br.t rfl ?_ | refine Br.f rfl ?_ | refine Fit.au ?_ | refine Cv.au ?_ | refine Need.ne ?_ | refine Need.au ?_ | refine Pick.map (by assumption) ?_ | refine Pick.mapI (by omega) (by assumption) ?_ | refine PickN.mk _ (by assumption) ?_ | refine PickN.mk _ rfl ?_ | refine PickN.au ?_ | refine App.au rfl ?_ | refine App.au (own_map (fun _ => rfl) _) ?_ | refine Both.mk ?_ ?_ | exact True.intro
    rw [hx, hy, hz]
    have hRc : ∀ k : Nat, (marksF (succsF f) (-1))[k]? = some true → Rc (succsF f) k := fun k h => ((hma k).1 h).2
    obtain ⟨b1, g1, -⟩ := getK (l := marksF (succsF f) (-1)) (k := x) (by omega)
    obtain ⟨b2, g2, -⟩ := getK (l := marksF (succsF f) (-1)) (k := y) (by omega)
    repeat' first | refine PickN.map g1 ?_ | refine PickN.map g2 ?_ | refine Len.map ?_ | refine Len.nil ?_ | refine Len.cons ?_ | refine Br.t rfl ?_ | refine Br.f rfl ?_ | refine Fit.au ?_ | refine Cv.au ?_ | refine Need.ne ?_ | refine Need.au ?_ | refine Pick.map (by assumption) ?_ | refine Pick.mapI (by omega) (by assumption) ?_ | refine PickN.mk _ (by assumption) ?_ | refine PickN.mk _ rfl ?_ | refine PickN.au ?_ | refine App.au rfl ?_ | refine App.au (own_map (fun _ => rfl) _) ?_ | refine Both.mk ?_ ?_ | exact True.intro
    cases b1 with
    | false =>
      repeat' first | refine Call.eq works33 rfl ?_ | refine Len.map ?_ | refine Len.nil ?_ | refine Len.cons ?_ | refine Br.t rfl ?_ | refine Br.f rfl ?_ | refine Fit.au ?_ | refine Cv.au ?_ | refine Need.ne ?_ | refine Need.au ?_ | refine Pick.map (by assumption) ?_ | refine Pick.mapI (by omega) (by assumption) ?_ | refine PickN.mk _ (by assumption) ?_ | refine PickN.mk _ rfl ?_ | refine PickN.au ?_ | refine App.au rfl ?_ | refine App.au (own_map (fun _ => rfl) _) ?_ | refine Both.mk ?_ ?_ | exact True.intro
      rfl
    | true =>
      repeat' first | refine PickN.map g1 ?_ | refine PickN.map g2 ?_ | refine Len.map ?_ | refine Len.nil ?_ | refine Len.cons ?_ | refine Br.t rfl ?_ | refine Br.f rfl ?_ | refine Fit.au ?_ | refine Cv.au ?_ | refine Need.ne ?_ | refine Need.au ?_ | refine Pick.map (by assumption) ?_ | refine Pick.mapI (by omega) (by assumption) ?_ | refine PickN.mk _ (by assumption) ?_ | refine PickN.mk _ rfl ?_ | refine PickN.au ?_ | refine App.au rfl ?_ | refine App.au (own_map (fun _ => rfl) _) ?_ | refine Both.mk ?_ ?_ | exact True.intro
      cases b2 with
      | false =>
        repeat' first | refine Call.eq works33 rfl ?_ | refine Len.map ?_ | refine Len.nil ?_ | refine Len.cons ?_ | refine Br.t rfl ?_ | refine Br.f rfl ?_ | refine Fit.au ?_ | refine Cv.au ?_ | refine Need.ne ?_ | refine Need.au ?_ | refine Pick.map (by assumption) ?_ | refine Pick.mapI (by omega) (by assumption) ?_ | refine PickN.mk _ (by assumption) ?_ | refine PickN.mk _ rfl ?_ | refine PickN.au ?_ | refine App.au rfl ?_ | refine App.au (own_map (fun _ => rfl) _) ?_ | refine Both.mk ?_ ?_ | exact True.intro
        rfl
      | true =>
        repeat' first | refine Len.map ?_ | refine Len.nil ?_ | refine Len.cons ?_ | refine Br.t rfl ?_ | refine Br.f rfl ?_ | refine Fit.au ?_ | refine Cv.au ?_ | refine Need.ne ?_ | refine Need.au ?_ | refine Pick.map (by assumption) ?_ | refine Pick.mapI (by omega) (by assumption) ?_ | refine PickN.mk _ (by assumption) ?_ | refine PickN.mk _ rfl ?_ | refine PickN.au ?_ | refine App.au rfl ?_ | refine App.au (own_map (fun _ => rfl) _) ?_ | refine Both.mk ?_ ?_ | exact True.intro
        refine Br.d (fun h3 => ?_) (fun h3 => ?_)
        · repeat' first | refine Call.eq works33 rfl ?_ | refine Len.map ?_ | refine Len.nil ?_ | refine Len.cons ?_ | refine Br.t rfl ?_ | refine Br.f rfl ?_ | refine Fit.au ?_ | refine Cv.au ?_ | refine Need.ne ?_ | refine Need.au ?_ | refine Pick.map (by assumption) ?_ | refine Pick.mapI (by omega) (by assumption) ?_ | refine PickN.mk _ (by assumption) ?_ | refine PickN.mk _ rfl ?_ | refine PickN.au ?_ | refine App.au rfl ?_ | refine App.au (own_map (fun _ => rfl) _) ?_ | refine Both.mk ?_ ?_ | exact True.intro
          rfl
        repeat' first | (refine Call.of hJ ?_; rintro r ⟨v, rfl, hv2⟩; refine ⟨rfl, ?_⟩) | refine Len.map ?_ | refine Len.nil ?_ | refine Len.cons ?_ | refine Br.t rfl ?_ | refine Br.f rfl ?_ | refine Fit.au ?_ | refine Cv.au ?_ | refine Need.ne ?_ | refine Need.au ?_ | refine Pick.map (by assumption) ?_ | refine Pick.mapI (by omega) (by assumption) ?_ | refine PickN.mk _ (by assumption) ?_ | refine PickN.mk _ rfl ?_ | refine PickN.au ?_ | refine App.au rfl ?_ | refine App.au (own_map (fun _ => rfl) _) ?_ | refine Both.mk ?_ ?_ | exact True.intro
        cases v with
        | false =>
          repeat' first | refine Call.eq works33 rfl ?_ | refine Len.map ?_ | refine Len.nil ?_ | refine Len.cons ?_ | refine Br.t rfl ?_ | refine Br.f rfl ?_ | refine Fit.au ?_ | refine Cv.au ?_ | refine Need.ne ?_ | refine Need.au ?_ | refine Pick.map (by assumption) ?_ | refine Pick.mapI (by omega) (by assumption) ?_ | refine PickN.mk _ (by assumption) ?_ | refine PickN.mk _ rfl ?_ | refine PickN.au ?_ | refine App.au rfl ?_ | refine App.au (own_map (fun _ => rfl) _) ?_ | refine Both.mk ?_ ?_ | exact True.intro
          rfl
        | true =>
          obtain ⟨A, B, p, q, hp1, hp2, hp3, hp4, hp5⟩ := hv2 rfl
          have hcl := succsF_closed f
          have hRi := Rims34_spec f hf (by omega)
          have hrl : ((List.range f.blocks.length).map fun a => rimTo (succsF f) a f.blocks.length).length = f.blocks.length := by simp
          have hrlen : ∀ r ∈ (List.range f.blocks.length).map fun a => rimTo (succsF f) a f.blocks.length, r.length ≤ 1000000 := fun r hr => by
            obtain ⟨k, _, rfl⟩ := List.mem_map.1 hr
            have := @rimTo_len (succsF f) k f.blocks.length
            omega
          have hrim : ∀ a k : Nat, Rc (succsF f) a → rimP (succsF f) a k → ∃ r, ((List.range f.blocks.length).map fun a => rimTo (succsF f) a f.blocks.length)[a]? = some r ∧ (k : Int) ∈ r := fun a k hr hP => by
            have hal := Rc_lt hcl hr
            have hkl := Rc_lt hcl hP.1
            refine ⟨_, by rw [List.getElem?_map, List.getElem?_range (by omega)]; rfl, ?_⟩
            unfold rimTo
            exact List.mem_map.2 ⟨k, List.mem_filter.2 ⟨List.mem_range.2 (by omega), rimB_iff.2 hP⟩, rfl⟩
          have hAll := joins_rim (l := [(x : Int), (y : Int), 0]) hcl (by rw [hrl, hsl]) hrim (hRc x g1) (hRc y g2) (by simp) (by simp) hp1 hp2 hp3 hp4 hp5
          have h7 := All7_spec _ [(x : Int), (y : Int), 0] (by rw [hrl]; omega) (by simp) hrlen
          have hmem : (z : Int) ∈ allF ((List.range f.blocks.length).map fun a => rimTo (succsF f) a f.blocks.length) [(x : Int), (y : Int), 0] := filtN_mem.2 ⟨by omega, by have := hAll.lt; omega, by rw [Int.toNat_natCast]; exact hAll⟩
          have hal : (allF ((List.range f.blocks.length).map fun a => rimTo (succsF f) a f.blocks.length) [(x : Int), (y : Int), 0]).length ≤ f.blocks.length := by
            exact Nat.le_trans (filtN_len _ _) (by rw [hrl]; exact Nat.le_refl _)
          generalize (List.range f.blocks.length).map (fun a => rimTo (succsF f) a f.blocks.length) = R at *
          repeat' first | refine Call.eq hRi rfl ?_ | refine Len.map ?_ | refine Len.nil ?_ | refine Len.cons ?_ | refine Br.t rfl ?_ | refine Br.f rfl ?_ | refine Fit.au ?_ | refine Cv.au ?_ | refine Need.ne ?_ | refine Need.au ?_ | refine Pick.map (by assumption) ?_ | refine Pick.mapI (by omega) (by assumption) ?_ | refine PickN.mk _ (by assumption) ?_ | refine PickN.mk _ rfl ?_ | refine PickN.au ?_ | refine App.au rfl ?_ | refine App.au (own_map (fun _ => rfl) _) ?_ | refine Both.mk ?_ ?_ | exact True.intro
          refine Look.stop (Stop.mk (run_frzR 2 rfl (fzLL_map fz_olsts _) ?_))
          refine run_frzR 3 rfl (show AV.fzLL [[num x], [num y], [num 0]] = [(x : Int), (y : Int), 0].map int1 from rfl) ?_
          generalize allF R [(x : Int), (y : Int), 0] = w at *
          have hH := HasInt_spec w z (by omega)
          rw [decide_eq_true hmem] at hH
          refine go 1000 Try.func4 ?_
          repeat' first | refine Call.eq h7 rfl ?_ | (refine Look.yes (View.mk _ (fzn _) ?_); refine CallV.eq hH rfl (Free.lit _) ?_) | refine Call.eq works33 rfl ?_ | refine Len.map ?_ | refine Len.nil ?_ | refine Len.cons ?_ | refine Br.t rfl ?_ | refine Br.f rfl ?_ | refine Fit.au ?_ | refine Cv.au ?_ | refine Need.ne ?_ | refine Need.au ?_ | refine Pick.map (by assumption) ?_ | refine Pick.mapI (by omega) (by assumption) ?_ | refine PickN.mk _ (by assumption) ?_ | refine PickN.mk _ rfl ?_ | refine PickN.au ?_ | refine App.au rfl ?_ | refine App.au (own_map (fun _ => rfl) _) ?_ | refine Both.mk ?_ ?_ | exact True.intro
          rfl
end Go.Proofs.Ytjjijklonnhdeaa
