/- The law TidyTells as a function. -/
import Derived.Test.YtnfkdilmoppbpaaTFJ
import Derived.Test.YtnfkdilmoppbpaaTFK
import Derived.Test.YtnfkdilmoppbpaaTFL
import Derived.Test.YtnfkdilmoppbpaaTMM
set_option linter.unusedVariables false
set_option linter.unusedSimpArgs false

namespace Go.Proofs.Ytnfkdilmoppbpaa
open Go.Ax
set_option maxRecDepth 10000
set_option linter.unusedVariables false

theorem right36_spec (p : Pro) (hp : p.fits) (hl : p.light) : FnSpec Try.prog 36 [proA p] (fun r => ∃ v, r = tru v ∧ (v = true → p.few 150 ∧ proP p)) := by
  refine spec_of 1000 Try.func36 rfl rfl ?_
  refine Call.of (Few_spec p 150 (by decide) hp hl) ?_
  rintro r ⟨b, rfl, hb⟩
  refine ⟨rfl, ?_⟩
  repeat' first | refine Len.map ?_ | refine Len.nil ?_ | refine Len.cons ?_ | refine Br.t rfl ?_ | refine Br.f rfl ?_ | refine Need.mk ⟨by first | omega | (simp; omega), by first | omega | (simp; done) | (simp; omega)⟩ ?_ | refine Pick.map (by assumption) ?_ | refine Pick.mapI (by omega) (by assumption) ?_ | refine PickN.mk _ (by assumption) ?_ | refine PickN.mk _ rfl ?_ | refine PickN.map (by first | assumption | (rw [Int.toNat_natCast]; assumption)) ?_ | refine App.mk rfl (by simp only [List.length_map, List.length_append, List.length_cons, List.length_nil]; omega) (by simp only [List.length_map, List.length_append, List.length_cons, List.length_nil]; omega) ?_ | refine App.mk (own_map (fun _ => rfl) _) (by simp only [List.length_map, List.length_append, List.length_cons, List.length_nil]; omega) (by simp only [List.length_map, List.length_append, List.length_cons, List.length_nil]; omega) ?_ | refine Both.mk ?_ ?_ | exact True.intro
  refine Br.mk (fun h => ?_) (fun h => ?_)
  · have hb1 := hb h
    have hs := hb1.slim (by decide) hp
    clear hb
    subst h
    repeat' first | refine Call.eq (Check16_spec p hs) rfl ?_ | refine Len.map ?_ | refine Len.nil ?_ | refine Len.cons ?_ | refine Br.t rfl ?_ | refine Br.f rfl ?_ | refine Need.mk ⟨by first | omega | (simp; omega), by first | omega | (simp; done) | (simp; omega)⟩ ?_ | refine Pick.map (by assumption) ?_ | refine Pick.mapI (by omega) (by assumption) ?_ | refine PickN.mk _ (by assumption) ?_ | refine PickN.mk _ rfl ?_ | refine PickN.map (by first | assumption | (rw [Int.toNat_natCast]; assumption)) ?_ | refine App.mk rfl (by simp only [List.length_map, List.length_append, List.length_cons, List.length_nil]; omega) (by simp only [List.length_map, List.length_append, List.length_cons, List.length_nil]; omega) ?_ | refine App.mk (own_map (fun _ => rfl) _) (by simp only [List.length_map, List.length_append, List.length_cons, List.length_nil]; omega) (by simp only [List.length_map, List.length_append, List.length_cons, List.length_nil]; omega) ?_ | refine Both.mk ?_ ?_ | exact True.intro
    exact ⟨_, rfl, fun h => ⟨hb1, checkE_zero.1 (by simpa using h)⟩⟩
  · subst h
    repeat' first | refine Len.map ?_ | refine Len.nil ?_ | refine Len.cons ?_ | refine Br.t rfl ?_ | refine Br.f rfl ?_ | refine Need.mk ⟨by first | omega | (simp; omega), by first | omega | (simp; done) | (simp; omega)⟩ ?_ | refine Pick.map (by assumption) ?_ | refine Pick.mapI (by omega) (by assumption) ?_ | refine PickN.mk _ (by assumption) ?_ | refine PickN.mk _ rfl ?_ | refine PickN.map (by first | assumption | (rw [Int.toNat_natCast]; assumption)) ?_ | refine App.mk rfl (by simp only [List.length_map, List.length_append, List.length_cons, List.length_nil]; omega) (by simp only [List.length_map, List.length_append, List.length_cons, List.length_nil]; omega) ?_ | refine App.mk (own_map (fun _ => rfl) _) (by simp only [List.length_map, List.length_append, List.length_cons, List.length_nil]; omega) (by simp only [List.length_map, List.length_append, List.length_cons, List.length_nil]; omega) ?_ | refine Both.mk ?_ ?_ | exact True.intro
    exact ⟨false, rfl, fun h => by cases h⟩

theorem fz_pro (l : List Fun) (m : Int) (s : List (Int × Int)) : AV.fzL [.osl 5 (l.map Fun.ocs), num m, .osl 2 (s.map site)] = [.sl false 5 (l.map Fun.cs), num m, .sl false 2 (s.map site)] := by
  show [AV.sl false 5 (AV.fzLL (l.map Fun.ocs)), _, AV.sl false 2 (AV.fzLL (s.map site))] = _
  rw [fzLL_map fz_focs, fzLL_map fz_site]; rfl

set_option maxHeartbeats 2000000 in
theorem TidyTells_spec (p : Pro) (hp : p.fits) (hl : p.light) : FnSpec Try.prog 7 [proA p] (fun r => r = tru true) := by
  refine spec_of 21 Try.func7 rfl rfl ?_
  refine Call.of (right36_spec p hp hl) ?_
  rintro r ⟨v, rfl, hv⟩
  refine ⟨rfl, ?_⟩
  repeat' first | refine Len.map ?_ | refine Len.nil ?_ | refine Len.cons ?_ | refine Br.t rfl ?_ | refine Br.f rfl ?_ | refine Need.mk ⟨by first | omega | (simp; omega), by first | omega | (simp; done) | (simp; omega)⟩ ?_ | refine Pick.map (by assumption) ?_ | refine Pick.mapI (by omega) (by assumption) ?_ | refine PickN.mk _ (by assumption) ?_ | refine PickN.mk _ rfl ?_ | refine PickN.map (by first | assumption | (rw [Int.toNat_natCast]; assumption)) ?_ | refine App.mk rfl (by simp only [List.length_map, List.length_append, List.length_cons, List.length_nil]; omega) (by simp only [List.length_map, List.length_append, List.length_cons, List.length_nil]; omega) ?_ | refine App.mk (own_map (fun _ => rfl) _) (by simp only [List.length_map, List.length_append, List.length_cons, List.length_nil]; omega) (by simp only [List.length_map, List.length_append, List.length_cons, List.length_nil]; omega) ?_ | refine Both.mk ?_ ?_ | exact True.intro
  refine Br.mk (fun h => ?_) (fun h => ?_)
  · repeat' first | refine Call.eq works37t rfl ?_ | refine Len.map ?_ | refine Len.nil ?_ | refine Len.cons ?_ | refine Br.t rfl ?_ | refine Br.f rfl ?_ | refine Need.mk ⟨by first | omega | (simp; omega), by first | omega | (simp; done) | (simp; omega)⟩ ?_ | refine Pick.map (by assumption) ?_ | refine Pick.mapI (by omega) (by assumption) ?_ | refine PickN.mk _ (by assumption) ?_ | refine PickN.mk _ rfl ?_ | refine PickN.map (by first | assumption | (rw [Int.toNat_natCast]; assumption)) ?_ | refine App.mk rfl (by simp only [List.length_map, List.length_append, List.length_cons, List.length_nil]; omega) (by simp only [List.length_map, List.length_append, List.length_cons, List.length_nil]; omega) ?_ | refine App.mk (own_map (fun _ => rfl) _) (by simp only [List.length_map, List.length_append, List.length_cons, List.length_nil]; omega) (by simp only [List.length_map, List.length_append, List.length_cons, List.length_nil]; omega) ?_ | refine Both.mk ?_ ?_ | exact True.intro
    rfl
  obtain ⟨hb, hpro⟩ := hv (by simpa using h)
  clear h hv
  have hs := hb.slim (by decide) hp
  have ho := hb.okT hp
  have ho1 := ho.1
  have hP := Program38_spec p ho
  unfold tidyP at hP
  have hmap : p.funcs.map tidyR = (p.funcs.map tidyF).map Fun.ocs := by
    rw [List.map_map]
    exact List.map_congr_left fun f hf => tidyR_fit (hpro.fit hf)
  rw [hmap] at hP
  have hlq : (p.funcs.map tidyF).length = p.funcs.length := by simp
  have hq : ∀ (k : Nat) (f : Fun), p.funcs[k]? = some f → (p.funcs.map tidyF)[k]? = some (tidyF f) := fun k f h => by rw [List.getElem?_map, h]; rfl
  generalize p.funcs.map tidyF = ts at *
  repeat' first | refine Call.eq hP rfl ?_ | refine Len.map ?_ | refine Len.nil ?_ | refine Len.cons ?_ | refine Br.t rfl ?_ | refine Br.f rfl ?_ | refine Need.mk ⟨by first | omega | (simp; omega), by first | omega | (simp; done) | (simp; omega)⟩ ?_ | refine Pick.map (by assumption) ?_ | refine Pick.mapI (by omega) (by assumption) ?_ | refine PickN.mk _ (by assumption) ?_ | refine PickN.mk _ rfl ?_ | refine PickN.map (by first | assumption | (rw [Int.toNat_natCast]; assumption)) ?_ | refine App.mk rfl (by simp only [List.length_map, List.length_append, List.length_cons, List.length_nil]; omega) (by simp only [List.length_map, List.length_append, List.length_cons, List.length_nil]; omega) ?_ | refine App.mk (own_map (fun _ => rfl) _) (by simp only [List.length_map, List.length_append, List.length_cons, List.length_nil]; omega) (by simp only [List.length_map, List.length_append, List.length_cons, List.length_nil]; omega) ?_ | refine Both.mk ?_ ?_ | exact True.intro
  refine Stop.mk (run_frzV 3 rfl rfl (fz_pro _ _ _) ?_)
  refine Run.fr (g := []) (tm' := [(1, .hp 0 0), (3, .pt [.sl false 5 (ts.map Fun.cs), num p.main, .sl false 2 (p.sites.map site)])]) (hp' := [(0, .var p.cs)]) (nx' := 1) ?_ ⟨rfl, (by repeat' first | exact trivial | refine ⟨rfl, ?_⟩ | refine ⟨congrArg (fun n => AV.lit (.int .i64 n)) (by omega), ?_⟩ | refine ⟨congrArg (fun l => some (Row.row 1 l)) (by simp [int1, num, tru]), ?_⟩), (by repeat' first | exact trivial | refine ⟨rfl, ?_⟩ | refine ⟨congrArg (fun n => AV.lit (.int .i64 n)) (by omega), ?_⟩ | refine ⟨congrArg (fun l => some (Row.row 1 l)) (by simp [int1, num, tru]), ?_⟩)⟩
  refine go 1000 Try.func7 ?_
  repeat' first | (refine Br.f ?_ ?_; focus (first | (simp; done) | (simp [hlq]; done) | (simp_all; done))) | refine Len.map ?_ | refine Len.nil ?_ | refine Len.cons ?_ | refine Br.t rfl ?_ | refine Br.f rfl ?_ | refine Need.mk ⟨by first | omega | (simp; omega), by first | omega | (simp; done) | (simp; omega)⟩ ?_ | refine Pick.map (by assumption) ?_ | refine Pick.mapI (by omega) (by assumption) ?_ | refine PickN.mk _ (by assumption) ?_ | refine PickN.mk _ rfl ?_ | refine PickN.map (by first | assumption | (rw [Int.toNat_natCast]; assumption)) ?_ | refine App.mk rfl (by simp only [List.length_map, List.length_append, List.length_cons, List.length_nil]; omega) (by simp only [List.length_map, List.length_append, List.length_cons, List.length_nil]; omega) ?_ | refine App.mk (own_map (fun _ => rfl) _) (by simp only [List.length_map, List.length_append, List.length_cons, List.length_nil]; omega) (by simp only [List.length_map, List.length_append, List.length_cons, List.length_nil]; omega) ?_ | refine Both.mk ?_ ?_ | exact True.intro
  refine Stop.mk (loop_in (g := []) (fun k : Nat => [(1, .hp 0 0), (3, .pt [.sl false 5 (ts.map Fun.cs), num p.main, .sl false 2 (p.sites.map site)]), (4, num k)]) (fun k => [(0, .var p.cs)]) 1 (fun k => k ≤ p.funcs.length) (fun k => p.funcs.length - k) 0 (by omega) ⟨rfl, (by repeat' first | exact trivial | refine ⟨rfl, ?_⟩ | refine ⟨congrArg (fun n => AV.lit (.int .i64 n)) (by omega), ?_⟩ | refine ⟨congrArg (fun l => some (Row.row 1 l)) (by simp [int1, num, tru]), ?_⟩), (by repeat' first | exact trivial | refine ⟨rfl, ?_⟩ | refine ⟨congrArg (fun n => AV.lit (.int .i64 n)) (by omega), ?_⟩ | refine ⟨congrArg (fun l => some (Row.row 1 l)) (by simp [int1, num, tru]), ?_⟩)⟩ (fun k hk ih => ?_))
  refine go 24 Try.func7 ?_
  repeat' first | refine Len.map ?_ | refine Len.nil ?_ | refine Len.cons ?_ | refine Br.t rfl ?_ | refine Br.f rfl ?_ | refine Need.mk ⟨by first | omega | (simp; omega), by first | omega | (simp; done) | (simp; omega)⟩ ?_ | refine Pick.map (by assumption) ?_ | refine Pick.mapI (by omega) (by assumption) ?_ | refine PickN.mk _ (by assumption) ?_ | refine PickN.mk _ rfl ?_ | refine PickN.map (by first | assumption | (rw [Int.toNat_natCast]; assumption)) ?_ | refine App.mk rfl (by simp only [List.length_map, List.length_append, List.length_cons, List.length_nil]; omega) (by simp only [List.length_map, List.length_append, List.length_cons, List.length_nil]; omega) ?_ | refine App.mk (own_map (fun _ => rfl) _) (by simp only [List.length_map, List.length_append, List.length_cons, List.length_nil]; omega) (by simp only [List.length_map, List.length_append, List.length_cons, List.length_nil]; omega) ?_ | refine Both.mk ?_ ?_ | exact True.intro
  refine Br.d (fun h2 => ?_) (fun h2 => ?_)
  · obtain ⟨f, gf, gm⟩ := getK (l := p.funcs) (k := k) (by omega)
    have gt := hq k f gf
    obtain ⟨hf, hbl, hrl, hbb⟩ := ho.2.2 f gm
    have hfit := hpro.fit gm
    have hF := Func39_spec f hf hbl hrl hbb (hpro.right gm) hfit
    repeat' first | refine Pick.map gf ?_ | refine Call.eq hF rfl ?_ | refine Len.map ?_ | refine Len.nil ?_ | refine Len.cons ?_ | refine Br.t rfl ?_ | refine Br.f rfl ?_ | refine Need.mk ⟨by first | omega | (simp; omega), by first | omega | (simp; done) | (simp; omega)⟩ ?_ | refine Pick.map (by assumption) ?_ | refine Pick.mapI (by omega) (by assumption) ?_ | refine PickN.mk _ (by assumption) ?_ | refine PickN.mk _ rfl ?_ | refine PickN.map (by first | assumption | (rw [Int.toNat_natCast]; assumption)) ?_ | refine App.mk rfl (by simp only [List.length_map, List.length_append, List.length_cons, List.length_nil]; omega) (by simp only [List.length_map, List.length_append, List.length_cons, List.length_nil]; omega) ?_ | refine App.mk (own_map (fun _ => rfl) _) (by simp only [List.length_map, List.length_append, List.length_cons, List.length_nil]; omega) (by simp only [List.length_map, List.length_append, List.length_cons, List.length_nil]; omega) ?_ | refine Both.mk ?_ ?_ | exact True.intro
    refine Stop.mk (run_frzV 3 rfl rfl (fz_focs _) ?_)
    refine Run.fr (g := []) (tm' := [(1, .hp 0 0), (3, .pt [.sl false 5 (ts.map Fun.cs), num p.main, .sl false 2 (p.sites.map site)]), (4, num k), (5, .pt (tidyF f).cs)]) (hp' := [(0, .var p.cs)]) (nx' := 1) ?_ ⟨rfl, (by repeat' first | exact trivial | refine ⟨rfl, ?_⟩ | refine ⟨congrArg (fun n => AV.lit (.int .i64 n)) (by omega), ?_⟩ | refine ⟨congrArg (fun l => some (Row.row 1 l)) (by simp [int1, num, tru]), ?_⟩), (by repeat' first | exact trivial | refine ⟨rfl, ?_⟩ | refine ⟨congrArg (fun n => AV.lit (.int .i64 n)) (by omega), ?_⟩ | refine ⟨congrArg (fun l => some (Row.row 1 l)) (by simp [int1, num, tru]), ?_⟩)⟩
    have hT := Func41_spec f hf hbl hrl hbb
    rw [tidyR_fit hfit] at hT
    obtain ⟨gf1, gf2, gf3⟩ := tidyF_fits hf hbb
    have hS := SameFunc_spec (tidyF f) (tidyF f) gf1 gf1 (by omega) (fun b hb => by have := (gf3 b hb).1; omega)
    rw [decide_eq_true rfl] at hS
    have hM := Map42_spec f hf (by omega)
    have hM2 := Map43_spec f hf (by omega)
    have hml := mapF_len f
    have hI := SameInts_spec (mapF f) (mapF f) (by omega)
    rw [decide_eq_true rfl] at hI
    generalize tidyF f = tf at *
    generalize mapF f = M at *
    refine go 1000 Try.func7 ?_
    repeat' first | refine Draw.mk (ordL [6, 14, 16, 25, 31, 32] [0, 1, 2, 3, 4, 5, 6, 7, 8, 9, 10, 11, 12, 13, 15, 14, 16, 17, 18, 19, 20, 21, 22, 23, 24, 26, 27, 28, 29, 30, 25, 31, 32, 33, 34]) (by decide +kernel) ?_ | refine Pick.map gf ?_ | refine Pick.map gt ?_ | refine Call.eq hS rfl ?_ | refine Call.eq hT rfl ?_ | refine Call.eq hM rfl ?_ | refine Call.eq hM2 rfl ?_ | refine Look.yes (View.mk _ (fzm _) (View.mk _ (fzLL_map fz_oblk _) ?_)) | refine CallV.eq hS rfl (Free.lit _) ?_ | refine Look.yes (View.mk _ (fzm _) (View.mk _ (fzm _) ?_)) | refine CallV.eq hI rfl (Free.lit _) ?_ | refine Len.map ?_ | refine Len.nil ?_ | refine Len.cons ?_ | refine Br.t rfl ?_ | refine Br.f rfl ?_ | refine Need.mk ⟨by first | omega | (simp; omega), by first | omega | (simp; done) | (simp; omega)⟩ ?_ | refine Pick.map (by assumption) ?_ | refine Pick.mapI (by omega) (by assumption) ?_ | refine PickN.mk _ (by assumption) ?_ | refine PickN.mk _ rfl ?_ | refine PickN.map (by first | assumption | (rw [Int.toNat_natCast]; assumption)) ?_ | refine App.mk rfl (by simp only [List.length_map, List.length_append, List.length_cons, List.length_nil]; omega) (by simp only [List.length_map, List.length_append, List.length_cons, List.length_nil]; omega) ?_ | refine App.mk (own_map (fun _ => rfl) _) (by simp only [List.length_map, List.length_append, List.length_cons, List.length_nil]; omega) (by simp only [List.length_map, List.length_append, List.length_cons, List.length_nil]; omega) ?_ | refine Both.mk ?_ ?_ | exact True.intro
    all_goals exact Stop.mk (ih (k + 1) (g := []) _ _ _ (by omega) (by omega) ⟨rfl, (by repeat' first | exact trivial | refine ⟨rfl, ?_⟩ | refine ⟨congrArg (fun n => AV.lit (.int .i64 n)) (by omega), ?_⟩ | refine ⟨congrArg (fun l => some (Row.row 1 l)) (by simp [int1, num, tru]), ?_⟩), (by repeat' first | exact trivial | refine ⟨rfl, ?_⟩ | refine ⟨congrArg (fun n => AV.lit (.int .i64 n)) (by omega), ?_⟩ | refine ⟨congrArg (fun l => some (Row.row 1 l)) (by simp [int1, num, tru]), ?_⟩)⟩)
  · have h0 : (checkE p).err = 0 := checkE_zero.2 hpro
    repeat' first | refine Call.eq (Check16_spec p hs) rfl ?_ | refine Br.t (decide_eq_true h0) ?_ | refine Call.eq works37t rfl ?_ | refine Len.map ?_ | refine Len.nil ?_ | refine Len.cons ?_ | refine Br.t rfl ?_ | refine Br.f rfl ?_ | refine Need.mk ⟨by first | omega | (simp; omega), by first | omega | (simp; done) | (simp; omega)⟩ ?_ | refine Pick.map (by assumption) ?_ | refine Pick.mapI (by omega) (by assumption) ?_ | refine PickN.mk _ (by assumption) ?_ | refine PickN.mk _ rfl ?_ | refine PickN.map (by first | assumption | (rw [Int.toNat_natCast]; assumption)) ?_ | refine App.mk rfl (by simp only [List.length_map, List.length_append, List.length_cons, List.length_nil]; omega) (by simp only [List.length_map, List.length_append, List.length_cons, List.length_nil]; omega) ?_ | refine App.mk (own_map (fun _ => rfl) _) (by simp only [List.length_map, List.length_append, List.length_cons, List.length_nil]; omega) (by simp only [List.length_map, List.length_append, List.length_cons, List.length_nil]; omega) ?_ | refine Both.mk ?_ ?_ | exact True.intro
    rfl
end Go.Proofs.Ytnfkdilmoppbpaa
