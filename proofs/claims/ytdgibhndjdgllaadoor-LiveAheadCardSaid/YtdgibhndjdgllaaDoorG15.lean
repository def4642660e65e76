/- The check of programs: a function itself, by a contract. -/
import Derived.Test.YtdgibhndjdgllaaDoorG14
import Derived.Test.YtdgibhndjdgllaaDoorG06
import Derived.Test.YtdgibhndjdgllaaDoorG13
set_option linter.unusedVariables false
set_option linter.unusedSimpArgs false

namespace Go.Proofs.YtdgibhndjdgllaaDoor
open Go.Ax
set_option maxRecDepth 10000
set_option linter.unusedVariables false

theorem head_spec (f : Fun) (hf : f.fits) (hc : f.count ≤ 100000000000000000) : FnSpec Tryd.prog 57 [funA f] (fun r => r = num (headE f)) := by
  have hf1 := hf.1
  have hf2 := hf.2.1
  refine spec_of 1000 Tryd.func57 rfl rfl ?_
  repeat' first | refine Len.map ?_ | refine Len.nil ?_ | refine Len.cons ?_ | refine Br.t rfl ?_ | refine Br.f rfl ?_ | refine Fit.au ?_ | refine Cv.au ?_ | refine Need.ne ?_ | refine Need.au ?_ | refine Pick.map (by assumption) ?_ | refine Pick.mapI (by omega) (by assumption) ?_ | refine PickN.mk _ (by assumption) ?_ | refine PickN.mk _ rfl ?_ | refine PickN.au ?_ | refine App.au rfl ?_ | refine App.au (own_map (fun _ => rfl) _) ?_ | refine Both.mk ?_ ?_ | exact True.intro
  refine Stop.mk (loop_in (fun k : Nat => [(1, .hp 0 0), (3, num (((f.blocks.map List.length).take k).sum : Nat)), (4, num k)]) (fun k => [(0, .var f.cs)]) 1 (fun k => k ≤ f.blocks.length) (fun k => f.blocks.length - k) 0 (by omega) (g := []) ⟨rfl, (by repeat' first | exact trivial | refine ⟨rfl, ?_⟩ | refine ⟨congrArg (fun n => AV.lit (.int .i64 n)) (by omega), ?_⟩ | refine ⟨congrArg (fun l => some (Row.row 1 l)) (by simp [int1, num, tru]), ?_⟩), (by repeat' first | exact trivial | refine ⟨rfl, ?_⟩ | refine ⟨congrArg (fun n => AV.lit (.int .i64 n)) (by omega), ?_⟩ | refine ⟨congrArg (fun l => some (Row.row 1 l)) (by simp [int1, num, tru]), ?_⟩)⟩ (fun k hk ih => ?_))
  refine go 1000 Tryd.func57 ?_
  repeat' first | refine Len.map ?_ | refine Len.nil ?_ | refine Len.cons ?_ | refine Br.t rfl ?_ | refine Br.f rfl ?_ | refine Fit.au ?_ | refine Cv.au ?_ | refine Need.ne ?_ | refine Need.au ?_ | refine Pick.map (by assumption) ?_ | refine Pick.mapI (by omega) (by assumption) ?_ | refine PickN.mk _ (by assumption) ?_ | refine PickN.mk _ rfl ?_ | refine PickN.au ?_ | refine App.au rfl ?_ | refine App.au (own_map (fun _ => rfl) _) ?_ | refine Both.mk ?_ ?_ | exact True.intro
  refine Br.d (fun h2 => ?_) (fun h2 => ?_)
  · obtain ⟨b, gb, gm⟩ := getK (l := f.blocks) (k := k) (by omega)
    obtain ⟨hb1, hb2⟩ := hf.2.2 b gm
    have e1 := sum_take_succ (l := f.blocks.map List.length) (k := k) (n := b.length) (by simp [gb])
    have e2 := f.count_take (k + 1)
    repeat' first | refine Len.map ?_ | refine Len.nil ?_ | refine Len.cons ?_ | refine Br.t rfl ?_ | refine Br.f rfl ?_ | refine Fit.au ?_ | refine Cv.au ?_ | refine Need.ne ?_ | refine Need.au ?_ | refine Pick.map (by assumption) ?_ | refine Pick.mapI (by omega) (by assumption) ?_ | refine PickN.mk _ (by assumption) ?_ | refine PickN.mk _ rfl ?_ | refine PickN.au ?_ | refine App.au rfl ?_ | refine App.au (own_map (fun _ => rfl) _) ?_ | refine Both.mk ?_ ?_ | exact True.intro
    refine Stop.mk (ih (k + 1) (g := []) _ _ _ (by omega) (by omega) ?_)
    rw [e1, Int.natCast_add]
    exact ⟨rfl, (by repeat' first | exact trivial | refine ⟨rfl, ?_⟩ | refine ⟨congrArg (fun n => AV.lit (.int .i64 n)) (by omega), ?_⟩ | refine ⟨congrArg (fun l => some (Row.row 1 l)) (by simp [int1, num, tru]), ?_⟩), (by repeat' first | exact trivial | refine ⟨rfl, ?_⟩ | refine ⟨congrArg (fun n => AV.lit (.int .i64 n)) (by omega), ?_⟩ | refine ⟨congrArg (fun l => some (Row.row 1 l)) (by simp [int1, num, tru]), ?_⟩)⟩
  have ec : ((f.blocks.map List.length).take k).sum = f.count := by rw [take_all (by simp; omega)]; rfl
  rw [ec]
  clear ih
  have hkr := kinds_spec f.regs hf2
  have hkr2 := kinds_spec [f.ret] (by simp)
  repeat' first | refine Call.eq hkr rfl ?_ | refine Look.yes (View.mk _ rfl ?_) | refine CallV.eq hkr2 rfl (Free.lit _) ?_ | refine Len.map ?_ | refine Len.nil ?_ | refine Len.cons ?_ | refine Br.t rfl ?_ | refine Br.f rfl ?_ | refine Fit.au ?_ | refine Cv.au ?_ | refine Need.ne ?_ | refine Need.au ?_ | refine Pick.map (by assumption) ?_ | refine Pick.mapI (by omega) (by assumption) ?_ | refine PickN.mk _ (by assumption) ?_ | refine PickN.mk _ rfl ?_ | refine PickN.au ?_ | refine App.au rfl ?_ | refine App.au (own_map (fun _ => rfl) _) ?_ | refine Both.mk ?_ ?_ | exact True.intro | refine Br.d (fun h => ?_) (fun h => ?_) | refine Br.nd (fun h => ?_) (fun h => ?_) | refine Br.mk (fun h => ?_) (fun h => ?_)
  all_goals first
    | (have e : headE f = 3 := if_neg fun h => by unfold longP at h; exfalso; omega
       rw [e]; rfl)
    | (have e : headE f = 11 := by
         unfold headE; rw [if_pos (by unfold longP; omega), if_neg fun h => by unfold kindP at h; simp_all; done]
       rw [e]; rfl)
    | (have e : headE f = 5 := by
         unfold headE; rw [if_pos (by unfold longP; omega), if_pos (by unfold kindP; simp_all), if_pos (by omega)]
       rw [e]; rfl)
    | (have e : headE f = 0 := by
         unfold headE; rw [if_pos (by unfold longP; omega), if_pos (by unfold kindP; simp_all), if_neg (by omega)]
       rw [e]; rfl)
end Go.Proofs.YtdgibhndjdgllaaDoor

/- The check of programs, by a contract. -/
namespace Go.Proofs.YtdgibhndjdgllaaDoor
open Go.Ax
set_option maxRecDepth 10000
set_option linter.unusedVariables false

def z4 : List AV := [num 0, num 0, num 0, num 0]
set_option maxHeartbeats 2000000 in
theorem Check16_spec (p : Pro) (hs : p.slim) : FnSpec Tryd.prog 26 [proA p] (fun r => r = .agg (checkE p).cs) := by
  have hp := hs.1
  have hp1 := hp.1
  have hp2 := hp.2.1
  have hreg : ∀ g ∈ p.funcs, g.regs.length < 1000000 := fun g hg => (hs.2 g hg).2.1
  have bad : (200 < p.funcs.length ∨ 262144 < p.sites.length) → checkE p = ⟨-1, -1, -1, 3⟩ := fun h => if_pos h
  have bad2 : ¬ (200 < p.funcs.length ∨ 262144 < p.sites.length) → ¬ mainP p → checkE p = ⟨-1, -1, -1, 13⟩ := fun h h2 => by unfold checkE; rw [if_neg h, if_neg h2]
  refine spec_of 1000 Tryd.func26 rfl rfl ?_
  repeat' first | refine Len.map ?_ | refine Len.nil ?_ | refine Len.cons ?_ | refine Br.t rfl ?_ | refine Br.f rfl ?_ | refine Fit.au ?_ | refine Cv.au ?_ | refine Need.ne ?_ | refine Need.au ?_ | refine Pick.map (by assumption) ?_ | refine Pick.mapI (by omega) (by assumption) ?_ | refine PickN.mk _ (by assumption) ?_ | refine PickN.mk _ rfl ?_ | refine PickN.au ?_ | refine App.au rfl ?_ | refine App.au (own_map (fun _ => rfl) _) ?_ | refine Both.mk ?_ ?_ | exact True.intro
  refine Br.d (fun h1 => ?_) (fun h1 => ?_)
  · repeat' first | refine Len.map ?_ | refine Len.nil ?_ | refine Len.cons ?_ | refine Br.t rfl ?_ | refine Br.f rfl ?_ | refine Fit.au ?_ | refine Cv.au ?_ | refine Need.ne ?_ | refine Need.au ?_ | refine Pick.map (by assumption) ?_ | refine Pick.mapI (by omega) (by assumption) ?_ | refine PickN.mk _ (by assumption) ?_ | refine PickN.mk _ rfl ?_ | refine PickN.au ?_ | refine App.au rfl ?_ | refine App.au (own_map (fun _ => rfl) _) ?_ | refine Both.mk ?_ ?_ | exact True.intro
    rw [bad (by omega)]; rfl
  repeat' first | refine Len.map ?_ | refine Len.nil ?_ | refine Len.cons ?_ | refine Br.t rfl ?_ | refine Br.f rfl ?_ | refine Fit.au ?_ | refine Cv.au ?_ | refine Need.ne ?_ | refine Need.au ?_ | refine Pick.map (by assumption) ?_ | refine Pick.mapI (by omega) (by assumption) ?_ | refine PickN.mk _ (by assumption) ?_ | refine PickN.mk _ rfl ?_ | refine PickN.au ?_ | refine App.au rfl ?_ | refine App.au (own_map (fun _ => rfl) _) ?_ | refine Both.mk ?_ ?_ | exact True.intro
  refine Br.d (fun h2 => ?_) (fun h2 => ?_)
  · repeat' first | refine Len.map ?_ | refine Len.nil ?_ | refine Len.cons ?_ | refine Br.t rfl ?_ | refine Br.f rfl ?_ | refine Fit.au ?_ | refine Cv.au ?_ | refine Need.ne ?_ | refine Need.au ?_ | refine Pick.map (by assumption) ?_ | refine Pick.mapI (by omega) (by assumption) ?_ | refine PickN.mk _ (by assumption) ?_ | refine PickN.mk _ rfl ?_ | refine PickN.au ?_ | refine App.au rfl ?_ | refine App.au (own_map (fun _ => rfl) _) ?_ | refine Both.mk ?_ ?_ | exact True.intro
    rw [bad (by omega)]; rfl
  repeat' first | refine Len.map ?_ | refine Len.nil ?_ | refine Len.cons ?_ | refine Br.t rfl ?_ | refine Br.f rfl ?_ | refine Fit.au ?_ | refine Cv.au ?_ | refine Need.ne ?_ | refine Need.au ?_ | refine Pick.map (by assumption) ?_ | refine Pick.mapI (by omega) (by assumption) ?_ | refine PickN.mk _ (by assumption) ?_ | refine PickN.mk _ rfl ?_ | refine PickN.au ?_ | refine App.au rfl ?_ | refine App.au (own_map (fun _ => rfl) _) ?_ | refine Both.mk ?_ ?_ | exact True.intro
  have hmain : ∀ (h : 0 ≤ p.main ∧ p.main < p.funcs.length), ∃ g, p.funcs[p.main.toNat]? = some g ∧ p.funcs.getD p.main.toNat fun0 = g := fun h => by
    obtain ⟨g, gg, _⟩ := getK (l := p.funcs) (k := p.main.toNat) (by omega)
    exact ⟨g, gg, by rw [List.getD_eq_getElem?_getD, gg]; rfl⟩
  refine Br.d (fun h3 => ?_) (fun h3 => ?_)
  · repeat' first | refine Len.map ?_ | refine Len.nil ?_ | refine Len.cons ?_ | refine Br.t rfl ?_ | refine Br.f rfl ?_ | refine Fit.au ?_ | refine Cv.au ?_ | refine Need.ne ?_ | refine Need.au ?_ | refine Pick.map (by assumption) ?_ | refine Pick.mapI (by omega) (by assumption) ?_ | refine PickN.mk _ (by assumption) ?_ | refine PickN.mk _ rfl ?_ | refine PickN.au ?_ | refine App.au rfl ?_ | refine App.au (own_map (fun _ => rfl) _) ?_ | refine Both.mk ?_ ?_ | exact True.intro
    rw [bad2 (by omega) fun h => by have := h.1; omega]; rfl
  repeat' first | refine Len.map ?_ | refine Len.nil ?_ | refine Len.cons ?_ | refine Br.t rfl ?_ | refine Br.f rfl ?_ | refine Fit.au ?_ | refine Cv.au ?_ | refine Need.ne ?_ | refine Need.au ?_ | refine Pick.map (by assumption) ?_ | refine Pick.mapI (by omega) (by assumption) ?_ | refine PickN.mk _ (by assumption) ?_ | refine PickN.mk _ rfl ?_ | refine PickN.au ?_ | refine App.au rfl ?_ | refine App.au (own_map (fun _ => rfl) _) ?_ | refine Both.mk ?_ ?_ | exact True.intro
  refine Br.d (fun h4 => ?_) (fun h4 => ?_)
  · repeat' first | refine Len.map ?_ | refine Len.nil ?_ | refine Len.cons ?_ | refine Br.t rfl ?_ | refine Br.f rfl ?_ | refine Fit.au ?_ | refine Cv.au ?_ | refine Need.ne ?_ | refine Need.au ?_ | refine Pick.map (by assumption) ?_ | refine Pick.mapI (by omega) (by assumption) ?_ | refine PickN.mk _ (by assumption) ?_ | refine PickN.mk _ rfl ?_ | refine PickN.au ?_ | refine App.au rfl ?_ | refine App.au (own_map (fun _ => rfl) _) ?_ | refine Both.mk ?_ ?_ | exact True.intro
    rw [bad2 (by omega) fun h => by have := h.2.1; omega]; rfl
  obtain ⟨g, gg, eg⟩ := hmain (by omega)
  have em : mainP p ↔ (g.params = 1 ∧ g.regs.length ≠ 0 ∧ g.regs.getD 0 0 = 3 ∧ g.ret = 1) := by
    unfold mainP; rw [eg]
    exact ⟨fun h => h.2.2, fun h => ⟨by omega, by omega, h⟩⟩
  repeat' first | refine Len.map ?_ | refine Len.nil ?_ | refine Len.cons ?_ | refine Br.t rfl ?_ | refine Br.f rfl ?_ | refine Fit.au ?_ | refine Cv.au ?_ | refine Need.ne ?_ | refine Need.au ?_ | refine Pick.map (by assumption) ?_ | refine Pick.mapI (by omega) (by assumption) ?_ | refine PickN.mk _ (by assumption) ?_ | refine PickN.mk _ rfl ?_ | refine PickN.au ?_ | refine App.au rfl ?_ | refine App.au (own_map (fun _ => rfl) _) ?_ | refine Both.mk ?_ ?_ | exact True.intro
  refine Br.nd (fun h5 => ?_) (fun h5 => ?_)
  · repeat' first | refine Len.map ?_ | refine Len.nil ?_ | refine Len.cons ?_ | refine Br.t rfl ?_ | refine Br.f rfl ?_ | refine Fit.au ?_ | refine Cv.au ?_ | refine Need.ne ?_ | refine Need.au ?_ | refine Pick.map (by assumption) ?_ | refine Pick.mapI (by omega) (by assumption) ?_ | refine PickN.mk _ (by assumption) ?_ | refine PickN.mk _ rfl ?_ | refine PickN.au ?_ | refine App.au rfl ?_ | refine App.au (own_map (fun _ => rfl) _) ?_ | refine Both.mk ?_ ?_ | exact True.intro
    rw [bad2 (by omega) fun h => h5 (em.1 h).1]; rfl
  repeat' first | refine Len.map ?_ | refine Len.nil ?_ | refine Len.cons ?_ | refine Br.t rfl ?_ | refine Br.f rfl ?_ | refine Fit.au ?_ | refine Cv.au ?_ | refine Need.ne ?_ | refine Need.au ?_ | refine Pick.map (by assumption) ?_ | refine Pick.mapI (by omega) (by assumption) ?_ | refine PickN.mk _ (by assumption) ?_ | refine PickN.mk _ rfl ?_ | refine PickN.au ?_ | refine App.au rfl ?_ | refine App.au (own_map (fun _ => rfl) _) ?_ | refine Both.mk ?_ ?_ | exact True.intro
  refine Br.d (fun h6 => ?_) (fun h6 => ?_)
  · repeat' first | refine Len.map ?_ | refine Len.nil ?_ | refine Len.cons ?_ | refine Br.t rfl ?_ | refine Br.f rfl ?_ | refine Fit.au ?_ | refine Cv.au ?_ | refine Need.ne ?_ | refine Need.au ?_ | refine Pick.map (by assumption) ?_ | refine Pick.mapI (by omega) (by assumption) ?_ | refine PickN.mk _ (by assumption) ?_ | refine PickN.mk _ rfl ?_ | refine PickN.au ?_ | refine App.au rfl ?_ | refine App.au (own_map (fun _ => rfl) _) ?_ | refine Both.mk ?_ ?_ | exact True.intro
    rw [bad2 (by omega) fun h => (em.1 h).2.1 (by omega)]; rfl
  obtain ⟨x, gx, _⟩ := getK (l := g.regs) (k := 0) (by omega)
  have ex : g.regs.getD 0 0 = x := by rw [List.getD_eq_getElem?_getD, gx]; rfl
  repeat' first | refine Pick.map (n := 0) gx ?_ | refine Len.map ?_ | refine Len.nil ?_ | refine Len.cons ?_ | refine Br.t rfl ?_ | refine Br.f rfl ?_ | refine Fit.au ?_ | refine Cv.au ?_ | refine Need.ne ?_ | refine Need.au ?_ | refine Pick.map (by assumption) ?_ | refine Pick.mapI (by omega) (by assumption) ?_ | refine PickN.mk _ (by assumption) ?_ | refine PickN.mk _ rfl ?_ | refine PickN.au ?_ | refine App.au rfl ?_ | refine App.au (own_map (fun _ => rfl) _) ?_ | refine Both.mk ?_ ?_ | exact True.intro
  refine Br.nd (fun h7 => ?_) (fun h7 => ?_)
  · repeat' first | refine Len.map ?_ | refine Len.nil ?_ | refine Len.cons ?_ | refine Br.t rfl ?_ | refine Br.f rfl ?_ | refine Fit.au ?_ | refine Cv.au ?_ | refine Need.ne ?_ | refine Need.au ?_ | refine Pick.map (by assumption) ?_ | refine Pick.mapI (by omega) (by assumption) ?_ | refine PickN.mk _ (by assumption) ?_ | refine PickN.mk _ rfl ?_ | refine PickN.au ?_ | refine App.au rfl ?_ | refine App.au (own_map (fun _ => rfl) _) ?_ | refine Both.mk ?_ ?_ | exact True.intro
    rw [bad2 (by omega) fun h => h7 (by rw [← ex]; exact (em.1 h).2.2.1)]; rfl
  repeat' first | refine Len.map ?_ | refine Len.nil ?_ | refine Len.cons ?_ | refine Br.t rfl ?_ | refine Br.f rfl ?_ | refine Fit.au ?_ | refine Cv.au ?_ | refine Need.ne ?_ | refine Need.au ?_ | refine Pick.map (by assumption) ?_ | refine Pick.mapI (by omega) (by assumption) ?_ | refine PickN.mk _ (by assumption) ?_ | refine PickN.mk _ rfl ?_ | refine PickN.au ?_ | refine App.au rfl ?_ | refine App.au (own_map (fun _ => rfl) _) ?_ | refine Both.mk ?_ ?_ | exact True.intro
  refine Br.nd (fun h8 => ?_) (fun h8 => ?_)
  · repeat' first | refine Len.map ?_ | refine Len.nil ?_ | refine Len.cons ?_ | refine Br.t rfl ?_ | refine Br.f rfl ?_ | refine Fit.au ?_ | refine Cv.au ?_ | refine Need.ne ?_ | refine Need.au ?_ | refine Pick.map (by assumption) ?_ | refine Pick.mapI (by omega) (by assumption) ?_ | refine PickN.mk _ (by assumption) ?_ | refine PickN.mk _ rfl ?_ | refine PickN.au ?_ | refine App.au rfl ?_ | refine App.au (own_map (fun _ => rfl) _) ?_ | refine Both.mk ?_ ?_ | exact True.intro
    rw [bad2 (by omega) fun h => h8 (em.1 h).2.2.2]; rfl
  have hm : mainP p := em.2 ⟨h5, by omega, by rw [ex]; exact h7, h8⟩
  have hit := fun n w => checkE_hit (p := p) (n := n) (w := w) (by omega) (by omega) hm
  clear bad bad2 hmain em
  repeat' first | refine Len.map ?_ | refine Len.nil ?_ | refine Len.cons ?_ | refine Br.t rfl ?_ | refine Br.f rfl ?_ | refine Fit.au ?_ | refine Cv.au ?_ | refine Need.ne ?_ | refine Need.au ?_ | refine Pick.map (by assumption) ?_ | refine Pick.mapI (by omega) (by assumption) ?_ | refine PickN.mk _ (by assumption) ?_ | refine PickN.mk _ rfl ?_ | refine PickN.au ?_ | refine App.au rfl ?_ | refine App.au (own_map (fun _ => rfl) _) ?_ | refine Both.mk ?_ ?_ | exact True.intro
  refine Stop.mk (loop_in (fun n : Nat => [(1, .hp 0 0), (2, .hp 1 0), (3, num n)]) (fun _ => [(0, .var p.cs), (1, .var z4)]) 2 (fun n => n ≤ p.funcs.length ∧ firstN (funE p) n = none) (fun n => p.funcs.length - n) 0 ⟨by omega, rfl⟩ (g := []) ⟨rfl, (by repeat' first | exact trivial | refine ⟨rfl, ?_⟩ | refine ⟨congrArg (fun n => AV.lit (.int .i64 n)) (by omega), ?_⟩ | refine ⟨congrArg (fun l => some (Row.row 1 l)) (by simp [int1, num, tru]), ?_⟩), (by repeat' first | exact trivial | refine ⟨rfl, ?_⟩ | refine ⟨congrArg (fun n => AV.lit (.int .i64 n)) (by omega), ?_⟩ | refine ⟨congrArg (fun l => some (Row.row 1 l)) (by simp [int1, num, tru]), ?_⟩)⟩ (fun n hn ih => ?_))
  obtain ⟨hn, hw⟩ := hn
  refine go 1000 Tryd.func26 ?_
  repeat' first | refine Len.map ?_ | refine Len.nil ?_ | refine Len.cons ?_ | refine Br.t rfl ?_ | refine Br.f rfl ?_ | refine Fit.au ?_ | refine Cv.au ?_ | refine Need.ne ?_ | refine Need.au ?_ | refine Pick.map (by assumption) ?_ | refine Pick.mapI (by omega) (by assumption) ?_ | refine PickN.mk _ (by assumption) ?_ | refine PickN.mk _ rfl ?_ | refine PickN.au ?_ | refine App.au rfl ?_ | refine App.au (own_map (fun _ => rfl) _) ?_ | refine Both.mk ?_ ?_ | exact True.intro
  refine Br.d (fun g1 => ?_) (fun g1 => ?_)
  · obtain ⟨f, gf, gm⟩ := getK (l := p.funcs) (k := n) (by omega)
    have hf := hp.2.2 f gm
    obtain ⟨s1, s2, s3⟩ := hs.2 f gm
    have hf1 := hf.1
    have hit := fun w => hit n w hw (by omega)
    repeat' first | refine Call.eq (head_spec f hf s1) rfl ?_ | refine Len.map ?_ | refine Len.nil ?_ | refine Len.cons ?_ | refine Br.t rfl ?_ | refine Br.f rfl ?_ | refine Fit.au ?_ | refine Cv.au ?_ | refine Need.ne ?_ | refine Need.au ?_ | refine Pick.map (by assumption) ?_ | refine Pick.mapI (by omega) (by assumption) ?_ | refine PickN.mk _ (by assumption) ?_ | refine PickN.mk _ rfl ?_ | refine PickN.au ?_ | refine App.au rfl ?_ | refine App.au (own_map (fun _ => rfl) _) ?_ | refine Both.mk ?_ ?_ | exact True.intro
    refine Br.nd (fun g2 => ?_) (fun g2 => ?_)
    · repeat' first | refine Len.map ?_ | refine Len.nil ?_ | refine Len.cons ?_ | refine Br.t rfl ?_ | refine Br.f rfl ?_ | refine Fit.au ?_ | refine Cv.au ?_ | refine Need.ne ?_ | refine Need.au ?_ | refine Pick.map (by assumption) ?_ | refine Pick.mapI (by omega) (by assumption) ?_ | refine PickN.mk _ (by assumption) ?_ | refine PickN.mk _ rfl ?_ | refine PickN.au ?_ | refine App.au rfl ?_ | refine App.au (own_map (fun _ => rfl) _) ?_ | refine Both.mk ?_ ?_ | exact True.intro
      rw [hit _ (funE_head gf g2)]; rfl
    rw [funE_first gf g2] at hit
    repeat' first | refine Len.map ?_ | refine Len.nil ?_ | refine Len.cons ?_ | refine Br.t rfl ?_ | refine Br.f rfl ?_ | refine Fit.au ?_ | refine Cv.au ?_ | refine Need.ne ?_ | refine Need.au ?_ | refine Pick.map (by assumption) ?_ | refine Pick.mapI (by omega) (by assumption) ?_ | refine PickN.mk _ (by assumption) ?_ | refine PickN.mk _ rfl ?_ | refine PickN.au ?_ | refine App.au rfl ?_ | refine App.au (own_map (fun _ => rfl) _) ?_ | refine Both.mk ?_ ?_ | exact True.intro
    refine Stop.mk (loop_in (fun k : Nat => [(1, .hp 0 0), (2, .hp 1 0), (3, num n), (4, .hp 2 0), (6, num k)]) (fun _ => [(0, .var p.cs), (1, .var z4), (2, .var f.cs)]) 3 (fun k => k ≤ f.blocks.length ∧ firstN (blkE p f n) k = none) (fun k => f.blocks.length - k) 0 ⟨by omega, rfl⟩ (g := []) ⟨rfl, (by repeat' first | exact trivial | refine ⟨rfl, ?_⟩ | refine ⟨congrArg (fun n => AV.lit (.int .i64 n)) (by omega), ?_⟩ | refine ⟨congrArg (fun l => some (Row.row 1 l)) (by simp [int1, num, tru]), ?_⟩), (by repeat' first | exact trivial | refine ⟨rfl, ?_⟩ | refine ⟨congrArg (fun n => AV.lit (.int .i64 n)) (by omega), ?_⟩ | refine ⟨congrArg (fun l => some (Row.row 1 l)) (by simp [int1, num, tru]), ?_⟩)⟩ (fun k hk ih2 => ?_))
    obtain ⟨hk, hw2⟩ := hk
    refine go 1000 Tryd.func26 ?_
    repeat' first | refine Len.map ?_ | refine Len.nil ?_ | refine Len.cons ?_ | refine Br.t rfl ?_ | refine Br.f rfl ?_ | refine Fit.au ?_ | refine Cv.au ?_ | refine Need.ne ?_ | refine Need.au ?_ | refine Pick.map (by assumption) ?_ | refine Pick.mapI (by omega) (by assumption) ?_ | refine PickN.mk _ (by assumption) ?_ | refine PickN.mk _ rfl ?_ | refine PickN.au ?_ | refine App.au rfl ?_ | refine App.au (own_map (fun _ => rfl) _) ?_ | refine Both.mk ?_ ?_ | exact True.intro
    refine Br.d (fun g3 => ?_) (fun g3 => ?_)
    · obtain ⟨b, gb, gbm⟩ := getK (l := f.blocks) (k := k) (by omega)
      obtain ⟨hb1, hb2⟩ := hf.2.2 b gbm
      repeat' first | refine Len.map ?_ | refine Len.nil ?_ | refine Len.cons ?_ | refine Br.t rfl ?_ | refine Br.f rfl ?_ | refine Fit.au ?_ | refine Cv.au ?_ | refine Need.ne ?_ | refine Need.au ?_ | refine Pick.map (by assumption) ?_ | refine Pick.mapI (by omega) (by assumption) ?_ | refine PickN.mk _ (by assumption) ?_ | refine PickN.mk _ rfl ?_ | refine PickN.au ?_ | refine App.au rfl ?_ | refine App.au (own_map (fun _ => rfl) _) ?_ | refine Both.mk ?_ ?_ | exact True.intro
      refine Br.d (fun g4 => ?_) (fun g4 => ?_)
      · repeat' first | refine Len.map ?_ | refine Len.nil ?_ | refine Len.cons ?_ | refine Br.t rfl ?_ | refine Br.f rfl ?_ | refine Fit.au ?_ | refine Cv.au ?_ | refine Need.ne ?_ | refine Need.au ?_ | refine Pick.map (by assumption) ?_ | refine Pick.mapI (by omega) (by assumption) ?_ | refine PickN.mk _ (by assumption) ?_ | refine PickN.mk _ rfl ?_ | refine PickN.au ?_ | refine App.au rfl ?_ | refine App.au (own_map (fun _ => rfl) _) ?_ | refine Both.mk ?_ ?_ | exact True.intro
        rw [hit _ (firstN_hit hw2 (blkE_empty gb (by omega)) (by omega))]; rfl
      have hbe : blkE p f n k = firstN (insW p f n k b) b.length := blkE_first gb (by omega)
      repeat' first | refine Len.map ?_ | refine Len.nil ?_ | refine Len.cons ?_ | refine Br.t rfl ?_ | refine Br.f rfl ?_ | refine Fit.au ?_ | refine Cv.au ?_ | refine Need.ne ?_ | refine Need.au ?_ | refine Pick.map (by assumption) ?_ | refine Pick.mapI (by omega) (by assumption) ?_ | refine PickN.mk _ (by assumption) ?_ | refine PickN.mk _ rfl ?_ | refine PickN.au ?_ | refine App.au rfl ?_ | refine App.au (own_map (fun _ => rfl) _) ?_ | refine Both.mk ?_ ?_ | exact True.intro
      refine Stop.mk (loop_in (fun j : Nat => [(1, .hp 0 0), (2, .hp 1 0), (3, num n), (4, .hp 2 0), (6, num k), (7, num j)]) (fun _ => [(0, .var p.cs), (1, .var z4), (2, .var f.cs)]) 3 (fun j => j ≤ b.length ∧ firstN (insW p f n k b) j = none) (fun j => b.length - j) 0 ⟨by omega, rfl⟩ (g := []) ⟨rfl, (by repeat' first | exact trivial | refine ⟨rfl, ?_⟩ | refine ⟨congrArg (fun n => AV.lit (.int .i64 n)) (by omega), ?_⟩ | refine ⟨congrArg (fun l => some (Row.row 1 l)) (by simp [int1, num, tru]), ?_⟩), (by repeat' first | exact trivial | refine ⟨rfl, ?_⟩ | refine ⟨congrArg (fun n => AV.lit (.int .i64 n)) (by omega), ?_⟩ | refine ⟨congrArg (fun l => some (Row.row 1 l)) (by simp [int1, num, tru]), ?_⟩)⟩ (fun j hj ih3 => ?_))
      obtain ⟨hj, hw3⟩ := hj
      refine go 1000 Tryd.func26 ?_
      repeat' first | refine Len.map ?_ | refine Len.nil ?_ | refine Len.cons ?_ | refine Br.t rfl ?_ | refine Br.f rfl ?_ | refine Fit.au ?_ | refine Cv.au ?_ | refine Need.ne ?_ | refine Need.au ?_ | refine Pick.map (by assumption) ?_ | refine Pick.mapI (by omega) (by assumption) ?_ | refine PickN.mk _ (by assumption) ?_ | refine PickN.mk _ rfl ?_ | refine PickN.au ?_ | refine App.au rfl ?_ | refine App.au (own_map (fun _ => rfl) _) ?_ | refine Both.mk ?_ ?_ | exact True.intro
      refine Br.d (fun g5 => ?_) (fun g5 => ?_)
      · obtain ⟨i, gi, gim⟩ := getK (l := b) (k := j) (by omega)
        repeat' first | refine Call.eq (one16_spec p f k j b i gb gi hp hf (s3 b gbm i gim) hreg) rfl ?_ | refine Len.map ?_ | refine Len.nil ?_ | refine Len.cons ?_ | refine Br.t rfl ?_ | refine Br.f rfl ?_ | refine Fit.au ?_ | refine Cv.au ?_ | refine Need.ne ?_ | refine Need.au ?_ | refine Pick.map (by assumption) ?_ | refine Pick.mapI (by omega) (by assumption) ?_ | refine PickN.mk _ (by assumption) ?_ | refine PickN.mk _ rfl ?_ | refine PickN.au ?_ | refine App.au rfl ?_ | refine App.au (own_map (fun _ => rfl) _) ?_ | refine Both.mk ?_ ?_ | exact True.intro
        refine Br.nd (fun g6 => ?_) (fun g6 => ?_)
        · repeat' first | refine Len.map ?_ | refine Len.nil ?_ | refine Len.cons ?_ | refine Br.t rfl ?_ | refine Br.f rfl ?_ | refine Fit.au ?_ | refine Cv.au ?_ | refine Need.ne ?_ | refine Need.au ?_ | refine Pick.map (by assumption) ?_ | refine Pick.mapI (by omega) (by assumption) ?_ | refine PickN.mk _ (by assumption) ?_ | refine PickN.mk _ rfl ?_ | refine PickN.au ?_ | refine App.au rfl ?_ | refine App.au (own_map (fun _ => rfl) _) ?_ | refine Both.mk ?_ ?_ | exact True.intro
          rw [hit _ (firstN_hit hw2 (by rw [hbe]; exact firstN_hit hw3 (insW_some gi g6) (by omega)) (by omega))]; rfl
        · repeat' first | refine Len.map ?_ | refine Len.nil ?_ | refine Len.cons ?_ | refine Br.t rfl ?_ | refine Br.f rfl ?_ | refine Fit.au ?_ | refine Cv.au ?_ | refine Need.ne ?_ | refine Need.au ?_ | refine Pick.map (by assumption) ?_ | refine Pick.mapI (by omega) (by assumption) ?_ | refine PickN.mk _ (by assumption) ?_ | refine PickN.mk _ rfl ?_ | refine PickN.au ?_ | refine App.au rfl ?_ | refine App.au (own_map (fun _ => rfl) _) ?_ | refine Both.mk ?_ ?_ | exact True.intro
          exact Stop.mk (ih3 (j + 1) (g := []) _ _ _ ⟨by omega, firstN_next hw3 (insW_none gi g6)⟩ (by omega) ⟨rfl, (by repeat' first | exact trivial | refine ⟨rfl, ?_⟩ | refine ⟨congrArg (fun n => AV.lit (.int .i64 n)) (by omega), ?_⟩ | refine ⟨congrArg (fun l => some (Row.row 1 l)) (by simp [int1, num, tru]), ?_⟩), (by repeat' first | exact trivial | refine ⟨rfl, ?_⟩ | refine ⟨congrArg (fun n => AV.lit (.int .i64 n)) (by omega), ?_⟩ | refine ⟨congrArg (fun l => some (Row.row 1 l)) (by simp [int1, num, tru]), ?_⟩)⟩)
      · repeat' first | refine Len.map ?_ | refine Len.nil ?_ | refine Len.cons ?_ | refine Br.t rfl ?_ | refine Br.f rfl ?_ | refine Fit.au ?_ | refine Cv.au ?_ | refine Need.ne ?_ | refine Need.au ?_ | refine Pick.map (by assumption) ?_ | refine Pick.mapI (by omega) (by assumption) ?_ | refine PickN.mk _ (by assumption) ?_ | refine PickN.mk _ rfl ?_ | refine PickN.au ?_ | refine App.au rfl ?_ | refine App.au (own_map (fun _ => rfl) _) ?_ | refine Both.mk ?_ ?_ | exact True.intro
        have ej : j = b.length := by omega
        subst ej
        exact Stop.mk (ih2 (k + 1) (g := []) _ _ _ ⟨by omega, firstN_next hw2 (by rw [hbe]; exact hw3)⟩ (by omega) ⟨rfl, (by repeat' first | exact trivial | refine ⟨rfl, ?_⟩ | refine ⟨congrArg (fun n => AV.lit (.int .i64 n)) (by omega), ?_⟩ | refine ⟨congrArg (fun l => some (Row.row 1 l)) (by simp [int1, num, tru]), ?_⟩), (by repeat' first | exact trivial | refine ⟨rfl, ?_⟩ | refine ⟨congrArg (fun n => AV.lit (.int .i64 n)) (by omega), ?_⟩ | refine ⟨congrArg (fun l => some (Row.row 1 l)) (by simp [int1, num, tru]), ?_⟩)⟩)
    · repeat' first | refine Len.map ?_ | refine Len.nil ?_ | refine Len.cons ?_ | refine Br.t rfl ?_ | refine Br.f rfl ?_ | refine Fit.au ?_ | refine Cv.au ?_ | refine Need.ne ?_ | refine Need.au ?_ | refine Pick.map (by assumption) ?_ | refine Pick.mapI (by omega) (by assumption) ?_ | refine PickN.mk _ (by assumption) ?_ | refine PickN.mk _ rfl ?_ | refine PickN.au ?_ | refine App.au rfl ?_ | refine App.au (own_map (fun _ => rfl) _) ?_ | refine Both.mk ?_ ?_ | exact True.intro
      have ek : k = f.blocks.length := by omega
      subst ek
      exact Stop.mk (ih (n + 1) (g := []) _ _ _ ⟨by omega, firstN_next hw (by rw [funE_first gf g2]; exact hw2)⟩ (by omega) ⟨rfl, (by repeat' first | exact trivial | refine ⟨rfl, ?_⟩ | refine ⟨congrArg (fun n => AV.lit (.int .i64 n)) (by omega), ?_⟩ | refine ⟨congrArg (fun l => some (Row.row 1 l)) (by simp [int1, num, tru]), ?_⟩), (by repeat' first | exact trivial | refine ⟨rfl, ?_⟩ | refine ⟨congrArg (fun n => AV.lit (.int .i64 n)) (by omega), ?_⟩ | refine ⟨congrArg (fun l => some (Row.row 1 l)) (by simp [int1, num, tru]), ?_⟩)⟩)
  · repeat' first | refine Len.map ?_ | refine Len.nil ?_ | refine Len.cons ?_ | refine Br.t rfl ?_ | refine Br.f rfl ?_ | refine Fit.au ?_ | refine Cv.au ?_ | refine Need.ne ?_ | refine Need.au ?_ | refine Pick.map (by assumption) ?_ | refine Pick.mapI (by omega) (by assumption) ?_ | refine PickN.mk _ (by assumption) ?_ | refine PickN.mk _ rfl ?_ | refine PickN.au ?_ | refine App.au rfl ?_ | refine App.au (own_map (fun _ => rfl) _) ?_ | refine Both.mk ?_ ?_ | exact True.intro
    have en : n = p.funcs.length := by omega
    subst en
    have e : checkE p = Wrong.no := by unfold checkE; rw [if_neg (by omega), if_pos hm, hw]; rfl
    rw [e]; rfl
end Go.Proofs.YtdgibhndjdgllaaDoor

/- Whether a program has no OpPhis (the document's), and what is right. -/
namespace Go.Proofs.YtdgibhndjdgllaaDoor
open Go.Ax
set_option maxRecDepth 10000
set_option linter.unusedVariables false
set_option maxHeartbeats 0

def bareL (b : List Ins) : Prop := ∀ i ∈ b, i.op ≠ 44
def barF (f : Fun) : Prop := ∀ b ∈ f.blocks, bareL b
def barP (p : Pro) : Prop := ∀ f ∈ p.funcs, barF f
theorem all_take {α : Type} {P : α → Prop} {l : List α} {k : Nat} {x : α} (h : ∀ m y, m < k → l[m]? = some y → P y) (hx : l[k]? = some x) (hp : P x) : ∀ m y, m < k + 1 → l[m]? = some y → P y := fun m y hm hy => by
  by_cases e : m = k
  · subst e; rw [hx] at hy; obtain rfl := Option.some.inj hy; exact hp
  · exact h m y (by omega) hy
theorem all_of {α : Type} {P : α → Prop} {l : List α} (h : ∀ m y, m < l.length → l[m]? = some y → P y) : ∀ y ∈ l, P y := fun y hy => by
  obtain ⟨m, hm⟩ := List.getElem?_of_mem hy
  exact h m y (List.getElem?_eq_some_iff.1 hm).1 hm
theorem Bare27_spec (p : Pro) (hp : p.fits) : FnSpec Tryd.prog 27 [proA p] (fun r => ∃ b, r = tru b ∧ (b = true → barP p)) := by
  have hpl := hp.1
  refine spec_of 1000 Tryd.func27 rfl rfl ?_
  repeat' first | refine Len.map ?_ | refine Len.nil ?_ | refine Len.cons ?_ | refine Br.t rfl ?_ | refine Br.f rfl ?_ | refine Fit.au ?_ | refine Cv.au ?_ | refine Need.ne ?_ | refine Need.au ?_ | refine Pick.map (by assumption) ?_ | refine Pick.mapI (by omega) (by assumption) ?_ | refine PickN.mk _ (by assumption) ?_ | refine PickN.mk _ rfl ?_ | refine PickN.au ?_ | refine App.au rfl ?_ | refine App.au (own_map (fun _ => rfl) _) ?_ | refine Both.mk ?_ ?_ | exact True.intro
  refine Stop.mk (loop_in (g := []) (fun n : Nat => [(1, .hp 0 0), (3, num n)]) (fun _ => [(0, .var p.cs)]) 1 (fun n => n ≤ p.funcs.length ∧ ∀ m y, m < n → p.funcs[m]? = some y → barF y) (fun n => p.funcs.length - n) 0 ⟨Nat.zero_le _, fun m _ hm => by omega⟩ ⟨rfl, (by repeat' first | exact trivial | refine ⟨rfl, ?_⟩ | refine ⟨congrArg (fun n => AV.lit (.int .i64 n)) (by omega), ?_⟩ | refine ⟨congrArg (fun l => some (Row.row 1 l)) (by simp [int1, num, tru]), ?_⟩), (by repeat' first | exact trivial | refine ⟨rfl, ?_⟩ | refine ⟨congrArg (fun n => AV.lit (.int .i64 n)) (by omega), ?_⟩ | refine ⟨congrArg (fun l => some (Row.row 1 l)) (by simp [int1, num, tru]), ?_⟩)⟩ (fun n hn ih => ?_))
  obtain ⟨hn1, hn2⟩ := hn
  by_cases hnl : n < p.funcs.length
  · obtain ⟨f, gf, hfm⟩ := getK (l := p.funcs) (k := n) hnl
    have hf := hp.2.2 f hfm
    have hfb := hf.1
    refine go 1000 Tryd.func27 ?_
    repeat' first | (refine Br.t ?_ ?_; focus (simp; omega)) | refine Len.map ?_ | refine Len.nil ?_ | refine Len.cons ?_ | refine Br.t rfl ?_ | refine Br.f rfl ?_ | refine Fit.au ?_ | refine Cv.au ?_ | refine Need.ne ?_ | refine Need.au ?_ | refine Pick.map (by assumption) ?_ | refine Pick.mapI (by omega) (by assumption) ?_ | refine PickN.mk _ (by assumption) ?_ | refine PickN.mk _ rfl ?_ | refine PickN.au ?_ | refine App.au rfl ?_ | refine App.au (own_map (fun _ => rfl) _) ?_ | refine Both.mk ?_ ?_ | exact True.intro
    refine Stop.mk (loop_in (g := []) (fun k : Nat => [(1, .hp 0 0), (3, num n), (4, num k)]) (fun _ => [(0, .var p.cs)]) 1 (fun k => k ≤ f.blocks.length ∧ ∀ m y, m < k → f.blocks[m]? = some y → bareL y) (fun k => f.blocks.length - k) 0 ⟨Nat.zero_le _, fun m _ hm => by omega⟩ ⟨rfl, (by repeat' first | exact trivial | refine ⟨rfl, ?_⟩ | refine ⟨congrArg (fun n => AV.lit (.int .i64 n)) (by omega), ?_⟩ | refine ⟨congrArg (fun l => some (Row.row 1 l)) (by simp [int1, num, tru]), ?_⟩), (by repeat' first | exact trivial | refine ⟨rfl, ?_⟩ | refine ⟨congrArg (fun n => AV.lit (.int .i64 n)) (by omega), ?_⟩ | refine ⟨congrArg (fun l => some (Row.row 1 l)) (by simp [int1, num, tru]), ?_⟩)⟩ (fun k hk ih2 => ?_))
    obtain ⟨hk1, hk2⟩ := hk
    by_cases hkl : k < f.blocks.length
    · obtain ⟨b, gb, hbm⟩ := getK (l := f.blocks) (k := k) hkl
      have hbl := (hf.2.2 b hbm).1
      refine go 1000 Tryd.func27 ?_
      repeat' first | (refine Br.t ?_ ?_; focus (simp; omega)) | refine Pick.map gf ?_ | refine Len.map ?_ | refine Len.nil ?_ | refine Len.cons ?_ | refine Br.t rfl ?_ | refine Br.f rfl ?_ | refine Fit.au ?_ | refine Cv.au ?_ | refine Need.ne ?_ | refine Need.au ?_ | refine Pick.map (by assumption) ?_ | refine Pick.mapI (by omega) (by assumption) ?_ | refine PickN.mk _ (by assumption) ?_ | refine PickN.mk _ rfl ?_ | refine PickN.au ?_ | refine App.au rfl ?_ | refine App.au (own_map (fun _ => rfl) _) ?_ | refine Both.mk ?_ ?_ | exact True.intro
      refine Stop.mk (loop_in (g := []) (fun j : Nat => [(1, .hp 0 0), (3, num n), (4, num k), (5, num j)]) (fun _ => [(0, .var p.cs)]) 1 (fun j => j ≤ b.length ∧ ∀ m y, m < j → b[m]? = some y → y.op ≠ 44) (fun j => b.length - j) 0 ⟨Nat.zero_le _, fun m _ hm => by omega⟩ ⟨rfl, (by repeat' first | exact trivial | refine ⟨rfl, ?_⟩ | refine ⟨congrArg (fun n => AV.lit (.int .i64 n)) (by omega), ?_⟩ | refine ⟨congrArg (fun l => some (Row.row 1 l)) (by simp [int1, num, tru]), ?_⟩), (by repeat' first | exact trivial | refine ⟨rfl, ?_⟩ | refine ⟨congrArg (fun n => AV.lit (.int .i64 n)) (by omega), ?_⟩ | refine ⟨congrArg (fun l => some (Row.row 1 l)) (by simp [int1, num, tru]), ?_⟩)⟩ (fun j hj ih3 => ?_))
      obtain ⟨hj1, hj2⟩ := hj
      by_cases hjl : j < b.length
      · obtain ⟨i, gi, him⟩ := getK (l := b) (k := j) hjl
        refine go 1000 Tryd.func27 ?_
        repeat' first | (refine Br.t ?_ ?_; focus (simp; omega)) | refine Pick.map gf ?_ | refine Pick.map gb ?_ | refine Pick.map gi ?_ | refine Len.map ?_ | refine Len.nil ?_ | refine Len.cons ?_ | refine Br.t rfl ?_ | refine Br.f rfl ?_ | refine Fit.au ?_ | refine Cv.au ?_ | refine Need.ne ?_ | refine Need.au ?_ | refine Pick.map (by assumption) ?_ | refine Pick.mapI (by omega) (by assumption) ?_ | refine PickN.mk _ (by assumption) ?_ | refine PickN.mk _ rfl ?_ | refine PickN.au ?_ | refine App.au rfl ?_ | refine App.au (own_map (fun _ => rfl) _) ?_ | refine Both.mk ?_ ?_ | exact True.intro
        refine Br.d (fun h => ?_) (fun h => ?_)
        · repeat' first | refine Len.map ?_ | refine Len.nil ?_ | refine Len.cons ?_ | refine Br.t rfl ?_ | refine Br.f rfl ?_ | refine Fit.au ?_ | refine Cv.au ?_ | refine Need.ne ?_ | refine Need.au ?_ | refine Pick.map (by assumption) ?_ | refine Pick.mapI (by omega) (by assumption) ?_ | refine PickN.mk _ (by assumption) ?_ | refine PickN.mk _ rfl ?_ | refine PickN.au ?_ | refine App.au rfl ?_ | refine App.au (own_map (fun _ => rfl) _) ?_ | refine Both.mk ?_ ?_ | exact True.intro
          exact ⟨false, rfl, fun e => by cases e⟩
        · repeat' first | refine Len.map ?_ | refine Len.nil ?_ | refine Len.cons ?_ | refine Br.t rfl ?_ | refine Br.f rfl ?_ | refine Fit.au ?_ | refine Cv.au ?_ | refine Need.ne ?_ | refine Need.au ?_ | refine Pick.map (by assumption) ?_ | refine Pick.mapI (by omega) (by assumption) ?_ | refine PickN.mk _ (by assumption) ?_ | refine PickN.mk _ rfl ?_ | refine PickN.au ?_ | refine App.au rfl ?_ | refine App.au (own_map (fun _ => rfl) _) ?_ | refine Both.mk ?_ ?_ | exact True.intro
          exact Stop.mk (ih3 (j + 1) (g := []) _ _ _ ⟨by omega, all_take hj2 gi h⟩ (by omega) ⟨rfl, (by repeat' first | exact trivial | refine ⟨rfl, ?_⟩ | refine ⟨congrArg (fun n => AV.lit (.int .i64 n)) (by omega), ?_⟩ | refine ⟨congrArg (fun l => some (Row.row 1 l)) (by simp [int1, num, tru]), ?_⟩), (by repeat' first | exact trivial | refine ⟨rfl, ?_⟩ | refine ⟨congrArg (fun n => AV.lit (.int .i64 n)) (by omega), ?_⟩ | refine ⟨congrArg (fun l => some (Row.row 1 l)) (by simp [int1, num, tru]), ?_⟩)⟩)
      · obtain rfl : j = b.length := by omega
        refine go 1000 Tryd.func27 ?_
        repeat' first | (refine Br.f ?_ ?_; focus (simp; done)) | refine Pick.map gf ?_ | refine Pick.map gb ?_ | refine Len.map ?_ | refine Len.nil ?_ | refine Len.cons ?_ | refine Br.t rfl ?_ | refine Br.f rfl ?_ | refine Fit.au ?_ | refine Cv.au ?_ | refine Need.ne ?_ | refine Need.au ?_ | refine Pick.map (by assumption) ?_ | refine Pick.mapI (by omega) (by assumption) ?_ | refine PickN.mk _ (by assumption) ?_ | refine PickN.mk _ rfl ?_ | refine PickN.au ?_ | refine App.au rfl ?_ | refine App.au (own_map (fun _ => rfl) _) ?_ | refine Both.mk ?_ ?_ | exact True.intro
        exact Stop.mk (ih2 (k + 1) (g := []) _ _ _ ⟨by omega, all_take hk2 gb (all_of hj2)⟩ (by omega) ⟨rfl, (by repeat' first | exact trivial | refine ⟨rfl, ?_⟩ | refine ⟨congrArg (fun n => AV.lit (.int .i64 n)) (by omega), ?_⟩ | refine ⟨congrArg (fun l => some (Row.row 1 l)) (by simp [int1, num, tru]), ?_⟩), (by repeat' first | exact trivial | refine ⟨rfl, ?_⟩ | refine ⟨congrArg (fun n => AV.lit (.int .i64 n)) (by omega), ?_⟩ | refine ⟨congrArg (fun l => some (Row.row 1 l)) (by simp [int1, num, tru]), ?_⟩)⟩)
    · obtain rfl : k = f.blocks.length := by omega
      refine go 1000 Tryd.func27 ?_
      repeat' first | (refine Br.f ?_ ?_; focus (simp; done)) | refine Pick.map gf ?_ | refine Len.map ?_ | refine Len.nil ?_ | refine Len.cons ?_ | refine Br.t rfl ?_ | refine Br.f rfl ?_ | refine Fit.au ?_ | refine Cv.au ?_ | refine Need.ne ?_ | refine Need.au ?_ | refine Pick.map (by assumption) ?_ | refine Pick.mapI (by omega) (by assumption) ?_ | refine PickN.mk _ (by assumption) ?_ | refine PickN.mk _ rfl ?_ | refine PickN.au ?_ | refine App.au rfl ?_ | refine App.au (own_map (fun _ => rfl) _) ?_ | refine Both.mk ?_ ?_ | exact True.intro
      exact Stop.mk (ih (n + 1) (g := []) _ _ _ ⟨by omega, all_take hn2 gf (all_of hk2)⟩ (by omega) ⟨rfl, (by repeat' first | exact trivial | refine ⟨rfl, ?_⟩ | refine ⟨congrArg (fun n => AV.lit (.int .i64 n)) (by omega), ?_⟩ | refine ⟨congrArg (fun l => some (Row.row 1 l)) (by simp [int1, num, tru]), ?_⟩), (by repeat' first | exact trivial | refine ⟨rfl, ?_⟩ | refine ⟨congrArg (fun n => AV.lit (.int .i64 n)) (by omega), ?_⟩ | refine ⟨congrArg (fun l => some (Row.row 1 l)) (by simp [int1, num, tru]), ?_⟩)⟩)
  · obtain rfl : n = p.funcs.length := by omega
    refine go 1000 Tryd.func27 ?_
    repeat' first | (refine Br.f ?_ ?_; focus (simp; done)) | refine Len.map ?_ | refine Len.nil ?_ | refine Len.cons ?_ | refine Br.t rfl ?_ | refine Br.f rfl ?_ | refine Fit.au ?_ | refine Cv.au ?_ | refine Need.ne ?_ | refine Need.au ?_ | refine Pick.map (by assumption) ?_ | refine Pick.mapI (by omega) (by assumption) ?_ | refine PickN.mk _ (by assumption) ?_ | refine PickN.mk _ rfl ?_ | refine PickN.au ?_ | refine App.au rfl ?_ | refine App.au (own_map (fun _ => rfl) _) ?_ | refine Both.mk ?_ ?_ | exact True.intro
    exact ⟨true, rfl, fun _ => all_of hn2⟩
theorem right7_spec (p : Pro) (hp : p.fits) (hl : p.light) : FnSpec Tryd.prog 7 [proA p] (fun r => ∃ v, r = tru v ∧ (v = true → p.few 100 ∧ proP p ∧ barP p)) := by
  refine spec_of 1000 Tryd.func7 rfl rfl ?_
  repeat' first | refine Len.map ?_ | refine Len.nil ?_ | refine Len.cons ?_ | refine Br.t rfl ?_ | refine Br.f rfl ?_ | refine Fit.au ?_ | refine Cv.au ?_ | refine Need.ne ?_ | refine Need.au ?_ | refine Pick.map (by assumption) ?_ | refine Pick.mapI (by omega) (by assumption) ?_ | refine PickN.mk _ (by assumption) ?_ | refine PickN.mk _ rfl ?_ | refine PickN.au ?_ | refine App.au rfl ?_ | refine App.au (own_map (fun _ => rfl) _) ?_ | refine Both.mk ?_ ?_ | exact True.intro
  refine Call.of (Few_spec p 100 (by decide) hp hl) ?_
  rintro r ⟨b, rfl, hb⟩
  refine ⟨rfl, ?_⟩
  repeat' first | refine Len.map ?_ | refine Len.nil ?_ | refine Len.cons ?_ | refine Br.t rfl ?_ | refine Br.f rfl ?_ | refine Fit.au ?_ | refine Cv.au ?_ | refine Need.ne ?_ | refine Need.au ?_ | refine Pick.map (by assumption) ?_ | refine Pick.mapI (by omega) (by assumption) ?_ | refine PickN.mk _ (by assumption) ?_ | refine PickN.mk _ rfl ?_ | refine PickN.au ?_ | refine App.au rfl ?_ | refine App.au (own_map (fun _ => rfl) _) ?_ | refine Both.mk ?_ ?_ | exact True.intro
  refine Br.mk (fun h => ?_) (fun h => ?_)
  · have hb1 := hb h
    have hs := hb1.slim (by decide) hp
    clear hb
    subst h
    repeat' first | refine Call.eq (Check16_spec p hs) rfl ?_ | refine Len.map ?_ | refine Len.nil ?_ | refine Len.cons ?_ | refine Br.t rfl ?_ | refine Br.f rfl ?_ | refine Fit.au ?_ | refine Cv.au ?_ | refine Need.ne ?_ | refine Need.au ?_ | refine Pick.map (by assumption) ?_ | refine Pick.mapI (by omega) (by assumption) ?_ | refine PickN.mk _ (by assumption) ?_ | refine PickN.mk _ rfl ?_ | refine PickN.au ?_ | refine App.au rfl ?_ | refine App.au (own_map (fun _ => rfl) _) ?_ | refine Both.mk ?_ ?_ | exact True.intro
    refine Br.mk (fun h => ?_) (fun h => ?_)
    · have hpp := checkE_zero.1 (by simpa using h)
      repeat' first | refine Len.map ?_ | refine Len.nil ?_ | refine Len.cons ?_ | refine Br.t rfl ?_ | refine Br.f rfl ?_ | refine Fit.au ?_ | refine Cv.au ?_ | refine Need.ne ?_ | refine Need.au ?_ | refine Pick.map (by assumption) ?_ | refine Pick.mapI (by omega) (by assumption) ?_ | refine PickN.mk _ (by assumption) ?_ | refine PickN.mk _ rfl ?_ | refine PickN.au ?_ | refine App.au rfl ?_ | refine App.au (own_map (fun _ => rfl) _) ?_ | refine Both.mk ?_ ?_ | exact True.intro
      refine Call.of (Bare27_spec p hp) ?_
      rintro r ⟨v, rfl, hv⟩
      refine ⟨rfl, ?_⟩
      repeat' first | refine Len.map ?_ | refine Len.nil ?_ | refine Len.cons ?_ | refine Br.t rfl ?_ | refine Br.f rfl ?_ | refine Fit.au ?_ | refine Cv.au ?_ | refine Need.ne ?_ | refine Need.au ?_ | refine Pick.map (by assumption) ?_ | refine Pick.mapI (by omega) (by assumption) ?_ | refine PickN.mk _ (by assumption) ?_ | refine PickN.mk _ rfl ?_ | refine PickN.au ?_ | refine App.au rfl ?_ | refine App.au (own_map (fun _ => rfl) _) ?_ | refine Both.mk ?_ ?_ | exact True.intro
      exact ⟨v, rfl, fun e => ⟨hb1, hpp, hv e⟩⟩
    · repeat' first | refine Len.map ?_ | refine Len.nil ?_ | refine Len.cons ?_ | refine Br.t rfl ?_ | refine Br.f rfl ?_ | refine Fit.au ?_ | refine Cv.au ?_ | refine Need.ne ?_ | refine Need.au ?_ | refine Pick.map (by assumption) ?_ | refine Pick.mapI (by omega) (by assumption) ?_ | refine PickN.mk _ (by assumption) ?_ | refine PickN.mk _ rfl ?_ | refine PickN.au ?_ | refine App.au rfl ?_ | refine App.au (own_map (fun _ => rfl) _) ?_ | refine Both.mk ?_ ?_ | exact True.intro
      exact ⟨_, rfl, fun e => absurd e (by simp)⟩
  · subst h
    repeat' first | refine Len.map ?_ | refine Len.nil ?_ | refine Len.cons ?_ | refine Br.t rfl ?_ | refine Br.f rfl ?_ | refine Fit.au ?_ | refine Cv.au ?_ | refine Need.ne ?_ | refine Need.au ?_ | refine Pick.map (by assumption) ?_ | refine Pick.mapI (by omega) (by assumption) ?_ | refine PickN.mk _ (by assumption) ?_ | refine PickN.mk _ rfl ?_ | refine PickN.au ?_ | refine App.au rfl ?_ | refine App.au (own_map (fun _ => rfl) _) ?_ | refine Both.mk ?_ ?_ | exact True.intro
    exact ⟨false, rfl, fun h => by cases h⟩
end Go.Proofs.YtdgibhndjdgllaaDoor

/- live.solved: the sets of a block's instructions. -/
namespace Go.Proofs.YtdgibhndjdgllaaDoor
open Go.Ax
set_option maxRecDepth 10000
set_option linter.unusedVariables false
set_option maxHeartbeats 0

theorem map_take_succ {α β : Type} {l : List α} {k : Nat} {x : α} {g : α → β} (h : l[k]? = some x) : (l.map g).take (k + 1) = (l.map g).take k ++ [g x] := by
  obtain ⟨hk, rfl⟩ := List.getElem?_eq_some_iff.1 h
  rw [List.take_succ_eq_append_getElem (by rw [List.length_map]; exact hk), List.getElem_map]
theorem solved29_spec (f : Fun) (h : LiveR f) : FnSpec Tryd.prog 29 [funA f] (fun r => ∃ T F, SolP (liveP f) T F ∧ r = .agg [.osl 1 (F.map oset), .osl 1 (T.map oset)]) := by
  have hblk := h.blocks
  have hreg := h.regs
  have hS := Succs95_spec f h.fit (by omega)
  have hN := New35_spec f.regs.length h.regs
  have hnl := newW_len f.regs.length
  have hwn := wn_le h.regs
  refine spec_of 1000 Tryd.func29 rfl rfl ?_
  repeat' first | refine Call.eq hN rfl ?_ | refine Call.eq hS rfl ?_ | refine Len.map ?_ | refine Len.nil ?_ | refine Len.cons ?_ | refine Br.t rfl ?_ | refine Br.f rfl ?_ | refine Fit.au ?_ | refine Cv.au ?_ | refine Need.ne ?_ | refine Need.au ?_ | refine Pick.map (by assumption) ?_ | refine Pick.mapI (by omega) (by assumption) ?_ | refine PickN.mk _ (by assumption) ?_ | refine PickN.mk _ rfl ?_ | refine PickN.au ?_ | refine App.au rfl ?_ | refine App.au (own_map (fun _ => rfl) _) ?_ | refine Both.mk ?_ ?_ | exact True.intro
  refine Stop.mk ?_
  refine run_varLe 4 rfl (.cons (VLe.refl _) (.cons (VLe.refl _) (.cons (VLe.refl _) (.cons (VLe.refl _) (.cons (VLe.onil (sz := 1)) (.cons (VLe.onil (sz := 1)) (.cons (VLe.refl _) .nil))))))) ?_
  refine run_unfold 4 4 rfl rfl ?_
  refine run_unfold 4 5 rfl rfl ?_
  refine loop_in (g := [(2, 4), (3, 5), (4, 6)]) (fun k : Nat => tmS f k) (fun k => hpS f (((liveP f).gen).take k) (((liveP f).kill).take k)) 5 (fun k => k ≤ f.blocks.length) (fun k => f.blocks.length - k) 0 (by omega) ⟨rfl, (by repeat' first | exact trivial | refine ⟨rfl, ?_⟩ | refine ⟨congrArg (fun n => AV.lit (.int .i64 n)) (by omega), ?_⟩ | refine ⟨congrArg (fun l => some (Row.row 1 l)) (by simp [int1, num, tru]), ?_⟩), (by repeat' first | exact trivial | refine ⟨rfl, ?_⟩ | refine ⟨congrArg (fun n => AV.lit (.int .i64 n)) (by omega), ?_⟩ | refine ⟨congrArg (fun l => some (Row.row 1 l)) (by simp [int1, num, tru]), ?_⟩)⟩ (fun k hk ih => ?_)
  unfold tmS hpS
  by_cases hk2 : k < f.blocks.length
  · obtain ⟨bk, gk, hbm⟩ := getK (l := f.blocks) (k := k) hk2
    have hlen := h.len bk hbm
    refine go 1000 Tryd.func29 ?_
    repeat' first | refine Br.t (by simp; omega) ?_ | refine Call.eq hN rfl ?_ | refine Pick.map gk ?_ | refine Len.map ?_ | refine Len.nil ?_ | refine Len.cons ?_ | refine Br.t rfl ?_ | refine Br.f rfl ?_ | refine Fit.au ?_ | refine Cv.au ?_ | refine Need.ne ?_ | refine Need.au ?_ | refine Pick.map (by assumption) ?_ | refine Pick.mapI (by omega) (by assumption) ?_ | refine PickN.mk _ (by assumption) ?_ | refine PickN.mk _ rfl ?_ | refine PickN.au ?_ | refine App.au rfl ?_ | refine App.au (own_map (fun _ => rfl) _) ?_ | refine Both.mk ?_ ?_ | exact True.intro
    have hgi := h.arg bk hbm
    have hib := h.ins bk hbm
    have hfi := (h.fit.2.2 bk hbm).2
    refine Stop.mk (loop_in (g := []) (fun m : Nat => [(7, .hw 5), (8, .hw 6), (6, .sl false 9 (bk.map Ins.cs)), (9, num ((m : Int) - 1))] ++ tmS f k) (fun m => [(5, rowW (scanW (bk.drop m) (newW f.regs.length))), (6, rowW (killW f.regs.length (bk.drop m) (newW f.regs.length)))] ++ hpS f (((liveP f).gen).take k) (((liveP f).kill).take k)) 7 (fun m => m ≤ bk.length) (fun m => m) bk.length (Nat.le_refl _) ?_ (fun m hm ih2 => ?_))
    · rw [scanW_end (Nat.le_refl _), killW_end (Nat.le_refl _)]
      exact ⟨rfl, (by repeat' first | exact trivial | refine ⟨rfl, ?_⟩ | refine ⟨congrArg (fun n => AV.lit (.int .i64 n)) (by omega), ?_⟩ | refine ⟨congrArg (fun l => some (Row.row 1 l)) (by simp [int1, num, tru]), ?_⟩), (by repeat' first | exact trivial | refine ⟨rfl, ?_⟩ | refine ⟨congrArg (fun n => AV.lit (.int .i64 n)) (by omega), ?_⟩ | refine ⟨congrArg (fun l => some (Row.row 1 l)) (by simp [int1, num, tru]), ?_⟩)⟩
    have hs1 : (scanW (bk.drop m) (newW f.regs.length)).length ≤ 1000000 := by rw [scanW_len, hnl]; omega
    have hs2 : (killW f.regs.length (bk.drop m) (newW f.regs.length)).length ≤ 1000000 := by rw [killW_len, hnl]; omega
    by_cases hm0 : 0 < m
    · obtain ⟨m', rfl⟩ : ∃ m', m = m' + 1 := ⟨m - 1, by omega⟩
      rw [show (((m' + 1 : Nat) : Int) - 1) = (m' : Int) by omega]
      obtain ⟨i, gi, him⟩ := getK (l := bk) (k := m') (by omega)
      have hD := Def_spec i (hfi i him)
      have hsa := scanW_at (s := newW f.regs.length) gi
      have hka := killW_at (n := f.regs.length) (s := newW f.regs.length) gi
      have hb := hib i him
      unfold tmS hpS
      apply join (fun _ : Unit => [(7, .hw 5), (8, .hw 6), (6, .sl false 9 (bk.map Ins.cs)), (9, num m')] ++ tmS f k) (fun _ => [(5, rowW (scanW (bk.drop (m' + 1)) (newW f.regs.length))), (6, rowW (killW f.regs.length (bk.drop m') (newW f.regs.length)))] ++ hpS f (((liveP f).gen).take k) (((liveP f).kill).take k)) 7 (fun _ => True)
      · intro jn
        by_cases hd : 0 ≤ defF i ∧ defF i < f.regs.length
        · obtain ⟨d, hdd⟩ := Int.eq_ofNat_of_zero_le hd.1
          rw [if_pos hd, hdd, Int.toNat_natCast] at hka
          rw [hka] at jn
          refine go 34 Tryd.func29 ?_
          repeat' first | (refine Br.t ?_ ?_; focus (first | (simp; done) | (simp; omega))) | refine Pick.map gi ?_ | refine Call.eq hD rfl ?_ | refine Len.map ?_ | refine Len.nil ?_ | refine Len.cons ?_ | refine Br.t rfl ?_ | refine Br.f rfl ?_ | refine Fit.au ?_ | refine Cv.au ?_ | refine Need.ne ?_ | refine Need.au ?_ | refine Pick.map (by assumption) ?_ | refine Pick.mapI (by omega) (by assumption) ?_ | refine PickN.mk _ (by assumption) ?_ | refine PickN.mk _ rfl ?_ | refine PickN.au ?_ | refine App.au rfl ?_ | refine App.au (own_map (fun _ => rfl) _) ?_ | refine Both.mk ?_ ?_ | exact True.intro
          rw [hdd]
          refine Stop.mk ?_
          refine run_inlC rfl want_none rfl rfl rfl rfl rfl rfl rfl (putK_run _ d (scanW (bk.drop (m' + 1)) (newW f.regs.length)) ((((liveP f).gen).take k).map oset) ((((liveP f).kill).take k).map oset) (probV f) f.cs [nil0, nil0] hs2 (by omega) (fun e _ => ?_) (fun _ => ?_))
          · rw [e] at jn
            refine go 1 Tryd.func29 ?_
            repeat' first | refine Len.map ?_ | refine Len.nil ?_ | refine Len.cons ?_ | refine Br.t rfl ?_ | refine Br.f rfl ?_ | refine Fit.au ?_ | refine Cv.au ?_ | refine Need.ne ?_ | refine Need.au ?_ | refine Pick.map (by assumption) ?_ | refine Pick.mapI (by omega) (by assumption) ?_ | refine PickN.mk _ (by assumption) ?_ | refine PickN.mk _ rfl ?_ | refine PickN.au ?_ | refine App.au rfl ?_ | refine App.au (own_map (fun _ => rfl) _) ?_ | refine Both.mk ?_ ?_ | exact True.intro
            exact Stop.mk (jn () (g := []) _ _ _ ⟨rfl, (by repeat' first | exact trivial | refine ⟨rfl, ?_⟩ | refine ⟨congrArg (fun n => AV.lit (.int .i64 n)) (by omega), ?_⟩ | refine ⟨congrArg (fun l => some (Row.row 1 l)) (by simp [int1, num, tru]), ?_⟩), (by repeat' first | exact trivial | refine ⟨rfl, ?_⟩ | refine ⟨congrArg (fun n => AV.lit (.int .i64 n)) (by omega), ?_⟩ | refine ⟨congrArg (fun l => some (Row.row 1 l)) (by simp [int1, num, tru]), ?_⟩)⟩ trivial)
          · refine go 1 Tryd.func29 ?_
            repeat' first | refine Len.map ?_ | refine Len.nil ?_ | refine Len.cons ?_ | refine Br.t rfl ?_ | refine Br.f rfl ?_ | refine Fit.au ?_ | refine Cv.au ?_ | refine Need.ne ?_ | refine Need.au ?_ | refine Pick.map (by assumption) ?_ | refine Pick.mapI (by omega) (by assumption) ?_ | refine PickN.mk _ (by assumption) ?_ | refine PickN.mk _ rfl ?_ | refine PickN.au ?_ | refine App.au rfl ?_ | refine App.au (own_map (fun _ => rfl) _) ?_ | refine Both.mk ?_ ?_ | exact True.intro
            exact Stop.mk (jn () (g := []) _ _ _ ⟨rfl, (by repeat' first | exact trivial | refine ⟨rfl, ?_⟩ | refine ⟨congrArg (fun n => AV.lit (.int .i64 n)) (by omega), ?_⟩ | refine ⟨congrArg (fun l => some (Row.row 1 l)) (by simp [int1, num, tru]), ?_⟩), (by repeat' first | exact trivial | refine ⟨rfl, ?_⟩ | refine ⟨congrArg (fun n => AV.lit (.int .i64 n)) (by omega), ?_⟩ | refine ⟨congrArg (fun l => some (Row.row 1 l)) (by simp [int1, num, tru]), ?_⟩)⟩ trivial)
        · have hd1 := hb.1
          have hneg : ¬ 0 ≤ defF i := fun e => hd ⟨e, hd1⟩
          rw [if_neg hd] at hka
          rw [hka] at jn
          refine go 32 Tryd.func29 ?_
          repeat' first | (refine Br.t ?_ ?_; focus (simp; done)) | (refine Br.f ?_ ?_; focus (simp; omega)) | refine Pick.map gi ?_ | refine Call.eq hD rfl ?_ | refine Len.map ?_ | refine Len.nil ?_ | refine Len.cons ?_ | refine Br.t rfl ?_ | refine Br.f rfl ?_ | refine Fit.au ?_ | refine Cv.au ?_ | refine Need.ne ?_ | refine Need.au ?_ | refine Pick.map (by assumption) ?_ | refine Pick.mapI (by omega) (by assumption) ?_ | refine PickN.mk _ (by assumption) ?_ | refine PickN.mk _ rfl ?_ | refine PickN.au ?_ | refine App.au rfl ?_ | refine App.au (own_map (fun _ => rfl) _) ?_ | refine Both.mk ?_ ?_ | exact True.intro
          exact Stop.mk (jn () (g := []) _ _ _ ⟨rfl, (by repeat' first | exact trivial | refine ⟨rfl, ?_⟩ | refine ⟨congrArg (fun n => AV.lit (.int .i64 n)) (by omega), ?_⟩ | refine ⟨congrArg (fun l => some (Row.row 1 l)) (by simp [int1, num, tru]), ?_⟩), (by repeat' first | exact trivial | refine ⟨rfl, ?_⟩ | refine ⟨congrArg (fun n => AV.lit (.int .i64 n)) (by omega), ?_⟩ | refine ⟨congrArg (fun l => some (Row.row 1 l)) (by simp [int1, num, tru]), ?_⟩)⟩ trivial)
      rintro _ _
      unfold tmS hpS
      refine go 6 Tryd.func29 ?_
      repeat' first | refine Pick.map gi ?_ | refine Len.map ?_ | refine Len.nil ?_ | refine Len.cons ?_ | refine Br.t rfl ?_ | refine Br.f rfl ?_ | refine Fit.au ?_ | refine Cv.au ?_ | refine Need.ne ?_ | refine Need.au ?_ | refine Pick.map (by assumption) ?_ | refine Pick.mapI (by omega) (by assumption) ?_ | refine PickN.mk _ (by assumption) ?_ | refine PickN.mk _ rfl ?_ | refine PickN.au ?_ | refine App.au rfl ?_ | refine App.au (own_map (fun _ => rfl) _) ?_ | refine Both.mk ?_ ?_ | exact True.intro
      refine Stop.mk ?_
      refine run_inlC rfl want_none rfl rfl rfl rfl rfl rfl rfl (overG_run i f.regs.length (hfi i him) (hgi i him).2 (hgi i him).1 hb hreg _ (killW f.regs.length (bk.drop m') (newW f.regs.length)) f (((liveP f).gen).take k) (((liveP f).kill).take k) hs1 ?_)
      rw [← hsa]
      refine go 1000 Tryd.func29 ?_
      repeat' first | refine Len.map ?_ | refine Len.nil ?_ | refine Len.cons ?_ | refine Br.t rfl ?_ | refine Br.f rfl ?_ | refine Fit.au ?_ | refine Cv.au ?_ | refine Need.ne ?_ | refine Need.au ?_ | refine Pick.map (by assumption) ?_ | refine Pick.mapI (by omega) (by assumption) ?_ | refine PickN.mk _ (by assumption) ?_ | refine PickN.mk _ rfl ?_ | refine PickN.au ?_ | refine App.au rfl ?_ | refine App.au (own_map (fun _ => rfl) _) ?_ | refine Both.mk ?_ ?_ | exact True.intro
      exact Stop.mk (ih2 m' (g := []) _ _ _ (by omega) (by omega) ⟨rfl, (by repeat' first | exact trivial | refine ⟨rfl, ?_⟩ | refine ⟨congrArg (fun n => AV.lit (.int .i64 n)) (by omega), ?_⟩ | refine ⟨congrArg (fun l => some (Row.row 1 l)) (by simp [int1, num, tru]), ?_⟩), (by repeat' first | exact trivial | refine ⟨rfl, ?_⟩ | refine ⟨congrArg (fun n => AV.lit (.int .i64 n)) (by omega), ?_⟩ | refine ⟨congrArg (fun l => some (Row.row 1 l)) (by simp [int1, num, tru]), ?_⟩)⟩)
    · obtain rfl : m = 0 := by omega
      have hkg : ((liveP f).gen.take (k + 1)) = (liveP f).gen.take k ++ [scanW bk (newW f.regs.length)] := map_take_succ gk
      have hkk : ((liveP f).kill.take (k + 1)) = (liveP f).kill.take k ++ [killW f.regs.length bk (newW f.regs.length)] := map_take_succ gk
      unfold tmS hpS
      refine go 8 Tryd.func29 ?_
      repeat' first | refine Br.f (by simp) ?_ | refine Len.map ?_ | refine Len.nil ?_ | refine Len.cons ?_ | refine Br.t rfl ?_ | refine Br.f rfl ?_ | refine Fit.au ?_ | refine Cv.au ?_ | refine Need.ne ?_ | refine Need.au ?_ | refine Pick.map (by assumption) ?_ | refine Pick.mapI (by omega) (by assumption) ?_ | refine PickN.mk _ (by assumption) ?_ | refine PickN.mk _ rfl ?_ | refine PickN.au ?_ | refine App.au rfl ?_ | refine App.au (own_map (fun _ => rfl) _) ?_ | refine Both.mk ?_ ?_ | exact True.intro
      rw [List.drop_zero]
      have hpr := fun Qp todo h => push_run f k (scanW bk (newW f.regs.length)) (killW f.regs.length bk (newW f.regs.length)) (((liveP f).gen).take k) (((liveP f).kill).take k) (by rw [List.length_take]; omega) (by rw [List.length_take]; omega) Qp (todo := todo) h
      rw [← hkg, ← hkk] at hpr
      simp only [tmS, hpS, List.cons_append, List.nil_append] at hpr
      refine Stop.mk ?_
      refine Run.fr (g := []) (hpr _ _ ?_) ?_
      case refine_2 => exact ⟨rfl, (by repeat' first | exact trivial | refine ⟨rfl, ?_⟩ | refine ⟨congrArg (fun n => AV.lit (.int .i64 n)) (by omega), ?_⟩ | refine ⟨congrArg (fun l => some (Row.row 1 l)) (by simp [int1, num, tru]), ?_⟩), (by repeat' first | exact trivial | refine ⟨rfl, ?_⟩ | refine ⟨congrArg (fun n => AV.lit (.int .i64 n)) (by omega), ?_⟩ | refine ⟨congrArg (fun l => some (Row.row 1 l)) (by simp [int1, num, tru]), ?_⟩)⟩
      refine go 1000 Tryd.func29 ?_
      repeat' first | refine Len.map ?_ | refine Len.nil ?_ | refine Len.cons ?_ | refine Br.t rfl ?_ | refine Br.f rfl ?_ | refine Fit.au ?_ | refine Cv.au ?_ | refine Need.ne ?_ | refine Need.au ?_ | refine Pick.map (by assumption) ?_ | refine Pick.mapI (by omega) (by assumption) ?_ | refine PickN.mk _ (by assumption) ?_ | refine PickN.mk _ rfl ?_ | refine PickN.au ?_ | refine App.au rfl ?_ | refine App.au (own_map (fun _ => rfl) _) ?_ | refine Both.mk ?_ ?_ | exact True.intro
      refine Stop.mk (ih (k + 1) (g := []) _ _ _ (by omega) (by omega) ?_)
      unfold tmS hpS
      exact ⟨rfl, (by repeat' first | exact trivial | refine ⟨rfl, ?_⟩ | refine ⟨congrArg (fun n => AV.lit (.int .i64 n)) (by omega), ?_⟩ | refine ⟨congrArg (fun l => some (Row.row 1 l)) (by simp [int1, num, tru]), ?_⟩), (by repeat' first | exact trivial | refine ⟨rfl, ?_⟩ | refine ⟨congrArg (fun n => AV.lit (.int .i64 n)) (by omega), ?_⟩ | refine ⟨congrArg (fun l => some (Row.row 1 l)) (by simp [int1, num, tru]), ?_⟩)⟩
  · obtain rfl : k = f.blocks.length := by omega
    rw [List.take_of_length_le (by show (f.blocks.map _).length ≤ _; rw [List.length_map]; omega), List.take_of_length_le (by show (f.blocks.map _).length ≤ _; rw [List.length_map]; omega)]
    refine go 8 Tryd.func29 ?_
    repeat' first | refine Br.f (by simp) ?_ | refine Len.map ?_ | refine Len.nil ?_ | refine Len.cons ?_ | refine Br.t rfl ?_ | refine Br.f rfl ?_ | refine Fit.au ?_ | refine Cv.au ?_ | refine Need.ne ?_ | refine Need.au ?_ | refine Pick.map (by assumption) ?_ | refine Pick.mapI (by omega) (by assumption) ?_ | refine PickN.mk _ (by assumption) ?_ | refine PickN.mk _ rfl ?_ | refine PickN.au ?_ | refine App.au rfl ?_ | refine App.au (own_map (fun _ => rfl) _) ?_ | refine Both.mk ?_ ?_ | exact True.intro
    refine Stop.mk ?_
    refine run_unfold 2 0 rfl rfl ?_
    refine run_unfold 2 6 rfl rfl ?_
    refine go 1000 Tryd.func29 ?_
    repeat' first | refine Look.yes (View.mk _ (fzLL_map fz_olsts _) ?_) | refine View.mk _ (fzLL_map fz_oset _) ?_ | refine View.mk _ (fzw _) ?_ | refine Len.map ?_ | refine Len.nil ?_ | refine Len.cons ?_ | refine Br.t rfl ?_ | refine Br.f rfl ?_ | refine Fit.au ?_ | refine Cv.au ?_ | refine Need.ne ?_ | refine Need.au ?_ | refine Pick.map (by assumption) ?_ | refine Pick.mapI (by omega) (by assumption) ?_ | refine PickN.mk _ (by assumption) ?_ | refine PickN.mk _ rfl ?_ | refine PickN.au ?_ | refine App.au rfl ?_ | refine App.au (own_map (fun _ => rfl) _) ?_ | refine Both.mk ?_ ?_ | exact True.intro
    refine CallV.of (Solve46_spec (liveP f) (liveP_ok h.toLiveOK)) ?_
    rintro r ⟨T, F, hs, rfl⟩
    refine ⟨rfl, (by repeat' first | exact Free.lit _ | refine Free.tup ?_ | refine Free.agg ?_ | (refine Free.map ?_; intro e _) | refine List.forall_mem_cons.2 ⟨?_, ?_⟩ | exact List.forall_mem_nil _), ?_⟩
    repeat' first | refine Len.map ?_ | refine Len.nil ?_ | refine Len.cons ?_ | refine Br.t rfl ?_ | refine Br.f rfl ?_ | refine Fit.au ?_ | refine Cv.au ?_ | refine Need.ne ?_ | refine Need.au ?_ | refine Pick.map (by assumption) ?_ | refine Pick.mapI (by omega) (by assumption) ?_ | refine PickN.mk _ (by assumption) ?_ | refine PickN.mk _ rfl ?_ | refine PickN.au ?_ | refine App.au rfl ?_ | refine App.au (own_map (fun _ => rfl) _) ?_ | refine Both.mk ?_ ?_ | exact True.intro
    refine Stop.mk ?_
    refine run_unfold 9 0 rfl rfl ?_
    refine run_unfold 9 1 rfl rfl ?_
    refine go 1000 Tryd.func29 ?_
    repeat' first | refine Len.map ?_ | refine Len.nil ?_ | refine Len.cons ?_ | refine Br.t rfl ?_ | refine Br.f rfl ?_ | refine Fit.au ?_ | refine Cv.au ?_ | refine Need.ne ?_ | refine Need.au ?_ | refine Pick.map (by assumption) ?_ | refine Pick.mapI (by omega) (by assumption) ?_ | refine PickN.mk _ (by assumption) ?_ | refine PickN.mk _ rfl ?_ | refine PickN.au ?_ | refine App.au rfl ?_ | refine App.au (own_map (fun _ => rfl) _) ?_ | refine Both.mk ?_ ?_ | exact True.intro
    exact ⟨T, F, hs, rfl⟩
end Go.Proofs.YtdgibhndjdgllaaDoor

/- live.Ins and live.Outs. -/
namespace Go.Proofs.YtdgibhndjdgllaaDoor
open Go.Ax
set_option maxRecDepth 10000
set_option linter.unusedVariables false
set_option maxHeartbeats 0

theorem Ins9_spec (f : Fun) (h : LiveR f) : FnSpec Tryd.prog 9 [funA f] (fun r => ∃ T F, SolP (liveP f) T F ∧ r = .osl 1 (T.map oset)) := by
  have hS := solved29_spec f h
  refine spec_of 1000 Tryd.func9 rfl rfl ?_
  repeat' first | refine Len.map ?_ | refine Len.nil ?_ | refine Len.cons ?_ | refine Br.t rfl ?_ | refine Br.f rfl ?_ | refine Fit.au ?_ | refine Cv.au ?_ | refine Need.ne ?_ | refine Need.au ?_ | refine Pick.map (by assumption) ?_ | refine Pick.mapI (by omega) (by assumption) ?_ | refine PickN.mk _ (by assumption) ?_ | refine PickN.mk _ rfl ?_ | refine PickN.au ?_ | refine App.au rfl ?_ | refine App.au (own_map (fun _ => rfl) _) ?_ | refine Both.mk ?_ ?_ | exact True.intro
  refine Call.of hS ?_
  rintro r ⟨T, F, hs, rfl⟩
  refine ⟨rfl, ?_⟩
  repeat' first | refine Len.map ?_ | refine Len.nil ?_ | refine Len.cons ?_ | refine Br.t rfl ?_ | refine Br.f rfl ?_ | refine Fit.au ?_ | refine Cv.au ?_ | refine Need.ne ?_ | refine Need.au ?_ | refine Pick.map (by assumption) ?_ | refine Pick.mapI (by omega) (by assumption) ?_ | refine PickN.mk _ (by assumption) ?_ | refine PickN.mk _ rfl ?_ | refine PickN.au ?_ | refine App.au rfl ?_ | refine App.au (own_map (fun _ => rfl) _) ?_ | refine Both.mk ?_ ?_ | exact True.intro
  exact ⟨T, F, hs, rfl⟩
theorem Outs10_spec (f : Fun) (h : LiveR f) : FnSpec Tryd.prog 10 [funA f] (fun r => ∃ T F, SolP (liveP f) T F ∧ r = .osl 1 (F.map oset)) := by
  have hS := solved29_spec f h
  refine spec_of 1000 Tryd.func10 rfl rfl ?_
  repeat' first | refine Len.map ?_ | refine Len.nil ?_ | refine Len.cons ?_ | refine Br.t rfl ?_ | refine Br.f rfl ?_ | refine Fit.au ?_ | refine Cv.au ?_ | refine Need.ne ?_ | refine Need.au ?_ | refine Pick.map (by assumption) ?_ | refine Pick.mapI (by omega) (by assumption) ?_ | refine PickN.mk _ (by assumption) ?_ | refine PickN.mk _ rfl ?_ | refine PickN.au ?_ | refine App.au rfl ?_ | refine App.au (own_map (fun _ => rfl) _) ?_ | refine Both.mk ?_ ?_ | exact True.intro
  refine Call.of hS ?_
  rintro r ⟨T, F, hs, rfl⟩
  refine ⟨rfl, ?_⟩
  repeat' first | refine Len.map ?_ | refine Len.nil ?_ | refine Len.cons ?_ | refine Br.t rfl ?_ | refine Br.f rfl ?_ | refine Fit.au ?_ | refine Cv.au ?_ | refine Need.ne ?_ | refine Need.au ?_ | refine Pick.map (by assumption) ?_ | refine Pick.mapI (by omega) (by assumption) ?_ | refine PickN.mk _ (by assumption) ?_ | refine PickN.mk _ rfl ?_ | refine PickN.au ?_ | refine App.au rfl ?_ | refine App.au (own_map (fun _ => rfl) _) ?_ | refine Both.mk ?_ ?_ | exact True.intro
  exact ⟨T, F, hs, rfl⟩
end Go.Proofs.YtdgibhndjdgllaaDoor

/- live.Ahead: where there is no instruction. -/
namespace Go.Proofs.YtdgibhndjdgllaaDoor
open Go.Ax
set_option maxRecDepth 10000
set_option linter.unusedVariables false
set_option maxHeartbeats 0

theorem Or_nil_spec (s : List W) (hs : s.length ≤ 1000000) : FnSpec Tryd.prog 36 [sets s, .lit (.slice none 0 0)] (fun r => r = .osl 1 ((orW s []).map u1)) := (Or36_spec s [] hs (by simp)).args (.cons (Le.refl _) (.cons Le.none .nil))
theorem Ahead13_none (f : Fun) (h : LiveR f) (block at_ : Int) (hno : ¬ (0 ≤ block ∧ block < f.blocks.length ∧ 0 ≤ at_ ∧ at_ ≤ (f.blocks.getD block.toNat []).length)) : FnSpec Tryd.prog 13 [funA f, num block, num at_] (fun r => r = .osl 1 ((newW f.regs.length).map u1)) := by
  have hO := Outs10_spec f h
  have hN := New35_spec f.regs.length h.regs
  have hbl := h.blocks
  refine spec_of 1000 Tryd.func13 rfl rfl ?_
  repeat' first | refine Len.map ?_ | refine Len.nil ?_ | refine Len.cons ?_ | refine Br.t rfl ?_ | refine Br.f rfl ?_ | refine Fit.au ?_ | refine Cv.au ?_ | refine Need.ne ?_ | refine Need.au ?_ | refine Pick.map (by assumption) ?_ | refine Pick.mapI (by omega) (by assumption) ?_ | refine PickN.mk _ (by assumption) ?_ | refine PickN.mk _ rfl ?_ | refine PickN.au ?_ | refine App.au rfl ?_ | refine App.au (own_map (fun _ => rfl) _) ?_ | refine Both.mk ?_ ?_ | exact True.intro
  refine Call.of hO ?_
  rintro r ⟨T, F, hs, rfl⟩
  refine ⟨rfl, ?_⟩
  have hlF : F.length = f.blocks.length := hs.lenF.trans (succsF_len f)
  by_cases hb0 : block < 0
  · repeat' first | (refine Br.t ?_ ?_; focus (first | (simp; done) | (simp; omega))) | refine Call.eq hN rfl ?_ | refine Len.map ?_ | refine Len.nil ?_ | refine Len.cons ?_ | refine Br.t rfl ?_ | refine Br.f rfl ?_ | refine Fit.au ?_ | refine Cv.au ?_ | refine Need.ne ?_ | refine Need.au ?_ | refine Pick.map (by assumption) ?_ | refine Pick.mapI (by omega) (by assumption) ?_ | refine PickN.mk _ (by assumption) ?_ | refine PickN.mk _ rfl ?_ | refine PickN.au ?_ | refine App.au rfl ?_ | refine App.au (own_map (fun _ => rfl) _) ?_ | refine Both.mk ?_ ?_ | exact True.intro
    rfl
  · by_cases hb1 : block < f.blocks.length
    · obtain ⟨bk, gk, hbm⟩ := getK (l := f.blocks) (k := block.toNat) (by omega)
      have hlen := h.len bk hbm
      have eb : f.blocks.getD block.toNat [] = bk := by rw [List.getD_eq_getElem?_getD, gk]; rfl
      rw [eb] at hno
      by_cases ha0 : at_ < 0
      · repeat' first | (refine Br.t ?_ ?_; focus (first | (simp; done) | (simp; omega))) | (refine Br.f ?_ ?_; focus (first | (simp; done) | (simp; omega))) | refine Pick.mapI (by omega) gk ?_ | refine Call.eq hN rfl ?_ | refine Len.map ?_ | refine Len.nil ?_ | refine Len.cons ?_ | refine Br.t rfl ?_ | refine Br.f rfl ?_ | refine Fit.au ?_ | refine Cv.au ?_ | refine Need.ne ?_ | refine Need.au ?_ | refine Pick.map (by assumption) ?_ | refine Pick.mapI (by omega) (by assumption) ?_ | refine PickN.mk _ (by assumption) ?_ | refine PickN.mk _ rfl ?_ | refine PickN.au ?_ | refine App.au rfl ?_ | refine App.au (own_map (fun _ => rfl) _) ?_ | refine Both.mk ?_ ?_ | exact True.intro
        rfl
      · have ha1 : at_ > bk.length := by omega
        repeat' first | (refine Br.t ?_ ?_; focus (first | (simp; done) | (simp; omega))) | (refine Br.f ?_ ?_; focus (first | (simp; done) | (simp; omega))) | refine Pick.mapI (by omega) gk ?_ | refine Call.eq hN rfl ?_ | refine Len.map ?_ | refine Len.nil ?_ | refine Len.cons ?_ | refine Br.t rfl ?_ | refine Br.f rfl ?_ | refine Fit.au ?_ | refine Cv.au ?_ | refine Need.ne ?_ | refine Need.au ?_ | refine Pick.map (by assumption) ?_ | refine Pick.mapI (by omega) (by assumption) ?_ | refine PickN.mk _ (by assumption) ?_ | refine PickN.mk _ rfl ?_ | refine PickN.au ?_ | refine App.au rfl ?_ | refine App.au (own_map (fun _ => rfl) _) ?_ | refine Both.mk ?_ ?_ | exact True.intro
        rfl
    · repeat' first | (refine Br.t ?_ ?_; focus (first | (simp; done) | (simp; omega))) | (refine Br.f ?_ ?_; focus (first | (simp; done) | (simp; omega))) | refine Call.eq hN rfl ?_ | refine Len.map ?_ | refine Len.nil ?_ | refine Len.cons ?_ | refine Br.t rfl ?_ | refine Br.f rfl ?_ | refine Fit.au ?_ | refine Cv.au ?_ | refine Need.ne ?_ | refine Need.au ?_ | refine Pick.map (by assumption) ?_ | refine Pick.mapI (by omega) (by assumption) ?_ | refine PickN.mk _ (by assumption) ?_ | refine PickN.mk _ rfl ?_ | refine PickN.au ?_ | refine App.au rfl ?_ | refine App.au (own_map (fun _ => rfl) _) ?_ | refine Both.mk ?_ ?_ | exact True.intro
      rfl
end Go.Proofs.YtdgibhndjdgllaaDoor

/- live.Ahead: ahead of an instruction. -/
namespace Go.Proofs.YtdgibhndjdgllaaDoor
open Go.Ax
set_option maxRecDepth 10000
set_option linter.unusedVariables false
set_option maxHeartbeats 0

theorem Ahead13_some (f : Fun) (h : LiveR f) (b a : Nat) (bk : List Ins) (gk : f.blocks[b]? = some bk) (ha : a ≤ bk.length) : FnSpec Tryd.prog 13 [funA f, num b, num a] (fun r => ∃ s : List W, s.length = wn f.regs.length ∧ r = .osl 1 (s.map u1) ∧ ∀ q : Nat, hasW s q = true ↔ NeedP f b a q) := by
  have hO := Outs10_spec f h
  have hbl := h.blocks
  have hreg := h.regs
  have hwn := wn_le h.regs
  obtain ⟨hb, hbe⟩ := List.getElem?_eq_some_iff.1 gk
  have hbm : bk ∈ f.blocks := hbe ▸ List.getElem_mem hb
  have hlen := h.len bk hbm
  have hgi := h.arg bk hbm
  have hib := h.ins bk hbm
  have hfi := (h.fit.2.2 bk hbm).2
  refine spec_of 32 Tryd.func13 rfl rfl ?_
  repeat' first | refine Len.map ?_ | refine Len.nil ?_ | refine Len.cons ?_ | refine Br.t rfl ?_ | refine Br.f rfl ?_ | refine Fit.au ?_ | refine Cv.au ?_ | refine Need.ne ?_ | refine Need.au ?_ | refine Pick.map (by assumption) ?_ | refine Pick.mapI (by omega) (by assumption) ?_ | refine PickN.mk _ (by assumption) ?_ | refine PickN.mk _ rfl ?_ | refine PickN.au ?_ | refine App.au rfl ?_ | refine App.au (own_map (fun _ => rfl) _) ?_ | refine Both.mk ?_ ?_ | exact True.intro
  refine Call.of hO ?_
  rintro r ⟨T, F, hs, rfl⟩
  refine ⟨rfl, ?_⟩
  have hlF : F.length = f.blocks.length := hs.lenF.trans (succsF_len f)
  repeat' first | (refine Br.f ?_ ?_; focus (first | (simp; done) | (simp; omega))) | refine Pick.mapI (by omega) gk ?_ | refine Len.map ?_ | refine Len.nil ?_ | refine Len.cons ?_ | refine Br.t rfl ?_ | refine Br.f rfl ?_ | refine Fit.au ?_ | refine Cv.au ?_ | refine Need.ne ?_ | refine Need.au ?_ | refine Pick.map (by assumption) ?_ | refine Pick.mapI (by omega) (by assumption) ?_ | refine PickN.mk _ (by assumption) ?_ | refine PickN.mk _ rfl ?_ | refine PickN.au ?_ | refine App.au rfl ?_ | refine App.au (own_map (fun _ => rfl) _) ?_ | refine Both.mk ?_ ?_ | exact True.intro
  refine Stop.mk ?_
  refine run_frzR 1 rfl (fzLL_map fz_oset _) ?_
  obtain ⟨s0, gF, hFm⟩ := getK (l := F) (k := b) (by omega)
  have e0 : F.getD b [] = s0 := by rw [List.getD_eq_getElem?_getD, gF]; rfl
  have hl0 : s0.length = wn f.regs.length := by rw [← e0]; exact hs.widF b (by show b < (succsF f).length; rw [succsF_len]; exact hb)
  have hor := Or_nil_spec s0 (by rw [hl0]; omega)
  have hol := orn_len s0
  refine go 1000 Tryd.func13 ?_
  repeat' first | (refine Br.f ?_ ?_; focus (first | (simp; done) | (simp; omega))) | refine Pick.mapI (by omega) gk ?_ | refine Pick.mapI (by omega) gF ?_ | refine Call.eq hor rfl ?_ | refine Len.map ?_ | refine Len.nil ?_ | refine Len.cons ?_ | refine Br.t rfl ?_ | refine Br.f rfl ?_ | refine Fit.au ?_ | refine Cv.au ?_ | refine Need.ne ?_ | refine Need.au ?_ | refine Pick.map (by assumption) ?_ | refine Pick.mapI (by omega) (by assumption) ?_ | refine PickN.mk _ (by assumption) ?_ | refine PickN.mk _ rfl ?_ | refine PickN.au ?_ | refine App.au rfl ?_ | refine App.au (own_map (fun _ => rfl) _) ?_ | refine Both.mk ?_ ?_ | exact True.intro
  refine Stop.mk (loop_in (g := []) (fun m : Nat => [(1, num b), (2, num a), (3, .hp 0 0), (8, .hw 2), (9, num m)]) (fun m => [(2, rowW (scanW (bk.drop m) (orW s0 []))), (0, .var f.cs)]) 3 (fun m => a ≤ m ∧ m ≤ bk.length) (fun m => m) bk.length ⟨ha, Nat.le_refl _⟩ ?_ (fun m hm ih => ?_))
  · rw [scanW_end (Nat.le_refl _)]
    exact ⟨rfl, (by repeat' first | exact trivial | refine ⟨rfl, ?_⟩ | refine ⟨congrArg (fun n => AV.lit (.int .i64 n)) (by omega), ?_⟩ | refine ⟨congrArg (fun l => some (Row.row 1 l)) (by simp [int1, num, tru]), ?_⟩), (by repeat' first | exact trivial | refine ⟨rfl, ?_⟩ | refine ⟨congrArg (fun n => AV.lit (.int .i64 n)) (by omega), ?_⟩ | refine ⟨congrArg (fun l => some (Row.row 1 l)) (by simp [int1, num, tru]), ?_⟩)⟩
  have hs1 : (scanW (bk.drop m) (orW s0 [])).length ≤ 1000000 := by rw [scanW_len, hol]; omega
  by_cases hma : m = a
  · subst hma
    refine go 1000 Tryd.func13 ?_
    repeat' first | (refine Br.t ?_ ?_; focus (simp; done)) | refine Len.map ?_ | refine Len.nil ?_ | refine Len.cons ?_ | refine Br.t rfl ?_ | refine Br.f rfl ?_ | refine Fit.au ?_ | refine Cv.au ?_ | refine Need.ne ?_ | refine Need.au ?_ | refine Pick.map (by assumption) ?_ | refine Pick.mapI (by omega) (by assumption) ?_ | refine PickN.mk _ (by assumption) ?_ | refine PickN.mk _ rfl ?_ | refine PickN.au ?_ | refine App.au rfl ?_ | refine App.au (own_map (fun _ => rfl) _) ?_ | refine Both.mk ?_ ?_ | exact True.intro
    refine ⟨scanW (bk.drop m) (orW s0 []), by rw [scanW_len, hol, hl0], rfl, fun q => ?_⟩
    have := live_at h.toLiveOK hs hb m q
    rw [e0, List.getD_eq_getElem?_getD, gk] at this
    exact this
  · obtain ⟨m', rfl⟩ : ∃ m', m = m' + 1 := ⟨m - 1, by omega⟩
    obtain ⟨i, gi, him⟩ := getK (l := bk) (k := m') (by omega)
    have hsa := scanW_at (s := orW s0 []) gi
    have hbi := hib i him
    refine go 26 Tryd.func13 ?_
    repeat' first | (refine Br.f ?_ ?_; focus (simp; omega)) | refine Pick.map gk ?_ | refine Pick.mapI (by omega) (by rw [show (((m' + 1 : Nat) : Int) - 1).toNat = m' by omega]; exact gi) ?_ | refine Len.map ?_ | refine Len.nil ?_ | refine Len.cons ?_ | refine Br.t rfl ?_ | refine Br.f rfl ?_ | refine Fit.au ?_ | refine Cv.au ?_ | refine Need.ne ?_ | refine Need.au ?_ | refine Pick.map (by assumption) ?_ | refine Pick.mapI (by omega) (by assumption) ?_ | refine PickN.mk _ (by assumption) ?_ | refine PickN.mk _ rfl ?_ | refine PickN.au ?_ | refine App.au rfl ?_ | refine App.au (own_map (fun _ => rfl) _) ?_ | refine Both.mk ?_ ?_ | exact True.intro
    rw [show (((m' + 1 : Nat) : Int) - 1) = (m' : Int) by omega]
    refine Stop.mk ?_
    refine run_inlC rfl want_none rfl rfl rfl rfl rfl rfl rfl (overA_run i f.regs.length (hfi i him) (hgi i him).2 (hgi i him).1 hbi hreg _ f hs1 ?_)
    rw [← hsa]
    refine go 1000 Tryd.func13 ?_
    repeat' first | refine Len.map ?_ | refine Len.nil ?_ | refine Len.cons ?_ | refine Br.t rfl ?_ | refine Br.f rfl ?_ | refine Fit.au ?_ | refine Cv.au ?_ | refine Need.ne ?_ | refine Need.au ?_ | refine Pick.map (by assumption) ?_ | refine Pick.mapI (by omega) (by assumption) ?_ | refine PickN.mk _ (by assumption) ?_ | refine PickN.mk _ rfl ?_ | refine PickN.au ?_ | refine App.au rfl ?_ | refine App.au (own_map (fun _ => rfl) _) ?_ | refine Both.mk ?_ ?_ | exact True.intro
    exact Stop.mk (ih m' (g := []) _ _ _ (by omega) (by omega) ⟨rfl, (by repeat' first | exact trivial | refine ⟨rfl, ?_⟩ | refine ⟨congrArg (fun n => AV.lit (.int .i64 n)) (by omega), ?_⟩ | refine ⟨congrArg (fun l => some (Row.row 1 l)) (by simp [int1, num, tru]), ?_⟩), (by repeat' first | exact trivial | refine ⟨rfl, ?_⟩ | refine ⟨congrArg (fun n => AV.lit (.int .i64 n)) (by omega), ?_⟩ | refine ⟨congrArg (fun l => some (Row.row 1 l)) (by simp [int1, num, tru]), ?_⟩)⟩)
end Go.Proofs.YtdgibhndjdgllaaDoor

/- The chapter's example: what is needed in it. No program is in sight here. -/
namespace Go.Proofs.YtdgibhndjdgllaaDoor
open Go.Ax
def exI : Ins := ⟨11, 1, 2, 2, 0, 0, 0, 0, []⟩
def exR : Ins := ⟨43, 0, 1, 0, 0, 0, 0, 0, []⟩
def exL : Fun := ⟨⟨#[]⟩, 3, 1, [1, 1, 1], [[exI, exR]]⟩
theorem exI_uses : usesF exI = [2, 2] := by decide +kernel
theorem exR_uses : usesF exR = [1] := by decide +kernel
theorem exI_def : defF exI = 1 := by decide
theorem exR_def : defF exR = -1 := by decide
theorem exL_ok : LiveOK exL := by
  refine ⟨by decide, by decide, fun b hb i hi => ?_⟩
  simp only [exL, List.mem_cons, List.not_mem_nil, or_false] at hb
  subst hb
  simp only [List.mem_cons, List.not_mem_nil, or_false] at hi
  rcases hi with rfl | rfl
  · exact ⟨by rw [exI_def]; decide, fun u hu => by rw [exI_uses] at hu; simp at hu; subst hu; decide⟩
  · exact ⟨by rw [exR_def]; decide, fun u hu => by rw [exR_uses] at hu; simp at hu; subst hu; decide⟩
theorem exL_succs : succsF exL = [[]] := by decide +kernel
theorem exL_no (r : Int) : ¬ NeedO exL 0 r := by
  rw [needO_iff, exL_succs]
  rintro ⟨s, hs, _⟩
  simp at hs
theorem exL_zero (r : Int) : NeedP exL 0 0 r ↔ r = 2 := by
  have e : lookL ((exL.blocks.getD 0 []).drop 0) r = lookL [exI, exR] r := rfl
  unfold NeedP
  rw [e]
  simp only [lookL, exI_uses, exR_uses, exI_def, exR_def, exL_no, and_false, or_false, List.mem_cons, List.not_mem_nil, or_false, or_self]
  by_cases h2 : r = 2
  · simp [h2]
  · simp only [h2, if_false, iff_false]
    by_cases h1 : (1 : Int) = r
    · rw [if_pos h1]; simp
    · rw [if_neg h1, if_neg (by omega)]
      split <;> simp
theorem exL_one (r : Int) : NeedP exL 0 1 r ↔ r = 1 := by
  have e : lookL ((exL.blocks.getD 0 []).drop 1) r = lookL [exR] r := rfl
  unfold NeedP
  rw [e]
  simp only [lookL, exI_uses, exR_uses, exI_def, exR_def, exL_no, and_false, or_false, List.mem_cons, List.not_mem_nil, or_false, or_self]
  by_cases h2 : r = 1
  · simp [h2]
  · simp only [h2, if_false, iff_false]
    split <;> simp
/-- A set of one word is known by its numbers. -/
theorem one_word {s : List W} {w : W} (hl : s.length = 1) (h : ∀ q : Nat, hasW s q = hasW [w] q) : s = [w] := by
  match s, hl with
  | [v], _ =>
    congr 1
    refine BitVec.eq_of_getLsbD_eq fun i hi => ?_
    have := h i
    unfold hasW at this
    rw [Nat.div_eq_of_lt hi, Nat.mod_eq_of_lt hi] at this
    exact this
theorem has_single {w : W} {k q : Nat} (h : ∀ i, i < 64 → w.getLsbD i = decide (i = k)) (hk : k < 64) : hasW [w] q = decide (q = k) := by
  unfold hasW
  by_cases hq : q < 64
  · rw [Nat.div_eq_of_lt hq, Nat.mod_eq_of_lt hq]; exact h q hq
  · have h1 : 0 < q / 64 := by omega
    obtain ⟨m, hm⟩ : ∃ m, q / 64 = m + 1 := ⟨q / 64 - 1, by omega⟩
    rw [hm]
    have : q ≠ k := by omega
    simp [this]
theorem has4 (q : Nat) : hasW [4#64] q = decide (q = 2) := has_single (by decide) (by decide)
theorem has2 (q : Nat) : hasW [2#64] q = decide (q = 1) := has_single (by decide) (by decide)
theorem exL_T {T F : List (List W)} (hs : SolP (liveP exL) T F) : T = [[4#64]] := by
  have hl : T.length = 1 := by rw [hs.lenT]; exact succsF_len exL
  match T, hl, hs with
  | [s], _, hs =>
    have hw : s.length = 1 := by rw [hs.widT s (List.mem_singleton.2 rfl)]; decide
    congr 1
    refine one_word hw fun q => ?_
    have h1 := (live_sol exL_ok hs (k := 0) (by decide) q).1
    rw [exL_zero] at h1
    rw [has4, Bool.eq_iff_iff, decide_eq_true_eq]
    refine h1.trans ⟨fun e => by omega, fun e => by omega⟩
theorem exL_A {s : List W} (hl : s.length = wn exL.regs.length) (h : ∀ q : Nat, hasW s q = true ↔ NeedP exL 0 1 q) : s = [2#64] := by
  have hw : s.length = 1 := by rw [hl]; decide
  refine one_word hw fun q => ?_
  have h1 := h q
  rw [exL_one] at h1
  rw [has2, Bool.eq_iff_iff, decide_eq_true_eq]
  refine h1.trans ⟨fun e => by omega, fun e => by omega⟩
end Go.Proofs.YtdgibhndjdgllaaDoor
