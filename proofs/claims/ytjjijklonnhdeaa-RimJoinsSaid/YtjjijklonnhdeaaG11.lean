/- The order of reached blocks, by a contract. -/
import Derived.Test.YtjjijklonnhdeaaG10
import Derived.Test.YtjjijklonnhdeaaG07
set_option linter.unusedVariables false
set_option linter.unusedSimpArgs false

namespace Go.Proofs.Ytjjijklonnhdeaa
open Go.Ax
set_option maxRecDepth 10000
set_option linter.unusedVariables false

/-- A list whose first ones, and last ones, have changed places. -/
def swp (l : List Int) (i : Nat) : List Int := (List.range l.length).map fun x => if x < i ∨ l.length - i ≤ x then l.getD (l.length - 1 - x) 0 else l.getD x 0
theorem swp_len (l : List Int) (i : Nat) : (swp l i).length = l.length := by unfold swp; simp
theorem swp_at {l : List Int} {i x : Nat} (h : x < l.length) : (swp l i)[x]? = some (if x < i ∨ l.length - i ≤ x then l.getD (l.length - 1 - x) 0 else l.getD x 0) := by
  unfold swp
  rw [List.getElem?_map, List.getElem?_range h]; rfl
theorem swp_zero (l : List Int) : swp l 0 = l := by
  apply List.ext_getElem?
  intro x
  by_cases h : x < l.length
  · rw [swp_at h, if_neg (by omega), List.getD_eq_getElem?_getD, List.getElem?_eq_getElem h]; rfl
  · rw [List.getElem?_eq_none (by rw [swp_len]; omega), List.getElem?_eq_none (by omega)]
theorem swp_end {l : List Int} {i : Nat} (h : l.length - 1 ≤ i + i) : swp l i = l.reverse := by
  apply List.ext_getElem?
  intro x
  by_cases hx : x < l.length
  · rw [swp_at hx, List.getElem?_reverse hx]
    by_cases e : x < i ∨ l.length - i ≤ x
    · rw [if_pos e, List.getD_eq_getElem?_getD, List.getElem?_eq_getElem (by omega)]; rfl
    · rw [if_neg e, List.getD_eq_getElem?_getD, show l.length - 1 - x = x by omega, List.getElem?_eq_getElem hx]; rfl
  · rw [List.getElem?_eq_none (by rw [swp_len]; omega), List.getElem?_eq_none (by rw [List.length_reverse]; omega)]
theorem swp_succ {l : List Int} {i : Nat} {a b : Int} (h : i + i < l.length - 1) (ga : (swp l i)[i]? = some a) (gb : (swp l i)[l.length - 1 - i]? = some b) : ((swp l i).set i b).set (l.length - 1 - i) a = swp l (i + 1) := by
  rw [swp_at (by omega), if_neg (by omega)] at ga gb
  apply List.ext_getElem?
  intro x
  by_cases hx : x < l.length
  · rw [swp_at hx, List.getElem?_set, List.getElem?_set, List.length_set, swp_len]
    by_cases e1 : l.length - 1 - i = x
    · subst e1
      rw [if_pos rfl, if_pos (by omega), if_pos (by omega), ← ga, show l.length - 1 - (l.length - 1 - i) = i by omega]
    · rw [if_neg e1]
      by_cases e2 : i = x
      · subst e2
        rw [if_pos rfl, if_pos (by omega), if_pos (by omega), ← gb]
      · rw [if_neg e2, swp_at hx]
        by_cases e3 : x < i ∨ l.length - i ≤ x
        · rw [if_pos e3, if_pos (by omega)]
        · rw [if_neg e3, if_neg (by omega)]
  · rw [List.getElem?_eq_none (by rw [List.length_set, List.length_set, swp_len]; omega), List.getElem?_eq_none (by rw [swp_len]; omega)]

theorem Order93_spec (f : Fun) (hf : f.fits) (hn : f.blocks.length ≤ 1000000) : FnSpec Try.prog 31 [funA f] (fun r => ∃ o : List Int, r = .osl 1 (o.map int1) ∧ o.length ≤ f.blocks.length ∧ OrdP (succsF f) o) := by
  have hcl := succsF_closed f
  have hsm := succsF_small f
  have hsn : (succsF f).length ≤ 1000000 := by rw [succsF_len]; exact hn
  refine spec_of 1000 Try.func31 rfl rfl ?_
  repeat' first | refine Call.eq (Succs95_spec f hf hn) rfl ?_ | refine Len.map ?_ | refine Len.nil ?_ | refine Len.cons ?_ | refine Br.t rfl ?_ | refine Br.f rfl ?_ | refine Fit.au ?_ | refine Cv.au ?_ | refine Need.ne ?_ | refine Need.au ?_ | refine Pick.map (by assumption) ?_ | refine Pick.mapI (by omega) (by assumption) ?_ | refine PickN.mk _ (by assumption) ?_ | refine PickN.mk _ rfl ?_ | refine PickN.au ?_ | refine App.au rfl ?_ | refine App.au (own_map (fun _ => rfl) _) ?_ | refine Both.mk ?_ ?_ | exact True.intro
  refine Look.stop (Stop.mk ?_)
  refine run_frzR 2 rfl (fzLL_map fz_olsts _) ?_
  refine run_varLe 1 rfl (.cons (VLe.onil (sz := 1)) .nil) ?_
  have hsl := succsF_len f
  generalize succsF f = s at *
  refine Run.fr (g := [(0, 1)]) (tm' := [(5, .sl false 1 (s.map lst)), (3, .hp 0 0), (6, .fn 49 [.hp 0 0])]) (hp' := [(0, .var [.osl 1 []])]) (nx' := 1) ?_ ⟨rfl, (by repeat' first | exact trivial | refine ⟨rfl, ?_⟩ | refine ⟨congrArg (fun n => AV.lit (.int .i64 n)) (by omega), ?_⟩ | refine ⟨congrArg (fun l => some (Row.row 1 l)) (by simp [int1, num, tru]), ?_⟩), (by repeat' first | exact trivial | refine ⟨rfl, ?_⟩ | refine ⟨congrArg (fun n => AV.lit (.int .i64 n)) (by omega), ?_⟩ | refine ⟨congrArg (fun l => some (Row.row 1 l)) (by simp [int1, num, tru]), ?_⟩)⟩
  refine run_inlC rfl want_none rfl rfl rfl rfl rfl rfl rfl (through_runO _ hcl hsm hsn fun l w hwl how => ?_)
  refine Run.fr (g := []) (tm' := [(3, .hp 0 0)]) (hp' := [(0, .var [.osl 1 (w.map int1)])]) (nx' := 1) ?_ ⟨rfl, (by repeat' first | exact trivial | refine ⟨rfl, ?_⟩ | refine ⟨congrArg (fun n => AV.lit (.int .i64 n)) (by omega), ?_⟩ | refine ⟨congrArg (fun l => some (Row.row 1 l)) (by simp [int1, num, tru]), ?_⟩), (by repeat' first | exact trivial | refine ⟨rfl, ?_⟩ | refine ⟨congrArg (fun n => AV.lit (.int .i64 n)) (by omega), ?_⟩ | refine ⟨congrArg (fun l => some (Row.row 1 l)) (by simp [int1, num, tru]), ?_⟩)⟩
  refine run_unfold 0 0 rfl rfl ?_
  refine go 1000 Try.func31 ?_
  repeat' first | refine Len.map ?_ | refine Len.nil ?_ | refine Len.cons ?_ | refine Br.t rfl ?_ | refine Br.f rfl ?_ | refine Fit.au ?_ | refine Cv.au ?_ | refine Need.ne ?_ | refine Need.au ?_ | refine Pick.map (by assumption) ?_ | refine Pick.mapI (by omega) (by assumption) ?_ | refine PickN.mk _ (by assumption) ?_ | refine PickN.mk _ rfl ?_ | refine PickN.au ?_ | refine App.au rfl ?_ | refine App.au (own_map (fun _ => rfl) _) ?_ | refine Both.mk ?_ ?_ | exact True.intro
  refine Look.stop (Stop.mk ?_)
  refine run_inlC rfl want_none rfl rfl rfl rfl rfl rfl rfl (goI 1000 Try.func50 ?_)
  repeat' first | refine Len.map ?_ | refine Len.nil ?_ | refine Len.cons ?_ | refine Br.t rfl ?_ | refine Br.f rfl ?_ | refine Fit.au ?_ | refine Cv.au ?_ | refine Need.ne ?_ | refine Need.au ?_ | refine Pick.map (by assumption) ?_ | refine Pick.mapI (by omega) (by assumption) ?_ | refine PickN.mk _ (by assumption) ?_ | refine PickN.mk _ rfl ?_ | refine PickN.au ?_ | refine App.au rfl ?_ | refine App.au (own_map (fun _ => rfl) _) ?_ | refine Both.mk ?_ ?_ | exact True.intro
  refine Stop.mk (loop_in (g := []) (fun p : Nat × Int => [(0, .hw 1), (2, num p.1), (3, num p.2)]) (fun p => [(1, .row 1 ((swp w p.1).map int1)), (0, .var [.hw 1])]) 2 (fun p => p.2 = (w.length : Int) - 1 - p.1 ∧ (p.1 : Int) ≤ p.2 + 1) (fun p => w.length - p.1) (0, (w.length : Int) - 1) ⟨by simp only; omega, by simp only; omega⟩ ?_ (fun p hp ih => ?_))
  · dsimp only
    rw [swp_zero]
    exact ⟨rfl, (by repeat' first | exact trivial | refine ⟨rfl, ?_⟩ | refine ⟨congrArg (fun n => AV.lit (.int .i64 n)) (by omega), ?_⟩ | refine ⟨congrArg (fun l => some (Row.row 1 l)) (by simp [int1, num, tru]), ?_⟩), (by repeat' first | exact trivial | refine ⟨rfl, ?_⟩ | refine ⟨congrArg (fun n => AV.lit (.int .i64 n)) (by omega), ?_⟩ | refine ⟨congrArg (fun l => some (Row.row 1 l)) (by simp [int1, num, tru]), ?_⟩)⟩
  obtain ⟨i, e⟩ := p
  obtain ⟨he, hie⟩ := hp
  dsimp only at he hie ih ⊢
  have hsw := swp_len w i
  refine goI 1000 Try.func50 ?_
  repeat' first | refine Len.map ?_ | refine Len.nil ?_ | refine Len.cons ?_ | refine Br.t rfl ?_ | refine Br.f rfl ?_ | refine Fit.au ?_ | refine Cv.au ?_ | refine Need.ne ?_ | refine Need.au ?_ | refine Pick.map (by assumption) ?_ | refine Pick.mapI (by omega) (by assumption) ?_ | refine PickN.mk _ (by assumption) ?_ | refine PickN.mk _ rfl ?_ | refine PickN.au ?_ | refine App.au rfl ?_ | refine App.au (own_map (fun _ => rfl) _) ?_ | refine Both.mk ?_ ?_ | exact True.intro
  refine Br.d (fun h2 => ?_) (fun h2 => ?_)
  · obtain ⟨j, rfl⟩ : ∃ j : Nat, e = (j : Int) := ⟨e.toNat, by omega⟩
    obtain ⟨a, ga, -⟩ := getK (l := swp w i) (k := i) (by omega)
    obtain ⟨b, gb, -⟩ := getK (l := swp w i) (k := j) (by omega)
    have hj : j = w.length - 1 - i := by omega
    have hnx := swp_succ (l := w) (i := i) (by omega) ga (by rw [← hj]; exact gb)
    rw [← hj] at hnx
    have gb2 : (((swp w i).map int1).set i (int1 b))[j]? = some (int1 b) := by rw [List.getElem?_set, if_neg (by omega), List.getElem?_map, gb]; rfl
    repeat' first | refine Draw.mk (ordL [13, 15] [0, 1, 2, 3, 4, 5, 6, 7, 8, 9, 10, 11, 12, 13, 14, 15]) (by decide +kernel) ?_ | refine PickN.map ga ?_ | refine PickN.map gb ?_ | refine PickN.mk _ gb2 ?_ | refine Len.map ?_ | refine Len.nil ?_ | refine Len.cons ?_ | refine Br.t rfl ?_ | refine Br.f rfl ?_ | refine Fit.au ?_ | refine Cv.au ?_ | refine Need.ne ?_ | refine Need.au ?_ | refine Pick.map (by assumption) ?_ | refine Pick.mapI (by omega) (by assumption) ?_ | refine PickN.mk _ (by assumption) ?_ | refine PickN.mk _ rfl ?_ | refine PickN.au ?_ | refine App.au rfl ?_ | refine App.au (own_map (fun _ => rfl) _) ?_ | refine Both.mk ?_ ?_ | exact True.intro
    refine Stop.mk (ih (i + 1, (j : Int) - 1) (g := []) _ _ _ ⟨by simp only; omega, by simp only; omega⟩ (by simp only; omega) ?_)
    dsimp only
    rw [← hnx, List.map_set, List.map_set]
    exact ⟨rfl, (by repeat' first | exact trivial | refine ⟨rfl, ?_⟩ | refine ⟨congrArg (fun n => AV.lit (.int .i64 n)) (by omega), ?_⟩ | refine ⟨congrArg (fun l => some (Row.row 1 l)) (by simp [int1, num, tru]), ?_⟩), (by repeat' first | exact trivial | refine ⟨rfl, ?_⟩ | refine ⟨congrArg (fun n => AV.lit (.int .i64 n)) (by omega), ?_⟩ | refine ⟨congrArg (fun l => some (Row.row 1 l)) (by simp [int1, num, tru]), ?_⟩)⟩
  · repeat' first | refine Len.map ?_ | refine Len.nil ?_ | refine Len.cons ?_ | refine Br.t rfl ?_ | refine Br.f rfl ?_ | refine Fit.au ?_ | refine Cv.au ?_ | refine Need.ne ?_ | refine Need.au ?_ | refine Pick.map (by assumption) ?_ | refine Pick.mapI (by omega) (by assumption) ?_ | refine PickN.mk _ (by assumption) ?_ | refine PickN.mk _ rfl ?_ | refine PickN.au ?_ | refine App.au rfl ?_ | refine App.au (own_map (fun _ => rfl) _) ?_ | refine Both.mk ?_ ?_ | exact True.intro
    refine go 1000 Try.func31 ?_
    repeat' first | refine Len.map ?_ | refine Len.nil ?_ | refine Len.cons ?_ | refine Br.t rfl ?_ | refine Br.f rfl ?_ | refine Fit.au ?_ | refine Cv.au ?_ | refine Need.ne ?_ | refine Need.au ?_ | refine Pick.map (by assumption) ?_ | refine Pick.mapI (by omega) (by assumption) ?_ | refine PickN.mk _ (by assumption) ?_ | refine PickN.mk _ rfl ?_ | refine PickN.au ?_ | refine App.au rfl ?_ | refine App.au (own_map (fun _ => rfl) _) ?_ | refine Both.mk ?_ ?_ | exact True.intro
    refine ⟨swp w i, rfl, by rw [hsw]; omega, ?_⟩
    rw [swp_end (by omega)]
    exact how
end Go.Proofs.Ytjjijklonnhdeaa

/- The last one that stands above two, by a contract. -/
namespace Go.Proofs.Ytjjijklonnhdeaa
open Go.Ax
set_option maxRecDepth 10000
set_option linter.unusedVariables false

/-- Chains go up by places. -/
structure Tame (pl : Nat → Nat) (l pls : List Int) (dn : Nat → Prop) : Prop where
  up : ∀ x, x ≠ 0 → dn x → dn (par l x) ∧ pl (par l x) < pl x ∧ l[x]? = some (par l x : Int)
  at_ : ∀ x, dn x → pls[x]? = some (pl x : Int)
  inj : ∀ x y, dn x → dn y → pl x = pl y → x = y
  zero : pl 0 = 0
theorem Tame.anc {pl : Nat → Nat} {l pls : List Int} {dn : Nat → Prop} (h : Tame pl l pls dn) {a x : Nat} (ha : Anc l a x) (hx : dn x) : pl a ≤ pl x := by
  induction ha with
  | self => exact Nat.le_refl _
  | up hne _ ih =>
    obtain ⟨h1, h2, -⟩ := h.up _ hne hx
    have := ih h1
    omega
theorem Tame.climb {pl : Nat → Nat} {l pls : List Int} {dn : Nat → Prop} (h : Tame pl l pls dn) {a b x : Nat} (hb : dn b) (ha0 : a ≠ 0) (hl : pl b < pl a) : (Anc l x (par l a) ∧ Anc l x b) ↔ (Anc l x a ∧ Anc l x b) := by
  constructor
  · rintro ⟨h1, h2⟩; exact ⟨.up ha0 h1, h2⟩
  · rintro ⟨h1, h2⟩
    refine ⟨(h1.more fun e => ?_).2, h2⟩
    subst e
    have := h.anc h2 hb
    omega
theorem meet94_spec (pl : Nat → Nat) (l pls : List Int) (dn : Nat → Prop) (h : Tame pl l pls dn) (a b : Nat) (ha : dn a) (hb : dn b) : FnSpec Try.prog 32 [ints l, ints pls, num a, num b] (fun r => ∃ N : Nat, r = num N ∧ dn N ∧ ∀ x, Anc l x N ↔ Anc l x a ∧ Anc l x b) := by
  refine spec_of 1000 Try.func32 rfl rfl ?_
  repeat' first | refine Len.map ?_ | refine Len.nil ?_ | refine Len.cons ?_ | refine Br.t rfl ?_ | refine Br.f rfl ?_ | refine Fit.au ?_ | refine Cv.au ?_ | refine Need.ne ?_ | refine Need.au ?_ | refine Pick.map (by assumption) ?_ | refine Pick.mapI (by omega) (by assumption) ?_ | refine PickN.mk _ (by assumption) ?_ | refine PickN.mk _ rfl ?_ | refine PickN.au ?_ | refine App.au rfl ?_ | refine App.au (own_map (fun _ => rfl) _) ?_ | refine Both.mk ?_ ?_ | exact True.intro
  refine Stop.mk (loop_in (g := []) (fun p : Nat × Nat => [(0, ints l), (1, ints pls), (2, num p.1), (3, num p.2)]) (fun p => []) 0 (fun p => dn p.1 ∧ dn p.2 ∧ ∀ x, (Anc l x p.1 ∧ Anc l x p.2) ↔ (Anc l x a ∧ Anc l x b)) (fun p => pl p.1 + pl p.2) (a, b) ⟨ha, hb, fun x => .rfl⟩ ⟨rfl, (by repeat' first | exact trivial | refine ⟨rfl, ?_⟩ | refine ⟨congrArg (fun n => AV.lit (.int .i64 n)) (by omega), ?_⟩ | refine ⟨congrArg (fun l => some (Row.row 1 l)) (by simp [int1, num, tru]), ?_⟩), (by repeat' first | exact trivial | refine ⟨rfl, ?_⟩ | refine ⟨congrArg (fun n => AV.lit (.int .i64 n)) (by omega), ?_⟩ | refine ⟨congrArg (fun l => some (Row.row 1 l)) (by simp [int1, num, tru]), ?_⟩)⟩ (fun p hp ih => ?_))
  obtain ⟨c, d⟩ := p
  obtain ⟨hc, hd, hiff⟩ := hp
  dsimp only at hc hd hiff ih ⊢
  have gc := h.at_ c hc
  have gd := h.at_ d hd
  refine go 1000 Try.func32 ?_
  repeat' first | refine Len.map ?_ | refine Len.nil ?_ | refine Len.cons ?_ | refine Br.t rfl ?_ | refine Br.f rfl ?_ | refine Fit.au ?_ | refine Cv.au ?_ | refine Need.ne ?_ | refine Need.au ?_ | refine Pick.map (by assumption) ?_ | refine Pick.mapI (by omega) (by assumption) ?_ | refine PickN.mk _ (by assumption) ?_ | refine PickN.mk _ rfl ?_ | refine PickN.au ?_ | refine App.au rfl ?_ | refine App.au (own_map (fun _ => rfl) _) ?_ | refine Both.mk ?_ ?_ | exact True.intro
  refine Br.nd (fun h2 => ?_) (fun h2 => ?_)
  · have hne : c ≠ d := fun e => h2 (by rw [e])
    repeat' first | refine Draw.mk (ordL [] [0, 1, 2, 3, 4, 5, 6, 7, 8]) (by decide +kernel) ?_ | refine Pick.map gc ?_ | refine Pick.map gd ?_ | refine Len.map ?_ | refine Len.nil ?_ | refine Len.cons ?_ | refine Br.t rfl ?_ | refine Br.f rfl ?_ | refine Fit.au ?_ | refine Cv.au ?_ | refine Need.ne ?_ | refine Need.au ?_ | refine Pick.map (by assumption) ?_ | refine Pick.mapI (by omega) (by assumption) ?_ | refine PickN.mk _ (by assumption) ?_ | refine PickN.mk _ rfl ?_ | refine PickN.au ?_ | refine App.au rfl ?_ | refine App.au (own_map (fun _ => rfl) _) ?_ | refine Both.mk ?_ ?_ | exact True.intro
    refine Br.d (fun h3 => ?_) (fun h3 => ?_)
    · have hc0 : c ≠ 0 := fun e => by subst e; have := h.zero; omega
      obtain ⟨u1, u2, u3⟩ := h.up c hc0 hc
      repeat' first | refine Pick.map u3 ?_ | refine Len.map ?_ | refine Len.nil ?_ | refine Len.cons ?_ | refine Br.t rfl ?_ | refine Br.f rfl ?_ | refine Fit.au ?_ | refine Cv.au ?_ | refine Need.ne ?_ | refine Need.au ?_ | refine Pick.map (by assumption) ?_ | refine Pick.mapI (by omega) (by assumption) ?_ | refine PickN.mk _ (by assumption) ?_ | refine PickN.mk _ rfl ?_ | refine PickN.au ?_ | refine App.au rfl ?_ | refine App.au (own_map (fun _ => rfl) _) ?_ | refine Both.mk ?_ ?_ | exact True.intro
      exact Stop.mk (ih (par l c, d) (g := []) _ _ _ ⟨u1, hd, fun x => (h.climb hd hc0 (by omega)).trans (hiff x)⟩ (by simp only; omega) ⟨rfl, (by repeat' first | exact trivial | refine ⟨rfl, ?_⟩ | refine ⟨congrArg (fun n => AV.lit (.int .i64 n)) (by omega), ?_⟩ | refine ⟨congrArg (fun l => some (Row.row 1 l)) (by simp [int1, num, tru]), ?_⟩), (by repeat' first | exact trivial | refine ⟨rfl, ?_⟩ | refine ⟨congrArg (fun n => AV.lit (.int .i64 n)) (by omega), ?_⟩ | refine ⟨congrArg (fun l => some (Row.row 1 l)) (by simp [int1, num, tru]), ?_⟩)⟩)
    · have hlt : pl c < pl d := by
        have : pl c ≠ pl d := fun e => hne (h.inj c d hc hd e)
        omega
      have hd0 : d ≠ 0 := fun e => by subst e; have := h.zero; omega
      obtain ⟨u1, u2, u3⟩ := h.up d hd0 hd
      repeat' first | refine Pick.map u3 ?_ | refine Len.map ?_ | refine Len.nil ?_ | refine Len.cons ?_ | refine Br.t rfl ?_ | refine Br.f rfl ?_ | refine Fit.au ?_ | refine Cv.au ?_ | refine Need.ne ?_ | refine Need.au ?_ | refine Pick.map (by assumption) ?_ | refine Pick.mapI (by omega) (by assumption) ?_ | refine PickN.mk _ (by assumption) ?_ | refine PickN.mk _ rfl ?_ | refine PickN.au ?_ | refine App.au rfl ?_ | refine App.au (own_map (fun _ => rfl) _) ?_ | refine Both.mk ?_ ?_ | exact True.intro
      exact Stop.mk (ih (c, par l d) (g := []) _ _ _ ⟨hc, u1, fun x => (and_comm.trans ((h.climb hc hd0 hlt).trans and_comm)).trans (hiff x)⟩ (by simp only; omega) ⟨rfl, (by repeat' first | exact trivial | refine ⟨rfl, ?_⟩ | refine ⟨congrArg (fun n => AV.lit (.int .i64 n)) (by omega), ?_⟩ | refine ⟨congrArg (fun l => some (Row.row 1 l)) (by simp [int1, num, tru]), ?_⟩), (by repeat' first | exact trivial | refine ⟨rfl, ?_⟩ | refine ⟨congrArg (fun n => AV.lit (.int .i64 n)) (by omega), ?_⟩ | refine ⟨congrArg (fun l => some (Row.row 1 l)) (by simp [int1, num, tru]), ?_⟩)⟩)
  · have hcd : c = d := by omega
    subst hcd
    repeat' first | refine Len.map ?_ | refine Len.nil ?_ | refine Len.cons ?_ | refine Br.t rfl ?_ | refine Br.f rfl ?_ | refine Fit.au ?_ | refine Cv.au ?_ | refine Need.ne ?_ | refine Need.au ?_ | refine Pick.map (by assumption) ?_ | refine Pick.mapI (by omega) (by assumption) ?_ | refine PickN.mk _ (by assumption) ?_ | refine PickN.mk _ rfl ?_ | refine PickN.au ?_ | refine App.au rfl ?_ | refine App.au (own_map (fun _ => rfl) _) ?_ | refine Both.mk ?_ ?_ | exact True.intro
    exact ⟨c, rfl, hc, fun x => ⟨fun h3 => (hiff x).1 ⟨h3, h3⟩, fun h3 => ((hiff x).2 h3).1⟩⟩
end Go.Proofs.Ytjjijklonnhdeaa

/- The next dominators, by a contract. -/
namespace Go.Proofs.Ytjjijklonnhdeaa
open Go.Ax
set_option maxRecDepth 10000
set_option linter.unusedVariables false

theorem fzi (l : List Int) : AV.fzLL (l.map int1) = l.map int1 := fzLL_map (enc2 := int1) (fun _ => rfl) l
def iniL (n k : Nat) : List Int := List.replicate k (-1) ++ List.replicate (n - k) 0
theorem iniL_len {n k : Nat} (h : k ≤ n) : (iniL n k).length = n := by unfold iniL; simp; omega
theorem iniL_set {n k : Nat} (h : k < n) : (iniL n k).set k (-1) = iniL n (k + 1) := by
  unfold iniL
  rw [List.set_append_right _ _ (by simp), List.length_replicate, Nat.sub_self, show n - k = (n - (k + 1)) + 1 by omega, List.replicate_succ, List.set_cons_zero, List.replicate_succ', List.append_assoc]; rfl
theorem iniL_zero (n : Nat) : iniL n 0 = List.replicate n 0 := by unfold iniL; simp
theorem iniL_all (n : Nat) : iniL n n = List.replicate n (-1) := by unfold iniL; simp
def plF (n : Nat) (o : List Int) : Nat → List Int
  | 0 => List.replicate n (-1)
  | i + 1 => (plF n o i).set (o.getD i 0).toNat (i : Int)
theorem plF_len (n : Nat) (o : List Int) : ∀ i, (plF n o i).length = n
  | 0 => by simp [plF]
  | i + 1 => by simp only [plF]; rw [List.length_set, plF_len n o i]
theorem plF_at {n : Nat} {o : List Int} (hnd : o.Nodup) (hb : ∀ x ∈ o, 0 ≤ x ∧ x < n) : ∀ {i : Nat}, i ≤ o.length → ∀ {j : Nat} {x : Int}, j < i → o[j]? = some x → (plF n o i)[x.toNat]? = some (j : Int)
  | i + 1, hi, j, x, hj, gx => by
    have gi : o[i]? = some o[i] := List.getElem?_eq_getElem (by omega)
    have hgd : o.getD i 0 = o[i] := by rw [List.getD_eq_getElem?_getD, gi]; rfl
    have h1 := hb _ (List.mem_of_getElem? gi)
    have h2 := hb _ (List.mem_of_getElem? gx)
    simp only [plF]
    rw [hgd, List.getElem?_set, plF_len]
    by_cases e : j = i
    · subst e
      rw [gi] at gx
      have := Option.some.inj gx
      rw [if_pos (by rw [this]), if_pos (by omega)]
    · have hne : o[i] ≠ x := fun e2 => e (by
        have a := List.getElem?_eq_some_iff.1 gx
        exact (List.getElem_inj hnd).1 (a.2.trans e2.symm))
      rw [if_neg (by omega)]
      exact plF_at hnd hb (by omega) (by omega) gx
theorem plF_no {n : Nat} {o : List Int} (hb : ∀ x ∈ o, 0 ≤ x ∧ x < n) : ∀ {i : Nat}, i ≤ o.length → ∀ {x : Nat}, x < n → (x : Int) ∉ o → (plF n o i)[x]? = some (-1)
  | 0, _, x, hx, _ => by simp only [plF]; rw [List.getElem?_replicate, if_pos hx]
  | i + 1, hi, x, hx, hno => by
    have gi : o[i]? = some o[i] := List.getElem?_eq_getElem (by omega)
    have hgd : o.getD i 0 = o[i] := by rw [List.getD_eq_getElem?_getD, gi]; rfl
    have hm := List.mem_of_getElem? gi
    have h1 := hb _ hm
    simp only [plF]
    rw [hgd, List.getElem?_set, if_neg]
    · exact plF_no hb (by omega) hx hno
    · intro e
      apply hno
      rw [← e, show ((o[i].toNat : Nat) : Int) = o[i] by omega]
      exact hm

set_option maxHeartbeats 4000000 in
theorem Tree67_spec (f : Fun) (hf : f.fits) (hn : f.blocks.length ≤ 1000000) : FnSpec Try.prog 23 [funA f] (fun r => ∃ l : List Int, r = .osl 1 (l.map int1) ∧ TreeP (succsF f) l) := by
  have hcl := succsF_closed f
  have hsl := succsF_len f
  have hO := Order93_spec f hf hn
  have hP := Preds68_spec f hf hn
  refine spec_of 6 Try.func23 rfl rfl ?_
  repeat' first | refine Len.map ?_ | refine Len.nil ?_ | refine Len.cons ?_ | refine Br.t rfl ?_ | refine Br.f rfl ?_ | refine Fit.au ?_ | refine Cv.au ?_ | refine Need.ne ?_ | refine Need.au ?_ | refine Pick.map (by assumption) ?_ | refine Pick.mapI (by omega) (by assumption) ?_ | refine PickN.mk _ (by assumption) ?_ | refine PickN.mk _ rfl ?_ | refine PickN.au ?_ | refine App.au rfl ?_ | refine App.au (own_map (fun _ => rfl) _) ?_ | refine Both.mk ?_ ?_ | exact True.intro
  refine Stop.mk ?_
  apply join (fun o : List Int => [(1, .hp 0 0), (3, .hw 1), (4, .hw 2)]) (fun o => [(0, .var f.cs), (1, .row 1 (o.map int1)), (2, .row 1 ((predsF (succsF f)).map olst))]) 3 (fun o => o.length ≤ f.blocks.length ∧ OrdP (succsF f) o)
  · intro jn
    refine go 2 Try.func23 ?_
    repeat' first | refine Draw.mk (ordL [1, 3] [0, 2, 1, 3, 4, 5]) (by decide +kernel) ?_ | refine Draw.mk (.one 0 false (.one 1 false (.one 2 false (.one 4 false (.one 5 false (.one 6 false (.alt 3 (ordL [7] [8, 7, 9]) (.alt 7 (ordL [3] [3, 8, 9]) .no)))))))) (by decide +kernel) ?_ | (refine Call.of hO ?_; rintro r ⟨o, rfl, hol, hop⟩; refine ⟨rfl, ?_⟩) | refine Call.eq hP rfl ?_ | refine Len.map ?_ | refine Len.nil ?_ | refine Len.cons ?_ | refine Br.t rfl ?_ | refine Br.f rfl ?_ | refine Fit.au ?_ | refine Cv.au ?_ | refine Need.ne ?_ | refine Need.au ?_ | refine Pick.map (by assumption) ?_ | refine Pick.mapI (by omega) (by assumption) ?_ | refine PickN.mk _ (by assumption) ?_ | refine PickN.mk _ rfl ?_ | refine PickN.au ?_ | refine App.au rfl ?_ | refine App.au (own_map (fun _ => rfl) _) ?_ | refine Both.mk ?_ ?_ | exact True.intro
    all_goals exact Stop.mk (jn o (g := []) _ _ _ ⟨rfl, (by repeat' first | exact trivial | refine ⟨rfl, ?_⟩ | refine ⟨congrArg (fun n => AV.lit (.int .i64 n)) (by omega), ?_⟩ | refine ⟨congrArg (fun l => some (Row.row 1 l)) (by simp [int1, num, tru]), ?_⟩), (by repeat' first | exact trivial | refine ⟨rfl, ?_⟩ | refine ⟨congrArg (fun n => AV.lit (.int .i64 n)) (by omega), ?_⟩ | refine ⟨congrArg (fun l => some (Row.row 1 l)) (by simp [int1, num, tru]), ?_⟩)⟩ ⟨hol, hop⟩)
  rintro o ⟨hol, hop⟩
  refine run_frzR 1 rfl (fzi _) ?_
  refine run_frzR 2 rfl (fzLL_map fz_olsts _) ?_
  refine Run.fr (g := []) (tm' := [(1, .hp 0 0), (3, ints o), (4, lsts (predsF (succsF f)))]) (hp' := [(0, .var f.cs)]) (nx' := 1) ?_ ⟨rfl, (by repeat' first | exact trivial | refine ⟨rfl, ?_⟩ | refine ⟨congrArg (fun n => AV.lit (.int .i64 n)) (by omega), ?_⟩ | refine ⟨congrArg (fun l => some (Row.row 1 l)) (by simp [int1, num, tru]), ?_⟩), (by repeat' first | exact trivial | refine ⟨rfl, ?_⟩ | refine ⟨congrArg (fun n => AV.lit (.int .i64 n)) (by omega), ?_⟩ | refine ⟨congrArg (fun l => some (Row.row 1 l)) (by simp [int1, num, tru]), ?_⟩)⟩
  apply join (fun _ : Unit => [(1, .hp 0 0), (3, ints o), (4, lsts (predsF (succsF f))), (5, .hw 1), (6, .hw 2)]) (fun _ => [(0, .var f.cs), (1, .row 1 ((List.replicate f.blocks.length (0 : Int)).map int1)), (2, .row 1 ((List.replicate f.blocks.length (0 : Int)).map int1))]) 3 (fun _ => True)
  · intro jn
    rw [List.map_replicate] at jn
    refine go 2 Try.func23 ?_
    repeat' first | refine Draw.mk (ordL [1, 3] [0, 2, 1, 3, 4, 5]) (by decide +kernel) ?_ | refine Draw.mk (.one 0 false (.one 1 false (.one 2 false (.one 4 false (.one 5 false (.one 6 false (.alt 3 (ordL [7] [8, 7, 9]) (.alt 7 (ordL [3] [3, 8, 9]) .no)))))))) (by decide +kernel) ?_ | refine MkS.mk _ rfl rfl (by omega) (by omega) ?_ | refine Len.map ?_ | refine Len.nil ?_ | refine Len.cons ?_ | refine Br.t rfl ?_ | refine Br.f rfl ?_ | refine Fit.au ?_ | refine Cv.au ?_ | refine Need.ne ?_ | refine Need.au ?_ | refine Pick.map (by assumption) ?_ | refine Pick.mapI (by omega) (by assumption) ?_ | refine PickN.mk _ (by assumption) ?_ | refine PickN.mk _ rfl ?_ | refine PickN.au ?_ | refine App.au rfl ?_ | refine App.au (own_map (fun _ => rfl) _) ?_ | refine Both.mk ?_ ?_ | exact True.intro
    all_goals (refine Stop.mk ?_; first | (refine jn () (g := []) _ _ _ ⟨rfl, ?_, ?_⟩ trivial; all_goals (repeat' first | exact trivial | refine ⟨rfl, ?_⟩); done) | (refine jn () (g := [(1, 2), (2, 1)]) _ _ _ ⟨rfl, ?_, ?_⟩ trivial; all_goals (repeat' first | exact trivial | refine ⟨rfl, ?_⟩); done))
  intro _ _
  have hs' := hsl
  have hpl := predsF_len (succsF f)
  have hpg : ∀ c : Nat, c < (succsF f).length → (predsF (succsF f))[c]? = some (predOf (succsF f) c (succsF f).length) := fun c hc => by
    unfold predsF
    rw [List.getElem?_map, List.getElem?_range hc]; rfl
  have hpol := fun c : Nat => predOf_len (succsF f) c (succsF f).length
  have hob : ∀ x ∈ o, 0 ≤ x ∧ x < f.blocks.length := fun x hx => by
    have := (hop.mem x).1 hx
    have h2 := Rc_lt hcl (x := x.toNat) (by unfold Rc; rw [show ((x.toNat : Nat) : Int) = x by omega]; exact this.2)
    omega
  generalize succsF f = s at *
  generalize predsF s = P at *
  generalize f.blocks.length = n at *
  rw [← iniL_zero]
  have hz := iniL_len (n := n) (k := 0) (by omega)
  refine go 1000 Try.func23 ?_
  repeat' first | refine Len.map ?_ | refine Len.nil ?_ | refine Len.cons ?_ | refine Br.t rfl ?_ | refine Br.f rfl ?_ | refine Fit.au ?_ | refine Cv.au ?_ | refine Need.ne ?_ | refine Need.au ?_ | refine Pick.map (by assumption) ?_ | refine Pick.mapI (by omega) (by assumption) ?_ | refine PickN.mk _ (by assumption) ?_ | refine PickN.mk _ rfl ?_ | refine PickN.au ?_ | refine App.au rfl ?_ | refine App.au (own_map (fun _ => rfl) _) ?_ | refine Both.mk ?_ ?_ | exact True.intro
  refine Stop.mk (loop_in (g := []) (fun k : Nat => [(1, .hp 0 0), (3, ints o), (4, lsts P), (5, .hw 1), (6, .hw 2), (30, num (iniL n 0).length), (31, num k)]) (fun k => [(0, .var f.cs), (1, .row 1 ((iniL n k).map int1)), (2, .row 1 ((iniL n k).map int1))]) 3 (fun k => k ≤ n) (fun k => n - k) 0 (by omega) ⟨rfl, (by repeat' first | exact trivial | refine ⟨rfl, ?_⟩ | refine ⟨congrArg (fun n => AV.lit (.int .i64 n)) (by omega), ?_⟩ | refine ⟨congrArg (fun l => some (Row.row 1 l)) (by simp [int1, num, tru]), ?_⟩), (by repeat' first | exact trivial | refine ⟨rfl, ?_⟩ | refine ⟨congrArg (fun n => AV.lit (.int .i64 n)) (by omega), ?_⟩ | refine ⟨congrArg (fun l => some (Row.row 1 l)) (by simp [int1, num, tru]), ?_⟩)⟩ (fun k hk ih => ?_))
  have hil := iniL_len hk
  refine go 1000 Try.func23 ?_
  repeat' first | refine Len.map ?_ | refine Len.nil ?_ | refine Len.cons ?_ | refine Br.t rfl ?_ | refine Br.f rfl ?_ | refine Fit.au ?_ | refine Cv.au ?_ | refine Need.ne ?_ | refine Need.au ?_ | refine Pick.map (by assumption) ?_ | refine Pick.mapI (by omega) (by assumption) ?_ | refine PickN.mk _ (by assumption) ?_ | refine PickN.mk _ rfl ?_ | refine PickN.au ?_ | refine App.au rfl ?_ | refine App.au (own_map (fun _ => rfl) _) ?_ | refine Both.mk ?_ ?_ | exact True.intro
  refine Br.d (fun h2 => ?_) (fun h2 => ?_)
  · have hset := iniL_set (n := n) (k := k) (by omega)
    obtain ⟨v, gv, -⟩ := getK (l := iniL n k) (k := k) (by omega)
    repeat' first | refine PickN.map gv ?_ | refine Len.map ?_ | refine Len.nil ?_ | refine Len.cons ?_ | refine Br.t rfl ?_ | refine Br.f rfl ?_ | refine Fit.au ?_ | refine Cv.au ?_ | refine Need.ne ?_ | refine Need.au ?_ | refine Pick.map (by assumption) ?_ | refine Pick.mapI (by omega) (by assumption) ?_ | refine PickN.mk _ (by assumption) ?_ | refine PickN.mk _ rfl ?_ | refine PickN.au ?_ | refine App.au rfl ?_ | refine App.au (own_map (fun _ => rfl) _) ?_ | refine Both.mk ?_ ?_ | exact True.intro
    refine Stop.mk (ih (k + 1) (g := []) _ _ _ (by omega) (by omega) ?_)
    rw [← hset, List.map_set]
    exact ⟨rfl, (by repeat' first | exact trivial | refine ⟨rfl, ?_⟩ | refine ⟨congrArg (fun n => AV.lit (.int .i64 n)) (by omega), ?_⟩ | refine ⟨congrArg (fun l => some (Row.row 1 l)) (by simp [int1, num, tru]), ?_⟩), (by repeat' first | exact trivial | refine ⟨rfl, ?_⟩ | refine ⟨congrArg (fun n => AV.lit (.int .i64 n)) (by omega), ?_⟩ | refine ⟨congrArg (fun l => some (Row.row 1 l)) (by simp [int1, num, tru]), ?_⟩)⟩
  obtain rfl : k = n := by omega
  rw [iniL_all]
  clear ih hz hil h2
  repeat' first | refine Len.map ?_ | refine Len.nil ?_ | refine Len.cons ?_ | refine Br.t rfl ?_ | refine Br.f rfl ?_ | refine Fit.au ?_ | refine Cv.au ?_ | refine Need.ne ?_ | refine Need.au ?_ | refine Pick.map (by assumption) ?_ | refine Pick.mapI (by omega) (by assumption) ?_ | refine PickN.mk _ (by assumption) ?_ | refine PickN.mk _ rfl ?_ | refine PickN.au ?_ | refine App.au rfl ?_ | refine App.au (own_map (fun _ => rfl) _) ?_ | refine Both.mk ?_ ?_ | exact True.intro
  refine Stop.mk (loop_in (g := []) (fun i : Nat => [(1, .hp 0 0), (3, ints o), (4, lsts P), (5, .hw 1), (6, .hw 2), (41, ints o), (42, num o.length), (43, num i)]) (fun i => [(0, .var f.cs), (1, .row 1 ((List.replicate k (-1 : Int)).map int1)), (2, .row 1 ((plF k o i).map int1))]) 3 (fun i => i ≤ o.length) (fun i => o.length - i) 0 (by omega) ⟨rfl, (by repeat' first | exact trivial | refine ⟨rfl, ?_⟩ | refine ⟨congrArg (fun n => AV.lit (.int .i64 n)) (by omega), ?_⟩ | refine ⟨congrArg (fun l => some (Row.row 1 l)) (by simp [int1, num, tru]), ?_⟩), (by repeat' first | exact trivial | refine ⟨rfl, ?_⟩ | refine ⟨congrArg (fun n => AV.lit (.int .i64 n)) (by omega), ?_⟩ | refine ⟨congrArg (fun l => some (Row.row 1 l)) (by simp [int1, num, tru]), ?_⟩)⟩ (fun i hi ih => ?_))
  have hil := plF_len k o i
  refine go 1000 Try.func23 ?_
  repeat' first | refine Len.map ?_ | refine Len.nil ?_ | refine Len.cons ?_ | refine Br.t rfl ?_ | refine Br.f rfl ?_ | refine Fit.au ?_ | refine Cv.au ?_ | refine Need.ne ?_ | refine Need.au ?_ | refine Pick.map (by assumption) ?_ | refine Pick.mapI (by omega) (by assumption) ?_ | refine PickN.mk _ (by assumption) ?_ | refine PickN.mk _ rfl ?_ | refine PickN.au ?_ | refine App.au rfl ?_ | refine App.au (own_map (fun _ => rfl) _) ?_ | refine Both.mk ?_ ?_ | exact True.intro
  refine Br.d (fun h2 => ?_) (fun h2 => ?_)
  · obtain ⟨x, gx, gxm⟩ := getK (l := o) (k := i) (by omega)
    have hx := hob x gxm
    obtain ⟨c, rfl⟩ : ∃ c : Nat, x = (c : Int) := ⟨x.toNat, by omega⟩
    obtain ⟨v, gv, -⟩ := getK (l := plF k o i) (k := c) (by omega)
    have hset : plF k o (i + 1) = (plF k o i).set c (i : Int) := by
      show (plF k o i).set (o.getD i 0).toNat (i : Int) = _
      rw [List.getD_eq_getElem?_getD, gx]; rfl
    repeat' first | refine Pick.map gx ?_ | refine PickN.map gv ?_ | refine Len.map ?_ | refine Len.nil ?_ | refine Len.cons ?_ | refine Br.t rfl ?_ | refine Br.f rfl ?_ | refine Fit.au ?_ | refine Cv.au ?_ | refine Need.ne ?_ | refine Need.au ?_ | refine Pick.map (by assumption) ?_ | refine Pick.mapI (by omega) (by assumption) ?_ | refine PickN.mk _ (by assumption) ?_ | refine PickN.mk _ rfl ?_ | refine PickN.au ?_ | refine App.au rfl ?_ | refine App.au (own_map (fun _ => rfl) _) ?_ | refine Both.mk ?_ ?_ | exact True.intro
    refine Stop.mk (ih (i + 1) (g := []) _ _ _ (by omega) (by omega) ?_)
    rw [hset, List.map_set]
    exact ⟨rfl, (by repeat' first | exact trivial | refine ⟨rfl, ?_⟩ | refine ⟨congrArg (fun n => AV.lit (.int .i64 n)) (by omega), ?_⟩ | refine ⟨congrArg (fun l => some (Row.row 1 l)) (by simp [int1, num, tru]), ?_⟩), (by repeat' first | exact trivial | refine ⟨rfl, ?_⟩ | refine ⟨congrArg (fun n => AV.lit (.int .i64 n)) (by omega), ?_⟩ | refine ⟨congrArg (fun l => some (Row.row 1 l)) (by simp [int1, num, tru]), ?_⟩)⟩
  obtain rfl : i = o.length := by omega
  have hat : ∀ {j : Nat} {x : Int}, o[j]? = some x → (plF k o o.length)[x.toNat]? = some (j : Int) := fun {j x} gx => plF_at hop.nodup hob (Nat.le_refl _) (List.getElem?_eq_some_iff.1 gx).1 gx
  have hno : ∀ {x : Nat}, x < k → (x : Int) ∉ o → (plF k o o.length)[x]? = some (-1) := fun hx hm => plF_no hob (Nat.le_refl _) hx hm
  generalize plF k o o.length = pls at *
  clear ih h2
  repeat' first | refine MkS.mk k (by simp) (by simp) (by omega) (by omega) ?_ | refine Len.map ?_ | refine Len.nil ?_ | refine Len.cons ?_ | refine Br.t rfl ?_ | refine Br.f rfl ?_ | refine Fit.au ?_ | refine Cv.au ?_ | refine Need.ne ?_ | refine Need.au ?_ | refine Pick.map (by assumption) ?_ | refine Pick.mapI (by omega) (by assumption) ?_ | refine PickN.mk _ (by assumption) ?_ | refine PickN.mk _ rfl ?_ | refine PickN.au ?_ | refine App.au rfl ?_ | refine App.au (own_map (fun _ => rfl) _) ?_ | refine Both.mk ?_ ?_ | exact True.intro
  refine Stop.mk (run_frzR 2 rfl (fzi _) ?_)
  refine Run.fr (g := [(2, 3)]) (tm' := [(3, ints o), (4, lsts P), (5, .hw 1), (6, ints pls), (10, .hw 2)]) (hp' := [(1, .row 1 ((List.replicate k (-1 : Int)).map int1)), (2, .row 1 ((List.replicate k false).map tb))]) (nx' := 3) ?_ ?_
  rotate_left
  · rw [List.map_replicate (f := tb)]; exact ⟨rfl, (by repeat' first | exact trivial | refine ⟨rfl, ?_⟩ | refine ⟨congrArg (fun n => AV.lit (.int .i64 n)) (by omega), ?_⟩ | refine ⟨congrArg (fun l => some (Row.row 1 l)) (by simp [int1, num, tru]), ?_⟩), (by repeat' first | exact trivial | refine ⟨rfl, ?_⟩ | refine ⟨congrArg (fun n => AV.lit (.int .i64 n)) (by omega), ?_⟩ | refine ⟨congrArg (fun l => some (Row.row 1 l)) (by simp [int1, num, tru]), ?_⟩)⟩
  obtain ⟨pl, hpl1⟩ : ∃ pl : Nat → Nat, pl = fun x => (pls.getD x 0).toNat := ⟨_, rfl⟩
  have hplR : ∀ x, Rc s x → o[pl x]? = some (x : Int) ∧ pls[x]? = some (pl x : Int) := fun x hx => by
    obtain ⟨j, gj⟩ := List.getElem?_of_mem ((hop.mem x).2 ⟨by omega, hx⟩)
    have h1 : pls[x]? = some (j : Int) := hat gj
    have h2 : pl x = j := by rw [hpl1]; show (pls.getD x 0).toNat = j; rw [List.getD_eq_getElem?_getD, h1]; rfl
    rw [h2]; exact ⟨gj, h1⟩
  have O : s ≠ [] → Rpo s pl o.length := fun h0 => hop.rpo h0 fun x hx => (hplR x hx).1
  refine loop_in (g := []) (fun p : List Int × List Bool => [(3, ints o), (4, lsts P), (5, .hw 1), (6, ints pls), (10, .hw 2)]) (fun p => [(1, .row 1 (p.1.map int1)), (2, .row 1 (p.2.map tb))]) 3 (fun p => p.1.length = k ∧ p.2.length = k ∧ (s ≠ [] → Hd s pl p.1 (p.2.set 0 true))) (fun p => mu pl o.length s.length p.1 (p.2.set 0 true)) (List.replicate k (-1), List.replicate k false) ⟨by simp, by simp, fun h0 => by simp only; rw [← hs']; exact .start (O h0) h0⟩ ⟨rfl, (by repeat' first | exact trivial | refine ⟨rfl, ?_⟩ | refine ⟨congrArg (fun n => AV.lit (.int .i64 n)) (by omega), ?_⟩ | refine ⟨congrArg (fun l => some (Row.row 1 l)) (by simp [int1, num, tru]), ?_⟩), (by repeat' first | exact trivial | refine ⟨rfl, ?_⟩ | refine ⟨congrArg (fun n => AV.lit (.int .i64 n)) (by omega), ?_⟩ | refine ⟨congrArg (fun l => some (Row.row 1 l)) (by simp [int1, num, tru]), ?_⟩)⟩ (fun p hp ih => ?_)
  obtain ⟨l0, dsz⟩ := p
  obtain ⟨hl0, hdz, hHd⟩ := hp
  dsimp only at hl0 hdz hHd ih ⊢
  refine go 1000 Try.func23 ?_
  repeat' first | refine Len.map ?_ | refine Len.nil ?_ | refine Len.cons ?_ | refine Br.t rfl ?_ | refine Br.f rfl ?_ | refine Fit.au ?_ | refine Cv.au ?_ | refine Need.ne ?_ | refine Need.au ?_ | refine Pick.map (by assumption) ?_ | refine Pick.mapI (by omega) (by assumption) ?_ | refine PickN.mk _ (by assumption) ?_ | refine PickN.mk _ rfl ?_ | refine PickN.au ?_ | refine App.au rfl ?_ | refine App.au (own_map (fun _ => rfl) _) ?_ | refine Both.mk ?_ ?_ | exact True.intro
  refine Br.d (fun h2 => ?_) (fun h2 => ?_)
  rotate_left
  · have ho : o = [] := List.eq_nil_of_length_eq_zero (by omega)
    have h0 : s = [] := Classical.byContradiction fun h0 => by
      have := hop.zero h0
      rw [ho] at this; cases this
    subst h0
    have hk0 : k = 0 := by rw [← hs']; rfl
    repeat' first | refine Len.map ?_ | refine Len.nil ?_ | refine Len.cons ?_ | refine Br.t rfl ?_ | refine Br.f rfl ?_ | refine Fit.au ?_ | refine Cv.au ?_ | refine Need.ne ?_ | refine Need.au ?_ | refine Pick.map (by assumption) ?_ | refine Pick.mapI (by omega) (by assumption) ?_ | refine PickN.mk _ (by assumption) ?_ | refine PickN.mk _ rfl ?_ | refine PickN.au ?_ | refine App.au rfl ?_ | refine App.au (own_map (fun _ => rfl) _) ?_ | refine Both.mk ?_ ?_ | exact True.intro
    have hR : ∀ x, ¬ Rc [] x := fun x hx => by
      cases hx' : (x : Int) with
      | _ => have := Rc_lt (s := []) (fun l hl => by cases hl) hx; simp at this
    exact ⟨l0, rfl, by rw [hl0, hk0]; rfl, fun x hx => absurd hx (by simp), fun x _ hx => absurd hx (hR x), fun a x hx => absurd hx (hR x), fun _ => 0, fun x _ hx => absurd hx (hR x)⟩
  have h0 : s ≠ [] := fun e => by
    have g : o[0]? = some o[0] := List.getElem?_eq_getElem (by omega)
    have := hob _ (List.mem_of_getElem? g)
    rw [e] at hs'
    simp at hs'
    omega
  replace hHd := hHd h0
  replace O := O h0
  obtain ⟨v0, gv0, -⟩ := getK (l := dsz) (k := 0) (by have := List.length_pos_iff.2 h0; omega)
  have hds0 : (dsz.map tb).set 0 (tb true) = (dsz.set 0 true).map tb := by rw [List.map_set]
  repeat' first | refine PickN.map gv0 ?_ | refine SubFrom.map (a := 1) (by omega) ?_ | refine Len.map ?_ | refine Len.nil ?_ | refine Len.cons ?_ | refine Br.t rfl ?_ | refine Br.f rfl ?_ | refine Fit.au ?_ | refine Cv.au ?_ | refine Need.ne ?_ | refine Need.au ?_ | refine Pick.map (by assumption) ?_ | refine Pick.mapI (by omega) (by assumption) ?_ | refine PickN.mk _ (by assumption) ?_ | refine PickN.mk _ rfl ?_ | refine PickN.au ?_ | refine App.au rfl ?_ | refine App.au (own_map (fun _ => rfl) _) ?_ | refine Both.mk ?_ ?_ | exact True.intro
  have hdl : (o.drop 1).length = o.length - 1 := by rw [List.length_drop]
  have hdg : ∀ i, (o.drop 1)[i]? = o[i + 1]? := fun i => by rw [List.getElem?_drop, Nat.add_comm]
  generalize hds : dsz.set 0 true = ds0 at *
  refine Stop.mk (loop_in (g := []) (fun p : Nat × List Int × List Bool × Bool => [(3, ints o), (4, lsts P), (5, .hw 1), (6, ints pls), (10, .hw 2), (62, .sl false 1 ((o.drop 1).map int1)), (63, num (o.drop 1).length), (64, num p.1), (11, tru p.2.2.2)]) (fun p => [(1, .row 1 (p.2.1.map int1)), (2, .row 1 (p.2.2.1.map tb))]) 3 (fun p => p.1 ≤ o.length - 1 ∧ Rnd s pl o.length l0 ds0 p.2.1 p.2.2.1 p.2.2.2 (p.1 + 1)) (fun p => o.length - p.1) (0, l0, ds0, false) ⟨by simp only; omega, hHd.rnd O h0⟩ ?_ (fun p hp ih2 => ?_))
  · dsimp only
    rw [← hds, List.map_set]
    exact ⟨rfl, (by repeat' first | exact trivial | refine ⟨rfl, ?_⟩ | refine ⟨congrArg (fun n => AV.lit (.int .i64 n)) (by omega), ?_⟩ | refine ⟨congrArg (fun l => some (Row.row 1 l)) (by simp [int1, num, tru]), ?_⟩), (by repeat' first | exact trivial | refine ⟨rfl, ?_⟩ | refine ⟨congrArg (fun n => AV.lit (.int .i64 n)) (by omega), ?_⟩ | refine ⟨congrArg (fun l => some (Row.row 1 l)) (by simp [int1, num, tru]), ?_⟩)⟩
  obtain ⟨i, l, ds, ch⟩ := p
  obtain ⟨hi, hR⟩ := hp
  dsimp only at hi hR ih2 ⊢
  have hll := hR.ln
  have hdsl := hR.dl
  refine go 1000 Try.func23 ?_
  repeat' first | refine Len.map ?_ | refine Len.nil ?_ | refine Len.cons ?_ | refine Br.t rfl ?_ | refine Br.f rfl ?_ | refine Fit.au ?_ | refine Cv.au ?_ | refine Need.ne ?_ | refine Need.au ?_ | refine Pick.map (by assumption) ?_ | refine Pick.mapI (by omega) (by assumption) ?_ | refine PickN.mk _ (by assumption) ?_ | refine PickN.mk _ rfl ?_ | refine PickN.au ?_ | refine App.au rfl ?_ | refine App.au (own_map (fun _ => rfl) _) ?_ | refine Both.mk ?_ ?_ | exact True.intro
  refine Br.d (fun h3 => ?_) (fun h3 => ?_)
  rotate_left
  · have hR' : Rnd s pl o.length l0 ds0 l ds ch o.length := by
      have e : i + 1 = o.length := by omega
      rw [e] at hR; exact hR
    repeat' first | refine Len.map ?_ | refine Len.nil ?_ | refine Len.cons ?_ | refine Br.t rfl ?_ | refine Br.f rfl ?_ | refine Fit.au ?_ | refine Cv.au ?_ | refine Need.ne ?_ | refine Need.au ?_ | refine Pick.map (by assumption) ?_ | refine Pick.mapI (by omega) (by assumption) ?_ | refine PickN.mk _ (by assumption) ?_ | refine PickN.mk _ rfl ?_ | refine PickN.au ?_ | refine App.au rfl ?_ | refine App.au (own_map (fun _ => rfl) _) ?_ | refine Both.mk ?_ ?_ | exact True.intro
    refine Br.mk (fun h4 => ?_) (fun h4 => ?_)
    · repeat' first | refine Len.map ?_ | refine Len.nil ?_ | refine Len.cons ?_ | refine Br.t rfl ?_ | refine Br.f rfl ?_ | refine Fit.au ?_ | refine Cv.au ?_ | refine Need.ne ?_ | refine Need.au ?_ | refine Pick.map (by assumption) ?_ | refine Pick.mapI (by omega) (by assumption) ?_ | refine PickN.mk _ (by assumption) ?_ | refine PickN.mk _ rfl ?_ | refine PickN.au ?_ | refine App.au rfl ?_ | refine App.au (own_map (fun _ => rfl) _) ?_ | refine Both.mk ?_ ?_ | exact True.intro
      exact ⟨l, rfl, hR'.done hcl O (by simpa using h4)⟩
    · have hhd := hR'.hd O
      have hset := hhd.set
      repeat' first | refine Len.map ?_ | refine Len.nil ?_ | refine Len.cons ?_ | refine Br.t rfl ?_ | refine Br.f rfl ?_ | refine Fit.au ?_ | refine Cv.au ?_ | refine Need.ne ?_ | refine Need.au ?_ | refine Pick.map (by assumption) ?_ | refine Pick.mapI (by omega) (by assumption) ?_ | refine PickN.mk _ (by assumption) ?_ | refine PickN.mk _ rfl ?_ | refine PickN.au ?_ | refine App.au rfl ?_ | refine App.au (own_map (fun _ => rfl) _) ?_ | refine Both.mk ?_ ?_ | exact True.intro
      refine Stop.mk (ih (l, ds) (g := []) _ _ _ ⟨by rw [hll, hs'], by rw [hdsl, hs'], fun _ => by simp only; rw [hset]; exact hhd⟩ ?_ ⟨rfl, (by repeat' first | exact trivial | refine ⟨rfl, ?_⟩ | refine ⟨congrArg (fun n => AV.lit (.int .i64 n)) (by omega), ?_⟩ | refine ⟨congrArg (fun l => some (Row.row 1 l)) (by simp [int1, num, tru]), ?_⟩), (by repeat' first | exact trivial | refine ⟨rfl, ?_⟩ | refine ⟨congrArg (fun n => AV.lit (.int .i64 n)) (by omega), ?_⟩ | refine ⟨congrArg (fun l => some (Row.row 1 l)) (by simp [int1, num, tru]), ?_⟩)⟩)
      simp only
      rw [hset]
      exact hR'.lt (by simpa using h4)
  obtain ⟨x, gx0, -⟩ := getK (l := o.drop 1) (k := i) (by omega)
  have gx := gx0
  rw [hdg] at gx
  obtain ⟨hx0, hxR⟩ := (hop.mem x).1 (List.mem_of_getElem? gx)
  obtain ⟨c, rfl⟩ : ∃ c : Nat, x = (c : Int) := ⟨x.toNat, by omega⟩
  have hcR : Rc s c := hxR
  have hcl2 := Rc_lt hcl hcR
  have hcpl : pl c = i + 1 := hop.idx (hplR c hcR).1 gx
  have hc0 : c ≠ 0 := fun e => by
    subst e
    have := O.zero
    omega
  have gr := hpg c hcl2
  obtain ⟨y, gy, -⟩ := getK (l := l) (k := c) (by omega)
  obtain ⟨z, gz, -⟩ := getK (l := ds) (k := c) (by omega)
  have hrn := fun (x : Int) (h : x ∈ predOf s c s.length) => predOf_nn h
  have hrl := hpol c
  have hstep := fun nx (hm : Met l ds (predOf s c s.length) nx) => hR.step hcl O hc0 hcR hcpl hm gy
  generalize predOf s c s.length = r at *
  repeat' first | refine Pick.map gx0 ?_ | refine Pick.map gr ?_ | refine Len.map ?_ | refine Len.nil ?_ | refine Len.cons ?_ | refine Br.t rfl ?_ | refine Br.f rfl ?_ | refine Fit.au ?_ | refine Cv.au ?_ | refine Need.ne ?_ | refine Need.au ?_ | refine Pick.map (by assumption) ?_ | refine Pick.mapI (by omega) (by assumption) ?_ | refine PickN.mk _ (by assumption) ?_ | refine PickN.mk _ rfl ?_ | refine PickN.au ?_ | refine App.au rfl ?_ | refine App.au (own_map (fun _ => rfl) _) ?_ | refine Both.mk ?_ ?_ | exact True.intro
  refine Stop.mk (loop_in (g := []) (fun p : Nat × Int => [(3, ints o), (4, lsts P), (5, .hw 1), (6, ints pls), (10, .hw 2), (62, .sl false 1 ((o.drop 1).map int1)), (63, num (o.drop 1).length), (64, num i), (11, tru ch), (13, num c), (71, ints r), (72, num r.length), (73, num p.1), (14, num p.2)]) (fun p => [(1, .row 1 (l.map int1)), (2, .row 1 (ds.map tb))]) 3 (fun p => p.1 ≤ r.length ∧ Met l ds (r.take p.1) p.2) (fun p => r.length - p.1) (0, -1) ⟨by simp only; omega, .start⟩ ⟨rfl, (by repeat' first | exact trivial | refine ⟨rfl, ?_⟩ | refine ⟨congrArg (fun n => AV.lit (.int .i64 n)) (by omega), ?_⟩ | refine ⟨congrArg (fun l => some (Row.row 1 l)) (by simp [int1, num, tru]), ?_⟩), (by repeat' first | exact trivial | refine ⟨rfl, ?_⟩ | refine ⟨congrArg (fun n => AV.lit (.int .i64 n)) (by omega), ?_⟩ | refine ⟨congrArg (fun l => some (Row.row 1 l)) (by simp [int1, num, tru]), ?_⟩)⟩ (fun p hp ih3 => ?_))
  obtain ⟨j, nx⟩ := p
  obtain ⟨hj, hM⟩ := hp
  dsimp only at hj hM ih3 ⊢
  refine go 1000 Try.func23 ?_
  repeat' first | refine Len.map ?_ | refine Len.nil ?_ | refine Len.cons ?_ | refine Br.t rfl ?_ | refine Br.f rfl ?_ | refine Fit.au ?_ | refine Cv.au ?_ | refine Need.ne ?_ | refine Need.au ?_ | refine Pick.map (by assumption) ?_ | refine Pick.mapI (by omega) (by assumption) ?_ | refine PickN.mk _ (by assumption) ?_ | refine PickN.mk _ rfl ?_ | refine PickN.au ?_ | refine App.au rfl ?_ | refine App.au (own_map (fun _ => rfl) _) ?_ | refine Both.mk ?_ ?_ | exact True.intro
  refine Br.d (fun h4 => ?_) (fun h4 => ?_)
  · obtain ⟨y', gp, gpm⟩ := getK (l := r) (k := j) (by omega)
    obtain ⟨p, rfl, hpE⟩ := hrn y' gpm
    have hpk : p < k := by
      obtain ⟨q, gq, -⟩ := hpE
      have := (List.getElem?_eq_some_iff.1 gq).1
      omega
    obtain ⟨dp, gd, -⟩ := getK (l := ds) (k := p) (by omega)
    have htk := take_succ gp
    have hnext : ∀ nx', Met l ds (r.take j ++ [(p : Int)]) nx' → Met l ds (r.take (j + 1)) nx' := fun nx' h => by rw [htk]; exact h
    by_cases hpR : Rc s p
    · have gpl := (hplR p hpR).2
      repeat' first | refine Pick.map gp ?_ | refine Pick.map gpl ?_ | refine PickN.map gd ?_ | (refine Br.f ?_ ?_; focus (simp; omega)) | refine Len.map ?_ | refine Len.nil ?_ | refine Len.cons ?_ | refine Br.t rfl ?_ | refine Br.f rfl ?_ | refine Fit.au ?_ | refine Cv.au ?_ | refine Need.ne ?_ | refine Need.au ?_ | refine Pick.map (by assumption) ?_ | refine Pick.mapI (by omega) (by assumption) ?_ | refine PickN.mk _ (by assumption) ?_ | refine PickN.mk _ rfl ?_ | refine PickN.au ?_ | refine App.au rfl ?_ | refine App.au (own_map (fun _ => rfl) _) ?_ | refine Both.mk ?_ ?_ | exact True.intro
      refine Br.mk (fun h5 => ?_) (fun h5 => ?_)
      · have hdp : dp = false := by simpa using h5
        repeat' first | refine Len.map ?_ | refine Len.nil ?_ | refine Len.cons ?_ | refine Br.t rfl ?_ | refine Br.f rfl ?_ | refine Fit.au ?_ | refine Cv.au ?_ | refine Need.ne ?_ | refine Need.au ?_ | refine Pick.map (by assumption) ?_ | refine Pick.mapI (by omega) (by assumption) ?_ | refine PickN.mk _ (by assumption) ?_ | refine PickN.mk _ rfl ?_ | refine PickN.au ?_ | refine App.au rfl ?_ | refine App.au (own_map (fun _ => rfl) _) ?_ | refine Both.mk ?_ ?_ | exact True.intro
        refine Stop.mk (ih3 (j + 1, nx) (g := []) _ _ _ ⟨by simp only; omega, hnext _ (hM.skip fun h => ?_)⟩ (by simp only; omega) ⟨rfl, (by repeat' first | exact trivial | refine ⟨rfl, ?_⟩ | refine ⟨congrArg (fun n => AV.lit (.int .i64 n)) (by omega), ?_⟩ | refine ⟨congrArg (fun l => some (Row.row 1 l)) (by simp [int1, num, tru]), ?_⟩), (by repeat' first | exact trivial | refine ⟨rfl, ?_⟩ | refine ⟨congrArg (fun n => AV.lit (.int .i64 n)) (by omega), ?_⟩ | refine ⟨congrArg (fun l => some (Row.row 1 l)) (by simp [int1, num, tru]), ?_⟩)⟩)
        have h' : ds[p]? = some true := h
        rw [gd, hdp] at h'; cases h'
      · have hdp : dp = true := by simpa using h5
        have hdn : dnOf ds p := by rw [hdp] at gd; exact gd
        repeat' first | refine Len.map ?_ | refine Len.nil ?_ | refine Len.cons ?_ | refine Br.t rfl ?_ | refine Br.f rfl ?_ | refine Fit.au ?_ | refine Cv.au ?_ | refine Need.ne ?_ | refine Need.au ?_ | refine Pick.map (by assumption) ?_ | refine Pick.mapI (by omega) (by assumption) ?_ | refine PickN.mk _ (by assumption) ?_ | refine PickN.mk _ rfl ?_ | refine PickN.au ?_ | refine App.au rfl ?_ | refine App.au (own_map (fun _ => rfl) _) ?_ | refine Both.mk ?_ ?_ | exact True.intro
        refine Br.d (fun h6 => ?_) (fun h6 => ?_)
        · repeat' first | refine Len.map ?_ | refine Len.nil ?_ | refine Len.cons ?_ | refine Br.t rfl ?_ | refine Br.f rfl ?_ | refine Fit.au ?_ | refine Cv.au ?_ | refine Need.ne ?_ | refine Need.au ?_ | refine Pick.map (by assumption) ?_ | refine Pick.mapI (by omega) (by assumption) ?_ | refine PickN.mk _ (by assumption) ?_ | refine PickN.mk _ rfl ?_ | refine PickN.au ?_ | refine App.au rfl ?_ | refine App.au (own_map (fun _ => rfl) _) ?_ | refine Both.mk ?_ ?_ | exact True.intro
          exact Stop.mk (ih3 (j + 1, (p : Int)) (g := []) _ _ _ ⟨by simp only; omega, hnext _ (hM.first h6 hdn)⟩ (by simp only; omega) ⟨rfl, (by repeat' first | exact trivial | refine ⟨rfl, ?_⟩ | refine ⟨congrArg (fun n => AV.lit (.int .i64 n)) (by omega), ?_⟩ | refine ⟨congrArg (fun l => some (Row.row 1 l)) (by simp [int1, num, tru]), ?_⟩), (by repeat' first | exact trivial | refine ⟨rfl, ?_⟩ | refine ⟨congrArg (fun n => AV.lit (.int .i64 n)) (by omega), ?_⟩ | refine ⟨congrArg (fun l => some (Row.row 1 l)) (by simp [int1, num, tru]), ?_⟩)⟩)
        · rcases hM with ⟨h7, -⟩ | ⟨N, rfl, hN, hNa⟩
          · omega
          have hM : Met l ds (r.take j) (N : Int) := .inr ⟨N, rfl, hN, hNa⟩
          have hT : Tame pl l pls (dnOf ds) := ⟨fun x hx hd => ⟨(hR.w.up x hx hd).1, (hR.w.up x hx hd).2, hR.pos x hx hd⟩, fun x hd => (hplR x (hR.w.r x hd)).2, fun x y hx hy e => O.inj x y (hR.w.r x hx) (hR.w.r y hy) e, O.zero⟩
          have hmeet := meet94_spec pl l pls (dnOf ds) hT N p hN hdn
          repeat' first | refine Look.yes (View.mk _ (fzi _) ?_) | refine Len.map ?_ | refine Len.nil ?_ | refine Len.cons ?_ | refine Br.t rfl ?_ | refine Br.f rfl ?_ | refine Fit.au ?_ | refine Cv.au ?_ | refine Need.ne ?_ | refine Need.au ?_ | refine Pick.map (by assumption) ?_ | refine Pick.mapI (by omega) (by assumption) ?_ | refine PickN.mk _ (by assumption) ?_ | refine PickN.mk _ rfl ?_ | refine PickN.au ?_ | refine App.au rfl ?_ | refine App.au (own_map (fun _ => rfl) _) ?_ | refine Both.mk ?_ ?_ | exact True.intro
          refine CallV.of hmeet ?_
          rintro r2 ⟨M, rfl, hMd, hMa⟩
          refine ⟨rfl, Free.lit _, ?_⟩
          repeat' first | refine Len.map ?_ | refine Len.nil ?_ | refine Len.cons ?_ | refine Br.t rfl ?_ | refine Br.f rfl ?_ | refine Fit.au ?_ | refine Cv.au ?_ | refine Need.ne ?_ | refine Need.au ?_ | refine Pick.map (by assumption) ?_ | refine Pick.mapI (by omega) (by assumption) ?_ | refine PickN.mk _ (by assumption) ?_ | refine PickN.mk _ rfl ?_ | refine PickN.au ?_ | refine App.au rfl ?_ | refine App.au (own_map (fun _ => rfl) _) ?_ | refine Both.mk ?_ ?_ | exact True.intro
          exact Stop.mk (ih3 (j + 1, (M : Int)) (g := []) _ _ _ ⟨by simp only; omega, hnext _ (hM.more rfl hdn hMd hMa)⟩ (by simp only; omega) ⟨rfl, (by repeat' first | exact trivial | refine ⟨rfl, ?_⟩ | refine ⟨congrArg (fun n => AV.lit (.int .i64 n)) (by omega), ?_⟩ | refine ⟨congrArg (fun l => some (Row.row 1 l)) (by simp [int1, num, tru]), ?_⟩), (by repeat' first | exact trivial | refine ⟨rfl, ?_⟩ | refine ⟨congrArg (fun n => AV.lit (.int .i64 n)) (by omega), ?_⟩ | refine ⟨congrArg (fun l => some (Row.row 1 l)) (by simp [int1, num, tru]), ?_⟩)⟩)
    · have gpl : pls[p]? = some (-1) := hno hpk fun hm => hpR ((hop.mem _).1 hm).2
      repeat' first | refine Pick.map gp ?_ | refine Pick.map gpl ?_ | refine Len.map ?_ | refine Len.nil ?_ | refine Len.cons ?_ | refine Br.t rfl ?_ | refine Br.f rfl ?_ | refine Fit.au ?_ | refine Cv.au ?_ | refine Need.ne ?_ | refine Need.au ?_ | refine Pick.map (by assumption) ?_ | refine Pick.mapI (by omega) (by assumption) ?_ | refine PickN.mk _ (by assumption) ?_ | refine PickN.mk _ rfl ?_ | refine PickN.au ?_ | refine App.au rfl ?_ | refine App.au (own_map (fun _ => rfl) _) ?_ | refine Both.mk ?_ ?_ | exact True.intro
      exact Stop.mk (ih3 (j + 1, nx) (g := []) _ _ _ ⟨by simp only; omega, hnext _ (hM.skip fun h => hpR (hR.w.r p h))⟩ (by simp only; omega) ⟨rfl, (by repeat' first | exact trivial | refine ⟨rfl, ?_⟩ | refine ⟨congrArg (fun n => AV.lit (.int .i64 n)) (by omega), ?_⟩ | refine ⟨congrArg (fun l => some (Row.row 1 l)) (by simp [int1, num, tru]), ?_⟩), (by repeat' first | exact trivial | refine ⟨rfl, ?_⟩ | refine ⟨congrArg (fun n => AV.lit (.int .i64 n)) (by omega), ?_⟩ | refine ⟨congrArg (fun l => some (Row.row 1 l)) (by simp [int1, num, tru]), ?_⟩)⟩)
  · rw [take_all (by omega)] at hM
    have hst := hstep nx hM
    have hcd : (ch || decide (nx ≠ y)) = (ch || !decide (nx = y)) := by simp
    rw [hcd] at hst
    repeat' first | refine Len.map ?_ | refine Len.nil ?_ | refine Len.cons ?_ | refine Br.t rfl ?_ | refine Br.f rfl ?_ | refine Fit.au ?_ | refine Cv.au ?_ | refine Need.ne ?_ | refine Need.au ?_ | refine Pick.map (by assumption) ?_ | refine Pick.mapI (by omega) (by assumption) ?_ | refine PickN.mk _ (by assumption) ?_ | refine PickN.mk _ rfl ?_ | refine PickN.au ?_ | refine App.au rfl ?_ | refine App.au (own_map (fun _ => rfl) _) ?_ | refine Both.mk ?_ ?_ | exact True.intro
    refine Br.mk (fun h7 => ?_) (fun h7 => ?_)
    · subst h7
      repeat' first | refine Draw.mk (ordL [1, 3] [0, 2, 1, 3, 4, 5]) (by decide +kernel) ?_ | refine Draw.mk (.one 0 false (.one 1 false (.one 2 false (.one 4 false (.one 5 false (.one 6 false (.alt 3 (ordL [7] [8, 7, 9]) (.alt 7 (ordL [3] [3, 8, 9]) .no)))))))) (by decide +kernel) ?_ | refine PickN.map gy ?_ | refine PickN.map gz ?_ | refine Len.map ?_ | refine Len.nil ?_ | refine Len.cons ?_ | refine Br.t rfl ?_ | refine Br.f rfl ?_ | refine Fit.au ?_ | refine Cv.au ?_ | refine Need.ne ?_ | refine Need.au ?_ | refine Pick.map (by assumption) ?_ | refine Pick.mapI (by omega) (by assumption) ?_ | refine PickN.mk _ (by assumption) ?_ | refine PickN.mk _ rfl ?_ | refine PickN.au ?_ | refine App.au rfl ?_ | refine App.au (own_map (fun _ => rfl) _) ?_ | refine Both.mk ?_ ?_ | exact True.intro
      all_goals
        refine Stop.mk (ih2 (i + 1, l.set c nx, ds.set c true, true) (g := []) _ _ _ ⟨by simp only; omega, hst⟩ (by simp only; omega) ?_)
        dsimp only
        rw [List.map_set, List.map_set]
        exact ⟨rfl, (by repeat' first | exact trivial | refine ⟨rfl, ?_⟩ | refine ⟨congrArg (fun n => AV.lit (.int .i64 n)) (by omega), ?_⟩ | refine ⟨congrArg (fun l => some (Row.row 1 l)) (by simp [int1, num, tru]), ?_⟩), (by repeat' first | exact trivial | refine ⟨rfl, ?_⟩ | refine ⟨congrArg (fun n => AV.lit (.int .i64 n)) (by omega), ?_⟩ | refine ⟨congrArg (fun l => some (Row.row 1 l)) (by simp [int1, num, tru]), ?_⟩)⟩
    · subst h7
      repeat' first | refine Draw.mk (ordL [1, 3] [0, 2, 1, 3, 4, 5]) (by decide +kernel) ?_ | refine Draw.mk (.one 0 false (.one 1 false (.one 2 false (.one 4 false (.one 5 false (.one 6 false (.alt 3 (ordL [7] [8, 7, 9]) (.alt 7 (ordL [3] [3, 8, 9]) .no)))))))) (by decide +kernel) ?_ | refine PickN.map gy ?_ | refine PickN.map gz ?_ | refine Len.map ?_ | refine Len.nil ?_ | refine Len.cons ?_ | refine Br.t rfl ?_ | refine Br.f rfl ?_ | refine Fit.au ?_ | refine Cv.au ?_ | refine Need.ne ?_ | refine Need.au ?_ | refine Pick.map (by assumption) ?_ | refine Pick.mapI (by omega) (by assumption) ?_ | refine PickN.mk _ (by assumption) ?_ | refine PickN.mk _ rfl ?_ | refine PickN.au ?_ | refine App.au rfl ?_ | refine App.au (own_map (fun _ => rfl) _) ?_ | refine Both.mk ?_ ?_ | exact True.intro
      all_goals
        refine Stop.mk (ih2 (i + 1, l.set c nx, ds.set c true, !decide (nx = y)) (g := []) _ _ _ ⟨by simp only; omega, hst⟩ (by simp only; omega) ?_)
        dsimp only
        rw [List.map_set, List.map_set]
        exact ⟨rfl, (by repeat' first | exact trivial | refine ⟨rfl, ?_⟩ | refine ⟨congrArg (fun n => AV.lit (.int .i64 n)) (by omega), ?_⟩ | refine ⟨congrArg (fun l => some (Row.row 1 l)) (by simp [int1, num, tru]), ?_⟩), (by repeat' first | exact trivial | refine ⟨rfl, ?_⟩ | refine ⟨congrArg (fun n => AV.lit (.int .i64 n)) (by omega), ?_⟩ | refine ⟨congrArg (fun l => some (Row.row 1 l)) (by simp [int1, num, tru]), ?_⟩)⟩
end Go.Proofs.Ytjjijklonnhdeaa

/- What is reached, and the new numbers, by contracts. -/
namespace Go.Proofs.Ytjjijklonnhdeaa
open Go.Ax
set_option maxRecDepth 10000
set_option linter.unusedVariables false

theorem Without96_spec (f : Fun) (x : Int) (hf : f.fits) (hn : f.blocks.length ≤ 1000000) : FnSpec Try.prog 34 [funA f, num x] (fun r => r = .osl 1 ((marksF (succsF f) x).map tb)) := by
  have hcl := succsF_closed f
  have hsm := succsF_small f
  have hsn : (succsF f).length ≤ 1000000 := by rw [succsF_len]; exact hn
  refine spec_of 9 Try.func34 rfl rfl ?_
  repeat' first | refine Call.eq (Succs95_spec f hf hn) rfl ?_ | refine Len.map ?_ | refine Len.nil ?_ | refine Len.cons ?_ | refine Br.t rfl ?_ | refine Br.f rfl ?_ | refine Fit.au ?_ | refine Cv.au ?_ | refine Need.ne ?_ | refine Need.au ?_ | refine Pick.map (by assumption) ?_ | refine Pick.mapI (by omega) (by assumption) ?_ | refine PickN.mk _ (by assumption) ?_ | refine PickN.mk _ rfl ?_ | refine PickN.au ?_ | refine App.au rfl ?_ | refine App.au (own_map (fun _ => rfl) _) ?_ | refine Both.mk ?_ ?_ | exact True.intro
  refine Stop.mk (run_frzR 1 rfl (fzLL_map fz_olsts _) ?_)
  refine Run.fr (tm' := [(6, .sl false 1 ((succsF f).map lst)), (1, num x)]) (hp' := []) (nx' := 0) ?_ (g := []) ⟨rfl, (by repeat' first | exact trivial | refine ⟨rfl, ?_⟩ | refine ⟨congrArg (fun n => AV.lit (.int .i64 n)) (by omega), ?_⟩ | refine ⟨congrArg (fun l => some (Row.row 1 l)) (by simp [int1, num, tru]), ?_⟩), (by repeat' first | exact trivial | refine ⟨rfl, ?_⟩ | refine ⟨congrArg (fun n => AV.lit (.int .i64 n)) (by omega), ?_⟩ | refine ⟨congrArg (fun l => some (Row.row 1 l)) (by simp [int1, num, tru]), ?_⟩)⟩
  refine go 1000 Try.func34 ?_
  refine Look.stop (Stop.mk ?_)
  refine run_inlC rfl want_none rfl rfl rfl rfl rfl rfl rfl (through_run _ x hcl hsm hsn fun l hm => ?_)
  rw [← hm.eq]
  refine Run.fr (g := [(0, 6)]) (tm' := [(8, .hw 0)]) (hp' := [(0, .row 1 (l.map tb))]) (nx' := 1) ?_ ⟨rfl, (by repeat' first | exact trivial | refine ⟨rfl, ?_⟩ | refine ⟨congrArg (fun n => AV.lit (.int .i64 n)) (by omega), ?_⟩ | refine ⟨congrArg (fun l => some (Row.row 1 l)) (by simp [int1, num, tru]), ?_⟩), (by repeat' first | exact trivial | refine ⟨rfl, ?_⟩ | refine ⟨congrArg (fun n => AV.lit (.int .i64 n)) (by omega), ?_⟩ | refine ⟨congrArg (fun l => some (Row.row 1 l)) (by simp [int1, num, tru]), ?_⟩)⟩
  refine go 1000 Try.func34 ?_
  repeat' first | refine Len.map ?_ | refine Len.nil ?_ | refine Len.cons ?_ | refine Br.t rfl ?_ | refine Br.f rfl ?_ | refine Fit.au ?_ | refine Cv.au ?_ | refine Need.ne ?_ | refine Need.au ?_ | refine Pick.map (by assumption) ?_ | refine Pick.mapI (by omega) (by assumption) ?_ | refine PickN.mk _ (by assumption) ?_ | refine PickN.mk _ rfl ?_ | refine PickN.au ?_ | refine App.au rfl ?_ | refine App.au (own_map (fun _ => rfl) _) ?_ | refine Both.mk ?_ ?_ | exact True.intro
  rfl

theorem Reach69_spec (f : Fun) (hf : f.fits) (hn : f.blocks.length ≤ 1000000) : FnSpec Try.prog 25 [funA f] (fun r => r = .osl 1 ((marksF (succsF f) (-1)).map tb)) := by
  refine spec_of 1000 Try.func25 rfl rfl ?_
  repeat' first | refine Call.eq (Without96_spec f (-1) hf hn) rfl ?_ | refine Len.map ?_ | refine Len.nil ?_ | refine Len.cons ?_ | refine Br.t rfl ?_ | refine Br.f rfl ?_ | refine Fit.au ?_ | refine Cv.au ?_ | refine Need.ne ?_ | refine Need.au ?_ | refine Pick.map (by assumption) ?_ | refine Pick.mapI (by omega) (by assumption) ?_ | refine PickN.mk _ (by assumption) ?_ | refine PickN.mk _ rfl ?_ | refine PickN.au ?_ | refine App.au rfl ?_ | refine App.au (own_map (fun _ => rfl) _) ?_ | refine Both.mk ?_ ?_ | exact True.intro
  rfl

end Go.Proofs.Ytjjijklonnhdeaa

/- The rim of each block. No program is in sight here. -/
namespace Go.Proofs.Ytjjijklonnhdeaa
open Go.Ax

/-- A block is in another one's rim. -/
def rimP (s : List (List Int)) (a k : Nat) : Prop := Rc s k ∧ (∃ p, Ed s p k ∧ DomN s a p) ∧ (a = k ∨ ¬ DomN s a k)
noncomputable def rimB (s : List (List Int)) (a k : Nat) : Bool := @decide (rimP s a k) (Classical.propDecidable _)
theorem rimB_iff {s : List (List Int)} {a k : Nat} : rimB s a k = true ↔ rimP s a k := by unfold rimB; exact @decide_eq_true_iff _ (Classical.propDecidable _)
noncomputable def rimTo (s : List (List Int)) (a k : Nat) : List Int := ((List.range k).filter (rimB s a)).map fun j : Nat => (j : Int)
theorem rimTo_succ {s : List (List Int)} {a k : Nat} : rimTo s a (k + 1) = rimTo s a k ++ if rimB s a k = true then [(k : Int)] else [] := by
  unfold rimTo
  rw [List.range_succ, List.filter_append, List.map_append]
  congr 1
  by_cases h : rimB s a k = true <;> simp [h]
theorem rimTo_lt {s : List (List Int)} {a k : Nat} {x : Int} (h : x ∈ rimTo s a k) : 0 ≤ x ∧ x < k := by
  unfold rimTo at h
  obtain ⟨j, hj, rfl⟩ := List.mem_map.1 h
  have := List.mem_range.1 (List.mem_filter.1 hj).1
  omega
theorem rimTo_len {s : List (List Int)} {a k : Nat} : (rimTo s a k).length ≤ k := by
  unfold rimTo
  rw [List.length_map]
  have := List.length_filter_le (rimB s a) (List.range k)
  rw [List.length_range] at this; exact this
noncomputable def rimMid (s : List (List Int)) (n k : Nat) (M : Nat → Bool) : List (List Int) := (List.range n).map fun a => rimTo s a k ++ if M a = true then [(k : Int)] else []
theorem rimMid_len (s : List (List Int)) (n k : Nat) (M : Nat → Bool) : (rimMid s n k M).length = n := by unfold rimMid; simp
theorem rimMid_at {s : List (List Int)} {n k : Nat} {M : Nat → Bool} {a : Nat} (h : a < n) : (rimMid s n k M)[a]? = some (rimTo s a k ++ if M a = true then [(k : Int)] else []) := by
  unfold rimMid
  rw [List.getElem?_map, List.getElem?_range h]; rfl
theorem rimMid_has {s : List (List Int)} {k : Nat} {M : Nat → Bool} {a : Nat} : (k : Int) ∈ (rimTo s a k ++ if M a = true then [(k : Int)] else []) ↔ M a = true := by
  rw [List.mem_append]
  constructor
  · rintro (h | h)
    · have := rimTo_lt h; omega
    · split at h
      · assumption
      · cases h
  · intro h; right; rw [if_pos h]; simp
theorem rimMid_set {s : List (List Int)} {n k : Nat} {M : Nat → Bool} {a : Nat} (h : a < n) (hM : M a ≠ true) : (rimMid s n k M).set a ((rimTo s a k ++ if M a = true then [(k : Int)] else []) ++ [(k : Int)]) = rimMid s n k (fun x => M x || decide (x = a)) := by
  apply List.ext_getElem?
  intro x
  rw [List.getElem?_set, rimMid_len]
  by_cases e : a = x
  · subst e
    rw [if_pos rfl, if_pos h, rimMid_at h, if_neg hM]
    simp
  · rw [if_neg e]
    by_cases hx : x < n
    · rw [rimMid_at hx, rimMid_at hx]
      have : decide (x = a) = false := decide_eq_false fun e2 => e e2.symm
      simp only [this, Bool.or_false]
    · rw [List.getElem?_eq_none (by rw [rimMid_len]; omega), List.getElem?_eq_none (by rw [rimMid_len]; omega)]
theorem rimMid_same {s : List (List Int)} {n k : Nat} {M : Nat → Bool} {a : Nat} (hM : M a = true) : rimMid s n k M = rimMid s n k (fun x => M x || decide (x = a)) := by
  congr 1
  funext x
  by_cases e : x = a
  · subst e; simp [hM]
  · simp [e]
theorem rimMid_end {s : List (List Int)} {n k : Nat} {M : Nat → Bool} (h : ∀ a, M a = rimB s a k) : rimMid s n k M = rimMid s n (k + 1) (fun _ => false) := by
  unfold rimMid
  congr 1
  funext a
  rw [rimTo_succ, h a]; simp
theorem rimMid_zero {s : List (List Int)} {n : Nat} : rimMid s n 0 (fun _ => false) = List.replicate n [] := by
  unfold rimMid rimTo
  apply List.ext_getElem?
  intro x
  rw [List.getElem?_map, List.getElem?_replicate]
  by_cases hx : x < n
  · rw [List.getElem?_range hx, if_pos hx]; rfl
  · rw [List.getElem?_eq_none (by simp; omega), if_neg hx]; rfl
theorem rimMid_all {s : List (List Int)} {n k : Nat} : rimMid s n k (fun _ => false) = (List.range n).map fun a => rimTo s a k := by
  unfold rimMid; simp

section
variable {s : List (List Int)} {l : List Int}
/-- Going up from a block that goes to another one. -/
structure Walk (s : List (List Int)) (l : List Int) (k p : Nat) (M0 : Nat → Bool) (at_ : Int) (M : Nat → Bool) : Prop where
  on : at_ = -1 ∨ ∃ t : Nat, at_ = t ∧ Rc s t ∧ Anc l t p ∧ (k ≠ 0 → Anc l (par l k) t)
  k0 : at_ = -1 → k = 0
  set : ∀ a, M a = true ↔ M0 a = true ∨ (Anc l a p ∧ ¬ ∃ t : Nat, at_ = t ∧ Anc l a t)
theorem Walk.start {k p : Nat} {M : Nat → Bool} (hp : Rc s p) (hk : k ≠ 0 → Anc l (par l k) p) : Walk s l k p M (p : Int) M :=
  ⟨.inr ⟨p, rfl, hp, .self, hk⟩, fun h => by omega, fun a => ⟨.inl, fun h => h.elim id fun h2 => absurd ⟨p, rfl, h2.1⟩ h2.2⟩⟩
theorem TreeP.anc_lt (T : TreeP s l) : ∃ pl : Nat → Nat, (∀ x, x ≠ 0 → Rc s x → pl (par l x) < pl x) ∧ ∀ a x, Rc s x → Anc l a x → pl a ≤ pl x := by
  obtain ⟨pl, h⟩ := T.pl
  refine ⟨pl, h, fun a x hx ha => ?_⟩
  induction ha with
  | self => exact Nat.le_refl _
  | @up x hne _ ih =>
    have := ih (T.up x hne hx).2
    have := h x hne hx
    omega
theorem Walk.step {k p t : Nat} {M0 M : Nat → Bool} {y z : Int} (T : TreeP s l) (h : Walk s l k p M0 (t : Int) M) (hk : Rc s k) (gk : l[k]? = some y) (hne : (t : Int) ≠ y) (gt : l[t]? = some z) : Walk s l k p M0 z (fun x => M x || decide (x = t)) := by
  obtain ⟨pl, hpl, hanc⟩ := T.anc_lt
  obtain ⟨t', e, htR, htp, htk⟩ := h.on.resolve_left (by omega)
  obtain rfl : t' = t := by omega
  have hky : k ≠ 0 → y = (par l k : Int) := fun h0 => by
    have := (T.up k h0 hk).1
    rw [gk] at this; exact Option.some.inj this
  by_cases h0 : t' = 0
  · subst h0
    have hk0 : k = 0 := Classical.byContradiction fun h1 => hne (by
      have := (htk h1).zero rfl
      rw [hky h1, this])
    have hz : z = -1 := by
      have := T.out 0 (by have := (List.getElem?_eq_some_iff.1 gt).1; rw [T.len] at this; exact this) (.inl rfl)
      rw [gt] at this; exact Option.some.inj this
    subst hz
    refine ⟨.inl rfl, fun _ => hk0, fun a => ?_⟩
    rw [Bool.or_eq_true, decide_eq_true_iff, h.set a]
    constructor
    · rintro ((h1 | ⟨h1, -⟩) | rfl)
      · exact .inl h1
      · exact .inr ⟨h1, fun ⟨t, h2, _⟩ => by omega⟩
      · exact .inr ⟨htp, fun ⟨t, h2, _⟩ => by omega⟩
    · rintro (h1 | ⟨h1, -⟩)
      · exact .inl (.inl h1)
      · by_cases e0 : a = 0
        · exact .inr e0
        · exact .inl (.inr ⟨h1, fun ⟨t, h2, h3⟩ => e0 ((h3.zero (by omega)).trans (by omega))⟩)
  · obtain ⟨g1, g2⟩ := T.up t' h0 htR
    have hz : z = (par l t' : Int) := by rw [gt] at g1; exact Option.some.inj g1
    subst hz
    refine ⟨.inr ⟨_, rfl, g2, (Anc.up h0 .self).trans htp, fun h1 => ?_⟩, fun h1 => by omega, fun a => ?_⟩
    · exact ((htk h1).more fun e2 => hne (by rw [hky h1, e2])).2
    · rw [Bool.or_eq_true, decide_eq_true_iff, h.set a]
      constructor
      · rintro ((h1 | ⟨h1, h2⟩) | rfl)
        · exact .inl h1
        · exact .inr ⟨h1, fun ⟨t, h3, h4⟩ => h2 ⟨t', rfl, .up h0 (by rw [show par l t' = t by omega]; exact h4)⟩⟩
        · refine .inr ⟨htp, fun ⟨t, h3, h4⟩ => ?_⟩
          have e2 : t = par l a := by omega
          subst e2
          have := hanc _ _ g2 h4
          have := hpl a h0 htR
          omega
      · rintro (h1 | ⟨h1, h2⟩)
        · exact .inl (.inl h1)
        · by_cases e0 : a = t'
          · exact .inr e0
          · refine .inl (.inr ⟨h1, fun ⟨t, h3, h4⟩ => h2 ⟨par l t', rfl, ?_⟩⟩)
            obtain rfl : t = t' := by omega
            exact (h4.more e0).2
theorem Walk.done {k p : Nat} {M0 M : Nat → Bool} {at_ y : Int} (T : TreeP s l) (h : Walk s l k p M0 at_ M) (hk : Rc s k) (hkl : k < s.length) (gk : l[k]? = some y) (hs : at_ = -1 ∨ at_ = y) (a : Nat) : M a = true ↔ M0 a = true ∨ (Anc l a p ∧ ¬ (k ≠ 0 ∧ Anc l a (par l k))) := by
  rw [h.set a]
  have key : (∃ t : Nat, at_ = t ∧ Anc l a t) ↔ (k ≠ 0 ∧ Anc l a (par l k)) := by
    by_cases h0 : k = 0
    · have hy : y = -1 := by
        have := T.out k hkl (.inl h0)
        rw [gk] at this; exact Option.some.inj this
      constructor
      · rintro ⟨t, h1, -⟩; omega
      · rintro ⟨h1, -⟩; exact absurd h0 h1
    · have hy : y = (par l k : Int) := by
        have := (T.up k h0 hk).1
        rw [gk] at this; exact Option.some.inj this
      have ha : at_ = (par l k : Int) := by
        rcases hs with h1 | h1
        · exact absurd (h.k0 h1) h0
        · omega
      constructor
      · rintro ⟨t, h1, h2⟩
        obtain rfl : t = par l k := by omega
        exact ⟨h0, h2⟩
      · rintro ⟨-, h2⟩; exact ⟨_, ha, h2⟩
  rw [key]
/-- Of the first ones that go to a block. -/
def PreM (s : List (List Int)) (l : List Int) (k : Nat) (r : List Int) (M : Nat → Bool) : Prop := ∀ a, M a = true ↔ ∃ p : Nat, (p : Int) ∈ r ∧ Rc s p ∧ Anc l a p ∧ ¬ (k ≠ 0 ∧ Anc l a (par l k))
theorem PreM.start {k : Nat} : PreM s l k [] (fun _ => false) := fun a => ⟨(fun h => by cases h), fun ⟨p, h, _⟩ => by cases h⟩
theorem PreM.skip {k p : Nat} {r : List Int} {M : Nat → Bool} (h : PreM s l k r M) (hp : ¬ Rc s p) : PreM s l k (r ++ [(p : Int)]) M := fun a => by
  rw [h a]
  constructor
  · rintro ⟨q, h1, h2⟩; exact ⟨q, List.mem_append_left _ h1, h2⟩
  · rintro ⟨q, h1, h2⟩
    rcases List.mem_append.1 h1 with h1 | h1
    · exact ⟨q, h1, h2⟩
    · obtain rfl : q = p := by have := List.mem_singleton.1 h1; omega
      exact absurd h2.1 hp
theorem PreM.next {k p : Nat} {r : List Int} {M0 M : Nat → Bool} (h : PreM s l k r M0) (hp : Rc s p) (hM : ∀ a, M a = true ↔ M0 a = true ∨ (Anc l a p ∧ ¬ (k ≠ 0 ∧ Anc l a (par l k)))) : PreM s l k (r ++ [(p : Int)]) M := fun a => by
  rw [hM a, h a]
  constructor
  · rintro (⟨q, h1, h2⟩ | h1)
    · exact ⟨q, List.mem_append_left _ h1, h2⟩
    · exact ⟨p, by simp, hp, h1⟩
  · rintro ⟨q, h1, h2, h3⟩
    rcases List.mem_append.1 h1 with h1 | h1
    · exact .inl ⟨q, h1, h2, h3⟩
    · obtain rfl : q = p := by have := List.mem_singleton.1 h1; omega
      exact .inr h3
theorem PreM.all {k : Nat} {M : Nat → Bool} (T : TreeP s l) (hk : Rc s k) (h : PreM s l k (predOf s k s.length) M) (a : Nat) : M a = rimB s a k := by
  rw [Bool.eq_iff_iff, h a, rimB_iff]
  constructor
  · rintro ⟨p, h1, h2, h3, h4⟩
    refine ⟨hk, ⟨p, mem_predOf.1 h1, (T.dom a p h2).1 h3⟩, ?_⟩
    by_cases e : a = k
    · exact .inl e
    · right
      intro h5
      exact h4 ((T.dom a k hk).2 h5 |>.more e)
  · rintro ⟨-, ⟨p, h1, h2⟩, h3⟩
    have hp : Rc s p := h2.2.1
    refine ⟨p, mem_predOf.2 h1, hp, (T.dom a p hp).2 h2, fun ⟨h4, h5⟩ => ?_⟩
    rcases h3 with rfl | h3
    · obtain ⟨pl, hpl, hanc⟩ := T.anc_lt
      have := hanc _ _ (T.up a h4 hk).2 h5
      have := hpl a h4 hk
      omega
    · exact h3 ((T.dom a k hk).1 (.up h4 h5))
theorem rimTo_none {k a : Nat} (h : ¬ Rc s k) : rimB s a k = false := by
  rw [Bool.eq_false_iff]
  intro h2
  exact h (rimB_iff.1 h2).1
end
end Go.Proofs.Ytjjijklonnhdeaa

/- The rim of each block, as the program reckons it, by a contract. -/
namespace Go.Proofs.Ytjjijklonnhdeaa
open Go.Ax
set_option maxRecDepth 10000
set_option linter.unusedVariables false

theorem run_unf {P : Program} {f : Nat} {Q : Post} {todo : List Item} {tm : TM} {hp hp' : HP} {nx nt : Nat} (id : Nat) (h : unf1 id hp = some hp') (k : Run P f Q todo ⟨tm, hp', nx, nt⟩) : Run P f Q todo ⟨tm, hp, nx, nt⟩ := by
  intro S0 B w0 I a w hlo hr
  exact k S0 B w0 I a w hlo (Rel.unf hr h)
theorem Index97_spec (l : List Int) (x : Int) (hl : l.length ≤ 1000000000) : FnSpec Try.prog 35 [ints l, num x] (fun r => ∃ n : Int, r = num n ∧ (0 ≤ n ↔ x ∈ l)) := by
  refine spec_of 1000 Try.func35 rfl rfl ?_
  repeat' first | refine Len.map ?_ | refine Len.nil ?_ | refine Len.cons ?_ | refine Br.t rfl ?_ | refine Br.f rfl ?_ | refine Fit.au ?_ | refine Cv.au ?_ | refine Need.ne ?_ | refine Need.au ?_ | refine Pick.map (by assumption) ?_ | refine Pick.mapI (by omega) (by assumption) ?_ | refine PickN.mk _ (by assumption) ?_ | refine PickN.mk _ rfl ?_ | refine PickN.au ?_ | refine App.au rfl ?_ | refine App.au (own_map (fun _ => rfl) _) ?_ | refine Both.mk ?_ ?_ | exact True.intro
  refine Stop.mk (loop_in (g := []) (fun k : Nat => [(0, ints l), (1, num x), (7, num l.length), (8, num k)]) (fun k => []) 0 (fun k => k ≤ l.length ∧ x ∉ l.take k) (fun k => l.length - k) 0 ⟨by omega, by simp⟩ ⟨rfl, (by repeat' first | exact trivial | refine ⟨rfl, ?_⟩ | refine ⟨congrArg (fun n => AV.lit (.int .i64 n)) (by omega), ?_⟩ | refine ⟨congrArg (fun l => some (Row.row 1 l)) (by simp [int1, num, tru]), ?_⟩), (by repeat' first | exact trivial | refine ⟨rfl, ?_⟩ | refine ⟨congrArg (fun n => AV.lit (.int .i64 n)) (by omega), ?_⟩ | refine ⟨congrArg (fun l => some (Row.row 1 l)) (by simp [int1, num, tru]), ?_⟩)⟩ (fun k hk ih => ?_))
  obtain ⟨hk, hno⟩ := hk
  refine go 1000 Try.func35 ?_
  repeat' first | refine Len.map ?_ | refine Len.nil ?_ | refine Len.cons ?_ | refine Br.t rfl ?_ | refine Br.f rfl ?_ | refine Fit.au ?_ | refine Cv.au ?_ | refine Need.ne ?_ | refine Need.au ?_ | refine Pick.map (by assumption) ?_ | refine Pick.mapI (by omega) (by assumption) ?_ | refine PickN.mk _ (by assumption) ?_ | refine PickN.mk _ rfl ?_ | refine PickN.au ?_ | refine App.au rfl ?_ | refine App.au (own_map (fun _ => rfl) _) ?_ | refine Both.mk ?_ ?_ | exact True.intro
  refine Br.d (fun h2 => ?_) (fun h2 => ?_)
  · obtain ⟨y, gy, gym⟩ := getK (l := l) (k := k) (by omega)
    repeat' first | refine Pick.map gy ?_ | refine Len.map ?_ | refine Len.nil ?_ | refine Len.cons ?_ | refine Br.t rfl ?_ | refine Br.f rfl ?_ | refine Fit.au ?_ | refine Cv.au ?_ | refine Need.ne ?_ | refine Need.au ?_ | refine Pick.map (by assumption) ?_ | refine Pick.mapI (by omega) (by assumption) ?_ | refine PickN.mk _ (by assumption) ?_ | refine PickN.mk _ rfl ?_ | refine PickN.au ?_ | refine App.au rfl ?_ | refine App.au (own_map (fun _ => rfl) _) ?_ | refine Both.mk ?_ ?_ | exact True.intro
    refine Br.d (fun h3 => ?_) (fun h3 => ?_)
    · repeat' first | refine Len.map ?_ | refine Len.nil ?_ | refine Len.cons ?_ | refine Br.t rfl ?_ | refine Br.f rfl ?_ | refine Fit.au ?_ | refine Cv.au ?_ | refine Need.ne ?_ | refine Need.au ?_ | refine Pick.map (by assumption) ?_ | refine Pick.mapI (by omega) (by assumption) ?_ | refine PickN.mk _ (by assumption) ?_ | refine PickN.mk _ rfl ?_ | refine PickN.au ?_ | refine App.au rfl ?_ | refine App.au (own_map (fun _ => rfl) _) ?_ | refine Both.mk ?_ ?_ | exact True.intro
      exact ⟨k, rfl, fun _ => by rw [h3]; exact gym, fun _ => by omega⟩
    · repeat' first | refine Len.map ?_ | refine Len.nil ?_ | refine Len.cons ?_ | refine Br.t rfl ?_ | refine Br.f rfl ?_ | refine Fit.au ?_ | refine Cv.au ?_ | refine Need.ne ?_ | refine Need.au ?_ | refine Pick.map (by assumption) ?_ | refine Pick.mapI (by omega) (by assumption) ?_ | refine PickN.mk _ (by assumption) ?_ | refine PickN.mk _ rfl ?_ | refine PickN.au ?_ | refine App.au rfl ?_ | refine App.au (own_map (fun _ => rfl) _) ?_ | refine Both.mk ?_ ?_ | exact True.intro
      refine Stop.mk (ih (k + 1) (g := []) _ _ _ ⟨by omega, ?_⟩ (by omega) ⟨rfl, (by repeat' first | exact trivial | refine ⟨rfl, ?_⟩ | refine ⟨congrArg (fun n => AV.lit (.int .i64 n)) (by omega), ?_⟩ | refine ⟨congrArg (fun l => some (Row.row 1 l)) (by simp [int1, num, tru]), ?_⟩), (by repeat' first | exact trivial | refine ⟨rfl, ?_⟩ | refine ⟨congrArg (fun n => AV.lit (.int .i64 n)) (by omega), ?_⟩ | refine ⟨congrArg (fun l => some (Row.row 1 l)) (by simp [int1, num, tru]), ?_⟩)⟩)
      rw [take_succ gy, List.mem_append]
      rintro (h4 | h4)
      · exact hno h4
      · exact h3 (List.mem_singleton.1 h4)
  · rw [take_all (by omega)] at hno
    repeat' first | refine Len.map ?_ | refine Len.nil ?_ | refine Len.cons ?_ | refine Br.t rfl ?_ | refine Br.f rfl ?_ | refine Fit.au ?_ | refine Cv.au ?_ | refine Need.ne ?_ | refine Need.au ?_ | refine Pick.map (by assumption) ?_ | refine Pick.mapI (by omega) (by assumption) ?_ | refine PickN.mk _ (by assumption) ?_ | refine PickN.mk _ rfl ?_ | refine PickN.au ?_ | refine App.au rfl ?_ | refine App.au (own_map (fun _ => rfl) _) ?_ | refine Both.mk ?_ ?_ | exact True.intro
    exact ⟨-1, rfl, (fun h => absurd h (by decide)), fun h => absurd h hno⟩
theorem Contains70_spec (l : List Int) (x : Int) (hl : l.length ≤ 1000000000) : FnSpec Try.prog 26 [ints l, num x] (fun r => r = tru (decide (x ∈ l))) := by
  refine spec_of 1000 Try.func26 rfl rfl ?_
  repeat' first | refine Len.map ?_ | refine Len.nil ?_ | refine Len.cons ?_ | refine Br.t rfl ?_ | refine Br.f rfl ?_ | refine Fit.au ?_ | refine Cv.au ?_ | refine Need.ne ?_ | refine Need.au ?_ | refine Pick.map (by assumption) ?_ | refine Pick.mapI (by omega) (by assumption) ?_ | refine PickN.mk _ (by assumption) ?_ | refine PickN.mk _ rfl ?_ | refine PickN.au ?_ | refine App.au rfl ?_ | refine App.au (own_map (fun _ => rfl) _) ?_ | refine Both.mk ?_ ?_ | exact True.intro
  refine Call.of (Index97_spec l x hl) ?_
  rintro r ⟨n, rfl, hn⟩
  refine ⟨rfl, ?_⟩
  repeat' first | refine Len.map ?_ | refine Len.nil ?_ | refine Len.cons ?_ | refine Br.t rfl ?_ | refine Br.f rfl ?_ | refine Fit.au ?_ | refine Cv.au ?_ | refine Need.ne ?_ | refine Need.au ?_ | refine Pick.map (by assumption) ?_ | refine Pick.mapI (by omega) (by assumption) ?_ | refine PickN.mk _ (by assumption) ?_ | refine PickN.mk _ rfl ?_ | refine PickN.au ?_ | refine App.au rfl ?_ | refine App.au (own_map (fun _ => rfl) _) ?_ | refine Both.mk ?_ ?_ | exact True.intro
  have : decide (0 ≤ n) = decide (x ∈ l) := by rw [Bool.eq_iff_iff, decide_eq_true_iff, decide_eq_true_iff]; exact hn
  rw [← this]
  rfl
theorem set_olst2 {ls : List (List Int)} {n : Nat} {a : List Int} {x : Int} : (ls.map olst).set n [.osl 1 (a.map int1 ++ [[num x]])] = (ls.set n (a ++ [x])).map olst := by
  rw [List.map_set]
  congr 1
  unfold olst
  rw [List.map_append]; rfl

set_option maxHeartbeats 4000000 in
theorem Rims34_spec (f : Fun) (hf : f.fits) (hn : f.blocks.length ≤ 1000000) : FnSpec Try.prog 13 [funA f] (fun r => r = .osl 1 (((List.range f.blocks.length).map fun a => rimTo (succsF f) a f.blocks.length).map olst)) := by
  have hcl := succsF_closed f
  have hsl := succsF_len f
  have hT := Tree67_spec f hf hn
  have hP := Preds68_spec f hf hn
  have hR := Reach69_spec f hf hn
  refine spec_of 5 Try.func13 rfl rfl ?_
  repeat' first | refine Len.map ?_ | refine Len.nil ?_ | refine Len.cons ?_ | refine Br.t rfl ?_ | refine Br.f rfl ?_ | refine Fit.au ?_ | refine Cv.au ?_ | refine Need.ne ?_ | refine Need.au ?_ | refine Pick.map (by assumption) ?_ | refine Pick.mapI (by omega) (by assumption) ?_ | refine PickN.mk _ (by assumption) ?_ | refine PickN.mk _ rfl ?_ | refine PickN.au ?_ | refine App.au rfl ?_ | refine App.au (own_map (fun _ => rfl) _) ?_ | refine Both.mk ?_ ?_ | exact True.intro
  refine Stop.mk ?_
  apply join (fun l : List Int => [(1, .hp 0 0), (3, .hw 1), (4, .hw 2), (5, .hw 3)]) (fun l => [(0, .var f.cs), (1, .row 1 (l.map int1)), (2, .row 1 ((predsF (succsF f)).map olst)), (3, .row 1 ((marksF (succsF f) (-1)).map tb))]) 4 (fun l => TreeP (succsF f) l)
  · intro jn
    refine go 2 Try.func13 ?_
    repeat' first | refine Draw.mk (ordL [1, 3, 5] [0, 2, 4, 1, 3, 5, 6, 7, 8]) (by decide +kernel) ?_ | (refine Call.of hT ?_; rintro r ⟨l, rfl, hl⟩; refine ⟨rfl, ?_⟩) | refine Call.eq hP rfl ?_ | refine Call.eq hR rfl ?_ | refine Len.map ?_ | refine Len.nil ?_ | refine Len.cons ?_ | refine Br.t rfl ?_ | refine Br.f rfl ?_ | refine Fit.au ?_ | refine Cv.au ?_ | refine Need.ne ?_ | refine Need.au ?_ | refine Pick.map (by assumption) ?_ | refine Pick.mapI (by omega) (by assumption) ?_ | refine PickN.mk _ (by assumption) ?_ | refine PickN.mk _ rfl ?_ | refine PickN.au ?_ | refine App.au rfl ?_ | refine App.au (own_map (fun _ => rfl) _) ?_ | refine Both.mk ?_ ?_ | exact True.intro
    all_goals exact Stop.mk (jn l (g := []) _ _ _ ⟨rfl, (by repeat' first | exact trivial | refine ⟨rfl, ?_⟩ | refine ⟨congrArg (fun n => AV.lit (.int .i64 n)) (by omega), ?_⟩ | refine ⟨congrArg (fun l => some (Row.row 1 l)) (by simp [int1, num, tru]), ?_⟩), (by repeat' first | exact trivial | refine ⟨rfl, ?_⟩ | refine ⟨congrArg (fun n => AV.lit (.int .i64 n)) (by omega), ?_⟩ | refine ⟨congrArg (fun l => some (Row.row 1 l)) (by simp [int1, num, tru]), ?_⟩)⟩ hl)
  rintro l T
  refine run_frzR 1 rfl (fzi _) ?_
  refine run_frzR 2 rfl (fzLL_map fz_olsts _) ?_
  refine run_frzR 3 rfl (fzLL_map (enc2 := tb) (fun _ => rfl) _) ?_
  have hpl := predsF_len (succsF f)
  have hpg : ∀ c : Nat, c < (succsF f).length → (predsF (succsF f))[c]? = some (predOf (succsF f) c (succsF f).length) := fun c hc => by
    unfold predsF
    rw [List.getElem?_map, List.getElem?_range hc]; rfl
  have hpol := fun c : Nat => predOf_len (succsF f) c (succsF f).length
  have hml := marksF_len (succsF f) (-1)
  have hma := fun c : Nat => marksF_at (s := succsF f) (x := -1) (k := c)
  generalize succsF f = s at *
  generalize predsF s = P at *
  generalize marksF s (-1) = m at *
  rw [← hsl]
  refine Run.fr (g := []) (tm' := [(1, .hp 0 0), (3, ints l), (4, lsts P), (5, .sl false 1 (m.map tb))]) (hp' := [(0, .var f.cs)]) (nx' := 1) ?_ ⟨rfl, (by repeat' first | exact trivial | refine ⟨rfl, ?_⟩ | refine ⟨congrArg (fun n => AV.lit (.int .i64 n)) (by omega), ?_⟩ | refine ⟨congrArg (fun l => some (Row.row 1 l)) (by simp [int1, num, tru]), ?_⟩), (by repeat' first | exact trivial | refine ⟨rfl, ?_⟩ | refine ⟨congrArg (fun n => AV.lit (.int .i64 n)) (by omega), ?_⟩ | refine ⟨congrArg (fun l => some (Row.row 1 l)) (by simp [int1, num, tru]), ?_⟩)⟩
  refine go 1000 Try.func13 ?_
  repeat' first | refine MkS.mk _ rfl rfl (by omega) (by omega) ?_ | refine Len.map ?_ | refine Len.nil ?_ | refine Len.cons ?_ | refine Br.t rfl ?_ | refine Br.f rfl ?_ | refine Fit.au ?_ | refine Cv.au ?_ | refine Need.ne ?_ | refine Need.au ?_ | refine Pick.map (by assumption) ?_ | refine Pick.mapI (by omega) (by assumption) ?_ | refine PickN.mk _ (by assumption) ?_ | refine PickN.mk _ rfl ?_ | refine PickN.au ?_ | refine App.au rfl ?_ | refine App.au (own_map (fun _ => rfl) _) ?_ | refine Both.mk ?_ ?_ | exact True.intro
  refine Stop.mk (run_rowO 1 rfl (zero_olst _) ?_)
  rw [← hsl, ← rimMid_zero (s := s)]
  refine loop_in (g := []) (fun k : Nat => [(3, ints l), (4, lsts P), (5, .sl false 1 (m.map tb)), (6, .hw 1), (22, .sl false 1 (m.map tb)), (23, num m.length), (24, num k)]) (fun k => [(1, .row 1 ((rimMid s s.length k (fun _ => false)).map olst))]) 2 (fun k => k ≤ s.length) (fun k => s.length - k) 0 (by omega) ⟨rfl, (by repeat' first | exact trivial | refine ⟨rfl, ?_⟩ | refine ⟨congrArg (fun n => AV.lit (.int .i64 n)) (by omega), ?_⟩ | refine ⟨congrArg (fun l => some (Row.row 1 l)) (by simp [int1, num, tru]), ?_⟩), (by repeat' first | exact trivial | refine ⟨rfl, ?_⟩ | refine ⟨congrArg (fun n => AV.lit (.int .i64 n)) (by omega), ?_⟩ | refine ⟨congrArg (fun l => some (Row.row 1 l)) (by simp [int1, num, tru]), ?_⟩)⟩ (fun k hk ih => ?_)
  refine go 1000 Try.func13 ?_
  repeat' first | refine Len.map ?_ | refine Len.nil ?_ | refine Len.cons ?_ | refine Br.t rfl ?_ | refine Br.f rfl ?_ | refine Fit.au ?_ | refine Cv.au ?_ | refine Need.ne ?_ | refine Need.au ?_ | refine Pick.map (by assumption) ?_ | refine Pick.mapI (by omega) (by assumption) ?_ | refine PickN.mk _ (by assumption) ?_ | refine PickN.mk _ rfl ?_ | refine PickN.au ?_ | refine App.au rfl ?_ | refine App.au (own_map (fun _ => rfl) _) ?_ | refine Both.mk ?_ ?_ | exact True.intro
  refine Br.d (fun h2 => ?_) (fun h2 => ?_)
  rotate_left
  · repeat' first | refine Len.map ?_ | refine Len.nil ?_ | refine Len.cons ?_ | refine Br.t rfl ?_ | refine Br.f rfl ?_ | refine Fit.au ?_ | refine Cv.au ?_ | refine Need.ne ?_ | refine Need.au ?_ | refine Pick.map (by assumption) ?_ | refine Pick.mapI (by omega) (by assumption) ?_ | refine PickN.mk _ (by assumption) ?_ | refine PickN.mk _ rfl ?_ | refine PickN.au ?_ | refine App.au rfl ?_ | refine App.au (own_map (fun _ => rfl) _) ?_ | refine Both.mk ?_ ?_ | exact True.intro
    rw [show k = s.length by omega, rimMid_all]
    rfl
  obtain ⟨b, gb, -⟩ := getK (l := m) (k := k) (by omega)
  repeat' first | refine Pick.map gb ?_ | refine Len.map ?_ | refine Len.nil ?_ | refine Len.cons ?_ | refine Br.t rfl ?_ | refine Br.f rfl ?_ | refine Fit.au ?_ | refine Cv.au ?_ | refine Need.ne ?_ | refine Need.au ?_ | refine Pick.map (by assumption) ?_ | refine Pick.mapI (by omega) (by assumption) ?_ | refine PickN.mk _ (by assumption) ?_ | refine PickN.mk _ rfl ?_ | refine PickN.au ?_ | refine App.au rfl ?_ | refine App.au (own_map (fun _ => rfl) _) ?_ | refine Both.mk ?_ ?_ | exact True.intro
  refine Br.mk (fun h3 => ?_) (fun h3 => ?_)
  · have hkR : ¬ Rc s k := fun h => by
      have := (hma k).2 ⟨by omega, h⟩
      rw [gb] at this
      simp_all
    have hend := rimMid_end (s := s) (n := s.length) (k := k) (M := fun _ => false) fun a => (rimTo_none hkR).symm
    repeat' first | refine Len.map ?_ | refine Len.nil ?_ | refine Len.cons ?_ | refine Br.t rfl ?_ | refine Br.f rfl ?_ | refine Fit.au ?_ | refine Cv.au ?_ | refine Need.ne ?_ | refine Need.au ?_ | refine Pick.map (by assumption) ?_ | refine Pick.mapI (by omega) (by assumption) ?_ | refine PickN.mk _ (by assumption) ?_ | refine PickN.mk _ rfl ?_ | refine PickN.au ?_ | refine App.au rfl ?_ | refine App.au (own_map (fun _ => rfl) _) ?_ | refine Both.mk ?_ ?_ | exact True.intro
    refine Stop.mk (ih (k + 1) (g := []) _ _ _ (by omega) (by omega) ?_)
    rw [← hend]
    exact ⟨rfl, (by repeat' first | exact trivial | refine ⟨rfl, ?_⟩ | refine ⟨congrArg (fun n => AV.lit (.int .i64 n)) (by omega), ?_⟩ | refine ⟨congrArg (fun l => some (Row.row 1 l)) (by simp [int1, num, tru]), ?_⟩), (by repeat' first | exact trivial | refine ⟨rfl, ?_⟩ | refine ⟨congrArg (fun n => AV.lit (.int .i64 n)) (by omega), ?_⟩ | refine ⟨congrArg (fun l => some (Row.row 1 l)) (by simp [int1, num, tru]), ?_⟩)⟩
  have hkR : Rc s k := ((hma k).1 (by rw [gb]; simpa using h3)).2
  have gr := hpg k (by omega)
  have hrn := fun (x : Int) (h : x ∈ predOf s k s.length) => predOf_nn h
  have hrl := hpol k
  have hall := fun M (h : PreM s l k (predOf s k s.length) M) => rimMid_end (s := s) (n := s.length) (k := k) (h.all T hkR)
  obtain ⟨y, gy, -⟩ := getK (l := l) (k := k) (by have := T.len; omega)
  generalize predOf s k s.length = r at *
  have hy : ∀ p, Rc s p → Ed s p k → (k ≠ 0 → Anc l (par l k) p) := fun p hp he h0 =>
    (T.dom _ p hp).2 (((T.dom _ k hkR).1 (.up h0 .self)).pred hp he fun e => by
      obtain ⟨pl, h1, -⟩ := T.anc_lt
      have := h1 k h0 hkR
      rw [e] at this; omega)
  obtain ⟨plw, hplw, -⟩ := T.anc_lt
  repeat' first | refine Pick.map gr ?_ | refine Len.map ?_ | refine Len.nil ?_ | refine Len.cons ?_ | refine Br.t rfl ?_ | refine Br.f rfl ?_ | refine Fit.au ?_ | refine Cv.au ?_ | refine Need.ne ?_ | refine Need.au ?_ | refine Pick.map (by assumption) ?_ | refine Pick.mapI (by omega) (by assumption) ?_ | refine PickN.mk _ (by assumption) ?_ | refine PickN.mk _ rfl ?_ | refine PickN.au ?_ | refine App.au rfl ?_ | refine App.au (own_map (fun _ => rfl) _) ?_ | refine Both.mk ?_ ?_ | exact True.intro
  refine Stop.mk (loop_in (g := []) (fun p : Nat × (Nat → Bool) => [(3, ints l), (4, lsts P), (5, .sl false 1 (m.map tb)), (6, .hw 1), (22, .sl false 1 (m.map tb)), (23, num m.length), (24, num k), (7, num k), (34, ints r), (35, num r.length), (36, num p.1)]) (fun p => [(1, .row 1 ((rimMid s s.length k p.2).map olst))]) 2 (fun p => p.1 ≤ r.length ∧ PreM s l k (r.take p.1) p.2) (fun p => r.length - p.1) (0, fun _ => false) ⟨by simp only; omega, .start⟩ ⟨rfl, (by repeat' first | exact trivial | refine ⟨rfl, ?_⟩ | refine ⟨congrArg (fun n => AV.lit (.int .i64 n)) (by omega), ?_⟩ | refine ⟨congrArg (fun l => some (Row.row 1 l)) (by simp [int1, num, tru]), ?_⟩), (by repeat' first | exact trivial | refine ⟨rfl, ?_⟩ | refine ⟨congrArg (fun n => AV.lit (.int .i64 n)) (by omega), ?_⟩ | refine ⟨congrArg (fun l => some (Row.row 1 l)) (by simp [int1, num, tru]), ?_⟩)⟩ (fun p hp ih2 => ?_))
  obtain ⟨j, M⟩ := p
  obtain ⟨hj, hM⟩ := hp
  dsimp only at hj hM ih2 ⊢
  refine go 1000 Try.func13 ?_
  repeat' first | refine Len.map ?_ | refine Len.nil ?_ | refine Len.cons ?_ | refine Br.t rfl ?_ | refine Br.f rfl ?_ | refine Fit.au ?_ | refine Cv.au ?_ | refine Need.ne ?_ | refine Need.au ?_ | refine Pick.map (by assumption) ?_ | refine Pick.mapI (by omega) (by assumption) ?_ | refine PickN.mk _ (by assumption) ?_ | refine PickN.mk _ rfl ?_ | refine PickN.au ?_ | refine App.au rfl ?_ | refine App.au (own_map (fun _ => rfl) _) ?_ | refine Both.mk ?_ ?_ | exact True.intro
  refine Br.d (fun h4 => ?_) (fun h4 => ?_)
  rotate_left
  · rw [take_all (by omega)] at hM
    have hend := hall M hM
    repeat' first | refine Len.map ?_ | refine Len.nil ?_ | refine Len.cons ?_ | refine Br.t rfl ?_ | refine Br.f rfl ?_ | refine Fit.au ?_ | refine Cv.au ?_ | refine Need.ne ?_ | refine Need.au ?_ | refine Pick.map (by assumption) ?_ | refine Pick.mapI (by omega) (by assumption) ?_ | refine PickN.mk _ (by assumption) ?_ | refine PickN.mk _ rfl ?_ | refine PickN.au ?_ | refine App.au rfl ?_ | refine App.au (own_map (fun _ => rfl) _) ?_ | refine Both.mk ?_ ?_ | exact True.intro
    refine Stop.mk (ih (k + 1) (g := []) _ _ _ (by omega) (by omega) ?_)
    rw [← hend]
    exact ⟨rfl, (by repeat' first | exact trivial | refine ⟨rfl, ?_⟩ | refine ⟨congrArg (fun n => AV.lit (.int .i64 n)) (by omega), ?_⟩ | refine ⟨congrArg (fun l => some (Row.row 1 l)) (by simp [int1, num, tru]), ?_⟩), (by repeat' first | exact trivial | refine ⟨rfl, ?_⟩ | refine ⟨congrArg (fun n => AV.lit (.int .i64 n)) (by omega), ?_⟩ | refine ⟨congrArg (fun l => some (Row.row 1 l)) (by simp [int1, num, tru]), ?_⟩)⟩
  obtain ⟨y', gp, gpm⟩ := getK (l := r) (k := j) (by omega)
  obtain ⟨p, rfl, hpE⟩ := hrn y' gpm
  have hpk : p < s.length := by
    obtain ⟨q, gq, -⟩ := hpE
    exact (List.getElem?_eq_some_iff.1 gq).1
  obtain ⟨bp, gbp, -⟩ := getK (l := m) (k := p) (by omega)
  have htk := take_succ gp
  repeat' first | refine Pick.map gp ?_ | refine Len.map ?_ | refine Len.nil ?_ | refine Len.cons ?_ | refine Br.t rfl ?_ | refine Br.f rfl ?_ | refine Fit.au ?_ | refine Cv.au ?_ | refine Need.ne ?_ | refine Need.au ?_ | refine Pick.map (by assumption) ?_ | refine Pick.mapI (by omega) (by assumption) ?_ | refine PickN.mk _ (by assumption) ?_ | refine PickN.mk _ rfl ?_ | refine PickN.au ?_ | refine App.au rfl ?_ | refine App.au (own_map (fun _ => rfl) _) ?_ | refine Both.mk ?_ ?_ | exact True.intro
  by_cases hpR : Rc s p
  · have hbp : bp = true := by
      have := (hma p).2 ⟨hpk, hpR⟩
      rw [gbp] at this; exact Option.some.inj this
    subst hbp
    refine Stop.mk (loop_in (g := []) (fun q : Int × (Nat → Bool) => [(3, ints l), (4, lsts P), (5, .sl false 1 (m.map tb)), (6, .hw 1), (22, .sl false 1 (m.map tb)), (23, num m.length), (24, num k), (7, num k), (34, ints r), (35, num r.length), (36, num j), (10, num p), (11, num q.1)]) (fun q => [(1, .row 1 ((rimMid s s.length k q.2).map olst))]) 2 (fun q => Walk s l k p M q.1 q.2) (fun q => if q.1 < 0 then 0 else plw q.1.toNat + 1) ((p : Int), M) (.start hpR (hy p hpR hpE)) ⟨rfl, (by repeat' first | exact trivial | refine ⟨rfl, ?_⟩ | refine ⟨congrArg (fun n => AV.lit (.int .i64 n)) (by omega), ?_⟩ | refine ⟨congrArg (fun l => some (Row.row 1 l)) (by simp [int1, num, tru]), ?_⟩), (by repeat' first | exact trivial | refine ⟨rfl, ?_⟩ | refine ⟨congrArg (fun n => AV.lit (.int .i64 n)) (by omega), ?_⟩ | refine ⟨congrArg (fun l => some (Row.row 1 l)) (by simp [int1, num, tru]), ?_⟩)⟩ (fun q hW ih3 => ?_))
    obtain ⟨at_, M'⟩ := q
    dsimp only at hW ih3 ⊢
    have hdone := fun hs => hM.next hpR fun a => hW.done T hkR (by omega) gy hs a
    refine go 1000 Try.func13 ?_
    repeat' first | refine Pick.map gbp ?_ | refine Len.map ?_ | refine Len.nil ?_ | refine Len.cons ?_ | refine Br.t rfl ?_ | refine Br.f rfl ?_ | refine Fit.au ?_ | refine Cv.au ?_ | refine Need.ne ?_ | refine Need.au ?_ | refine Pick.map (by assumption) ?_ | refine Pick.mapI (by omega) (by assumption) ?_ | refine PickN.mk _ (by assumption) ?_ | refine PickN.mk _ rfl ?_ | refine PickN.au ?_ | refine App.au rfl ?_ | refine App.au (own_map (fun _ => rfl) _) ?_ | refine Both.mk ?_ ?_ | exact True.intro
    refine Br.d (fun h5 => ?_) (fun h5 => ?_)
    · obtain ⟨t, rfl, htR, htp, htk2⟩ := hW.on.resolve_left (by omega)
      have hts := Rc_lt hcl htR
      obtain ⟨z, gz, -⟩ := getK (l := l) (k := t) (by have := T.len; omega)
      repeat' first | refine Pick.map gy ?_ | refine Len.map ?_ | refine Len.nil ?_ | refine Len.cons ?_ | refine Br.t rfl ?_ | refine Br.f rfl ?_ | refine Fit.au ?_ | refine Cv.au ?_ | refine Need.ne ?_ | refine Need.au ?_ | refine Pick.map (by assumption) ?_ | refine Pick.mapI (by omega) (by assumption) ?_ | refine PickN.mk _ (by assumption) ?_ | refine PickN.mk _ rfl ?_ | refine PickN.au ?_ | refine App.au rfl ?_ | refine App.au (own_map (fun _ => rfl) _) ?_ | refine Both.mk ?_ ?_ | exact True.intro
      refine Br.nd (fun h6 => ?_) (fun h6 => ?_)
      · have hstep := hW.step T hkR gy h6 gz
        have hrow := rimMid_at (s := s) (n := s.length) (k := k) (M := M') hts
        have hmlen := rimMid_len s s.length k M'
        have hnew := rimMid_set (s := s) (n := s.length) (k := k) (M := M') hts
        have hsame := rimMid_same (s := s) (n := s.length) (k := k) (M := M') (a := t)
        have hhas := rimMid_has (s := s) (k := k) (M := M') (a := t)
        have hlen : (rimTo s t k ++ if M' t = true then [(k : Int)] else []).length ≤ 1000001 := by
          have := @rimTo_len s t k
          rw [List.length_append]
          split <;> simp <;> omega
        have hz : z = -1 ∨ ∃ t2 : Nat, z = (t2 : Int) := by
          rcases hstep.on with h7 | ⟨t2, h7, -⟩
          · exact .inl h7
          · exact .inr ⟨t2, h7⟩
        have hmu : (if z < 0 then 0 else plw z.toNat + 1) < (if (t : Int) < 0 then 0 else plw (t : Int).toNat + 1) := by
          have e1 : ¬ ((t : Int) < 0) := by omega
          rw [if_neg e1]
          split
          · omega
          · have ht0 : t ≠ 0 := fun e => by
              subst e
              have := T.out 0 hts (.inl rfl)
              rw [gz] at this
              have := Option.some.inj this
              omega
            have h8 := (T.up t ht0 htR).1
            rw [gz] at h8
            have h9 := Option.some.inj h8
            have := hplw t ht0 htR
            rw [h9]
            simp only [Int.toNat_natCast]
            omega
        generalize (rimTo s t k ++ if M' t = true then [(k : Int)] else []) = row at *
        have hid0 : ((rimMid s s.length k M').map olst).set t [.osl 1 (row.map int1)] = (rimMid s s.length k M').map olst := by
          apply List.ext_getElem?
          intro x
          rw [List.getElem?_set]
          split
          · rename_i e; subst e
            rw [if_pos (by rw [List.length_map, hmlen]; exact hts), List.getElem?_map, hrow]; rfl
          · rfl
        repeat' first | refine PickN.map hrow ?_ | refine Len.map ?_ | refine Len.nil ?_ | refine Len.cons ?_ | refine Br.t rfl ?_ | refine Br.f rfl ?_ | refine Fit.au ?_ | refine Cv.au ?_ | refine Need.ne ?_ | refine Need.au ?_ | refine Pick.map (by assumption) ?_ | refine Pick.mapI (by omega) (by assumption) ?_ | refine PickN.mk _ (by assumption) ?_ | refine PickN.mk _ rfl ?_ | refine PickN.au ?_ | refine App.au rfl ?_ | refine App.au (own_map (fun _ => rfl) _) ?_ | refine Both.mk ?_ ?_ | exact True.intro
        refine Look.stop (Stop.mk ?_)
        refine run_inlC rfl want_none rfl rfl rfl rfl rfl rfl rfl (goI 1000 Try.func26 ?_)
        repeat' first | refine Len.map ?_ | refine Len.nil ?_ | refine Len.cons ?_ | refine Br.t rfl ?_ | refine Br.f rfl ?_ | refine Fit.au ?_ | refine Cv.au ?_ | refine Need.ne ?_ | refine Need.au ?_ | refine Pick.map (by assumption) ?_ | refine Pick.mapI (by omega) (by assumption) ?_ | refine PickN.mk _ (by assumption) ?_ | refine PickN.mk _ rfl ?_ | refine PickN.au ?_ | refine App.au rfl ?_ | refine App.au (own_map (fun _ => rfl) _) ?_ | refine Both.mk ?_ ?_ | exact True.intro
        refine Look.stop (Stop.mk ?_)
        refine run_inlC rfl want_none rfl rfl rfl rfl rfl rfl rfl (goI 1000 Try.func35 ?_)
        repeat' first | refine Len.map ?_ | refine Len.nil ?_ | refine Len.cons ?_ | refine Br.t rfl ?_ | refine Br.f rfl ?_ | refine Fit.au ?_ | refine Cv.au ?_ | refine Need.ne ?_ | refine Need.au ?_ | refine Pick.map (by assumption) ?_ | refine Pick.mapI (by omega) (by assumption) ?_ | refine PickN.mk _ (by assumption) ?_ | refine PickN.mk _ rfl ?_ | refine PickN.au ?_ | refine App.au rfl ?_ | refine App.au (own_map (fun _ => rfl) _) ?_ | refine Both.mk ?_ ?_ | exact True.intro
        refine Stop.mk (loop_in (g := []) (fun q : Nat => [(0, .hw 2), (1, num k), (7, num row.length), (8, num q)]) (fun q => [(2, .row 1 (row.map int1)), (1, .foc 1 ((rimMid s s.length k M').map olst) [.osl 1 (row.map int1)] t 0 2)]) 3 (fun q => q ≤ row.length ∧ (k : Int) ∉ row.take q) (fun q => row.length - q) 0 ⟨by omega, by simp⟩ ⟨rfl, (by repeat' first | exact trivial | refine ⟨rfl, ?_⟩ | refine ⟨congrArg (fun n => AV.lit (.int .i64 n)) (by omega), ?_⟩ | refine ⟨congrArg (fun l => some (Row.row 1 l)) (by simp [int1, num, tru]), ?_⟩), (by repeat' first | exact trivial | refine ⟨rfl, ?_⟩ | refine ⟨congrArg (fun n => AV.lit (.int .i64 n)) (by omega), ?_⟩ | refine ⟨congrArg (fun l => some (Row.row 1 l)) (by simp [int1, num, tru]), ?_⟩)⟩ (fun q hq ih4 => ?_))
        obtain ⟨hq1, hq2⟩ := hq
        refine goI 1000 Try.func35 ?_
        repeat' first | refine Len.map ?_ | refine Len.nil ?_ | refine Len.cons ?_ | refine Br.t rfl ?_ | refine Br.f rfl ?_ | refine Fit.au ?_ | refine Cv.au ?_ | refine Need.ne ?_ | refine Need.au ?_ | refine Pick.map (by assumption) ?_ | refine Pick.mapI (by omega) (by assumption) ?_ | refine PickN.mk _ (by assumption) ?_ | refine PickN.mk _ rfl ?_ | refine PickN.au ?_ | refine App.au rfl ?_ | refine App.au (own_map (fun _ => rfl) _) ?_ | refine Both.mk ?_ ?_ | exact True.intro
        refine Br.d (fun h7 => ?_) (fun h7 => ?_)
        · obtain ⟨x, gx, gxm⟩ := getK (l := row) (k := q) (by omega)
          repeat' first | refine Pick.map gx ?_ | refine Len.map ?_ | refine Len.nil ?_ | refine Len.cons ?_ | refine Br.t rfl ?_ | refine Br.f rfl ?_ | refine Fit.au ?_ | refine Cv.au ?_ | refine Need.ne ?_ | refine Need.au ?_ | refine Pick.map (by assumption) ?_ | refine Pick.mapI (by omega) (by assumption) ?_ | refine PickN.mk _ (by assumption) ?_ | refine PickN.mk _ rfl ?_ | refine PickN.au ?_ | refine App.au rfl ?_ | refine App.au (own_map (fun _ => rfl) _) ?_ | refine Both.mk ?_ ?_ | exact True.intro
          refine Br.d (fun h8 => ?_) (fun h8 => ?_)
          · have hMt : M' t = true := hhas.1 (by rw [h8]; exact gxm)
            repeat' first | refine Len.map ?_ | refine Len.nil ?_ | refine Len.cons ?_ | refine Br.t rfl ?_ | refine Br.f rfl ?_ | refine Fit.au ?_ | refine Cv.au ?_ | refine Need.ne ?_ | refine Need.au ?_ | refine Pick.map (by assumption) ?_ | refine Pick.mapI (by omega) (by assumption) ?_ | refine PickN.mk _ (by assumption) ?_ | refine PickN.mk _ rfl ?_ | refine PickN.au ?_ | refine App.au rfl ?_ | refine App.au (own_map (fun _ => rfl) _) ?_ | refine Both.mk ?_ ?_ | exact True.intro
            refine goI 1000 Try.func26 ?_
            repeat' first | refine Len.map ?_ | refine Len.nil ?_ | refine Len.cons ?_ | refine Br.t rfl ?_ | refine Br.f rfl ?_ | refine Fit.au ?_ | refine Cv.au ?_ | refine Need.ne ?_ | refine Need.au ?_ | refine Pick.map (by assumption) ?_ | refine Pick.mapI (by omega) (by assumption) ?_ | refine PickN.mk _ (by assumption) ?_ | refine PickN.mk _ rfl ?_ | refine PickN.au ?_ | refine App.au rfl ?_ | refine App.au (own_map (fun _ => rfl) _) ?_ | refine Both.mk ?_ ?_ | exact True.intro
            refine run_unf 1 (hp' := [(1, .row 1 ((rimMid s s.length k M').map olst))]) (by show some [(1, Row.row 1 (((rimMid s s.length k M').map olst).set t [AV.osl 1 (row.map int1)]))] = _; rw [hid0]) ?_
            refine go 1000 Try.func13 ?_
            repeat' first | refine Pick.map gz ?_ | (refine Br.f ?_ ?_; focus (simp; omega)) | refine Len.map ?_ | refine Len.nil ?_ | refine Len.cons ?_ | refine Br.t rfl ?_ | refine Br.f rfl ?_ | refine Fit.au ?_ | refine Cv.au ?_ | refine Need.ne ?_ | refine Need.au ?_ | refine Pick.map (by assumption) ?_ | refine Pick.mapI (by omega) (by assumption) ?_ | refine PickN.mk _ (by assumption) ?_ | refine PickN.mk _ rfl ?_ | refine PickN.au ?_ | refine App.au rfl ?_ | refine App.au (own_map (fun _ => rfl) _) ?_ | refine Both.mk ?_ ?_ | exact True.intro
            refine Stop.mk (ih3 (z, fun x => M' x || decide (x = t)) (g := []) _ _ _ hstep hmu ?_)
            dsimp only
            rw [← hsame hMt]
            exact ⟨rfl, (by repeat' first | exact trivial | refine ⟨rfl, ?_⟩ | refine ⟨congrArg (fun n => AV.lit (.int .i64 n)) (by omega), ?_⟩ | refine ⟨congrArg (fun l => some (Row.row 1 l)) (by simp [int1, num, tru]), ?_⟩), (by repeat' first | exact trivial | refine ⟨rfl, ?_⟩ | refine ⟨congrArg (fun n => AV.lit (.int .i64 n)) (by omega), ?_⟩ | refine ⟨congrArg (fun l => some (Row.row 1 l)) (by simp [int1, num, tru]), ?_⟩)⟩
          · repeat' first | refine Len.map ?_ | refine Len.nil ?_ | refine Len.cons ?_ | refine Br.t rfl ?_ | refine Br.f rfl ?_ | refine Fit.au ?_ | refine Cv.au ?_ | refine Need.ne ?_ | refine Need.au ?_ | refine Pick.map (by assumption) ?_ | refine Pick.mapI (by omega) (by assumption) ?_ | refine PickN.mk _ (by assumption) ?_ | refine PickN.mk _ rfl ?_ | refine PickN.au ?_ | refine App.au rfl ?_ | refine App.au (own_map (fun _ => rfl) _) ?_ | refine Both.mk ?_ ?_ | exact True.intro
            refine Stop.mk (ih4 (q + 1) (g := []) _ _ _ ⟨by omega, ?_⟩ (by omega) ⟨rfl, (by repeat' first | exact trivial | refine ⟨rfl, ?_⟩ | refine ⟨congrArg (fun n => AV.lit (.int .i64 n)) (by omega), ?_⟩ | refine ⟨congrArg (fun l => some (Row.row 1 l)) (by simp [int1, num, tru]), ?_⟩), (by repeat' first | exact trivial | refine ⟨rfl, ?_⟩ | refine ⟨congrArg (fun n => AV.lit (.int .i64 n)) (by omega), ?_⟩ | refine ⟨congrArg (fun l => some (Row.row 1 l)) (by simp [int1, num, tru]), ?_⟩)⟩)
            rw [take_succ gx, List.mem_append]
            rintro (h9 | h9)
            · exact hq2 h9
            · exact h8 (List.mem_singleton.1 h9)
        · rw [take_all (by omega)] at hq2
          have hMt : M' t ≠ true := fun h => hq2 (hhas.2 h)
          have hnw := hnew hMt
          repeat' first | refine Len.map ?_ | refine Len.nil ?_ | refine Len.cons ?_ | refine Br.t rfl ?_ | refine Br.f rfl ?_ | refine Fit.au ?_ | refine Cv.au ?_ | refine Need.ne ?_ | refine Need.au ?_ | refine Pick.map (by assumption) ?_ | refine Pick.mapI (by omega) (by assumption) ?_ | refine PickN.mk _ (by assumption) ?_ | refine PickN.mk _ rfl ?_ | refine PickN.au ?_ | refine App.au rfl ?_ | refine App.au (own_map (fun _ => rfl) _) ?_ | refine Both.mk ?_ ?_ | exact True.intro
          refine goI 1000 Try.func26 ?_
          repeat' first | refine Len.map ?_ | refine Len.nil ?_ | refine Len.cons ?_ | refine Br.t rfl ?_ | refine Br.f rfl ?_ | refine Fit.au ?_ | refine Cv.au ?_ | refine Need.ne ?_ | refine Need.au ?_ | refine Pick.map (by assumption) ?_ | refine Pick.mapI (by omega) (by assumption) ?_ | refine PickN.mk _ (by assumption) ?_ | refine PickN.mk _ rfl ?_ | refine PickN.au ?_ | refine App.au rfl ?_ | refine App.au (own_map (fun _ => rfl) _) ?_ | refine Both.mk ?_ ?_ | exact True.intro
          refine run_unf 1 (hp' := [(1, .row 1 ((rimMid s s.length k M').map olst))]) (by show some [(1, Row.row 1 (((rimMid s s.length k M').map olst).set t [AV.osl 1 (row.map int1)]))] = _; rw [hid0]) ?_
          refine go 1000 Try.func13 ?_
          repeat' first | refine PickN.map hrow ?_ | refine Len.map ?_ | refine Len.nil ?_ | refine Len.cons ?_ | refine Br.t rfl ?_ | refine Br.f rfl ?_ | refine Fit.au ?_ | refine Cv.au ?_ | refine Need.ne ?_ | refine Need.au ?_ | refine Pick.map (by assumption) ?_ | refine Pick.mapI (by omega) (by assumption) ?_ | refine PickN.mk _ (by assumption) ?_ | refine PickN.mk _ rfl ?_ | refine PickN.au ?_ | refine App.au rfl ?_ | refine App.au (own_map (fun _ => rfl) _) ?_ | refine Both.mk ?_ ?_ | exact True.intro
          refine Need.mk rfl ?_
          repeat' first | refine Pick.map gz ?_ | refine Len.map ?_ | refine Len.nil ?_ | refine Len.cons ?_ | refine Br.t rfl ?_ | refine Br.f rfl ?_ | refine Fit.au ?_ | refine Cv.au ?_ | refine Need.ne ?_ | refine Need.au ?_ | refine Pick.map (by assumption) ?_ | refine Pick.mapI (by omega) (by assumption) ?_ | refine PickN.mk _ (by assumption) ?_ | refine PickN.mk _ rfl ?_ | refine PickN.au ?_ | refine App.au rfl ?_ | refine App.au (own_map (fun _ => rfl) _) ?_ | refine Both.mk ?_ ?_ | exact True.intro
          refine Stop.mk (ih3 (z, fun x => M' x || decide (x = t)) (g := []) _ _ _ hstep hmu ?_)
          dsimp only
          rw [← hnw, ← set_olst2]
          exact ⟨rfl, (by repeat' first | exact trivial | refine ⟨rfl, ?_⟩ | refine ⟨congrArg (fun n => AV.lit (.int .i64 n)) (by omega), ?_⟩ | refine ⟨congrArg (fun l => some (Row.row 1 l)) (by simp [int1, num, tru]), ?_⟩), (by repeat' first | exact trivial | refine ⟨rfl, ?_⟩ | refine ⟨congrArg (fun n => AV.lit (.int .i64 n)) (by omega), ?_⟩ | refine ⟨congrArg (fun l => some (Row.row 1 l)) (by simp [int1, num, tru]), ?_⟩)⟩
      · have hPM := hdone (.inr (by omega))
        rw [← htk] at hPM
        repeat' first | refine Len.map ?_ | refine Len.nil ?_ | refine Len.cons ?_ | refine Br.t rfl ?_ | refine Br.f rfl ?_ | refine Fit.au ?_ | refine Cv.au ?_ | refine Need.ne ?_ | refine Need.au ?_ | refine Pick.map (by assumption) ?_ | refine Pick.mapI (by omega) (by assumption) ?_ | refine PickN.mk _ (by assumption) ?_ | refine PickN.mk _ rfl ?_ | refine PickN.au ?_ | refine App.au rfl ?_ | refine App.au (own_map (fun _ => rfl) _) ?_ | refine Both.mk ?_ ?_ | exact True.intro
        exact Stop.mk (ih2 (j + 1, M') (g := []) _ _ _ ⟨by simp only; omega, hPM⟩ (by simp only; omega) ⟨rfl, (by repeat' first | exact trivial | refine ⟨rfl, ?_⟩ | refine ⟨congrArg (fun n => AV.lit (.int .i64 n)) (by omega), ?_⟩ | refine ⟨congrArg (fun l => some (Row.row 1 l)) (by simp [int1, num, tru]), ?_⟩), (by repeat' first | exact trivial | refine ⟨rfl, ?_⟩ | refine ⟨congrArg (fun n => AV.lit (.int .i64 n)) (by omega), ?_⟩ | refine ⟨congrArg (fun l => some (Row.row 1 l)) (by simp [int1, num, tru]), ?_⟩)⟩)
    · have hPM := hdone (.inl (by rcases hW.on with h6 | ⟨t, h6, -⟩ <;> omega))
      rw [← htk] at hPM
      repeat' first | refine Len.map ?_ | refine Len.nil ?_ | refine Len.cons ?_ | refine Br.t rfl ?_ | refine Br.f rfl ?_ | refine Fit.au ?_ | refine Cv.au ?_ | refine Need.ne ?_ | refine Need.au ?_ | refine Pick.map (by assumption) ?_ | refine Pick.mapI (by omega) (by assumption) ?_ | refine PickN.mk _ (by assumption) ?_ | refine PickN.mk _ rfl ?_ | refine PickN.au ?_ | refine App.au rfl ?_ | refine App.au (own_map (fun _ => rfl) _) ?_ | refine Both.mk ?_ ?_ | exact True.intro
      exact Stop.mk (ih2 (j + 1, M') (g := []) _ _ _ ⟨by simp only; omega, hPM⟩ (by simp only; omega) ⟨rfl, (by repeat' first | exact trivial | refine ⟨rfl, ?_⟩ | refine ⟨congrArg (fun n => AV.lit (.int .i64 n)) (by omega), ?_⟩ | refine ⟨congrArg (fun l => some (Row.row 1 l)) (by simp [int1, num, tru]), ?_⟩), (by repeat' first | exact trivial | refine ⟨rfl, ?_⟩ | refine ⟨congrArg (fun n => AV.lit (.int .i64 n)) (by omega), ?_⟩ | refine ⟨congrArg (fun l => some (Row.row 1 l)) (by simp [int1, num, tru]), ?_⟩)⟩)
  · have hbp : bp = false := by
      cases bp with
      | false => rfl
      | true => exact absurd ((hma p).1 gbp).2 hpR
    subst hbp
    refine Stop.mk (run_loop (go 1000 Try.func13 ?_))
    repeat' first | refine Pick.map gbp ?_ | refine Len.map ?_ | refine Len.nil ?_ | refine Len.cons ?_ | refine Br.t rfl ?_ | refine Br.f rfl ?_ | refine Fit.au ?_ | refine Cv.au ?_ | refine Need.ne ?_ | refine Need.au ?_ | refine Pick.map (by assumption) ?_ | refine Pick.mapI (by omega) (by assumption) ?_ | refine PickN.mk _ (by assumption) ?_ | refine PickN.mk _ rfl ?_ | refine PickN.au ?_ | refine App.au rfl ?_ | refine App.au (own_map (fun _ => rfl) _) ?_ | refine Both.mk ?_ ?_ | exact True.intro
    refine Stop.mk (ih2 (j + 1, M) (g := []) _ _ _ ⟨by simp only; omega, ?_⟩ (by simp only; omega) ⟨rfl, (by repeat' first | exact trivial | refine ⟨rfl, ?_⟩ | refine ⟨congrArg (fun n => AV.lit (.int .i64 n)) (by omega), ?_⟩ | refine ⟨congrArg (fun l => some (Row.row 1 l)) (by simp [int1, num, tru]), ?_⟩), (by repeat' first | exact trivial | refine ⟨rfl, ?_⟩ | refine ⟨congrArg (fun n => AV.lit (.int .i64 n)) (by omega), ?_⟩ | refine ⟨congrArg (fun l => some (Row.row 1 l)) (by simp [int1, num, tru]), ?_⟩)⟩)
    simp only
    rw [htk]
    exact hM.skip hpR
end Go.Proofs.Ytjjijklonnhdeaa

/- The document's rim, and what the law of rims looks at, by contracts. -/
namespace Go.Proofs.Ytjjijklonnhdeaa
open Go.Ax
set_option maxRecDepth 10000
set_option linter.unusedVariables false

theorem SameLists_spec (a b : List (List Int)) (ha : a.length ≤ 1000000000) (hal : ∀ l ∈ a, l.length ≤ 1000000000) : FnSpec Try.prog 14 [lsts a, lsts b] (fun r => r = tru (decide (a = b))) := by
  refine spec_of 1000 Try.func14 rfl rfl ?_
  repeat' first | refine Len.map ?_ | refine Len.nil ?_ | refine Len.cons ?_ | refine Br.t rfl ?_ | refine Br.f rfl ?_ | refine Fit.au ?_ | refine Cv.au ?_ | refine Need.ne ?_ | refine Need.au ?_ | refine Pick.map (by assumption) ?_ | refine Pick.mapI (by omega) (by assumption) ?_ | refine PickN.mk _ (by assumption) ?_ | refine PickN.mk _ rfl ?_ | refine PickN.au ?_ | refine App.au rfl ?_ | refine App.au (own_map (fun _ => rfl) _) ?_ | refine Both.mk ?_ ?_ | exact True.intro
  refine Br.nd (fun h => ?_) (fun h => ?_)
  · repeat' first | refine Len.map ?_ | refine Len.nil ?_ | refine Len.cons ?_ | refine Br.t rfl ?_ | refine Br.f rfl ?_ | refine Fit.au ?_ | refine Cv.au ?_ | refine Need.ne ?_ | refine Need.au ?_ | refine Pick.map (by assumption) ?_ | refine Pick.mapI (by omega) (by assumption) ?_ | refine PickN.mk _ (by assumption) ?_ | refine PickN.mk _ rfl ?_ | refine PickN.au ?_ | refine App.au rfl ?_ | refine App.au (own_map (fun _ => rfl) _) ?_ | refine Both.mk ?_ ?_ | exact True.intro
    have : a ≠ b := fun e => h (by rw [e])
    show _ = _
    simp [asRes, tru, this]
  repeat' first | refine Len.map ?_ | refine Len.nil ?_ | refine Len.cons ?_ | refine Br.t rfl ?_ | refine Br.f rfl ?_ | refine Fit.au ?_ | refine Cv.au ?_ | refine Need.ne ?_ | refine Need.au ?_ | refine Pick.map (by assumption) ?_ | refine Pick.mapI (by omega) (by assumption) ?_ | refine PickN.mk _ (by assumption) ?_ | refine PickN.mk _ rfl ?_ | refine PickN.au ?_ | refine App.au rfl ?_ | refine App.au (own_map (fun _ => rfl) _) ?_ | refine Both.mk ?_ ?_ | exact True.intro
  refine Stop.mk (loop_in (g := []) (fun k : Nat => [(0, lsts a), (1, lsts b), (5, num k)]) (fun k => []) 0 (fun k => k ≤ a.length ∧ a.take k = b.take k) (fun k => a.length - k) 0 ⟨by omega, rfl⟩ ⟨rfl, (by repeat' first | exact trivial | refine ⟨rfl, ?_⟩ | refine ⟨congrArg (fun n => AV.lit (.int .i64 n)) (by omega), ?_⟩ | refine ⟨congrArg (fun l => some (Row.row 1 l)) (by simp [int1, num, tru]), ?_⟩), (by repeat' first | exact trivial | refine ⟨rfl, ?_⟩ | refine ⟨congrArg (fun n => AV.lit (.int .i64 n)) (by omega), ?_⟩ | refine ⟨congrArg (fun l => some (Row.row 1 l)) (by simp [int1, num, tru]), ?_⟩)⟩ (fun k hk ih => ?_))
  obtain ⟨hk, heq⟩ := hk
  refine go 1000 Try.func14 ?_
  repeat' first | refine Len.map ?_ | refine Len.nil ?_ | refine Len.cons ?_ | refine Br.t rfl ?_ | refine Br.f rfl ?_ | refine Fit.au ?_ | refine Cv.au ?_ | refine Need.ne ?_ | refine Need.au ?_ | refine Pick.map (by assumption) ?_ | refine Pick.mapI (by omega) (by assumption) ?_ | refine PickN.mk _ (by assumption) ?_ | refine PickN.mk _ rfl ?_ | refine PickN.au ?_ | refine App.au rfl ?_ | refine App.au (own_map (fun _ => rfl) _) ?_ | refine Both.mk ?_ ?_ | exact True.intro
  refine Br.d (fun h2 => ?_) (fun h2 => ?_)
  · obtain ⟨x, gx, gxm⟩ := getK (l := a) (k := k) (by omega)
    obtain ⟨y, gy, -⟩ := getK (l := b) (k := k) (by omega)
    repeat' first | refine Draw.mk (ordL [8] [0, 1, 2, 3, 4, 5, 6, 7, 8, 9]) (by decide +kernel) ?_ | refine Pick.map gx ?_ | refine Pick.map gy ?_ | refine Call.eq (SameInts_spec x y (by have := hal x gxm; omega)) rfl ?_ | refine Len.map ?_ | refine Len.nil ?_ | refine Len.cons ?_ | refine Br.t rfl ?_ | refine Br.f rfl ?_ | refine Fit.au ?_ | refine Cv.au ?_ | refine Need.ne ?_ | refine Need.au ?_ | refine Pick.map (by assumption) ?_ | refine Pick.mapI (by omega) (by assumption) ?_ | refine PickN.mk _ (by assumption) ?_ | refine PickN.mk _ rfl ?_ | refine PickN.au ?_ | refine App.au rfl ?_ | refine App.au (own_map (fun _ => rfl) _) ?_ | refine Both.mk ?_ ?_ | exact True.intro
    refine Br.nd (fun h3 => ?_) (fun h3 => ?_)
    · repeat' first | refine Len.map ?_ | refine Len.nil ?_ | refine Len.cons ?_ | refine Br.t rfl ?_ | refine Br.f rfl ?_ | refine Fit.au ?_ | refine Cv.au ?_ | refine Need.ne ?_ | refine Need.au ?_ | refine Pick.map (by assumption) ?_ | refine Pick.mapI (by omega) (by assumption) ?_ | refine PickN.mk _ (by assumption) ?_ | refine PickN.mk _ rfl ?_ | refine PickN.au ?_ | refine App.au rfl ?_ | refine App.au (own_map (fun _ => rfl) _) ?_ | refine Both.mk ?_ ?_ | exact True.intro
      have : a ≠ b := fun e => h3 (by subst e; rw [gx] at gy; exact Option.some.inj gy)
      show _ = _
      simp [asRes, tru, this]
    · repeat' first | refine Len.map ?_ | refine Len.nil ?_ | refine Len.cons ?_ | refine Br.t rfl ?_ | refine Br.f rfl ?_ | refine Fit.au ?_ | refine Cv.au ?_ | refine Need.ne ?_ | refine Need.au ?_ | refine Pick.map (by assumption) ?_ | refine Pick.mapI (by omega) (by assumption) ?_ | refine PickN.mk _ (by assumption) ?_ | refine PickN.mk _ rfl ?_ | refine PickN.au ?_ | refine App.au rfl ?_ | refine App.au (own_map (fun _ => rfl) _) ?_ | refine Both.mk ?_ ?_ | exact True.intro
      refine Stop.mk (ih (k + 1) (g := []) _ _ _ ⟨by omega, ?_⟩ (by omega) ⟨rfl, (by repeat' first | exact trivial | refine ⟨rfl, ?_⟩ | refine ⟨congrArg (fun n => AV.lit (.int .i64 n)) (by omega), ?_⟩ | refine ⟨congrArg (fun l => some (Row.row 1 l)) (by simp [int1, num, tru]), ?_⟩), (by repeat' first | exact trivial | refine ⟨rfl, ?_⟩ | refine ⟨congrArg (fun n => AV.lit (.int .i64 n)) (by omega), ?_⟩ | refine ⟨congrArg (fun l => some (Row.row 1 l)) (by simp [int1, num, tru]), ?_⟩)⟩)
      rw [take_succ gx, take_succ gy, heq, h3]
  · have : a = b := by
      rw [take_all (by omega), take_all (by omega)] at heq
      exact heq
    repeat' first | refine Len.map ?_ | refine Len.nil ?_ | refine Len.cons ?_ | refine Br.t rfl ?_ | refine Br.f rfl ?_ | refine Fit.au ?_ | refine Cv.au ?_ | refine Need.ne ?_ | refine Need.au ?_ | refine Pick.map (by assumption) ?_ | refine Pick.mapI (by omega) (by assumption) ?_ | refine PickN.mk _ (by assumption) ?_ | refine PickN.mk _ rfl ?_ | refine PickN.au ?_ | refine App.au rfl ?_ | refine App.au (own_map (fun _ => rfl) _) ?_ | refine Both.mk ?_ ?_ | exact True.intro
    show _ = _
    simp [asRes, tru, this]

theorem Few65_spec (f : Fun) (hf : f.fits) (hl : f.blocks.length ≤ 1000 → f.count ≤ 100000000000000000) : FnSpec Try.prog 19 [funA f] (fun r => ∃ v, r = tru v ∧ (v = true → f.blocks.length ≤ 40 ∧ f.count ≤ 300)) := by
  have hf1 := hf.1
  refine spec_of 1000 Try.func19 rfl rfl ?_
  repeat' first | refine Len.map ?_ | refine Len.nil ?_ | refine Len.cons ?_ | refine Br.t rfl ?_ | refine Br.f rfl ?_ | refine Fit.au ?_ | refine Cv.au ?_ | refine Need.ne ?_ | refine Need.au ?_ | refine Pick.map (by assumption) ?_ | refine Pick.mapI (by omega) (by assumption) ?_ | refine PickN.mk _ (by assumption) ?_ | refine PickN.mk _ rfl ?_ | refine PickN.au ?_ | refine App.au rfl ?_ | refine App.au (own_map (fun _ => rfl) _) ?_ | refine Both.mk ?_ ?_ | exact True.intro
  refine Stop.mk (loop_in (g := []) (fun p : Nat × Int => [(1, .hp 0 0), (3, num p.2), (4, num p.1)]) (fun p => [(0, .var f.cs)]) 1 (fun p => p.1 ≤ f.blocks.length ∧ (f.blocks.length ≤ 40 → p.2 = (((f.blocks.map List.length).take p.1).sum : Nat))) (fun p => f.blocks.length - p.1) (0, 0) ⟨by simp only; omega, fun _ => rfl⟩ ⟨rfl, (by repeat' first | exact trivial | refine ⟨rfl, ?_⟩ | refine ⟨congrArg (fun n => AV.lit (.int .i64 n)) (by omega), ?_⟩ | refine ⟨congrArg (fun l => some (Row.row 1 l)) (by simp [int1, num, tru]), ?_⟩), (by repeat' first | exact trivial | refine ⟨rfl, ?_⟩ | refine ⟨congrArg (fun n => AV.lit (.int .i64 n)) (by omega), ?_⟩ | refine ⟨congrArg (fun l => some (Row.row 1 l)) (by simp [int1, num, tru]), ?_⟩)⟩ (fun p hp ih => ?_))
  obtain ⟨k, v⟩ := p
  obtain ⟨hk, hv⟩ := hp
  dsimp only at hk hv ih ⊢
  refine go 1000 Try.func19 ?_
  repeat' first | refine Len.map ?_ | refine Len.nil ?_ | refine Len.cons ?_ | refine Br.t rfl ?_ | refine Br.f rfl ?_ | refine Fit.au ?_ | refine Cv.au ?_ | refine Need.ne ?_ | refine Need.au ?_ | refine Pick.map (by assumption) ?_ | refine Pick.mapI (by omega) (by assumption) ?_ | refine PickN.mk _ (by assumption) ?_ | refine PickN.mk _ rfl ?_ | refine PickN.au ?_ | refine App.au rfl ?_ | refine App.au (own_map (fun _ => rfl) _) ?_ | refine Both.mk ?_ ?_ | exact True.intro
  refine Br.d (fun h2 => ?_) (fun h2 => ?_)
  · obtain ⟨b, gb, gbm⟩ := getK (l := f.blocks) (k := k) (by omega)
    have hsum := sum_take_succ (l := f.blocks.map List.length) (k := k) (n := b.length) (by rw [List.getElem?_map, gb]; rfl)
    have hle : ((f.blocks.map List.length).take (k + 1)).sum ≤ f.count := sum_take_le
    by_cases h40 : f.blocks.length ≤ 40
    · have hc := hl (by omega)
      have hv2 := hv h40
      repeat' first | refine Pick.map gb ?_ | refine Len.map ?_ | refine Len.nil ?_ | refine Len.cons ?_ | refine Br.t rfl ?_ | refine Br.f rfl ?_ | refine Fit.au ?_ | refine Cv.au ?_ | refine Need.ne ?_ | refine Need.au ?_ | refine Pick.map (by assumption) ?_ | refine Pick.mapI (by omega) (by assumption) ?_ | refine PickN.mk _ (by assumption) ?_ | refine PickN.mk _ rfl ?_ | refine PickN.au ?_ | refine App.au rfl ?_ | refine App.au (own_map (fun _ => rfl) _) ?_ | refine Both.mk ?_ ?_ | exact True.intro
      exact Stop.mk (ih (k + 1, v + b.length) (g := []) _ _ _ ⟨by simp only; omega, fun _ => by simp only; omega⟩ (by simp only; omega) ⟨rfl, (by repeat' first | exact trivial | refine ⟨rfl, ?_⟩ | refine ⟨congrArg (fun n => AV.lit (.int .i64 n)) (by omega), ?_⟩ | refine ⟨congrArg (fun l => some (Row.row 1 l)) (by simp [int1, num, tru]), ?_⟩), (by repeat' first | exact trivial | refine ⟨rfl, ?_⟩ | refine ⟨congrArg (fun n => AV.lit (.int .i64 n)) (by omega), ?_⟩ | refine ⟨congrArg (fun l => some (Row.row 1 l)) (by simp [int1, num, tru]), ?_⟩)⟩)
    · repeat' first | refine Pick.map gb ?_ | refine Len.map ?_ | refine Len.nil ?_ | refine Len.cons ?_ | refine Br.t rfl ?_ | refine Br.f rfl ?_ | refine Fit.au ?_ | refine Cv.au ?_ | refine Need.ne ?_ | refine Need.au ?_ | refine Pick.map (by assumption) ?_ | refine Pick.mapI (by omega) (by assumption) ?_ | refine PickN.mk _ (by assumption) ?_ | refine PickN.mk _ rfl ?_ | refine PickN.au ?_ | refine App.au rfl ?_ | refine App.au (own_map (fun _ => rfl) _) ?_ | refine Both.mk ?_ ?_ | exact True.intro
      refine Fit.wr ?_
      repeat' first | refine Len.map ?_ | refine Len.nil ?_ | refine Len.cons ?_ | refine Br.t rfl ?_ | refine Br.f rfl ?_ | refine Fit.au ?_ | refine Cv.au ?_ | refine Need.ne ?_ | refine Need.au ?_ | refine Pick.map (by assumption) ?_ | refine Pick.mapI (by omega) (by assumption) ?_ | refine PickN.mk _ (by assumption) ?_ | refine PickN.mk _ rfl ?_ | refine PickN.au ?_ | refine App.au rfl ?_ | refine App.au (own_map (fun _ => rfl) _) ?_ | refine Both.mk ?_ ?_ | exact True.intro
      exact Stop.mk (ih (k + 1, IntKind.i64.wrap (v + b.length)) (g := []) _ _ _ ⟨by simp only; omega, fun h => absurd h h40⟩ (by simp only; omega) ⟨rfl, (by repeat' first | exact trivial | refine ⟨rfl, ?_⟩ | refine ⟨congrArg (fun n => AV.lit (.int .i64 n)) (by omega), ?_⟩ | refine ⟨congrArg (fun l => some (Row.row 1 l)) (by simp [int1, num, tru]), ?_⟩), (by repeat' first | exact trivial | refine ⟨rfl, ?_⟩ | refine ⟨congrArg (fun n => AV.lit (.int .i64 n)) (by omega), ?_⟩ | refine ⟨congrArg (fun l => some (Row.row 1 l)) (by simp [int1, num, tru]), ?_⟩)⟩)
  · repeat' first | refine Len.map ?_ | refine Len.nil ?_ | refine Len.cons ?_ | refine Br.t rfl ?_ | refine Br.f rfl ?_ | refine Fit.au ?_ | refine Cv.au ?_ | refine Need.ne ?_ | refine Need.au ?_ | refine Pick.map (by assumption) ?_ | refine Pick.mapI (by omega) (by assumption) ?_ | refine PickN.mk _ (by assumption) ?_ | refine PickN.mk _ rfl ?_ | refine PickN.au ?_ | refine App.au rfl ?_ | refine App.au (own_map (fun _ => rfl) _) ?_ | refine Both.mk ?_ ?_ | exact True.intro
    refine Br.d (fun h3 => ?_) (fun h3 => ?_)
    · have h40 : f.blocks.length ≤ 40 := by omega
      have hv2 := hv h40
      rw [take_all (by rw [List.length_map]; omega)] at hv2
      repeat' first | refine Len.map ?_ | refine Len.nil ?_ | refine Len.cons ?_ | refine Br.t rfl ?_ | refine Br.f rfl ?_ | refine Fit.au ?_ | refine Cv.au ?_ | refine Need.ne ?_ | refine Need.au ?_ | refine Pick.map (by assumption) ?_ | refine Pick.mapI (by omega) (by assumption) ?_ | refine PickN.mk _ (by assumption) ?_ | refine PickN.mk _ rfl ?_ | refine PickN.au ?_ | refine App.au rfl ?_ | refine App.au (own_map (fun _ => rfl) _) ?_ | refine Both.mk ?_ ?_ | exact True.intro
      refine ⟨_, rfl, fun h => ⟨h40, ?_⟩⟩
      have : v ≤ 300 := by simpa using h
      have hc : v = (f.count : Nat) := hv2
      omega
    · repeat' first | refine Len.map ?_ | refine Len.nil ?_ | refine Len.cons ?_ | refine Br.t rfl ?_ | refine Br.f rfl ?_ | refine Fit.au ?_ | refine Cv.au ?_ | refine Need.ne ?_ | refine Need.au ?_ | refine Pick.map (by assumption) ?_ | refine Pick.mapI (by omega) (by assumption) ?_ | refine PickN.mk _ (by assumption) ?_ | refine PickN.mk _ rfl ?_ | refine PickN.au ?_ | refine App.au rfl ?_ | refine App.au (own_map (fun _ => rfl) _) ?_ | refine Both.mk ?_ ?_ | exact True.intro
      exact ⟨false, rfl, fun h => by cases h⟩
theorem few32_spec (f : Fun) (hf : f.fits) (hl : f.blocks.length ≤ 1000 → f.count ≤ 100000000000000000) : FnSpec Try.prog 9 [funA f] (fun r => ∃ v, r = tru v ∧ (v = true → f.blocks.length ≤ 12)) := by
  have hf1 := hf.1
  refine spec_of 1000 Try.func9 rfl rfl ?_
  repeat' first | refine Len.map ?_ | refine Len.nil ?_ | refine Len.cons ?_ | refine Br.t rfl ?_ | refine Br.f rfl ?_ | refine Fit.au ?_ | refine Cv.au ?_ | refine Need.ne ?_ | refine Need.au ?_ | refine Pick.map (by assumption) ?_ | refine Pick.mapI (by omega) (by assumption) ?_ | refine PickN.mk _ (by assumption) ?_ | refine PickN.mk _ rfl ?_ | refine PickN.au ?_ | refine App.au rfl ?_ | refine App.au (own_map (fun _ => rfl) _) ?_ | refine Both.mk ?_ ?_ | exact True.intro
  refine Call.of (Few65_spec f hf hl) ?_
  rintro r ⟨v, rfl, hv⟩
  refine ⟨rfl, ?_⟩
  repeat' first | refine Len.map ?_ | refine Len.nil ?_ | refine Len.cons ?_ | refine Br.t rfl ?_ | refine Br.f rfl ?_ | refine Fit.au ?_ | refine Cv.au ?_ | refine Need.ne ?_ | refine Need.au ?_ | refine Pick.map (by assumption) ?_ | refine Pick.mapI (by omega) (by assumption) ?_ | refine PickN.mk _ (by assumption) ?_ | refine PickN.mk _ rfl ?_ | refine PickN.au ?_ | refine App.au rfl ?_ | refine App.au (own_map (fun _ => rfl) _) ?_ | refine Both.mk ?_ ?_ | exact True.intro
  refine Br.mk (fun h => ?_) (fun h => ?_)
  · subst h
    repeat' first | refine Len.map ?_ | refine Len.nil ?_ | refine Len.cons ?_ | refine Br.t rfl ?_ | refine Br.f rfl ?_ | refine Fit.au ?_ | refine Cv.au ?_ | refine Need.ne ?_ | refine Need.au ?_ | refine Pick.map (by assumption) ?_ | refine Pick.mapI (by omega) (by assumption) ?_ | refine PickN.mk _ (by assumption) ?_ | refine PickN.mk _ rfl ?_ | refine PickN.au ?_ | refine App.au rfl ?_ | refine App.au (own_map (fun _ => rfl) _) ?_ | refine Both.mk ?_ ?_ | exact True.intro
    exact ⟨_, rfl, fun h => by have : (f.blocks.length : Int) ≤ 12 := by simpa using h
                               omega⟩
  · subst h
    repeat' first | refine Len.map ?_ | refine Len.nil ?_ | refine Len.cons ?_ | refine Br.t rfl ?_ | refine Br.f rfl ?_ | refine Fit.au ?_ | refine Cv.au ?_ | refine Need.ne ?_ | refine Need.au ?_ | refine Pick.map (by assumption) ?_ | refine Pick.mapI (by omega) (by assumption) ?_ | refine PickN.mk _ (by assumption) ?_ | refine PickN.mk _ rfl ?_ | refine PickN.au ?_ | refine App.au rfl ?_ | refine App.au (own_map (fun _ => rfl) _) ?_ | refine Both.mk ?_ ?_ | exact True.intro
    exact ⟨false, rfl, fun h => by cases h⟩

end Go.Proofs.Ytjjijklonnhdeaa

/- The example of the chapter on rims. No program is in sight here. -/
namespace Go.Proofs.Ytjjijklonnhdeaa
open Go.Ax

def s29 : List (List Int) := [[1, 2], [3], [3], []]
theorem R29_0 {x : Int} (h : x ≠ 0) : Reaches s29 x 0 := .zero (by simp [s29]) h
theorem R29_1 {x : Int} (h : x ≠ 0) (h1 : (1 : Int) ≠ x) : Reaches s29 x 1 := .step (k := 0) (R29_0 h) rfl (by simp) h1
theorem R29_2 {x : Int} (h : x ≠ 0) (h1 : (2 : Int) ≠ x) : Reaches s29 x 2 := .step (k := 0) (R29_0 h) rfl (by simp) h1
theorem R29_3 {x : Int} (h : x ≠ 0) (h3 : (3 : Int) ≠ x) : Reaches s29 x 3 := by
  by_cases h1 : (1 : Int) = x
  · exact .step (k := 2) (R29_2 h (by omega)) rfl (by simp) h3
  · exact .step (k := 1) (R29_1 h h1) rfl (by simp) h3
theorem not_self {s : List (List Int)} {x t : Int} (h : Reaches s x t) : t ≠ x := by
  cases h with
  | zero _ h => exact fun e => h e.symm
  | step _ _ _ h => exact h
theorem not_zero {s : List (List Int)} {t : Int} (h : Reaches s 0 t) : False := by
  induction h with
  | zero _ h => exact h rfl
  | step _ _ _ _ ih => exact ih
theorem rim29 (a k : Nat) : rimB s29 a k = decide ((a = 1 ∨ a = 2) ∧ k = 3) := by
  rw [Bool.eq_iff_iff, rimB_iff, decide_eq_true_iff]
  have d0 : ∀ x : Nat, Rc s29 x → DomN s29 0 x := fun x hx => ⟨R29_0 (by decide), hx, fun h => not_zero h⟩
  constructor
  · rintro ⟨hk, ⟨p, ⟨r, gr, hm⟩, hd⟩, hs⟩
    match p, gr with
    | 0, gr =>
      have ha : a = 0 := Classical.byContradiction fun h => hd.2.2 (R29_0 (by omega))
      subst ha
      cases gr
      rcases hs with h | h
      · simp at hm; omega
      · exact absurd (d0 k hk) h
    | 1, gr =>
      cases gr
      have hk3 : k = 3 := by simp at hm; omega
      have ha : a = 0 ∨ a = 1 := Classical.byContradiction fun h => hd.2.2 (R29_1 (by omega) (by omega))
      rcases ha with rfl | rfl
      · rcases hs with h | h
        · omega
        · exact absurd (d0 k hk) h
      · exact ⟨.inl rfl, hk3⟩
    | 2, gr =>
      cases gr
      have hk3 : k = 3 := by simp at hm; omega
      have ha : a = 0 ∨ a = 2 := Classical.byContradiction fun h => hd.2.2 (R29_2 (by omega) (by omega))
      rcases ha with rfl | rfl
      · rcases hs with h | h
        · omega
        · exact absurd (d0 k hk) h
      · exact ⟨.inr rfl, hk3⟩
    | 3, gr => cases gr; cases hm
    | p + 4, gr => cases gr
  · rintro ⟨h, rfl⟩
    have r3 : Rc s29 3 := R29_3 (by decide) (by decide)
    rcases h with rfl | rfl
    · exact ⟨r3, ⟨1, ⟨[3], rfl, by simp⟩, R29_1 (by decide) (by decide), R29_1 (by decide) (by decide), fun h => not_self h rfl⟩, .inr fun h => h.2.2 (R29_3 (by decide) (by decide))⟩
    · exact ⟨r3, ⟨2, ⟨[3], rfl, by simp⟩, R29_2 (by decide) (by decide), R29_2 (by decide) (by decide), fun h => not_self h rfl⟩, .inr fun h => h.2.2 (R29_3 (by decide) (by decide))⟩
theorem rims29 : ((List.range 4).map fun a => rimTo s29 a 4) = [[], [3], [3], []] := by
  have h : ∀ a, rimTo s29 a 4 = if a = 1 ∨ a = 2 then [3] else [] := fun a => by
    rw [rimTo_succ, rimTo_succ, rimTo_succ, rimTo_succ, rim29, rim29, rim29, rim29]
    by_cases ha : a = 1 ∨ a = 2 <;> simp [ha, rimTo]
  show [rimTo s29 0 4, rimTo s29 1 4, rimTo s29 2 4, rimTo s29 3 4] = _
  rw [h, h, h, h]; rfl
end Go.Proofs.Ytjjijklonnhdeaa

/- The law RimTells as a function. -/
namespace Go.Proofs.Ytjjijklonnhdeaa
open Go.Ax
set_option maxRecDepth 10000
set_option linter.unusedVariables false

def ex29 : Fun := ⟨⟨#[]⟩, 0, 0, [], [[⟨42, 0, 0, 0, 0, 1, 2, 0, []⟩], [⟨41, 0, 0, 0, 0, 3, 0, 0, []⟩], [⟨41, 0, 0, 0, 0, 3, 0, 0, []⟩], [⟨43, 0, 0, 0, 0, 0, 0, 0, []⟩]]⟩
theorem ex29_succs : succsF ex29 = s29 := by kernel_rfl
theorem ex29_fits : ex29.fits := by
  refine ⟨by decide, by decide, ?_⟩
  simp [ex29, Ins.fits]
theorem works33 : FnSpec Try.prog 5 [] (fun r => r = tru true) := by
  have hR := Rims34_spec ex29 ex29_fits (by decide)
  rw [ex29_succs] at hR
  have e1 : ((List.range ex29.blocks.length).map fun a => rimTo s29 a ex29.blocks.length) = [[], [3], [3], []] := rims29
  rw [e1] at hR
  have hS := SameLists_spec [[], [3], [3], []] [[], [3], [3], []] (by decide) (by simp)
  rw [decide_eq_true rfl] at hS
  refine spec_of 10 Try.func5 rfl rfl ?_
  repeat' first | refine Len.map ?_ | refine Len.nil ?_ | refine Len.cons ?_ | refine Br.t rfl ?_ | refine Br.f rfl ?_ | refine Fit.au ?_ | refine Cv.au ?_ | refine Need.ne ?_ | refine Need.au ?_ | refine Pick.map (by assumption) ?_ | refine Pick.mapI (by omega) (by assumption) ?_ | refine PickN.mk _ (by assumption) ?_ | refine PickN.mk _ rfl ?_ | refine PickN.au ?_ | refine App.au rfl ?_ | refine App.au (own_map (fun _ => rfl) _) ?_ | refine Both.mk ?_ ?_ | exact True.intro
  refine Stop.mk (run_frzR 0 rfl rfl ?_)
  refine go 13 Try.func5 ?_
  repeat' first | refine Len.map ?_ | refine Len.nil ?_ | refine Len.cons ?_ | refine Br.t rfl ?_ | refine Br.f rfl ?_ | refine Fit.au ?_ | refine Cv.au ?_ | refine Need.ne ?_ | refine Need.au ?_ | refine Pick.map (by assumption) ?_ | refine Pick.mapI (by omega) (by assumption) ?_ | refine PickN.mk _ (by assumption) ?_ | refine PickN.mk _ rfl ?_ | refine PickN.au ?_ | refine App.au rfl ?_ | refine App.au (own_map (fun _ => rfl) _) ?_ | refine Both.mk ?_ ?_ | exact True.intro
  refine Stop.mk (run_frzV 4 rfl rfl rfl ?_)
  refine go 1000 Try.func5 ?_
  repeat' first | refine Call.le (by repeat' first | exact Le.refl _ | exact Le.none | exact LeL.nil | refine LeL.cons ?_ ?_ | exact LeLL.nil | refine LeLL.cons ?_ ?_ | refine Le.agg ?_ | refine Le.sl ?_ | refine Le.pt ?_) (Call.eq hR rfl ?_) | refine Len.map ?_ | refine Len.nil ?_ | refine Len.cons ?_ | refine Br.t rfl ?_ | refine Br.f rfl ?_ | refine Fit.au ?_ | refine Cv.au ?_ | refine Need.ne ?_ | refine Need.au ?_ | refine Pick.map (by assumption) ?_ | refine Pick.mapI (by omega) (by assumption) ?_ | refine PickN.mk _ (by assumption) ?_ | refine PickN.mk _ rfl ?_ | refine PickN.au ?_ | refine App.au rfl ?_ | refine App.au (own_map (fun _ => rfl) _) ?_ | refine Both.mk ?_ ?_ | exact True.intro
  refine Look.yes (View.mk _ (fzLL_map fz_olsts _) (View.mk (([[], [3], [3], []] : List (List Int)).map lst) rfl ?_))
  refine CallV.eq hS rfl (Free.lit _) ?_
  repeat' first | refine Len.map ?_ | refine Len.nil ?_ | refine Len.cons ?_ | refine Br.t rfl ?_ | refine Br.f rfl ?_ | refine Fit.au ?_ | refine Cv.au ?_ | refine Need.ne ?_ | refine Need.au ?_ | refine Pick.map (by assumption) ?_ | refine Pick.mapI (by omega) (by assumption) ?_ | refine PickN.mk _ (by assumption) ?_ | refine PickN.mk _ rfl ?_ | refine PickN.au ?_ | refine App.au rfl ?_ | refine App.au (own_map (fun _ => rfl) _) ?_ | refine Both.mk ?_ ?_ | exact True.intro
  rfl
end Go.Proofs.Ytjjijklonnhdeaa
