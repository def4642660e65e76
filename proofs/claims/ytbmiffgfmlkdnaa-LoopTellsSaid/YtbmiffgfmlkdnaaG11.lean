/- The order of reached blocks, by a contract. -/
import Derived.Test.YtbmiffgfmlkdnaaG10
set_option linter.unusedVariables false
set_option linter.unusedSimpArgs false

namespace Go.Proofs.Ytbmiffgfmlkdnaa
open Go.Ax
set_option maxRecDepth 10000
set_option linter.unusedVariables false

/-- A list whose first ones, and last ones, have changed places. -/
def swp (l : List Int) (i : Nat) : List Int := (List.range l.length).map fun x => if x < i ∨ l.length - i ≤ x then l.getD (l.length - 1 - x) 0 else l.getD x 0
theorem swp_len (l : List Int) (i : Nat) : (swp l i).length = l.length := by unfold swp; simp
theorem swp_at {l : List Int} {i x : Nat} (h : x < l.length) : (swp l i)[x]? = some (if x < i ∨ l.length - i ≤ x then l.getD (l.length - 1 - x) 0 else l.getD x 0) := by
  unfold swp
  rw [List.getElem?_map, List.getElem?_range h]; rfl
theorem swp_zero (l : List Int) : swp l 0 = l := by
  apply List.ext_getElem?
  intro x
  by_cases h : x < l.length
  · rw [swp_at h, if_neg (by omega), List.getD_eq_getElem?_getD, List.getElem?_eq_getElem h]; rfl
  · rw [List.getElem?_eq_none (by rw [swp_len]; omega), List.getElem?_eq_none (by omega)]
theorem swp_end {l : List Int} {i : Nat} (h : l.length - 1 ≤ i + i) : swp l i = l.reverse := by
  apply List.ext_getElem?
  intro x
  by_cases hx : x < l.length
  · rw [swp_at hx, List.getElem?_reverse hx]
    by_cases e : x < i ∨ l.length - i ≤ x
    · rw [if_pos e, List.getD_eq_getElem?_getD, List.getElem?_eq_getElem (by omega)]; rfl
    · rw [if_neg e, List.getD_eq_getElem?_getD, show l.length - 1 - x = x by omega, List.getElem?_eq_getElem hx]; rfl
  · rw [List.getElem?_eq_none (by rw [swp_len]; omega), List.getElem?_eq_none (by rw [List.length_reverse]; omega)]
theorem swp_succ {l : List Int} {i : Nat} {a b : Int} (h : i + i < l.length - 1) (ga : (swp l i)[i]? = some a) (gb : (swp l i)[l.length - 1 - i]? = some b) : ((swp l i).set i b).set (l.length - 1 - i) a = swp l (i + 1) := by
  rw [swp_at (by omega), if_neg (by omega)] at ga gb
  apply List.ext_getElem?
  intro x
  by_cases hx : x < l.length
  · rw [swp_at hx, List.getElem?_set, List.getElem?_set, List.length_set, swp_len]
    by_cases e1 : l.length - 1 - i = x
    · subst e1
      rw [if_pos rfl, if_pos (by omega), if_pos (by omega), ← ga, show l.length - 1 - (l.length - 1 - i) = i by omega]
    · rw [if_neg e1]
      by_cases e2 : i = x
      · subst e2
        rw [if_pos rfl, if_pos (by omega), if_pos (by omega), ← gb]
      · rw [if_neg e2, swp_at hx]
        by_cases e3 : x < i ∨ l.length - i ≤ x
        · rw [if_pos e3, if_pos (by omega)]
        · rw [if_neg e3, if_neg (by omega)]
  · rw [List.getElem?_eq_none (by rw [List.length_set, List.length_set, swp_len]; omega), List.getElem?_eq_none (by rw [swp_len]; omega)]

theorem Order93_spec (f : Fun) (hf : f.fits) (hn : f.blocks.length ≤ 1000000) : FnSpec Try.prog 28 [funA f] (fun r => ∃ o : List Int, r = .osl 1 (o.map int1) ∧ o.length ≤ f.blocks.length ∧ OrdP (succsF f) o) := by
  have hcl := succsF_closed f
  have hsm := succsF_small f
  have hsn : (succsF f).length ≤ 1000000 := by rw [succsF_len]; exact hn
  refine spec_of 1000 Try.func28 rfl rfl ?_
  repeat' first | refine Call.eq (Succs95_spec f hf hn) rfl ?_ | refine Len.map ?_ | refine Len.nil ?_ | refine Len.cons ?_ | refine Br.t rfl ?_ | refine Br.f rfl ?_ | refine Fit.au ?_ | refine Cv.au ?_ | refine Need.ne ?_ | refine Need.au ?_ | refine Pick.map (by assumption) ?_ | refine Pick.mapI (by omega) (by assumption) ?_ | refine PickN.mk _ (by assumption) ?_ | refine PickN.mk _ rfl ?_ | refine PickN.au ?_ | refine App.au rfl ?_ | refine App.au (own_map (fun _ => rfl) _) ?_ | refine Both.mk ?_ ?_ | exact True.intro
  refine Look.stop (Stop.mk ?_)
  refine run_frzR 2 rfl (fzLL_map fz_olsts _) ?_
  refine run_varLe 1 rfl (.cons (VLe.onil (sz := 1)) .nil) ?_
  have hsl := succsF_len f
  generalize succsF f = s at *
  refine Run.fr (g := [(0, 1)]) (tm' := [(5, .sl false 1 (s.map lst)), (3, .hp 0 0), (6, .fn 46 [.hp 0 0])]) (hp' := [(0, .var [.osl 1 []])]) (nx' := 1) ?_ ⟨rfl, (by repeat' first | exact trivial | refine ⟨rfl, ?_⟩ | refine ⟨congrArg (fun n => AV.lit (.int .i64 n)) (by omega), ?_⟩ | refine ⟨congrArg (fun l => some (Row.row 1 l)) (by simp [int1, num, tru]), ?_⟩), (by repeat' first | exact trivial | refine ⟨rfl, ?_⟩ | refine ⟨congrArg (fun n => AV.lit (.int .i64 n)) (by omega), ?_⟩ | refine ⟨congrArg (fun l => some (Row.row 1 l)) (by simp [int1, num, tru]), ?_⟩)⟩
  refine run_inlC rfl want_none rfl rfl rfl rfl rfl rfl rfl (through_runO _ hcl hsm hsn fun l w hwl how => ?_)
  refine Run.fr (g := []) (tm' := [(3, .hp 0 0)]) (hp' := [(0, .var [.osl 1 (w.map int1)])]) (nx' := 1) ?_ ⟨rfl, (by repeat' first | exact trivial | refine ⟨rfl, ?_⟩ | refine ⟨congrArg (fun n => AV.lit (.int .i64 n)) (by omega), ?_⟩ | refine ⟨congrArg (fun l => some (Row.row 1 l)) (by simp [int1, num, tru]), ?_⟩), (by repeat' first | exact trivial | refine ⟨rfl, ?_⟩ | refine ⟨congrArg (fun n => AV.lit (.int .i64 n)) (by omega), ?_⟩ | refine ⟨congrArg (fun l => some (Row.row 1 l)) (by simp [int1, num, tru]), ?_⟩)⟩
  refine run_unfold 0 0 rfl rfl ?_
  refine go 1000 Try.func28 ?_
  repeat' first | refine Len.map ?_ | refine Len.nil ?_ | refine Len.cons ?_ | refine Br.t rfl ?_ | refine Br.f rfl ?_ | refine Fit.au ?_ | refine Cv.au ?_ | refine Need.ne ?_ | refine Need.au ?_ | refine Pick.map (by assumption) ?_ | refine Pick.mapI (by omega) (by assumption) ?_ | refine PickN.mk _ (by assumption) ?_ | refine PickN.mk _ rfl ?_ | refine PickN.au ?_ | refine App.au rfl ?_ | refine App.au (own_map (fun _ => rfl) _) ?_ | refine Both.mk ?_ ?_ | exact True.intro
  refine Look.stop (Stop.mk ?_)
  refine run_inlC rfl want_none rfl rfl rfl rfl rfl rfl rfl (goI 1000 Try.func47 ?_)
  repeat' first | refine Len.map ?_ | refine Len.nil ?_ | refine Len.cons ?_ | refine Br.t rfl ?_ | refine Br.f rfl ?_ | refine Fit.au ?_ | refine Cv.au ?_ | refine Need.ne ?_ | refine Need.au ?_ | refine Pick.map (by assumption) ?_ | refine Pick.mapI (by omega) (by assumption) ?_ | refine PickN.mk _ (by assumption) ?_ | refine PickN.mk _ rfl ?_ | refine PickN.au ?_ | refine App.au rfl ?_ | refine App.au (own_map (fun _ => rfl) _) ?_ | refine Both.mk ?_ ?_ | exact True.intro
  refine Stop.mk (loop_in (g := []) (fun p : Nat × Int => [(0, .hw 1), (2, num p.1), (3, num p.2)]) (fun p => [(1, .row 1 ((swp w p.1).map int1)), (0, .var [.hw 1])]) 2 (fun p => p.2 = (w.length : Int) - 1 - p.1 ∧ (p.1 : Int) ≤ p.2 + 1) (fun p => w.length - p.1) (0, (w.length : Int) - 1) ⟨by simp only; omega, by simp only; omega⟩ ?_ (fun p hp ih => ?_))
  · dsimp only
    rw [swp_zero]
    exact ⟨rfl, (by repeat' first | exact trivial | refine ⟨rfl, ?_⟩ | refine ⟨congrArg (fun n => AV.lit (.int .i64 n)) (by omega), ?_⟩ | refine ⟨congrArg (fun l => some (Row.row 1 l)) (by simp [int1, num, tru]), ?_⟩), (by repeat' first | exact trivial | refine ⟨rfl, ?_⟩ | refine ⟨congrArg (fun n => AV.lit (.int .i64 n)) (by omega), ?_⟩ | refine ⟨congrArg (fun l => some (Row.row 1 l)) (by simp [int1, num, tru]), ?_⟩)⟩
  obtain ⟨i, e⟩ := p
  obtain ⟨he, hie⟩ := hp
  dsimp only at he hie ih ⊢
  have hsw := swp_len w i
  refine goI 1000 Try.func47 ?_
  repeat' first | refine Len.map ?_ | refine Len.nil ?_ | refine Len.cons ?_ | refine Br.t rfl ?_ | refine Br.f rfl ?_ | refine Fit.au ?_ | refine Cv.au ?_ | refine Need.ne ?_ | refine Need.au ?_ | refine Pick.map (by assumption) ?_ | refine Pick.mapI (by omega) (by assumption) ?_ | refine PickN.mk _ (by assumption) ?_ | refine PickN.mk _ rfl ?_ | refine PickN.au ?_ | refine App.au rfl ?_ | refine App.au (own_map (fun _ => rfl) _) ?_ | refine Both.mk ?_ ?_ | exact True.intro
  refine Br.d (fun h2 => ?_) (fun h2 => ?_)
  · obtain ⟨j, rfl⟩ : ∃ j : Nat, e = (j : Int) := ⟨e.toNat, by omega⟩
    obtain ⟨a, ga, -⟩ := getK (l := swp w i) (k := i) (by omega)
    obtain ⟨b, gb, -⟩ := getK (l := swp w i) (k := j) (by omega)
    have hj : j = w.length - 1 - i := by omega
    have hnx := swp_succ (l := w) (i := i) (by omega) ga (by rw [← hj]; exact gb)
    rw [← hj] at hnx
    have gb2 : (((swp w i).map int1).set i (int1 b))[j]? = some (int1 b) := by rw [List.getElem?_set, if_neg (by omega), List.getElem?_map, gb]; rfl
    repeat' first | refine Draw.mk (ordL [13, 15] [0, 1, 2, 3, 4, 5, 6, 7, 8, 9, 10, 11, 12, 13, 14, 15]) (by decide +kernel) ?_ | refine PickN.map ga ?_ | refine PickN.map gb ?_ | refine PickN.mk _ gb2 ?_ | refine Len.map ?_ | refine Len.nil ?_ | refine Len.cons ?_ | refine Br.t rfl ?_ | refine Br.f rfl ?_ | refine Fit.au ?_ | refine Cv.au ?_ | refine Need.ne ?_ | refine Need.au ?_ | refine Pick.map (by assumption) ?_ | refine Pick.mapI (by omega) (by assumption) ?_ | refine PickN.mk _ (by assumption) ?_ | refine PickN.mk _ rfl ?_ | refine PickN.au ?_ | refine App.au rfl ?_ | refine App.au (own_map (fun _ => rfl) _) ?_ | refine Both.mk ?_ ?_ | exact True.intro
    refine Stop.mk (ih (i + 1, (j : Int) - 1) (g := []) _ _ _ ⟨by simp only; omega, by simp only; omega⟩ (by simp only; omega) ?_)
    dsimp only
    rw [← hnx, List.map_set, List.map_set]
    exact ⟨rfl, (by repeat' first | exact trivial | refine ⟨rfl, ?_⟩ | refine ⟨congrArg (fun n => AV.lit (.int .i64 n)) (by omega), ?_⟩ | refine ⟨congrArg (fun l => some (Row.row 1 l)) (by simp [int1, num, tru]), ?_⟩), (by repeat' first | exact trivial | refine ⟨rfl, ?_⟩ | refine ⟨congrArg (fun n => AV.lit (.int .i64 n)) (by omega), ?_⟩ | refine ⟨congrArg (fun l => some (Row.row 1 l)) (by simp [int1, num, tru]), ?_⟩)⟩
  · repeat' first | refine Len.map ?_ | refine Len.nil ?_ | refine Len.cons ?_ | refine Br.t rfl ?_ | refine Br.f rfl ?_ | refine Fit.au ?_ | refine Cv.au ?_ | refine Need.ne ?_ | refine Need.au ?_ | refine Pick.map (by assumption) ?_ | refine Pick.mapI (by omega) (by assumption) ?_ | refine PickN.mk _ (by assumption) ?_ | refine PickN.mk _ rfl ?_ | refine PickN.au ?_ | refine App.au rfl ?_ | refine App.au (own_map (fun _ => rfl) _) ?_ | refine Both.mk ?_ ?_ | exact True.intro
    refine go 1000 Try.func28 ?_
    repeat' first | refine Len.map ?_ | refine Len.nil ?_ | refine Len.cons ?_ | refine Br.t rfl ?_ | refine Br.f rfl ?_ | refine Fit.au ?_ | refine Cv.au ?_ | refine Need.ne ?_ | refine Need.au ?_ | refine Pick.map (by assumption) ?_ | refine Pick.mapI (by omega) (by assumption) ?_ | refine PickN.mk _ (by assumption) ?_ | refine PickN.mk _ rfl ?_ | refine PickN.au ?_ | refine App.au rfl ?_ | refine App.au (own_map (fun _ => rfl) _) ?_ | refine Both.mk ?_ ?_ | exact True.intro
    refine ⟨swp w i, rfl, by rw [hsw]; omega, ?_⟩
    rw [swp_end (by omega)]
    exact how
end Go.Proofs.Ytbmiffgfmlkdnaa

/- The last one that stands above two, by a contract. -/
namespace Go.Proofs.Ytbmiffgfmlkdnaa
open Go.Ax
set_option maxRecDepth 10000
set_option linter.unusedVariables false

/-- Chains go up by places. -/
structure Tame (pl : Nat → Nat) (l pls : List Int) (dn : Nat → Prop) : Prop where
  up : ∀ x, x ≠ 0 → dn x → dn (par l x) ∧ pl (par l x) < pl x ∧ l[x]? = some (par l x : Int)
  at_ : ∀ x, dn x → pls[x]? = some (pl x : Int)
  inj : ∀ x y, dn x → dn y → pl x = pl y → x = y
  zero : pl 0 = 0
theorem Tame.anc {pl : Nat → Nat} {l pls : List Int} {dn : Nat → Prop} (h : Tame pl l pls dn) {a x : Nat} (ha : Anc l a x) (hx : dn x) : pl a ≤ pl x := by
  induction ha with
  | self => exact Nat.le_refl _
  | up hne _ ih =>
    obtain ⟨h1, h2, -⟩ := h.up _ hne hx
    have := ih h1
    omega
theorem Tame.climb {pl : Nat → Nat} {l pls : List Int} {dn : Nat → Prop} (h : Tame pl l pls dn) {a b x : Nat} (hb : dn b) (ha0 : a ≠ 0) (hl : pl b < pl a) : (Anc l x (par l a) ∧ Anc l x b) ↔ (Anc l x a ∧ Anc l x b) := by
  constructor
  · rintro ⟨h1, h2⟩; exact ⟨.up ha0 h1, h2⟩
  · rintro ⟨h1, h2⟩
    refine ⟨(h1.more fun e => ?_).2, h2⟩
    subst e
    have := h.anc h2 hb
    omega
theorem meet94_spec (pl : Nat → Nat) (l pls : List Int) (dn : Nat → Prop) (h : Tame pl l pls dn) (a b : Nat) (ha : dn a) (hb : dn b) : FnSpec Try.prog 29 [ints l, ints pls, num a, num b] (fun r => ∃ N : Nat, r = num N ∧ dn N ∧ ∀ x, Anc l x N ↔ Anc l x a ∧ Anc l x b) := by
  refine spec_of 1000 Try.func29 rfl rfl ?_
  repeat' first | refine Len.map ?_ | refine Len.nil ?_ | refine Len.cons ?_ | refine Br.t rfl ?_ | refine Br.f rfl ?_ | refine Fit.au ?_ | refine Cv.au ?_ | refine Need.ne ?_ | refine Need.au ?_ | refine Pick.map (by assumption) ?_ | refine Pick.mapI (by omega) (by assumption) ?_ | refine PickN.mk _ (by assumption) ?_ | refine PickN.mk _ rfl ?_ | refine PickN.au ?_ | refine App.au rfl ?_ | refine App.au (own_map (fun _ => rfl) _) ?_ | refine Both.mk ?_ ?_ | exact True.intro
  refine Stop.mk (loop_in (g := []) (fun p : Nat × Nat => [(0, ints l), (1, ints pls), (2, num p.1), (3, num p.2)]) (fun p => []) 0 (fun p => dn p.1 ∧ dn p.2 ∧ ∀ x, (Anc l x p.1 ∧ Anc l x p.2) ↔ (Anc l x a ∧ Anc l x b)) (fun p => pl p.1 + pl p.2) (a, b) ⟨ha, hb, fun x => .rfl⟩ ⟨rfl, (by repeat' first | exact trivial | refine ⟨rfl, ?_⟩ | refine ⟨congrArg (fun n => AV.lit (.int .i64 n)) (by omega), ?_⟩ | refine ⟨congrArg (fun l => some (Row.row 1 l)) (by simp [int1, num, tru]), ?_⟩), (by repeat' first | exact trivial | refine ⟨rfl, ?_⟩ | refine ⟨congrArg (fun n => AV.lit (.int .i64 n)) (by omega), ?_⟩ | refine ⟨congrArg (fun l => some (Row.row 1 l)) (by simp [int1, num, tru]), ?_⟩)⟩ (fun p hp ih => ?_))
  obtain ⟨c, d⟩ := p
  obtain ⟨hc, hd, hiff⟩ := hp
  dsimp only at hc hd hiff ih ⊢
  have gc := h.at_ c hc
  have gd := h.at_ d hd
  refine go 1000 Try.func29 ?_
  repeat' first | refine Len.map ?_ | refine Len.nil ?_ | refine Len.cons ?_ | refine Br.t rfl ?_ | refine Br.f rfl ?_ | refine Fit.au ?_ | refine Cv.au ?_ | refine Need.ne ?_ | refine Need.au ?_ | refine Pick.map (by assumption) ?_ | refine Pick.mapI (by omega) (by assumption) ?_ | refine PickN.mk _ (by assumption) ?_ | refine PickN.mk _ rfl ?_ | refine PickN.au ?_ | refine App.au rfl ?_ | refine App.au (own_map (fun _ => rfl) _) ?_ | refine Both.mk ?_ ?_ | exact True.intro
  refine Br.nd (fun h2 => ?_) (fun h2 => ?_)
  · have hne : c ≠ d := fun e => h2 (by rw [e])
    repeat' first | refine Draw.mk (ordL [] [0, 1, 2, 3, 4, 5, 6, 7, 8]) (by decide +kernel) ?_ | refine Pick.map gc ?_ | refine Pick.map gd ?_ | refine Len.map ?_ | refine Len.nil ?_ | refine Len.cons ?_ | refine Br.t rfl ?_ | refine Br.f rfl ?_ | refine Fit.au ?_ | refine Cv.au ?_ | refine Need.ne ?_ | refine Need.au ?_ | refine Pick.map (by assumption) ?_ | refine Pick.mapI (by omega) (by assumption) ?_ | refine PickN.mk _ (by assumption) ?_ | refine PickN.mk _ rfl ?_ | refine PickN.au ?_ | refine App.au rfl ?_ | refine App.au (own_map (fun _ => rfl) _) ?_ | refine Both.mk ?_ ?_ | exact True.intro
    refine Br.d (fun h3 => ?_) (fun h3 => ?_)
    · have hc0 : c ≠ 0 := fun e => by subst e; have := h.zero; omega
      obtain ⟨u1, u2, u3⟩ := h.up c hc0 hc
      repeat' first | refine Pick.map u3 ?_ | refine Len.map ?_ | refine Len.nil ?_ | refine Len.cons ?_ | refine Br.t rfl ?_ | refine Br.f rfl ?_ | refine Fit.au ?_ | refine Cv.au ?_ | refine Need.ne ?_ | refine Need.au ?_ | refine Pick.map (by assumption) ?_ | refine Pick.mapI (by omega) (by assumption) ?_ | refine PickN.mk _ (by assumption) ?_ | refine PickN.mk _ rfl ?_ | refine PickN.au ?_ | refine App.au rfl ?_ | refine App.au (own_map (fun _ => rfl) _) ?_ | refine Both.mk ?_ ?_ | exact True.intro
      exact Stop.mk (ih (par l c, d) (g := []) _ _ _ ⟨u1, hd, fun x => (h.climb hd hc0 (by omega)).trans (hiff x)⟩ (by simp only; omega) ⟨rfl, (by repeat' first | exact trivial | refine ⟨rfl, ?_⟩ | refine ⟨congrArg (fun n => AV.lit (.int .i64 n)) (by omega), ?_⟩ | refine ⟨congrArg (fun l => some (Row.row 1 l)) (by simp [int1, num, tru]), ?_⟩), (by repeat' first | exact trivial | refine ⟨rfl, ?_⟩ | refine ⟨congrArg (fun n => AV.lit (.int .i64 n)) (by omega), ?_⟩ | refine ⟨congrArg (fun l => some (Row.row 1 l)) (by simp [int1, num, tru]), ?_⟩)⟩)
    · have hlt : pl c < pl d := by
        have : pl c ≠ pl d := fun e => hne (h.inj c d hc hd e)
        omega
      have hd0 : d ≠ 0 := fun e => by subst e; have := h.zero; omega
      obtain ⟨u1, u2, u3⟩ := h.up d hd0 hd
      repeat' first | refine Pick.map u3 ?_ | refine Len.map ?_ | refine Len.nil ?_ | refine Len.cons ?_ | refine Br.t rfl ?_ | refine Br.f rfl ?_ | refine Fit.au ?_ | refine Cv.au ?_ | refine Need.ne ?_ | refine Need.au ?_ | refine Pick.map (by assumption) ?_ | refine Pick.mapI (by omega) (by assumption) ?_ | refine PickN.mk _ (by assumption) ?_ | refine PickN.mk _ rfl ?_ | refine PickN.au ?_ | refine App.au rfl ?_ | refine App.au (own_map (fun _ => rfl) _) ?_ | refine Both.mk ?_ ?_ | exact True.intro
      exact Stop.mk (ih (c, par l d) (g := []) _ _ _ ⟨hc, u1, fun x => (and_comm.trans ((h.climb hc hd0 hlt).trans and_comm)).trans (hiff x)⟩ (by simp only; omega) ⟨rfl, (by repeat' first | exact trivial | refine ⟨rfl, ?_⟩ | refine ⟨congrArg (fun n => AV.lit (.int .i64 n)) (by omega), ?_⟩ | refine ⟨congrArg (fun l => some (Row.row 1 l)) (by simp [int1, num, tru]), ?_⟩), (by repeat' first | exact trivial | refine ⟨rfl, ?_⟩ | refine ⟨congrArg (fun n => AV.lit (.int .i64 n)) (by omega), ?_⟩ | refine ⟨congrArg (fun l => some (Row.row 1 l)) (by simp [int1, num, tru]), ?_⟩)⟩)
  · have hcd : c = d := by omega
    subst hcd
    repeat' first | refine Len.map ?_ | refine Len.nil ?_ | refine Len.cons ?_ | refine Br.t rfl ?_ | refine Br.f rfl ?_ | refine Fit.au ?_ | refine Cv.au ?_ | refine Need.ne ?_ | refine Need.au ?_ | refine Pick.map (by assumption) ?_ | refine Pick.mapI (by omega) (by assumption) ?_ | refine PickN.mk _ (by assumption) ?_ | refine PickN.mk _ rfl ?_ | refine PickN.au ?_ | refine App.au rfl ?_ | refine App.au (own_map (fun _ => rfl) _) ?_ | refine Both.mk ?_ ?_ | exact True.intro
    exact ⟨c, rfl, hc, fun x => ⟨fun h3 => (hiff x).1 ⟨h3, h3⟩, fun h3 => ((hiff x).2 h3).1⟩⟩
end Go.Proofs.Ytbmiffgfmlkdnaa

/- The next dominators, by a contract. -/
namespace Go.Proofs.Ytbmiffgfmlkdnaa
open Go.Ax
set_option maxRecDepth 10000
set_option linter.unusedVariables false

theorem fzi (l : List Int) : AV.fzLL (l.map int1) = l.map int1 := fzLL_map (enc2 := int1) (fun _ => rfl) l
def iniL (n k : Nat) : List Int := List.replicate k (-1) ++ List.replicate (n - k) 0
theorem iniL_len {n k : Nat} (h : k ≤ n) : (iniL n k).length = n := by unfold iniL; simp; omega
theorem iniL_set {n k : Nat} (h : k < n) : (iniL n k).set k (-1) = iniL n (k + 1) := by
  unfold iniL
  rw [List.set_append_right _ _ (by simp), List.length_replicate, Nat.sub_self, show n - k = (n - (k + 1)) + 1 by omega, List.replicate_succ, List.set_cons_zero, List.replicate_succ', List.append_assoc]; rfl
theorem iniL_zero (n : Nat) : iniL n 0 = List.replicate n 0 := by unfold iniL; simp
theorem iniL_all (n : Nat) : iniL n n = List.replicate n (-1) := by unfold iniL; simp
def plF (n : Nat) (o : List Int) : Nat → List Int
  | 0 => List.replicate n (-1)
  | i + 1 => (plF n o i).set (o.getD i 0).toNat (i : Int)
theorem plF_len (n : Nat) (o : List Int) : ∀ i, (plF n o i).length = n
  | 0 => by simp [plF]
  | i + 1 => by simp only [plF]; rw [List.length_set, plF_len n o i]
theorem plF_at {n : Nat} {o : List Int} (hnd : o.Nodup) (hb : ∀ x ∈ o, 0 ≤ x ∧ x < n) : ∀ {i : Nat}, i ≤ o.length → ∀ {j : Nat} {x : Int}, j < i → o[j]? = some x → (plF n o i)[x.toNat]? = some (j : Int)
  | i + 1, hi, j, x, hj, gx => by
    have gi : o[i]? = some o[i] := List.getElem?_eq_getElem (by omega)
    have hgd : o.getD i 0 = o[i] := by rw [List.getD_eq_getElem?_getD, gi]; rfl
    have h1 := hb _ (List.mem_of_getElem? gi)
    have h2 := hb _ (List.mem_of_getElem? gx)
    simp only [plF]
    rw [hgd, List.getElem?_set, plF_len]
    by_cases e : j = i
    · subst e
      rw [gi] at gx
      have := Option.some.inj gx
      rw [if_pos (by rw [this]), if_pos (by omega)]
    · have hne : o[i] ≠ x := fun e2 => e (by
        have a := List.getElem?_eq_some_iff.1 gx
        exact (List.getElem_inj hnd).1 (a.2.trans e2.symm))
      rw [if_neg (by omega)]
      exact plF_at hnd hb (by omega) (by omega) gx
theorem plF_no {n : Nat} {o : List Int} (hb : ∀ x ∈ o, 0 ≤ x ∧ x < n) : ∀ {i : Nat}, i ≤ o.length → ∀ {x : Nat}, x < n → (x : Int) ∉ o → (plF n o i)[x]? = some (-1)
  | 0, _, x, hx, _ => by simp only [plF]; rw [List.getElem?_replicate, if_pos hx]
  | i + 1, hi, x, hx, hno => by
    have gi : o[i]? = some o[i] := List.getElem?_eq_getElem (by omega)
    have hgd : o.getD i 0 = o[i] := by rw [List.getD_eq_getElem?_getD, gi]; rfl
    have hm := List.mem_of_getElem? gi
    have h1 := hb _ hm
    simp only [plF]
    rw [hgd, List.getElem?_set, if_neg]
    · exact plF_no hb (by omega) hx hno
    · intro e
      apply hno
      rw [← e, show ((o[i].toNat : Nat) : Int) = o[i] by omega]
      exact hm

set_option maxHeartbeats 4000000 in
theorem Tree67_spec (f : Fun) (hf : f.fits) (hn : f.blocks.length ≤ 1000000) : FnSpec Try.prog 9 [funA f] (fun r => ∃ l : List Int, r = .osl 1 (l.map int1) ∧ TreeP (succsF f) l) := by
  have hcl := succsF_closed f
  have hsl := succsF_len f
  have hO := Order93_spec f hf hn
  have hP := Preds68_spec f hf hn
  refine spec_of 6 Try.func9 rfl rfl ?_
  repeat' first | refine Len.map ?_ | refine Len.nil ?_ | refine Len.cons ?_ | refine Br.t rfl ?_ | refine Br.f rfl ?_ | refine Fit.au ?_ | refine Cv.au ?_ | refine Need.ne ?_ | refine Need.au ?_ | refine Pick.map (by assumption) ?_ | refine Pick.mapI (by omega) (by assumption) ?_ | refine PickN.mk _ (by assumption) ?_ | refine PickN.mk _ rfl ?_ | refine PickN.au ?_ | refine App.au rfl ?_ | refine App.au (own_map (fun _ => rfl) _) ?_ | refine Both.mk ?_ ?_ | exact True.intro
  refine Stop.mk ?_
  apply join (fun o : List Int => [(1, .hp 0 0), (3, .hw 1), (4, .hw 2)]) (fun o => [(0, .var f.cs), (1, .row 1 (o.map int1)), (2, .row 1 ((predsF (succsF f)).map olst))]) 3 (fun o => o.length ≤ f.blocks.length ∧ OrdP (succsF f) o)
  · intro jn
    refine go 2 Try.func9 ?_
    repeat' first | refine Draw.mk (ordL [1, 3] [0, 2, 1, 3, 4, 5]) (by decide +kernel) ?_ | refine Draw.mk (.one 0 false (.one 1 false (.one 2 false (.one 4 false (.one 5 false (.one 6 false (.alt 3 (ordL [7] [8, 7, 9]) (.alt 7 (ordL [3] [3, 8, 9]) .no)))))))) (by decide +kernel) ?_ | (refine Call.of hO ?_; rintro r ⟨o, rfl, hol, hop⟩; refine ⟨rfl, ?_⟩) | refine Call.eq hP rfl ?_ | refine Len.map ?_ | refine Len.nil ?_ | refine Len.cons ?_ | refine Br.t rfl ?_ | refine Br.f rfl ?_ | refine Fit.au ?_ | refine Cv.au ?_ | refine Need.ne ?_ | refine Need.au ?_ | refine Pick.map (by assumption) ?_ | refine Pick.mapI (by omega) (by assumption) ?_ | refine PickN.mk _ (by assumption) ?_ | refine PickN.mk _ rfl ?_ | refine PickN.au ?_ | refine App.au rfl ?_ | refine App.au (own_map (fun _ => rfl) _) ?_ | refine Both.mk ?_ ?_ | exact True.intro
    all_goals exact Stop.mk (jn o (g := []) _ _ _ ⟨rfl, (by repeat' first | exact trivial | refine ⟨rfl, ?_⟩ | refine ⟨congrArg (fun n => AV.lit (.int .i64 n)) (by omega), ?_⟩ | refine ⟨congrArg (fun l => some (Row.row 1 l)) (by simp [int1, num, tru]), ?_⟩), (by repeat' first | exact trivial | refine ⟨rfl, ?_⟩ | refine ⟨congrArg (fun n => AV.lit (.int .i64 n)) (by omega), ?_⟩ | refine ⟨congrArg (fun l => some (Row.row 1 l)) (by simp [int1, num, tru]), ?_⟩)⟩ ⟨hol, hop⟩)
  rintro o ⟨hol, hop⟩
  refine run_frzR 1 rfl (fzi _) ?_
  refine run_frzR 2 rfl (fzLL_map fz_olsts _) ?_
  refine Run.fr (g := []) (tm' := [(1, .hp 0 0), (3, ints o), (4, lsts (predsF (succsF f)))]) (hp' := [(0, .var f.cs)]) (nx' := 1) ?_ ⟨rfl, (by repeat' first | exact trivial | refine ⟨rfl, ?_⟩ | refine ⟨congrArg (fun n => AV.lit (.int .i64 n)) (by omega), ?_⟩ | refine ⟨congrArg (fun l => some (Row.row 1 l)) (by simp [int1, num, tru]), ?_⟩), (by repeat' first | exact trivial | refine ⟨rfl, ?_⟩ | refine ⟨congrArg (fun n => AV.lit (.int .i64 n)) (by omega), ?_⟩ | refine ⟨congrArg (fun l => some (Row.row 1 l)) (by simp [int1, num, tru]), ?_⟩)⟩
  apply join (fun _ : Unit => [(1, .hp 0 0), (3, ints o), (4, lsts (predsF (succsF f))), (5, .hw 1), (6, .hw 2)]) (fun _ => [(0, .var f.cs), (1, .row 1 ((List.replicate f.blocks.length (0 : Int)).map int1)), (2, .row 1 ((List.replicate f.blocks.length (0 : Int)).map int1))]) 3 (fun _ => True)
  · intro jn
    rw [List.map_replicate] at jn
    refine go 2 Try.func9 ?_
    repeat' first | refine Draw.mk (ordL [1, 3] [0, 2, 1, 3, 4, 5]) (by decide +kernel) ?_ | refine Draw.mk (.one 0 false (.one 1 false (.one 2 false (.one 4 false (.one 5 false (.one 6 false (.alt 3 (ordL [7] [8, 7, 9]) (.alt 7 (ordL [3] [3, 8, 9]) .no)))))))) (by decide +kernel) ?_ | refine MkS.mk _ rfl rfl (by omega) (by omega) ?_ | refine Len.map ?_ | refine Len.nil ?_ | refine Len.cons ?_ | refine Br.t rfl ?_ | refine Br.f rfl ?_ | refine Fit.au ?_ | refine Cv.au ?_ | refine Need.ne ?_ | refine Need.au ?_ | refine Pick.map (by assumption) ?_ | refine Pick.mapI (by omega) (by assumption) ?_ | refine PickN.mk _ (by assumption) ?_ | refine PickN.mk _ rfl ?_ | refine PickN.au ?_ | refine App.au rfl ?_ | refine App.au (own_map (fun _ => rfl) _) ?_ | refine Both.mk ?_ ?_ | exact True.intro
    all_goals (refine Stop.mk ?_; first | (refine jn () (g := []) _ _ _ ⟨rfl, ?_, ?_⟩ trivial; all_goals (repeat' first | exact trivial | refine ⟨rfl, ?_⟩); done) | (refine jn () (g := [(1, 2), (2, 1)]) _ _ _ ⟨rfl, ?_, ?_⟩ trivial; all_goals (repeat' first | exact trivial | refine ⟨rfl, ?_⟩); done))
  intro _ _
  have hs' := hsl
  have hpl := predsF_len (succsF f)
  have hpg : ∀ c : Nat, c < (succsF f).length → (predsF (succsF f))[c]? = some (predOf (succsF f) c (succsF f).length) := fun c hc => by
    unfold predsF
    rw [List.getElem?_map, List.getElem?_range hc]; rfl
  have hpol := fun c : Nat => predOf_len (succsF f) c (succsF f).length
  have hob : ∀ x ∈ o, 0 ≤ x ∧ x < f.blocks.length := fun x hx => by
    have := (hop.mem x).1 hx
    have h2 := Rc_lt hcl (x := x.toNat) (by unfold Rc; rw [show ((x.toNat : Nat) : Int) = x by omega]; exact this.2)
    omega
  generalize succsF f = s at *
  generalize predsF s = P at *
  generalize f.blocks.length = n at *
  rw [← iniL_zero]
  have hz := iniL_len (n := n) (k := 0) (by omega)
  refine go 1000 Try.func9 ?_
  repeat' first | refine Len.map ?_ | refine Len.nil ?_ | refine Len.cons ?_ | refine Br.t rfl ?_ | refine Br.f rfl ?_ | refine Fit.au ?_ | refine Cv.au ?_ | refine Need.ne ?_ | refine Need.au ?_ | refine Pick.map (by assumption) ?_ | refine Pick.mapI (by omega) (by assumption) ?_ | refine PickN.mk _ (by assumption) ?_ | refine PickN.mk _ rfl ?_ | refine PickN.au ?_ | refine App.au rfl ?_ | refine App.au (own_map (fun _ => rfl) _) ?_ | refine Both.mk ?_ ?_ | exact True.intro
  refine Stop.mk (loop_in (g := []) (fun k : Nat => [(1, .hp 0 0), (3, ints o), (4, lsts P), (5, .hw 1), (6, .hw 2), (30, num (iniL n 0).length), (31, num k)]) (fun k => [(0, .var f.cs), (1, .row 1 ((iniL n k).map int1)), (2, .row 1 ((iniL n k).map int1))]) 3 (fun k => k ≤ n) (fun k => n - k) 0 (by omega) ⟨rfl, (by repeat' first | exact trivial | refine ⟨rfl, ?_⟩ | refine ⟨congrArg (fun n => AV.lit (.int .i64 n)) (by omega), ?_⟩ | refine ⟨congrArg (fun l => some (Row.row 1 l)) (by simp [int1, num, tru]), ?_⟩), (by repeat' first | exact trivial | refine ⟨rfl, ?_⟩ | refine ⟨congrArg (fun n => AV.lit (.int .i64 n)) (by omega), ?_⟩ | refine ⟨congrArg (fun l => some (Row.row 1 l)) (by simp [int1, num, tru]), ?_⟩)⟩ (fun k hk ih => ?_))
  have hil := iniL_len hk
  refine go 1000 Try.func9 ?_
  repeat' first | refine Len.map ?_ | refine Len.nil ?_ | refine Len.cons ?_ | refine Br.t rfl ?_ | refine Br.f rfl ?_ | refine Fit.au ?_ | refine Cv.au ?_ | refine Need.ne ?_ | refine Need.au ?_ | refine Pick.map (by assumption) ?_ | refine Pick.mapI (by omega) (by assumption) ?_ | refine PickN.mk _ (by assumption) ?_ | refine PickN.mk _ rfl ?_ | refine PickN.au ?_ | refine App.au rfl ?_ | refine App.au (own_map (fun _ => rfl) _) ?_ | refine Both.mk ?_ ?_ | exact True.intro
  refine Br.d (fun h2 => ?_) (fun h2 => ?_)
  · have hset := iniL_set (n := n) (k := k) (by omega)
    obtain ⟨v, gv, -⟩ := getK (l := iniL n k) (k := k) (by omega)
    repeat' first | refine PickN.map gv ?_ | refine Len.map ?_ | refine Len.nil ?_ | refine Len.cons ?_ | refine Br.t rfl ?_ | refine Br.f rfl ?_ | refine Fit.au ?_ | refine Cv.au ?_ | refine Need.ne ?_ | refine Need.au ?_ | refine Pick.map (by assumption) ?_ | refine Pick.mapI (by omega) (by assumption) ?_ | refine PickN.mk _ (by assumption) ?_ | refine PickN.mk _ rfl ?_ | refine PickN.au ?_ | refine App.au rfl ?_ | refine App.au (own_map (fun _ => rfl) _) ?_ | refine Both.mk ?_ ?_ | exact True.intro
    refine Stop.mk (ih (k + 1) (g := []) _ _ _ (by omega) (by omega) ?_)
    rw [← hset, List.map_set]
    exact ⟨rfl, (by repeat' first | exact trivial | refine ⟨rfl, ?_⟩ | refine ⟨congrArg (fun n => AV.lit (.int .i64 n)) (by omega), ?_⟩ | refine ⟨congrArg (fun l => some (Row.row 1 l)) (by simp [int1, num, tru]), ?_⟩), (by repeat' first | exact trivial | refine ⟨rfl, ?_⟩ | refine ⟨congrArg (fun n => AV.lit (.int .i64 n)) (by omega), ?_⟩ | refine ⟨congrArg (fun l => some (Row.row 1 l)) (by simp [int1, num, tru]), ?_⟩)⟩
  obtain rfl : k = n := by omega
  rw [iniL_all]
  clear ih hz hil h2
  repeat' first | refine Len.map ?_ | refine Len.nil ?_ | refine Len.cons ?_ | refine Br.t rfl ?_ | refine Br.f rfl ?_ | refine Fit.au ?_ | refine Cv.au ?_ | refine Need.ne ?_ | refine Need.au ?_ | refine Pick.map (by assumption) ?_ | refine Pick.mapI (by omega) (by assumption) ?_ | refine PickN.mk _ (by assumption) ?_ | refine PickN.mk _ rfl ?_ | refine PickN.au ?_ | refine App.au rfl ?_ | refine App.au (own_map (fun _ => rfl) _) ?_ | refine Both.mk ?_ ?_ | exact True.intro
  refine Stop.mk (loop_in (g := []) (fun i : Nat => [(1, .hp 0 0), (3, ints o), (4, lsts P), (5, .hw 1), (6, .hw 2), (41, ints o), (42, num o.length), (43, num i)]) (fun i => [(0, .var f.cs), (1, .row 1 ((List.replicate k (-1 : Int)).map int1)), (2, .row 1 ((plF k o i).map int1))]) 3 (fun i => i ≤ o.length) (fun i => o.length - i) 0 (by omega) ⟨rfl, (by repeat' first | exact trivial | refine ⟨rfl, ?_⟩ | refine ⟨congrArg (fun n => AV.lit (.int .i64 n)) (by omega), ?_⟩ | refine ⟨congrArg (fun l => some (Row.row 1 l)) (by simp [int1, num, tru]), ?_⟩), (by repeat' first | exact trivial | refine ⟨rfl, ?_⟩ | refine ⟨congrArg (fun n => AV.lit (.int .i64 n)) (by omega), ?_⟩ | refine ⟨congrArg (fun l => some (Row.row 1 l)) (by simp [int1, num, tru]), ?_⟩)⟩ (fun i hi ih => ?_))
  have hil := plF_len k o i
  refine go 1000 Try.func9 ?_
  repeat' first | refine Len.map ?_ | refine Len.nil ?_ | refine Len.cons ?_ | refine Br.t rfl ?_ | refine Br.f rfl ?_ | refine Fit.au ?_ | refine Cv.au ?_ | refine Need.ne ?_ | refine Need.au ?_ | refine Pick.map (by assumption) ?_ | refine Pick.mapI (by omega) (by assumption) ?_ | refine PickN.mk _ (by assumption) ?_ | refine PickN.mk _ rfl ?_ | refine PickN.au ?_ | refine App.au rfl ?_ | refine App.au (own_map (fun _ => rfl) _) ?_ | refine Both.mk ?_ ?_ | exact True.intro
  refine Br.d (fun h2 => ?_) (fun h2 => ?_)
  · obtain ⟨x, gx, gxm⟩ := getK (l := o) (k := i) (by omega)
    have hx := hob x gxm
    obtain ⟨c, rfl⟩ : ∃ c : Nat, x = (c : Int) := ⟨x.toNat, by omega⟩
    obtain ⟨v, gv, -⟩ := getK (l := plF k o i) (k := c) (by omega)
    have hset : plF k o (i + 1) = (plF k o i).set c (i : Int) := by
      show (plF k o i).set (o.getD i 0).toNat (i : Int) = _
      rw [List.getD_eq_getElem?_getD, gx]; rfl
    repeat' first | refine Pick.map gx ?_ | refine PickN.map gv ?_ | refine Len.map ?_ | refine Len.nil ?_ | refine Len.cons ?_ | refine Br.t rfl ?_ | refine Br.f rfl ?_ | refine Fit.au ?_ | refine Cv.au ?_ | refine Need.ne ?_ | refine Need.au ?_ | refine Pick.map (by assumption) ?_ | refine Pick.mapI (by omega) (by assumption) ?_ | refine PickN.mk _ (by assumption) ?_ | refine PickN.mk _ rfl ?_ | refine PickN.au ?_ | refine App.au rfl ?_ | refine App.au (own_map (fun _ => rfl) _) ?_ | refine Both.mk ?_ ?_ | exact True.intro
    refine Stop.mk (ih (i + 1) (g := []) _ _ _ (by omega) (by omega) ?_)
    rw [hset, List.map_set]
    exact ⟨rfl, (by repeat' first | exact trivial | refine ⟨rfl, ?_⟩ | refine ⟨congrArg (fun n => AV.lit (.int .i64 n)) (by omega), ?_⟩ | refine ⟨congrArg (fun l => some (Row.row 1 l)) (by simp [int1, num, tru]), ?_⟩), (by repeat' first | exact trivial | refine ⟨rfl, ?_⟩ | refine ⟨congrArg (fun n => AV.lit (.int .i64 n)) (by omega), ?_⟩ | refine ⟨congrArg (fun l => some (Row.row 1 l)) (by simp [int1, num, tru]), ?_⟩)⟩
  obtain rfl : i = o.length := by omega
  have hat : ∀ {j : Nat} {x : Int}, o[j]? = some x → (plF k o o.length)[x.toNat]? = some (j : Int) := fun {j x} gx => plF_at hop.nodup hob (Nat.le_refl _) (List.getElem?_eq_some_iff.1 gx).1 gx
  have hno : ∀ {x : Nat}, x < k → (x : Int) ∉ o → (plF k o o.length)[x]? = some (-1) := fun hx hm => plF_no hob (Nat.le_refl _) hx hm
  generalize plF k o o.length = pls at *
  clear ih h2
  repeat' first | refine MkS.mk k (by simp) (by simp) (by omega) (by omega) ?_ | refine Len.map ?_ | refine Len.nil ?_ | refine Len.cons ?_ | refine Br.t rfl ?_ | refine Br.f rfl ?_ | refine Fit.au ?_ | refine Cv.au ?_ | refine Need.ne ?_ | refine Need.au ?_ | refine Pick.map (by assumption) ?_ | refine Pick.mapI (by omega) (by assumption) ?_ | refine PickN.mk _ (by assumption) ?_ | refine PickN.mk _ rfl ?_ | refine PickN.au ?_ | refine App.au rfl ?_ | refine App.au (own_map (fun _ => rfl) _) ?_ | refine Both.mk ?_ ?_ | exact True.intro
  refine Stop.mk (run_frzR 2 rfl (fzi _) ?_)
  refine Run.fr (g := [(2, 3)]) (tm' := [(3, ints o), (4, lsts P), (5, .hw 1), (6, ints pls), (10, .hw 2)]) (hp' := [(1, .row 1 ((List.replicate k (-1 : Int)).map int1)), (2, .row 1 ((List.replicate k false).map tb))]) (nx' := 3) ?_ ?_
  rotate_left
  · rw [List.map_replicate (f := tb)]; exact ⟨rfl, (by repeat' first | exact trivial | refine ⟨rfl, ?_⟩ | refine ⟨congrArg (fun n => AV.lit (.int .i64 n)) (by omega), ?_⟩ | refine ⟨congrArg (fun l => some (Row.row 1 l)) (by simp [int1, num, tru]), ?_⟩), (by repeat' first | exact trivial | refine ⟨rfl, ?_⟩ | refine ⟨congrArg (fun n => AV.lit (.int .i64 n)) (by omega), ?_⟩ | refine ⟨congrArg (fun l => some (Row.row 1 l)) (by simp [int1, num, tru]), ?_⟩)⟩
  obtain ⟨pl, hpl1⟩ : ∃ pl : Nat → Nat, pl = fun x => (pls.getD x 0).toNat := ⟨_, rfl⟩
  have hplR : ∀ x, Rc s x → o[pl x]? = some (x : Int) ∧ pls[x]? = some (pl x : Int) := fun x hx => by
    obtain ⟨j, gj⟩ := List.getElem?_of_mem ((hop.mem x).2 ⟨by omega, hx⟩)
    have h1 : pls[x]? = some (j : Int) := hat gj
    have h2 : pl x = j := by rw [hpl1]; show (pls.getD x 0).toNat = j; rw [List.getD_eq_getElem?_getD, h1]; rfl
    rw [h2]; exact ⟨gj, h1⟩
  have O : s ≠ [] → Rpo s pl o.length := fun h0 => hop.rpo h0 fun x hx => (hplR x hx).1
  refine loop_in (g := []) (fun p : List Int × List Bool => [(3, ints o), (4, lsts P), (5, .hw 1), (6, ints pls), (10, .hw 2)]) (fun p => [(1, .row 1 (p.1.map int1)), (2, .row 1 (p.2.map tb))]) 3 (fun p => p.1.length = k ∧ p.2.length = k ∧ (s ≠ [] → Hd s pl p.1 (p.2.set 0 true))) (fun p => mu pl o.length s.length p.1 (p.2.set 0 true)) (List.replicate k (-1), List.replicate k false) ⟨by simp, by simp, fun h0 => by simp only; rw [← hs']; exact .start (O h0) h0⟩ ⟨rfl, (by repeat' first | exact trivial | refine ⟨rfl, ?_⟩ | refine ⟨congrArg (fun n => AV.lit (.int .i64 n)) (by omega), ?_⟩ | refine ⟨congrArg (fun l => some (Row.row 1 l)) (by simp [int1, num, tru]), ?_⟩), (by repeat' first | exact trivial | refine ⟨rfl, ?_⟩ | refine ⟨congrArg (fun n => AV.lit (.int .i64 n)) (by omega), ?_⟩ | refine ⟨congrArg (fun l => some (Row.row 1 l)) (by simp [int1, num, tru]), ?_⟩)⟩ (fun p hp ih => ?_)
  obtain ⟨l0, dsz⟩ := p
  obtain ⟨hl0, hdz, hHd⟩ := hp
  dsimp only at hl0 hdz hHd ih ⊢
  refine go 1000 Try.func9 ?_
  repeat' first | refine Len.map ?_ | refine Len.nil ?_ | refine Len.cons ?_ | refine Br.t rfl ?_ | refine Br.f rfl ?_ | refine Fit.au ?_ | refine Cv.au ?_ | refine Need.ne ?_ | refine Need.au ?_ | refine Pick.map (by assumption) ?_ | refine Pick.mapI (by omega) (by assumption) ?_ | refine PickN.mk _ (by assumption) ?_ | refine PickN.mk _ rfl ?_ | refine PickN.au ?_ | refine App.au rfl ?_ | refine App.au (own_map (fun _ => rfl) _) ?_ | refine Both.mk ?_ ?_ | exact True.intro
  refine Br.d (fun h2 => ?_) (fun h2 => ?_)
  rotate_left
  · have ho : o = [] := List.eq_nil_of_length_eq_zero (by omega)
    have h0 : s = [] := Classical.byContradiction fun h0 => by
      have := hop.zero h0
      rw [ho] at this; cases this
    subst h0
    have hk0 : k = 0 := by rw [← hs']; rfl
    repeat' first | refine Len.map ?_ | refine Len.nil ?_ | refine Len.cons ?_ | refine Br.t rfl ?_ | refine Br.f rfl ?_ | refine Fit.au ?_ | refine Cv.au ?_ | refine Need.ne ?_ | refine Need.au ?_ | refine Pick.map (by assumption) ?_ | refine Pick.mapI (by omega) (by assumption) ?_ | refine PickN.mk _ (by assumption) ?_ | refine PickN.mk _ rfl ?_ | refine PickN.au ?_ | refine App.au rfl ?_ | refine App.au (own_map (fun _ => rfl) _) ?_ | refine Both.mk ?_ ?_ | exact True.intro
    have hR : ∀ x, ¬ Rc [] x := fun x hx => by
      cases hx' : (x : Int) with
      | _ => have := Rc_lt (s := []) (fun l hl => by cases hl) hx; simp at this
    exact ⟨l0, rfl, by rw [hl0, hk0]; rfl, fun x hx => absurd hx (by simp), fun x _ hx => absurd hx (hR x), fun a x hx => absurd hx (hR x), fun _ => 0, fun x _ hx => absurd hx (hR x)⟩
  have h0 : s ≠ [] := fun e => by
    have g : o[0]? = some o[0] := List.getElem?_eq_getElem (by omega)
    have := hob _ (List.mem_of_getElem? g)
    rw [e] at hs'
    simp at hs'
    omega
  replace hHd := hHd h0
  replace O := O h0
  obtain ⟨v0, gv0, -⟩ := getK (l := dsz) (k := 0) (by have := List.length_pos_iff.2 h0; omega)
  have hds0 : (dsz.map tb).set 0 (tb true) = (dsz.set 0 true).map tb := by rw [List.map_set]
  repeat' first | refine PickN.map gv0 ?_ | refine SubFrom.map (a := 1) (by omega) ?_ | refine Len.map ?_ | refine Len.nil ?_ | refine Len.cons ?_ | refine Br.t rfl ?_ | refine Br.f rfl ?_ | refine Fit.au ?_ | refine Cv.au ?_ | refine Need.ne ?_ | refine Need.au ?_ | refine Pick.map (by assumption) ?_ | refine Pick.mapI (by omega) (by assumption) ?_ | refine PickN.mk _ (by assumption) ?_ | refine PickN.mk _ rfl ?_ | refine PickN.au ?_ | refine App.au rfl ?_ | refine App.au (own_map (fun _ => rfl) _) ?_ | refine Both.mk ?_ ?_ | exact True.intro
  have hdl : (o.drop 1).length = o.length - 1 := by rw [List.length_drop]
  have hdg : ∀ i, (o.drop 1)[i]? = o[i + 1]? := fun i => by rw [List.getElem?_drop, Nat.add_comm]
  generalize hds : dsz.set 0 true = ds0 at *
  refine Stop.mk (loop_in (g := []) (fun p : Nat × List Int × List Bool × Bool => [(3, ints o), (4, lsts P), (5, .hw 1), (6, ints pls), (10, .hw 2), (62, .sl false 1 ((o.drop 1).map int1)), (63, num (o.drop 1).length), (64, num p.1), (11, tru p.2.2.2)]) (fun p => [(1, .row 1 (p.2.1.map int1)), (2, .row 1 (p.2.2.1.map tb))]) 3 (fun p => p.1 ≤ o.length - 1 ∧ Rnd s pl o.length l0 ds0 p.2.1 p.2.2.1 p.2.2.2 (p.1 + 1)) (fun p => o.length - p.1) (0, l0, ds0, false) ⟨by simp only; omega, hHd.rnd O h0⟩ ?_ (fun p hp ih2 => ?_))
  · dsimp only
    rw [← hds, List.map_set]
    exact ⟨rfl, (by repeat' first | exact trivial | refine ⟨rfl, ?_⟩ | refine ⟨congrArg (fun n => AV.lit (.int .i64 n)) (by omega), ?_⟩ | refine ⟨congrArg (fun l => some (Row.row 1 l)) (by simp [int1, num, tru]), ?_⟩), (by repeat' first | exact trivial | refine ⟨rfl, ?_⟩ | refine ⟨congrArg (fun n => AV.lit (.int .i64 n)) (by omega), ?_⟩ | refine ⟨congrArg (fun l => some (Row.row 1 l)) (by simp [int1, num, tru]), ?_⟩)⟩
  obtain ⟨i, l, ds, ch⟩ := p
  obtain ⟨hi, hR⟩ := hp
  dsimp only at hi hR ih2 ⊢
  have hll := hR.ln
  have hdsl := hR.dl
  refine go 1000 Try.func9 ?_
  repeat' first | refine Len.map ?_ | refine Len.nil ?_ | refine Len.cons ?_ | refine Br.t rfl ?_ | refine Br.f rfl ?_ | refine Fit.au ?_ | refine Cv.au ?_ | refine Need.ne ?_ | refine Need.au ?_ | refine Pick.map (by assumption) ?_ | refine Pick.mapI (by omega) (by assumption) ?_ | refine PickN.mk _ (by assumption) ?_ | refine PickN.mk _ rfl ?_ | refine PickN.au ?_ | refine App.au rfl ?_ | refine App.au (own_map (fun _ => rfl) _) ?_ | refine Both.mk ?_ ?_ | exact True.intro
  refine Br.d (fun h3 => ?_) (fun h3 => ?_)
  rotate_left
  · have hR' : Rnd s pl o.length l0 ds0 l ds ch o.length := by
      have e : i + 1 = o.length := by omega
      rw [e] at hR; exact hR
    repeat' first | refine Len.map ?_ | refine Len.nil ?_ | refine Len.cons ?_ | refine Br.t rfl ?_ | refine Br.f rfl ?_ | refine Fit.au ?_ | refine Cv.au ?_ | refine Need.ne ?_ | refine Need.au ?_ | refine Pick.map (by assumption) ?_ | refine Pick.mapI (by omega) (by assumption) ?_ | refine PickN.mk _ (by assumption) ?_ | refine PickN.mk _ rfl ?_ | refine PickN.au ?_ | refine App.au rfl ?_ | refine App.au (own_map (fun _ => rfl) _) ?_ | refine Both.mk ?_ ?_ | exact True.intro
    refine Br.mk (fun h4 => ?_) (fun h4 => ?_)
    · repeat' first | refine Len.map ?_ | refine Len.nil ?_ | refine Len.cons ?_ | refine Br.t rfl ?_ | refine Br.f rfl ?_ | refine Fit.au ?_ | refine Cv.au ?_ | refine Need.ne ?_ | refine Need.au ?_ | refine Pick.map (by assumption) ?_ | refine Pick.mapI (by omega) (by assumption) ?_ | refine PickN.mk _ (by assumption) ?_ | refine PickN.mk _ rfl ?_ | refine PickN.au ?_ | refine App.au rfl ?_ | refine App.au (own_map (fun _ => rfl) _) ?_ | refine Both.mk ?_ ?_ | exact True.intro
      exact ⟨l, rfl, hR'.done hcl O (by simpa using h4)⟩
    · have hhd := hR'.hd O
      have hset := hhd.set
      repeat' first | refine Len.map ?_ | refine Len.nil ?_ | refine Len.cons ?_ | refine Br.t rfl ?_ | refine Br.f rfl ?_ | refine Fit.au ?_ | refine Cv.au ?_ | refine Need.ne ?_ | refine Need.au ?_ | refine Pick.map (by assumption) ?_ | refine Pick.mapI (by omega) (by assumption) ?_ | refine PickN.mk _ (by assumption) ?_ | refine PickN.mk _ rfl ?_ | refine PickN.au ?_ | refine App.au rfl ?_ | refine App.au (own_map (fun _ => rfl) _) ?_ | refine Both.mk ?_ ?_ | exact True.intro
      refine Stop.mk (ih (l, ds) (g := []) _ _ _ ⟨by rw [hll, hs'], by rw [hdsl, hs'], fun _ => by simp only; rw [hset]; exact hhd⟩ ?_ ⟨rfl, (by repeat' first | exact trivial | refine ⟨rfl, ?_⟩ | refine ⟨congrArg (fun n => AV.lit (.int .i64 n)) (by omega), ?_⟩ | refine ⟨congrArg (fun l => some (Row.row 1 l)) (by simp [int1, num, tru]), ?_⟩), (by repeat' first | exact trivial | refine ⟨rfl, ?_⟩ | refine ⟨congrArg (fun n => AV.lit (.int .i64 n)) (by omega), ?_⟩ | refine ⟨congrArg (fun l => some (Row.row 1 l)) (by simp [int1, num, tru]), ?_⟩)⟩)
      simp only
      rw [hset]
      exact hR'.lt (by simpa using h4)
  obtain ⟨x, gx0, -⟩ := getK (l := o.drop 1) (k := i) (by omega)
  have gx := gx0
  rw [hdg] at gx
  obtain ⟨hx0, hxR⟩ := (hop.mem x).1 (List.mem_of_getElem? gx)
  obtain ⟨c, rfl⟩ : ∃ c : Nat, x = (c : Int) := ⟨x.toNat, by omega⟩
  have hcR : Rc s c := hxR
  have hcl2 := Rc_lt hcl hcR
  have hcpl : pl c = i + 1 := hop.idx (hplR c hcR).1 gx
  have hc0 : c ≠ 0 := fun e => by
    subst e
    have := O.zero
    omega
  have gr := hpg c hcl2
  obtain ⟨y, gy, -⟩ := getK (l := l) (k := c) (by omega)
  obtain ⟨z, gz, -⟩ := getK (l := ds) (k := c) (by omega)
  have hrn := fun (x : Int) (h : x ∈ predOf s c s.length) => predOf_nn h
  have hrl := hpol c
  have hstep := fun nx (hm : Met l ds (predOf s c s.length) nx) => hR.step hcl O hc0 hcR hcpl hm gy
  generalize predOf s c s.length = r at *
  repeat' first | refine Pick.map gx0 ?_ | refine Pick.map gr ?_ | refine Len.map ?_ | refine Len.nil ?_ | refine Len.cons ?_ | refine Br.t rfl ?_ | refine Br.f rfl ?_ | refine Fit.au ?_ | refine Cv.au ?_ | refine Need.ne ?_ | refine Need.au ?_ | refine Pick.map (by assumption) ?_ | refine Pick.mapI (by omega) (by assumption) ?_ | refine PickN.mk _ (by assumption) ?_ | refine PickN.mk _ rfl ?_ | refine PickN.au ?_ | refine App.au rfl ?_ | refine App.au (own_map (fun _ => rfl) _) ?_ | refine Both.mk ?_ ?_ | exact True.intro
  refine Stop.mk (loop_in (g := []) (fun p : Nat × Int => [(3, ints o), (4, lsts P), (5, .hw 1), (6, ints pls), (10, .hw 2), (62, .sl false 1 ((o.drop 1).map int1)), (63, num (o.drop 1).length), (64, num i), (11, tru ch), (13, num c), (71, ints r), (72, num r.length), (73, num p.1), (14, num p.2)]) (fun p => [(1, .row 1 (l.map int1)), (2, .row 1 (ds.map tb))]) 3 (fun p => p.1 ≤ r.length ∧ Met l ds (r.take p.1) p.2) (fun p => r.length - p.1) (0, -1) ⟨by simp only; omega, .start⟩ ⟨rfl, (by repeat' first | exact trivial | refine ⟨rfl, ?_⟩ | refine ⟨congrArg (fun n => AV.lit (.int .i64 n)) (by omega), ?_⟩ | refine ⟨congrArg (fun l => some (Row.row 1 l)) (by simp [int1, num, tru]), ?_⟩), (by repeat' first | exact trivial | refine ⟨rfl, ?_⟩ | refine ⟨congrArg (fun n => AV.lit (.int .i64 n)) (by omega), ?_⟩ | refine ⟨congrArg (fun l => some (Row.row 1 l)) (by simp [int1, num, tru]), ?_⟩)⟩ (fun p hp ih3 => ?_))
  obtain ⟨j, nx⟩ := p
  obtain ⟨hj, hM⟩ := hp
  dsimp only at hj hM ih3 ⊢
  refine go 1000 Try.func9 ?_
  repeat' first | refine Len.map ?_ | refine Len.nil ?_ | refine Len.cons ?_ | refine Br.t rfl ?_ | refine Br.f rfl ?_ | refine Fit.au ?_ | refine Cv.au ?_ | refine Need.ne ?_ | refine Need.au ?_ | refine Pick.map (by assumption) ?_ | refine Pick.mapI (by omega) (by assumption) ?_ | refine PickN.mk _ (by assumption) ?_ | refine PickN.mk _ rfl ?_ | refine PickN.au ?_ | refine App.au rfl ?_ | refine App.au (own_map (fun _ => rfl) _) ?_ | refine Both.mk ?_ ?_ | exact True.intro
  refine Br.d (fun h4 => ?_) (fun h4 => ?_)
  · obtain ⟨y', gp, gpm⟩ := getK (l := r) (k := j) (by omega)
    obtain ⟨p, rfl, hpE⟩ := hrn y' gpm
    have hpk : p < k := by
      obtain ⟨q, gq, -⟩ := hpE
      have := (List.getElem?_eq_some_iff.1 gq).1
      omega
    obtain ⟨dp, gd, -⟩ := getK (l := ds) (k := p) (by omega)
    have htk := take_succ gp
    have hnext : ∀ nx', Met l ds (r.take j ++ [(p : Int)]) nx' → Met l ds (r.take (j + 1)) nx' := fun nx' h => by rw [htk]; exact h
    by_cases hpR : Rc s p
    · have gpl := (hplR p hpR).2
      repeat' first | refine Pick.map gp ?_ | refine Pick.map gpl ?_ | refine PickN.map gd ?_ | (refine Br.f ?_ ?_; focus (simp; omega)) | refine Len.map ?_ | refine Len.nil ?_ | refine Len.cons ?_ | refine Br.t rfl ?_ | refine Br.f rfl ?_ | refine Fit.au ?_ | refine Cv.au ?_ | refine Need.ne ?_ | refine Need.au ?_ | refine Pick.map (by assumption) ?_ | refine Pick.mapI (by omega) (by assumption) ?_ | refine PickN.mk _ (by assumption) ?_ | refine PickN.mk _ rfl ?_ | refine PickN.au ?_ | refine App.au rfl ?_ | refine App.au (own_map (fun _ => rfl) _) ?_ | refine Both.mk ?_ ?_ | exact True.intro
      refine Br.mk (fun h5 => ?_) (fun h5 => ?_)
      · have hdp : dp = false := by simpa using h5
        repeat' first | refine Len.map ?_ | refine Len.nil ?_ | refine Len.cons ?_ | refine Br.t rfl ?_ | refine Br.f rfl ?_ | refine Fit.au ?_ | refine Cv.au ?_ | refine Need.ne ?_ | refine Need.au ?_ | refine Pick.map (by assumption) ?_ | refine Pick.mapI (by omega) (by assumption) ?_ | refine PickN.mk _ (by assumption) ?_ | refine PickN.mk _ rfl ?_ | refine PickN.au ?_ | refine App.au rfl ?_ | refine App.au (own_map (fun _ => rfl) _) ?_ | refine Both.mk ?_ ?_ | exact True.intro
        refine Stop.mk (ih3 (j + 1, nx) (g := []) _ _ _ ⟨by simp only; omega, hnext _ (hM.skip fun h => ?_)⟩ (by simp only; omega) ⟨rfl, (by repeat' first | exact trivial | refine ⟨rfl, ?_⟩ | refine ⟨congrArg (fun n => AV.lit (.int .i64 n)) (by omega), ?_⟩ | refine ⟨congrArg (fun l => some (Row.row 1 l)) (by simp [int1, num, tru]), ?_⟩), (by repeat' first | exact trivial | refine ⟨rfl, ?_⟩ | refine ⟨congrArg (fun n => AV.lit (.int .i64 n)) (by omega), ?_⟩ | refine ⟨congrArg (fun l => some (Row.row 1 l)) (by simp [int1, num, tru]), ?_⟩)⟩)
        have h' : ds[p]? = some true := h
        rw [gd, hdp] at h'; cases h'
      · have hdp : dp = true := by simpa using h5
        have hdn : dnOf ds p := by rw [hdp] at gd; exact gd
        repeat' first | refine Len.map ?_ | refine Len.nil ?_ | refine Len.cons ?_ | refine Br.t rfl ?_ | refine Br.f rfl ?_ | refine Fit.au ?_ | refine Cv.au ?_ | refine Need.ne ?_ | refine Need.au ?_ | refine Pick.map (by assumption) ?_ | refine Pick.mapI (by omega) (by assumption) ?_ | refine PickN.mk _ (by assumption) ?_ | refine PickN.mk _ rfl ?_ | refine PickN.au ?_ | refine App.au rfl ?_ | refine App.au (own_map (fun _ => rfl) _) ?_ | refine Both.mk ?_ ?_ | exact True.intro
        refine Br.d (fun h6 => ?_) (fun h6 => ?_)
        · repeat' first | refine Len.map ?_ | refine Len.nil ?_ | refine Len.cons ?_ | refine Br.t rfl ?_ | refine Br.f rfl ?_ | refine Fit.au ?_ | refine Cv.au ?_ | refine Need.ne ?_ | refine Need.au ?_ | refine Pick.map (by assumption) ?_ | refine Pick.mapI (by omega) (by assumption) ?_ | refine PickN.mk _ (by assumption) ?_ | refine PickN.mk _ rfl ?_ | refine PickN.au ?_ | refine App.au rfl ?_ | refine App.au (own_map (fun _ => rfl) _) ?_ | refine Both.mk ?_ ?_ | exact True.intro
          exact Stop.mk (ih3 (j + 1, (p : Int)) (g := []) _ _ _ ⟨by simp only; omega, hnext _ (hM.first h6 hdn)⟩ (by simp only; omega) ⟨rfl, (by repeat' first | exact trivial | refine ⟨rfl, ?_⟩ | refine ⟨congrArg (fun n => AV.lit (.int .i64 n)) (by omega), ?_⟩ | refine ⟨congrArg (fun l => some (Row.row 1 l)) (by simp [int1, num, tru]), ?_⟩), (by repeat' first | exact trivial | refine ⟨rfl, ?_⟩ | refine ⟨congrArg (fun n => AV.lit (.int .i64 n)) (by omega), ?_⟩ | refine ⟨congrArg (fun l => some (Row.row 1 l)) (by simp [int1, num, tru]), ?_⟩)⟩)
        · rcases hM with ⟨h7, -⟩ | ⟨N, rfl, hN, hNa⟩
          · omega
          have hM : Met l ds (r.take j) (N : Int) := .inr ⟨N, rfl, hN, hNa⟩
          have hT : Tame pl l pls (dnOf ds) := ⟨fun x hx hd => ⟨(hR.w.up x hx hd).1, (hR.w.up x hx hd).2, hR.pos x hx hd⟩, fun x hd => (hplR x (hR.w.r x hd)).2, fun x y hx hy e => O.inj x y (hR.w.r x hx) (hR.w.r y hy) e, O.zero⟩
          have hmeet := meet94_spec pl l pls (dnOf ds) hT N p hN hdn
          repeat' first | refine Look.yes (View.mk _ (fzi _) ?_) | refine Len.map ?_ | refine Len.nil ?_ | refine Len.cons ?_ | refine Br.t rfl ?_ | refine Br.f rfl ?_ | refine Fit.au ?_ | refine Cv.au ?_ | refine Need.ne ?_ | refine Need.au ?_ | refine Pick.map (by assumption) ?_ | refine Pick.mapI (by omega) (by assumption) ?_ | refine PickN.mk _ (by assumption) ?_ | refine PickN.mk _ rfl ?_ | refine PickN.au ?_ | refine App.au rfl ?_ | refine App.au (own_map (fun _ => rfl) _) ?_ | refine Both.mk ?_ ?_ | exact True.intro
          refine CallV.of hmeet ?_
          rintro r2 ⟨M, rfl, hMd, hMa⟩
          refine ⟨rfl, Free.lit _, ?_⟩
          repeat' first | refine Len.map ?_ | refine Len.nil ?_ | refine Len.cons ?_ | refine Br.t rfl ?_ | refine Br.f rfl ?_ | refine Fit.au ?_ | refine Cv.au ?_ | refine Need.ne ?_ | refine Need.au ?_ | refine Pick.map (by assumption) ?_ | refine Pick.mapI (by omega) (by assumption) ?_ | refine PickN.mk _ (by assumption) ?_ | refine PickN.mk _ rfl ?_ | refine PickN.au ?_ | refine App.au rfl ?_ | refine App.au (own_map (fun _ => rfl) _) ?_ | refine Both.mk ?_ ?_ | exact True.intro
          exact Stop.mk (ih3 (j + 1, (M : Int)) (g := []) _ _ _ ⟨by simp only; omega, hnext _ (hM.more rfl hdn hMd hMa)⟩ (by simp only; omega) ⟨rfl, (by repeat' first | exact trivial | refine ⟨rfl, ?_⟩ | refine ⟨congrArg (fun n => AV.lit (.int .i64 n)) (by omega), ?_⟩ | refine ⟨congrArg (fun l => some (Row.row 1 l)) (by simp [int1, num, tru]), ?_⟩), (by repeat' first | exact trivial | refine ⟨rfl, ?_⟩ | refine ⟨congrArg (fun n => AV.lit (.int .i64 n)) (by omega), ?_⟩ | refine ⟨congrArg (fun l => some (Row.row 1 l)) (by simp [int1, num, tru]), ?_⟩)⟩)
    · have gpl : pls[p]? = some (-1) := hno hpk fun hm => hpR ((hop.mem _).1 hm).2
      repeat' first | refine Pick.map gp ?_ | refine Pick.map gpl ?_ | refine Len.map ?_ | refine Len.nil ?_ | refine Len.cons ?_ | refine Br.t rfl ?_ | refine Br.f rfl ?_ | refine Fit.au ?_ | refine Cv.au ?_ | refine Need.ne ?_ | refine Need.au ?_ | refine Pick.map (by assumption) ?_ | refine Pick.mapI (by omega) (by assumption) ?_ | refine PickN.mk _ (by assumption) ?_ | refine PickN.mk _ rfl ?_ | refine PickN.au ?_ | refine App.au rfl ?_ | refine App.au (own_map (fun _ => rfl) _) ?_ | refine Both.mk ?_ ?_ | exact True.intro
      exact Stop.mk (ih3 (j + 1, nx) (g := []) _ _ _ ⟨by simp only; omega, hnext _ (hM.skip fun h => hpR (hR.w.r p h))⟩ (by simp only; omega) ⟨rfl, (by repeat' first | exact trivial | refine ⟨rfl, ?_⟩ | refine ⟨congrArg (fun n => AV.lit (.int .i64 n)) (by omega), ?_⟩ | refine ⟨congrArg (fun l => some (Row.row 1 l)) (by simp [int1, num, tru]), ?_⟩), (by repeat' first | exact trivial | refine ⟨rfl, ?_⟩ | refine ⟨congrArg (fun n => AV.lit (.int .i64 n)) (by omega), ?_⟩ | refine ⟨congrArg (fun l => some (Row.row 1 l)) (by simp [int1, num, tru]), ?_⟩)⟩)
  · rw [take_all (by omega)] at hM
    have hst := hstep nx hM
    have hcd : (ch || decide (nx ≠ y)) = (ch || !decide (nx = y)) := by simp
    rw [hcd] at hst
    repeat' first | refine Len.map ?_ | refine Len.nil ?_ | refine Len.cons ?_ | refine Br.t rfl ?_ | refine Br.f rfl ?_ | refine Fit.au ?_ | refine Cv.au ?_ | refine Need.ne ?_ | refine Need.au ?_ | refine Pick.map (by assumption) ?_ | refine Pick.mapI (by omega) (by assumption) ?_ | refine PickN.mk _ (by assumption) ?_ | refine PickN.mk _ rfl ?_ | refine PickN.au ?_ | refine App.au rfl ?_ | refine App.au (own_map (fun _ => rfl) _) ?_ | refine Both.mk ?_ ?_ | exact True.intro
    refine Br.mk (fun h7 => ?_) (fun h7 => ?_)
    · subst h7
      repeat' first | refine Draw.mk (ordL [1, 3] [0, 2, 1, 3, 4, 5]) (by decide +kernel) ?_ | refine Draw.mk (.one 0 false (.one 1 false (.one 2 false (.one 4 false (.one 5 false (.one 6 false (.alt 3 (ordL [7] [8, 7, 9]) (.alt 7 (ordL [3] [3, 8, 9]) .no)))))))) (by decide +kernel) ?_ | refine PickN.map gy ?_ | refine PickN.map gz ?_ | refine Len.map ?_ | refine Len.nil ?_ | refine Len.cons ?_ | refine Br.t rfl ?_ | refine Br.f rfl ?_ | refine Fit.au ?_ | refine Cv.au ?_ | refine Need.ne ?_ | refine Need.au ?_ | refine Pick.map (by assumption) ?_ | refine Pick.mapI (by omega) (by assumption) ?_ | refine PickN.mk _ (by assumption) ?_ | refine PickN.mk _ rfl ?_ | refine PickN.au ?_ | refine App.au rfl ?_ | refine App.au (own_map (fun _ => rfl) _) ?_ | refine Both.mk ?_ ?_ | exact True.intro
      all_goals
        refine Stop.mk (ih2 (i + 1, l.set c nx, ds.set c true, true) (g := []) _ _ _ ⟨by simp only; omega, hst⟩ (by simp only; omega) ?_)
        dsimp only
        rw [List.map_set, List.map_set]
        exact ⟨rfl, (by repeat' first | exact trivial | refine ⟨rfl, ?_⟩ | refine ⟨congrArg (fun n => AV.lit (.int .i64 n)) (by omega), ?_⟩ | refine ⟨congrArg (fun l => some (Row.row 1 l)) (by simp [int1, num, tru]), ?_⟩), (by repeat' first | exact trivial | refine ⟨rfl, ?_⟩ | refine ⟨congrArg (fun n => AV.lit (.int .i64 n)) (by omega), ?_⟩ | refine ⟨congrArg (fun l => some (Row.row 1 l)) (by simp [int1, num, tru]), ?_⟩)⟩
    · subst h7
      repeat' first | refine Draw.mk (ordL [1, 3] [0, 2, 1, 3, 4, 5]) (by decide +kernel) ?_ | refine Draw.mk (.one 0 false (.one 1 false (.one 2 false (.one 4 false (.one 5 false (.one 6 false (.alt 3 (ordL [7] [8, 7, 9]) (.alt 7 (ordL [3] [3, 8, 9]) .no)))))))) (by decide +kernel) ?_ | refine PickN.map gy ?_ | refine PickN.map gz ?_ | refine Len.map ?_ | refine Len.nil ?_ | refine Len.cons ?_ | refine Br.t rfl ?_ | refine Br.f rfl ?_ | refine Fit.au ?_ | refine Cv.au ?_ | refine Need.ne ?_ | refine Need.au ?_ | refine Pick.map (by assumption) ?_ | refine Pick.mapI (by omega) (by assumption) ?_ | refine PickN.mk _ (by assumption) ?_ | refine PickN.mk _ rfl ?_ | refine PickN.au ?_ | refine App.au rfl ?_ | refine App.au (own_map (fun _ => rfl) _) ?_ | refine Both.mk ?_ ?_ | exact True.intro
      all_goals
        refine Stop.mk (ih2 (i + 1, l.set c nx, ds.set c true, !decide (nx = y)) (g := []) _ _ _ ⟨by simp only; omega, hst⟩ (by simp only; omega) ?_)
        dsimp only
        rw [List.map_set, List.map_set]
        exact ⟨rfl, (by repeat' first | exact trivial | refine ⟨rfl, ?_⟩ | refine ⟨congrArg (fun n => AV.lit (.int .i64 n)) (by omega), ?_⟩ | refine ⟨congrArg (fun l => some (Row.row 1 l)) (by simp [int1, num, tru]), ?_⟩), (by repeat' first | exact trivial | refine ⟨rfl, ?_⟩ | refine ⟨congrArg (fun n => AV.lit (.int .i64 n)) (by omega), ?_⟩ | refine ⟨congrArg (fun l => some (Row.row 1 l)) (by simp [int1, num, tru]), ?_⟩)⟩
end Go.Proofs.Ytbmiffgfmlkdnaa

/- The rim of each block. No program is in sight here. -/
namespace Go.Proofs.Ytbmiffgfmlkdnaa
open Go.Ax

/-- A block is in another one's rim. -/
def rimP (s : List (List Int)) (a k : Nat) : Prop := Rc s k ∧ (∃ p, Ed s p k ∧ DomN s a p) ∧ (a = k ∨ ¬ DomN s a k)
noncomputable def rimB (s : List (List Int)) (a k : Nat) : Bool := @decide (rimP s a k) (Classical.propDecidable _)
theorem rimB_iff {s : List (List Int)} {a k : Nat} : rimB s a k = true ↔ rimP s a k := by unfold rimB; exact @decide_eq_true_iff _ (Classical.propDecidable _)
noncomputable def rimTo (s : List (List Int)) (a k : Nat) : List Int := ((List.range k).filter (rimB s a)).map fun j : Nat => (j : Int)
theorem rimTo_succ {s : List (List Int)} {a k : Nat} : rimTo s a (k + 1) = rimTo s a k ++ if rimB s a k = true then [(k : Int)] else [] := by
  unfold rimTo
  rw [List.range_succ, List.filter_append, List.map_append]
  congr 1
  by_cases h : rimB s a k = true <;> simp [h]
theorem rimTo_lt {s : List (List Int)} {a k : Nat} {x : Int} (h : x ∈ rimTo s a k) : 0 ≤ x ∧ x < k := by
  unfold rimTo at h
  obtain ⟨j, hj, rfl⟩ := List.mem_map.1 h
  have := List.mem_range.1 (List.mem_filter.1 hj).1
  omega
theorem rimTo_len {s : List (List Int)} {a k : Nat} : (rimTo s a k).length ≤ k := by
  unfold rimTo
  rw [List.length_map]
  have := List.length_filter_le (rimB s a) (List.range k)
  rw [List.length_range] at this; exact this
noncomputable def rimMid (s : List (List Int)) (n k : Nat) (M : Nat → Bool) : List (List Int) := (List.range n).map fun a => rimTo s a k ++ if M a = true then [(k : Int)] else []
theorem rimMid_len (s : List (List Int)) (n k : Nat) (M : Nat → Bool) : (rimMid s n k M).length = n := by unfold rimMid; simp
theorem rimMid_at {s : List (List Int)} {n k : Nat} {M : Nat → Bool} {a : Nat} (h : a < n) : (rimMid s n k M)[a]? = some (rimTo s a k ++ if M a = true then [(k : Int)] else []) := by
  unfold rimMid
  rw [List.getElem?_map, List.getElem?_range h]; rfl
theorem rimMid_has {s : List (List Int)} {k : Nat} {M : Nat → Bool} {a : Nat} : (k : Int) ∈ (rimTo s a k ++ if M a = true then [(k : Int)] else []) ↔ M a = true := by
  rw [List.mem_append]
  constructor
  · rintro (h | h)
    · have := rimTo_lt h; omega
    · split at h
      · assumption
      · cases h
  · intro h; right; rw [if_pos h]; simp
theorem rimMid_set {s : List (List Int)} {n k : Nat} {M : Nat → Bool} {a : Nat} (h : a < n) (hM : M a ≠ true) : (rimMid s n k M).set a ((rimTo s a k ++ if M a = true then [(k : Int)] else []) ++ [(k : Int)]) = rimMid s n k (fun x => M x || decide (x = a)) := by
  apply List.ext_getElem?
  intro x
  rw [List.getElem?_set, rimMid_len]
  by_cases e : a = x
  · subst e
    rw [if_pos rfl, if_pos h, rimMid_at h, if_neg hM]
    simp
  · rw [if_neg e]
    by_cases hx : x < n
    · rw [rimMid_at hx, rimMid_at hx]
      have : decide (x = a) = false := decide_eq_false fun e2 => e e2.symm
      simp only [this, Bool.or_false]
    · rw [List.getElem?_eq_none (by rw [rimMid_len]; omega), List.getElem?_eq_none (by rw [rimMid_len]; omega)]
theorem rimMid_same {s : List (List Int)} {n k : Nat} {M : Nat → Bool} {a : Nat} (hM : M a = true) : rimMid s n k M = rimMid s n k (fun x => M x || decide (x = a)) := by
  congr 1
  funext x
  by_cases e : x = a
  · subst e; simp [hM]
  · simp [e]
theorem rimMid_end {s : List (List Int)} {n k : Nat} {M : Nat → Bool} (h : ∀ a, M a = rimB s a k) : rimMid s n k M = rimMid s n (k + 1) (fun _ => false) := by
  unfold rimMid
  congr 1
  funext a
  rw [rimTo_succ, h a]; simp
theorem rimMid_zero {s : List (List Int)} {n : Nat} : rimMid s n 0 (fun _ => false) = List.replicate n [] := by
  unfold rimMid rimTo
  apply List.ext_getElem?
  intro x
  rw [List.getElem?_map, List.getElem?_replicate]
  by_cases hx : x < n
  · rw [List.getElem?_range hx, if_pos hx]; rfl
  · rw [List.getElem?_eq_none (by simp; omega), if_neg hx]; rfl
theorem rimMid_all {s : List (List Int)} {n k : Nat} : rimMid s n k (fun _ => false) = (List.range n).map fun a => rimTo s a k := by
  unfold rimMid; simp

section
variable {s : List (List Int)} {l : List Int}
/-- Going up from a block that goes to another one. -/
structure Walk (s : List (List Int)) (l : List Int) (k p : Nat) (M0 : Nat → Bool) (at_ : Int) (M : Nat → Bool) : Prop where
  on : at_ = -1 ∨ ∃ t : Nat, at_ = t ∧ Rc s t ∧ Anc l t p ∧ (k ≠ 0 → Anc l (par l k) t)
  k0 : at_ = -1 → k = 0
  set : ∀ a, M a = true ↔ M0 a = true ∨ (Anc l a p ∧ ¬ ∃ t : Nat, at_ = t ∧ Anc l a t)
theorem Walk.start {k p : Nat} {M : Nat → Bool} (hp : Rc s p) (hk : k ≠ 0 → Anc l (par l k) p) : Walk s l k p M (p : Int) M :=
  ⟨.inr ⟨p, rfl, hp, .self, hk⟩, fun h => by omega, fun a => ⟨.inl, fun h => h.elim id fun h2 => absurd ⟨p, rfl, h2.1⟩ h2.2⟩⟩
theorem TreeP.anc_lt (T : TreeP s l) : ∃ pl : Nat → Nat, (∀ x, x ≠ 0 → Rc s x → pl (par l x) < pl x) ∧ ∀ a x, Rc s x → Anc l a x → pl a ≤ pl x := by
  obtain ⟨pl, h⟩ := T.pl
  refine ⟨pl, h, fun a x hx ha => ?_⟩
  induction ha with
  | self => exact Nat.le_refl _
  | @up x hne _ ih =>
    have := ih (T.up x hne hx).2
    have := h x hne hx
    omega
theorem Walk.step {k p t : Nat} {M0 M : Nat → Bool} {y z : Int} (T : TreeP s l) (h : Walk s l k p M0 (t : Int) M) (hk : Rc s k) (gk : l[k]? = some y) (hne : (t : Int) ≠ y) (gt : l[t]? = some z) : Walk s l k p M0 z (fun x => M x || decide (x = t)) := by
  obtain ⟨pl, hpl, hanc⟩ := T.anc_lt
  obtain ⟨t', e, htR, htp, htk⟩ := h.on.resolve_left (by omega)
  obtain rfl : t' = t := by omega
  have hky : k ≠ 0 → y = (par l k : Int) := fun h0 => by
    have := (T.up k h0 hk).1
    rw [gk] at this; exact Option.some.inj this
  by_cases h0 : t' = 0
  · subst h0
    have hk0 : k = 0 := Classical.byContradiction fun h1 => hne (by
      have := (htk h1).zero rfl
      rw [hky h1, this])
    have hz : z = -1 := by
      have := T.out 0 (by have := (List.getElem?_eq_some_iff.1 gt).1; rw [T.len] at this; exact this) (.inl rfl)
      rw [gt] at this; exact Option.some.inj this
    subst hz
    refine ⟨.inl rfl, fun _ => hk0, fun a => ?_⟩
    rw [Bool.or_eq_true, decide_eq_true_iff, h.set a]
    constructor
    · rintro ((h1 | ⟨h1, -⟩) | rfl)
      · exact .inl h1
      · exact .inr ⟨h1, fun ⟨t, h2, _⟩ => by omega⟩
      · exact .inr ⟨htp, fun ⟨t, h2, _⟩ => by omega⟩
    · rintro (h1 | ⟨h1, -⟩)
      · exact .inl (.inl h1)
      · by_cases e0 : a = 0
        · exact .inr e0
        · exact .inl (.inr ⟨h1, fun ⟨t, h2, h3⟩ => e0 ((h3.zero (by omega)).trans (by omega))⟩)
  · obtain ⟨g1, g2⟩ := T.up t' h0 htR
    have hz : z = (par l t' : Int) := by rw [gt] at g1; exact Option.some.inj g1
    subst hz
    refine ⟨.inr ⟨_, rfl, g2, (Anc.up h0 .self).trans htp, fun h1 => ?_⟩, fun h1 => by omega, fun a => ?_⟩
    · exact ((htk h1).more fun e2 => hne (by rw [hky h1, e2])).2
    · rw [Bool.or_eq_true, decide_eq_true_iff, h.set a]
      constructor
      · rintro ((h1 | ⟨h1, h2⟩) | rfl)
        · exact .inl h1
        · exact .inr ⟨h1, fun ⟨t, h3, h4⟩ => h2 ⟨t', rfl, .up h0 (by rw [show par l t' = t by omega]; exact h4)⟩⟩
        · refine .inr ⟨htp, fun ⟨t, h3, h4⟩ => ?_⟩
          have e2 : t = par l a := by omega
          subst e2
          have := hanc _ _ g2 h4
          have := hpl a h0 htR
          omega
      · rintro (h1 | ⟨h1, h2⟩)
        · exact .inl (.inl h1)
        · by_cases e0 : a = t'
          · exact .inr e0
          · refine .inl (.inr ⟨h1, fun ⟨t, h3, h4⟩ => h2 ⟨par l t', rfl, ?_⟩⟩)
            obtain rfl : t = t' := by omega
            exact (h4.more e0).2
theorem Walk.done {k p : Nat} {M0 M : Nat → Bool} {at_ y : Int} (T : TreeP s l) (h : Walk s l k p M0 at_ M) (hk : Rc s k) (hkl : k < s.length) (gk : l[k]? = some y) (hs : at_ = -1 ∨ at_ = y) (a : Nat) : M a = true ↔ M0 a = true ∨ (Anc l a p ∧ ¬ (k ≠ 0 ∧ Anc l a (par l k))) := by
  rw [h.set a]
  have key : (∃ t : Nat, at_ = t ∧ Anc l a t) ↔ (k ≠ 0 ∧ Anc l a (par l k)) := by
    by_cases h0 : k = 0
    · have hy : y = -1 := by
        have := T.out k hkl (.inl h0)
        rw [gk] at this; exact Option.some.inj this
      constructor
      · rintro ⟨t, h1, -⟩; omega
      · rintro ⟨h1, -⟩; exact absurd h0 h1
    · have hy : y = (par l k : Int) := by
        have := (T.up k h0 hk).1
        rw [gk] at this; exact Option.some.inj this
      have ha : at_ = (par l k : Int) := by
        rcases hs with h1 | h1
        · exact absurd (h.k0 h1) h0
        · omega
      constructor
      · rintro ⟨t, h1, h2⟩
        obtain rfl : t = par l k := by omega
        exact ⟨h0, h2⟩
      · rintro ⟨-, h2⟩; exact ⟨_, ha, h2⟩
  rw [key]
/-- Of the first ones that go to a block. -/
def PreM (s : List (List Int)) (l : List Int) (k : Nat) (r : List Int) (M : Nat → Bool) : Prop := ∀ a, M a = true ↔ ∃ p : Nat, (p : Int) ∈ r ∧ Rc s p ∧ Anc l a p ∧ ¬ (k ≠ 0 ∧ Anc l a (par l k))
theorem PreM.start {k : Nat} : PreM s l k [] (fun _ => false) := fun a => ⟨(fun h => by cases h), fun ⟨p, h, _⟩ => by cases h⟩
theorem PreM.skip {k p : Nat} {r : List Int} {M : Nat → Bool} (h : PreM s l k r M) (hp : ¬ Rc s p) : PreM s l k (r ++ [(p : Int)]) M := fun a => by
  rw [h a]
  constructor
  · rintro ⟨q, h1, h2⟩; exact ⟨q, List.mem_append_left _ h1, h2⟩
  · rintro ⟨q, h1, h2⟩
    rcases List.mem_append.1 h1 with h1 | h1
    · exact ⟨q, h1, h2⟩
    · obtain rfl : q = p := by have := List.mem_singleton.1 h1; omega
      exact absurd h2.1 hp
theorem PreM.next {k p : Nat} {r : List Int} {M0 M : Nat → Bool} (h : PreM s l k r M0) (hp : Rc s p) (hM : ∀ a, M a = true ↔ M0 a = true ∨ (Anc l a p ∧ ¬ (k ≠ 0 ∧ Anc l a (par l k)))) : PreM s l k (r ++ [(p : Int)]) M := fun a => by
  rw [hM a, h a]
  constructor
  · rintro (⟨q, h1, h2⟩ | h1)
    · exact ⟨q, List.mem_append_left _ h1, h2⟩
    · exact ⟨p, by simp, hp, h1⟩
  · rintro ⟨q, h1, h2, h3⟩
    rcases List.mem_append.1 h1 with h1 | h1
    · exact .inl ⟨q, h1, h2, h3⟩
    · obtain rfl : q = p := by have := List.mem_singleton.1 h1; omega
      exact .inr h3
theorem PreM.all {k : Nat} {M : Nat → Bool} (T : TreeP s l) (hk : Rc s k) (h : PreM s l k (predOf s k s.length) M) (a : Nat) : M a = rimB s a k := by
  rw [Bool.eq_iff_iff, h a, rimB_iff]
  constructor
  · rintro ⟨p, h1, h2, h3, h4⟩
    refine ⟨hk, ⟨p, mem_predOf.1 h1, (T.dom a p h2).1 h3⟩, ?_⟩
    by_cases e : a = k
    · exact .inl e
    · right
      intro h5
      exact h4 ((T.dom a k hk).2 h5 |>.more e)
  · rintro ⟨-, ⟨p, h1, h2⟩, h3⟩
    have hp : Rc s p := h2.2.1
    refine ⟨p, mem_predOf.2 h1, hp, (T.dom a p hp).2 h2, fun ⟨h4, h5⟩ => ?_⟩
    rcases h3 with rfl | h3
    · obtain ⟨pl, hpl, hanc⟩ := T.anc_lt
      have := hanc _ _ (T.up a h4 hk).2 h5
      have := hpl a h4 hk
      omega
    · exact h3 ((T.dom a k hk).1 (.up h4 h5))
theorem rimTo_none {k a : Nat} (h : ¬ Rc s k) : rimB s a k = false := by
  rw [Bool.eq_false_iff]
  intro h2
  exact h (rimB_iff.1 h2).1
end
end Go.Proofs.Ytbmiffgfmlkdnaa

/- The example of the chapter on rims. No program is in sight here. -/
namespace Go.Proofs.Ytbmiffgfmlkdnaa
open Go.Ax

def s29 : List (List Int) := [[1, 2], [3], [3], []]
theorem R29_0 {x : Int} (h : x ≠ 0) : Reaches s29 x 0 := .zero (by simp [s29]) h
theorem R29_1 {x : Int} (h : x ≠ 0) (h1 : (1 : Int) ≠ x) : Reaches s29 x 1 := .step (k := 0) (R29_0 h) rfl (by simp) h1
theorem R29_2 {x : Int} (h : x ≠ 0) (h1 : (2 : Int) ≠ x) : Reaches s29 x 2 := .step (k := 0) (R29_0 h) rfl (by simp) h1
theorem R29_3 {x : Int} (h : x ≠ 0) (h3 : (3 : Int) ≠ x) : Reaches s29 x 3 := by
  by_cases h1 : (1 : Int) = x
  · exact .step (k := 2) (R29_2 h (by omega)) rfl (by simp) h3
  · exact .step (k := 1) (R29_1 h h1) rfl (by simp) h3
theorem not_self {s : List (List Int)} {x t : Int} (h : Reaches s x t) : t ≠ x := by
  cases h with
  | zero _ h => exact fun e => h e.symm
  | step _ _ _ h => exact h
theorem not_zero {s : List (List Int)} {t : Int} (h : Reaches s 0 t) : False := by
  induction h with
  | zero _ h => exact h rfl
  | step _ _ _ _ ih => exact ih
theorem rim29 (a k : Nat) : rimB s29 a k = decide ((a = 1 ∨ a = 2) ∧ k = 3) := by
  rw [Bool.eq_iff_iff, rimB_iff, decide_eq_true_iff]
  have d0 : ∀ x : Nat, Rc s29 x → DomN s29 0 x := fun x hx => ⟨R29_0 (by decide), hx, fun h => not_zero h⟩
  constructor
  · rintro ⟨hk, ⟨p, ⟨r, gr, hm⟩, hd⟩, hs⟩
    match p, gr with
    | 0, gr =>
      have ha : a = 0 := Classical.byContradiction fun h => hd.2.2 (R29_0 (by omega))
      subst ha
      cases gr
      rcases hs with h | h
      · simp at hm; omega
      · exact absurd (d0 k hk) h
    | 1, gr =>
      cases gr
      have hk3 : k = 3 := by simp at hm; omega
      have ha : a = 0 ∨ a = 1 := Classical.byContradiction fun h => hd.2.2 (R29_1 (by omega) (by omega))
      rcases ha with rfl | rfl
      · rcases hs with h | h
        · omega
        · exact absurd (d0 k hk) h
      · exact ⟨.inl rfl, hk3⟩
    | 2, gr =>
      cases gr
      have hk3 : k = 3 := by simp at hm; omega
      have ha : a = 0 ∨ a = 2 := Classical.byContradiction fun h => hd.2.2 (R29_2 (by omega) (by omega))
      rcases ha with rfl | rfl
      · rcases hs with h | h
        · omega
        · exact absurd (d0 k hk) h
      · exact ⟨.inr rfl, hk3⟩
    | 3, gr => cases gr; cases hm
    | p + 4, gr => cases gr
  · rintro ⟨h, rfl⟩
    have r3 : Rc s29 3 := R29_3 (by decide) (by decide)
    rcases h with rfl | rfl
    · exact ⟨r3, ⟨1, ⟨[3], rfl, by simp⟩, R29_1 (by decide) (by decide), R29_1 (by decide) (by decide), fun h => not_self h rfl⟩, .inr fun h => h.2.2 (R29_3 (by decide) (by decide))⟩
    · exact ⟨r3, ⟨2, ⟨[3], rfl, by simp⟩, R29_2 (by decide) (by decide), R29_2 (by decide) (by decide), fun h => not_self h rfl⟩, .inr fun h => h.2.2 (R29_3 (by decide) (by decide))⟩
theorem rims29 : ((List.range 4).map fun a => rimTo s29 a 4) = [[], [3], [3], []] := by
  have h : ∀ a, rimTo s29 a 4 = if a = 1 ∨ a = 2 then [3] else [] := fun a => by
    rw [rimTo_succ, rimTo_succ, rimTo_succ, rimTo_succ, rim29, rim29, rim29, rim29]
    by_cases ha : a = 1 ∨ a = 2 <;> simp [ha, rimTo]
  show [rimTo s29 0 4, rimTo s29 1 4, rimTo s29 2 4, rimTo s29 3 4] = _
  rw [h, h, h, h]; rfl
end Go.Proofs.Ytbmiffgfmlkdnaa

/- Loops: who lies in one, and that they nest. No program is in sight here. -/
namespace Go.Proofs.Ytbmiffgfmlkdnaa
open Go.Ax

theorem DomN.self {s : List (List Int)} {h : Nat} (hr : Rc s h) : DomN s h h := ⟨hr, hr, fun h2 => not_self h2 rfl⟩
theorem DomN.anti {s : List (List Int)} {x y : Nat} (h1 : DomN s x y) (h2 : DomN s y x) : x = y := by
  apply Classical.byContradiction
  intro hne
  have key : ∀ t : Int, Reaches s (-1) t → Reaches s (x : Int) t ∧ Reaches s (y : Int) t := by
    intro t ht
    induction ht with
    | zero h0 _ =>
      have hx : x ≠ 0 := fun e => by
        subst e
        exact h2.2.2 (.zero h0 (by omega))
      have hy : y ≠ 0 := fun e => by
        subst e
        exact h1.2.2 (.zero h0 (by omega))
      exact ⟨.zero h0 (by omega), .zero h0 (by omega)⟩
    | @step k t l hk gl hm hn ih =>
      have hx : t ≠ (x : Int) := fun e => h2.2.2 (by rw [← e]; exact .step ih.2 gl hm (by omega))
      have hy : t ≠ (y : Int) := fun e => h1.2.2 (by rw [← e]; exact .step ih.1 gl hm (by omega))
      exact ⟨.step ih.1 gl hm hx, .step ih.2 gl hm hy⟩
  exact not_self (key _ h1.1).1 rfl
/-- A way from a block by blocks that it dominates. -/
inductive PathD (s : List (List Int)) (x : Nat) : Nat → Prop
  | self : PathD s x x
  | step {p z : Nat} : PathD s x p → Rc s p → Ed s p z → DomN s x z → PathD s x z
theorem DomN.path {s : List (List Int)} (hs : Closed s) {x z : Nat} (h : DomN s x z) : PathD s x z := by
  have key : ∀ t : Int, Reaches s (-1) t → ∀ z : Nat, t = (z : Int) → DomN s x z → PathD s x z := by
    intro t ht
    induction ht with
    | zero h0 _ =>
      intro z e hd
      have hx : x = z := Classical.byContradiction fun hne => hd.2.2 (by rw [show (z : Int) = 0 by omega]; exact .zero h0 (by omega))
      subst hx; exact .self
    | @step k t l hk gl hm hn ih =>
      intro z e hd
      by_cases hx : x = z
      · subst hx; exact .self
      · have he : Ed s k z := ⟨l, gl, by rw [← e]; exact hm⟩
        exact .step (ih k rfl (hd.pred hk he hx)) hk he hd
  exact key _ h.2.1 z rfl h
theorem PathD.avoid {s : List (List Int)} {x y z : Nat} (h : PathD s x z) (hy : ¬ DomN s x y) (hr : Reaches s (y : Int) (x : Int)) : Reaches s (y : Int) (z : Int) := by
  induction h with
  | self => exact hr
  | @step p z hp _ he hd ih =>
    obtain ⟨l, gl, hm⟩ := he
    refine .step ih gl hm fun e => hy ?_
    have : z = y := by omega
    subst this; exact hd
theorem DomN.comp {s : List (List Int)} (hs : Closed s) {x y z : Nat} (hx : DomN s x z) (hy : DomN s y z) : DomN s x y ∨ DomN s y x := by
  by_cases h : DomN s x y
  · exact .inl h
  · right
    refine ⟨hy.1, hx.1, fun h2 => hy.2.2 ((hx.path hs).avoid h h2)⟩

/-- Who lies in the loop of a head. -/
inductive InL (s : List (List Int)) (h : Nat) : Nat → Prop
  | head : InL s h h
  | latch {p : Nat} : Ed s p h → DomN s h p → InL s h p
  | pred {x p : Nat} : InL s h x → x ≠ h → Ed s p x → Rc s p → InL s h p
theorem InL.dom {s : List (List Int)} {h x : Nat} (hr : Rc s h) (hx : InL s h x) : DomN s h x := by
  induction hx with
  | head => exact .self hr
  | latch _ hd => exact hd
  | pred _ hne he hp ih => exact ih.pred hp he fun e => hne e.symm
theorem PathD.inL {s : List (List Int)} {x y z : Nat} (h : PathD s x z) (hy : ¬ DomN s x y) (hz : InL s y z) : InL s y x := by
  induction h with
  | self => exact hz
  | @step p z hp hr he hd ih =>
    refine ih (.pred hz (fun e => hy ?_) he hr)
    rw [← e]; exact hd
theorem InL.meet {s : List (List Int)} (hs : Closed s) {x y z : Nat} (hx : Rc s x) (hy : Rc s y) (hne : x ≠ y) (h1 : InL s x z) (h2 : InL s y z) : InL s x y ∨ InL s y x := by
  rcases (h1.dom hx).comp hs (h2.dom hy) with h | h
  · left
    exact ((h2.dom hy).path hs).inL (fun h3 => hne (h.anti h3)) h1
  · right
    exact ((h1.dom hx).path hs).inL (fun h3 => hne (h3.anti h)) h2
theorem InL.not_both {s : List (List Int)} {x y : Nat} (hx : Rc s x) (hy : Rc s y) (hne : x ≠ y) (h1 : InL s x y) (h2 : InL s y x) : False := hne ((h1.dom hx).anti (h2.dom hy))
theorem InL.sub {s : List (List Int)} {x y : Nat} (hx : Rc s x) (hy : Rc s y) (hne : x ≠ y) (h : InL s y x) {z : Nat} (hz : InL s x z) : InL s y z := by
  induction hz with
  | head => exact h
  | latch he hd => exact .pred h hne he hd.2.1
  | @pred u p hu hne2 he hp ih =>
    refine .pred ih (fun e => ?_) he hp
    subst e
    exact InL.not_both hx hy hne hu h
/-- Who comes into a loop comes by its head. -/
theorem InL.enter {s : List (List Int)} {h x p : Nat} (hx : InL s h x) (he : Ed s p x) (hp : Rc s p) (hno : ¬ InL s h p) : x = h := Classical.byContradiction fun hne => hno (.pred hx hne he hp)
end Go.Proofs.Ytbmiffgfmlkdnaa

/- How far a block lies below the first one, and who dominates whom, by the tree: by contracts. -/
namespace Go.Proofs.Ytbmiffgfmlkdnaa
open Go.Ax
set_option maxRecDepth 10000
set_option linter.unusedVariables false

/-- Climbing: what was gone through. -/
structure Climb (s : List (List Int)) (pl : Nat → Nat) (vs : List Nat) (c : Nat) : Prop where
  nodup : vs.Nodup
  lt : ∀ v ∈ vs, v < s.length ∧ pl c < pl v
theorem Climb.len {s : List (List Int)} {pl : Nat → Nat} {vs : List Nat} {c : Nat} (h : Climb s pl vs c) (hc : c < s.length) : vs.length < s.length := by
  have h1 : (c :: vs).Nodup := List.nodup_cons.2 ⟨fun hm => by have := (h.lt c hm).2; omega, h.nodup⟩
  have h2 : c :: vs ⊆ List.range s.length := by
    intro x hx
    rcases List.mem_cons.1 hx with rfl | hx
    · exact List.mem_range.2 hc
    · exact List.mem_range.2 (h.lt x hx).1
  have := List.Nodup.length_le_of_subset h1 h2
  simp at this; omega
theorem Climb.up {s : List (List Int)} {pl : Nat → Nat} {vs : List Nat} {c d : Nat} (h : Climb s pl vs c) (hc : c < s.length) (hd : pl d < pl c) : Climb s pl (c :: vs) d := by
  refine ⟨List.nodup_cons.2 ⟨fun hm => by have := (h.lt c hm).2; omega, h.nodup⟩, fun v hv => ?_⟩
  rcases List.mem_cons.1 hv with rfl | hv
  · exact ⟨hc, hd⟩
  · have := h.lt v hv; exact ⟨this.1, by omega⟩
theorem Depth_spec (s : List (List Int)) (l : List Int) (hs : Closed s) (T : TreeP s l) (hn : s.length ≤ 1000000) (x : Int) : FnSpec Try.prog 32 [ints l, num x] (fun r => ∃ d : Int, r = num d ∧ (0 ≤ d ↔ 0 ≤ x ∧ Rc s x.toNat)) := by
  obtain ⟨pl, hpl, -⟩ := T.anc_lt
  have hll := T.len
  by_cases hx : 0 ≤ x ∧ Rc s x.toNat
  · obtain ⟨hx0, hxR⟩ := hx
    obtain ⟨x, rfl⟩ : ∃ y : Nat, x = (y : Int) := ⟨x.toNat, by omega⟩
    replace hxR : Rc s x := hxR
    have hx1 := Rc_lt hs hxR
    refine spec_of 1000 Try.func32 rfl rfl ?_
    repeat' first | refine Len.map ?_ | refine Len.nil ?_ | refine Len.cons ?_ | refine Br.t rfl ?_ | refine Br.f rfl ?_ | refine Fit.au ?_ | refine Cv.au ?_ | refine Need.ne ?_ | refine Need.au ?_ | refine Pick.map (by assumption) ?_ | refine Pick.mapI (by omega) (by assumption) ?_ | refine PickN.mk _ (by assumption) ?_ | refine PickN.mk _ rfl ?_ | refine PickN.au ?_ | refine App.au rfl ?_ | refine App.au (own_map (fun _ => rfl) _) ?_ | refine Both.mk ?_ ?_ | exact True.intro
    refine Stop.mk (loop_in (g := []) (fun p : Nat × List Nat => [(0, ints l), (1, num p.1), (5, num p.2.length)]) (fun p => []) 0 (fun p => Rc s p.1 ∧ Climb s pl p.2 p.1) (fun p => pl p.1) (x, []) ⟨hxR, ⟨by simp, by simp⟩⟩ ⟨rfl, (by repeat' first | exact trivial | refine ⟨rfl, ?_⟩ | refine ⟨congrArg (fun n => AV.lit (.int .i64 n)) (by omega), ?_⟩ | refine ⟨congrArg (fun l => some (Row.row 1 l)) (by simp [int1, num, tru]), ?_⟩), (by repeat' first | exact trivial | refine ⟨rfl, ?_⟩ | refine ⟨congrArg (fun n => AV.lit (.int .i64 n)) (by omega), ?_⟩ | refine ⟨congrArg (fun l => some (Row.row 1 l)) (by simp [int1, num, tru]), ?_⟩)⟩ (fun p hp ih => ?_))
    obtain ⟨c, vs⟩ := p
    obtain ⟨hcR, hC⟩ := hp
    dsimp only at hcR hC ih ⊢
    have hcl := Rc_lt hs hcR
    have hvl := hC.len hcl
    refine go 1000 Try.func32 ?_
    repeat' first | refine Len.map ?_ | refine Len.nil ?_ | refine Len.cons ?_ | refine Br.t rfl ?_ | refine Br.f rfl ?_ | refine Fit.au ?_ | refine Cv.au ?_ | refine Need.ne ?_ | refine Need.au ?_ | refine Pick.map (by assumption) ?_ | refine Pick.mapI (by omega) (by assumption) ?_ | refine PickN.mk _ (by assumption) ?_ | refine PickN.mk _ rfl ?_ | refine PickN.au ?_ | refine App.au rfl ?_ | refine App.au (own_map (fun _ => rfl) _) ?_ | refine Both.mk ?_ ?_ | exact True.intro
    refine Br.d (fun h2 => ?_) (fun h2 => ?_)
    · have hc0 : c ≠ 0 := by omega
      obtain ⟨u1, u2⟩ := T.up c hc0 hcR
      have hu := hpl c hc0 hcR
      repeat' first | refine Len.map ?_ | refine Len.nil ?_ | refine Len.cons ?_ | refine Br.t rfl ?_ | refine Br.f rfl ?_ | refine Fit.au ?_ | refine Cv.au ?_ | refine Need.ne ?_ | refine Need.au ?_ | refine Pick.map (by assumption) ?_ | refine Pick.mapI (by omega) (by assumption) ?_ | refine PickN.mk _ (by assumption) ?_ | refine PickN.mk _ rfl ?_ | refine PickN.au ?_ | refine App.au rfl ?_ | refine App.au (own_map (fun _ => rfl) _) ?_ | refine Both.mk ?_ ?_ | exact True.intro
      refine Br.d (fun h3 => ?_) (fun h3 => absurd hcl (by omega))
      repeat' first | refine Len.map ?_ | refine Len.nil ?_ | refine Len.cons ?_ | refine Br.t rfl ?_ | refine Br.f rfl ?_ | refine Fit.au ?_ | refine Cv.au ?_ | refine Need.ne ?_ | refine Need.au ?_ | refine Pick.map (by assumption) ?_ | refine Pick.mapI (by omega) (by assumption) ?_ | refine PickN.mk _ (by assumption) ?_ | refine PickN.mk _ rfl ?_ | refine PickN.au ?_ | refine App.au rfl ?_ | refine App.au (own_map (fun _ => rfl) _) ?_ | refine Both.mk ?_ ?_ | exact True.intro
      refine Br.d (fun h4 => ?_) (fun h4 => absurd hvl (by omega))
      repeat' first | refine Pick.map u1 ?_ | refine Len.map ?_ | refine Len.nil ?_ | refine Len.cons ?_ | refine Br.t rfl ?_ | refine Br.f rfl ?_ | refine Fit.au ?_ | refine Cv.au ?_ | refine Need.ne ?_ | refine Need.au ?_ | refine Pick.map (by assumption) ?_ | refine Pick.mapI (by omega) (by assumption) ?_ | refine PickN.mk _ (by assumption) ?_ | refine PickN.mk _ rfl ?_ | refine PickN.au ?_ | refine App.au rfl ?_ | refine App.au (own_map (fun _ => rfl) _) ?_ | refine Both.mk ?_ ?_ | exact True.intro
      refine Stop.mk (ih (par l c, c :: vs) (g := []) _ _ _ ⟨u2, hC.up hcl hu⟩ (by simp only; omega) ?_)
      dsimp only
      rw [List.length_cons, show ((vs.length + 1 : Nat) : Int) = (vs.length : Int) + 1 by omega]
      exact ⟨rfl, (by repeat' first | exact trivial | refine ⟨rfl, ?_⟩ | refine ⟨congrArg (fun n => AV.lit (.int .i64 n)) (by omega), ?_⟩ | refine ⟨congrArg (fun l => some (Row.row 1 l)) (by simp [int1, num, tru]), ?_⟩), (by repeat' first | exact trivial | refine ⟨rfl, ?_⟩ | refine ⟨congrArg (fun n => AV.lit (.int .i64 n)) (by omega), ?_⟩ | refine ⟨congrArg (fun l => some (Row.row 1 l)) (by simp [int1, num, tru]), ?_⟩)⟩
    · have hc0 : c = 0 := by omega
      subst hc0
      repeat' first | refine Len.map ?_ | refine Len.nil ?_ | refine Len.cons ?_ | refine Br.t rfl ?_ | refine Br.f rfl ?_ | refine Fit.au ?_ | refine Cv.au ?_ | refine Need.ne ?_ | refine Need.au ?_ | refine Pick.map (by assumption) ?_ | refine Pick.mapI (by omega) (by assumption) ?_ | refine PickN.mk _ (by assumption) ?_ | refine PickN.mk _ rfl ?_ | refine PickN.au ?_ | refine App.au rfl ?_ | refine App.au (own_map (fun _ => rfl) _) ?_ | refine Both.mk ?_ ?_ | exact True.intro
      refine Br.d (fun h4 => absurd h4 (by omega)) (fun h4 => ?_)
      repeat' first | refine Len.map ?_ | refine Len.nil ?_ | refine Len.cons ?_ | refine Br.t rfl ?_ | refine Br.f rfl ?_ | refine Fit.au ?_ | refine Cv.au ?_ | refine Need.ne ?_ | refine Need.au ?_ | refine Pick.map (by assumption) ?_ | refine Pick.mapI (by omega) (by assumption) ?_ | refine PickN.mk _ (by assumption) ?_ | refine PickN.mk _ rfl ?_ | refine PickN.au ?_ | refine App.au rfl ?_ | refine App.au (own_map (fun _ => rfl) _) ?_ | refine Both.mk ?_ ?_ | exact True.intro
      exact ⟨vs.length, rfl, fun _ => ⟨by omega, hxR⟩, fun _ => by omega⟩
  · refine spec_of 1000 Try.func32 rfl rfl ?_
    repeat' first | refine Len.map ?_ | refine Len.nil ?_ | refine Len.cons ?_ | refine Br.t rfl ?_ | refine Br.f rfl ?_ | refine Fit.au ?_ | refine Cv.au ?_ | refine Need.ne ?_ | refine Need.au ?_ | refine Pick.map (by assumption) ?_ | refine Pick.mapI (by omega) (by assumption) ?_ | refine PickN.mk _ (by assumption) ?_ | refine PickN.mk _ rfl ?_ | refine PickN.au ?_ | refine App.au rfl ?_ | refine App.au (own_map (fun _ => rfl) _) ?_ | refine Both.mk ?_ ?_ | exact True.intro
    refine Stop.mk (run_loop (go 1000 Try.func32 ?_))
    have hno : ∃ d : Int, (num (-1)) = num d ∧ (0 ≤ d ↔ 0 ≤ x ∧ Rc s x.toNat) := ⟨-1, rfl, fun h => absurd h (by decide), fun h => absurd h hx⟩
    repeat' first | refine Len.map ?_ | refine Len.nil ?_ | refine Len.cons ?_ | refine Br.t rfl ?_ | refine Br.f rfl ?_ | refine Fit.au ?_ | refine Cv.au ?_ | refine Need.ne ?_ | refine Need.au ?_ | refine Pick.map (by assumption) ?_ | refine Pick.mapI (by omega) (by assumption) ?_ | refine PickN.mk _ (by assumption) ?_ | refine PickN.mk _ rfl ?_ | refine PickN.au ?_ | refine App.au rfl ?_ | refine App.au (own_map (fun _ => rfl) _) ?_ | refine Both.mk ?_ ?_ | exact True.intro
    refine Br.d (fun h2 => ?_) (fun h2 => ?_)
    · repeat' first | refine Len.map ?_ | refine Len.nil ?_ | refine Len.cons ?_ | refine Br.t rfl ?_ | refine Br.f rfl ?_ | refine Fit.au ?_ | refine Cv.au ?_ | refine Need.ne ?_ | refine Need.au ?_ | refine Pick.map (by assumption) ?_ | refine Pick.mapI (by omega) (by assumption) ?_ | refine PickN.mk _ (by assumption) ?_ | refine PickN.mk _ rfl ?_ | refine PickN.au ?_ | refine App.au rfl ?_ | refine App.au (own_map (fun _ => rfl) _) ?_ | refine Both.mk ?_ ?_ | exact True.intro
      refine Br.d (fun h3 => ?_) (fun h3 => ?_)
      · have ho := T.out x.toNat (by omega) (.inr fun h => hx ⟨by omega, h⟩)
        repeat' first | refine Pick.mapI (by omega) ho ?_ | refine Len.map ?_ | refine Len.nil ?_ | refine Len.cons ?_ | refine Br.t rfl ?_ | refine Br.f rfl ?_ | refine Fit.au ?_ | refine Cv.au ?_ | refine Need.ne ?_ | refine Need.au ?_ | refine Pick.map (by assumption) ?_ | refine Pick.mapI (by omega) (by assumption) ?_ | refine PickN.mk _ (by assumption) ?_ | refine PickN.mk _ rfl ?_ | refine PickN.au ?_ | refine App.au rfl ?_ | refine App.au (own_map (fun _ => rfl) _) ?_ | refine Both.mk ?_ ?_ | exact True.intro
        refine Stop.mk (run_inLoop (go 1000 Try.func32 ?_))
        repeat' first | refine Len.map ?_ | refine Len.nil ?_ | refine Len.cons ?_ | refine Br.t rfl ?_ | refine Br.f rfl ?_ | refine Fit.au ?_ | refine Cv.au ?_ | refine Need.ne ?_ | refine Need.au ?_ | refine Pick.map (by assumption) ?_ | refine Pick.mapI (by omega) (by assumption) ?_ | refine PickN.mk _ (by assumption) ?_ | refine PickN.mk _ rfl ?_ | refine PickN.au ?_ | refine App.au rfl ?_ | refine App.au (own_map (fun _ => rfl) _) ?_ | refine Both.mk ?_ ?_ | exact True.intro
        exact hno
      · repeat' first | refine Len.map ?_ | refine Len.nil ?_ | refine Len.cons ?_ | refine Br.t rfl ?_ | refine Br.f rfl ?_ | refine Fit.au ?_ | refine Cv.au ?_ | refine Need.ne ?_ | refine Need.au ?_ | refine Pick.map (by assumption) ?_ | refine Pick.mapI (by omega) (by assumption) ?_ | refine PickN.mk _ (by assumption) ?_ | refine PickN.mk _ rfl ?_ | refine PickN.au ?_ | refine App.au rfl ?_ | refine App.au (own_map (fun _ => rfl) _) ?_ | refine Both.mk ?_ ?_ | exact True.intro
        refine Br.nd (fun h4 => ?_) (fun h4 => absurd h4 (by omega))
        repeat' first | refine Len.map ?_ | refine Len.nil ?_ | refine Len.cons ?_ | refine Br.t rfl ?_ | refine Br.f rfl ?_ | refine Fit.au ?_ | refine Cv.au ?_ | refine Need.ne ?_ | refine Need.au ?_ | refine Pick.map (by assumption) ?_ | refine Pick.mapI (by omega) (by assumption) ?_ | refine PickN.mk _ (by assumption) ?_ | refine PickN.mk _ rfl ?_ | refine PickN.au ?_ | refine App.au rfl ?_ | refine App.au (own_map (fun _ => rfl) _) ?_ | refine Both.mk ?_ ?_ | exact True.intro
        exact hno
    · repeat' first | refine Len.map ?_ | refine Len.nil ?_ | refine Len.cons ?_ | refine Br.t rfl ?_ | refine Br.f rfl ?_ | refine Fit.au ?_ | refine Cv.au ?_ | refine Need.ne ?_ | refine Need.au ?_ | refine Pick.map (by assumption) ?_ | refine Pick.mapI (by omega) (by assumption) ?_ | refine PickN.mk _ (by assumption) ?_ | refine PickN.mk _ rfl ?_ | refine PickN.au ?_ | refine App.au rfl ?_ | refine App.au (own_map (fun _ => rfl) _) ?_ | refine Both.mk ?_ ?_ | exact True.intro
      refine Br.nd (fun h4 => ?_) (fun h4 => ?_)
      · repeat' first | refine Len.map ?_ | refine Len.nil ?_ | refine Len.cons ?_ | refine Br.t rfl ?_ | refine Br.f rfl ?_ | refine Fit.au ?_ | refine Cv.au ?_ | refine Need.ne ?_ | refine Need.au ?_ | refine Pick.map (by assumption) ?_ | refine Pick.mapI (by omega) (by assumption) ?_ | refine PickN.mk _ (by assumption) ?_ | refine PickN.mk _ rfl ?_ | refine PickN.au ?_ | refine App.au rfl ?_ | refine App.au (own_map (fun _ => rfl) _) ?_ | refine Both.mk ?_ ?_ | exact True.intro
        exact hno
      · have h0 : s.length = 0 := Classical.byContradiction fun h => hx ⟨by omega, by rw [h4]; exact .zero (fun e => h (by rw [e]; rfl)) (by decide)⟩
        repeat' first | refine Len.map ?_ | refine Len.nil ?_ | refine Len.cons ?_ | refine Br.t rfl ?_ | refine Br.f rfl ?_ | refine Fit.au ?_ | refine Cv.au ?_ | refine Need.ne ?_ | refine Need.au ?_ | refine Pick.map (by assumption) ?_ | refine Pick.mapI (by omega) (by assumption) ?_ | refine PickN.mk _ (by assumption) ?_ | refine PickN.mk _ rfl ?_ | refine PickN.au ?_ | refine App.au rfl ?_ | refine App.au (own_map (fun _ => rfl) _) ?_ | refine Both.mk ?_ ?_ | exact True.intro
        refine Br.d (fun h5 => ?_) (fun h5 => absurd h5 (by omega))
        repeat' first | refine Len.map ?_ | refine Len.nil ?_ | refine Len.cons ?_ | refine Br.t rfl ?_ | refine Br.f rfl ?_ | refine Fit.au ?_ | refine Cv.au ?_ | refine Need.ne ?_ | refine Need.au ?_ | refine Pick.map (by assumption) ?_ | refine Pick.mapI (by omega) (by assumption) ?_ | refine PickN.mk _ (by assumption) ?_ | refine PickN.mk _ rfl ?_ | refine PickN.au ?_ | refine App.au rfl ?_ | refine App.au (own_map (fun _ => rfl) _) ?_ | refine Both.mk ?_ ?_ | exact True.intro
        exact hno
theorem Dominates12_spec (s : List (List Int)) (l : List Int) (hs : Closed s) (T : TreeP s l) (hn : s.length ≤ 1000000) (a b : Nat) : FnSpec Try.prog 12 [ints l, num a, num b] (fun r => ∃ v, r = tru v ∧ (v = true ↔ DomN s a b)) := by
  obtain ⟨pl, hpl, -⟩ := T.anc_lt
  have hll := T.len
  have hD := fun x => Depth_spec s l hs T hn x
  refine spec_of 1000 Try.func12 rfl rfl ?_
  repeat' first | refine Len.map ?_ | refine Len.nil ?_ | refine Len.cons ?_ | refine Br.t rfl ?_ | refine Br.f rfl ?_ | refine Fit.au ?_ | refine Cv.au ?_ | refine Need.ne ?_ | refine Need.au ?_ | refine Pick.map (by assumption) ?_ | refine Pick.mapI (by omega) (by assumption) ?_ | refine PickN.mk _ (by assumption) ?_ | refine PickN.mk _ rfl ?_ | refine PickN.au ?_ | refine App.au rfl ?_ | refine App.au (own_map (fun _ => rfl) _) ?_ | refine Both.mk ?_ ?_ | exact True.intro
  refine Call.of (hD a) ?_
  rintro r ⟨d1, rfl, h1⟩
  refine ⟨rfl, ?_⟩
  repeat' first | refine Len.map ?_ | refine Len.nil ?_ | refine Len.cons ?_ | refine Br.t rfl ?_ | refine Br.f rfl ?_ | refine Fit.au ?_ | refine Cv.au ?_ | refine Need.ne ?_ | refine Need.au ?_ | refine Pick.map (by assumption) ?_ | refine Pick.mapI (by omega) (by assumption) ?_ | refine PickN.mk _ (by assumption) ?_ | refine PickN.mk _ rfl ?_ | refine PickN.au ?_ | refine App.au rfl ?_ | refine App.au (own_map (fun _ => rfl) _) ?_ | refine Both.mk ?_ ?_ | exact True.intro
  refine Br.d (fun h2 => ?_) (fun h2 => ?_)
  · repeat' first | refine Len.map ?_ | refine Len.nil ?_ | refine Len.cons ?_ | refine Br.t rfl ?_ | refine Br.f rfl ?_ | refine Fit.au ?_ | refine Cv.au ?_ | refine Need.ne ?_ | refine Need.au ?_ | refine Pick.map (by assumption) ?_ | refine Pick.mapI (by omega) (by assumption) ?_ | refine PickN.mk _ (by assumption) ?_ | refine PickN.mk _ rfl ?_ | refine PickN.au ?_ | refine App.au rfl ?_ | refine App.au (own_map (fun _ => rfl) _) ?_ | refine Both.mk ?_ ?_ | exact True.intro
    exact ⟨false, rfl, (fun h => by cases h), fun h => absurd (h1.2 ⟨by omega, h.1⟩) (by omega)⟩
  have haR : Rc s a := (h1.1 (by omega)).2
  repeat' first | refine Len.map ?_ | refine Len.nil ?_ | refine Len.cons ?_ | refine Br.t rfl ?_ | refine Br.f rfl ?_ | refine Fit.au ?_ | refine Cv.au ?_ | refine Need.ne ?_ | refine Need.au ?_ | refine Pick.map (by assumption) ?_ | refine Pick.mapI (by omega) (by assumption) ?_ | refine PickN.mk _ (by assumption) ?_ | refine PickN.mk _ rfl ?_ | refine PickN.au ?_ | refine App.au rfl ?_ | refine App.au (own_map (fun _ => rfl) _) ?_ | refine Both.mk ?_ ?_ | exact True.intro
  refine Call.of (hD b) ?_
  rintro r ⟨d2, rfl, h3⟩
  refine ⟨rfl, ?_⟩
  repeat' first | refine Len.map ?_ | refine Len.nil ?_ | refine Len.cons ?_ | refine Br.t rfl ?_ | refine Br.f rfl ?_ | refine Fit.au ?_ | refine Cv.au ?_ | refine Need.ne ?_ | refine Need.au ?_ | refine Pick.map (by assumption) ?_ | refine Pick.mapI (by omega) (by assumption) ?_ | refine PickN.mk _ (by assumption) ?_ | refine PickN.mk _ rfl ?_ | refine PickN.au ?_ | refine App.au rfl ?_ | refine App.au (own_map (fun _ => rfl) _) ?_ | refine Both.mk ?_ ?_ | exact True.intro
  refine Br.d (fun h4 => ?_) (fun h4 => ?_)
  · repeat' first | refine Len.map ?_ | refine Len.nil ?_ | refine Len.cons ?_ | refine Br.t rfl ?_ | refine Br.f rfl ?_ | refine Fit.au ?_ | refine Cv.au ?_ | refine Need.ne ?_ | refine Need.au ?_ | refine Pick.map (by assumption) ?_ | refine Pick.mapI (by omega) (by assumption) ?_ | refine PickN.mk _ (by assumption) ?_ | refine PickN.mk _ rfl ?_ | refine PickN.au ?_ | refine App.au rfl ?_ | refine App.au (own_map (fun _ => rfl) _) ?_ | refine Both.mk ?_ ?_ | exact True.intro
    exact ⟨false, rfl, (fun h => by cases h), fun h => absurd (h3.2 ⟨by omega, h.2.1⟩) (by omega)⟩
  have hbR : Rc s b := (h3.1 (by omega)).2
  repeat' first | refine Len.map ?_ | refine Len.nil ?_ | refine Len.cons ?_ | refine Br.t rfl ?_ | refine Br.f rfl ?_ | refine Fit.au ?_ | refine Cv.au ?_ | refine Need.ne ?_ | refine Need.au ?_ | refine Pick.map (by assumption) ?_ | refine Pick.mapI (by omega) (by assumption) ?_ | refine PickN.mk _ (by assumption) ?_ | refine PickN.mk _ rfl ?_ | refine PickN.au ?_ | refine App.au rfl ?_ | refine App.au (own_map (fun _ => rfl) _) ?_ | refine Both.mk ?_ ?_ | exact True.intro
  refine Stop.mk (loop_in (g := []) (fun p : Nat × List Nat => [(0, ints l), (1, num a), (2, num p.1), (7, num p.2.length)]) (fun p => []) 0 (fun p => Rc s p.1 ∧ Climb s pl p.2 p.1 ∧ (Anc l a p.1 ↔ Anc l a b)) (fun p => pl p.1) (b, []) ⟨hbR, ⟨by simp, by simp⟩, .rfl⟩ ⟨rfl, (by repeat' first | exact trivial | refine ⟨rfl, ?_⟩ | refine ⟨congrArg (fun n => AV.lit (.int .i64 n)) (by omega), ?_⟩ | refine ⟨congrArg (fun l => some (Row.row 1 l)) (by simp [int1, num, tru]), ?_⟩), (by repeat' first | exact trivial | refine ⟨rfl, ?_⟩ | refine ⟨congrArg (fun n => AV.lit (.int .i64 n)) (by omega), ?_⟩ | refine ⟨congrArg (fun l => some (Row.row 1 l)) (by simp [int1, num, tru]), ?_⟩)⟩ (fun p hp ih => ?_))
  obtain ⟨c, vs⟩ := p
  obtain ⟨hcR, hC, hA⟩ := hp
  dsimp only at hcR hC hA ih ⊢
  have hcl := Rc_lt hs hcR
  have hvl := hC.len hcl
  have hend : (c = 0 ∨ c = a) → (decide ((a : Int) = (c : Int)) = true ↔ DomN s a b) := fun hc => by
    rw [decide_eq_true_iff, ← T.dom a b hbR, ← hA]
    constructor
    · intro e
      obtain rfl : a = c := by omega
      exact .self
    · intro h
      rcases hc with rfl | rfl
      · have := h.zero rfl; omega
      · rfl
  refine go 1000 Try.func12 ?_
  repeat' first | refine Len.map ?_ | refine Len.nil ?_ | refine Len.cons ?_ | refine Br.t rfl ?_ | refine Br.f rfl ?_ | refine Fit.au ?_ | refine Cv.au ?_ | refine Need.ne ?_ | refine Need.au ?_ | refine Pick.map (by assumption) ?_ | refine Pick.mapI (by omega) (by assumption) ?_ | refine PickN.mk _ (by assumption) ?_ | refine PickN.mk _ rfl ?_ | refine PickN.au ?_ | refine App.au rfl ?_ | refine App.au (own_map (fun _ => rfl) _) ?_ | refine Both.mk ?_ ?_ | exact True.intro
  refine Br.d (fun h5 => ?_) (fun h5 => ?_)
  · have hc0 : c ≠ 0 := by omega
    obtain ⟨u1, u2⟩ := T.up c hc0 hcR
    have hu := hpl c hc0 hcR
    repeat' first | refine Len.map ?_ | refine Len.nil ?_ | refine Len.cons ?_ | refine Br.t rfl ?_ | refine Br.f rfl ?_ | refine Fit.au ?_ | refine Cv.au ?_ | refine Need.ne ?_ | refine Need.au ?_ | refine Pick.map (by assumption) ?_ | refine Pick.mapI (by omega) (by assumption) ?_ | refine PickN.mk _ (by assumption) ?_ | refine PickN.mk _ rfl ?_ | refine PickN.au ?_ | refine App.au rfl ?_ | refine App.au (own_map (fun _ => rfl) _) ?_ | refine Both.mk ?_ ?_ | exact True.intro
    refine Br.nd (fun h6 => ?_) (fun h6 => ?_)
    · repeat' first | refine Len.map ?_ | refine Len.nil ?_ | refine Len.cons ?_ | refine Br.t rfl ?_ | refine Br.f rfl ?_ | refine Fit.au ?_ | refine Cv.au ?_ | refine Need.ne ?_ | refine Need.au ?_ | refine Pick.map (by assumption) ?_ | refine Pick.mapI (by omega) (by assumption) ?_ | refine PickN.mk _ (by assumption) ?_ | refine PickN.mk _ rfl ?_ | refine PickN.au ?_ | refine App.au rfl ?_ | refine App.au (own_map (fun _ => rfl) _) ?_ | refine Both.mk ?_ ?_ | exact True.intro
      refine Br.d (fun h7 => ?_) (fun h7 => absurd hvl (by omega))
      repeat' first | refine Pick.map u1 ?_ | refine Len.map ?_ | refine Len.nil ?_ | refine Len.cons ?_ | refine Br.t rfl ?_ | refine Br.f rfl ?_ | refine Fit.au ?_ | refine Cv.au ?_ | refine Need.ne ?_ | refine Need.au ?_ | refine Pick.map (by assumption) ?_ | refine Pick.mapI (by omega) (by assumption) ?_ | refine PickN.mk _ (by assumption) ?_ | refine PickN.mk _ rfl ?_ | refine PickN.au ?_ | refine App.au rfl ?_ | refine App.au (own_map (fun _ => rfl) _) ?_ | refine Both.mk ?_ ?_ | exact True.intro
      refine Stop.mk (ih (par l c, c :: vs) (g := []) _ _ _ ⟨u2, hC.up hcl hu, ?_⟩ (by simp only; omega) ?_)
      · simp only
        rw [← hA]
        exact ⟨.up hc0, fun h => (h.more fun e => h6 (by rw [e])).2⟩
      · dsimp only
        rw [List.length_cons, show ((vs.length + 1 : Nat) : Int) = (vs.length : Int) + 1 by omega]
        exact ⟨rfl, (by repeat' first | exact trivial | refine ⟨rfl, ?_⟩ | refine ⟨congrArg (fun n => AV.lit (.int .i64 n)) (by omega), ?_⟩ | refine ⟨congrArg (fun l => some (Row.row 1 l)) (by simp [int1, num, tru]), ?_⟩), (by repeat' first | exact trivial | refine ⟨rfl, ?_⟩ | refine ⟨congrArg (fun n => AV.lit (.int .i64 n)) (by omega), ?_⟩ | refine ⟨congrArg (fun l => some (Row.row 1 l)) (by simp [int1, num, tru]), ?_⟩)⟩
    · repeat' first | refine Len.map ?_ | refine Len.nil ?_ | refine Len.cons ?_ | refine Br.t rfl ?_ | refine Br.f rfl ?_ | refine Fit.au ?_ | refine Cv.au ?_ | refine Need.ne ?_ | refine Need.au ?_ | refine Pick.map (by assumption) ?_ | refine Pick.mapI (by omega) (by assumption) ?_ | refine PickN.mk _ (by assumption) ?_ | refine PickN.mk _ rfl ?_ | refine PickN.au ?_ | refine App.au rfl ?_ | refine App.au (own_map (fun _ => rfl) _) ?_ | refine Both.mk ?_ ?_ | exact True.intro
      exact ⟨_, rfl, hend (.inr (by omega))⟩
  · repeat' first | refine Len.map ?_ | refine Len.nil ?_ | refine Len.cons ?_ | refine Br.t rfl ?_ | refine Br.f rfl ?_ | refine Fit.au ?_ | refine Cv.au ?_ | refine Need.ne ?_ | refine Need.au ?_ | refine Pick.map (by assumption) ?_ | refine Pick.mapI (by omega) (by assumption) ?_ | refine PickN.mk _ (by assumption) ?_ | refine PickN.mk _ rfl ?_ | refine PickN.au ?_ | refine App.au rfl ?_ | refine App.au (own_map (fun _ => rfl) _) ?_ | refine Both.mk ?_ ?_ | exact True.intro
    exact ⟨_, rfl, hend (.inl (by omega))⟩
end Go.Proofs.Ytbmiffgfmlkdnaa

/- A loop's blocks, as they are gathered and put into order. No program is in sight here. -/
namespace Go.Proofs.Ytbmiffgfmlkdnaa
open Go.Ax

/-- Two lists in order, each number once, with the same numbers, are the same. -/
theorem sorted_ext : ∀ {a b : List Int}, a.Pairwise (· < ·) → b.Pairwise (· < ·) → (∀ x, x ∈ a ↔ x ∈ b) → a = b
  | [], [], _, _, _ => rfl
  | [], y :: b, _, _, h => absurd ((h y).2 (List.mem_cons_self ..)) (by simp)
  | x :: a, [], _, _, h => absurd ((h x).1 (List.mem_cons_self ..)) (by simp)
  | x :: a, y :: b, ha, hb, h => by
    obtain ⟨ha1, ha2⟩ := List.pairwise_cons.1 ha
    obtain ⟨hb1, hb2⟩ := List.pairwise_cons.1 hb
    have e : x = y := by
      rcases List.mem_cons.1 ((h x).1 (List.mem_cons_self ..)) with e | e
      · exact e
      · rcases List.mem_cons.1 ((h y).2 (List.mem_cons_self ..)) with e2 | e2
        · exact e2.symm
        · have := ha1 y e2
          have := hb1 x e
          omega
    subst e
    congr 1
    refine sorted_ext ha2 hb2 fun z => ⟨fun hz => ?_, fun hz => ?_⟩
    · rcases List.mem_cons.1 ((h z).1 (List.mem_cons_of_mem _ hz)) with e | e
      · subst e; have := ha1 z hz; omega
      · exact e
    · rcases List.mem_cons.1 ((h z).2 (List.mem_cons_of_mem _ hz)) with e | e
      · subst e; have := hb1 z hz; omega
      · exact e
theorem mergeSort_lt {l : List Int} (h : l.Nodup) : (l.mergeSort fun x y => decide (x ≤ y)).Pairwise (· < ·) := by
  have h1 := List.pairwise_mergeSort (le := fun x y : Int => decide (x ≤ y)) (fun a b c hab hbc => by simp at *; omega) (fun a b => by simp; omega) l
  have h2 : (l.mergeSort fun x y => decide (x ≤ y)).Nodup := (List.mergeSort_perm l _).nodup_iff.2 h
  refine (h1.and h2).imp fun hxy => ?_
  have := hxy.1
  simp at this
  have := hxy.2
  omega
theorem mergeSort_mem {l : List Int} {x : Int} : x ∈ (l.mergeSort fun x y => decide (x ≤ y)) ↔ x ∈ l := (List.mergeSort_perm l _).mem_iff
noncomputable def filtN (n : Nat) (p : Nat → Prop) : List Int := ((List.range n).filter fun k => @decide (p k) (Classical.propDecidable _)).map fun k : Nat => (k : Int)
theorem filtN_mem {n : Nat} {p : Nat → Prop} {x : Int} : x ∈ filtN n p ↔ 0 ≤ x ∧ x < n ∧ p x.toNat := by
  unfold filtN
  rw [List.mem_map]
  constructor
  · rintro ⟨k, hk, rfl⟩
    obtain ⟨h1, h2⟩ := List.mem_filter.1 hk
    have := List.mem_range.1 h1
    exact ⟨by omega, by omega, (@decide_eq_true_iff _ (Classical.propDecidable _)).1 h2⟩
  · rintro ⟨h1, h2, h3⟩
    exact ⟨x.toNat, List.mem_filter.2 ⟨List.mem_range.2 (by omega), (@decide_eq_true_iff _ (Classical.propDecidable _)).2 h3⟩, by omega⟩
theorem filtN_lt (n : Nat) (p : Nat → Prop) : (filtN n p).Pairwise (· < ·) := by
  unfold filtN
  refine List.Pairwise.map _ (R := (· < ·)) (fun a b h => by omega) ?_
  exact List.Pairwise.filter _ List.pairwise_lt_range
theorem filtN_len (n : Nat) (p : Nat → Prop) : (filtN n p).length ≤ n := by
  unfold filtN
  rw [List.length_map]
  have := List.length_filter_le (fun k => @decide (p k) (Classical.propDecidable _)) (List.range n)
  rw [List.length_range] at this; exact this
theorem mergeSort_filt {n : Nat} {p : Nat → Prop} {l : List Int} (h : l.Nodup) (hm : ∀ x, x ∈ l ↔ 0 ≤ x ∧ x < n ∧ p x.toNat) : (l.mergeSort fun x y => decide (x ≤ y)) = filtN n p :=
  sorted_ext (mergeSort_lt h) (filtN_lt n p) fun x => by rw [mergeSort_mem, hm, filtN_mem]

section
variable {s : List (List Int)} {h : Nat}
/-- What going up from a block comes to. -/
structure Up (s : List (List Int)) (h : Nat) (l : List Int) (k : Nat) (l' : List Int) : Prop where
  sub : ∀ x ∈ l, x ∈ l'
  nodup : l'.Nodup
  sound : ∀ x ∈ l', x ∈ l ∨ (0 ≤ x ∧ Rc s x.toNat ∧ InL s h x.toNat)
  here : Rc s k → (k : Int) ∈ l'
  shut : ∀ x : Nat, (x : Int) ∈ l' → (x : Int) ∉ l → ∀ p, Ed s p x → Rc s p → (p : Int) ∈ l'
/-- The same, within its loop: of the first ones that go to it. -/
structure UpM (s : List (List Int)) (h : Nat) (l : List Int) (k : Nat) (r : List Int) (l' : List Int) : Prop where
  sub : ∀ x ∈ l ++ [(k : Int)], x ∈ l'
  nodup : l'.Nodup
  sound : ∀ x ∈ l', x ∈ l ++ [(k : Int)] ∨ (0 ≤ x ∧ Rc s x.toNat ∧ InL s h x.toNat)
  done : ∀ p : Nat, (p : Int) ∈ r → Rc s p → (p : Int) ∈ l'
  shut : ∀ x : Nat, (x : Int) ∈ l' → (x : Int) ∉ l ++ [(k : Int)] → ∀ p, Ed s p x → Rc s p → (p : Int) ∈ l'
theorem Up.stays {l : List Int} {k : Nat} (hn : l.Nodup) (hk : ¬ Rc s k ∨ (k : Int) ∈ l) : Up s h l k l :=
  ⟨fun _ h => h, hn, fun _ h => .inl h, fun hr => hk.resolve_left fun h => h hr, fun x h1 h2 => absurd h1 h2⟩
theorem UpM.start {l : List Int} {k : Nat} (hn : l.Nodup) (hk : (k : Int) ∉ l) : UpM s h l k [] (l ++ [(k : Int)]) := by
  refine ⟨fun _ h => h, ?_, fun _ h => .inl h, (fun p hp => by cases hp), fun x h1 h2 => absurd h1 h2⟩
  rw [List.nodup_append]
  refine ⟨hn, by simp, fun x hx y hy e => ?_⟩
  rw [List.mem_singleton.1 hy] at e
  subst e; exact hk hx
theorem UpM.next {l l1 l2 : List Int} {k p : Nat} {r : List Int} (hM : UpM s h l k r l1) (hU : Up s h l1 p l2) : UpM s h l k (r ++ [(p : Int)]) l2 := by
  refine ⟨fun x hx => hU.sub x (hM.sub x hx), hU.nodup, fun x hx => ?_, fun q hq hr => ?_, fun x hx hno q he hr => ?_⟩
  · rcases hU.sound x hx with h1 | h1
    · exact hM.sound x h1
    · exact .inr h1
  · rcases List.mem_append.1 hq with hq | hq
    · exact hU.sub _ (hM.done q hq hr)
    · obtain rfl : q = p := by have := List.mem_singleton.1 hq; omega
      exact hU.here hr
  · by_cases h1 : (x : Int) ∈ l1
    · exact hU.sub _ (hM.shut x h1 hno q he hr)
    · exact hU.shut x hx h1 q he hr
theorem UpM.end {l l' : List Int} {k : Nat} (hk : Rc s k) (hI : InL s h k) (hM : UpM s h l k (predOf s k s.length) l') : Up s h l k l' := by
  refine ⟨fun x hx => hM.sub x (List.mem_append_left _ hx), hM.nodup, fun x hx => ?_, fun _ => hM.sub _ (by simp), fun x hx hno p he hr => ?_⟩
  · rcases hM.sound x hx with h1 | h1
    · rcases List.mem_append.1 h1 with h1 | h1
      · exact .inl h1
      · obtain rfl : x = (k : Int) := List.mem_singleton.1 h1
        exact .inr ⟨by omega, hk, hI⟩
    · exact .inr h1
  · by_cases e : x = k
    · subst e
      exact hM.done p (mem_predOf.2 he) hr
    · refine hM.shut x hx (fun h1 => ?_) p he hr
      rcases List.mem_append.1 h1 with h1 | h1
      · exact hno h1
      · have := List.mem_singleton.1 h1; omega
/-- Of a head, and of the first ones of its latches. -/
structure UpL (s : List (List Int)) (h : Nat) (r : List Int) (l : List Int) : Prop where
  head : (h : Int) ∈ l
  nodup : l.Nodup
  sound : ∀ x ∈ l, 0 ≤ x ∧ Rc s x.toNat ∧ InL s h x.toNat
  done : ∀ p : Nat, (p : Int) ∈ r → Rc s p → (p : Int) ∈ l
  shut : ∀ x : Nat, (x : Int) ∈ l → x ≠ h → ∀ p, Ed s p x → Rc s p → (p : Int) ∈ l
theorem UpL.start (hr : Rc s h) : UpL s h [] [(h : Int)] :=
  ⟨by simp, by simp, fun x hx => by rw [List.mem_singleton.1 hx]; exact ⟨by omega, hr, .head⟩, fun p hp => (by cases hp), fun x hx hne => absurd (List.mem_singleton.1 hx) (by omega)⟩
theorem UpL.next {l l' : List Int} {p : Nat} {r : List Int} (hL : UpL s h r l) (hU : Up s h l p l') : UpL s h (r ++ [(p : Int)]) l' := by
  refine ⟨hU.sub _ hL.head, hU.nodup, fun x hx => ?_, fun q hq hr => ?_, fun x hx hne q he hr => ?_⟩
  · rcases hU.sound x hx with h1 | h1
    · exact hL.sound x h1
    · exact h1
  · rcases List.mem_append.1 hq with hq | hq
    · exact hU.sub _ (hL.done q hq hr)
    · obtain rfl : q = p := by have := List.mem_singleton.1 hq; omega
      exact hU.here hr
  · by_cases h1 : (x : Int) ∈ l
    · exact hU.sub _ (hL.shut x h1 hne q he hr)
    · exact hU.shut x hx h1 q he hr
/-- Of all latches: these are the loop's blocks. -/
theorem UpL.mem {l r : List Int} (hs : Closed s) (hL : UpL s h r l) (hr : ∀ p : Nat, (p : Int) ∈ r ↔ Ed s p h ∧ DomN s h p) (x : Int) : x ∈ l ↔ 0 ≤ x ∧ x < s.length ∧ (Rc s x.toNat ∧ InL s h x.toNat) := by
  constructor
  · intro hx
    obtain ⟨h1, h2, h3⟩ := hL.sound x hx
    have := Rc_lt hs h2
    exact ⟨h1, by omega, h2, h3⟩
  · rintro ⟨h1, _, h2, h3⟩
    have key : ∀ y : Nat, InL s h y → (y : Int) ∈ l := by
      intro y hy
      induction hy with
      | head => exact hL.head
      | latch he hd => exact hL.done _ ((hr _).2 ⟨he, hd⟩) hd.2.1
      | pred _ hne he hp ih => exact hL.shut _ ih hne _ he hp
    have := key _ h3
    rw [show ((x.toNat : Nat) : Int) = x by omega] at this
    exact this
end
end Go.Proofs.Ytbmiffgfmlkdnaa

/- All loops of a function, as they are gathered. No program is in sight here. -/
namespace Go.Proofs.Ytbmiffgfmlkdnaa
open Go.Ax

structure Lp1 where
  head : Int
  blocks : List Int
  latches : List Int
  inn : Int
def Lp1.cs (l : Lp1) : List AV := [num l.head, ints l.blocks, ints l.latches, num l.inn]
noncomputable def domB (s : List (List Int)) (h : Nat) (x : Int) : Bool := @decide (DomN s h x.toNat) (Classical.propDecidable _)
theorem domB_iff {s : List (List Int)} {h : Nat} {x : Int} : domB s h x = true ↔ DomN s h x.toNat := by unfold domB; exact @decide_eq_true_iff _ (Classical.propDecidable _)
/-- The latches of a block: who goes to it, and is dominated by it. -/
noncomputable def latF (s : List (List Int)) (h : Nat) : List Int := (predOf s h s.length).filter (domB s h)
noncomputable def blkF (s : List (List Int)) (h : Nat) : List Int := filtN s.length fun x => Rc s x ∧ InL s h x
theorem latF_mem {s : List (List Int)} {h p : Nat} : (p : Int) ∈ latF s h ↔ Ed s p h ∧ DomN s h p := by
  unfold latF
  rw [List.mem_filter, mem_predOf, domB_iff, Int.toNat_natCast]
theorem latF_nn {s : List (List Int)} {h : Nat} {x : Int} (hx : x ∈ latF s h) : ∃ p : Nat, x = p ∧ Ed s p h ∧ DomN s h p := by
  unfold latF at hx
  obtain ⟨h1, h2⟩ := List.mem_filter.1 hx
  obtain ⟨p, rfl, h3⟩ := predOf_nn h1
  exact ⟨p, rfl, h3, by have := domB_iff.1 h2; simpa using this⟩
theorem latF_len {s : List (List Int)} {h : Nat} : (latF s h).length ≤ s.length := by
  unfold latF
  exact Nat.le_trans (List.length_filter_le _ _) (predOf_len s h s.length)
theorem latF_head {s : List (List Int)} {h : Nat} (hl : latF s h ≠ []) : Rc s h := by
  obtain ⟨x, hx⟩ := List.exists_mem_of_ne_nil _ hl
  obtain ⟨p, rfl, _, hd⟩ := latF_nn hx
  exact hd.1
theorem filter_take_succ {α : Type} {l : List α} {k : Nat} {x : α} {p : α → Bool} (h : l[k]? = some x) : (l.take (k + 1)).filter p = (l.take k).filter p ++ if p x = true then [x] else [] := by
  rw [take_succ h, List.filter_append]
  by_cases hp : p x = true <;> simp [hp]
/-- The loops of the first ones, which lie in none so far. -/
noncomputable def lps (s : List (List Int)) : Nat → List Lp1
  | 0 => []
  | h + 1 => lps s h ++ if latF s h = [] then [] else [⟨h, blkF s h, latF s h, -1⟩]
theorem lps_len (s : List (List Int)) : ∀ h, (lps s h).length ≤ h
  | 0 => Nat.le_refl _
  | h + 1 => by
    simp only [lps, List.length_append]
    have := lps_len s h
    split <;> simp <;> omega
theorem lps_mem {s : List (List Int)} : ∀ {n : Nat} {l : Lp1}, l ∈ lps s n → ∃ h : Nat, h < n ∧ l = ⟨h, blkF s h, latF s h, -1⟩ ∧ latF s h ≠ []
  | 0, l, hl => by cases hl
  | n + 1, l, hl => by
    simp only [lps, List.mem_append] at hl
    rcases hl with hl | hl
    · obtain ⟨h, h1, h2⟩ := lps_mem hl
      exact ⟨h, by omega, h2⟩
    · split at hl
      · cases hl
      · exact ⟨n, by omega, List.mem_singleton.1 hl, by assumption⟩
/-- Loops that are the same but for which they lie in. -/
def SameBut (a b : List Lp1) : Prop := a.length = b.length ∧ ∀ (k : Nat) (x y : Lp1), a[k]? = some x → b[k]? = some y → x.head = y.head ∧ x.blocks = y.blocks ∧ x.latches = y.latches
def liesB (x y : Lp1) : Bool := !decide (x.head = y.head) && decide (x.head ∈ y.blocks)
/-- The smallest one of the first ones in which one lies. -/
def inTo (ls : List Lp1) (i : Nat) : Nat → Int
  | 0 => -1
  | k + 1 => match ls[i]?, ls[k]? with
    | some x, some y => if liesB x y = true ∧ (inTo ls i k < 0 ∨ y.blocks.length < ((ls[(inTo ls i k).toNat]?).map fun z : Lp1 => z.blocks.length).getD 0) then (k : Int) else inTo ls i k
    | _, _ => inTo ls i k
end Go.Proofs.Ytbmiffgfmlkdnaa
