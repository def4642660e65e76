/- The check of programs: whether all is there that is named, by a contract. -/
import Derived.Test.YtnfkdilmoppbpaaPG09
import Derived.Test.YtnfkdilmoppbpaaPG06
set_option linter.unusedVariables false
set_option linter.unusedSimpArgs false

namespace Go.Proofs.Ytnfkdilmoppbpaa
open Go.Ax
set_option maxRecDepth 10000
set_option linter.unusedVariables false

theorem there_spec (p : Pro) (f : Fun) (block : Int) (i : Ins) (hp : p.fits) (hf : f.fits) (hi : i.args.length ≤ 1000000) (hr : right15 i = true) : FnSpec Try.prog 104 [proA p, funA f, num block, insA i] (fun r => ∃ v, r = tru v ∧ (v = true ↔ thereP p f block i)) := by
  have hif : i.fits := by unfold Ins.fits; omega
  have hp1 := hp.1
  have hp2 := hp.2.1
  have hf1 := hf.1
  have hf2 := hf.2.1
  have hul := usesF_len i
  have htl := targetsF_len i
  have hsp := site_pos hr
  refine spec_of 1000 Try.func104 rfl rfl ?_
  repeat' first | refine Draw.mk (ordL [1] [0, 2, 3, 4, 1, 5]) (by decide +kernel) ?_ | refine Draw.mk (ordL [1, 3] [0, 2, 1, 3, 4, 5]) (by decide +kernel) ?_ | refine Draw.mk (ordL [] [0, 1, 2, 3, 4, 5, 6, 7]) (by decide +kernel) ?_ | refine Draw.mk (ordL [] [0, 1, 2, 3, 4, 5, 6, 7, 8, 9, 10, 11, 12, 13, 14]) (by decide +kernel) ?_ | refine Draw.mk (ordL [16] [0, 1, 2, 3, 4, 5, 6, 7, 8, 9, 10, 11, 12, 13, 14, 15, 16, 17, 18, 19]) (by decide +kernel) ?_ | refine Draw.mk (ordL [9] [0, 1, 2, 3, 4, 5, 6, 7, 8, 9, 10, 11, 12]) (by decide +kernel) ?_ | refine Call.eq (Def15_spec i hif) rfl ?_ | refine Len.map ?_ | refine Len.nil ?_ | refine Len.cons ?_ | refine Br.t rfl ?_ | refine Br.f rfl ?_ | refine Fit.au ?_ | refine Need.au ?_ | refine Pick.map (by assumption) ?_ | refine Pick.mapI (by omega) (by assumption) ?_ | refine PickN.mk _ (by assumption) ?_ | refine PickN.mk _ rfl ?_ | refine PickN.au ?_ | refine App.au rfl ?_ | refine App.au (own_map (fun _ => rfl) _) ?_ | refine Both.mk ?_ ?_ | exact True.intro
  refine Br.d (fun h1 => ?_) (fun h1 => ?_)
  · repeat' first | refine Len.map ?_ | refine Len.nil ?_ | refine Len.cons ?_ | refine Br.t rfl ?_ | refine Br.f rfl ?_ | refine Fit.au ?_ | refine Need.au ?_ | refine Pick.map (by assumption) ?_ | refine Pick.mapI (by omega) (by assumption) ?_ | refine PickN.mk _ (by assumption) ?_ | refine PickN.mk _ rfl ?_ | refine PickN.au ?_ | refine App.au rfl ?_ | refine App.au (own_map (fun _ => rfl) _) ?_ | refine Both.mk ?_ ?_ | exact True.intro
    refine ⟨false, rfl, ⟨fun h => (by cases h), fun h' => ?_⟩⟩
    have := h'.1; omega
  repeat' first | refine Draw.mk (ordL [1] [0, 2, 3, 4, 1, 5]) (by decide +kernel) ?_ | refine Draw.mk (ordL [1, 3] [0, 2, 1, 3, 4, 5]) (by decide +kernel) ?_ | refine Draw.mk (ordL [] [0, 1, 2, 3, 4, 5, 6, 7]) (by decide +kernel) ?_ | refine Draw.mk (ordL [] [0, 1, 2, 3, 4, 5, 6, 7, 8, 9, 10, 11, 12, 13, 14]) (by decide +kernel) ?_ | refine Draw.mk (ordL [16] [0, 1, 2, 3, 4, 5, 6, 7, 8, 9, 10, 11, 12, 13, 14, 15, 16, 17, 18, 19]) (by decide +kernel) ?_ | refine Draw.mk (ordL [9] [0, 1, 2, 3, 4, 5, 6, 7, 8, 9, 10, 11, 12]) (by decide +kernel) ?_ | refine Call.eq (Uses_spec i hi) rfl ?_ | refine Call.eq (Targets_spec i hif) rfl ?_ | refine Len.map ?_ | refine Len.nil ?_ | refine Len.cons ?_ | refine Br.t rfl ?_ | refine Br.f rfl ?_ | refine Fit.au ?_ | refine Need.au ?_ | refine Pick.map (by assumption) ?_ | refine Pick.mapI (by omega) (by assumption) ?_ | refine PickN.mk _ (by assumption) ?_ | refine PickN.mk _ rfl ?_ | refine PickN.au ?_ | refine App.au rfl ?_ | refine App.au (own_map (fun _ => rfl) _) ?_ | refine Both.mk ?_ ?_ | exact True.intro
  refine Stop.mk (loop_in (fun m : Nat => [(4, .hp 0 0), (5, .hp 1 0), (7, .hp 2 0), (2, num block), (9, .hw 3), (10, .hw 4), (11, num m)]) (fun _ => [(0, .var p.cs), (1, .var f.cs), (2, .var i.cs), (3, .row 1 ((usesF i).map int1)), (4, .row 1 ((targetsF i).map int1))]) 5 (fun m => m ≤ (usesF i).length ∧ ∀ u ∈ (usesF i).take m, u < f.regs.length) (fun m => (usesF i).length - m) 0 ⟨by omega, by simp⟩ (g := []) ⟨rfl, (by repeat' first | exact trivial | refine ⟨rfl, ?_⟩ | refine ⟨congrArg (fun n => AV.lit (.int .i64 n)) (by omega), ?_⟩ | refine ⟨congrArg (fun l => some (Row.row 1 l)) (by simp [int1, num, tru]), ?_⟩), (by repeat' first | exact trivial | refine ⟨rfl, ?_⟩ | refine ⟨congrArg (fun n => AV.lit (.int .i64 n)) (by omega), ?_⟩ | refine ⟨congrArg (fun l => some (Row.row 1 l)) (by simp [int1, num, tru]), ?_⟩)⟩ (fun m hm ih => ?_))
  obtain ⟨hm, hw⟩ := hm
  refine go 1000 Try.func104 ?_
  repeat' first | refine Len.map ?_ | refine Len.nil ?_ | refine Len.cons ?_ | refine Br.t rfl ?_ | refine Br.f rfl ?_ | refine Fit.au ?_ | refine Need.au ?_ | refine Pick.map (by assumption) ?_ | refine Pick.mapI (by omega) (by assumption) ?_ | refine PickN.mk _ (by assumption) ?_ | refine PickN.mk _ rfl ?_ | refine PickN.au ?_ | refine App.au rfl ?_ | refine App.au (own_map (fun _ => rfl) _) ?_ | refine Both.mk ?_ ?_ | exact True.intro
  refine Br.d (fun h2 => ?_) (fun h2 => ?_)
  · obtain ⟨u, gu, gum⟩ := getK (l := usesF i) (k := m) (by omega)
    repeat' first | refine Draw.mk (ordL [1] [0, 2, 3, 4, 1, 5]) (by decide +kernel) ?_ | refine Draw.mk (ordL [1, 3] [0, 2, 1, 3, 4, 5]) (by decide +kernel) ?_ | refine Draw.mk (ordL [] [0, 1, 2, 3, 4, 5, 6, 7]) (by decide +kernel) ?_ | refine Draw.mk (ordL [] [0, 1, 2, 3, 4, 5, 6, 7, 8, 9, 10, 11, 12, 13, 14]) (by decide +kernel) ?_ | refine Draw.mk (ordL [16] [0, 1, 2, 3, 4, 5, 6, 7, 8, 9, 10, 11, 12, 13, 14, 15, 16, 17, 18, 19]) (by decide +kernel) ?_ | refine Draw.mk (ordL [9] [0, 1, 2, 3, 4, 5, 6, 7, 8, 9, 10, 11, 12]) (by decide +kernel) ?_ | refine Len.map ?_ | refine Len.nil ?_ | refine Len.cons ?_ | refine Br.t rfl ?_ | refine Br.f rfl ?_ | refine Fit.au ?_ | refine Need.au ?_ | refine Pick.map (by assumption) ?_ | refine Pick.mapI (by omega) (by assumption) ?_ | refine PickN.mk _ (by assumption) ?_ | refine PickN.mk _ rfl ?_ | refine PickN.au ?_ | refine App.au rfl ?_ | refine App.au (own_map (fun _ => rfl) _) ?_ | refine Both.mk ?_ ?_ | exact True.intro
    refine Br.d (fun h3 => ?_) (fun h3 => ?_)
    · repeat' first | refine Len.map ?_ | refine Len.nil ?_ | refine Len.cons ?_ | refine Br.t rfl ?_ | refine Br.f rfl ?_ | refine Fit.au ?_ | refine Need.au ?_ | refine Pick.map (by assumption) ?_ | refine Pick.mapI (by omega) (by assumption) ?_ | refine PickN.mk _ (by assumption) ?_ | refine PickN.mk _ rfl ?_ | refine PickN.au ?_ | refine App.au rfl ?_ | refine App.au (own_map (fun _ => rfl) _) ?_ | refine Both.mk ?_ ?_ | exact True.intro
      refine ⟨false, rfl, ⟨fun h => (by cases h), fun h' => ?_⟩⟩
      have := h'.2.1 u gum; omega
    · repeat' first | refine Len.map ?_ | refine Len.nil ?_ | refine Len.cons ?_ | refine Br.t rfl ?_ | refine Br.f rfl ?_ | refine Fit.au ?_ | refine Need.au ?_ | refine Pick.map (by assumption) ?_ | refine Pick.mapI (by omega) (by assumption) ?_ | refine PickN.mk _ (by assumption) ?_ | refine PickN.mk _ rfl ?_ | refine PickN.au ?_ | refine App.au rfl ?_ | refine App.au (own_map (fun _ => rfl) _) ?_ | refine Both.mk ?_ ?_ | exact True.intro
      refine Stop.mk (ih (m + 1) (g := []) _ _ _ ⟨by omega, all_take_succ gu hw (by omega)⟩ (by omega) ⟨rfl, (by repeat' first | exact trivial | refine ⟨rfl, ?_⟩ | refine ⟨congrArg (fun n => AV.lit (.int .i64 n)) (by omega), ?_⟩ | refine ⟨congrArg (fun l => some (Row.row 1 l)) (by simp [int1, num, tru]), ?_⟩), (by repeat' first | exact trivial | refine ⟨rfl, ?_⟩ | refine ⟨congrArg (fun n => AV.lit (.int .i64 n)) (by omega), ?_⟩ | refine ⟨congrArg (fun l => some (Row.row 1 l)) (by simp [int1, num, tru]), ?_⟩)⟩)
  rw [take_all (by omega)] at hw
  clear ih
  repeat' first | refine Len.map ?_ | refine Len.nil ?_ | refine Len.cons ?_ | refine Br.t rfl ?_ | refine Br.f rfl ?_ | refine Fit.au ?_ | refine Need.au ?_ | refine Pick.map (by assumption) ?_ | refine Pick.mapI (by omega) (by assumption) ?_ | refine PickN.mk _ (by assumption) ?_ | refine PickN.mk _ rfl ?_ | refine PickN.au ?_ | refine App.au rfl ?_ | refine App.au (own_map (fun _ => rfl) _) ?_ | refine Both.mk ?_ ?_ | exact True.intro
  refine Stop.mk (loop_in (fun m : Nat => [(4, .hp 0 0), (5, .hp 1 0), (7, .hp 2 0), (2, num block), (10, .hw 4), (12, num m)]) (fun _ => [(0, .var p.cs), (1, .var f.cs), (2, .var i.cs), (4, .row 1 ((targetsF i).map int1))]) 5 (fun m => m ≤ (targetsF i).length ∧ ∀ t ∈ (targetsF i).take m, t ≠ 0 ∧ t < f.blocks.length) (fun m => (targetsF i).length - m) 0 ⟨by omega, by simp⟩ (g := []) ⟨rfl, (by repeat' first | exact trivial | refine ⟨rfl, ?_⟩ | refine ⟨congrArg (fun n => AV.lit (.int .i64 n)) (by omega), ?_⟩ | refine ⟨congrArg (fun l => some (Row.row 1 l)) (by simp [int1, num, tru]), ?_⟩), (by repeat' first | exact trivial | refine ⟨rfl, ?_⟩ | refine ⟨congrArg (fun n => AV.lit (.int .i64 n)) (by omega), ?_⟩ | refine ⟨congrArg (fun l => some (Row.row 1 l)) (by simp [int1, num, tru]), ?_⟩)⟩ (fun m hm ih => ?_))
  obtain ⟨hm, hw2⟩ := hm
  refine go 1000 Try.func104 ?_
  repeat' first | refine Len.map ?_ | refine Len.nil ?_ | refine Len.cons ?_ | refine Br.t rfl ?_ | refine Br.f rfl ?_ | refine Fit.au ?_ | refine Need.au ?_ | refine Pick.map (by assumption) ?_ | refine Pick.mapI (by omega) (by assumption) ?_ | refine PickN.mk _ (by assumption) ?_ | refine PickN.mk _ rfl ?_ | refine PickN.au ?_ | refine App.au rfl ?_ | refine App.au (own_map (fun _ => rfl) _) ?_ | refine Both.mk ?_ ?_ | exact True.intro
  refine Br.d (fun h2 => ?_) (fun h2 => ?_)
  · obtain ⟨t, gt, gtm⟩ := getK (l := targetsF i) (k := m) (by omega)
    repeat' first | refine Draw.mk (ordL [1] [0, 2, 3, 4, 1, 5]) (by decide +kernel) ?_ | refine Draw.mk (ordL [1, 3] [0, 2, 1, 3, 4, 5]) (by decide +kernel) ?_ | refine Draw.mk (ordL [] [0, 1, 2, 3, 4, 5, 6, 7]) (by decide +kernel) ?_ | refine Draw.mk (ordL [] [0, 1, 2, 3, 4, 5, 6, 7, 8, 9, 10, 11, 12, 13, 14]) (by decide +kernel) ?_ | refine Draw.mk (ordL [16] [0, 1, 2, 3, 4, 5, 6, 7, 8, 9, 10, 11, 12, 13, 14, 15, 16, 17, 18, 19]) (by decide +kernel) ?_ | refine Draw.mk (ordL [9] [0, 1, 2, 3, 4, 5, 6, 7, 8, 9, 10, 11, 12]) (by decide +kernel) ?_ | refine Len.map ?_ | refine Len.nil ?_ | refine Len.cons ?_ | refine Br.t rfl ?_ | refine Br.f rfl ?_ | refine Fit.au ?_ | refine Need.au ?_ | refine Pick.map (by assumption) ?_ | refine Pick.mapI (by omega) (by assumption) ?_ | refine PickN.mk _ (by assumption) ?_ | refine PickN.mk _ rfl ?_ | refine PickN.au ?_ | refine App.au rfl ?_ | refine App.au (own_map (fun _ => rfl) _) ?_ | refine Both.mk ?_ ?_ | exact True.intro | refine Br.d (fun h => ?_) (fun h => ?_) | refine Br.nd (fun h => ?_) (fun h => ?_) | refine Br.mk (fun h => ?_) (fun h => ?_)
    · refine ⟨false, rfl, ⟨fun h => (by cases h), fun h' => ?_⟩⟩
      have := h'.2.2.1 t gtm; omega
    · refine ⟨false, rfl, ⟨fun h => (by cases h), fun h' => ?_⟩⟩
      have := h'.2.2.1 t gtm; omega
    · refine Stop.mk (ih (m + 1) (g := []) _ _ _ ⟨by omega, all_take_succ gt hw2 (by omega)⟩ (by omega) ⟨rfl, (by repeat' first | exact trivial | refine ⟨rfl, ?_⟩ | refine ⟨congrArg (fun n => AV.lit (.int .i64 n)) (by omega), ?_⟩ | refine ⟨congrArg (fun l => some (Row.row 1 l)) (by simp [int1, num, tru]), ?_⟩), (by repeat' first | exact trivial | refine ⟨rfl, ?_⟩ | refine ⟨congrArg (fun n => AV.lit (.int .i64 n)) (by omega), ?_⟩ | refine ⟨congrArg (fun l => some (Row.row 1 l)) (by simp [int1, num, tru]), ?_⟩)⟩)
  rw [take_all (by omega)] at hw2
  clear ih
  repeat' first | refine Call.eq (Check_spec _) rfl ?_ | refine Len.map ?_ | refine Len.nil ?_ | refine Len.cons ?_ | refine Br.t rfl ?_ | refine Br.f rfl ?_ | refine Fit.au ?_ | refine Need.au ?_ | refine Pick.map (by assumption) ?_ | refine Pick.mapI (by omega) (by assumption) ?_ | refine PickN.mk _ (by assumption) ?_ | refine PickN.mk _ rfl ?_ | refine PickN.au ?_ | refine App.au rfl ?_ | refine App.au (own_map (fun _ => rfl) _) ?_ | refine Both.mk ?_ ?_ | exact True.intro
  have hc0 : checkF i.op = true → i.op ≠ 39 ∧ i.op ≠ 44 := by unfold checkF; simp; omega
  refine Br.mk (fun hc => ?_) (fun hc => ?_)
  · obtain ⟨n1, n2⟩ := hc0 hc
    repeat' first | refine Draw.mk (ordL [1] [0, 2, 3, 4, 1, 5]) (by decide +kernel) ?_ | refine Draw.mk (ordL [1, 3] [0, 2, 1, 3, 4, 5]) (by decide +kernel) ?_ | refine Draw.mk (ordL [] [0, 1, 2, 3, 4, 5, 6, 7]) (by decide +kernel) ?_ | refine Draw.mk (ordL [] [0, 1, 2, 3, 4, 5, 6, 7, 8, 9, 10, 11, 12, 13, 14]) (by decide +kernel) ?_ | refine Draw.mk (ordL [16] [0, 1, 2, 3, 4, 5, 6, 7, 8, 9, 10, 11, 12, 13, 14, 15, 16, 17, 18, 19]) (by decide +kernel) ?_ | refine Draw.mk (ordL [9] [0, 1, 2, 3, 4, 5, 6, 7, 8, 9, 10, 11, 12]) (by decide +kernel) ?_ | refine Len.map ?_ | refine Len.nil ?_ | refine Len.cons ?_ | refine Br.t rfl ?_ | refine Br.f rfl ?_ | refine Fit.au ?_ | refine Need.au ?_ | refine Pick.map (by assumption) ?_ | refine Pick.mapI (by omega) (by assumption) ?_ | refine PickN.mk _ (by assumption) ?_ | refine PickN.mk _ rfl ?_ | refine PickN.au ?_ | refine App.au rfl ?_ | refine App.au (own_map (fun _ => rfl) _) ?_ | refine Both.mk ?_ ?_ | exact True.intro
    refine Br.d (fun h3 => ?_) (fun h3 => ?_)
    · obtain ⟨s, gs, gsm⟩ := getK (l := p.sites) (k := i.site.toNat) (by omega)
      have es : p.sites.getD i.site.toNat (0, 0) = s := by rw [List.getD_eq_getElem?_getD, gs]; rfl
      repeat' first | refine Call.eq (Trap_spec _) rfl ?_ | refine Len.map ?_ | refine Len.nil ?_ | refine Len.cons ?_ | refine Br.t rfl ?_ | refine Br.f rfl ?_ | refine Fit.au ?_ | refine Need.au ?_ | refine Pick.map (by assumption) ?_ | refine Pick.mapI (by omega) (by assumption) ?_ | refine PickN.mk _ (by assumption) ?_ | refine PickN.mk _ rfl ?_ | refine PickN.au ?_ | refine App.au rfl ?_ | refine App.au (own_map (fun _ => rfl) _) ?_ | refine Both.mk ?_ ?_ | exact True.intro
      refine ⟨_, rfl, ?_⟩
      rw [decide_eq_true_iff]
      exact ⟨fun h => ⟨by omega, hw, hw2, fun _ => ⟨h3, by rw [es]; exact h⟩, fun h => absurd h n1, fun h => absurd h n2⟩, fun h' => by have := (h'.2.2.2.1 hc).2; rw [es] at this; exact this⟩
    · repeat' first | refine Len.map ?_ | refine Len.nil ?_ | refine Len.cons ?_ | refine Br.t rfl ?_ | refine Br.f rfl ?_ | refine Fit.au ?_ | refine Need.au ?_ | refine Pick.map (by assumption) ?_ | refine Pick.mapI (by omega) (by assumption) ?_ | refine PickN.mk _ (by assumption) ?_ | refine PickN.mk _ rfl ?_ | refine PickN.au ?_ | refine App.au rfl ?_ | refine App.au (own_map (fun _ => rfl) _) ?_ | refine Both.mk ?_ ?_ | exact True.intro
      refine ⟨false, rfl, ⟨fun h => (by cases h), fun h' => ?_⟩⟩
      have := (h'.2.2.2.1 hc).1; omega
  · repeat' first | refine Len.map ?_ | refine Len.nil ?_ | refine Len.cons ?_ | refine Br.t rfl ?_ | refine Br.f rfl ?_ | refine Fit.au ?_ | refine Need.au ?_ | refine Pick.map (by assumption) ?_ | refine Pick.mapI (by omega) (by assumption) ?_ | refine PickN.mk _ (by assumption) ?_ | refine PickN.mk _ rfl ?_ | refine PickN.au ?_ | refine App.au rfl ?_ | refine App.au (own_map (fun _ => rfl) _) ?_ | refine Both.mk ?_ ?_ | exact True.intro
    refine Br.d (fun h3 => ?_) (fun h3 => ?_)
    · repeat' first | refine Len.map ?_ | refine Len.nil ?_ | refine Len.cons ?_ | refine Br.t rfl ?_ | refine Br.f rfl ?_ | refine Fit.au ?_ | refine Need.au ?_ | refine Pick.map (by assumption) ?_ | refine Pick.mapI (by omega) (by assumption) ?_ | refine PickN.mk _ (by assumption) ?_ | refine PickN.mk _ rfl ?_ | refine PickN.au ?_ | refine App.au rfl ?_ | refine App.au (own_map (fun _ => rfl) _) ?_ | refine Both.mk ?_ ?_ | exact True.intro
      refine ⟨_, rfl, ?_⟩
      rw [decide_eq_true_iff]
      exact ⟨fun h => ⟨by omega, hw, hw2, fun h => (by rw [hc] at h; cases h), fun _ => h, fun h => by omega⟩, fun h' => h'.2.2.2.2.1 h3⟩
    · repeat' first | refine Draw.mk (ordL [1] [0, 2, 3, 4, 1, 5]) (by decide +kernel) ?_ | refine Draw.mk (ordL [1, 3] [0, 2, 1, 3, 4, 5]) (by decide +kernel) ?_ | refine Draw.mk (ordL [] [0, 1, 2, 3, 4, 5, 6, 7]) (by decide +kernel) ?_ | refine Draw.mk (ordL [] [0, 1, 2, 3, 4, 5, 6, 7, 8, 9, 10, 11, 12, 13, 14]) (by decide +kernel) ?_ | refine Draw.mk (ordL [16] [0, 1, 2, 3, 4, 5, 6, 7, 8, 9, 10, 11, 12, 13, 14, 15, 16, 17, 18, 19]) (by decide +kernel) ?_ | refine Draw.mk (ordL [9] [0, 1, 2, 3, 4, 5, 6, 7, 8, 9, 10, 11, 12]) (by decide +kernel) ?_ | refine Call.eq (Preds16_spec f block hf) rfl ?_ | refine Len.map ?_ | refine Len.nil ?_ | refine Len.cons ?_ | refine Br.t rfl ?_ | refine Br.f rfl ?_ | refine Fit.au ?_ | refine Need.au ?_ | refine Pick.map (by assumption) ?_ | refine Pick.mapI (by omega) (by assumption) ?_ | refine PickN.mk _ (by assumption) ?_ | refine PickN.mk _ rfl ?_ | refine PickN.au ?_ | refine App.au rfl ?_ | refine App.au (own_map (fun _ => rfl) _) ?_ | refine Both.mk ?_ ?_ | exact True.intro | refine Br.d (fun h => ?_) (fun h => ?_) | refine Br.nd (fun h => ?_) (fun h => ?_) | refine Br.mk (fun h => ?_) (fun h => ?_)
      · refine ⟨true, rfl, ⟨fun _ => ⟨by omega, hw, hw2, fun h => (by rw [hc] at h; cases h), fun h => absurd h h3, fun h => absurd h (by assumption)⟩, fun _ => rfl⟩⟩
      · refine ⟨_, rfl, ?_⟩
        rw [decide_eq_true_iff]
        exact ⟨fun h => ⟨by omega, hw, hw2, fun h => (by rw [hc] at h; cases h), fun h => absurd h h3, fun _ => h⟩, fun h' => h'.2.2.2.2.2 (by assumption)⟩
end Go.Proofs.Ytnfkdilmoppbpaa

/- The check of programs: the kinds that an instruction reads and writes, by contracts. -/
namespace Go.Proofs.Ytnfkdilmoppbpaa
open Go.Ax
set_option maxRecDepth 10000
set_option linter.unusedVariables false

theorem Pick_getD {α : Type} {enc : α → List AV} {l : List α} {n : Int} {k : List AV → Prop} (d : α) (h0 : 0 ≤ n) (h : n < l.length) (hk : k (enc (l.getD n.toNat d))) : Pick (l.map enc) n k :=
  Pick.mapI (e := l.getD n.toNat d) h0 (by rw [List.getD_eq_getElem?_getD, List.getElem?_eq_getElem (by omega)]; rfl) hk

theorem writes16_spec (p : Pro) (f : Fun) (block : Int) (i : Ins) (hp : p.fits) (hf : f.fits) (hr : right15 i = true) (ht : thereP p f block i) : FnSpec Try.prog 109 [proA p, funA f, insA i] (fun r => r = num (kindF p f i)) := by
  have hd : i.op = 23 ∨ i.op = 44 → i.dst < f.regs.length := fun h => by
    have := ht.1
    rw [right_def hr (by unfold writesF; simp; omega)] at this
    exact this
  have hn : i.op = 39 → i.n < p.funcs.length := ht.2.2.2.2.1
  have hn0 := right_n hr
  obtain ⟨hd0, _⟩ := right_pos hr
  refine spec_of 1000 Try.func109 rfl rfl ?_
  repeat' first | refine Pick_getD 0 (by omega) (by omega) ?_ | refine Pick_getD fun0 (by omega) (by omega) ?_ | refine Len.map ?_ | refine Len.nil ?_ | refine Len.cons ?_ | refine Br.t rfl ?_ | refine Br.f rfl ?_ | refine Fit.au ?_ | refine Need.au ?_ | refine Pick.map (by assumption) ?_ | refine Pick.mapI (by omega) (by assumption) ?_ | refine PickN.mk _ (by assumption) ?_ | refine PickN.mk _ rfl ?_ | refine PickN.au ?_ | refine App.au rfl ?_ | refine App.au (own_map (fun _ => rfl) _) ?_ | refine Both.mk ?_ ?_ | exact True.intro | refine Br.d (fun h => ?_) (fun h => ?_) | refine Br.nd (fun h => ?_) (fun h => ?_) | refine Br.mk (fun h => ?_) (fun h => ?_)
  all_goals first
    | (exfalso; omega)
    | (show _ = _
       unfold kindF
       repeat' first | rw [if_pos (by omega)] | rw [if_neg (by omega)]
       rfl)

end Go.Proofs.Ytnfkdilmoppbpaa

/- The check of programs: the kinds that an instruction reads, by a contract. -/
namespace Go.Proofs.Ytnfkdilmoppbpaa
open Go.Ax
set_option maxRecDepth 10000
set_option linter.unusedVariables false

set_option maxHeartbeats 2000000 in
theorem reads16_spec (p : Pro) (f : Fun) (block : Int) (i : Ins) (hp : p.fits) (hf : f.fits) (hi : i.args.length ≤ 1000000) (hr : right15 i = true) (ht : thereP p f block i) : FnSpec Try.prog 107 [proA p, funA f, insA i] (fun r => r = .osl 1 ((kindsF p f i).map int1) ∨ r = .sl false 1 ((kindsF p f i).map int1)) := by
  have hd : i.op = 23 ∨ i.op = 44 → i.dst < f.regs.length := fun h => by
    have := ht.1
    rw [right_def hr (by unfold writesF; simp; omega)] at this
    exact this
  have ha : i.op = 3 ∨ i.op = 4 → i.a < f.regs.length := fun h => ht.2.1 _ (uses_a hr (by unfold abF twoF; simp; omega))
  have hn : i.op = 39 → i.n < p.funcs.length := ht.2.2.2.2.1
  have hn0 := right_n hr
  have hul := usesF_len i
  obtain ⟨hd0, ha0, _⟩ := right_pos hr
  refine spec_of 1000 Try.func107 rfl rfl ?_
  repeat' first | refine Call.eq (Uses_spec i hi) rfl ?_ | refine Pick_getD 0 (by omega) (by omega) ?_ | refine Pick_getD fun0 (by omega) (by omega) ?_ | refine Draw.mk (ordL [12] [0, 1, 2, 3, 4, 5, 6, 7, 8, 9, 10, 11, 12, 13]) (by decide +kernel) ?_ | refine Len.map ?_ | refine Len.nil ?_ | refine Len.cons ?_ | refine Br.t rfl ?_ | refine Br.f rfl ?_ | refine Fit.au ?_ | refine Need.au ?_ | refine Pick.map (by assumption) ?_ | refine Pick.mapI (by omega) (by assumption) ?_ | refine PickN.mk _ (by assumption) ?_ | refine PickN.mk _ rfl ?_ | refine PickN.au ?_ | refine App.au rfl ?_ | refine App.au (own_map (fun _ => rfl) _) ?_ | refine Both.mk ?_ ?_ | exact True.intro | (refine Br.d (fun h => ?_) (fun h => ?_) <;> try (exfalso; omega)) | (refine Br.nd (fun h => ?_) (fun h => ?_) <;> try (exfalso; omega)) | (refine Br.mk (fun h => ?_) (fun h => ?_) <;> try (exfalso; omega))
  all_goals first
    | (refine .inl ?_
       show _ = _
       unfold kindsF
       repeat' first | rw [if_pos (by omega)] | rw [if_neg (by omega)]
       rfl)
    | (refine Ax.Sub.mk _ (by omega) (by omega) (by simp only [List.length_map]; omega) rfl ?_
       refine .inr ?_
       show AV.sl false 1 _ = _
       unfold kindsF
       repeat' first | rw [if_pos (by omega)] | rw [if_neg (by omega)]
       simp [List.map_take])
    | skip
  all_goals
    refine Stop.mk (loop_in (fun m : Nat => [(4, .hp 1 0), (5, .hp 2 0), (7, .hw 3), (9, .hw 4), (10, num m)]) (fun m => [(1, .var f.cs), (2, .var i.cs), (3, .row 1 ((usesF i).map int1)), (4, .row 1 ((List.replicate m (if i.op = 44 then f.regs.getD i.dst.toNat 0 else 1)).map int1))]) 5 (fun m => m ≤ (usesF i).length) (fun m => (usesF i).length - m) 0 (by omega) (g := []) ⟨rfl, (by repeat' first | exact trivial | refine ⟨rfl, ?_⟩ | refine ⟨congrArg (fun n => AV.lit (.int .i64 n)) (by omega), ?_⟩ | refine ⟨congrArg (fun l => some (Row.row 1 l)) (by simp [int1, num, tru]), ?_⟩), (by repeat' first | exact trivial | refine ⟨rfl, ?_⟩ | refine ⟨congrArg (fun n => AV.lit (.int .i64 n)) (by omega), ?_⟩ | refine ⟨congrArg (fun l => some (Row.row 1 l)) (by simp [int1, num, tru]), ?_⟩)⟩ (fun m hm ih => ?_))
    refine go 1000 Try.func107 ?_
    repeat' first | refine Len.map ?_ | refine Len.nil ?_ | refine Len.cons ?_ | refine Br.t rfl ?_ | refine Br.f rfl ?_ | refine Fit.au ?_ | refine Need.au ?_ | refine Pick.map (by assumption) ?_ | refine Pick.mapI (by omega) (by assumption) ?_ | refine PickN.mk _ (by assumption) ?_ | refine PickN.mk _ rfl ?_ | refine PickN.au ?_ | refine App.au rfl ?_ | refine App.au (own_map (fun _ => rfl) _) ?_ | refine Both.mk ?_ ?_ | exact True.intro
    refine Br.d (fun h2 => ?_) (fun h2 => ?_)
    · obtain ⟨u, gu, gum⟩ := getK (l := usesF i) (k := m) (by omega)
      have hlr : (List.replicate m (if i.op = 44 then f.regs.getD i.dst.toNat 0 else 1)).length = m := List.length_replicate
      repeat' first | refine Len.map ?_ | refine Len.nil ?_ | refine Len.cons ?_ | refine Br.t rfl ?_ | refine Br.f rfl ?_ | refine Fit.au ?_ | refine Need.au ?_ | refine Pick.map (by assumption) ?_ | refine Pick.mapI (by omega) (by assumption) ?_ | refine PickN.mk _ (by assumption) ?_ | refine PickN.mk _ rfl ?_ | refine PickN.au ?_ | refine App.au rfl ?_ | refine App.au (own_map (fun _ => rfl) _) ?_ | refine Both.mk ?_ ?_ | exact True.intro
      refine Br.d (fun h3 => ?_) (fun h3 => ?_)
      · repeat' first | refine Pick_getD 0 (by omega) (by omega) ?_ | refine Len.map ?_ | refine Len.nil ?_ | refine Len.cons ?_ | refine Br.t rfl ?_ | refine Br.f rfl ?_ | refine Fit.au ?_ | refine Need.au ?_ | refine Pick.map (by assumption) ?_ | refine Pick.mapI (by omega) (by assumption) ?_ | refine PickN.mk _ (by assumption) ?_ | refine PickN.mk _ rfl ?_ | refine PickN.au ?_ | refine App.au rfl ?_ | refine App.au (own_map (fun _ => rfl) _) ?_ | refine Both.mk ?_ ?_ | exact True.intro
        refine Stop.mk (ih (m + 1) (g := [(4, 6)]) _ _ _ (by omega) (by omega) ?_)
        rw [List.replicate_succ', List.map_append, if_pos h3]
        exact ⟨rfl, (by repeat' first | exact trivial | refine ⟨rfl, ?_⟩ | refine ⟨congrArg (fun n => AV.lit (.int .i64 n)) (by omega), ?_⟩ | refine ⟨congrArg (fun l => some (Row.row 1 l)) (by simp [int1, num, tru]), ?_⟩), (by repeat' first | exact trivial | refine ⟨rfl, ?_⟩ | refine ⟨congrArg (fun n => AV.lit (.int .i64 n)) (by omega), ?_⟩ | refine ⟨congrArg (fun l => some (Row.row 1 l)) (by simp [int1, num, tru]), ?_⟩)⟩
      · repeat' first | refine Len.map ?_ | refine Len.nil ?_ | refine Len.cons ?_ | refine Br.t rfl ?_ | refine Br.f rfl ?_ | refine Fit.au ?_ | refine Need.au ?_ | refine Pick.map (by assumption) ?_ | refine Pick.mapI (by omega) (by assumption) ?_ | refine PickN.mk _ (by assumption) ?_ | refine PickN.mk _ rfl ?_ | refine PickN.au ?_ | refine App.au rfl ?_ | refine App.au (own_map (fun _ => rfl) _) ?_ | refine Both.mk ?_ ?_ | exact True.intro
        refine Stop.mk (ih (m + 1) (g := [(4, 6)]) _ _ _ (by omega) (by omega) ?_)
        rw [List.replicate_succ', List.map_append, if_neg h3]
        exact ⟨rfl, (by repeat' first | exact trivial | refine ⟨rfl, ?_⟩ | refine ⟨congrArg (fun n => AV.lit (.int .i64 n)) (by omega), ?_⟩ | refine ⟨congrArg (fun l => some (Row.row 1 l)) (by simp [int1, num, tru]), ?_⟩), (by repeat' first | exact trivial | refine ⟨rfl, ?_⟩ | refine ⟨congrArg (fun n => AV.lit (.int .i64 n)) (by omega), ?_⟩ | refine ⟨congrArg (fun l => some (Row.row 1 l)) (by simp [int1, num, tru]), ?_⟩)⟩
    · repeat' first | refine Len.map ?_ | refine Len.nil ?_ | refine Len.cons ?_ | refine Br.t rfl ?_ | refine Br.f rfl ?_ | refine Fit.au ?_ | refine Need.au ?_ | refine Pick.map (by assumption) ?_ | refine Pick.mapI (by omega) (by assumption) ?_ | refine PickN.mk _ (by assumption) ?_ | refine PickN.mk _ rfl ?_ | refine PickN.au ?_ | refine App.au rfl ?_ | refine App.au (own_map (fun _ => rfl) _) ?_ | refine Both.mk ?_ ?_ | exact True.intro
      have : m = (usesF i).length := by omega
      subst this
      refine .inl ?_
      show _ = _
      unfold kindsF
      generalize (if i.op = 44 then f.regs.getD i.dst.toNat 0 else 1) = c
      repeat' first | rw [if_pos (by omega)] | rw [if_neg (by omega)]
      rfl
end Go.Proofs.Ytnfkdilmoppbpaa

/- The check of programs: kinds, a function itself, by contracts. -/
namespace Go.Proofs.Ytnfkdilmoppbpaa
open Go.Ax
set_option maxRecDepth 10000
set_option linter.unusedVariables false

theorem kinds_spec (l : List Int) (hl : l.length < 9223372036854775807) : FnSpec Try.prog 102 [ints l] (fun r => r = tru (decide (∀ x ∈ l, 1 ≤ x ∧ x ≤ 3))) := by
  refine spec_of 1000 Try.func102 rfl rfl ?_
  repeat' first | refine Len.map ?_ | refine Len.nil ?_ | refine Len.cons ?_ | refine Br.t rfl ?_ | refine Br.f rfl ?_ | refine Fit.au ?_ | refine Need.au ?_ | refine Pick.map (by assumption) ?_ | refine Pick.mapI (by omega) (by assumption) ?_ | refine PickN.mk _ (by assumption) ?_ | refine PickN.mk _ rfl ?_ | refine PickN.au ?_ | refine App.au rfl ?_ | refine App.au (own_map (fun _ => rfl) _) ?_ | refine Both.mk ?_ ?_ | exact True.intro
  refine Stop.mk (loop_in (fun m : Nat => [(0, ints l), (3, num m)]) (fun _ => []) 0 (fun m => m ≤ l.length ∧ ∀ x ∈ l.take m, 1 ≤ x ∧ x ≤ 3) (fun m => l.length - m) 0 ⟨by omega, by simp⟩ (g := []) ⟨rfl, (by repeat' first | exact trivial | refine ⟨rfl, ?_⟩ | refine ⟨congrArg (fun n => AV.lit (.int .i64 n)) (by omega), ?_⟩ | refine ⟨congrArg (fun l => some (Row.row 1 l)) (by simp [int1, num, tru]), ?_⟩), (by repeat' first | exact trivial | refine ⟨rfl, ?_⟩ | refine ⟨congrArg (fun n => AV.lit (.int .i64 n)) (by omega), ?_⟩ | refine ⟨congrArg (fun l => some (Row.row 1 l)) (by simp [int1, num, tru]), ?_⟩)⟩ (fun m hm ih => ?_))
  obtain ⟨hm, hw⟩ := hm
  refine go 1000 Try.func102 ?_
  repeat' first | refine Len.map ?_ | refine Len.nil ?_ | refine Len.cons ?_ | refine Br.t rfl ?_ | refine Br.f rfl ?_ | refine Fit.au ?_ | refine Need.au ?_ | refine Pick.map (by assumption) ?_ | refine Pick.mapI (by omega) (by assumption) ?_ | refine PickN.mk _ (by assumption) ?_ | refine PickN.mk _ rfl ?_ | refine PickN.au ?_ | refine App.au rfl ?_ | refine App.au (own_map (fun _ => rfl) _) ?_ | refine Both.mk ?_ ?_ | exact True.intro
  refine Br.d (fun h2 => ?_) (fun h2 => ?_)
  · obtain ⟨x, gx, gxm⟩ := getK (l := l) (k := m) (by omega)
    have bad : ¬ (1 ≤ x ∧ x ≤ 3) → decide (∀ x ∈ l, 1 ≤ x ∧ x ≤ 3) = false := fun h => decide_eq_false fun h' => h (h' x gxm)
    repeat' first | refine Len.map ?_ | refine Len.nil ?_ | refine Len.cons ?_ | refine Br.t rfl ?_ | refine Br.f rfl ?_ | refine Fit.au ?_ | refine Need.au ?_ | refine Pick.map (by assumption) ?_ | refine Pick.mapI (by omega) (by assumption) ?_ | refine PickN.mk _ (by assumption) ?_ | refine PickN.mk _ rfl ?_ | refine PickN.au ?_ | refine App.au rfl ?_ | refine App.au (own_map (fun _ => rfl) _) ?_ | refine Both.mk ?_ ?_ | exact True.intro | refine Br.d (fun h => ?_) (fun h => ?_) | refine Br.nd (fun h => ?_) (fun h => ?_) | refine Br.mk (fun h => ?_) (fun h => ?_)
    · rw [bad (by omega)]; rfl
    · rw [bad (by omega)]; rfl
    · refine Stop.mk (ih (m + 1) (g := []) _ _ _ ⟨by omega, all_take_succ gx hw (by omega)⟩ (by omega) ⟨rfl, (by repeat' first | exact trivial | refine ⟨rfl, ?_⟩ | refine ⟨congrArg (fun n => AV.lit (.int .i64 n)) (by omega), ?_⟩ | refine ⟨congrArg (fun l => some (Row.row 1 l)) (by simp [int1, num, tru]), ?_⟩), (by repeat' first | exact trivial | refine ⟨rfl, ?_⟩ | refine ⟨congrArg (fun n => AV.lit (.int .i64 n)) (by omega), ?_⟩ | refine ⟨congrArg (fun l => some (Row.row 1 l)) (by simp [int1, num, tru]), ?_⟩)⟩)
  · repeat' first | refine Len.map ?_ | refine Len.nil ?_ | refine Len.cons ?_ | refine Br.t rfl ?_ | refine Br.f rfl ?_ | refine Fit.au ?_ | refine Need.au ?_ | refine Pick.map (by assumption) ?_ | refine Pick.mapI (by omega) (by assumption) ?_ | refine PickN.mk _ (by assumption) ?_ | refine PickN.mk _ rfl ?_ | refine PickN.au ?_ | refine App.au rfl ?_ | refine App.au (own_map (fun _ => rfl) _) ?_ | refine Both.mk ?_ ?_ | exact True.intro
    rw [take_all (by omega)] at hw
    rw [decide_eq_true hw]; rfl
end Go.Proofs.Ytnfkdilmoppbpaa

/- The check of programs: one instruction, by a contract. -/
namespace Go.Proofs.Ytnfkdilmoppbpaa
open Go.Ax
set_option maxRecDepth 10000
set_option linter.unusedVariables false

theorem one16_spec (p : Pro) (f : Fun) (k j : Nat) (b : List Ins) (i : Ins) (gb : f.blocks[k]? = some b) (gi : b[j]? = some i) (hp : p.fits) (hf : f.fits) (hi : i.args.length < 100000) (hg : ∀ g ∈ p.funcs, g.regs.length < 1000000) :
    FnSpec Try.prog 80 [proA p, funA f, num k, num j] (fun r => r = num (oneE p f k b j i)) := by
  have gm := List.mem_of_getElem? gb
  have gim := List.mem_of_getElem? gi
  have hkn := (List.getElem?_eq_some_iff.1 gb).1
  have hjn := (List.getElem?_eq_some_iff.1 gi).1
  obtain ⟨hb1, hb2⟩ := hf.2.2 b gm
  have hif := hb2 i gim
  refine spec_of 1000 Try.func80 rfl rfl ?_
  repeat' first | refine Len.map ?_ | refine Len.nil ?_ | refine Len.cons ?_ | refine Br.t rfl ?_ | refine Br.f rfl ?_ | refine Fit.au ?_ | refine Need.au ?_ | refine Pick.map (by assumption) ?_ | refine Pick.mapI (by omega) (by assumption) ?_ | refine PickN.mk _ (by assumption) ?_ | refine PickN.mk _ rfl ?_ | refine PickN.au ?_ | refine App.au rfl ?_ | refine App.au (own_map (fun _ => rfl) _) ?_ | refine Both.mk ?_ ?_ | exact True.intro
  refine Call.of (form_spec b j i gi hb1 hif) ?_
  rintro r ⟨v, rfl, hv⟩
  refine ⟨rfl, ?_⟩
  repeat' first | refine Len.map ?_ | refine Len.nil ?_ | refine Len.cons ?_ | refine Br.t rfl ?_ | refine Br.f rfl ?_ | refine Fit.au ?_ | refine Need.au ?_ | refine Pick.map (by assumption) ?_ | refine Pick.mapI (by omega) (by assumption) ?_ | refine PickN.mk _ (by assumption) ?_ | refine PickN.mk _ rfl ?_ | refine PickN.au ?_ | refine App.au rfl ?_ | refine App.au (own_map (fun _ => rfl) _) ?_ | refine Both.mk ?_ ?_ | exact True.intro
  refine Br.mk (fun h1 => ?_) (fun h1 => ?_)
  · repeat' first | refine Len.map ?_ | refine Len.nil ?_ | refine Len.cons ?_ | refine Br.t rfl ?_ | refine Br.f rfl ?_ | refine Fit.au ?_ | refine Need.au ?_ | refine Pick.map (by assumption) ?_ | refine Pick.mapI (by omega) (by assumption) ?_ | refine PickN.mk _ (by assumption) ?_ | refine PickN.mk _ rfl ?_ | refine PickN.au ?_ | refine App.au rfl ?_ | refine App.au (own_map (fun _ => rfl) _) ?_ | refine Both.mk ?_ ?_ | exact True.intro
    have e : oneE p f k b j i = 5 := if_neg fun h => by have := hv.2 h; simp_all
    rw [e]; rfl
  have hform := hv.1 (by simpa using h1)
  have hr := hform.1
  repeat' first | refine Len.map ?_ | refine Len.nil ?_ | refine Len.cons ?_ | refine Br.t rfl ?_ | refine Br.f rfl ?_ | refine Fit.au ?_ | refine Need.au ?_ | refine Pick.map (by assumption) ?_ | refine Pick.mapI (by omega) (by assumption) ?_ | refine PickN.mk _ (by assumption) ?_ | refine PickN.mk _ rfl ?_ | refine PickN.au ?_ | refine App.au rfl ?_ | refine App.au (own_map (fun _ => rfl) _) ?_ | refine Both.mk ?_ ?_ | exact True.intro
  refine Call.of (there_spec p f k i hp hf (by omega) hr) ?_
  rintro r ⟨v2, rfl, hv2⟩
  refine ⟨rfl, ?_⟩
  repeat' first | refine Len.map ?_ | refine Len.nil ?_ | refine Len.cons ?_ | refine Br.t rfl ?_ | refine Br.f rfl ?_ | refine Fit.au ?_ | refine Need.au ?_ | refine Pick.map (by assumption) ?_ | refine Pick.mapI (by omega) (by assumption) ?_ | refine PickN.mk _ (by assumption) ?_ | refine PickN.mk _ rfl ?_ | refine PickN.au ?_ | refine App.au rfl ?_ | refine App.au (own_map (fun _ => rfl) _) ?_ | refine Both.mk ?_ ?_ | exact True.intro
  refine Br.mk (fun h2 => ?_) (fun h2 => ?_)
  · repeat' first | refine Len.map ?_ | refine Len.nil ?_ | refine Len.cons ?_ | refine Br.t rfl ?_ | refine Br.f rfl ?_ | refine Fit.au ?_ | refine Need.au ?_ | refine Pick.map (by assumption) ?_ | refine Pick.mapI (by omega) (by assumption) ?_ | refine PickN.mk _ (by assumption) ?_ | refine PickN.mk _ rfl ?_ | refine PickN.au ?_ | refine App.au rfl ?_ | refine App.au (own_map (fun _ => rfl) _) ?_ | refine Both.mk ?_ ?_ | exact True.intro
    have e : oneE p f k b j i = 2 := by unfold oneE; rw [if_pos hform, if_neg fun h => by have := hv2.2 h; simp_all]
    rw [e]; rfl
  have hth := hv2.1 (by simpa using h2)
  have hul := usesF_len i
  have hkl := kindsF_len (f := f) hi hg
  have hup := uses_pos hr
  have hub : ∀ u ∈ usesF i, 0 ≤ u ∧ u < f.regs.length := fun u hu => ⟨hup u hu, hth.2.1 u hu⟩
  repeat' first | refine Draw.mk (ordL [2, 6, 7, 12, 23] [0, 1, 3, 4, 5, 2, 6, 7, 8, 9, 10, 11, 12, 13, 14, 15, 16, 17, 18, 19, 20, 21, 22, 23, 24, 25, 26]) (by decide +kernel) ?_ | refine Call.eq (Uses_spec i (by omega)) rfl ?_ | refine Len.map ?_ | refine Len.nil ?_ | refine Len.cons ?_ | refine Br.t rfl ?_ | refine Br.f rfl ?_ | refine Fit.au ?_ | refine Need.au ?_ | refine Pick.map (by assumption) ?_ | refine Pick.mapI (by omega) (by assumption) ?_ | refine PickN.mk _ (by assumption) ?_ | refine PickN.mk _ rfl ?_ | refine PickN.au ?_ | refine App.au rfl ?_ | refine App.au (own_map (fun _ => rfl) _) ?_ | refine Both.mk ?_ ?_ | exact True.intro
  refine Call.of (reads16_spec p f k i hp hf (by omega) hr hth) ?_
  have hall := all_spec f (usesF i) (kindsF p f i) (by omega) hkl hub
  have hw : writesF i.op = true → 0 ≤ i.dst ∧ i.dst < f.regs.length := fun h => by
    have h1 := hth.1
    rw [right_def hr h] at h1
    exact ⟨(right_pos hr).1, h1⟩
  have bad : ¬ typeP p f i → oneE p f k b j i = 11 := fun h => by unfold oneE; rw [if_pos hform, if_pos hth, if_neg h]
  have good : typeP p f i → oneE p f k b j i = 0 := fun h => by unfold oneE; rw [if_pos hform, if_pos hth, if_pos h]
  rintro r (rfl | rfl)
  all_goals
    refine ⟨rfl, ?_⟩
    repeat' first | refine Draw.mk (ordL [2, 6, 7, 12, 23] [0, 1, 3, 4, 5, 2, 6, 7, 8, 9, 10, 11, 12, 13, 14, 15, 16, 17, 18, 19, 20, 21, 22, 23, 24, 25, 26]) (by decide +kernel) ?_ | refine Look.yes ?_ | refine View.map (fun _ => rfl) ?_ | refine CallV.eq hall rfl (Free.lit _) ?_ | refine Len.map ?_ | refine Len.nil ?_ | refine Len.cons ?_ | refine Br.t rfl ?_ | refine Br.f rfl ?_ | refine Fit.au ?_ | refine Need.au ?_ | refine Pick.map (by assumption) ?_ | refine Pick.mapI (by omega) (by assumption) ?_ | refine PickN.mk _ (by assumption) ?_ | refine PickN.mk _ rfl ?_ | refine PickN.au ?_ | refine App.au rfl ?_ | refine App.au (own_map (fun _ => rfl) _) ?_ | refine Both.mk ?_ ?_ | exact True.intro
    refine Br.nd (fun h3 => ?_) (fun h3 => ?_)
    · repeat' first | refine Len.map ?_ | refine Len.nil ?_ | refine Len.cons ?_ | refine Br.t rfl ?_ | refine Br.f rfl ?_ | refine Fit.au ?_ | refine Need.au ?_ | refine Pick.map (by assumption) ?_ | refine Pick.mapI (by omega) (by assumption) ?_ | refine PickN.mk _ (by assumption) ?_ | refine PickN.mk _ rfl ?_ | refine PickN.au ?_ | refine App.au rfl ?_ | refine App.au (own_map (fun _ => rfl) _) ?_ | refine Both.mk ?_ ?_ | exact True.intro
      rw [bad fun h => h3 h.1]; rfl
    · repeat' first | refine Call.eq (Writes_spec _) rfl ?_ | refine Len.map ?_ | refine Len.nil ?_ | refine Len.cons ?_ | refine Br.t rfl ?_ | refine Br.f rfl ?_ | refine Fit.au ?_ | refine Need.au ?_ | refine Pick.map (by assumption) ?_ | refine Pick.mapI (by omega) (by assumption) ?_ | refine PickN.mk _ (by assumption) ?_ | refine PickN.mk _ rfl ?_ | refine PickN.au ?_ | refine App.au rfl ?_ | refine App.au (own_map (fun _ => rfl) _) ?_ | refine Both.mk ?_ ?_ | exact True.intro
      refine Br.mk (fun h4 => ?_) (fun h4 => ?_)
      · obtain ⟨w1, w2⟩ := hw h4
        repeat' first | refine Pick_getD 0 (by omega) (by omega) ?_ | refine Call.eq (writes16_spec p f k i hp hf hr hth) rfl ?_ | refine Len.map ?_ | refine Len.nil ?_ | refine Len.cons ?_ | refine Br.t rfl ?_ | refine Br.f rfl ?_ | refine Fit.au ?_ | refine Need.au ?_ | refine Pick.map (by assumption) ?_ | refine Pick.mapI (by omega) (by assumption) ?_ | refine PickN.mk _ (by assumption) ?_ | refine PickN.mk _ rfl ?_ | refine PickN.au ?_ | refine App.au rfl ?_ | refine App.au (own_map (fun _ => rfl) _) ?_ | refine Both.mk ?_ ?_ | exact True.intro
        refine Br.nd (fun h5 => ?_) (fun h5 => ?_)
        · repeat' first | refine Len.map ?_ | refine Len.nil ?_ | refine Len.cons ?_ | refine Br.t rfl ?_ | refine Br.f rfl ?_ | refine Fit.au ?_ | refine Need.au ?_ | refine Pick.map (by assumption) ?_ | refine Pick.mapI (by omega) (by assumption) ?_ | refine PickN.mk _ (by assumption) ?_ | refine PickN.mk _ rfl ?_ | refine PickN.au ?_ | refine App.au rfl ?_ | refine App.au (own_map (fun _ => rfl) _) ?_ | refine Both.mk ?_ ?_ | exact True.intro
          rw [bad fun h => h5 (h.2 h4)]; rfl
        · repeat' first | refine Len.map ?_ | refine Len.nil ?_ | refine Len.cons ?_ | refine Br.t rfl ?_ | refine Br.f rfl ?_ | refine Fit.au ?_ | refine Need.au ?_ | refine Pick.map (by assumption) ?_ | refine Pick.mapI (by omega) (by assumption) ?_ | refine PickN.mk _ (by assumption) ?_ | refine PickN.mk _ rfl ?_ | refine PickN.au ?_ | refine App.au rfl ?_ | refine App.au (own_map (fun _ => rfl) _) ?_ | refine Both.mk ?_ ?_ | exact True.intro
          rw [good ⟨h3, fun _ => h5⟩]; rfl
      · repeat' first | refine Len.map ?_ | refine Len.nil ?_ | refine Len.cons ?_ | refine Br.t rfl ?_ | refine Br.f rfl ?_ | refine Fit.au ?_ | refine Need.au ?_ | refine Pick.map (by assumption) ?_ | refine Pick.mapI (by omega) (by assumption) ?_ | refine PickN.mk _ (by assumption) ?_ | refine PickN.mk _ rfl ?_ | refine PickN.au ?_ | refine App.au rfl ?_ | refine App.au (own_map (fun _ => rfl) _) ?_ | refine Both.mk ?_ ?_ | exact True.intro
        rw [good ⟨h3, fun h => by rw [h4] at h; cases h⟩]; rfl
end Go.Proofs.Ytnfkdilmoppbpaa

/- The check of programs: a function itself, by a contract. -/
namespace Go.Proofs.Ytnfkdilmoppbpaa
open Go.Ax
set_option maxRecDepth 10000
set_option linter.unusedVariables false

theorem head_spec (f : Fun) (hf : f.fits) (hc : f.count ≤ 100000000000000000) : FnSpec Try.prog 79 [funA f] (fun r => r = num (headE f)) := by
  have hf1 := hf.1
  have hf2 := hf.2.1
  refine spec_of 1000 Try.func79 rfl rfl ?_
  repeat' first | refine Len.map ?_ | refine Len.nil ?_ | refine Len.cons ?_ | refine Br.t rfl ?_ | refine Br.f rfl ?_ | refine Fit.au ?_ | refine Need.au ?_ | refine Pick.map (by assumption) ?_ | refine Pick.mapI (by omega) (by assumption) ?_ | refine PickN.mk _ (by assumption) ?_ | refine PickN.mk _ rfl ?_ | refine PickN.au ?_ | refine App.au rfl ?_ | refine App.au (own_map (fun _ => rfl) _) ?_ | refine Both.mk ?_ ?_ | exact True.intro
  refine Stop.mk (loop_in (fun k : Nat => [(1, .hp 0 0), (3, num (((f.blocks.map List.length).take k).sum : Nat)), (4, num k)]) (fun k => [(0, .var f.cs)]) 1 (fun k => k ≤ f.blocks.length) (fun k => f.blocks.length - k) 0 (by omega) (g := []) ⟨rfl, (by repeat' first | exact trivial | refine ⟨rfl, ?_⟩ | refine ⟨congrArg (fun n => AV.lit (.int .i64 n)) (by omega), ?_⟩ | refine ⟨congrArg (fun l => some (Row.row 1 l)) (by simp [int1, num, tru]), ?_⟩), (by repeat' first | exact trivial | refine ⟨rfl, ?_⟩ | refine ⟨congrArg (fun n => AV.lit (.int .i64 n)) (by omega), ?_⟩ | refine ⟨congrArg (fun l => some (Row.row 1 l)) (by simp [int1, num, tru]), ?_⟩)⟩ (fun k hk ih => ?_))
  refine go 1000 Try.func79 ?_
  repeat' first | refine Len.map ?_ | refine Len.nil ?_ | refine Len.cons ?_ | refine Br.t rfl ?_ | refine Br.f rfl ?_ | refine Fit.au ?_ | refine Need.au ?_ | refine Pick.map (by assumption) ?_ | refine Pick.mapI (by omega) (by assumption) ?_ | refine PickN.mk _ (by assumption) ?_ | refine PickN.mk _ rfl ?_ | refine PickN.au ?_ | refine App.au rfl ?_ | refine App.au (own_map (fun _ => rfl) _) ?_ | refine Both.mk ?_ ?_ | exact True.intro
  refine Br.d (fun h2 => ?_) (fun h2 => ?_)
  · obtain ⟨b, gb, gm⟩ := getK (l := f.blocks) (k := k) (by omega)
    obtain ⟨hb1, hb2⟩ := hf.2.2 b gm
    have e1 := sum_take_succ (l := f.blocks.map List.length) (k := k) (n := b.length) (by simp [gb])
    have e2 := f.count_take (k + 1)
    repeat' first | refine Len.map ?_ | refine Len.nil ?_ | refine Len.cons ?_ | refine Br.t rfl ?_ | refine Br.f rfl ?_ | refine Fit.au ?_ | refine Need.au ?_ | refine Pick.map (by assumption) ?_ | refine Pick.mapI (by omega) (by assumption) ?_ | refine PickN.mk _ (by assumption) ?_ | refine PickN.mk _ rfl ?_ | refine PickN.au ?_ | refine App.au rfl ?_ | refine App.au (own_map (fun _ => rfl) _) ?_ | refine Both.mk ?_ ?_ | exact True.intro
    refine Stop.mk (ih (k + 1) (g := []) _ _ _ (by omega) (by omega) ?_)
    rw [e1, Int.natCast_add]
    exact ⟨rfl, (by repeat' first | exact trivial | refine ⟨rfl, ?_⟩ | refine ⟨congrArg (fun n => AV.lit (.int .i64 n)) (by omega), ?_⟩ | refine ⟨congrArg (fun l => some (Row.row 1 l)) (by simp [int1, num, tru]), ?_⟩), (by repeat' first | exact trivial | refine ⟨rfl, ?_⟩ | refine ⟨congrArg (fun n => AV.lit (.int .i64 n)) (by omega), ?_⟩ | refine ⟨congrArg (fun l => some (Row.row 1 l)) (by simp [int1, num, tru]), ?_⟩)⟩
  have ec : ((f.blocks.map List.length).take k).sum = f.count := by rw [take_all (by simp; omega)]; rfl
  rw [ec]
  clear ih
  have hkr := kinds_spec f.regs hf2
  have hkr2 := kinds_spec [f.ret] (by simp)
  repeat' first | refine Call.eq hkr rfl ?_ | refine Look.yes (View.mk _ rfl ?_) | refine CallV.eq hkr2 rfl (Free.lit _) ?_ | refine Len.map ?_ | refine Len.nil ?_ | refine Len.cons ?_ | refine Br.t rfl ?_ | refine Br.f rfl ?_ | refine Fit.au ?_ | refine Need.au ?_ | refine Pick.map (by assumption) ?_ | refine Pick.mapI (by omega) (by assumption) ?_ | refine PickN.mk _ (by assumption) ?_ | refine PickN.mk _ rfl ?_ | refine PickN.au ?_ | refine App.au rfl ?_ | refine App.au (own_map (fun _ => rfl) _) ?_ | refine Both.mk ?_ ?_ | exact True.intro | refine Br.d (fun h => ?_) (fun h => ?_) | refine Br.nd (fun h => ?_) (fun h => ?_) | refine Br.mk (fun h => ?_) (fun h => ?_)
  all_goals first
    | (have e : headE f = 3 := if_neg fun h => by unfold longP at h; exfalso; omega
       rw [e]; rfl)
    | (have e : headE f = 11 := by
         unfold headE; rw [if_pos (by unfold longP; omega), if_neg fun h => by unfold kindP at h; simp_all; done]
       rw [e]; rfl)
    | (have e : headE f = 5 := by
         unfold headE; rw [if_pos (by unfold longP; omega), if_pos (by unfold kindP; simp_all), if_pos (by omega)]
       rw [e]; rfl)
    | (have e : headE f = 0 := by
         unfold headE; rw [if_pos (by unfold longP; omega), if_pos (by unfold kindP; simp_all), if_neg (by omega)]
       rw [e]; rfl)
end Go.Proofs.Ytnfkdilmoppbpaa

/- The check of programs, by a contract. -/
namespace Go.Proofs.Ytnfkdilmoppbpaa
open Go.Ax
set_option maxRecDepth 10000
set_option linter.unusedVariables false

def z4 : List AV := [num 0, num 0, num 0, num 0]
set_option maxHeartbeats 2000000 in
theorem Check16_spec (p : Pro) (hs : p.slim) : FnSpec Try.prog 44 [proA p] (fun r => r = .agg (checkE p).cs) := by
  have hp := hs.1
  have hp1 := hp.1
  have hp2 := hp.2.1
  have hreg : ∀ g ∈ p.funcs, g.regs.length < 1000000 := fun g hg => (hs.2 g hg).2.1
  have bad : (200 < p.funcs.length ∨ 262144 < p.sites.length) → checkE p = ⟨-1, -1, -1, 3⟩ := fun h => if_pos h
  have bad2 : ¬ (200 < p.funcs.length ∨ 262144 < p.sites.length) → ¬ mainP p → checkE p = ⟨-1, -1, -1, 13⟩ := fun h h2 => by unfold checkE; rw [if_neg h, if_neg h2]
  refine spec_of 1000 Try.func44 rfl rfl ?_
  repeat' first | refine Len.map ?_ | refine Len.nil ?_ | refine Len.cons ?_ | refine Br.t rfl ?_ | refine Br.f rfl ?_ | refine Fit.au ?_ | refine Need.au ?_ | refine Pick.map (by assumption) ?_ | refine Pick.mapI (by omega) (by assumption) ?_ | refine PickN.mk _ (by assumption) ?_ | refine PickN.mk _ rfl ?_ | refine PickN.au ?_ | refine App.au rfl ?_ | refine App.au (own_map (fun _ => rfl) _) ?_ | refine Both.mk ?_ ?_ | exact True.intro
  refine Br.d (fun h1 => ?_) (fun h1 => ?_)
  · repeat' first | refine Len.map ?_ | refine Len.nil ?_ | refine Len.cons ?_ | refine Br.t rfl ?_ | refine Br.f rfl ?_ | refine Fit.au ?_ | refine Need.au ?_ | refine Pick.map (by assumption) ?_ | refine Pick.mapI (by omega) (by assumption) ?_ | refine PickN.mk _ (by assumption) ?_ | refine PickN.mk _ rfl ?_ | refine PickN.au ?_ | refine App.au rfl ?_ | refine App.au (own_map (fun _ => rfl) _) ?_ | refine Both.mk ?_ ?_ | exact True.intro
    rw [bad (by omega)]; rfl
  repeat' first | refine Len.map ?_ | refine Len.nil ?_ | refine Len.cons ?_ | refine Br.t rfl ?_ | refine Br.f rfl ?_ | refine Fit.au ?_ | refine Need.au ?_ | refine Pick.map (by assumption) ?_ | refine Pick.mapI (by omega) (by assumption) ?_ | refine PickN.mk _ (by assumption) ?_ | refine PickN.mk _ rfl ?_ | refine PickN.au ?_ | refine App.au rfl ?_ | refine App.au (own_map (fun _ => rfl) _) ?_ | refine Both.mk ?_ ?_ | exact True.intro
  refine Br.d (fun h2 => ?_) (fun h2 => ?_)
  · repeat' first | refine Len.map ?_ | refine Len.nil ?_ | refine Len.cons ?_ | refine Br.t rfl ?_ | refine Br.f rfl ?_ | refine Fit.au ?_ | refine Need.au ?_ | refine Pick.map (by assumption) ?_ | refine Pick.mapI (by omega) (by assumption) ?_ | refine PickN.mk _ (by assumption) ?_ | refine PickN.mk _ rfl ?_ | refine PickN.au ?_ | refine App.au rfl ?_ | refine App.au (own_map (fun _ => rfl) _) ?_ | refine Both.mk ?_ ?_ | exact True.intro
    rw [bad (by omega)]; rfl
  repeat' first | refine Len.map ?_ | refine Len.nil ?_ | refine Len.cons ?_ | refine Br.t rfl ?_ | refine Br.f rfl ?_ | refine Fit.au ?_ | refine Need.au ?_ | refine Pick.map (by assumption) ?_ | refine Pick.mapI (by omega) (by assumption) ?_ | refine PickN.mk _ (by assumption) ?_ | refine PickN.mk _ rfl ?_ | refine PickN.au ?_ | refine App.au rfl ?_ | refine App.au (own_map (fun _ => rfl) _) ?_ | refine Both.mk ?_ ?_ | exact True.intro
  have hmain : ∀ (h : 0 ≤ p.main ∧ p.main < p.funcs.length), ∃ g, p.funcs[p.main.toNat]? = some g ∧ p.funcs.getD p.main.toNat fun0 = g := fun h => by
    obtain ⟨g, gg, _⟩ := getK (l := p.funcs) (k := p.main.toNat) (by omega)
    exact ⟨g, gg, by rw [List.getD_eq_getElem?_getD, gg]; rfl⟩
  refine Br.d (fun h3 => ?_) (fun h3 => ?_)
  · repeat' first | refine Len.map ?_ | refine Len.nil ?_ | refine Len.cons ?_ | refine Br.t rfl ?_ | refine Br.f rfl ?_ | refine Fit.au ?_ | refine Need.au ?_ | refine Pick.map (by assumption) ?_ | refine Pick.mapI (by omega) (by assumption) ?_ | refine PickN.mk _ (by assumption) ?_ | refine PickN.mk _ rfl ?_ | refine PickN.au ?_ | refine App.au rfl ?_ | refine App.au (own_map (fun _ => rfl) _) ?_ | refine Both.mk ?_ ?_ | exact True.intro
    rw [bad2 (by omega) fun h => by have := h.1; omega]; rfl
  repeat' first | refine Len.map ?_ | refine Len.nil ?_ | refine Len.cons ?_ | refine Br.t rfl ?_ | refine Br.f rfl ?_ | refine Fit.au ?_ | refine Need.au ?_ | refine Pick.map (by assumption) ?_ | refine Pick.mapI (by omega) (by assumption) ?_ | refine PickN.mk _ (by assumption) ?_ | refine PickN.mk _ rfl ?_ | refine PickN.au ?_ | refine App.au rfl ?_ | refine App.au (own_map (fun _ => rfl) _) ?_ | refine Both.mk ?_ ?_ | exact True.intro
  refine Br.d (fun h4 => ?_) (fun h4 => ?_)
  · repeat' first | refine Len.map ?_ | refine Len.nil ?_ | refine Len.cons ?_ | refine Br.t rfl ?_ | refine Br.f rfl ?_ | refine Fit.au ?_ | refine Need.au ?_ | refine Pick.map (by assumption) ?_ | refine Pick.mapI (by omega) (by assumption) ?_ | refine PickN.mk _ (by assumption) ?_ | refine PickN.mk _ rfl ?_ | refine PickN.au ?_ | refine App.au rfl ?_ | refine App.au (own_map (fun _ => rfl) _) ?_ | refine Both.mk ?_ ?_ | exact True.intro
    rw [bad2 (by omega) fun h => by have := h.2.1; omega]; rfl
  obtain ⟨g, gg, eg⟩ := hmain (by omega)
  have em : mainP p ↔ (g.params = 1 ∧ g.regs.length ≠ 0 ∧ g.regs.getD 0 0 = 3 ∧ g.ret = 1) := by
    unfold mainP; rw [eg]
    exact ⟨fun h => h.2.2, fun h => ⟨by omega, by omega, h⟩⟩
  repeat' first | refine Len.map ?_ | refine Len.nil ?_ | refine Len.cons ?_ | refine Br.t rfl ?_ | refine Br.f rfl ?_ | refine Fit.au ?_ | refine Need.au ?_ | refine Pick.map (by assumption) ?_ | refine Pick.mapI (by omega) (by assumption) ?_ | refine PickN.mk _ (by assumption) ?_ | refine PickN.mk _ rfl ?_ | refine PickN.au ?_ | refine App.au rfl ?_ | refine App.au (own_map (fun _ => rfl) _) ?_ | refine Both.mk ?_ ?_ | exact True.intro
  refine Br.nd (fun h5 => ?_) (fun h5 => ?_)
  · repeat' first | refine Len.map ?_ | refine Len.nil ?_ | refine Len.cons ?_ | refine Br.t rfl ?_ | refine Br.f rfl ?_ | refine Fit.au ?_ | refine Need.au ?_ | refine Pick.map (by assumption) ?_ | refine Pick.mapI (by omega) (by assumption) ?_ | refine PickN.mk _ (by assumption) ?_ | refine PickN.mk _ rfl ?_ | refine PickN.au ?_ | refine App.au rfl ?_ | refine App.au (own_map (fun _ => rfl) _) ?_ | refine Both.mk ?_ ?_ | exact True.intro
    rw [bad2 (by omega) fun h => h5 (em.1 h).1]; rfl
  repeat' first | refine Len.map ?_ | refine Len.nil ?_ | refine Len.cons ?_ | refine Br.t rfl ?_ | refine Br.f rfl ?_ | refine Fit.au ?_ | refine Need.au ?_ | refine Pick.map (by assumption) ?_ | refine Pick.mapI (by omega) (by assumption) ?_ | refine PickN.mk _ (by assumption) ?_ | refine PickN.mk _ rfl ?_ | refine PickN.au ?_ | refine App.au rfl ?_ | refine App.au (own_map (fun _ => rfl) _) ?_ | refine Both.mk ?_ ?_ | exact True.intro
  refine Br.d (fun h6 => ?_) (fun h6 => ?_)
  · repeat' first | refine Len.map ?_ | refine Len.nil ?_ | refine Len.cons ?_ | refine Br.t rfl ?_ | refine Br.f rfl ?_ | refine Fit.au ?_ | refine Need.au ?_ | refine Pick.map (by assumption) ?_ | refine Pick.mapI (by omega) (by assumption) ?_ | refine PickN.mk _ (by assumption) ?_ | refine PickN.mk _ rfl ?_ | refine PickN.au ?_ | refine App.au rfl ?_ | refine App.au (own_map (fun _ => rfl) _) ?_ | refine Both.mk ?_ ?_ | exact True.intro
    rw [bad2 (by omega) fun h => (em.1 h).2.1 (by omega)]; rfl
  obtain ⟨x, gx, _⟩ := getK (l := g.regs) (k := 0) (by omega)
  have ex : g.regs.getD 0 0 = x := by rw [List.getD_eq_getElem?_getD, gx]; rfl
  repeat' first | refine Pick.map (n := 0) gx ?_ | refine Len.map ?_ | refine Len.nil ?_ | refine Len.cons ?_ | refine Br.t rfl ?_ | refine Br.f rfl ?_ | refine Fit.au ?_ | refine Need.au ?_ | refine Pick.map (by assumption) ?_ | refine Pick.mapI (by omega) (by assumption) ?_ | refine PickN.mk _ (by assumption) ?_ | refine PickN.mk _ rfl ?_ | refine PickN.au ?_ | refine App.au rfl ?_ | refine App.au (own_map (fun _ => rfl) _) ?_ | refine Both.mk ?_ ?_ | exact True.intro
  refine Br.nd (fun h7 => ?_) (fun h7 => ?_)
  · repeat' first | refine Len.map ?_ | refine Len.nil ?_ | refine Len.cons ?_ | refine Br.t rfl ?_ | refine Br.f rfl ?_ | refine Fit.au ?_ | refine Need.au ?_ | refine Pick.map (by assumption) ?_ | refine Pick.mapI (by omega) (by assumption) ?_ | refine PickN.mk _ (by assumption) ?_ | refine PickN.mk _ rfl ?_ | refine PickN.au ?_ | refine App.au rfl ?_ | refine App.au (own_map (fun _ => rfl) _) ?_ | refine Both.mk ?_ ?_ | exact True.intro
    rw [bad2 (by omega) fun h => h7 (by rw [← ex]; exact (em.1 h).2.2.1)]; rfl
  repeat' first | refine Len.map ?_ | refine Len.nil ?_ | refine Len.cons ?_ | refine Br.t rfl ?_ | refine Br.f rfl ?_ | refine Fit.au ?_ | refine Need.au ?_ | refine Pick.map (by assumption) ?_ | refine Pick.mapI (by omega) (by assumption) ?_ | refine PickN.mk _ (by assumption) ?_ | refine PickN.mk _ rfl ?_ | refine PickN.au ?_ | refine App.au rfl ?_ | refine App.au (own_map (fun _ => rfl) _) ?_ | refine Both.mk ?_ ?_ | exact True.intro
  refine Br.nd (fun h8 => ?_) (fun h8 => ?_)
  · repeat' first | refine Len.map ?_ | refine Len.nil ?_ | refine Len.cons ?_ | refine Br.t rfl ?_ | refine Br.f rfl ?_ | refine Fit.au ?_ | refine Need.au ?_ | refine Pick.map (by assumption) ?_ | refine Pick.mapI (by omega) (by assumption) ?_ | refine PickN.mk _ (by assumption) ?_ | refine PickN.mk _ rfl ?_ | refine PickN.au ?_ | refine App.au rfl ?_ | refine App.au (own_map (fun _ => rfl) _) ?_ | refine Both.mk ?_ ?_ | exact True.intro
    rw [bad2 (by omega) fun h => h8 (em.1 h).2.2.2]; rfl
  have hm : mainP p := em.2 ⟨h5, by omega, by rw [ex]; exact h7, h8⟩
  have hit := fun n w => checkE_hit (p := p) (n := n) (w := w) (by omega) (by omega) hm
  clear bad bad2 hmain em
  repeat' first | refine Len.map ?_ | refine Len.nil ?_ | refine Len.cons ?_ | refine Br.t rfl ?_ | refine Br.f rfl ?_ | refine Fit.au ?_ | refine Need.au ?_ | refine Pick.map (by assumption) ?_ | refine Pick.mapI (by omega) (by assumption) ?_ | refine PickN.mk _ (by assumption) ?_ | refine PickN.mk _ rfl ?_ | refine PickN.au ?_ | refine App.au rfl ?_ | refine App.au (own_map (fun _ => rfl) _) ?_ | refine Both.mk ?_ ?_ | exact True.intro
  refine Stop.mk (loop_in (fun n : Nat => [(1, .hp 0 0), (2, .hp 1 0), (3, num n)]) (fun _ => [(0, .var p.cs), (1, .var z4)]) 2 (fun n => n ≤ p.funcs.length ∧ firstN (funE p) n = none) (fun n => p.funcs.length - n) 0 ⟨by omega, rfl⟩ (g := []) ⟨rfl, (by repeat' first | exact trivial | refine ⟨rfl, ?_⟩ | refine ⟨congrArg (fun n => AV.lit (.int .i64 n)) (by omega), ?_⟩ | refine ⟨congrArg (fun l => some (Row.row 1 l)) (by simp [int1, num, tru]), ?_⟩), (by repeat' first | exact trivial | refine ⟨rfl, ?_⟩ | refine ⟨congrArg (fun n => AV.lit (.int .i64 n)) (by omega), ?_⟩ | refine ⟨congrArg (fun l => some (Row.row 1 l)) (by simp [int1, num, tru]), ?_⟩)⟩ (fun n hn ih => ?_))
  obtain ⟨hn, hw⟩ := hn
  refine go 1000 Try.func44 ?_
  repeat' first | refine Len.map ?_ | refine Len.nil ?_ | refine Len.cons ?_ | refine Br.t rfl ?_ | refine Br.f rfl ?_ | refine Fit.au ?_ | refine Need.au ?_ | refine Pick.map (by assumption) ?_ | refine Pick.mapI (by omega) (by assumption) ?_ | refine PickN.mk _ (by assumption) ?_ | refine PickN.mk _ rfl ?_ | refine PickN.au ?_ | refine App.au rfl ?_ | refine App.au (own_map (fun _ => rfl) _) ?_ | refine Both.mk ?_ ?_ | exact True.intro
  refine Br.d (fun g1 => ?_) (fun g1 => ?_)
  · obtain ⟨f, gf, gm⟩ := getK (l := p.funcs) (k := n) (by omega)
    have hf := hp.2.2 f gm
    obtain ⟨s1, s2, s3⟩ := hs.2 f gm
    have hf1 := hf.1
    have hit := fun w => hit n w hw (by omega)
    repeat' first | refine Call.eq (head_spec f hf s1) rfl ?_ | refine Len.map ?_ | refine Len.nil ?_ | refine Len.cons ?_ | refine Br.t rfl ?_ | refine Br.f rfl ?_ | refine Fit.au ?_ | refine Need.au ?_ | refine Pick.map (by assumption) ?_ | refine Pick.mapI (by omega) (by assumption) ?_ | refine PickN.mk _ (by assumption) ?_ | refine PickN.mk _ rfl ?_ | refine PickN.au ?_ | refine App.au rfl ?_ | refine App.au (own_map (fun _ => rfl) _) ?_ | refine Both.mk ?_ ?_ | exact True.intro
    refine Br.nd (fun g2 => ?_) (fun g2 => ?_)
    · repeat' first | refine Len.map ?_ | refine Len.nil ?_ | refine Len.cons ?_ | refine Br.t rfl ?_ | refine Br.f rfl ?_ | refine Fit.au ?_ | refine Need.au ?_ | refine Pick.map (by assumption) ?_ | refine Pick.mapI (by omega) (by assumption) ?_ | refine PickN.mk _ (by assumption) ?_ | refine PickN.mk _ rfl ?_ | refine PickN.au ?_ | refine App.au rfl ?_ | refine App.au (own_map (fun _ => rfl) _) ?_ | refine Both.mk ?_ ?_ | exact True.intro
      rw [hit _ (funE_head gf g2)]; rfl
    rw [funE_first gf g2] at hit
    repeat' first | refine Len.map ?_ | refine Len.nil ?_ | refine Len.cons ?_ | refine Br.t rfl ?_ | refine Br.f rfl ?_ | refine Fit.au ?_ | refine Need.au ?_ | refine Pick.map (by assumption) ?_ | refine Pick.mapI (by omega) (by assumption) ?_ | refine PickN.mk _ (by assumption) ?_ | refine PickN.mk _ rfl ?_ | refine PickN.au ?_ | refine App.au rfl ?_ | refine App.au (own_map (fun _ => rfl) _) ?_ | refine Both.mk ?_ ?_ | exact True.intro
    refine Stop.mk (loop_in (fun k : Nat => [(1, .hp 0 0), (2, .hp 1 0), (3, num n), (4, .hp 2 0), (6, num k)]) (fun _ => [(0, .var p.cs), (1, .var z4), (2, .var f.cs)]) 3 (fun k => k ≤ f.blocks.length ∧ firstN (blkE p f n) k = none) (fun k => f.blocks.length - k) 0 ⟨by omega, rfl⟩ (g := []) ⟨rfl, (by repeat' first | exact trivial | refine ⟨rfl, ?_⟩ | refine ⟨congrArg (fun n => AV.lit (.int .i64 n)) (by omega), ?_⟩ | refine ⟨congrArg (fun l => some (Row.row 1 l)) (by simp [int1, num, tru]), ?_⟩), (by repeat' first | exact trivial | refine ⟨rfl, ?_⟩ | refine ⟨congrArg (fun n => AV.lit (.int .i64 n)) (by omega), ?_⟩ | refine ⟨congrArg (fun l => some (Row.row 1 l)) (by simp [int1, num, tru]), ?_⟩)⟩ (fun k hk ih2 => ?_))
    obtain ⟨hk, hw2⟩ := hk
    refine go 1000 Try.func44 ?_
    repeat' first | refine Len.map ?_ | refine Len.nil ?_ | refine Len.cons ?_ | refine Br.t rfl ?_ | refine Br.f rfl ?_ | refine Fit.au ?_ | refine Need.au ?_ | refine Pick.map (by assumption) ?_ | refine Pick.mapI (by omega) (by assumption) ?_ | refine PickN.mk _ (by assumption) ?_ | refine PickN.mk _ rfl ?_ | refine PickN.au ?_ | refine App.au rfl ?_ | refine App.au (own_map (fun _ => rfl) _) ?_ | refine Both.mk ?_ ?_ | exact True.intro
    refine Br.d (fun g3 => ?_) (fun g3 => ?_)
    · obtain ⟨b, gb, gbm⟩ := getK (l := f.blocks) (k := k) (by omega)
      obtain ⟨hb1, hb2⟩ := hf.2.2 b gbm
      repeat' first | refine Len.map ?_ | refine Len.nil ?_ | refine Len.cons ?_ | refine Br.t rfl ?_ | refine Br.f rfl ?_ | refine Fit.au ?_ | refine Need.au ?_ | refine Pick.map (by assumption) ?_ | refine Pick.mapI (by omega) (by assumption) ?_ | refine PickN.mk _ (by assumption) ?_ | refine PickN.mk _ rfl ?_ | refine PickN.au ?_ | refine App.au rfl ?_ | refine App.au (own_map (fun _ => rfl) _) ?_ | refine Both.mk ?_ ?_ | exact True.intro
      refine Br.d (fun g4 => ?_) (fun g4 => ?_)
      · repeat' first | refine Len.map ?_ | refine Len.nil ?_ | refine Len.cons ?_ | refine Br.t rfl ?_ | refine Br.f rfl ?_ | refine Fit.au ?_ | refine Need.au ?_ | refine Pick.map (by assumption) ?_ | refine Pick.mapI (by omega) (by assumption) ?_ | refine PickN.mk _ (by assumption) ?_ | refine PickN.mk _ rfl ?_ | refine PickN.au ?_ | refine App.au rfl ?_ | refine App.au (own_map (fun _ => rfl) _) ?_ | refine Both.mk ?_ ?_ | exact True.intro
        rw [hit _ (firstN_hit hw2 (blkE_empty gb (by omega)) (by omega))]; rfl
      have hbe : blkE p f n k = firstN (insW p f n k b) b.length := blkE_first gb (by omega)
      repeat' first | refine Len.map ?_ | refine Len.nil ?_ | refine Len.cons ?_ | refine Br.t rfl ?_ | refine Br.f rfl ?_ | refine Fit.au ?_ | refine Need.au ?_ | refine Pick.map (by assumption) ?_ | refine Pick.mapI (by omega) (by assumption) ?_ | refine PickN.mk _ (by assumption) ?_ | refine PickN.mk _ rfl ?_ | refine PickN.au ?_ | refine App.au rfl ?_ | refine App.au (own_map (fun _ => rfl) _) ?_ | refine Both.mk ?_ ?_ | exact True.intro
      refine Stop.mk (loop_in (fun j : Nat => [(1, .hp 0 0), (2, .hp 1 0), (3, num n), (4, .hp 2 0), (6, num k), (7, num j)]) (fun _ => [(0, .var p.cs), (1, .var z4), (2, .var f.cs)]) 3 (fun j => j ≤ b.length ∧ firstN (insW p f n k b) j = none) (fun j => b.length - j) 0 ⟨by omega, rfl⟩ (g := []) ⟨rfl, (by repeat' first | exact trivial | refine ⟨rfl, ?_⟩ | refine ⟨congrArg (fun n => AV.lit (.int .i64 n)) (by omega), ?_⟩ | refine ⟨congrArg (fun l => some (Row.row 1 l)) (by simp [int1, num, tru]), ?_⟩), (by repeat' first | exact trivial | refine ⟨rfl, ?_⟩ | refine ⟨congrArg (fun n => AV.lit (.int .i64 n)) (by omega), ?_⟩ | refine ⟨congrArg (fun l => some (Row.row 1 l)) (by simp [int1, num, tru]), ?_⟩)⟩ (fun j hj ih3 => ?_))
      obtain ⟨hj, hw3⟩ := hj
      refine go 1000 Try.func44 ?_
      repeat' first | refine Len.map ?_ | refine Len.nil ?_ | refine Len.cons ?_ | refine Br.t rfl ?_ | refine Br.f rfl ?_ | refine Fit.au ?_ | refine Need.au ?_ | refine Pick.map (by assumption) ?_ | refine Pick.mapI (by omega) (by assumption) ?_ | refine PickN.mk _ (by assumption) ?_ | refine PickN.mk _ rfl ?_ | refine PickN.au ?_ | refine App.au rfl ?_ | refine App.au (own_map (fun _ => rfl) _) ?_ | refine Both.mk ?_ ?_ | exact True.intro
      refine Br.d (fun g5 => ?_) (fun g5 => ?_)
      · obtain ⟨i, gi, gim⟩ := getK (l := b) (k := j) (by omega)
        repeat' first | refine Call.eq (one16_spec p f k j b i gb gi hp hf (s3 b gbm i gim) hreg) rfl ?_ | refine Len.map ?_ | refine Len.nil ?_ | refine Len.cons ?_ | refine Br.t rfl ?_ | refine Br.f rfl ?_ | refine Fit.au ?_ | refine Need.au ?_ | refine Pick.map (by assumption) ?_ | refine Pick.mapI (by omega) (by assumption) ?_ | refine PickN.mk _ (by assumption) ?_ | refine PickN.mk _ rfl ?_ | refine PickN.au ?_ | refine App.au rfl ?_ | refine App.au (own_map (fun _ => rfl) _) ?_ | refine Both.mk ?_ ?_ | exact True.intro
        refine Br.nd (fun g6 => ?_) (fun g6 => ?_)
        · repeat' first | refine Len.map ?_ | refine Len.nil ?_ | refine Len.cons ?_ | refine Br.t rfl ?_ | refine Br.f rfl ?_ | refine Fit.au ?_ | refine Need.au ?_ | refine Pick.map (by assumption) ?_ | refine Pick.mapI (by omega) (by assumption) ?_ | refine PickN.mk _ (by assumption) ?_ | refine PickN.mk _ rfl ?_ | refine PickN.au ?_ | refine App.au rfl ?_ | refine App.au (own_map (fun _ => rfl) _) ?_ | refine Both.mk ?_ ?_ | exact True.intro
          rw [hit _ (firstN_hit hw2 (by rw [hbe]; exact firstN_hit hw3 (insW_some gi g6) (by omega)) (by omega))]; rfl
        · repeat' first | refine Len.map ?_ | refine Len.nil ?_ | refine Len.cons ?_ | refine Br.t rfl ?_ | refine Br.f rfl ?_ | refine Fit.au ?_ | refine Need.au ?_ | refine Pick.map (by assumption) ?_ | refine Pick.mapI (by omega) (by assumption) ?_ | refine PickN.mk _ (by assumption) ?_ | refine PickN.mk _ rfl ?_ | refine PickN.au ?_ | refine App.au rfl ?_ | refine App.au (own_map (fun _ => rfl) _) ?_ | refine Both.mk ?_ ?_ | exact True.intro
          exact Stop.mk (ih3 (j + 1) (g := []) _ _ _ ⟨by omega, firstN_next hw3 (insW_none gi g6)⟩ (by omega) ⟨rfl, (by repeat' first | exact trivial | refine ⟨rfl, ?_⟩ | refine ⟨congrArg (fun n => AV.lit (.int .i64 n)) (by omega), ?_⟩ | refine ⟨congrArg (fun l => some (Row.row 1 l)) (by simp [int1, num, tru]), ?_⟩), (by repeat' first | exact trivial | refine ⟨rfl, ?_⟩ | refine ⟨congrArg (fun n => AV.lit (.int .i64 n)) (by omega), ?_⟩ | refine ⟨congrArg (fun l => some (Row.row 1 l)) (by simp [int1, num, tru]), ?_⟩)⟩)
      · repeat' first | refine Len.map ?_ | refine Len.nil ?_ | refine Len.cons ?_ | refine Br.t rfl ?_ | refine Br.f rfl ?_ | refine Fit.au ?_ | refine Need.au ?_ | refine Pick.map (by assumption) ?_ | refine Pick.mapI (by omega) (by assumption) ?_ | refine PickN.mk _ (by assumption) ?_ | refine PickN.mk _ rfl ?_ | refine PickN.au ?_ | refine App.au rfl ?_ | refine App.au (own_map (fun _ => rfl) _) ?_ | refine Both.mk ?_ ?_ | exact True.intro
        have ej : j = b.length := by omega
        subst ej
        exact Stop.mk (ih2 (k + 1) (g := []) _ _ _ ⟨by omega, firstN_next hw2 (by rw [hbe]; exact hw3)⟩ (by omega) ⟨rfl, (by repeat' first | exact trivial | refine ⟨rfl, ?_⟩ | refine ⟨congrArg (fun n => AV.lit (.int .i64 n)) (by omega), ?_⟩ | refine ⟨congrArg (fun l => some (Row.row 1 l)) (by simp [int1, num, tru]), ?_⟩), (by repeat' first | exact trivial | refine ⟨rfl, ?_⟩ | refine ⟨congrArg (fun n => AV.lit (.int .i64 n)) (by omega), ?_⟩ | refine ⟨congrArg (fun l => some (Row.row 1 l)) (by simp [int1, num, tru]), ?_⟩)⟩)
    · repeat' first | refine Len.map ?_ | refine Len.nil ?_ | refine Len.cons ?_ | refine Br.t rfl ?_ | refine Br.f rfl ?_ | refine Fit.au ?_ | refine Need.au ?_ | refine Pick.map (by assumption) ?_ | refine Pick.mapI (by omega) (by assumption) ?_ | refine PickN.mk _ (by assumption) ?_ | refine PickN.mk _ rfl ?_ | refine PickN.au ?_ | refine App.au rfl ?_ | refine App.au (own_map (fun _ => rfl) _) ?_ | refine Both.mk ?_ ?_ | exact True.intro
      have ek : k = f.blocks.length := by omega
      subst ek
      exact Stop.mk (ih (n + 1) (g := []) _ _ _ ⟨by omega, firstN_next hw (by rw [funE_first gf g2]; exact hw2)⟩ (by omega) ⟨rfl, (by repeat' first | exact trivial | refine ⟨rfl, ?_⟩ | refine ⟨congrArg (fun n => AV.lit (.int .i64 n)) (by omega), ?_⟩ | refine ⟨congrArg (fun l => some (Row.row 1 l)) (by simp [int1, num, tru]), ?_⟩), (by repeat' first | exact trivial | refine ⟨rfl, ?_⟩ | refine ⟨congrArg (fun n => AV.lit (.int .i64 n)) (by omega), ?_⟩ | refine ⟨congrArg (fun l => some (Row.row 1 l)) (by simp [int1, num, tru]), ?_⟩)⟩)
  · repeat' first | refine Len.map ?_ | refine Len.nil ?_ | refine Len.cons ?_ | refine Br.t rfl ?_ | refine Br.f rfl ?_ | refine Fit.au ?_ | refine Need.au ?_ | refine Pick.map (by assumption) ?_ | refine Pick.mapI (by omega) (by assumption) ?_ | refine PickN.mk _ (by assumption) ?_ | refine PickN.mk _ rfl ?_ | refine PickN.au ?_ | refine App.au rfl ?_ | refine App.au (own_map (fun _ => rfl) _) ?_ | refine Both.mk ?_ ?_ | exact True.intro
    have en : n = p.funcs.length := by omega
    subst en
    have e : checkE p = Wrong.no := by unfold checkE; rw [if_neg (by omega), if_pos hm, hw]; rfl
    rw [e]; rfl
end Go.Proofs.Ytnfkdilmoppbpaa

/- Whether a program may be run as it is, by a contract. -/
namespace Go.Proofs.Ytnfkdilmoppbpaa
open Go.Ax
set_option maxRecDepth 10000
set_option linter.unusedVariables false

def lowB (b : List Ins) : Prop := ∀ i ∈ b, i.op < 44
theorem lowB_take {b : List Ins} {k : Nat} {i : Ins} (gi : b[k]? = some i) (h : lowB (b.take k)) (hi : i.op < 44) : lowB (b.take (k + 1)) := by
  rw [take_succ gi]
  intro x hx
  rcases List.mem_append.1 hx with hx | hx
  · exact h x hx
  · rw [List.mem_singleton.1 hx]; exact hi
theorem all_take {α : Type} {P : α → Prop} {l : List α} {k : Nat} {x : α} (g : l[k]? = some x) (h : ∀ y ∈ l.take k, P y) (hx : P x) : ∀ y ∈ l.take (k + 1), P y := by
  rw [take_succ g]
  intro y hy
  rcases List.mem_append.1 hy with hy | hy
  · exact h y hy
  · rw [List.mem_singleton.1 hy]; exact hx

theorem Plain_spec (p : Pro) (hs : p.slim) (ho : p.okT) : FnSpec Try.prog 110 [proA p] (fun r => ∃ v, r = tru v ∧ (v = true → proP p ∧ ∀ f ∈ p.funcs, ∀ b ∈ f.blocks, ∀ i ∈ b, i.op < 44)) := by
  have ho1 := ho.1
  refine spec_of 1000 Try.func110 rfl rfl ?_
  repeat' first | refine Call.eq (Check16_spec p hs) rfl ?_ | refine Len.map ?_ | refine Len.nil ?_ | refine Len.cons ?_ | refine Br.t rfl ?_ | refine Br.f rfl ?_ | refine Fit.au ?_ | refine Need.au ?_ | refine Pick.map (by assumption) ?_ | refine Pick.mapI (by omega) (by assumption) ?_ | refine PickN.mk _ (by assumption) ?_ | refine PickN.mk _ rfl ?_ | refine PickN.au ?_ | refine App.au rfl ?_ | refine App.au (own_map (fun _ => rfl) _) ?_ | refine Both.mk ?_ ?_ | exact True.intro
  refine Br.nd (fun h => ?_) (fun h => ?_)
  · repeat' first | refine Len.map ?_ | refine Len.nil ?_ | refine Len.cons ?_ | refine Br.t rfl ?_ | refine Br.f rfl ?_ | refine Fit.au ?_ | refine Need.au ?_ | refine Pick.map (by assumption) ?_ | refine Pick.mapI (by omega) (by assumption) ?_ | refine PickN.mk _ (by assumption) ?_ | refine PickN.mk _ rfl ?_ | refine PickN.au ?_ | refine App.au rfl ?_ | refine App.au (own_map (fun _ => rfl) _) ?_ | refine Both.mk ?_ ?_ | exact True.intro
    exact ⟨false, rfl, fun h => by cases h⟩
  have hpro : proP p := checkE_zero.1 h
  repeat' first | refine Len.map ?_ | refine Len.nil ?_ | refine Len.cons ?_ | refine Br.t rfl ?_ | refine Br.f rfl ?_ | refine Fit.au ?_ | refine Need.au ?_ | refine Pick.map (by assumption) ?_ | refine Pick.mapI (by omega) (by assumption) ?_ | refine PickN.mk _ (by assumption) ?_ | refine PickN.mk _ rfl ?_ | refine PickN.au ?_ | refine App.au rfl ?_ | refine App.au (own_map (fun _ => rfl) _) ?_ | refine Both.mk ?_ ?_ | exact True.intro
  refine Stop.mk (loop_in (g := []) (fun k : Nat => [(1, .hp 0 0), (3, num k)]) (fun k => [(0, .var p.cs)]) 1 (fun k => k ≤ p.funcs.length ∧ ∀ f ∈ p.funcs.take k, ∀ b ∈ f.blocks, ∀ i ∈ b, i.op < 44) (fun k => p.funcs.length - k) 0 ⟨by omega, by simp⟩ ⟨rfl, (by repeat' first | exact trivial | refine ⟨rfl, ?_⟩ | refine ⟨congrArg (fun n => AV.lit (.int .i64 n)) (by omega), ?_⟩ | refine ⟨congrArg (fun l => some (Row.row 1 l)) (by simp [int1, num, tru]), ?_⟩), (by repeat' first | exact trivial | refine ⟨rfl, ?_⟩ | refine ⟨congrArg (fun n => AV.lit (.int .i64 n)) (by omega), ?_⟩ | refine ⟨congrArg (fun l => some (Row.row 1 l)) (by simp [int1, num, tru]), ?_⟩)⟩ (fun k hk ih => ?_))
  obtain ⟨hk, hall⟩ := hk
  refine go 1000 Try.func110 ?_
  repeat' first | refine Len.map ?_ | refine Len.nil ?_ | refine Len.cons ?_ | refine Br.t rfl ?_ | refine Br.f rfl ?_ | refine Fit.au ?_ | refine Need.au ?_ | refine Pick.map (by assumption) ?_ | refine Pick.mapI (by omega) (by assumption) ?_ | refine PickN.mk _ (by assumption) ?_ | refine PickN.mk _ rfl ?_ | refine PickN.au ?_ | refine App.au rfl ?_ | refine App.au (own_map (fun _ => rfl) _) ?_ | refine Both.mk ?_ ?_ | exact True.intro
  refine Br.d (fun h2 => ?_) (fun h2 => ?_)
  · obtain ⟨f, gf, gm⟩ := getK (l := p.funcs) (k := k) (by omega)
    obtain ⟨hf, hbl, hrl, hbb⟩ := ho.2.2 f gm
    repeat' first | refine Len.map ?_ | refine Len.nil ?_ | refine Len.cons ?_ | refine Br.t rfl ?_ | refine Br.f rfl ?_ | refine Fit.au ?_ | refine Need.au ?_ | refine Pick.map (by assumption) ?_ | refine Pick.mapI (by omega) (by assumption) ?_ | refine PickN.mk _ (by assumption) ?_ | refine PickN.mk _ rfl ?_ | refine PickN.au ?_ | refine App.au rfl ?_ | refine App.au (own_map (fun _ => rfl) _) ?_ | refine Both.mk ?_ ?_ | exact True.intro
    refine Stop.mk (loop_in (g := []) (fun j : Nat => [(1, .hp 0 0), (3, num k), (4, num j)]) (fun j => [(0, .var p.cs)]) 1 (fun j => j ≤ f.blocks.length ∧ ∀ b ∈ f.blocks.take j, ∀ i ∈ b, i.op < 44) (fun j => f.blocks.length - j) 0 ⟨by omega, by simp⟩ ⟨rfl, (by repeat' first | exact trivial | refine ⟨rfl, ?_⟩ | refine ⟨congrArg (fun n => AV.lit (.int .i64 n)) (by omega), ?_⟩ | refine ⟨congrArg (fun l => some (Row.row 1 l)) (by simp [int1, num, tru]), ?_⟩), (by repeat' first | exact trivial | refine ⟨rfl, ?_⟩ | refine ⟨congrArg (fun n => AV.lit (.int .i64 n)) (by omega), ?_⟩ | refine ⟨congrArg (fun l => some (Row.row 1 l)) (by simp [int1, num, tru]), ?_⟩)⟩ (fun j hj ih2 => ?_))
    obtain ⟨hj, hallb⟩ := hj
    refine go 1000 Try.func110 ?_
    repeat' first | refine Pick.map gf ?_ | refine Len.map ?_ | refine Len.nil ?_ | refine Len.cons ?_ | refine Br.t rfl ?_ | refine Br.f rfl ?_ | refine Fit.au ?_ | refine Need.au ?_ | refine Pick.map (by assumption) ?_ | refine Pick.mapI (by omega) (by assumption) ?_ | refine PickN.mk _ (by assumption) ?_ | refine PickN.mk _ rfl ?_ | refine PickN.au ?_ | refine App.au rfl ?_ | refine App.au (own_map (fun _ => rfl) _) ?_ | refine Both.mk ?_ ?_ | exact True.intro
    refine Br.d (fun h3 => ?_) (fun h3 => ?_)
    · obtain ⟨b, gb, gbm⟩ := getK (l := f.blocks) (k := j) (by omega)
      have hbl2 := (hbb b gbm).1
      repeat' first | refine Pick.map gf ?_ | refine Pick.map gb ?_ | refine Len.map ?_ | refine Len.nil ?_ | refine Len.cons ?_ | refine Br.t rfl ?_ | refine Br.f rfl ?_ | refine Fit.au ?_ | refine Need.au ?_ | refine Pick.map (by assumption) ?_ | refine Pick.mapI (by omega) (by assumption) ?_ | refine PickN.mk _ (by assumption) ?_ | refine PickN.mk _ rfl ?_ | refine PickN.au ?_ | refine App.au rfl ?_ | refine App.au (own_map (fun _ => rfl) _) ?_ | refine Both.mk ?_ ?_ | exact True.intro
      refine Stop.mk (loop_in (g := []) (fun e : Nat => [(1, .hp 0 0), (3, num k), (4, num j), (5, .sl false 9 (b.map Ins.cs)), (6, num e)]) (fun e => [(0, .var p.cs)]) 1 (fun e => e ≤ b.length ∧ ∀ i ∈ b.take e, i.op < 44) (fun e => b.length - e) 0 ⟨by omega, by simp⟩ ⟨rfl, (by repeat' first | exact trivial | refine ⟨rfl, ?_⟩ | refine ⟨congrArg (fun n => AV.lit (.int .i64 n)) (by omega), ?_⟩ | refine ⟨congrArg (fun l => some (Row.row 1 l)) (by simp [int1, num, tru]), ?_⟩), (by repeat' first | exact trivial | refine ⟨rfl, ?_⟩ | refine ⟨congrArg (fun n => AV.lit (.int .i64 n)) (by omega), ?_⟩ | refine ⟨congrArg (fun l => some (Row.row 1 l)) (by simp [int1, num, tru]), ?_⟩)⟩ (fun e he ih3 => ?_))
      obtain ⟨he, halli⟩ := he
      refine go 1000 Try.func110 ?_
      repeat' first | refine Len.map ?_ | refine Len.nil ?_ | refine Len.cons ?_ | refine Br.t rfl ?_ | refine Br.f rfl ?_ | refine Fit.au ?_ | refine Need.au ?_ | refine Pick.map (by assumption) ?_ | refine Pick.mapI (by omega) (by assumption) ?_ | refine PickN.mk _ (by assumption) ?_ | refine PickN.mk _ rfl ?_ | refine PickN.au ?_ | refine App.au rfl ?_ | refine App.au (own_map (fun _ => rfl) _) ?_ | refine Both.mk ?_ ?_ | exact True.intro
      refine Br.d (fun h4 => ?_) (fun h4 => ?_)
      · obtain ⟨i, gi, gim⟩ := getK (l := b) (k := e) (by omega)
        repeat' first | refine Pick.map gi ?_ | refine Len.map ?_ | refine Len.nil ?_ | refine Len.cons ?_ | refine Br.t rfl ?_ | refine Br.f rfl ?_ | refine Fit.au ?_ | refine Need.au ?_ | refine Pick.map (by assumption) ?_ | refine Pick.mapI (by omega) (by assumption) ?_ | refine PickN.mk _ (by assumption) ?_ | refine PickN.mk _ rfl ?_ | refine PickN.au ?_ | refine App.au rfl ?_ | refine App.au (own_map (fun _ => rfl) _) ?_ | refine Both.mk ?_ ?_ | exact True.intro
        refine Br.d (fun h5 => ?_) (fun h5 => ?_)
        · repeat' first | refine Len.map ?_ | refine Len.nil ?_ | refine Len.cons ?_ | refine Br.t rfl ?_ | refine Br.f rfl ?_ | refine Fit.au ?_ | refine Need.au ?_ | refine Pick.map (by assumption) ?_ | refine Pick.mapI (by omega) (by assumption) ?_ | refine PickN.mk _ (by assumption) ?_ | refine PickN.mk _ rfl ?_ | refine PickN.au ?_ | refine App.au rfl ?_ | refine App.au (own_map (fun _ => rfl) _) ?_ | refine Both.mk ?_ ?_ | exact True.intro
          exact ⟨false, rfl, fun h => by cases h⟩
        · repeat' first | refine Len.map ?_ | refine Len.nil ?_ | refine Len.cons ?_ | refine Br.t rfl ?_ | refine Br.f rfl ?_ | refine Fit.au ?_ | refine Need.au ?_ | refine Pick.map (by assumption) ?_ | refine Pick.mapI (by omega) (by assumption) ?_ | refine PickN.mk _ (by assumption) ?_ | refine PickN.mk _ rfl ?_ | refine PickN.au ?_ | refine App.au rfl ?_ | refine App.au (own_map (fun _ => rfl) _) ?_ | refine Both.mk ?_ ?_ | exact True.intro
          exact Stop.mk (ih3 (e + 1) (g := []) _ _ _ ⟨by omega, all_take gi halli (by omega)⟩ (by omega) ⟨rfl, (by repeat' first | exact trivial | refine ⟨rfl, ?_⟩ | refine ⟨congrArg (fun n => AV.lit (.int .i64 n)) (by omega), ?_⟩ | refine ⟨congrArg (fun l => some (Row.row 1 l)) (by simp [int1, num, tru]), ?_⟩), (by repeat' first | exact trivial | refine ⟨rfl, ?_⟩ | refine ⟨congrArg (fun n => AV.lit (.int .i64 n)) (by omega), ?_⟩ | refine ⟨congrArg (fun l => some (Row.row 1 l)) (by simp [int1, num, tru]), ?_⟩)⟩)
      · rw [take_all (by omega)] at halli
        repeat' first | refine Len.map ?_ | refine Len.nil ?_ | refine Len.cons ?_ | refine Br.t rfl ?_ | refine Br.f rfl ?_ | refine Fit.au ?_ | refine Need.au ?_ | refine Pick.map (by assumption) ?_ | refine Pick.mapI (by omega) (by assumption) ?_ | refine PickN.mk _ (by assumption) ?_ | refine PickN.mk _ rfl ?_ | refine PickN.au ?_ | refine App.au rfl ?_ | refine App.au (own_map (fun _ => rfl) _) ?_ | refine Both.mk ?_ ?_ | exact True.intro
        exact Stop.mk (ih2 (j + 1) (g := []) _ _ _ ⟨by omega, all_take gb hallb halli⟩ (by omega) ⟨rfl, (by repeat' first | exact trivial | refine ⟨rfl, ?_⟩ | refine ⟨congrArg (fun n => AV.lit (.int .i64 n)) (by omega), ?_⟩ | refine ⟨congrArg (fun l => some (Row.row 1 l)) (by simp [int1, num, tru]), ?_⟩), (by repeat' first | exact trivial | refine ⟨rfl, ?_⟩ | refine ⟨congrArg (fun n => AV.lit (.int .i64 n)) (by omega), ?_⟩ | refine ⟨congrArg (fun l => some (Row.row 1 l)) (by simp [int1, num, tru]), ?_⟩)⟩)
    · rw [take_all (by omega)] at hallb
      repeat' first | refine Len.map ?_ | refine Len.nil ?_ | refine Len.cons ?_ | refine Br.t rfl ?_ | refine Br.f rfl ?_ | refine Fit.au ?_ | refine Need.au ?_ | refine Pick.map (by assumption) ?_ | refine Pick.mapI (by omega) (by assumption) ?_ | refine PickN.mk _ (by assumption) ?_ | refine PickN.mk _ rfl ?_ | refine PickN.au ?_ | refine App.au rfl ?_ | refine App.au (own_map (fun _ => rfl) _) ?_ | refine Both.mk ?_ ?_ | exact True.intro
      exact Stop.mk (ih (k + 1) (g := []) _ _ _ ⟨by omega, all_take gf hall hallb⟩ (by omega) ⟨rfl, (by repeat' first | exact trivial | refine ⟨rfl, ?_⟩ | refine ⟨congrArg (fun n => AV.lit (.int .i64 n)) (by omega), ?_⟩ | refine ⟨congrArg (fun l => some (Row.row 1 l)) (by simp [int1, num, tru]), ?_⟩), (by repeat' first | exact trivial | refine ⟨rfl, ?_⟩ | refine ⟨congrArg (fun n => AV.lit (.int .i64 n)) (by omega), ?_⟩ | refine ⟨congrArg (fun l => some (Row.row 1 l)) (by simp [int1, num, tru]), ?_⟩)⟩)
  · rw [take_all (by omega)] at hall
    repeat' first | refine Len.map ?_ | refine Len.nil ?_ | refine Len.cons ?_ | refine Br.t rfl ?_ | refine Br.f rfl ?_ | refine Fit.au ?_ | refine Need.au ?_ | refine Pick.map (by assumption) ?_ | refine Pick.mapI (by omega) (by assumption) ?_ | refine PickN.mk _ (by assumption) ?_ | refine PickN.mk _ rfl ?_ | refine PickN.au ?_ | refine App.au rfl ?_ | refine App.au (own_map (fun _ => rfl) _) ?_ | refine Both.mk ?_ ?_ | exact True.intro
    exact ⟨true, rfl, fun _ => ⟨hpro, hall⟩⟩
end Go.Proofs.Ytnfkdilmoppbpaa

/- The new numbers of blocks that are reached. No program is in sight here. -/
namespace Go.Proofs.Ytnfkdilmoppbpaa
open Go.Ax
/-- How many are marked ahead of one. -/
def rank (l : List Bool) (k : Nat) : Nat := (l.take k).count true
theorem rank_succ {l : List Bool} {k : Nat} {b : Bool} (h : l[k]? = some b) : rank l (k + 1) = rank l k + if b = true then 1 else 0 := by
  unfold rank; rw [take_succ h, List.count_append]; cases b <;> simp
theorem rank_le (l : List Bool) : ∀ {j k : Nat}, j ≤ k → rank l j ≤ rank l k := by
  intro j k h
  unfold rank
  rw [show j = min j k by omega, ← List.take_take]
  exact (List.take_sublist _ _).count_le _
theorem rank_lt {l : List Bool} {j k : Nat} (h : l[j]? = some true) (hjk : j < k) : rank l j < rank l k := by
  have h1 := rank_succ h
  have h2 := rank_le l (show j + 1 ≤ k by omega)
  rw [if_pos rfl] at h1
  omega
theorem rank_inj {l : List Bool} {j k : Nat} (hj : l[j]? = some true) (hk : l[k]? = some true) (h : rank l j = rank l k) : j = k := by
  rcases Nat.lt_trichotomy j k with h1 | h1 | h1
  · have := rank_lt hj h1; omega
  · exact h1
  · have := rank_lt hk h1; omega
theorem numF_at : ∀ {l : List Bool} {k : Nat} {n : Int}, (l[k]? = some true → (numF n l)[k]? = some (n + rank l k)) ∧ (l[k]? = some false → (numF n l)[k]? = some (-1))
  | [], k, n => by simp
  | true :: l, 0, n => by simp [numF, rank]
  | false :: l, 0, n => by simp [numF, rank]
  | true :: l, k + 1, n => by
    have ih := @numF_at l k (n + 1)
    simp only [numF, List.getElem?_cons_succ]
    refine ⟨fun h => ?_, ih.2⟩
    rw [ih.1 h]
    unfold rank
    simp only [List.take_succ_cons, List.count_cons_self]
    congr 1
    push_cast
    omega
  | false :: l, k + 1, n => by
    have ih := @numF_at l k n
    simp only [numF, List.getElem?_cons_succ]
    refine ⟨fun h => ?_, ih.2⟩
    rw [ih.1 h]
    unfold rank
    simp
/-- A block's marks. -/
noncomputable def live (f : Fun) : List Bool := marksF (succsF f) (-1)
theorem live_len (f : Fun) : (live f).length = f.blocks.length := by unfold live; rw [marksF_len, succsF_len]
theorem map_live {f : Fun} {k : Nat} (h : (live f)[k]? = some true) : (mapF f)[k]? = some (rank (live f) k : Int) := by
  have := (@numF_at (live f) k 0).1 h
  rw [Int.zero_add] at this; exact this
theorem map_dead {f : Fun} {k : Nat} (h : (live f)[k]? = some false) : (mapF f)[k]? = some (-1) := (@numF_at (live f) k 0).2 h
/-- A block of the tidy function. -/
noncomputable def tblk (f : Fun) (k : Nat) : List Ins := (f.blocks.getD k []).map fun i => movedF i ((predsF (succsF f)).getD k []) (mapF f)
theorem tidyTo_at (f : Fun) : ∀ (k : Nat), k ≤ f.blocks.length → (tidyTo f (predsF (succsF f)) (mapF f) k).length = rank (live f) k ∧ ∀ j, j < k → (live f)[j]? = some true → (tidyTo f (predsF (succsF f)) (mapF f) k)[rank (live f) j]? = some (tblk f j)
  | 0, _ => ⟨rfl, fun j h => by omega⟩
  | k + 1, hk => by
    obtain ⟨h1, h2⟩ := tidyTo_at f k (by omega)
    obtain ⟨b, hb, -⟩ := getK (l := live f) (k := k) (by rw [live_len]; omega)
    have hr := rank_succ hb
    simp only [tidyTo]
    cases b with
    | true =>
      have hm : (mapF f).getD k 0 = (rank (live f) k : Int) := by rw [List.getD_eq_getElem?_getD, map_live hb]; rfl
      rw [if_pos (by rw [hm]; omega)]
      rw [if_pos rfl] at hr
      refine ⟨by rw [List.length_append, h1, hr]; rfl, fun j hj hlj => ?_⟩
      by_cases e : j = k
      · subst e
        rw [List.getElem?_append_right (by omega), h1, Nat.sub_self]
        rfl
      · have := rank_lt hlj (show j < k by omega)
        rw [List.getElem?_append_left (by omega)]
        exact h2 j (by omega) hlj
    | false =>
      have hm : (mapF f).getD k 0 = -1 := by rw [List.getD_eq_getElem?_getD, map_dead hb]; rfl
      rw [if_neg (by rw [hm]; omega), List.append_nil]
      refine ⟨by rw [h1, hr]; simp, fun j hj hlj => ?_⟩
      by_cases e : j = k
      · subst e; rw [hb] at hlj; cases hlj
      · exact h2 j (by omega) hlj
theorem tidyF_len (f : Fun) : (tidyF f).blocks.length = rank (live f) f.blocks.length := (tidyTo_at f _ (Nat.le_refl _)).1
theorem tidyF_at {f : Fun} {j : Nat} (h : (live f)[j]? = some true) : (tidyF f).blocks[rank (live f) j]? = some (tblk f j) := by
  have hj := (List.getElem?_eq_some_iff.1 h).1
  rw [live_len] at hj
  exact (tidyTo_at f _ (Nat.le_refl _)).2 j hj h
/-- Each new number is a reached block's one. -/
theorem rank_onto (l : List Bool) : ∀ (k : Nat), k ≤ l.length → ∀ n, n < rank l k → ∃ j, j < k ∧ l[j]? = some true ∧ rank l j = n
  | 0, _, n, h => by simp [rank] at h
  | k + 1, hk, n, h => by
    obtain ⟨b, hb, -⟩ := getK (l := l) (k := k) (by omega)
    rw [rank_succ hb] at h
    by_cases hn : n < rank l k
    · obtain ⟨j, h1, h2, h3⟩ := rank_onto l k (by omega) n hn
      exact ⟨j, by omega, h2, h3⟩
    · cases b with
      | true => exact ⟨k, by omega, hb, by rw [if_pos rfl] at h; omega⟩
      | false => simp at h; omega
end Go.Proofs.Ytnfkdilmoppbpaa
