/- What is reached without a block, by contracts. -/
import Derived.Test.YtnfkdilmoppbpaaPG07
import Derived.Test.YtnfkdilmoppbpaaPG05
import Derived.Test.YtnfkdilmoppbpaaPG06
set_option linter.unusedVariables false
set_option linter.unusedSimpArgs false

namespace Go.Proofs.Ytnfkdilmoppbpaa
open Go.Ax
set_option maxRecDepth 10000
set_option linter.unusedVariables false

theorem fz_olsts (l : List Int) : AV.fzL (olst l) = lst l := by
  show [AV.sl false 1 (AV.fzLL (l.map int1))] = _
  rw [show AV.fzLL (l.map int1) = l.map int1 from fzLL_map (fun _ => rfl) l]; rfl
def lsts (s : List (List Int)) : AV := .sl false 1 (s.map lst)

set_option maxHeartbeats 2000000 in
theorem Without_spec (f : Fun) (x : Int) (hf : f.fits) (hn : f.blocks.length ≤ 1000000) : FnSpec Try.prog 81 [funA f, num x] (fun r => ∃ l, r = .osl 1 (l.map tb) ∧ Marks (succsF f) x l) := by
  have hcl := succsF_closed f
  have hsm := succsF_small f
  have hsn : (succsF f).length ≤ 1000000 := by rw [succsF_len]; exact hn
  refine spec_of 11 Try.func81 rfl rfl ?_
  repeat' first | refine Call.eq (Succs_spec f hf hn) rfl ?_ | refine Len.map ?_ | refine Len.nil ?_ | refine Len.cons ?_ | refine Br.t rfl ?_ | refine Br.f rfl ?_ | refine Fit.au ?_ | refine Need.au ?_ | refine Pick.map (by assumption) ?_ | refine Pick.mapI (by omega) (by assumption) ?_ | refine PickN.mk _ (by assumption) ?_ | refine PickN.mk _ rfl ?_ | refine PickN.au ?_ | refine App.au rfl ?_ | refine App.au (own_map (fun _ => rfl) _) ?_ | refine Both.mk ?_ ?_ | exact True.intro
  refine Stop.mk (run_frzR 1 rfl (fzLL_map fz_olsts _) ?_)
  generalize succsF f = s at *
  apply join (fun p : Bool × List Bool => [(1, num x), (5, lsts s), (6, .hw 2), (7, tru p.1)]) (fun p => [(2, .row 1 (p.2.map tb))]) 3 (fun p => Sound s x p.2 ∧ (s ≠ [] → x ≠ 0 → p.2[0]? = some true) ∧ (p.1 = false → Shut s x p.2 s.length 0))
  · intro jn
    refine go 25 Try.func81 ?_
    repeat' first | refine MkS.mk s.length rfl rfl (by omega) (by omega) ?_ | refine Len.map ?_ | refine Len.nil ?_ | refine Len.cons ?_ | refine Br.t rfl ?_ | refine Br.f rfl ?_ | refine Fit.au ?_ | refine Need.au ?_ | refine Pick.map (by assumption) ?_ | refine Pick.mapI (by omega) (by assumption) ?_ | refine PickN.mk _ (by assumption) ?_ | refine PickN.mk _ rfl ?_ | refine PickN.au ?_ | refine App.au rfl ?_ | refine App.au (own_map (fun _ => rfl) _) ?_ | refine Both.mk ?_ ?_ | exact True.intro | refine Br.d (fun h => ?_) (fun h => ?_) | refine Br.nd (fun h => ?_) (fun h => ?_) | refine Br.mk (fun h => ?_) (fun h => ?_)
    · refine Stop.mk (go 4 Try.func81 ?_)
      have hpos : 0 < s.length := by omega
      have gp : (List.replicate s.length (List.map AV.lit [Value.bool false]))[0]? = some [AV.lit (.bool false)] := by rw [List.getElem?_replicate, if_pos hpos]; rfl
      repeat' first | refine PickN.mk _ gp ?_ | refine Len.map ?_ | refine Len.nil ?_ | refine Len.cons ?_ | refine Br.t rfl ?_ | refine Br.f rfl ?_ | refine Fit.au ?_ | refine Need.au ?_ | refine Pick.map (by assumption) ?_ | refine Pick.mapI (by omega) (by assumption) ?_ | refine PickN.mk _ (by assumption) ?_ | refine PickN.mk _ rfl ?_ | refine PickN.au ?_ | refine App.au rfl ?_ | refine App.au (own_map (fun _ => rfl) _) ?_ | refine Both.mk ?_ ?_ | exact True.intro
      refine Stop.mk (jn (!decide (x = 0), (List.replicate s.length false).set 0 true) (g := []) _ _ _ ?_ ⟨?_, ?_, ?_⟩)
      · dsimp only
        rw [List.map_set, List.map_replicate]
        exact ⟨rfl, (by repeat' first | exact trivial | refine ⟨rfl, ?_⟩ | refine ⟨congrArg (fun n => AV.lit (.int .i64 n)) (by omega), ?_⟩ | refine ⟨congrArg (fun l => some (Row.row 1 l)) (by simp [int1, num, tru]), ?_⟩), (by repeat' first | exact trivial | refine ⟨rfl, ?_⟩ | refine ⟨congrArg (fun n => AV.lit (.int .i64 n)) (by omega), ?_⟩ | refine ⟨congrArg (fun l => some (Row.row 1 l)) (by simp [int1, num, tru]), ?_⟩)⟩
      · refine Sound.set ⟨by simp, fun t ht => absurd ht rep_false⟩ (.zero ?_ ?_)
        · intro e; subst e; exact absurd hpos (by decide)
        · exact h
      · intro _ _
        show ((List.replicate s.length false).set 0 true)[0]? = some true
        rw [List.getElem?_set]; simp [hpos]
      · intro e; dsimp only at e; simp at e; exact absurd e h
    · refine Stop.mk (jn (!decide (x = 0), List.replicate s.length false) (g := []) _ _ _ ?_ ⟨⟨by simp, fun t ht => absurd ht rep_false⟩, ?_, fun _ => Shut.none fun u => rep_false⟩)
      · dsimp only
        rw [List.map_replicate]
        exact ⟨rfl, (by repeat' first | exact trivial | refine ⟨rfl, ?_⟩ | refine ⟨congrArg (fun n => AV.lit (.int .i64 n)) (by omega), ?_⟩ | refine ⟨congrArg (fun l => some (Row.row 1 l)) (by simp [int1, num, tru]), ?_⟩), (by repeat' first | exact trivial | refine ⟨rfl, ?_⟩ | refine ⟨congrArg (fun n => AV.lit (.int .i64 n)) (by omega), ?_⟩ | refine ⟨congrArg (fun l => some (Row.row 1 l)) (by simp [int1, num, tru]), ?_⟩)⟩
      · intro h1 h2
        have := List.length_pos_iff.2 h1
        exact absurd h h2
    · refine Stop.mk (jn (false, List.replicate s.length false) (g := []) _ _ _ ?_ ⟨⟨by simp, fun t ht => absurd ht rep_false⟩, ?_, fun _ => Shut.none fun u => rep_false⟩)
      · dsimp only
        rw [List.map_replicate]
        exact ⟨rfl, (by repeat' first | exact trivial | refine ⟨rfl, ?_⟩ | refine ⟨congrArg (fun n => AV.lit (.int .i64 n)) (by omega), ?_⟩ | refine ⟨congrArg (fun l => some (Row.row 1 l)) (by simp [int1, num, tru]), ?_⟩), (by repeat' first | exact trivial | refine ⟨rfl, ?_⟩ | refine ⟨congrArg (fun n => AV.lit (.int .i64 n)) (by omega), ?_⟩ | refine ⟨congrArg (fun l => some (Row.row 1 l)) (by simp [int1, num, tru]), ?_⟩)⟩
      · intro h1 h2
        have := List.length_pos_iff.2 h1
        exact absurd h (by omega)
  rintro ⟨c, out⟩ ⟨h1, h2, h3⟩
  dsimp only at h1 h2 h3
  refine go 1000 Try.func81 ?_
  refine Stop.mk (loop_in (fun p : Bool × List Bool => [(1, num x), (5, lsts s), (6, .hw 2), (7, tru p.1)]) (fun p => [(2, .row 1 (p.2.map tb))]) 3 (fun p => Sound s x p.2 ∧ (s ≠ [] → x ≠ 0 → p.2[0]? = some true) ∧ (p.1 = false → Shut s x p.2 s.length 0)) (fun p => 2 * falses p.2 + cond p.1 1 0) (c, out) ⟨h1, h2, h3⟩ (g := []) ⟨rfl, (by repeat' first | exact trivial | refine ⟨rfl, ?_⟩ | refine ⟨congrArg (fun n => AV.lit (.int .i64 n)) (by omega), ?_⟩ | refine ⟨congrArg (fun l => some (Row.row 1 l)) (by simp [int1, num, tru]), ?_⟩), (by repeat' first | exact trivial | refine ⟨rfl, ?_⟩ | refine ⟨congrArg (fun n => AV.lit (.int .i64 n)) (by omega), ?_⟩ | refine ⟨congrArg (fun l => some (Row.row 1 l)) (by simp [int1, num, tru]), ?_⟩)⟩ ?_)
  clear h1 h2 h3 c out
  rintro ⟨c, out⟩ ⟨h1, h2, h3⟩ ih
  dsimp only at h1 h2 h3 ih
  refine go 1000 Try.func81 ?_
  repeat' first | refine Len.map ?_ | refine Len.nil ?_ | refine Len.cons ?_ | refine Br.t rfl ?_ | refine Br.f rfl ?_ | refine Fit.au ?_ | refine Need.au ?_ | refine Pick.map (by assumption) ?_ | refine Pick.mapI (by omega) (by assumption) ?_ | refine PickN.mk _ (by assumption) ?_ | refine PickN.mk _ rfl ?_ | refine PickN.au ?_ | refine App.au rfl ?_ | refine App.au (own_map (fun _ => rfl) _) ?_ | refine Both.mk ?_ ?_ | exact True.intro
  refine Br.mk (fun hc => ?_) (fun hc => ?_)
  · dsimp only at hc
    subst hc
    clear h3
    repeat' first | refine Len.map ?_ | refine Len.nil ?_ | refine Len.cons ?_ | refine Br.t rfl ?_ | refine Br.f rfl ?_ | refine Fit.au ?_ | refine Need.au ?_ | refine Pick.map (by assumption) ?_ | refine Pick.mapI (by omega) (by assumption) ?_ | refine PickN.mk _ (by assumption) ?_ | refine PickN.mk _ rfl ?_ | refine PickN.au ?_ | refine App.au rfl ?_ | refine App.au (own_map (fun _ => rfl) _) ?_ | refine Both.mk ?_ ?_ | exact True.intro
    refine Stop.mk (loop_in (fun p : Nat × Bool × List Bool => [(1, num x), (5, lsts s), (6, .hw 2), (7, tru p.2.1), (8, num p.1)]) (fun p => [(2, .row 1 (p.2.2.map tb))]) 3 (fun p => p.1 ≤ s.length ∧ Sound s x p.2.2 ∧ (s ≠ [] → x ≠ 0 → p.2.2[0]? = some true) ∧ (p.2.1 = false → p.2.2 = out ∧ Shut s x out p.1 0) ∧ (p.2.1 = true → falses p.2.2 < falses out)) (fun p => s.length - p.1) (0, false, out) ⟨by dsimp only; omega, h1, h2, fun _ => ⟨rfl, Shut.zero⟩, fun h => by cases h⟩ (g := []) ⟨rfl, (by repeat' first | exact trivial | refine ⟨rfl, ?_⟩ | refine ⟨congrArg (fun n => AV.lit (.int .i64 n)) (by omega), ?_⟩ | refine ⟨congrArg (fun l => some (Row.row 1 l)) (by simp [int1, num, tru]), ?_⟩), (by repeat' first | exact trivial | refine ⟨rfl, ?_⟩ | refine ⟨congrArg (fun n => AV.lit (.int .i64 n)) (by omega), ?_⟩ | refine ⟨congrArg (fun l => some (Row.row 1 l)) (by simp [int1, num, tru]), ?_⟩)⟩ ?_)
    rintro ⟨k, c1, out1⟩ ⟨hk, i1, i2, i3, i4⟩ ih2
    dsimp only at hk i1 i2 i3 i4 ih2
    refine go 1000 Try.func81 ?_
    repeat' first | refine Len.map ?_ | refine Len.nil ?_ | refine Len.cons ?_ | refine Br.t rfl ?_ | refine Br.f rfl ?_ | refine Fit.au ?_ | refine Need.au ?_ | refine Pick.map (by assumption) ?_ | refine Pick.mapI (by omega) (by assumption) ?_ | refine PickN.mk _ (by assumption) ?_ | refine PickN.mk _ rfl ?_ | refine PickN.au ?_ | refine App.au rfl ?_ | refine App.au (own_map (fun _ => rfl) _) ?_ | refine Both.mk ?_ ?_ | exact True.intro
    refine Br.d (fun hk1 => ?_) (fun hk1 => ?_)
    · obtain ⟨r, gr, grm⟩ := getK (l := s) (k := k) (by omega)
      repeat' first | refine Len.map ?_ | refine Len.nil ?_ | refine Len.cons ?_ | refine Br.t rfl ?_ | refine Br.f rfl ?_ | refine Fit.au ?_ | refine Need.au ?_ | refine Pick.map (by assumption) ?_ | refine Pick.mapI (by omega) (by assumption) ?_ | refine PickN.mk _ (by assumption) ?_ | refine PickN.mk _ rfl ?_ | refine PickN.au ?_ | refine App.au rfl ?_ | refine App.au (own_map (fun _ => rfl) _) ?_ | refine Both.mk ?_ ?_ | exact True.intro
      refine Stop.mk (loop_in (fun p : Nat × Bool × List Bool => [(1, num x), (5, lsts s), (6, .hw 2), (7, tru p.2.1), (8, num k), (9, num p.1)]) (fun p => [(2, .row 1 (p.2.2.map tb))]) 3 (fun p => p.1 ≤ r.length ∧ Sound s x p.2.2 ∧ (s ≠ [] → x ≠ 0 → p.2.2[0]? = some true) ∧ (p.2.1 = false → p.2.2 = out ∧ Shut s x out k p.1) ∧ (p.2.1 = true → falses p.2.2 < falses out)) (fun p => r.length - p.1) (0, c1, out1) ⟨by dsimp only; omega, i1, i2, i3, i4⟩ (g := []) ⟨rfl, (by repeat' first | exact trivial | refine ⟨rfl, ?_⟩ | refine ⟨congrArg (fun n => AV.lit (.int .i64 n)) (by omega), ?_⟩ | refine ⟨congrArg (fun l => some (Row.row 1 l)) (by simp [int1, num, tru]), ?_⟩), (by repeat' first | exact trivial | refine ⟨rfl, ?_⟩ | refine ⟨congrArg (fun n => AV.lit (.int .i64 n)) (by omega), ?_⟩ | refine ⟨congrArg (fun l => some (Row.row 1 l)) (by simp [int1, num, tru]), ?_⟩)⟩ ?_)
      clear i1 i2 i3 i4
      rintro ⟨j, c2, out2⟩ ⟨hj, i1, i2, i3, i4⟩ ih3
      dsimp only at hj i1 i2 i3 i4 ih3 hk1
      refine go 1000 Try.func81 ?_
      repeat' first | refine Len.map ?_ | refine Len.nil ?_ | refine Len.cons ?_ | refine Br.t rfl ?_ | refine Br.f rfl ?_ | refine Fit.au ?_ | refine Need.au ?_ | refine Pick.map (by assumption) ?_ | refine Pick.mapI (by omega) (by assumption) ?_ | refine PickN.mk _ (by assumption) ?_ | refine PickN.mk _ rfl ?_ | refine PickN.au ?_ | refine App.au rfl ?_ | refine App.au (own_map (fun _ => rfl) _) ?_ | refine Both.mk ?_ ?_ | exact True.intro
      refine Br.d (fun hj1 => ?_) (fun hj1 => ?_)
      · dsimp only at hj1
        obtain ⟨t, gt, gtm⟩ := getK (l := r) (k := j) (by omega)
        obtain ⟨ht0, ht1⟩ := hcl r grm t gtm
        have hl := i1.1
        obtain ⟨m1, g1, _⟩ := getK (l := out2) (k := k) (by omega)
        obtain ⟨m2, g2, _⟩ := getK (l := out2) (k := t.toNat) (by omega)
        have hrl := hsm r grm
        repeat' first | refine Fit.ok ⟨by dsimp only; omega, by dsimp only; omega⟩ ?_ | refine Need.mk ⟨by dsimp only; omega, by dsimp only; omega⟩ ?_ | refine Len.map ?_ | refine Len.nil ?_ | refine Len.cons ?_ | refine Br.t rfl ?_ | refine Br.f rfl ?_ | refine Fit.au ?_ | refine Need.au ?_ | refine Pick.map (by assumption) ?_ | refine Pick.mapI (by omega) (by assumption) ?_ | refine PickN.mk _ (by assumption) ?_ | refine PickN.mk _ rfl ?_ | refine PickN.au ?_ | refine App.au rfl ?_ | refine App.au (own_map (fun _ => rfl) _) ?_ | refine Both.mk ?_ ?_ | exact True.intro | refine Br.d (fun h => ?_) (fun h => ?_) | refine Br.nd (fun h => ?_) (fun h => ?_) | refine Br.mk (fun h => ?_) (fun h => ?_)
        · have e1 : m1 = true := by assumption
          have e2 : m2 = false := by simp_all
          have hne : t ≠ x := by assumption
          subst e1 e2
          have hr : Reaches s x t := .step (i1.2 k g1) gr gtm hne
          refine Stop.mk (ih3 (j + 1, true, out2.set t.toNat true) (g := []) _ _ _ ⟨by dsimp only; omega, i1.set (by rw [Int.toNat_of_nonneg ht0]; exact hr), fun a b => set_keep (i2 a b), fun e => (by cases e), fun _ => ?_⟩ (by dsimp only; omega) ?_)
          · have h5 := falses_set g2
            dsimp only
            cases c2 with
            | false => have := (i3 rfl).1; subst this; exact h5
            | true => have := i4 rfl; omega
          · dsimp only
            rw [List.map_set]
            exact ⟨rfl, (by repeat' first | exact trivial | refine ⟨rfl, ?_⟩ | refine ⟨congrArg (fun n => AV.lit (.int .i64 n)) (by omega), ?_⟩ | refine ⟨congrArg (fun l => some (Row.row 1 l)) (by simp [int1, num, tru]), ?_⟩), (by repeat' first | exact trivial | refine ⟨rfl, ?_⟩ | refine ⟨congrArg (fun n => AV.lit (.int .i64 n)) (by omega), ?_⟩ | refine ⟨congrArg (fun l => some (Row.row 1 l)) (by simp [int1, num, tru]), ?_⟩)⟩
        all_goals
          refine Stop.mk (ih3 (j + 1, c2, out2) (g := []) _ _ _ ⟨by dsimp only; omega, i1, i2, fun e => ⟨(i3 e).1, (i3 e).2.step gr gt fun hm hne => ?_⟩, i4⟩ (by dsimp only; omega) ⟨rfl, (by repeat' first | exact trivial | refine ⟨rfl, ?_⟩ | refine ⟨congrArg (fun n => AV.lit (.int .i64 n)) (by omega), ?_⟩ | refine ⟨congrArg (fun l => some (Row.row 1 l)) (by simp [int1, num, tru]), ?_⟩), (by repeat' first | exact trivial | refine ⟨rfl, ?_⟩ | refine ⟨congrArg (fun n => AV.lit (.int .i64 n)) (by omega), ?_⟩ | refine ⟨congrArg (fun l => some (Row.row 1 l)) (by simp [int1, num, tru]), ?_⟩)⟩)
          have e3 := (i3 e).1
          simp_all
      · dsimp only at hj1
        repeat' first | refine Len.map ?_ | refine Len.nil ?_ | refine Len.cons ?_ | refine Br.t rfl ?_ | refine Br.f rfl ?_ | refine Fit.au ?_ | refine Need.au ?_ | refine Pick.map (by assumption) ?_ | refine Pick.mapI (by omega) (by assumption) ?_ | refine PickN.mk _ (by assumption) ?_ | refine PickN.mk _ rfl ?_ | refine PickN.au ?_ | refine App.au rfl ?_ | refine App.au (own_map (fun _ => rfl) _) ?_ | refine Both.mk ?_ ?_ | exact True.intro
        refine Stop.mk (ih2 (k + 1, c2, out2) (g := []) _ _ _ ⟨by dsimp only; omega, i1, i2, fun e => ⟨(i3 e).1, (i3 e).2.row gr (by omega)⟩, i4⟩ (by dsimp only; omega) ⟨rfl, (by repeat' first | exact trivial | refine ⟨rfl, ?_⟩ | refine ⟨congrArg (fun n => AV.lit (.int .i64 n)) (by omega), ?_⟩ | refine ⟨congrArg (fun l => some (Row.row 1 l)) (by simp [int1, num, tru]), ?_⟩), (by repeat' first | exact trivial | refine ⟨rfl, ?_⟩ | refine ⟨congrArg (fun n => AV.lit (.int .i64 n)) (by omega), ?_⟩ | refine ⟨congrArg (fun l => some (Row.row 1 l)) (by simp [int1, num, tru]), ?_⟩)⟩)
    · dsimp only at hk1
      repeat' first | refine Len.map ?_ | refine Len.nil ?_ | refine Len.cons ?_ | refine Br.t rfl ?_ | refine Br.f rfl ?_ | refine Fit.au ?_ | refine Need.au ?_ | refine Pick.map (by assumption) ?_ | refine Pick.mapI (by omega) (by assumption) ?_ | refine PickN.mk _ (by assumption) ?_ | refine PickN.mk _ rfl ?_ | refine PickN.au ?_ | refine App.au rfl ?_ | refine App.au (own_map (fun _ => rfl) _) ?_ | refine Both.mk ?_ ?_ | exact True.intro
      refine Stop.mk (ih (c1, out1) (g := []) _ _ _ ⟨i1, i2, fun e => ?_⟩ ?_ ⟨rfl, (by repeat' first | exact trivial | refine ⟨rfl, ?_⟩ | refine ⟨congrArg (fun n => AV.lit (.int .i64 n)) (by omega), ?_⟩ | refine ⟨congrArg (fun l => some (Row.row 1 l)) (by simp [int1, num, tru]), ?_⟩), (by repeat' first | exact trivial | refine ⟨rfl, ?_⟩ | refine ⟨congrArg (fun n => AV.lit (.int .i64 n)) (by omega), ?_⟩ | refine ⟨congrArg (fun l => some (Row.row 1 l)) (by simp [int1, num, tru]), ?_⟩)⟩)
      · obtain ⟨e1, e2⟩ := i3 e
        have : k = s.length := by omega
        subst this; subst e1; exact e2
      · dsimp only
        cases c1 with
        | false => rw [(i3 rfl).1]; simp
        | true => have := i4 rfl; simp; omega
  · dsimp only at hc
    subst hc
    repeat' first | refine Len.map ?_ | refine Len.nil ?_ | refine Len.cons ?_ | refine Br.t rfl ?_ | refine Br.f rfl ?_ | refine Fit.au ?_ | refine Need.au ?_ | refine Pick.map (by assumption) ?_ | refine Pick.mapI (by omega) (by assumption) ?_ | refine PickN.mk _ (by assumption) ?_ | refine PickN.mk _ rfl ?_ | refine PickN.au ?_ | refine App.au rfl ?_ | refine App.au (own_map (fun _ => rfl) _) ?_ | refine Both.mk ?_ ?_ | exact True.intro
    exact ⟨out, rfl, marks_of hcl h1 h2 (h3 rfl)⟩
end Go.Proofs.Ytnfkdilmoppbpaa

/- What is reached, dominators, predecessors, writers, by contracts. -/
namespace Go.Proofs.Ytnfkdilmoppbpaa
open Go.Ax
set_option maxRecDepth 10000
set_option linter.unusedVariables false

theorem Reach_spec (f : Fun) (hf : f.fits) (hn : f.blocks.length ≤ 1000000) : FnSpec Try.prog 46 [funA f] (fun r => ∃ l, r = .osl 1 (l.map tb) ∧ Marks (succsF f) (-1) l) := by
  refine spec_of 1000 Try.func46 rfl rfl ?_
  repeat' first | refine Len.map ?_ | refine Len.nil ?_ | refine Len.cons ?_ | refine Br.t rfl ?_ | refine Br.f rfl ?_ | refine Fit.au ?_ | refine Need.au ?_ | refine Pick.map (by assumption) ?_ | refine Pick.mapI (by omega) (by assumption) ?_ | refine PickN.mk _ (by assumption) ?_ | refine PickN.mk _ rfl ?_ | refine PickN.au ?_ | refine App.au rfl ?_ | refine App.au (own_map (fun _ => rfl) _) ?_ | refine Both.mk ?_ ?_ | exact True.intro
  refine Call.of (Without_spec f (-1) hf hn) ?_
  rintro r ⟨l, rfl, hl⟩
  refine ⟨rfl, ?_⟩
  repeat' first | refine Len.map ?_ | refine Len.nil ?_ | refine Len.cons ?_ | refine Br.t rfl ?_ | refine Br.f rfl ?_ | refine Fit.au ?_ | refine Need.au ?_ | refine Pick.map (by assumption) ?_ | refine Pick.mapI (by omega) (by assumption) ?_ | refine PickN.mk _ (by assumption) ?_ | refine PickN.mk _ rfl ?_ | refine PickN.au ?_ | refine App.au rfl ?_ | refine App.au (own_map (fun _ => rfl) _) ?_ | refine Both.mk ?_ ?_ | exact True.intro
  exact ⟨l, rfl, hl⟩

theorem Preds_spec (f : Fun) (hf : f.fits) (hn : f.blocks.length ≤ 1000000) : FnSpec Try.prog 71 [funA f] (fun r => r = .osl 1 ((predsF (succsF f)).map olst)) := by
  have hsm := succsF_small f
  have hsn : (succsF f).length ≤ 1000000 := by rw [succsF_len]; exact hn
  refine spec_of 11 Try.func71 rfl rfl ?_
  repeat' first | refine Call.eq (Succs_spec f hf hn) rfl ?_ | refine Len.map ?_ | refine Len.nil ?_ | refine Len.cons ?_ | refine Br.t rfl ?_ | refine Br.f rfl ?_ | refine Fit.au ?_ | refine Need.au ?_ | refine Pick.map (by assumption) ?_ | refine Pick.mapI (by omega) (by assumption) ?_ | refine PickN.mk _ (by assumption) ?_ | refine PickN.mk _ rfl ?_ | refine PickN.au ?_ | refine App.au rfl ?_ | refine App.au (own_map (fun _ => rfl) _) ?_ | refine Both.mk ?_ ?_ | exact True.intro
  refine Stop.mk (run_frzR 1 rfl (fzLL_map fz_olsts _) ?_)
  generalize succsF f = s at *
  refine go 1000 Try.func71 ?_
  repeat' first | refine Len.map ?_ | refine Len.nil ?_ | refine Len.cons ?_ | refine Br.t rfl ?_ | refine Br.f rfl ?_ | refine Fit.au ?_ | refine Need.au ?_ | refine Pick.map (by assumption) ?_ | refine Pick.mapI (by omega) (by assumption) ?_ | refine PickN.mk _ (by assumption) ?_ | refine PickN.mk _ rfl ?_ | refine PickN.au ?_ | refine App.au rfl ?_ | refine App.au (own_map (fun _ => rfl) _) ?_ | refine Both.mk ?_ ?_ | exact True.intro
  refine Stop.mk (loop_in (fun k : Nat => [(3, lsts s), (4, .hw 2), (5, num k)]) (fun k => [(2, .row 1 (((predsF s).take k).map olst))]) 3 (fun k => k ≤ s.length) (fun k => s.length - k) 0 (by omega) (g := []) ⟨rfl, (by repeat' first | exact trivial | refine ⟨rfl, ?_⟩ | refine ⟨congrArg (fun n => AV.lit (.int .i64 n)) (by omega), ?_⟩ | refine ⟨congrArg (fun l => some (Row.row 1 l)) (by simp [int1, num, tru]), ?_⟩), (by repeat' first | exact trivial | refine ⟨rfl, ?_⟩ | refine ⟨congrArg (fun n => AV.lit (.int .i64 n)) (by omega), ?_⟩ | refine ⟨congrArg (fun l => some (Row.row 1 l)) (by simp [int1, num, tru]), ?_⟩)⟩ (fun k hk ih => ?_))
  refine go 1000 Try.func71 ?_
  repeat' first | refine Len.map ?_ | refine Len.nil ?_ | refine Len.cons ?_ | refine Br.t rfl ?_ | refine Br.f rfl ?_ | refine Fit.au ?_ | refine Need.au ?_ | refine Pick.map (by assumption) ?_ | refine Pick.mapI (by omega) (by assumption) ?_ | refine PickN.mk _ (by assumption) ?_ | refine PickN.mk _ rfl ?_ | refine PickN.au ?_ | refine App.au rfl ?_ | refine App.au (own_map (fun _ => rfl) _) ?_ | refine Both.mk ?_ ?_ | exact True.intro
  refine Br.d (fun h2 => ?_) (fun h2 => ?_)
  · have htk : ((predsF s).take k).length = k := by rw [List.length_take, predsF_len]; omega
    repeat' first | refine Len.map ?_ | refine Len.nil ?_ | refine Len.cons ?_ | refine Br.t rfl ?_ | refine Br.f rfl ?_ | refine Fit.au ?_ | refine Need.au ?_ | refine Pick.map (by assumption) ?_ | refine Pick.mapI (by omega) (by assumption) ?_ | refine PickN.mk _ (by assumption) ?_ | refine PickN.mk _ rfl ?_ | refine PickN.au ?_ | refine App.au rfl ?_ | refine App.au (own_map (fun _ => rfl) _) ?_ | refine Both.mk ?_ ?_ | exact True.intro
    refine Stop.mk (loop_in (fun j : Nat => [(3, lsts s), (4, .hw 2), (5, num k), (6, .hw 3), (7, num j)]) (fun j => [(2, .row 1 (((predsF s).take k).map olst)), (3, .row 1 ((predOf s k j).map int1))]) 4 (fun j => j ≤ s.length) (fun j => s.length - j) 0 (by omega) (g := []) ⟨rfl, (by repeat' first | exact trivial | refine ⟨rfl, ?_⟩ | refine ⟨congrArg (fun n => AV.lit (.int .i64 n)) (by omega), ?_⟩ | refine ⟨congrArg (fun l => some (Row.row 1 l)) (by simp [int1, num, tru]), ?_⟩), (by repeat' first | exact trivial | refine ⟨rfl, ?_⟩ | refine ⟨congrArg (fun n => AV.lit (.int .i64 n)) (by omega), ?_⟩ | refine ⟨congrArg (fun l => some (Row.row 1 l)) (by simp [int1, num, tru]), ?_⟩)⟩ (fun j hj ih2 => ?_))
    have hpl := predOf_len s k j
    refine go 1000 Try.func71 ?_
    repeat' first | refine Len.map ?_ | refine Len.nil ?_ | refine Len.cons ?_ | refine Br.t rfl ?_ | refine Br.f rfl ?_ | refine Fit.au ?_ | refine Need.au ?_ | refine Pick.map (by assumption) ?_ | refine Pick.mapI (by omega) (by assumption) ?_ | refine PickN.mk _ (by assumption) ?_ | refine PickN.mk _ rfl ?_ | refine PickN.au ?_ | refine App.au rfl ?_ | refine App.au (own_map (fun _ => rfl) _) ?_ | refine Both.mk ?_ ?_ | exact True.intro
    refine Br.d (fun h3 => ?_) (fun h3 => ?_)
    · obtain ⟨l, gl, glm⟩ := getK (l := s) (k := j) (by omega)
      have hll := hsm l glm
      have e1 := predOf_succ (k := k) gl
      repeat' first | refine Call.eq (HasInt_spec l _ (by omega)) rfl ?_ | refine Len.map ?_ | refine Len.nil ?_ | refine Len.cons ?_ | refine Br.t rfl ?_ | refine Br.f rfl ?_ | refine Fit.au ?_ | refine Need.au ?_ | refine Pick.map (by assumption) ?_ | refine Pick.mapI (by omega) (by assumption) ?_ | refine PickN.mk _ (by assumption) ?_ | refine PickN.mk _ rfl ?_ | refine PickN.au ?_ | refine App.au rfl ?_ | refine App.au (own_map (fun _ => rfl) _) ?_ | refine Both.mk ?_ ?_ | exact True.intro
      refine Br.d (fun h4 => ?_) (fun h4 => ?_)
      · repeat' first | refine Len.map ?_ | refine Len.nil ?_ | refine Len.cons ?_ | refine Br.t rfl ?_ | refine Br.f rfl ?_ | refine Fit.au ?_ | refine Need.au ?_ | refine Pick.map (by assumption) ?_ | refine Pick.mapI (by omega) (by assumption) ?_ | refine PickN.mk _ (by assumption) ?_ | refine PickN.mk _ rfl ?_ | refine PickN.au ?_ | refine App.au rfl ?_ | refine App.au (own_map (fun _ => rfl) _) ?_ | refine Both.mk ?_ ?_ | exact True.intro
        refine Stop.mk (ih2 (j + 1) (g := [(3, 5)]) _ _ _ (by omega) (by omega) ?_)
        rw [e1, if_pos h4, List.map_append]
        exact ⟨rfl, (by repeat' first | exact trivial | refine ⟨rfl, ?_⟩ | refine ⟨congrArg (fun n => AV.lit (.int .i64 n)) (by omega), ?_⟩ | refine ⟨congrArg (fun l => some (Row.row 1 l)) (by simp [int1, num, tru]), ?_⟩), (by repeat' first | exact trivial | refine ⟨rfl, ?_⟩ | refine ⟨congrArg (fun n => AV.lit (.int .i64 n)) (by omega), ?_⟩ | refine ⟨congrArg (fun l => some (Row.row 1 l)) (by simp [int1, num, tru]), ?_⟩)⟩
      · repeat' first | refine Len.map ?_ | refine Len.nil ?_ | refine Len.cons ?_ | refine Br.t rfl ?_ | refine Br.f rfl ?_ | refine Fit.au ?_ | refine Need.au ?_ | refine Pick.map (by assumption) ?_ | refine Pick.mapI (by omega) (by assumption) ?_ | refine PickN.mk _ (by assumption) ?_ | refine PickN.mk _ rfl ?_ | refine PickN.au ?_ | refine App.au rfl ?_ | refine App.au (own_map (fun _ => rfl) _) ?_ | refine Both.mk ?_ ?_ | exact True.intro
        refine Stop.mk (ih2 (j + 1) (g := []) _ _ _ (by omega) (by omega) ?_)
        rw [e1, if_neg h4, List.append_nil]
        exact ⟨rfl, (by repeat' first | exact trivial | refine ⟨rfl, ?_⟩ | refine ⟨congrArg (fun n => AV.lit (.int .i64 n)) (by omega), ?_⟩ | refine ⟨congrArg (fun l => some (Row.row 1 l)) (by simp [int1, num, tru]), ?_⟩), (by repeat' first | exact trivial | refine ⟨rfl, ?_⟩ | refine ⟨congrArg (fun n => AV.lit (.int .i64 n)) (by omega), ?_⟩ | refine ⟨congrArg (fun l => some (Row.row 1 l)) (by simp [int1, num, tru]), ?_⟩)⟩
    · repeat' first | refine Len.map ?_ | refine Len.nil ?_ | refine Len.cons ?_ | refine Br.t rfl ?_ | refine Br.f rfl ?_ | refine Fit.au ?_ | refine Need.au ?_ | refine Pick.map (by assumption) ?_ | refine Pick.mapI (by omega) (by assumption) ?_ | refine PickN.mk _ (by assumption) ?_ | refine PickN.mk _ rfl ?_ | refine PickN.au ?_ | refine App.au rfl ?_ | refine App.au (own_map (fun _ => rfl) _) ?_ | refine Both.mk ?_ ?_ | exact True.intro
      have : j = s.length := by omega
      subst this
      refine Stop.mk (ih (k + 1) (g := [(2, 5)]) _ _ _ (by omega) (by omega) ?_)
      rw [predsF_take (by omega), List.map_append]
      exact ⟨rfl, (by repeat' first | exact trivial | refine ⟨rfl, ?_⟩ | refine ⟨congrArg (fun n => AV.lit (.int .i64 n)) (by omega), ?_⟩ | refine ⟨congrArg (fun l => some (Row.row 1 l)) (by simp [int1, num, tru]), ?_⟩), (by repeat' first | exact trivial | refine ⟨rfl, ?_⟩ | refine ⟨congrArg (fun n => AV.lit (.int .i64 n)) (by omega), ?_⟩ | refine ⟨congrArg (fun l => some (Row.row 1 l)) (by simp [int1, num, tru]), ?_⟩)⟩
  · repeat' first | refine Len.map ?_ | refine Len.nil ?_ | refine Len.cons ?_ | refine Br.t rfl ?_ | refine Br.f rfl ?_ | refine Fit.au ?_ | refine Need.au ?_ | refine Pick.map (by assumption) ?_ | refine Pick.mapI (by omega) (by assumption) ?_ | refine PickN.mk _ (by assumption) ?_ | refine PickN.mk _ rfl ?_ | refine PickN.au ?_ | refine App.au rfl ?_ | refine App.au (own_map (fun _ => rfl) _) ?_ | refine Both.mk ?_ ?_ | exact True.intro
    rw [List.take_of_length_le (by rw [predsF_len]; omega)]
    rfl

theorem PickN_getD {α : Type} {enc : α → List AV} {l : List α} {n : Nat} {k : List AV → Prop} {d : α} (h : n < l.length) (hk : k (enc (l.getD n d))) : PickN (l.map enc) n k :=
  PickN.map (e := l.getD n d) (by rw [List.getD_eq_getElem?_getD, List.getElem?_eq_getElem h]; rfl) hk
theorem Marks.getD {s : List (List Int)} {x : Int} {l : List Bool} (h : Marks s x l) {t : Int} (h0 : 0 ≤ t) : l.getD t.toNat false = true ↔ Reaches s x t := by
  have := h.2 t.toNat
  rw [Int.toNat_of_nonneg h0] at this
  rw [← this, List.getD_eq_getElem?_getD]
  cases l[t.toNat]? with
  | none => simp
  | some b => simp
theorem Reaches.bound {s : List (List Int)} {x : Int} {l : List Bool} (h : Marks s x l) {t : Int} (h0 : 0 ≤ t) (hr : Reaches s x t) : t < l.length := by
  have := (h.2 t.toNat).2 (by rw [Int.toNat_of_nonneg h0]; exact hr)
  have := (List.getElem?_eq_some_iff.1 this).1
  omega

theorem Dominates_spec (f : Fun) (a b : Int) (hf : f.fits) (hn : f.blocks.length ≤ 1000000) : FnSpec Try.prog 72 [funA f, num a, num b] (fun r => ∃ v, r = tru v ∧ (v = true ↔ Dom (succsF f) a b)) := by
  have hcl := succsF_closed f
  refine spec_of 1000 Try.func72 rfl rfl ?_
  repeat' first | refine Len.map ?_ | refine Len.nil ?_ | refine Len.cons ?_ | refine Br.t rfl ?_ | refine Br.f rfl ?_ | refine Fit.au ?_ | refine Need.au ?_ | refine Pick.map (by assumption) ?_ | refine Pick.mapI (by omega) (by assumption) ?_ | refine PickN.mk _ (by assumption) ?_ | refine PickN.mk _ rfl ?_ | refine PickN.au ?_ | refine App.au rfl ?_ | refine App.au (own_map (fun _ => rfl) _) ?_ | refine Both.mk ?_ ?_ | exact True.intro
  refine Call.of (Reach_spec f hf hn) ?_
  rintro r ⟨l, rfl, hl⟩
  refine ⟨rfl, ?_⟩
  have hll := hl.1
  have hsl := succsF_len f
  have hA := fun h : 0 ≤ a => hl.getD h
  have hB := fun h : 0 ≤ b => hl.getD h
  have bA := fun (h : 0 ≤ a) => Reaches.bound (t := a) hl h
  have bB := fun (h : 0 ≤ b) => Reaches.bound (t := b) hl h
  repeat' first | refine PickN_getD (d := false) (by omega) ?_ | refine Len.map ?_ | refine Len.nil ?_ | refine Len.cons ?_ | refine Br.t rfl ?_ | refine Br.f rfl ?_ | refine Fit.au ?_ | refine Need.au ?_ | refine Pick.map (by assumption) ?_ | refine Pick.mapI (by omega) (by assumption) ?_ | refine PickN.mk _ (by assumption) ?_ | refine PickN.mk _ rfl ?_ | refine PickN.au ?_ | refine App.au rfl ?_ | refine App.au (own_map (fun _ => rfl) _) ?_ | refine Both.mk ?_ ?_ | exact True.intro | refine Br.d (fun h => ?_) (fun h => ?_) | refine Br.nd (fun h => ?_) (fun h => ?_) | refine Br.mk (fun h => ?_) (fun h => ?_)
  any_goals (refine ⟨false, rfl, ?_⟩; simp only [Dom]; constructor; · intro h; cases h)
  any_goals (rintro ⟨d1, d2, d3⟩; exfalso; have := d1.lt hcl; have := d2.lt hcl; first | omega | (simp_all; done))
  refine Call.of (Without_spec f a hf hn) ?_
  rintro r ⟨l2, rfl, hl2⟩
  refine ⟨rfl, ?_⟩
  have h2 := hl2.1
  have hC := fun h : 0 ≤ b => hl2.getD h
  repeat' first | refine PickN_getD (d := false) (by omega) ?_ | refine Len.map ?_ | refine Len.nil ?_ | refine Len.cons ?_ | refine Br.t rfl ?_ | refine Br.f rfl ?_ | refine Fit.au ?_ | refine Need.au ?_ | refine Pick.map (by assumption) ?_ | refine Pick.mapI (by omega) (by assumption) ?_ | refine PickN.mk _ (by assumption) ?_ | refine PickN.mk _ rfl ?_ | refine PickN.au ?_ | refine App.au rfl ?_ | refine App.au (own_map (fun _ => rfl) _) ?_ | refine Both.mk ?_ ?_ | exact True.intro
  refine ⟨_, rfl, ?_⟩
  simp only [Dom]
  have := hA (by omega)
  have := hB (by omega)
  have := hC (by omega)
  simp_all
  rw [← hC]; simp

theorem Writer34_spec (f : Fun) (reg : Int) (hf : f.fits) (hn : f.blocks.length ≤ 1000000) : FnSpec Try.prog 64 [funA f, num reg] (fun r => ∃ k a v, r = .tup [num k, num a, tru v] ∧ WriterIs f reg k a v) := by
  refine spec_of 1000 Try.func64 rfl rfl ?_
  repeat' first | refine Len.map ?_ | refine Len.nil ?_ | refine Len.cons ?_ | refine Br.t rfl ?_ | refine Br.f rfl ?_ | refine Fit.au ?_ | refine Need.au ?_ | refine Pick.map (by assumption) ?_ | refine Pick.mapI (by omega) (by assumption) ?_ | refine PickN.mk _ (by assumption) ?_ | refine PickN.mk _ rfl ?_ | refine PickN.au ?_ | refine App.au rfl ?_ | refine App.au (own_map (fun _ => rfl) _) ?_ | refine Both.mk ?_ ?_ | exact True.intro
  refine Stop.mk (loop_in (fun k : Nat => [(2, .hp 0 0), (1, num reg), (7, num k)]) (fun _ => [(0, .var f.cs)]) 1 (fun k => k ≤ f.blocks.length ∧ ∀ k' a', 0 ≤ reg → WrittenAt f reg k' a' → k ≤ k') (fun k => f.blocks.length - k) 0 ⟨by omega, fun _ _ _ _ => by omega⟩ (g := []) ⟨rfl, (by repeat' first | exact trivial | refine ⟨rfl, ?_⟩ | refine ⟨congrArg (fun n => AV.lit (.int .i64 n)) (by omega), ?_⟩ | refine ⟨congrArg (fun l => some (Row.row 1 l)) (by simp [int1, num, tru]), ?_⟩), (by repeat' first | exact trivial | refine ⟨rfl, ?_⟩ | refine ⟨congrArg (fun n => AV.lit (.int .i64 n)) (by omega), ?_⟩ | refine ⟨congrArg (fun l => some (Row.row 1 l)) (by simp [int1, num, tru]), ?_⟩)⟩ (fun k hk ih => ?_))
  obtain ⟨hk, hw⟩ := hk
  refine go 1000 Try.func64 ?_
  repeat' first | refine Len.map ?_ | refine Len.nil ?_ | refine Len.cons ?_ | refine Br.t rfl ?_ | refine Br.f rfl ?_ | refine Fit.au ?_ | refine Need.au ?_ | refine Pick.map (by assumption) ?_ | refine Pick.mapI (by omega) (by assumption) ?_ | refine PickN.mk _ (by assumption) ?_ | refine PickN.mk _ rfl ?_ | refine PickN.au ?_ | refine App.au rfl ?_ | refine App.au (own_map (fun _ => rfl) _) ?_ | refine Both.mk ?_ ?_ | exact True.intro
  refine Br.d (fun h2 => ?_) (fun h2 => ?_)
  · obtain ⟨b, gb, gm⟩ := getK (l := f.blocks) (k := k) (by omega)
    obtain ⟨hb1, hb2⟩ := hf.2.2 b gm
    repeat' first | refine Len.map ?_ | refine Len.nil ?_ | refine Len.cons ?_ | refine Br.t rfl ?_ | refine Br.f rfl ?_ | refine Fit.au ?_ | refine Need.au ?_ | refine Pick.map (by assumption) ?_ | refine Pick.mapI (by omega) (by assumption) ?_ | refine PickN.mk _ (by assumption) ?_ | refine PickN.mk _ rfl ?_ | refine PickN.au ?_ | refine App.au rfl ?_ | refine App.au (own_map (fun _ => rfl) _) ?_ | refine Both.mk ?_ ?_ | exact True.intro
    refine Stop.mk (loop_in (fun j : Nat => [(2, .hp 0 0), (1, num reg), (7, num k), (8, num j)]) (fun _ => [(0, .var f.cs)]) 1 (fun j => j ≤ b.length ∧ ∀ k' a', 0 ≤ reg → WrittenAt f reg k' a' → k < k' ∨ (k = k' ∧ j ≤ a')) (fun j => b.length - j) 0 ⟨by omega, fun k' a' h h' => by have := hw k' a' h h'; omega⟩ (g := []) ⟨rfl, (by repeat' first | exact trivial | refine ⟨rfl, ?_⟩ | refine ⟨congrArg (fun n => AV.lit (.int .i64 n)) (by omega), ?_⟩ | refine ⟨congrArg (fun l => some (Row.row 1 l)) (by simp [int1, num, tru]), ?_⟩), (by repeat' first | exact trivial | refine ⟨rfl, ?_⟩ | refine ⟨congrArg (fun n => AV.lit (.int .i64 n)) (by omega), ?_⟩ | refine ⟨congrArg (fun l => some (Row.row 1 l)) (by simp [int1, num, tru]), ?_⟩)⟩ (fun j hj ih2 => ?_))
    obtain ⟨hj, hw2⟩ := hj
    refine go 1000 Try.func64 ?_
    repeat' first | refine Len.map ?_ | refine Len.nil ?_ | refine Len.cons ?_ | refine Br.t rfl ?_ | refine Br.f rfl ?_ | refine Fit.au ?_ | refine Need.au ?_ | refine Pick.map (by assumption) ?_ | refine Pick.mapI (by omega) (by assumption) ?_ | refine PickN.mk _ (by assumption) ?_ | refine PickN.mk _ rfl ?_ | refine PickN.au ?_ | refine App.au rfl ?_ | refine App.au (own_map (fun _ => rfl) _) ?_ | refine Both.mk ?_ ?_ | exact True.intro
    refine Br.d (fun h3 => ?_) (fun h3 => ?_)
    · obtain ⟨i, gi, gim⟩ := getK (l := b) (k := j) (by omega)
      repeat' first | refine Call.eq (Def15_spec i (hb2 i gim)) rfl ?_ | refine Len.map ?_ | refine Len.nil ?_ | refine Len.cons ?_ | refine Br.t rfl ?_ | refine Br.f rfl ?_ | refine Fit.au ?_ | refine Need.au ?_ | refine Pick.map (by assumption) ?_ | refine Pick.mapI (by omega) (by assumption) ?_ | refine PickN.mk _ (by assumption) ?_ | refine PickN.mk _ rfl ?_ | refine PickN.au ?_ | refine App.au rfl ?_ | refine App.au (own_map (fun _ => rfl) _) ?_ | refine Both.mk ?_ ?_ | exact True.intro | refine Br.d (fun h => ?_) (fun h => ?_) | refine Br.nd (fun h => ?_) (fun h => ?_) | refine Br.mk (fun h => ?_) (fun h => ?_)
      · refine ⟨k, j, true, rfl, fun _ => ⟨k, j, rfl, rfl, by assumption, ⟨b, i, gb, gi, by assumption⟩, fun k' a' h' => hw2 k' a' (by assumption) h'⟩, fun h => by cases h⟩
      all_goals
        refine Stop.mk (ih2 (j + 1) (g := []) _ _ _ ⟨by omega, fun k' a' h0 h' => ?_⟩ (by omega) ⟨rfl, (by repeat' first | exact trivial | refine ⟨rfl, ?_⟩ | refine ⟨congrArg (fun n => AV.lit (.int .i64 n)) (by omega), ?_⟩ | refine ⟨congrArg (fun l => some (Row.row 1 l)) (by simp [int1, num, tru]), ?_⟩), (by repeat' first | exact trivial | refine ⟨rfl, ?_⟩ | refine ⟨congrArg (fun n => AV.lit (.int .i64 n)) (by omega), ?_⟩ | refine ⟨congrArg (fun l => some (Row.row 1 l)) (by simp [int1, num, tru]), ?_⟩)⟩)
        rcases hw2 k' a' h0 h' with h4 | ⟨rfl, h4⟩
        · exact .inl h4
        · refine .inr ⟨rfl, ?_⟩
          by_cases e : j = a'
          · obtain ⟨b', i', e1, e2, e3⟩ := h'
            rw [gb] at e1; cases e1
            subst e
            rw [gi] at e2; cases e2
            exfalso; first | omega | exact absurd e3 (by assumption)
          · omega
    · repeat' first | refine Len.map ?_ | refine Len.nil ?_ | refine Len.cons ?_ | refine Br.t rfl ?_ | refine Br.f rfl ?_ | refine Fit.au ?_ | refine Need.au ?_ | refine Pick.map (by assumption) ?_ | refine Pick.mapI (by omega) (by assumption) ?_ | refine PickN.mk _ (by assumption) ?_ | refine PickN.mk _ rfl ?_ | refine PickN.au ?_ | refine App.au rfl ?_ | refine App.au (own_map (fun _ => rfl) _) ?_ | refine Both.mk ?_ ?_ | exact True.intro
      refine Stop.mk (ih (k + 1) (g := []) _ _ _ ⟨by omega, fun k' a' h h' => ?_⟩ (by omega) ⟨rfl, (by repeat' first | exact trivial | refine ⟨rfl, ?_⟩ | refine ⟨congrArg (fun n => AV.lit (.int .i64 n)) (by omega), ?_⟩ | refine ⟨congrArg (fun l => some (Row.row 1 l)) (by simp [int1, num, tru]), ?_⟩), (by repeat' first | exact trivial | refine ⟨rfl, ?_⟩ | refine ⟨congrArg (fun n => AV.lit (.int .i64 n)) (by omega), ?_⟩ | refine ⟨congrArg (fun l => some (Row.row 1 l)) (by simp [int1, num, tru]), ?_⟩)⟩)
      rcases hw2 k' a' h h' with h4 | ⟨rfl, h4⟩
      · omega
      · obtain ⟨b', i', e1, e2, _⟩ := h'
        rw [gb] at e1; cases e1
        have := (List.getElem?_eq_some_iff.1 e2).1
        omega
  · repeat' first | refine Len.map ?_ | refine Len.nil ?_ | refine Len.cons ?_ | refine Br.t rfl ?_ | refine Br.f rfl ?_ | refine Fit.au ?_ | refine Need.au ?_ | refine Pick.map (by assumption) ?_ | refine Pick.mapI (by omega) (by assumption) ?_ | refine PickN.mk _ (by assumption) ?_ | refine PickN.mk _ rfl ?_ | refine PickN.au ?_ | refine App.au rfl ?_ | refine App.au (own_map (fun _ => rfl) _) ?_ | refine Both.mk ?_ ?_ | exact True.intro
    refine ⟨0, 0, false, rfl, (fun h => by cases h), fun _ => ⟨rfl, rfl, fun h k' a' h' => ?_⟩⟩
    have := hw k' a' h h'
    obtain ⟨b', i', e1, e2, _⟩ := h'
    have := (List.getElem?_eq_some_iff.1 e1).1
    omega
end Go.Proofs.Ytnfkdilmoppbpaa

/- Where blocks go and come from, as the program reckons it, by contracts. -/
namespace Go.Proofs.Ytnfkdilmoppbpaa
open Go.Ax
set_option maxRecDepth 10000
set_option linter.unusedVariables false

theorem zero_olst (n : Nat) : OLeLL (List.replicate n [.lit (.slice none 0 0)]) ((List.replicate n ([] : List Int)).map olst) := by
  rw [List.map_replicate]
  exact OLeLL.rep (.cons OLe.onil .nil) n
theorem set_olst {s : List (List Int)} {k : Nat} {l : List Int} : (s.map olst).set k [.osl 1 (l.map int1)] = (s.set k l).map olst := by rw [List.map_set]; rfl
theorem set_olst1 {s : List (List Int)} {k : Nat} {l : List Int} {t : Int} : (s.map olst).set k [.osl 1 (l.map int1 ++ [int1 t])] = (s.set k (l ++ [t])).map olst := by rw [← set_olst, List.map_append]; rfl

set_option maxHeartbeats 1000000 in
theorem Succs95_spec (f : Fun) (hf : f.fits) (hn : f.blocks.length ≤ 1000000) : FnSpec Try.prog 95 [funA f] (fun r => r = .osl 1 ((succsF f).map olst)) := by
  have hs := succsF_len f
  refine spec_of 1000 Try.func95 rfl rfl ?_
  repeat' first | refine MkS.mk _ rfl rfl (by omega) (by omega) ?_ | refine Len.map ?_ | refine Len.nil ?_ | refine Len.cons ?_ | refine Br.t rfl ?_ | refine Br.f rfl ?_ | refine Fit.au ?_ | refine Need.au ?_ | refine Pick.map (by assumption) ?_ | refine Pick.mapI (by omega) (by assumption) ?_ | refine PickN.mk _ (by assumption) ?_ | refine PickN.mk _ rfl ?_ | refine PickN.au ?_ | refine App.au rfl ?_ | refine App.au (own_map (fun _ => rfl) _) ?_ | refine Both.mk ?_ ?_ | exact True.intro
  refine Stop.mk (run_rowO 1 rfl (zero_olst _) ?_)
  refine loop_in (g := []) (fun k : Nat => [(1, .hp 0 0), (3, .hw 1), (13, .sl false 1 (f.blocks.map blk)), (14, num f.blocks.length), (15, num k)]) (fun k => [(0, .var f.cs), (1, .row 1 ((outS (succsF f) k).map olst))]) 2 (fun k => k ≤ f.blocks.length) (fun k => f.blocks.length - k) 0 (by omega) ?_ (fun k hk ih => ?_)
  · rw [show outS (succsF f) 0 = List.replicate f.blocks.length [] by unfold outS; rw [hs]; simp]
    exact ⟨rfl, (by repeat' first | exact trivial | refine ⟨rfl, ?_⟩ | refine ⟨congrArg (fun n => AV.lit (.int .i64 n)) (by omega), ?_⟩ | refine ⟨congrArg (fun l => some (Row.row 1 l)) (by simp [int1, num, tru]), ?_⟩), (by repeat' first | exact trivial | refine ⟨rfl, ?_⟩ | refine ⟨congrArg (fun n => AV.lit (.int .i64 n)) (by omega), ?_⟩ | refine ⟨congrArg (fun l => some (Row.row 1 l)) (by simp [int1, num, tru]), ?_⟩)⟩
  refine go 1000 Try.func95 ?_
  repeat' first | refine Len.map ?_ | refine Len.nil ?_ | refine Len.cons ?_ | refine Br.t rfl ?_ | refine Br.f rfl ?_ | refine Fit.au ?_ | refine Need.au ?_ | refine Pick.map (by assumption) ?_ | refine Pick.mapI (by omega) (by assumption) ?_ | refine PickN.mk _ (by assumption) ?_ | refine PickN.mk _ rfl ?_ | refine PickN.au ?_ | refine App.au rfl ?_ | refine App.au (own_map (fun _ => rfl) _) ?_ | refine Both.mk ?_ ?_ | exact True.intro
  refine Br.d (fun h2 => ?_) (fun h2 => ?_)
  · obtain ⟨b, gb, gbm⟩ := getK (l := f.blocks) (k := k) (by omega)
    obtain ⟨hb1, hb2⟩ := hf.2.2 b gbm
    have gs : (succsF f)[k]? = some (succ1 f.blocks.length b) := by unfold succsF; rw [List.getElem?_map, gb]; rfl
    have go0 := outS_at (succsF f) (k := k) (by omega)
    have golen := outS_len (succsF f) (k := k) (by omega)
    have gosucc := outS_succ gs
    repeat' first | refine Len.map ?_ | refine Len.nil ?_ | refine Len.cons ?_ | refine Br.t rfl ?_ | refine Br.f rfl ?_ | refine Fit.au ?_ | refine Need.au ?_ | refine Pick.map (by assumption) ?_ | refine Pick.mapI (by omega) (by assumption) ?_ | refine PickN.mk _ (by assumption) ?_ | refine PickN.mk _ rfl ?_ | refine PickN.au ?_ | refine App.au rfl ?_ | refine App.au (own_map (fun _ => rfl) _) ?_ | refine Both.mk ?_ ?_ | exact True.intro
    refine Br.d (fun h3 => ?_) (fun h3 => ?_)
    · repeat' first | refine Len.map ?_ | refine Len.nil ?_ | refine Len.cons ?_ | refine Br.t rfl ?_ | refine Br.f rfl ?_ | refine Fit.au ?_ | refine Need.au ?_ | refine Pick.map (by assumption) ?_ | refine Pick.mapI (by omega) (by assumption) ?_ | refine PickN.mk _ (by assumption) ?_ | refine PickN.mk _ rfl ?_ | refine PickN.au ?_ | refine App.au rfl ?_ | refine App.au (own_map (fun _ => rfl) _) ?_ | refine Both.mk ?_ ?_ | exact True.intro
      have e : succ1 f.blocks.length b = [] := by unfold succ1; rw [List.getElem?_eq_none (by omega)]
      rw [e] at gs
      refine Stop.mk (ih (k + 1) (g := []) _ _ _ (by omega) (by omega) ?_)
      rw [outS_nil gs]
      exact ⟨rfl, (by repeat' first | exact trivial | refine ⟨rfl, ?_⟩ | refine ⟨congrArg (fun n => AV.lit (.int .i64 n)) (by omega), ?_⟩ | refine ⟨congrArg (fun l => some (Row.row 1 l)) (by simp [int1, num, tru]), ?_⟩), (by repeat' first | exact trivial | refine ⟨rfl, ?_⟩ | refine ⟨congrArg (fun n => AV.lit (.int .i64 n)) (by omega), ?_⟩ | refine ⟨congrArg (fun l => some (Row.row 1 l)) (by simp [int1, num, tru]), ?_⟩)⟩
    · obtain ⟨i, gi, gim⟩ := getK (l := b) (k := b.length - 1) (by omega)
      have gi' : b[((b.length : Int) - 1).toNat]? = some i := by rw [show ((b.length : Int) - 1).toNat = b.length - 1 by omega]; exact gi
      have e : succ1 f.blocks.length b = below f.blocks.length (targetsF i) := by unfold succ1; rw [gi]
      have htl := targetsF_len i
      rw [e] at gosucc
      clear gs
      generalize outS (succsF f) k = out at *
      repeat' first | refine Call.eq (Targets100_spec i (hb2 i gim)) rfl ?_ | refine Len.map ?_ | refine Len.nil ?_ | refine Len.cons ?_ | refine Br.t rfl ?_ | refine Br.f rfl ?_ | refine Fit.au ?_ | refine Need.au ?_ | refine Pick.map (by assumption) ?_ | refine Pick.mapI (by omega) (by assumption) ?_ | refine PickN.mk _ (by assumption) ?_ | refine PickN.mk _ rfl ?_ | refine PickN.au ?_ | refine App.au rfl ?_ | refine App.au (own_map (fun _ => rfl) _) ?_ | refine Both.mk ?_ ?_ | exact True.intro
      refine Stop.mk (loop_in (g := []) (fun j : Nat => [(1, .hp 0 0), (3, .hw 1), (13, .sl false 1 (f.blocks.map blk)), (14, num f.blocks.length), (15, num k), (4, num k), (29, .hw 2), (30, num (targetsF i).length), (31, num j)]) (fun j => [(0, .var f.cs), (1, .row 1 ((out.set k (below f.blocks.length ((targetsF i).take j))).map olst)), (2, .row 1 ((targetsF i).map int1))]) 3 (fun j => j ≤ (targetsF i).length) (fun j => (targetsF i).length - j) 0 (by omega) ?_ (fun j hj ih2 => ?_))
      · have e0 : out.set k (below f.blocks.length ((targetsF i).take 0)) = out := by
          refine List.ext_getElem? fun u => ?_
          rw [List.getElem?_set]
          split
          · rename_i eu; subst eu; rw [go0, if_pos (by omega)]; rfl
          · rfl
        rw [e0]
        exact ⟨rfl, (by repeat' first | exact trivial | refine ⟨rfl, ?_⟩ | refine ⟨congrArg (fun n => AV.lit (.int .i64 n)) (by omega), ?_⟩ | refine ⟨congrArg (fun l => some (Row.row 1 l)) (by simp [int1, num, tru]), ?_⟩), (by repeat' first | exact trivial | refine ⟨rfl, ?_⟩ | refine ⟨congrArg (fun n => AV.lit (.int .i64 n)) (by omega), ?_⟩ | refine ⟨congrArg (fun l => some (Row.row 1 l)) (by simp [int1, num, tru]), ?_⟩)⟩
      have hbl := below_len f.blocks.length ((targetsF i).take j)
      rw [List.length_take] at hbl
      refine go 1000 Try.func95 ?_
      repeat' first | refine Len.map ?_ | refine Len.nil ?_ | refine Len.cons ?_ | refine Br.t rfl ?_ | refine Br.f rfl ?_ | refine Fit.au ?_ | refine Need.au ?_ | refine Pick.map (by assumption) ?_ | refine Pick.mapI (by omega) (by assumption) ?_ | refine PickN.mk _ (by assumption) ?_ | refine PickN.mk _ rfl ?_ | refine PickN.au ?_ | refine App.au rfl ?_ | refine App.au (own_map (fun _ => rfl) _) ?_ | refine Both.mk ?_ ?_ | exact True.intro
      refine Br.d (fun h4 => ?_) (fun h4 => ?_)
      · obtain ⟨t, gt, gtm⟩ := getK (l := targetsF i) (k := j) (by omega)
        have ebs := below_succ (n := f.blocks.length) gt
        have gat : (out.set k (below f.blocks.length ((targetsF i).take j)))[k]? = some (below f.blocks.length ((targetsF i).take j)) := set_at go0
        have glen : (out.set k (below f.blocks.length ((targetsF i).take j))).length = out.length := List.length_set
        repeat' first | refine Len.map ?_ | refine Len.nil ?_ | refine Len.cons ?_ | refine Br.t rfl ?_ | refine Br.f rfl ?_ | refine Fit.au ?_ | refine Need.au ?_ | refine Pick.map (by assumption) ?_ | refine Pick.mapI (by omega) (by assumption) ?_ | refine PickN.mk _ (by assumption) ?_ | refine PickN.mk _ rfl ?_ | refine PickN.au ?_ | refine App.au rfl ?_ | refine App.au (own_map (fun _ => rfl) _) ?_ | refine Both.mk ?_ ?_ | exact True.intro
        refine Br.d (fun h5 => ?_) (fun h5 => ?_)
        · rw [if_pos h5] at ebs
          repeat' first | refine Len.map ?_ | refine Len.nil ?_ | refine Len.cons ?_ | refine Br.t rfl ?_ | refine Br.f rfl ?_ | refine Fit.au ?_ | refine Need.au ?_ | refine Pick.map (by assumption) ?_ | refine Pick.mapI (by omega) (by assumption) ?_ | refine PickN.mk _ (by assumption) ?_ | refine PickN.mk _ rfl ?_ | refine PickN.au ?_ | refine App.au rfl ?_ | refine App.au (own_map (fun _ => rfl) _) ?_ | refine Both.mk ?_ ?_ | exact True.intro
          refine Need.mk rfl ?_
          repeat' first | refine Len.map ?_ | refine Len.nil ?_ | refine Len.cons ?_ | refine Br.t rfl ?_ | refine Br.f rfl ?_ | refine Fit.au ?_ | refine Need.au ?_ | refine Pick.map (by assumption) ?_ | refine Pick.mapI (by omega) (by assumption) ?_ | refine PickN.mk _ (by assumption) ?_ | refine PickN.mk _ rfl ?_ | refine PickN.au ?_ | refine App.au rfl ?_ | refine App.au (own_map (fun _ => rfl) _) ?_ | refine Both.mk ?_ ?_ | exact True.intro
          refine Stop.mk (ih2 (j + 1) (g := []) _ _ _ (by omega) (by omega) ?_)
          rw [ebs, show out.set k (below f.blocks.length ((targetsF i).take j) ++ [t]) = (out.set k (below f.blocks.length ((targetsF i).take j))).set k (below f.blocks.length ((targetsF i).take j) ++ [t]) by rw [List.set_set], ← set_olst1]
          exact ⟨rfl, (by repeat' first | exact trivial | refine ⟨rfl, ?_⟩ | refine ⟨congrArg (fun n => AV.lit (.int .i64 n)) (by omega), ?_⟩ | refine ⟨congrArg (fun l => some (Row.row 1 l)) (by simp [int1, num, tru]), ?_⟩), (by repeat' first | exact trivial | refine ⟨rfl, ?_⟩ | refine ⟨congrArg (fun n => AV.lit (.int .i64 n)) (by omega), ?_⟩ | refine ⟨congrArg (fun l => some (Row.row 1 l)) (by simp [int1, num, tru]), ?_⟩)⟩
        · rw [if_neg h5] at ebs
          repeat' first | refine Len.map ?_ | refine Len.nil ?_ | refine Len.cons ?_ | refine Br.t rfl ?_ | refine Br.f rfl ?_ | refine Fit.au ?_ | refine Need.au ?_ | refine Pick.map (by assumption) ?_ | refine Pick.mapI (by omega) (by assumption) ?_ | refine PickN.mk _ (by assumption) ?_ | refine PickN.mk _ rfl ?_ | refine PickN.au ?_ | refine App.au rfl ?_ | refine App.au (own_map (fun _ => rfl) _) ?_ | refine Both.mk ?_ ?_ | exact True.intro
          refine Stop.mk (ih2 (j + 1) (g := []) _ _ _ (by omega) (by omega) ?_)
          rw [ebs]
          exact ⟨rfl, (by repeat' first | exact trivial | refine ⟨rfl, ?_⟩ | refine ⟨congrArg (fun n => AV.lit (.int .i64 n)) (by omega), ?_⟩ | refine ⟨congrArg (fun l => some (Row.row 1 l)) (by simp [int1, num, tru]), ?_⟩), (by repeat' first | exact trivial | refine ⟨rfl, ?_⟩ | refine ⟨congrArg (fun n => AV.lit (.int .i64 n)) (by omega), ?_⟩ | refine ⟨congrArg (fun l => some (Row.row 1 l)) (by simp [int1, num, tru]), ?_⟩)⟩
      · repeat' first | refine Len.map ?_ | refine Len.nil ?_ | refine Len.cons ?_ | refine Br.t rfl ?_ | refine Br.f rfl ?_ | refine Fit.au ?_ | refine Need.au ?_ | refine Pick.map (by assumption) ?_ | refine Pick.mapI (by omega) (by assumption) ?_ | refine PickN.mk _ (by assumption) ?_ | refine PickN.mk _ rfl ?_ | refine PickN.au ?_ | refine App.au rfl ?_ | refine App.au (own_map (fun _ => rfl) _) ?_ | refine Both.mk ?_ ?_ | exact True.intro
        refine Stop.mk (ih (k + 1) (g := []) _ _ _ (by omega) (by omega) ?_)
        rw [gosucc, take_all (l := targetsF i) (by omega)]
        exact ⟨rfl, (by repeat' first | exact trivial | refine ⟨rfl, ?_⟩ | refine ⟨congrArg (fun n => AV.lit (.int .i64 n)) (by omega), ?_⟩ | refine ⟨congrArg (fun l => some (Row.row 1 l)) (by simp [int1, num, tru]), ?_⟩), (by repeat' first | exact trivial | refine ⟨rfl, ?_⟩ | refine ⟨congrArg (fun n => AV.lit (.int .i64 n)) (by omega), ?_⟩ | refine ⟨congrArg (fun l => some (Row.row 1 l)) (by simp [int1, num, tru]), ?_⟩)⟩
  · repeat' first | refine Len.map ?_ | refine Len.nil ?_ | refine Len.cons ?_ | refine Br.t rfl ?_ | refine Br.f rfl ?_ | refine Fit.au ?_ | refine Need.au ?_ | refine Pick.map (by assumption) ?_ | refine Pick.mapI (by omega) (by assumption) ?_ | refine PickN.mk _ (by assumption) ?_ | refine PickN.mk _ rfl ?_ | refine PickN.au ?_ | refine App.au rfl ?_ | refine App.au (own_map (fun _ => rfl) _) ?_ | refine Both.mk ?_ ?_ | exact True.intro
    have : k = (succsF f).length := by omega
    subst this
    rw [outS_all]
    rfl

set_option maxHeartbeats 1000000 in
theorem Preds68_spec (f : Fun) (hf : f.fits) (hn : f.blocks.length ≤ 1000000) : FnSpec Try.prog 68 [funA f] (fun r => r = .osl 1 ((predsF (succsF f)).map olst)) := by
  have hs := succsF_len f
  have hsm := succsF_small f
  have hcl := succsF_closed f
  have hpd := predsD_eq f
  refine spec_of 1000 Try.func68 rfl rfl ?_
  repeat' first | refine MkS.mk _ rfl rfl (by omega) (by omega) ?_ | refine Call.eq (Succs95_spec f hf hn) rfl ?_ | refine Len.map ?_ | refine Len.nil ?_ | refine Len.cons ?_ | refine Br.t rfl ?_ | refine Br.f rfl ?_ | refine Fit.au ?_ | refine Need.au ?_ | refine Pick.map (by assumption) ?_ | refine Pick.mapI (by omega) (by assumption) ?_ | refine PickN.mk _ (by assumption) ?_ | refine PickN.mk _ rfl ?_ | refine PickN.au ?_ | refine App.au rfl ?_ | refine App.au (own_map (fun _ => rfl) _) ?_ | refine Both.mk ?_ ?_ | exact True.intro
  rw [← hpd]
  rw [← hs]
  generalize succsF f = s at *
  refine Stop.mk (run_rowO 1 rfl (zero_olst _) ?_)
  refine run_frzR 2 rfl (fzLL_map fz_olsts _) ?_
  refine loop_in (g := []) (fun k : Nat => [(3, .hw 1), (13, lsts s), (14, num s.length), (15, num k)]) (fun k => [(1, .row 1 ((predsP s k 0).map olst))]) 2 (fun k => k ≤ s.length) (fun k => s.length - k) 0 (by omega) ?_ (fun k hk ih => ?_)
  · rw [predsP_zero]
    exact ⟨rfl, (by repeat' first | exact trivial | refine ⟨rfl, ?_⟩ | refine ⟨congrArg (fun n => AV.lit (.int .i64 n)) (by omega), ?_⟩ | refine ⟨congrArg (fun l => some (Row.row 1 l)) (by simp [int1, num, tru]), ?_⟩), (by repeat' first | exact trivial | refine ⟨rfl, ?_⟩ | refine ⟨congrArg (fun n => AV.lit (.int .i64 n)) (by omega), ?_⟩ | refine ⟨congrArg (fun l => some (Row.row 1 l)) (by simp [int1, num, tru]), ?_⟩)⟩
  refine go 1000 Try.func68 ?_
  repeat' first | refine Len.map ?_ | refine Len.nil ?_ | refine Len.cons ?_ | refine Br.t rfl ?_ | refine Br.f rfl ?_ | refine Fit.au ?_ | refine Need.au ?_ | refine Pick.map (by assumption) ?_ | refine Pick.mapI (by omega) (by assumption) ?_ | refine PickN.mk _ (by assumption) ?_ | refine PickN.mk _ rfl ?_ | refine PickN.au ?_ | refine App.au rfl ?_ | refine App.au (own_map (fun _ => rfl) _) ?_ | refine Both.mk ?_ ?_ | exact True.intro
  refine Br.d (fun h2 => ?_) (fun h2 => ?_)
  · obtain ⟨l, gl, glm⟩ := getK (l := s) (k := k) (by omega)
    have hll := hsm l glm
    have hlc := hcl l glm
    have hnext := predsP_next gl
    repeat' first | refine Len.map ?_ | refine Len.nil ?_ | refine Len.cons ?_ | refine Br.t rfl ?_ | refine Br.f rfl ?_ | refine Fit.au ?_ | refine Need.au ?_ | refine Pick.map (by assumption) ?_ | refine Pick.mapI (by omega) (by assumption) ?_ | refine PickN.mk _ (by assumption) ?_ | refine PickN.mk _ rfl ?_ | refine PickN.au ?_ | refine App.au rfl ?_ | refine App.au (own_map (fun _ => rfl) _) ?_ | refine Both.mk ?_ ?_ | exact True.intro
    refine Stop.mk (loop_in (g := []) (fun j : Nat => [(3, .hw 1), (13, lsts s), (14, num s.length), (15, num k), (4, num k), (20, ints l), (21, num l.length), (22, num j)]) (fun j => [(1, .row 1 ((predsP s k j).map olst))]) 2 (fun j => j ≤ l.length) (fun j => l.length - j) 0 (by omega) ⟨rfl, (by repeat' first | exact trivial | refine ⟨rfl, ?_⟩ | refine ⟨congrArg (fun n => AV.lit (.int .i64 n)) (by omega), ?_⟩ | refine ⟨congrArg (fun l => some (Row.row 1 l)) (by simp [int1, num, tru]), ?_⟩), (by repeat' first | exact trivial | refine ⟨rfl, ?_⟩ | refine ⟨congrArg (fun n => AV.lit (.int .i64 n)) (by omega), ?_⟩ | refine ⟨congrArg (fun l => some (Row.row 1 l)) (by simp [int1, num, tru]), ?_⟩)⟩ (fun j hj ih2 => ?_))
    refine go 1000 Try.func68 ?_
    repeat' first | refine Len.map ?_ | refine Len.nil ?_ | refine Len.cons ?_ | refine Br.t rfl ?_ | refine Br.f rfl ?_ | refine Fit.au ?_ | refine Need.au ?_ | refine Pick.map (by assumption) ?_ | refine Pick.mapI (by omega) (by assumption) ?_ | refine PickN.mk _ (by assumption) ?_ | refine PickN.mk _ rfl ?_ | refine PickN.au ?_ | refine App.au rfl ?_ | refine App.au (own_map (fun _ => rfl) _) ?_ | refine Both.mk ?_ ?_ | exact True.intro
    refine Br.d (fun h3 => ?_) (fun h3 => ?_)
    · obtain ⟨t, gt, gtm⟩ := getK (l := l) (k := j) (by omega)
      obtain ⟨ht0, ht1⟩ := hlc t gtm
      obtain ⟨t, rfl⟩ : ∃ t' : Nat, t = (t' : Int) := ⟨t.toNat, by omega⟩
      have hstep := predsP_step gl gt (by omega)
      have hat : (predsP s k j)[t]? = some (predP s k j t) := predsP_at (by omega)
      have hlen := predsP_len s k j
      have hpl := predP_len hsm k j t
      repeat' first | refine Len.map ?_ | refine Len.nil ?_ | refine Len.cons ?_ | refine Br.t rfl ?_ | refine Br.f rfl ?_ | refine Fit.au ?_ | refine Need.au ?_ | refine Pick.map (by assumption) ?_ | refine Pick.mapI (by omega) (by assumption) ?_ | refine PickN.mk _ (by assumption) ?_ | refine PickN.mk _ rfl ?_ | refine PickN.au ?_ | refine App.au rfl ?_ | refine App.au (own_map (fun _ => rfl) _) ?_ | refine Both.mk ?_ ?_ | exact True.intro
      refine Need.mk rfl ?_
      repeat' first | refine Len.map ?_ | refine Len.nil ?_ | refine Len.cons ?_ | refine Br.t rfl ?_ | refine Br.f rfl ?_ | refine Fit.au ?_ | refine Need.au ?_ | refine Pick.map (by assumption) ?_ | refine Pick.mapI (by omega) (by assumption) ?_ | refine PickN.mk _ (by assumption) ?_ | refine PickN.mk _ rfl ?_ | refine PickN.au ?_ | refine App.au rfl ?_ | refine App.au (own_map (fun _ => rfl) _) ?_ | refine Both.mk ?_ ?_ | exact True.intro
      refine Stop.mk (ih2 (j + 1) (g := []) _ _ _ (by omega) (by omega) ?_)
      rw [hstep, ← set_olst1]
      exact ⟨rfl, (by repeat' first | exact trivial | refine ⟨rfl, ?_⟩ | refine ⟨congrArg (fun n => AV.lit (.int .i64 n)) (by omega), ?_⟩ | refine ⟨congrArg (fun l => some (Row.row 1 l)) (by simp [int1, num, tru]), ?_⟩), (by repeat' first | exact trivial | refine ⟨rfl, ?_⟩ | refine ⟨congrArg (fun n => AV.lit (.int .i64 n)) (by omega), ?_⟩ | refine ⟨congrArg (fun l => some (Row.row 1 l)) (by simp [int1, num, tru]), ?_⟩)⟩
    · repeat' first | refine Len.map ?_ | refine Len.nil ?_ | refine Len.cons ?_ | refine Br.t rfl ?_ | refine Br.f rfl ?_ | refine Fit.au ?_ | refine Need.au ?_ | refine Pick.map (by assumption) ?_ | refine Pick.mapI (by omega) (by assumption) ?_ | refine PickN.mk _ (by assumption) ?_ | refine PickN.mk _ rfl ?_ | refine PickN.au ?_ | refine App.au rfl ?_ | refine App.au (own_map (fun _ => rfl) _) ?_ | refine Both.mk ?_ ?_ | exact True.intro
      have : j = l.length := by omega
      subst this
      refine Stop.mk (ih (k + 1) (g := []) _ _ _ (by omega) (by omega) ?_)
      rw [← hnext]
      exact ⟨rfl, (by repeat' first | exact trivial | refine ⟨rfl, ?_⟩ | refine ⟨congrArg (fun n => AV.lit (.int .i64 n)) (by omega), ?_⟩ | refine ⟨congrArg (fun l => some (Row.row 1 l)) (by simp [int1, num, tru]), ?_⟩), (by repeat' first | exact trivial | refine ⟨rfl, ?_⟩ | refine ⟨congrArg (fun n => AV.lit (.int .i64 n)) (by omega), ?_⟩ | refine ⟨congrArg (fun l => some (Row.row 1 l)) (by simp [int1, num, tru]), ?_⟩)⟩
  · repeat' first | refine Len.map ?_ | refine Len.nil ?_ | refine Len.cons ?_ | refine Br.t rfl ?_ | refine Br.f rfl ?_ | refine Fit.au ?_ | refine Need.au ?_ | refine Pick.map (by assumption) ?_ | refine Pick.mapI (by omega) (by assumption) ?_ | refine PickN.mk _ (by assumption) ?_ | refine PickN.mk _ rfl ?_ | refine PickN.au ?_ | refine App.au rfl ?_ | refine App.au (own_map (fun _ => rfl) _) ?_ | refine Both.mk ?_ ?_ | exact True.intro
    have : k = s.length := by omega
    subst this
    rfl
end Go.Proofs.Ytnfkdilmoppbpaa

/- What a block's branch tells, as the program reckons it. No program is in sight here. -/
namespace Go.Proofs.Ytnfkdilmoppbpaa
open Go.Ax
def againstF (op : Int) : Int := if op = 3 then 4 else if op = 4 then 3 else if op = 5 then 8 else if op = 8 then 5 else if op = 6 then 7 else if op = 7 then 6 else 0
def turnedF (op : Int) : Int := if op = 3 ∨ op = 4 then op else if op = 5 then 7 else if op = 7 then 5 else if op = 6 then 8 else if op = 8 then 6 else 0
/-- Is a register written in a list? -/
def wrF (b : List Ins) (r : Int) : Bool := b.any fun i => decide (defF i = r)
/-- Who of the first ones writes a register last. -/
def lastW (b : List Ins) (x : Int) : Nat → Option Nat
  | 0 => none
  | n + 1 => match b[n]? with
    | some i => if defF i = x then some n else lastW b x n
    | none => lastW b x n
theorem lastW_hit {b : List Ins} {x : Int} {n : Nat} {i : Ins} (gi : b[n]? = some i) (h : defF i = x) : lastW b x (n + 1) = some n := by simp only [lastW, gi]; exact if_pos h
theorem lastW_miss {b : List Ins} {x : Int} {n : Nat} {i : Ins} (gi : b[n]? = some i) (h : defF i ≠ x) : lastW b x (n + 1) = lastW b x n := by simp only [lastW, gi]; exact if_neg h
theorem lastW_some {b : List Ins} {x : Int} : ∀ {n m : Nat}, lastW b x n = some m → m < n ∧ ∃ i, b[m]? = some i ∧ defF i = x
  | 0, m, h => by cases h
  | n + 1, m, h => by
    simp only [lastW] at h
    split at h
    · rename_i i gi
      split at h
      · cases h; exact ⟨by omega, i, gi, by assumption⟩
      · obtain ⟨h1, h2⟩ := lastW_some h; exact ⟨by omega, h2⟩
    · obtain ⟨h1, h2⟩ := lastW_some h; exact ⟨by omega, h2⟩
/-- What was asked ahead of a block's end, and whether it tells something. -/
def askAt (f : Fun) (b : List Ins) (m : Nat) : Ins × Bool := match b[m]? with
  | some i => (i, !((usesF i).any fun u => wrF (b.drop (m + 1)) u) && (decide (i.op = 26) || (decide (3 ≤ i.op ∧ i.op ≤ 8) && decide (f.regs.getD i.a.toNat 0 = 1))))
  | none => (Ins.none, false)
def askF (f : Fun) (b : List Ins) : Ins × Bool := match lastW b (b.getLastD Ins.none).a (b.length - 1) with
  | some m => askAt f b m
  | none => (Ins.none, false)
end Go.Proofs.Ytnfkdilmoppbpaa

/- What a block's branch tells, by contracts. -/
namespace Go.Proofs.Ytnfkdilmoppbpaa
open Go.Ax
set_option maxRecDepth 10000
set_option linter.unusedVariables false

theorem Against47_spec (op : Int) : FnSpec Try.prog 47 [num op] (fun r => r = num (againstF op)) := by
  refine spec_of 1000 Try.func47 rfl rfl ?_
  repeat' first | refine Len.map ?_ | refine Len.nil ?_ | refine Len.cons ?_ | refine Br.t rfl ?_ | refine Br.f rfl ?_ | refine Fit.au ?_ | refine Need.au ?_ | refine Pick.map (by assumption) ?_ | refine Pick.mapI (by omega) (by assumption) ?_ | refine PickN.mk _ (by assumption) ?_ | refine PickN.mk _ rfl ?_ | refine PickN.au ?_ | refine App.au rfl ?_ | refine App.au (own_map (fun _ => rfl) _) ?_ | refine Both.mk ?_ ?_ | exact True.intro | (refine Br.d (fun h => ?_) (fun h => ?_) <;> try (exfalso; omega)) | (refine Br.nd (fun h => ?_) (fun h => ?_) <;> try (exfalso; omega)) | (refine Br.mk (fun h => ?_) (fun h => ?_) <;> try (exfalso; omega))
  all_goals
    show _ = _
    unfold againstF
    repeat' first | rw [if_pos (by omega)] | rw [if_neg (by omega)]
    rfl
theorem Turned48_spec (op : Int) : FnSpec Try.prog 48 [num op] (fun r => r = num (turnedF op)) := by
  refine spec_of 1000 Try.func48 rfl rfl ?_
  repeat' first | refine Len.map ?_ | refine Len.nil ?_ | refine Len.cons ?_ | refine Br.t rfl ?_ | refine Br.f rfl ?_ | refine Fit.au ?_ | refine Need.au ?_ | refine Pick.map (by assumption) ?_ | refine Pick.mapI (by omega) (by assumption) ?_ | refine PickN.mk _ (by assumption) ?_ | refine PickN.mk _ rfl ?_ | refine PickN.au ?_ | refine App.au rfl ?_ | refine App.au (own_map (fun _ => rfl) _) ?_ | refine Both.mk ?_ ?_ | exact True.intro | (refine Br.d (fun h => ?_) (fun h => ?_) <;> try (exfalso; omega)) | (refine Br.nd (fun h => ?_) (fun h => ?_) <;> try (exfalso; omega)) | (refine Br.mk (fun h => ?_) (fun h => ?_) <;> try (exfalso; omega))
  all_goals
    show _ = _
    unfold turnedF
    repeat' first | rw [if_pos (by omega)] | rw [if_neg (by omega)]
    rfl
theorem Against49_spec (op : Int) : FnSpec Try.prog 49 [num op] (fun r => r = num (againstF op)) := by
  refine spec_of 1000 Try.func49 rfl rfl ?_
  repeat' first | refine Len.map ?_ | refine Len.nil ?_ | refine Len.cons ?_ | refine Br.t rfl ?_ | refine Br.f rfl ?_ | refine Fit.au ?_ | refine Need.au ?_ | refine Pick.map (by assumption) ?_ | refine Pick.mapI (by omega) (by assumption) ?_ | refine PickN.mk _ (by assumption) ?_ | refine PickN.mk _ rfl ?_ | refine PickN.au ?_ | refine App.au rfl ?_ | refine App.au (own_map (fun _ => rfl) _) ?_ | refine Both.mk ?_ ?_ | exact True.intro | (refine Br.d (fun h => ?_) (fun h => ?_) <;> try (exfalso; omega)) | (refine Br.nd (fun h => ?_) (fun h => ?_) <;> try (exfalso; omega)) | (refine Br.mk (fun h => ?_) (fun h => ?_) <;> try (exfalso; omega))
  all_goals first
    | (show _ = _
       unfold againstF
       repeat' first | rw [if_pos (by omega)] | rw [if_neg (by omega)]
       rfl)
    | (have h6 : op = 3 ∨ op = 4 ∨ op = 5 ∨ op = 6 ∨ op = 7 ∨ op = 8 := by omega
       rcases h6 with rfl | rfl | rfl | rfl | rfl | rfl
       all_goals
         refine PickN.mk _ rfl ?_
         repeat' first | refine Len.map ?_ | refine Len.nil ?_ | refine Len.cons ?_ | refine Br.t rfl ?_ | refine Br.f rfl ?_ | refine Fit.au ?_ | refine Need.au ?_ | refine Pick.map (by assumption) ?_ | refine Pick.mapI (by omega) (by assumption) ?_ | refine PickN.mk _ (by assumption) ?_ | refine PickN.mk _ rfl ?_ | refine PickN.au ?_ | refine App.au rfl ?_ | refine App.au (own_map (fun _ => rfl) _) ?_ | refine Both.mk ?_ ?_ | exact True.intro
         rfl)
theorem Turned50_spec (op : Int) : FnSpec Try.prog 50 [num op] (fun r => r = num (turnedF op)) := by
  refine spec_of 1000 Try.func50 rfl rfl ?_
  repeat' first | refine Len.map ?_ | refine Len.nil ?_ | refine Len.cons ?_ | refine Br.t rfl ?_ | refine Br.f rfl ?_ | refine Fit.au ?_ | refine Need.au ?_ | refine Pick.map (by assumption) ?_ | refine Pick.mapI (by omega) (by assumption) ?_ | refine PickN.mk _ (by assumption) ?_ | refine PickN.mk _ rfl ?_ | refine PickN.au ?_ | refine App.au rfl ?_ | refine App.au (own_map (fun _ => rfl) _) ?_ | refine Both.mk ?_ ?_ | exact True.intro | (refine Br.d (fun h => ?_) (fun h => ?_) <;> try (exfalso; omega)) | (refine Br.nd (fun h => ?_) (fun h => ?_) <;> try (exfalso; omega)) | (refine Br.mk (fun h => ?_) (fun h => ?_) <;> try (exfalso; omega))
  all_goals first
    | (show _ = _
       unfold turnedF
       repeat' first | rw [if_pos (by omega)] | rw [if_neg (by omega)]
       rfl)
    | (have h6 : op = 3 ∨ op = 4 ∨ op = 5 ∨ op = 6 ∨ op = 7 ∨ op = 8 := by omega
       rcases h6 with rfl | rfl | rfl | rfl | rfl | rfl
       all_goals
         refine PickN.mk _ rfl ?_
         repeat' first | refine Len.map ?_ | refine Len.nil ?_ | refine Len.cons ?_ | refine Br.t rfl ?_ | refine Br.f rfl ?_ | refine Fit.au ?_ | refine Need.au ?_ | refine Pick.map (by assumption) ?_ | refine Pick.mapI (by omega) (by assumption) ?_ | refine PickN.mk _ (by assumption) ?_ | refine PickN.mk _ rfl ?_ | refine PickN.au ?_ | refine App.au rfl ?_ | refine App.au (own_map (fun _ => rfl) _) ?_ | refine Both.mk ?_ ?_ | exact True.intro
         rfl)

def bsl (b : List Ins) : AV := .sl false 9 (b.map Ins.cs)
def aH (f : Fun) (b : List Ins) (e i : Ins) : HP := [(0, .var f.cs), (1, .var [bsl b]), (2, .var Ins.none.cs), (3, .var e.cs), (4, .var i.cs)]
set_option maxHeartbeats 1000000 in
theorem written (f : Fun) (b : List Ins) (e i : Ins) (r : Int) (m : Nat) (hm : m ≤ b.length) (hb : b.length ≤ 1000000) (hi : ∀ i ∈ b, i.fits) {K : AV → HP → Nat → Prop} (hK : ∀ hp nx, subR [] hp (aH f b e i) → K (tru (wrF (b.drop m) r)) hp nx) :
    Run Try.prog 130 (Post.inl 5 K) [.code ((Try.f130.body).getD .skip)] ⟨[(0, num r), (1, num m), (2, .hp 1 0)], aH f b e i, 5, 11⟩ := by
  refine goI 1000 Try.func130 ?_
  repeat' first | (refine SubFrom.map (by omega) ?_) | refine Len.map ?_ | refine Len.nil ?_ | refine Len.cons ?_ | refine Br.t rfl ?_ | refine Br.f rfl ?_ | refine Fit.au ?_ | refine Need.au ?_ | refine Pick.map (by assumption) ?_ | refine Pick.mapI (by omega) (by assumption) ?_ | refine PickN.mk _ (by assumption) ?_ | refine PickN.mk _ rfl ?_ | refine PickN.au ?_ | refine App.au rfl ?_ | refine App.au (own_map (fun _ => rfl) _) ?_ | refine Both.mk ?_ ?_ | exact True.intro
  refine Look.stop (Stop.mk ?_)
  refine run_inlC rfl want_none rfl rfl rfl rfl rfl rfl rfl (goI 1000 Try.func131 ?_)
  repeat' first | refine Len.map ?_ | refine Len.nil ?_ | refine Len.cons ?_ | refine Br.t rfl ?_ | refine Br.f rfl ?_ | refine Fit.au ?_ | refine Need.au ?_ | refine Pick.map (by assumption) ?_ | refine Pick.mapI (by omega) (by assumption) ?_ | refine PickN.mk _ (by assumption) ?_ | refine PickN.mk _ rfl ?_ | refine PickN.au ?_ | refine App.au rfl ?_ | refine App.au (own_map (fun _ => rfl) _) ?_ | refine Both.mk ?_ ?_ | exact True.intro
  refine Look.stop (Stop.mk ?_)
  refine run_inlC rfl want_none rfl rfl rfl rfl rfl rfl rfl (goI 1000 Try.func139 ?_)
  repeat' first | refine Len.map ?_ | refine Len.nil ?_ | refine Len.cons ?_ | refine Br.t rfl ?_ | refine Br.f rfl ?_ | refine Fit.au ?_ | refine Need.au ?_ | refine Pick.map (by assumption) ?_ | refine Pick.mapI (by omega) (by assumption) ?_ | refine PickN.mk _ (by assumption) ?_ | refine PickN.mk _ rfl ?_ | refine PickN.au ?_ | refine App.au rfl ?_ | refine App.au (own_map (fun _ => rfl) _) ?_ | refine Both.mk ?_ ?_ | exact True.intro
  refine Stop.mk (loop_in (g := []) (fun k : Nat => [(0, .sl false 9 ((b.drop m).map Ins.cs)), (1, .fn 132 [.hp 5 0]), (7, num (b.drop m).length), (8, num k)]) (fun _ => (5, .var [num r]) :: aH f b e i) 6 (fun k => k ≤ (b.drop m).length ∧ ∀ x ∈ (b.drop m).take k, defF x ≠ r) (fun k => (b.drop m).length - k) 0 ⟨by omega, by simp⟩ ⟨rfl, (by repeat' first | exact trivial | refine ⟨rfl, ?_⟩ | refine ⟨congrArg (fun n => AV.lit (.int .i64 n)) (by omega), ?_⟩ | refine ⟨congrArg (fun l => some (Row.row 1 l)) (by simp [int1, num, tru]), ?_⟩), (by repeat' first | exact trivial | refine ⟨rfl, ?_⟩ | refine ⟨congrArg (fun n => AV.lit (.int .i64 n)) (by omega), ?_⟩ | refine ⟨congrArg (fun l => some (Row.row 1 l)) (by simp [int1, num, tru]), ?_⟩)⟩ (fun k hk ih => ?_))
  obtain ⟨hk, hw⟩ := hk
  refine goI 1000 Try.func139 ?_
  have hdl : (b.drop m).length ≤ b.length := by rw [List.length_drop]; omega
  repeat' first | refine Len.map ?_ | refine Len.nil ?_ | refine Len.cons ?_ | refine Br.t rfl ?_ | refine Br.f rfl ?_ | refine Fit.au ?_ | refine Need.au ?_ | refine Pick.map (by assumption) ?_ | refine Pick.mapI (by omega) (by assumption) ?_ | refine PickN.mk _ (by assumption) ?_ | refine PickN.mk _ rfl ?_ | refine PickN.au ?_ | refine App.au rfl ?_ | refine App.au (own_map (fun _ => rfl) _) ?_ | refine Both.mk ?_ ?_ | exact True.intro
  refine Br.d (fun h2 => ?_) (fun h2 => ?_)
  · obtain ⟨x, gx, gxm⟩ := getK (l := b.drop m) (k := k) (by omega)
    repeat' first | refine Len.map ?_ | refine Len.nil ?_ | refine Len.cons ?_ | refine Br.t rfl ?_ | refine Br.f rfl ?_ | refine Fit.au ?_ | refine Need.au ?_ | refine Pick.map (by assumption) ?_ | refine Pick.mapI (by omega) (by assumption) ?_ | refine PickN.mk _ (by assumption) ?_ | refine PickN.mk _ rfl ?_ | refine PickN.au ?_ | refine App.au rfl ?_ | refine App.au (own_map (fun _ => rfl) _) ?_ | refine Both.mk ?_ ?_ | exact True.intro
    refine Dyn.mk _ _ rfl rfl rfl (goI 1000 Try.func132 ?_)
    repeat' first | refine Call.eq (Def_spec x (hi x (List.mem_of_mem_drop gxm))) rfl ?_ | refine Draw.mk (ordL [1] [0, 2, 1, 3, 4]) (by decide +kernel) ?_ | refine Len.map ?_ | refine Len.nil ?_ | refine Len.cons ?_ | refine Br.t rfl ?_ | refine Br.f rfl ?_ | refine Fit.au ?_ | refine Need.au ?_ | refine Pick.map (by assumption) ?_ | refine Pick.mapI (by omega) (by assumption) ?_ | refine PickN.mk _ (by assumption) ?_ | refine PickN.mk _ rfl ?_ | refine PickN.au ?_ | refine App.au rfl ?_ | refine App.au (own_map (fun _ => rfl) _) ?_ | refine Both.mk ?_ ?_ | exact True.intro
    refine Br.d (fun h3 => ?_) (fun h3 => ?_)
    · repeat' first | refine Len.map ?_ | refine Len.nil ?_ | refine Len.cons ?_ | refine Br.t rfl ?_ | refine Br.f rfl ?_ | refine Fit.au ?_ | refine Need.au ?_ | refine Pick.map (by assumption) ?_ | refine Pick.mapI (by omega) (by assumption) ?_ | refine PickN.mk _ (by assumption) ?_ | refine PickN.mk _ rfl ?_ | refine PickN.au ?_ | refine App.au rfl ?_ | refine App.au (own_map (fun _ => rfl) _) ?_ | refine Both.mk ?_ ?_ | exact True.intro
      refine goI 1000 Try.func131 ?_
      repeat' first | refine Len.map ?_ | refine Len.nil ?_ | refine Len.cons ?_ | refine Br.t rfl ?_ | refine Br.f rfl ?_ | refine Fit.au ?_ | refine Need.au ?_ | refine Pick.map (by assumption) ?_ | refine Pick.mapI (by omega) (by assumption) ?_ | refine PickN.mk _ (by assumption) ?_ | refine PickN.mk _ rfl ?_ | refine PickN.au ?_ | refine App.au rfl ?_ | refine App.au (own_map (fun _ => rfl) _) ?_ | refine Both.mk ?_ ?_ | exact True.intro
      refine goI 1000 Try.func130 ?_
      repeat' first | refine Len.map ?_ | refine Len.nil ?_ | refine Len.cons ?_ | refine Br.t rfl ?_ | refine Br.f rfl ?_ | refine Fit.au ?_ | refine Need.au ?_ | refine Pick.map (by assumption) ?_ | refine Pick.mapI (by omega) (by assumption) ?_ | refine PickN.mk _ (by assumption) ?_ | refine PickN.mk _ rfl ?_ | refine PickN.au ?_ | refine App.au rfl ?_ | refine App.au (own_map (fun _ => rfl) _) ?_ | refine Both.mk ?_ ?_ | exact True.intro
      have e1 : wrF (b.drop m) r = true := List.any_eq_true.2 ⟨x, gxm, by simpa using h3⟩
      have e2 : (decide (0 ≤ (k : Int))) = wrF (b.drop m) r := by rw [e1]; simp
      show K (tru (decide (0 ≤ (k : Int)))) _ _
      rw [e2]
      refine hK _ _ ?_
      repeat' first | exact trivial | refine ⟨rfl, ?_⟩
    · repeat' first | refine Len.map ?_ | refine Len.nil ?_ | refine Len.cons ?_ | refine Br.t rfl ?_ | refine Br.f rfl ?_ | refine Fit.au ?_ | refine Need.au ?_ | refine Pick.map (by assumption) ?_ | refine Pick.mapI (by omega) (by assumption) ?_ | refine PickN.mk _ (by assumption) ?_ | refine PickN.mk _ rfl ?_ | refine PickN.au ?_ | refine App.au rfl ?_ | refine App.au (own_map (fun _ => rfl) _) ?_ | refine Both.mk ?_ ?_ | exact True.intro
      exact Stop.mk (ih (k + 1) (g := []) _ _ _ ⟨by omega, all_take_succ gx hw h3⟩ (by omega) ⟨rfl, (by repeat' first | exact trivial | refine ⟨rfl, ?_⟩ | refine ⟨congrArg (fun n => AV.lit (.int .i64 n)) (by omega), ?_⟩ | refine ⟨congrArg (fun l => some (Row.row 1 l)) (by simp [int1, num, tru]), ?_⟩), (by repeat' first | exact trivial | refine ⟨rfl, ?_⟩ | refine ⟨congrArg (fun n => AV.lit (.int .i64 n)) (by omega), ?_⟩ | refine ⟨congrArg (fun l => some (Row.row 1 l)) (by simp [int1, num, tru]), ?_⟩)⟩)
  · repeat' first | refine Len.map ?_ | refine Len.nil ?_ | refine Len.cons ?_ | refine Br.t rfl ?_ | refine Br.f rfl ?_ | refine Fit.au ?_ | refine Need.au ?_ | refine Pick.map (by assumption) ?_ | refine Pick.mapI (by omega) (by assumption) ?_ | refine PickN.mk _ (by assumption) ?_ | refine PickN.mk _ rfl ?_ | refine PickN.au ?_ | refine App.au rfl ?_ | refine App.au (own_map (fun _ => rfl) _) ?_ | refine Both.mk ?_ ?_ | exact True.intro
    refine goI 1000 Try.func131 ?_
    repeat' first | refine Len.map ?_ | refine Len.nil ?_ | refine Len.cons ?_ | refine Br.t rfl ?_ | refine Br.f rfl ?_ | refine Fit.au ?_ | refine Need.au ?_ | refine Pick.map (by assumption) ?_ | refine Pick.mapI (by omega) (by assumption) ?_ | refine PickN.mk _ (by assumption) ?_ | refine PickN.mk _ rfl ?_ | refine PickN.au ?_ | refine App.au rfl ?_ | refine App.au (own_map (fun _ => rfl) _) ?_ | refine Both.mk ?_ ?_ | exact True.intro
    refine goI 1000 Try.func130 ?_
    repeat' first | refine Len.map ?_ | refine Len.nil ?_ | refine Len.cons ?_ | refine Br.t rfl ?_ | refine Br.f rfl ?_ | refine Fit.au ?_ | refine Need.au ?_ | refine Pick.map (by assumption) ?_ | refine Pick.mapI (by omega) (by assumption) ?_ | refine PickN.mk _ (by assumption) ?_ | refine PickN.mk _ rfl ?_ | refine PickN.au ?_ | refine App.au rfl ?_ | refine App.au (own_map (fun _ => rfl) _) ?_ | refine Both.mk ?_ ?_ | exact True.intro
    rw [take_all (by omega)] at hw
    have e1 : wrF (b.drop m) r = false := by
      unfold wrF
      rw [List.any_eq_false]
      intro y hy
      simpa using hw y hy
    have e2 : (decide (0 ≤ (-1 : Int))) = wrF (b.drop m) r := by rw [e1]; simp
    show K (tru (decide (0 ≤ (-1 : Int)))) _ _
    rw [e2]
    refine hK _ _ ?_
    repeat' first | exact trivial | refine ⟨rfl, ?_⟩
end Go.Proofs.Ytnfkdilmoppbpaa

/- Who writes a register in a block, as the document says it, by contracts. -/
namespace Go.Proofs.Ytnfkdilmoppbpaa
open Go.Ax
set_option maxRecDepth 10000
set_option linter.unusedVariables false

def lastI (b : List Ins) (x : Int) : Nat → Int
  | 0 => -1
  | n + 1 => match b[n]? with
    | some i => if def15 i = x then (n : Int) else lastI b x n
    | none => lastI b x n
theorem lastI_succ {b : List Ins} {x : Int} {n : Nat} {i : Ins} (gi : b[n]? = some i) : lastI b x (n + 1) = if def15 i = x then (n : Int) else lastI b x n := by simp only [lastI, gi]
theorem last_spec (b : List Ins) (x : Int) (hb : b.length ≤ 1000000000) (hi : ∀ i ∈ b, i.fits) : FnSpec Try.prog 129 [bsl b, num x] (fun r => r = num (lastI b x (b.length - 1))) := by
  refine spec_of 1000 Try.func129 rfl rfl ?_
  repeat' first | refine Len.map ?_ | refine Len.nil ?_ | refine Len.cons ?_ | refine Br.t rfl ?_ | refine Br.f rfl ?_ | refine Fit.au ?_ | refine Need.au ?_ | refine Pick.map (by assumption) ?_ | refine Pick.mapI (by omega) (by assumption) ?_ | refine PickN.mk _ (by assumption) ?_ | refine PickN.mk _ rfl ?_ | refine PickN.au ?_ | refine App.au rfl ?_ | refine App.au (own_map (fun _ => rfl) _) ?_ | refine Both.mk ?_ ?_ | exact True.intro
  refine Stop.mk (loop_in (g := []) (fun k : Nat => [(0, bsl b), (1, num x), (5, num (lastI b x k)), (6, num k)]) (fun k => []) 0 (fun k => k ≤ b.length - 1) (fun k => b.length - k) 0 (by omega) ⟨rfl, (by repeat' first | exact trivial | refine ⟨rfl, ?_⟩ | refine ⟨congrArg (fun n => AV.lit (.int .i64 n)) (by omega), ?_⟩ | refine ⟨congrArg (fun l => some (Row.row 1 l)) (by simp [int1, num, tru]), ?_⟩), (by repeat' first | exact trivial | refine ⟨rfl, ?_⟩ | refine ⟨congrArg (fun n => AV.lit (.int .i64 n)) (by omega), ?_⟩ | refine ⟨congrArg (fun l => some (Row.row 1 l)) (by simp [int1, num, tru]), ?_⟩)⟩ (fun k hk ih => ?_))
  refine go 1000 Try.func129 ?_
  repeat' first | refine Len.map ?_ | refine Len.nil ?_ | refine Len.cons ?_ | refine Br.t rfl ?_ | refine Br.f rfl ?_ | refine Fit.au ?_ | refine Need.au ?_ | refine Pick.map (by assumption) ?_ | refine Pick.mapI (by omega) (by assumption) ?_ | refine PickN.mk _ (by assumption) ?_ | refine PickN.mk _ rfl ?_ | refine PickN.au ?_ | refine App.au rfl ?_ | refine App.au (own_map (fun _ => rfl) _) ?_ | refine Both.mk ?_ ?_ | exact True.intro
  refine Br.d (fun h2 => ?_) (fun h2 => ?_)
  · obtain ⟨i, gi, gim⟩ := getK (l := b) (k := k) (by omega)
    have hl := lastI_succ (x := x) gi
    repeat' first | refine Pick.map gi ?_ | refine Call.eq (Def15_spec i (hi i gim)) rfl ?_ | refine Len.map ?_ | refine Len.nil ?_ | refine Len.cons ?_ | refine Br.t rfl ?_ | refine Br.f rfl ?_ | refine Fit.au ?_ | refine Need.au ?_ | refine Pick.map (by assumption) ?_ | refine Pick.mapI (by omega) (by assumption) ?_ | refine PickN.mk _ (by assumption) ?_ | refine PickN.mk _ rfl ?_ | refine PickN.au ?_ | refine App.au rfl ?_ | refine App.au (own_map (fun _ => rfl) _) ?_ | refine Both.mk ?_ ?_ | exact True.intro
    refine Br.d (fun h3 => ?_) (fun h3 => ?_)
    · rw [if_pos h3] at hl
      repeat' first | refine Len.map ?_ | refine Len.nil ?_ | refine Len.cons ?_ | refine Br.t rfl ?_ | refine Br.f rfl ?_ | refine Fit.au ?_ | refine Need.au ?_ | refine Pick.map (by assumption) ?_ | refine Pick.mapI (by omega) (by assumption) ?_ | refine PickN.mk _ (by assumption) ?_ | refine PickN.mk _ rfl ?_ | refine PickN.au ?_ | refine App.au rfl ?_ | refine App.au (own_map (fun _ => rfl) _) ?_ | refine Both.mk ?_ ?_ | exact True.intro
      refine Stop.mk (ih (k + 1) (g := []) _ _ _ (by omega) (by omega) ?_)
      rw [hl]
      exact ⟨rfl, (by repeat' first | exact trivial | refine ⟨rfl, ?_⟩ | refine ⟨congrArg (fun n => AV.lit (.int .i64 n)) (by omega), ?_⟩ | refine ⟨congrArg (fun l => some (Row.row 1 l)) (by simp [int1, num, tru]), ?_⟩), (by repeat' first | exact trivial | refine ⟨rfl, ?_⟩ | refine ⟨congrArg (fun n => AV.lit (.int .i64 n)) (by omega), ?_⟩ | refine ⟨congrArg (fun l => some (Row.row 1 l)) (by simp [int1, num, tru]), ?_⟩)⟩
    · rw [if_neg h3] at hl
      repeat' first | refine Len.map ?_ | refine Len.nil ?_ | refine Len.cons ?_ | refine Br.t rfl ?_ | refine Br.f rfl ?_ | refine Fit.au ?_ | refine Need.au ?_ | refine Pick.map (by assumption) ?_ | refine Pick.mapI (by omega) (by assumption) ?_ | refine PickN.mk _ (by assumption) ?_ | refine PickN.mk _ rfl ?_ | refine PickN.au ?_ | refine App.au rfl ?_ | refine App.au (own_map (fun _ => rfl) _) ?_ | refine Both.mk ?_ ?_ | exact True.intro
      refine Stop.mk (ih (k + 1) (g := []) _ _ _ (by omega) (by omega) ?_)
      rw [hl]
      exact ⟨rfl, (by repeat' first | exact trivial | refine ⟨rfl, ?_⟩ | refine ⟨congrArg (fun n => AV.lit (.int .i64 n)) (by omega), ?_⟩ | refine ⟨congrArg (fun l => some (Row.row 1 l)) (by simp [int1, num, tru]), ?_⟩), (by repeat' first | exact trivial | refine ⟨rfl, ?_⟩ | refine ⟨congrArg (fun n => AV.lit (.int .i64 n)) (by omega), ?_⟩ | refine ⟨congrArg (fun l => some (Row.row 1 l)) (by simp [int1, num, tru]), ?_⟩)⟩
  · repeat' first | refine Len.map ?_ | refine Len.nil ?_ | refine Len.cons ?_ | refine Br.t rfl ?_ | refine Br.f rfl ?_ | refine Fit.au ?_ | refine Need.au ?_ | refine Pick.map (by assumption) ?_ | refine Pick.mapI (by omega) (by assumption) ?_ | refine PickN.mk _ (by assumption) ?_ | refine PickN.mk _ rfl ?_ | refine PickN.au ?_ | refine App.au rfl ?_ | refine App.au (own_map (fun _ => rfl) _) ?_ | refine Both.mk ?_ ?_ | exact True.intro
    rw [show b.length - 1 = k by omega]
    rfl

def wroteI (b : List Ins) (n : Nat) (x : Int) : Bool := (b.take n).any fun i => decide (def15 i = x)
theorem writes134_spec (b : List Ins) (n : Nat) (x : Int) (hn : n ≤ b.length) (hb : b.length ≤ 1000000000) (hi : ∀ i ∈ b, i.fits) : FnSpec Try.prog 134 [bsl b, num n, num x] (fun r => r = tru (wroteI b n x)) := by
  refine spec_of 1000 Try.func134 rfl rfl ?_
  repeat' first | refine Len.map ?_ | refine Len.nil ?_ | refine Len.cons ?_ | refine Br.t rfl ?_ | refine Br.f rfl ?_ | refine Fit.au ?_ | refine Need.au ?_ | refine Pick.map (by assumption) ?_ | refine Pick.mapI (by omega) (by assumption) ?_ | refine PickN.mk _ (by assumption) ?_ | refine PickN.mk _ rfl ?_ | refine PickN.au ?_ | refine App.au rfl ?_ | refine App.au (own_map (fun _ => rfl) _) ?_ | refine Both.mk ?_ ?_ | exact True.intro
  refine Stop.mk (loop_in (g := []) (fun k : Nat => [(0, bsl b), (1, num n), (2, num x), (7, num k)]) (fun k => []) 0 (fun k => k ≤ n ∧ wroteI b k x = false) (fun k => n - k) 0 ⟨by omega, rfl⟩ ⟨rfl, (by repeat' first | exact trivial | refine ⟨rfl, ?_⟩ | refine ⟨congrArg (fun n => AV.lit (.int .i64 n)) (by omega), ?_⟩ | refine ⟨congrArg (fun l => some (Row.row 1 l)) (by simp [int1, num, tru]), ?_⟩), (by repeat' first | exact trivial | refine ⟨rfl, ?_⟩ | refine ⟨congrArg (fun n => AV.lit (.int .i64 n)) (by omega), ?_⟩ | refine ⟨congrArg (fun l => some (Row.row 1 l)) (by simp [int1, num, tru]), ?_⟩)⟩ (fun k hk ih => ?_))
  obtain ⟨hk, hw⟩ := hk
  refine go 1000 Try.func134 ?_
  repeat' first | refine Len.map ?_ | refine Len.nil ?_ | refine Len.cons ?_ | refine Br.t rfl ?_ | refine Br.f rfl ?_ | refine Fit.au ?_ | refine Need.au ?_ | refine Pick.map (by assumption) ?_ | refine Pick.mapI (by omega) (by assumption) ?_ | refine PickN.mk _ (by assumption) ?_ | refine PickN.mk _ rfl ?_ | refine PickN.au ?_ | refine App.au rfl ?_ | refine App.au (own_map (fun _ => rfl) _) ?_ | refine Both.mk ?_ ?_ | exact True.intro
  refine Br.d (fun h2 => ?_) (fun h2 => ?_)
  · obtain ⟨i, gi, gim⟩ := getK (l := b) (k := k) (by omega)
    have hs : wroteI b (k + 1) x = (wroteI b k x || decide (def15 i = x)) := by unfold wroteI; rw [take_succ gi, List.any_append]; simp
    repeat' first | refine Pick.map gi ?_ | refine Call.eq (Def15_spec i (hi i gim)) rfl ?_ | refine Len.map ?_ | refine Len.nil ?_ | refine Len.cons ?_ | refine Br.t rfl ?_ | refine Br.f rfl ?_ | refine Fit.au ?_ | refine Need.au ?_ | refine Pick.map (by assumption) ?_ | refine Pick.mapI (by omega) (by assumption) ?_ | refine PickN.mk _ (by assumption) ?_ | refine PickN.mk _ rfl ?_ | refine PickN.au ?_ | refine App.au rfl ?_ | refine App.au (own_map (fun _ => rfl) _) ?_ | refine Both.mk ?_ ?_ | exact True.intro
    refine Br.d (fun h3 => ?_) (fun h3 => ?_)
    · repeat' first | refine Len.map ?_ | refine Len.nil ?_ | refine Len.cons ?_ | refine Br.t rfl ?_ | refine Br.f rfl ?_ | refine Fit.au ?_ | refine Need.au ?_ | refine Pick.map (by assumption) ?_ | refine Pick.mapI (by omega) (by assumption) ?_ | refine PickN.mk _ (by assumption) ?_ | refine PickN.mk _ rfl ?_ | refine PickN.au ?_ | refine App.au rfl ?_ | refine App.au (own_map (fun _ => rfl) _) ?_ | refine Both.mk ?_ ?_ | exact True.intro
      have : wroteI b n x = true := by
        unfold wroteI
        rw [List.any_eq_true]
        refine ⟨i, List.mem_of_getElem? (i := k) (by rw [List.getElem?_take, if_pos (by omega)]; exact gi), decide_eq_true h3⟩
      rw [this]; rfl
    · repeat' first | refine Len.map ?_ | refine Len.nil ?_ | refine Len.cons ?_ | refine Br.t rfl ?_ | refine Br.f rfl ?_ | refine Fit.au ?_ | refine Need.au ?_ | refine Pick.map (by assumption) ?_ | refine Pick.mapI (by omega) (by assumption) ?_ | refine PickN.mk _ (by assumption) ?_ | refine PickN.mk _ rfl ?_ | refine PickN.au ?_ | refine App.au rfl ?_ | refine App.au (own_map (fun _ => rfl) _) ?_ | refine Both.mk ?_ ?_ | exact True.intro
      refine Stop.mk (ih (k + 1) (g := []) _ _ _ ⟨by omega, ?_⟩ (by omega) ⟨rfl, (by repeat' first | exact trivial | refine ⟨rfl, ?_⟩ | refine ⟨congrArg (fun n => AV.lit (.int .i64 n)) (by omega), ?_⟩ | refine ⟨congrArg (fun l => some (Row.row 1 l)) (by simp [int1, num, tru]), ?_⟩), (by repeat' first | exact trivial | refine ⟨rfl, ?_⟩ | refine ⟨congrArg (fun n => AV.lit (.int .i64 n)) (by omega), ?_⟩ | refine ⟨congrArg (fun l => some (Row.row 1 l)) (by simp [int1, num, tru]), ?_⟩)⟩)
      rw [hs, hw, decide_eq_false h3]; rfl
  · repeat' first | refine Len.map ?_ | refine Len.nil ?_ | refine Len.cons ?_ | refine Br.t rfl ?_ | refine Br.f rfl ?_ | refine Fit.au ?_ | refine Need.au ?_ | refine Pick.map (by assumption) ?_ | refine Pick.mapI (by omega) (by assumption) ?_ | refine PickN.mk _ (by assumption) ?_ | refine PickN.mk _ rfl ?_ | refine PickN.au ?_ | refine App.au rfl ?_ | refine App.au (own_map (fun _ => rfl) _) ?_ | refine Both.mk ?_ ?_ | exact True.intro
    rw [show n = k by omega, hw]
    rfl
end Go.Proofs.Ytnfkdilmoppbpaa

/- Going through blocks, each once: what is marked. No program is in sight here. -/
namespace Go.Proofs.Ytnfkdilmoppbpaa
open Go.Ax
def Grows (l l' : List Bool) : Prop := l'.length = l.length ∧ ∀ u : Nat, l[u]? = some true → l'[u]? = some true
theorem Grows.refl {l : List Bool} : Grows l l := ⟨rfl, fun _ h => h⟩
theorem Grows.trans {a b c : List Bool} (h : Grows a b) (g : Grows b c) : Grows a c := ⟨g.1.trans h.1, fun u hu => g.2 u (h.2 u hu)⟩
theorem Grows.set {l : List Bool} {k : Nat} : Grows l (l.set k true) := ⟨by simp, fun _ h => set_keep h⟩
theorem Grows.falses : ∀ {l l' : List Bool}, Grows l l' → falses l' ≤ falses l
  | [], [], _ => Nat.le_refl _
  | [], _ :: _, h => by simp [Grows] at h
  | _ :: _, [], h => by simp [Grows] at h
  | a :: l, b :: l', ⟨h1, h2⟩ => by
    have ih : Go.Proofs.Ytnfkdilmoppbpaa.falses l' ≤ Go.Proofs.Ytnfkdilmoppbpaa.falses l := Grows.falses ⟨by simpa using h1, fun u hu => by simpa using h2 (u + 1) (by simpa using hu)⟩
    have h0 := h2 0
    unfold Go.Proofs.Ytnfkdilmoppbpaa.falses at *
    simp only [List.count_cons]
    cases a <;> cases b <;> simp_all <;> omega
/-- What going into a block comes to. -/
structure Into (s : List (List Int)) (x : Int) (l : List Bool) (k : Int) (l' : List Bool) : Prop where
  grows : Grows l l'
  sound : ∀ u : Nat, l'[u]? = some true → l[u]? = some true ∨ Reaches s x u
  here : k ≠ x → l'[k.toNat]? = some true
  shut : ∀ u : Nat, l'[u]? = some true → l[u]? ≠ some true → ∀ r, s[u]? = some r → ∀ t ∈ r, t ≠ x → l'[t.toNat]? = some true
/-- The same, within its loop. -/
structure Mid (s : List (List Int)) (x : Int) (l : List Bool) (k : Nat) (j : Nat) (l' : List Bool) : Prop where
  grows : Grows (l.set k true) l'
  sound : ∀ u : Nat, l'[u]? = some true → l[u]? = some true ∨ Reaches s x u
  shut : ∀ u : Nat, u ≠ k → l'[u]? = some true → l[u]? ≠ some true → ∀ r, s[u]? = some r → ∀ t ∈ r, t ≠ x → l'[t.toNat]? = some true
  done : ∀ r, s[k]? = some r → ∀ (i : Nat) (t : Int), i < j → r[i]? = some t → t ≠ x → l'[t.toNat]? = some true
theorem Into.stays {s : List (List Int)} {x : Int} {l : List Bool} {k : Int} (h : k ≠ x → l[k.toNat]? = some true) : Into s x l k l :=
  ⟨.refl, fun _ h => .inl h, h, fun u h1 h2 => absurd h1 h2⟩
theorem Mid.start {s : List (List Int)} {x : Int} {l : List Bool} {k : Nat} (h : Reaches s x k) : Mid s x l k 0 (l.set k true) := by
  refine ⟨.refl, fun u hu => ?_, fun u hne hu hn => ?_, fun _ _ i _ hi => absurd hi (Nat.not_lt_zero _)⟩
  · rw [List.getElem?_set] at hu
    split at hu
    · rename_i e; subst e; exact .inr h
    · exact .inl hu
  · rw [List.getElem?_set, if_neg (fun e => hne e.symm)] at hu
    exact absurd hu hn
theorem Mid.next {s : List (List Int)} {x : Int} {l l1 l2 : List Bool} {k j : Nat} {r : List Int} {t : Int} (h : Mid s x l k j l1) (hr : s[k]? = some r) (ht : r[j]? = some t) (hi : Into s x l1 t l2) : Mid s x l k (j + 1) l2 := by
  refine ⟨h.grows.trans hi.grows, fun u hu => ?_, fun u hne hu hn r' hr' t' ht' hx => ?_, fun r' hr' i t' hlt ht' hx => ?_⟩
  · rcases hi.sound u hu with h1 | h1
    · exact h.sound u h1
    · exact .inr h1
  · by_cases h1 : l1[u]? = some true
    · exact hi.grows.2 _ (h.shut u hne h1 hn r' hr' t' ht' hx)
    · exact hi.shut u hu h1 r' hr' t' ht' hx
  · rw [hr] at hr'; cases hr'
    by_cases e : i = j
    · subst e
      rw [ht] at ht'; cases ht'
      exact hi.here hx
    · exact hi.grows.2 _ (h.done r hr i t' (by omega) ht' hx)
theorem Mid.end {s : List (List Int)} {x : Int} {l l1 : List Bool} {k j : Nat} {r : List Int} (h : Mid s x l k j l1) (hr : s[k]? = some r) (hj : r.length ≤ j) (hk : k < l.length) : Into s x l (k : Int) l1 := by
  have hm : l1[k]? = some true := h.grows.2 k (by rw [List.getElem?_set]; simp [hk])
  refine ⟨Grows.set.trans h.grows, h.sound, fun _ => by simpa using hm, fun u hu hn r' hr' t ht hx => ?_⟩
  by_cases e : u = k
  · subst e
    rw [hr] at hr'; cases hr'
    obtain ⟨i, hi⟩ := List.getElem?_of_mem ht
    have := (List.getElem?_eq_some_iff.1 hi).1
    exact h.done r hr i t (by omega) hi hx
  · exact h.shut u e hu hn r' hr' t ht hx
theorem Into.marks {s : List (List Int)} {x : Int} {l' : List Bool} (hs : Closed s) (h : Into s x (List.replicate s.length false) 0 l') : Marks s x l' := by
  have hf : ∀ u : Nat, (List.replicate s.length false)[u]? ≠ some true := fun u hu => by rw [List.getElem?_replicate] at hu; split at hu <;> simp at hu
  refine marks_of hs ⟨by have := h.grows.1; simpa using this, fun u hu => (h.sound u hu).resolve_left (hf u)⟩ (fun _ hx => by have := h.here (fun e => hx e.symm); simpa using this) ?_
  intro a r b t ha hb _ hl hne
  exact h.shut a hl (hf a) r ha t (List.mem_of_getElem? hb) hne
theorem marks_nil {x : Int} : Marks [] x [] := ⟨rfl, fun t => ⟨fun h => by simp at h, fun h => by cases h with | zero h => exact absurd rfl h | step _ h => simp at h⟩⟩
end Go.Proofs.Ytnfkdilmoppbpaa

/- What is inserted into a function, as the program reckons it. No program is in sight here. -/
namespace Go.Proofs.Ytnfkdilmoppbpaa
open Go.Ax
def Ins.ocs (i : Ins) : List AV := [num i.op, num i.dst, num i.a, num i.b, num i.c, num i.n, num i.m, num i.site, .osl 1 (i.args.map int1)]
def oblk (b : List Ins) : List AV := [.osl 9 (b.map Ins.ocs)]
def Fun.ocs (f : Fun) : List AV := [.lit (.string f.name), num f.params, num f.ret, .osl 1 (f.regs.map int1), .osl 1 (f.blocks.map oblk)]
def piIns (x y m : Int) : Ins := ⟨45, x, x, y, 0, 0, m, 0, []⟩
def tellI (op : Int) (i : Ins) : List Ins := if op = 4 then [] else piIns i.a i.b op :: if i.a = i.b then [] else [piIns i.b i.a (turnedF op)]
def tellB (f : Fun) (k : Nat) (b : List Ins) : List Ins :=
  if (b.getLastD Ins.none).op ≠ 42 then [] else
  if (askF f b).2 = false then [] else
  if (askF f b).1.op = 26 then (if (b.getLastD Ins.none).n = k then [] else [piIns (askF f b).1.a 0 21]) else
  tellI (if (b.getLastD Ins.none).n = k then (askF f b).1.op else againstF (askF f b).1.op) (askF f b).1
/-- What stands at a block's beginning. -/
def toldF (f : Fun) (k : Nat) (p : List (List Int)) : List Ins := if k = 0 then [] else match p[k]? with
  | some [x] => tellB f k (f.blocks.getD x.toNat [])
  | _ => []
def aft (i : Ins) : List Ins := i :: if i.op = 32 then [piIns i.b i.a 20] else []
def insB (f : Fun) (p : List (List Int)) (k : Nat) (b : List Ins) : List Ins := toldF f k p ++ b.flatMap aft
def insF (f : Fun) : Fun := { f with blocks := f.blocks.mapIdx (insB f (predsF (succsF f))) }
def Fun.okP (f : Fun) : Prop := ∀ b ∈ f.blocks, ∀ i ∈ b, right15 i = true ∧ i.args.length ≤ 1000000 ∧ ∀ u ∈ usesF i, u < f.regs.length
theorem tellI_len (op : Int) (i : Ins) : (tellI op i).length ≤ 2 := by unfold tellI; split <;> (try split) <;> simp
theorem tellB_len (f : Fun) (k : Nat) (b : List Ins) : (tellB f k b).length ≤ 2 := by
  unfold tellB
  repeat' split
  all_goals first | exact tellI_len _ _ | simp
theorem toldF_len (f : Fun) (k : Nat) (p : List (List Int)) : (toldF f k p).length ≤ 2 := by
  unfold toldF
  repeat' split
  all_goals first | exact tellB_len _ _ _ | simp
theorem aft_len (b : List Ins) : (b.flatMap aft).length ≤ 2 * b.length := by
  induction b with
  | nil => simp
  | cons i b ih =>
    rw [List.flatMap_cons, List.length_append, List.length_cons]
    have : (aft i).length ≤ 2 := by unfold aft; split <;> simp
    omega
theorem flatMap_take_succ {α β : Type} {l : List α} {k : Nat} {x : α} (g : α → List β) (h : l[k]? = some x) : (l.take (k + 1)).flatMap g = (l.take k).flatMap g ++ g x := by
  rw [take_succ h, List.flatMap_append]; simp
end Go.Proofs.Ytnfkdilmoppbpaa

/- A tidy function, as the program reckons it. No program is in sight here. -/
namespace Go.Proofs.Ytnfkdilmoppbpaa
open Go.Ax
open Classical in
noncomputable def marksF (s : List (List Int)) (x : Int) : List Bool := (List.range s.length).map fun (k : Nat) => decide (Reaches s x k)
theorem marksF_len (s : List (List Int)) (x : Int) : (marksF s x).length = s.length := by unfold marksF; simp
theorem marksF_at {s : List (List Int)} {x : Int} {k : Nat} : (marksF s x)[k]? = some true ↔ k < s.length ∧ Reaches s x k := by
  unfold marksF
  rw [List.getElem?_map]
  by_cases h : k < s.length
  · rw [List.getElem?_range h]; simp [h]
  · rw [List.getElem?_eq_none (by simpa using h)]; simp [h]
theorem Marks.eq {s : List (List Int)} {x : Int} {l : List Bool} (h : Marks s x l) : l = marksF s x := by
  refine List.ext_getElem? fun k => ?_
  by_cases hk : k < s.length
  · obtain ⟨b, hb⟩ : ∃ b, l[k]? = some b := ⟨l[k]'(by rw [h.1]; exact hk), by simp [h.1, hk]⟩
    obtain ⟨c, hc⟩ : ∃ c, (marksF s x)[k]? = some c := ⟨(marksF s x)[k]'(by rw [marksF_len]; exact hk), by simp [marksF_len, hk]⟩
    have h1 := h.2 k
    have h2 := marksF_at (s := s) (x := x) (k := k)
    rw [hb] at h1 ⊢; rw [hc] at h2 ⊢
    cases b <;> cases c <;> simp_all
  · rw [List.getElem?_eq_none (by rw [h.1]; omega), List.getElem?_eq_none (by rw [marksF_len]; omega)]
/-- New numbers. -/
def numF : Int → List Bool → List Int
  | _, [] => []
  | n, true :: l => n :: numF (n + 1) l
  | n, false :: l => -1 :: numF n l
theorem numF_len : ∀ (l : List Bool) (n : Int), (numF n l).length = l.length
  | [], _ => rfl
  | true :: l, n => by simp [numF, numF_len l]
  | false :: l, n => by simp [numF, numF_len l]
theorem numF_app : ∀ (l : List Bool) (n : Int) (b : Bool), numF n (l ++ [b]) = numF n l ++ [if b = true then n + (l.count true : Nat) else -1]
  | [], n, b => by cases b <;> simp [numF]
  | true :: l, n, b => by
    simp only [List.cons_append, numF, numF_app l]
    congr 2
    cases b
    · simp
    · simp; omega
  | false :: l, n, b => by
    simp only [List.cons_append, numF, numF_app l]
    simp
noncomputable def mapF (f : Fun) : List Int := numF 0 (marksF (succsF f) (-1))
theorem mapF_len (f : Fun) : (mapF f).length = f.blocks.length := by unfold mapF; rw [numF_len, marksF_len, succsF_len]
/-- New numbers, so far. -/
def numK (l : List Bool) (k : Nat) : List Int := numF 0 (l.take k) ++ List.replicate (l.length - k) 0
theorem numK_zero (l : List Bool) : numK l 0 = List.replicate l.length 0 := by unfold numK; simp [numF]
theorem numK_all (l : List Bool) : numK l l.length = numF 0 l := by unfold numK; simp
theorem numK_len (l : List Bool) (k : Nat) (h : k ≤ l.length) : (numK l k).length = l.length := by unfold numK; rw [List.length_append, numF_len, List.length_take, List.length_replicate]; omega
theorem numK_at {l : List Bool} {k : Nat} {b : Bool} (h : l[k]? = some b) (v : Int) : (numK l k).set k v = numF 0 (l.take k) ++ v :: List.replicate (l.length - (k + 1)) 0 := by
  have hk := (List.getElem?_eq_some_iff.1 h).1
  unfold numK
  rw [show l.length - k = (l.length - (k + 1)) + 1 by omega, List.replicate_succ, List.set_append_right _ _ (by rw [numF_len, List.length_take]; omega)]
  rw [numF_len, List.length_take, show k - min k l.length = 0 by omega]
  rfl
theorem numK_succ {l : List Bool} {k : Nat} {b : Bool} (h : l[k]? = some b) : (numK l k).set k (if b = true then ((l.take k).count true : Nat) else -1) = numK l (k + 1) := by
  rw [numK_at h]
  unfold numK
  rw [take_succ h, numF_app]
  simp
end Go.Proofs.Ytnfkdilmoppbpaa
