/- Whether an instruction is right, as the document's answer says it, by a contract. -/
import Derived.Test.YtdgibhndjdgllaaDoorG06
import Derived.Test.YtdgibhndjdgllaaDoorG03
set_option linter.unusedVariables false
set_option linter.unusedSimpArgs false

namespace Go.Proofs.YtdgibhndjdgllaaDoor
open Go.Ax
set_option maxRecDepth 10000
set_option linter.unusedVariables false

set_option maxHeartbeats 4000000 in
theorem Right15_spec (i : Ins) (hi : i.fits) : FnSpec Tryd.prog 83 [insA i] (fun r => r = tru (right15 i)) := by
  have hi' : i.args.length < 9223372036854775807 := hi
  refine spec_of 1 Tryd.func83 rfl rfl ?_
  refine Stop.mk ?_
  apply join (fun _ : Unit => [(1, .hp 0 0)]) (fun _ => [(0, .var i.cs)]) 1 (fun _ => opF i.op = true)
  · intro jn
    refine go 28 Tryd.func83 ?_
    repeat' first | refine Len.map ?_ | refine Len.nil ?_ | refine Len.cons ?_ | refine Br.t rfl ?_ | refine Br.f rfl ?_ | refine Fit.au ?_ | refine Cv.au ?_ | refine Need.ne ?_ | refine Need.au ?_ | refine Pick.map (by assumption) ?_ | refine Pick.mapI (by omega) (by assumption) ?_ | refine PickN.mk _ (by assumption) ?_ | refine PickN.mk _ rfl ?_ | refine PickN.au ?_ | refine App.au rfl ?_ | refine App.au (own_map (fun _ => rfl) _) ?_ | refine Both.mk ?_ ?_ | exact True.intro | refine Br.d (fun h => ?_) (fun h => ?_) | refine Br.nd (fun h => ?_) (fun h => ?_) | refine Br.mk (fun h => ?_) (fun h => ?_)
    all_goals first
      | exact Stop.mk (jn () _ _ _ (g := []) ⟨rfl, (by repeat' first | exact trivial | refine ⟨rfl, ?_⟩ | refine ⟨congrArg (fun n => AV.lit (.int .i64 n)) (by omega), ?_⟩ | refine ⟨congrArg (fun l => some (Row.row 1 l)) (by simp [int1, num, tru]), ?_⟩), (by repeat' first | exact trivial | refine ⟨rfl, ?_⟩ | refine ⟨congrArg (fun n => AV.lit (.int .i64 n)) (by omega), ?_⟩ | refine ⟨congrArg (fun l => some (Row.row 1 l)) (by simp [int1, num, tru]), ?_⟩)⟩ (by unfold opF; simp; omega))
      | (refine Stop.mk (go 1000 Tryd.func83 ?_)
         show _ = _
         have : opF i.op = false := by unfold opF; simp; omega
         simp [asRes, tru, right15, this])
  · intro _ ho
    apply join (fun b : Bool => [(1, .hp 0 0), (3, tru b)]) (fun _ => [(0, .var i.cs)]) 1 (fun b => b = abF i.op)
    · intro jn
      refine go 17 Tryd.func83 ?_
      repeat' first | refine Call.eq (two_spec _) rfl ?_ | refine Len.map ?_ | refine Len.nil ?_ | refine Len.cons ?_ | refine Br.t rfl ?_ | refine Br.f rfl ?_ | refine Fit.au ?_ | refine Cv.au ?_ | refine Need.ne ?_ | refine Need.au ?_ | refine Pick.map (by assumption) ?_ | refine Pick.mapI (by omega) (by assumption) ?_ | refine PickN.mk _ (by assumption) ?_ | refine PickN.mk _ rfl ?_ | refine PickN.au ?_ | refine App.au rfl ?_ | refine App.au (own_map (fun _ => rfl) _) ?_ | refine Both.mk ?_ ?_ | exact True.intro | refine Br.d (fun h => ?_) (fun h => ?_) | refine Br.nd (fun h => ?_) (fun h => ?_) | refine Br.mk (fun h => ?_) (fun h => ?_)
      all_goals exact Stop.mk (jn _ _ _ _ (g := []) ⟨rfl, (by repeat' first | exact trivial | refine ⟨rfl, ?_⟩ | refine ⟨congrArg (fun n => AV.lit (.int .i64 n)) (by omega), ?_⟩ | refine ⟨congrArg (fun l => some (Row.row 1 l)) (by simp [int1, num, tru]), ?_⟩), (by repeat' first | exact trivial | refine ⟨rfl, ?_⟩ | refine ⟨congrArg (fun n => AV.lit (.int .i64 n)) (by omega), ?_⟩ | refine ⟨congrArg (fun l => some (Row.row 1 l)) (by simp [int1, num, tru]), ?_⟩)⟩ (by unfold abF; simp_all))
    · intro b hb
      apply join (fun _ : Unit => [(1, .hp 0 0)]) (fun _ => [(0, .var i.cs)]) 1 (fun _ => fitsF i = true)
      · intro jn
        refine go 5 Tryd.func83 ?_
        repeat' first | refine Draw.mk (ordL [2, 5, 12, 16, 33, 42, 48, 51] [0, 1, 3, 4, 2, 5, 6, 7, 8, 9, 10, 11, 14, 15, 12, 13, 16, 17, 18, 19, 20, 21, 22, 23, 24, 25, 26, 27, 28, 29, 30, 31, 32, 33, 34, 35, 36, 37, 38, 39, 40, 41, 42, 43, 44, 45, 46, 47, 49, 50, 48, 51, 52, 53]) (by decide +kernel) ?_ | refine Call.eq (one_spec _) rfl ?_ | refine Call.eq (Writes_spec _) rfl ?_ | refine Call.eq (Check_spec _) rfl ?_ | refine Call.eq (fits_spec _ _) rfl ?_ | refine Len.map ?_ | refine Len.nil ?_ | refine Len.cons ?_ | refine Br.t rfl ?_ | refine Br.f rfl ?_ | refine Fit.au ?_ | refine Cv.au ?_ | refine Need.ne ?_ | refine Need.au ?_ | refine Pick.map (by assumption) ?_ | refine Pick.mapI (by omega) (by assumption) ?_ | refine PickN.mk _ (by assumption) ?_ | refine PickN.mk _ rfl ?_ | refine PickN.au ?_ | refine App.au rfl ?_ | refine App.au (own_map (fun _ => rfl) _) ?_ | refine Both.mk ?_ ?_ | exact True.intro | refine Br.d (fun h => ?_) (fun h => ?_) | refine Br.nd (fun h => ?_) (fun h => ?_) | refine Br.mk (fun h => ?_) (fun h => ?_)
        all_goals first
          | (refine Stop.mk (jn () _ _ _ (g := []) ⟨rfl, (by repeat' first | exact trivial | refine ⟨rfl, ?_⟩ | refine ⟨congrArg (fun n => AV.lit (.int .i64 n)) (by omega), ?_⟩ | refine ⟨congrArg (fun l => some (Row.row 1 l)) (by simp [int1, num, tru]), ?_⟩), (by repeat' first | exact trivial | refine ⟨rfl, ?_⟩ | refine ⟨congrArg (fun n => AV.lit (.int .i64 n)) (by omega), ?_⟩ | refine ⟨congrArg (fun l => some (Row.row 1 l)) (by simp [int1, num, tru]), ?_⟩)⟩ ?_); subst hb; unfold fitsF bF; simp_all; done)
          | (refine Stop.mk (go 1000 Tryd.func83 ?_)
             show _ = _
             have : fitsF i = false := by subst hb; unfold fitsF bF; simp_all
             simp [asRes, tru, right15, this])
      · intro _ hfit
        refine go 1000 Tryd.func83 ?_
        repeat' first | refine Len.map ?_ | refine Len.nil ?_ | refine Len.cons ?_ | refine Br.t rfl ?_ | refine Br.f rfl ?_ | refine Fit.au ?_ | refine Cv.au ?_ | refine Need.ne ?_ | refine Need.au ?_ | refine Pick.map (by assumption) ?_ | refine Pick.mapI (by omega) (by assumption) ?_ | refine PickN.mk _ (by assumption) ?_ | refine PickN.mk _ rfl ?_ | refine PickN.au ?_ | refine App.au rfl ?_ | refine App.au (own_map (fun _ => rfl) _) ?_ | refine Both.mk ?_ ?_ | exact True.intro
        refine Stop.mk (loop_in (fun k : Nat => [(1, .hp 0 0), (4, num k)]) (fun _ => [(0, .var i.cs)]) 1 (fun k => k ≤ i.args.length ∧ ∀ x ∈ i.args.take k, 0 ≤ x) (fun k => i.args.length - k) 0 ⟨by omega, by simp⟩ (g := []) ⟨rfl, (by repeat' first | exact trivial | refine ⟨rfl, ?_⟩ | refine ⟨congrArg (fun n => AV.lit (.int .i64 n)) (by omega), ?_⟩ | refine ⟨congrArg (fun l => some (Row.row 1 l)) (by simp [int1, num, tru]), ?_⟩), (by repeat' first | exact trivial | refine ⟨rfl, ?_⟩ | refine ⟨congrArg (fun n => AV.lit (.int .i64 n)) (by omega), ?_⟩ | refine ⟨congrArg (fun l => some (Row.row 1 l)) (by simp [int1, num, tru]), ?_⟩)⟩ (fun k hk ih => ?_))
        obtain ⟨hk1, hk2⟩ := hk
        refine go 1000 Tryd.func83 ?_
        repeat' first | refine Len.map ?_ | refine Len.nil ?_ | refine Len.cons ?_ | refine Br.t rfl ?_ | refine Br.f rfl ?_ | refine Fit.au ?_ | refine Cv.au ?_ | refine Need.ne ?_ | refine Need.au ?_ | refine Pick.map (by assumption) ?_ | refine Pick.mapI (by omega) (by assumption) ?_ | refine PickN.mk _ (by assumption) ?_ | refine PickN.mk _ rfl ?_ | refine PickN.au ?_ | refine App.au rfl ?_ | refine App.au (own_map (fun _ => rfl) _) ?_ | refine Both.mk ?_ ?_ | exact True.intro
        refine Br.d (fun h2 => ?_) (fun h2 => ?_)
        · obtain ⟨x, gx, gm⟩ := getK (l := i.args) (k := k) (by omega)
          repeat' first | refine Draw.mk (ordL [2, 5, 12, 16, 33, 42, 48, 51] [0, 1, 3, 4, 2, 5, 6, 7, 8, 9, 10, 11, 14, 15, 12, 13, 16, 17, 18, 19, 20, 21, 22, 23, 24, 25, 26, 27, 28, 29, 30, 31, 32, 33, 34, 35, 36, 37, 38, 39, 40, 41, 42, 43, 44, 45, 46, 47, 49, 50, 48, 51, 52, 53]) (by decide +kernel) ?_ | refine Len.map ?_ | refine Len.nil ?_ | refine Len.cons ?_ | refine Br.t rfl ?_ | refine Br.f rfl ?_ | refine Fit.au ?_ | refine Cv.au ?_ | refine Need.ne ?_ | refine Need.au ?_ | refine Pick.map (by assumption) ?_ | refine Pick.mapI (by omega) (by assumption) ?_ | refine PickN.mk _ (by assumption) ?_ | refine PickN.mk _ rfl ?_ | refine PickN.au ?_ | refine App.au rfl ?_ | refine App.au (own_map (fun _ => rfl) _) ?_ | refine Both.mk ?_ ?_ | exact True.intro
          refine Br.d (fun h3 => ?_) (fun h3 => ?_)
          · show _ = _
            have : ¬ ∀ x ∈ i.args, 0 ≤ x := fun h => by have := h x gm; omega
            simp [asRes, tru, right15, this]
          · repeat' first | refine Len.map ?_ | refine Len.nil ?_ | refine Len.cons ?_ | refine Br.t rfl ?_ | refine Br.f rfl ?_ | refine Fit.au ?_ | refine Cv.au ?_ | refine Need.ne ?_ | refine Need.au ?_ | refine Pick.map (by assumption) ?_ | refine Pick.mapI (by omega) (by assumption) ?_ | refine PickN.mk _ (by assumption) ?_ | refine PickN.mk _ rfl ?_ | refine PickN.au ?_ | refine App.au rfl ?_ | refine App.au (own_map (fun _ => rfl) _) ?_ | refine Both.mk ?_ ?_ | exact True.intro
            refine Stop.mk (ih (k + 1) _ _ _ ⟨by omega, ?_⟩ (by omega) (g := []) ⟨rfl, (by repeat' first | exact trivial | refine ⟨rfl, ?_⟩ | refine ⟨congrArg (fun n => AV.lit (.int .i64 n)) (by omega), ?_⟩ | refine ⟨congrArg (fun l => some (Row.row 1 l)) (by simp [int1, num, tru]), ?_⟩), (by repeat' first | exact trivial | refine ⟨rfl, ?_⟩ | refine ⟨congrArg (fun n => AV.lit (.int .i64 n)) (by omega), ?_⟩ | refine ⟨congrArg (fun l => some (Row.row 1 l)) (by simp [int1, num, tru]), ?_⟩)⟩)
            exact all_take_succ gx hk2 (by omega)
        · rw [take_all (by omega)] at hk2
          have e : right15 i = tailF i := by simp only [right15, ho, hfit, Bool.true_and, decide_eq_true hk2]
          rw [e]
          clear e ih hk2 hfit h2
          repeat' first | refine Len.map ?_ | refine Len.nil ?_ | refine Len.cons ?_ | refine Br.t rfl ?_ | refine Br.f rfl ?_ | refine Fit.au ?_ | refine Cv.au ?_ | refine Need.ne ?_ | refine Need.au ?_ | refine Pick.map (by assumption) ?_ | refine Pick.mapI (by omega) (by assumption) ?_ | refine PickN.mk _ (by assumption) ?_ | refine PickN.mk _ rfl ?_ | refine PickN.au ?_ | refine App.au rfl ?_ | refine App.au (own_map (fun _ => rfl) _) ?_ | refine Both.mk ?_ ?_ | exact True.intro | refine Br.d (fun h => ?_) (fun h => ?_) | refine Br.nd (fun h => ?_) (fun h => ?_) | refine Br.mk (fun h => ?_) (fun h => ?_)
          all_goals (show _ = _; (try have hne : i.args ≠ [] := fun e => by rw [e] at h; exact absurd h (by decide)); simp_all [asRes, tru, tailF, tailA]; try omega)
end Go.Proofs.YtdgibhndjdgllaaDoor

/- What an instruction writes, reads and goes to, as the document's answer says it, by contracts. -/
namespace Go.Proofs.YtdgibhndjdgllaaDoor
open Go.Ax
set_option maxRecDepth 10000
set_option linter.unusedVariables false

theorem Def15_spec (i : Ins) (hi : i.fits) : FnSpec Tryd.prog 51 [insA i] (fun r => r = num (def15 i)) := by
  refine spec_of 1000 Tryd.func51 rfl rfl ?_
  repeat' first | refine Call.eq (Right15_spec i hi) rfl ?_ | refine Call.eq (Writes_spec _) rfl ?_ | refine Len.map ?_ | refine Len.nil ?_ | refine Len.cons ?_ | refine Br.t rfl ?_ | refine Br.f rfl ?_ | refine Fit.au ?_ | refine Cv.au ?_ | refine Need.ne ?_ | refine Need.au ?_ | refine Pick.map (by assumption) ?_ | refine Pick.mapI (by omega) (by assumption) ?_ | refine PickN.mk _ (by assumption) ?_ | refine PickN.mk _ rfl ?_ | refine PickN.au ?_ | refine App.au rfl ?_ | refine App.au (own_map (fun _ => rfl) _) ?_ | refine Both.mk ?_ ?_ | exact True.intro | refine Br.d (fun h => ?_) (fun h => ?_) | refine Br.nd (fun h => ?_) (fun h => ?_) | refine Br.mk (fun h => ?_) (fun h => ?_)
  all_goals (show _ = _; simp_all [asRes, def15, num])
theorem Targets_spec (i : Ins) (hi : i.fits) : FnSpec Tryd.prog 63 [insA i] (fun r => r = .osl 1 ((targetsF i).map int1)) := by
  refine spec_of 1000 Tryd.func63 rfl rfl ?_
  repeat' first | refine Call.eq (Right15_spec i hi) rfl ?_ | refine Len.map ?_ | refine Len.nil ?_ | refine Len.cons ?_ | refine Br.t rfl ?_ | refine Br.f rfl ?_ | refine Fit.au ?_ | refine Cv.au ?_ | refine Need.ne ?_ | refine Need.au ?_ | refine Pick.map (by assumption) ?_ | refine Pick.mapI (by omega) (by assumption) ?_ | refine PickN.mk _ (by assumption) ?_ | refine PickN.mk _ rfl ?_ | refine PickN.au ?_ | refine App.au rfl ?_ | refine App.au (own_map (fun _ => rfl) _) ?_ | refine Both.mk ?_ ?_ | exact True.intro | refine Br.d (fun h => ?_) (fun h => ?_) | refine Br.nd (fun h => ?_) (fun h => ?_) | refine Br.mk (fun h => ?_) (fun h => ?_)
  all_goals (show _ = _; simp_all [asRes, targetsF, int1])
set_option maxHeartbeats 2000000 in
theorem Uses_spec (i : Ins) (hi : i.args.length ≤ 1000000) : FnSpec Tryd.prog 62 [insA i] (fun r => r = .osl 1 ((usesF i).map int1)) := by
  have hi2 : i.fits := by unfold Ins.fits; omega
  refine spec_of 1 Tryd.func62 rfl rfl ?_
  refine Stop.mk ?_
  apply join (fun _ : Unit => [(1, .hp 0 0), (3, .hw 1)]) (fun _ => [(0, .var i.cs), (1, .row 1 [])]) 2 (fun _ => right15 i = true)
  · intro jn
    refine go 18 Tryd.func62 ?_
    repeat' first | refine Call.eq (Right15_spec i hi2) rfl ?_ | refine Len.map ?_ | refine Len.nil ?_ | refine Len.cons ?_ | refine Br.t rfl ?_ | refine Br.f rfl ?_ | refine Fit.au ?_ | refine Cv.au ?_ | refine Need.ne ?_ | refine Need.au ?_ | refine Pick.map (by assumption) ?_ | refine Pick.mapI (by omega) (by assumption) ?_ | refine PickN.mk _ (by assumption) ?_ | refine PickN.mk _ rfl ?_ | refine PickN.au ?_ | refine App.au rfl ?_ | refine App.au (own_map (fun _ => rfl) _) ?_ | refine Both.mk ?_ ?_ | exact True.intro | refine Br.d (fun h => ?_) (fun h => ?_) | refine Br.nd (fun h => ?_) (fun h => ?_) | refine Br.mk (fun h => ?_) (fun h => ?_)
    all_goals first
      | (refine Stop.mk (jn () _ _ _ (g := []) ⟨rfl, (by repeat' first | exact trivial | refine ⟨rfl, ?_⟩ | refine ⟨congrArg (fun n => AV.lit (.int .i64 n)) (by omega), ?_⟩ | refine ⟨congrArg (fun l => some (Row.row 1 l)) (by simp [int1, num, tru]), ?_⟩), (by repeat' first | exact trivial | refine ⟨rfl, ?_⟩ | refine ⟨congrArg (fun n => AV.lit (.int .i64 n)) (by omega), ?_⟩ | refine ⟨congrArg (fun l => some (Row.row 1 l)) (by simp [int1, num, tru]), ?_⟩)⟩ ?_); show right15 i = true; simp_all; done)
      | (refine Stop.mk (go 1000 Tryd.func62 ?_)
         show _ = _
         simp_all [asRes, usesF])
  intro _ hr
  apply join (fun xs : List Int => [(1, .hp 0 0), (3, .hw 1)]) (fun xs => [(0, .var i.cs), (1, .row 1 (xs.map int1))]) 2 (fun xs => xs = if (abF i.op || oneF i.op) = true then [i.a] else [])
  · intro jn
    refine go 24 Tryd.func62 ?_
    repeat' first | refine Call.eq (two_spec _) rfl ?_ | refine Call.eq (one_spec _) rfl ?_ | refine Len.map ?_ | refine Len.nil ?_ | refine Len.cons ?_ | refine Br.t rfl ?_ | refine Br.f rfl ?_ | refine Fit.au ?_ | refine Cv.au ?_ | refine Need.ne ?_ | refine Need.au ?_ | refine Pick.map (by assumption) ?_ | refine Pick.mapI (by omega) (by assumption) ?_ | refine PickN.mk _ (by assumption) ?_ | refine PickN.mk _ rfl ?_ | refine PickN.au ?_ | refine App.au rfl ?_ | refine App.au (own_map (fun _ => rfl) _) ?_ | refine Both.mk ?_ ?_ | exact True.intro | refine Br.d (fun h => ?_) (fun h => ?_) | refine Br.nd (fun h => ?_) (fun h => ?_) | refine Br.mk (fun h => ?_) (fun h => ?_)
    all_goals first
      | (refine Stop.mk (jn [] _ _ _ (g := []) ⟨rfl, (by repeat' first | exact trivial | refine ⟨rfl, ?_⟩ | refine ⟨congrArg (fun n => AV.lit (.int .i64 n)) (by omega), ?_⟩ | refine ⟨congrArg (fun l => some (Row.row 1 l)) (by simp [int1, num, tru]), ?_⟩), (by repeat' first | exact trivial | refine ⟨rfl, ?_⟩ | refine ⟨congrArg (fun n => AV.lit (.int .i64 n)) (by omega), ?_⟩ | refine ⟨congrArg (fun l => some (Row.row 1 l)) (by simp [int1, num, tru]), ?_⟩)⟩ ?_); rw [abF_eq]; simp_all; done)
      | (refine Stop.mk (go 7 Tryd.func62 ?_)
         repeat' first | refine Len.map ?_ | refine Len.nil ?_ | refine Len.cons ?_ | refine Br.t rfl ?_ | refine Br.f rfl ?_ | refine Fit.au ?_ | refine Cv.au ?_ | refine Need.ne ?_ | refine Need.au ?_ | refine Pick.map (by assumption) ?_ | refine Pick.mapI (by omega) (by assumption) ?_ | refine PickN.mk _ (by assumption) ?_ | refine PickN.mk _ rfl ?_ | refine PickN.au ?_ | refine App.au rfl ?_ | refine App.au (own_map (fun _ => rfl) _) ?_ | refine Both.mk ?_ ?_ | exact True.intro
         refine Stop.mk (jn [i.a] _ _ _ (g := [(1, 3)]) ⟨rfl, (by repeat' first | exact trivial | refine ⟨rfl, ?_⟩ | refine ⟨congrArg (fun n => AV.lit (.int .i64 n)) (by omega), ?_⟩ | refine ⟨congrArg (fun l => some (Row.row 1 l)) (by simp [int1, num, tru]), ?_⟩), (by repeat' first | exact trivial | refine ⟨rfl, ?_⟩ | refine ⟨congrArg (fun n => AV.lit (.int .i64 n)) (by omega), ?_⟩ | refine ⟨congrArg (fun l => some (Row.row 1 l)) (by simp [int1, num, tru]), ?_⟩)⟩ ?_)
         rw [abF_eq]; simp_all; done)
  intro xs hx
  have lx : xs.length ≤ 1 := by rw [hx]; split <;> simp
  apply join (fun xs : List Int => [(1, .hp 0 0), (3, .hw 1)]) (fun xs => [(0, .var i.cs), (1, .row 1 (xs.map int1))]) 2 (fun ys => ys = xs ++ if bF i = true then [i.b] else [])
  · intro jn
    refine go 24 Tryd.func62 ?_
    repeat' first | refine Call.eq (two_spec _) rfl ?_ | refine Len.map ?_ | refine Len.nil ?_ | refine Len.cons ?_ | refine Br.t rfl ?_ | refine Br.f rfl ?_ | refine Fit.au ?_ | refine Cv.au ?_ | refine Need.ne ?_ | refine Need.au ?_ | refine Pick.map (by assumption) ?_ | refine Pick.mapI (by omega) (by assumption) ?_ | refine PickN.mk _ (by assumption) ?_ | refine PickN.mk _ rfl ?_ | refine PickN.au ?_ | refine App.au rfl ?_ | refine App.au (own_map (fun _ => rfl) _) ?_ | refine Both.mk ?_ ?_ | exact True.intro | refine Br.d (fun h => ?_) (fun h => ?_) | refine Br.nd (fun h => ?_) (fun h => ?_) | refine Br.mk (fun h => ?_) (fun h => ?_)
    all_goals first
      | (refine Stop.mk (jn xs _ _ _ (g := []) ⟨rfl, (by repeat' first | exact trivial | refine ⟨rfl, ?_⟩ | refine ⟨congrArg (fun n => AV.lit (.int .i64 n)) (by omega), ?_⟩ | refine ⟨congrArg (fun l => some (Row.row 1 l)) (by simp [int1, num, tru]), ?_⟩), (by repeat' first | exact trivial | refine ⟨rfl, ?_⟩ | refine ⟨congrArg (fun n => AV.lit (.int .i64 n)) (by omega), ?_⟩ | refine ⟨congrArg (fun l => some (Row.row 1 l)) (by simp [int1, num, tru]), ?_⟩)⟩ ?_); rw [bF_eq]; simp_all; done)
      | (refine Stop.mk (go 7 Tryd.func62 ?_)
         repeat' first | refine Len.map ?_ | refine Len.nil ?_ | refine Len.cons ?_ | refine Br.t rfl ?_ | refine Br.f rfl ?_ | refine Fit.au ?_ | refine Cv.au ?_ | refine Need.ne ?_ | refine Need.au ?_ | refine Pick.map (by assumption) ?_ | refine Pick.mapI (by omega) (by assumption) ?_ | refine PickN.mk _ (by assumption) ?_ | refine PickN.mk _ rfl ?_ | refine PickN.au ?_ | refine App.au rfl ?_ | refine App.au (own_map (fun _ => rfl) _) ?_ | refine Both.mk ?_ ?_ | exact True.intro
         refine Stop.mk (jn (xs ++ [i.b]) _ _ _ (g := [(1, 3)]) ⟨rfl, (by repeat' first | exact trivial | refine ⟨rfl, ?_⟩ | refine ⟨congrArg (fun n => AV.lit (.int .i64 n)) (by omega), ?_⟩ | refine ⟨congrArg (fun l => some (Row.row 1 l)) (by simp [int1, num, tru]), ?_⟩), (by repeat' first | exact trivial | refine ⟨rfl, ?_⟩ | refine ⟨congrArg (fun n => AV.lit (.int .i64 n)) (by omega), ?_⟩ | refine ⟨congrArg (fun l => some (Row.row 1 l)) (by simp [int1, num, tru]), ?_⟩)⟩ ?_)
         rw [bF_eq]; simp_all; done)
  intro ys hy
  have ly : ys.length ≤ 2 := by rw [hy, List.length_append]; split <;> simp <;> omega
  apply join (fun xs : List Int => [(1, .hp 0 0), (3, .hw 1)]) (fun xs => [(0, .var i.cs), (1, .row 1 (xs.map int1))]) 2 (fun zs => zs = ys ++ if i.op = 30 then [i.c] else [])
  · intro jn
    refine go 9 Tryd.func62 ?_
    repeat' first | refine Len.map ?_ | refine Len.nil ?_ | refine Len.cons ?_ | refine Br.t rfl ?_ | refine Br.f rfl ?_ | refine Fit.au ?_ | refine Cv.au ?_ | refine Need.ne ?_ | refine Need.au ?_ | refine Pick.map (by assumption) ?_ | refine Pick.mapI (by omega) (by assumption) ?_ | refine PickN.mk _ (by assumption) ?_ | refine PickN.mk _ rfl ?_ | refine PickN.au ?_ | refine App.au rfl ?_ | refine App.au (own_map (fun _ => rfl) _) ?_ | refine Both.mk ?_ ?_ | exact True.intro | refine Br.d (fun h => ?_) (fun h => ?_) | refine Br.nd (fun h => ?_) (fun h => ?_) | refine Br.mk (fun h => ?_) (fun h => ?_)
    all_goals first
      | (refine Stop.mk (jn ys _ _ _ (g := []) ⟨rfl, (by repeat' first | exact trivial | refine ⟨rfl, ?_⟩ | refine ⟨congrArg (fun n => AV.lit (.int .i64 n)) (by omega), ?_⟩ | refine ⟨congrArg (fun l => some (Row.row 1 l)) (by simp [int1, num, tru]), ?_⟩), (by repeat' first | exact trivial | refine ⟨rfl, ?_⟩ | refine ⟨congrArg (fun n => AV.lit (.int .i64 n)) (by omega), ?_⟩ | refine ⟨congrArg (fun l => some (Row.row 1 l)) (by simp [int1, num, tru]), ?_⟩)⟩ ?_); simp_all; done)
      | (refine Stop.mk (go 7 Tryd.func62 ?_)
         repeat' first | refine Len.map ?_ | refine Len.nil ?_ | refine Len.cons ?_ | refine Br.t rfl ?_ | refine Br.f rfl ?_ | refine Fit.au ?_ | refine Cv.au ?_ | refine Need.ne ?_ | refine Need.au ?_ | refine Pick.map (by assumption) ?_ | refine Pick.mapI (by omega) (by assumption) ?_ | refine PickN.mk _ (by assumption) ?_ | refine PickN.mk _ rfl ?_ | refine PickN.au ?_ | refine App.au rfl ?_ | refine App.au (own_map (fun _ => rfl) _) ?_ | refine Both.mk ?_ ?_ | exact True.intro
         refine Stop.mk (jn (ys ++ [i.c]) _ _ _ (g := [(1, 3)]) ⟨rfl, (by repeat' first | exact trivial | refine ⟨rfl, ?_⟩ | refine ⟨congrArg (fun n => AV.lit (.int .i64 n)) (by omega), ?_⟩ | refine ⟨congrArg (fun l => some (Row.row 1 l)) (by simp [int1, num, tru]), ?_⟩), (by repeat' first | exact trivial | refine ⟨rfl, ?_⟩ | refine ⟨congrArg (fun n => AV.lit (.int .i64 n)) (by omega), ?_⟩ | refine ⟨congrArg (fun l => some (Row.row 1 l)) (by simp [int1, num, tru]), ?_⟩)⟩ ?_)
         simp_all; done)
  intro zs hz
  have lz : zs.length ≤ 3 := by rw [hz, List.length_append]; split <;> simp <;> omega
  refine go 1000 Tryd.func62 ?_
  repeat' first | refine Len.map ?_ | refine Len.nil ?_ | refine Len.cons ?_ | refine Br.t rfl ?_ | refine Br.f rfl ?_ | refine Fit.au ?_ | refine Cv.au ?_ | refine Need.ne ?_ | refine Need.au ?_ | refine Pick.map (by assumption) ?_ | refine Pick.mapI (by omega) (by assumption) ?_ | refine PickN.mk _ (by assumption) ?_ | refine PickN.mk _ rfl ?_ | refine PickN.au ?_ | refine App.au rfl ?_ | refine App.au (own_map (fun _ => rfl) _) ?_ | refine Both.mk ?_ ?_ | exact True.intro
  show _ = _
  simp [asRes, usesF, hr, hz, hy, hx]
end Go.Proofs.YtdgibhndjdgllaaDoor

/- Sets of numbers, a bit each, in words: what their operations come to. No program is in sight here. -/
namespace Go.Proofs.YtdgibhndjdgllaaDoor
open Go.Ax
abbrev W := BitVec 64
def w64 (b : W) : AV := .lit (.int .u64 (b.toNat : Int))
def u1 (b : W) : List AV := [w64 b]
def sets (s : List W) : AV := .sl false 1 (s.map u1)
theorem ofI (b : W) : BitVec.ofInt IntKind.u64.bits (b.toNat : Int) = b := by
  show BitVec.ofInt 64 _ = _
  simp
theorem wrapB (b : W) : IntKind.u64.wrap (b.toNat : Int) = b.toNat := wrap_u64 (by omega) (by have := b.isLt; omega)
theorem orI (a b : W) : IntKind.u64.wrap ((BitVec.ofInt IntKind.u64.bits (a.toNat : Int) ||| BitVec.ofInt IntKind.u64.bits (b.toNat : Int)).toNat : Int) = ((a ||| b).toNat : Int) := by
  rw [ofI, ofI]; exact wrapB (a ||| b)
theorem andI (a b : W) : IntKind.u64.wrap ((BitVec.ofInt IntKind.u64.bits (a.toNat : Int) &&& BitVec.ofInt IntKind.u64.bits (b.toNat : Int)).toNat : Int) = ((a &&& b).toNat : Int) := by
  rw [ofI, ofI]; exact wrapB (a &&& b)
theorem lessI (a b : W) : IntKind.u64.wrap ((BitVec.ofInt IntKind.u64.bits (a.toNat : Int) &&& ~~~BitVec.ofInt IntKind.u64.bits (b.toNat : Int)).toNat : Int) = ((a &&& ~~~b).toNat : Int) := by
  rw [ofI, ofI]; exact wrapB (a &&& ~~~b)
/-- The first k of n words are there. -/
def fillW (n k : Nat) (f : Nat → W) : List W := (List.range n).map fun i => if i < k then f i else 0
theorem fillW_len (n k : Nat) (f : Nat → W) : (fillW n k f).length = n := by simp [fillW]
theorem fillW_zero (n : Nat) (f : Nat → W) : fillW n 0 f = List.replicate n 0 := by
  unfold fillW
  induction n with
  | zero => rfl
  | succ n ih => rw [List.range_succ, List.map_append, ih, List.replicate_succ']; rfl
theorem fillW_set {n k : Nat} {f : Nat → W} (hk : k < n) : (fillW n k f).set k (f k) = fillW n (k + 1) f := by
  refine List.ext_getElem? fun i => ?_
  rw [List.getElem?_set]
  unfold fillW
  by_cases h : k = i
  · subst h
    rw [if_pos rfl, if_pos (by simpa using hk), List.getElem?_map, List.getElem?_range hk]
    simp
  · rw [if_neg h, List.getElem?_map, List.getElem?_map]
    by_cases hi : i < n
    · rw [List.getElem?_range hi]
      simp only [Option.map_some]
      by_cases h2 : i < k
      · rw [if_pos h2, if_pos (by omega)]
      · rw [if_neg h2, if_neg (by omega)]
    · rw [List.getElem?_eq_none (by simpa using hi)]; rfl
theorem fillW_at {n k i : Nat} {f : Nat → W} (hi : i < n) : (fillW n k f)[i]? = some (if i < k then f i else 0) := by
  unfold fillW
  rw [List.getElem?_map, List.getElem?_range hi]; rfl
def orW (a b : List W) : List W := fillW (max a.length b.length) (max a.length b.length) fun i => a.getD i 0 ||| b.getD i 0
def andW (a b : List W) : List W := fillW (min a.length b.length) (min a.length b.length) fun i => a.getD i 0 &&& b.getD i 0
def lessW (a b : List W) : List W := fillW a.length a.length fun i => a.getD i 0 &&& ~~~b.getD i 0
theorem Len.rep {n : Nat} {x : List AV} {k : Nat → Prop} (h : k n) : Len (List.replicate n x) k := ⟨_, by simp, h⟩
/-- How many words there are. -/
def wn (n : Nat) : Nat := (n + 63) / 64
def newW (n : Nat) : List W := List.replicate (wn n) 0
end Go.Proofs.YtdgibhndjdgllaaDoor

/- Which numbers are in a set of bits. No program is in sight here. -/
namespace Go.Proofs.YtdgibhndjdgllaaDoor
open Go.Ax
def ones64 : W := BitVec.allOnes 64
theorem ones_nat : (ones64.toNat : Int) = 18446744073709551615 := by decide
def fullAt (n i : Nat) : W := if i + 1 = wn n ∧ 0 < n % 64 then ones64 >>> (64 - n % 64) else ones64
def fullW (n : Nat) : List W := (List.range (wn n)).map (fullAt n)
theorem fullW_len (n : Nat) : (fullW n).length = wn n := by simp [fullW]
theorem newW_len (n : Nat) : (newW n).length = wn n := by simp [newW]
def hasW (s : List W) (i : Nat) : Bool := (s.getD (i / 64) 0).getLsbD (i % 64)
theorem fillW_getD {n i : Nat} {f : Nat → W} (hi : i < n) : (fillW n n f).getD i 0 = f i := by
  rw [List.getD_eq_getElem?_getD, fillW_at hi, if_pos hi]; rfl
theorem fillW_out {n i : Nat} {f : Nat → W} (hi : n ≤ i) : (fillW n n f).getD i 0 = 0 := by
  rw [List.getD_eq_getElem?_getD, List.getElem?_eq_none (by rw [fillW_len]; exact hi)]; rfl
theorem getD_out {s : List W} {i : Nat} (h : s.length ≤ i) : s.getD i 0 = 0 := by
  rw [List.getD_eq_getElem?_getD, List.getElem?_eq_none h]; rfl
theorem orW_at (a b : List W) (i : Nat) : (orW a b).getD i 0 = a.getD i 0 ||| b.getD i 0 := by
  unfold orW
  by_cases h : i < max a.length b.length
  · rw [fillW_getD h]
  · rw [fillW_out (by omega), getD_out (by omega), getD_out (s := b) (by omega)]; rfl
theorem andW_at (a b : List W) (i : Nat) : (andW a b).getD i 0 = a.getD i 0 &&& b.getD i 0 := by
  unfold andW
  by_cases h : i < min a.length b.length
  · rw [fillW_getD h]
  · rw [fillW_out (by omega)]
    by_cases h2 : a.length ≤ i
    · rw [getD_out h2]; simp
    · rw [getD_out (s := b) (by omega)]; simp
theorem lessW_at (a b : List W) (i : Nat) : (lessW a b).getD i 0 = a.getD i 0 &&& ~~~b.getD i 0 := by
  unfold lessW
  by_cases h : i < a.length
  · rw [fillW_getD h]
  · rw [fillW_out (by omega), getD_out (s := a) (by omega)]; simp
theorem hasW_or (a b : List W) (i : Nat) : hasW (orW a b) i = (hasW a i || hasW b i) := by
  unfold hasW; rw [orW_at]; simp
theorem hasW_and (a b : List W) (i : Nat) : hasW (andW a b) i = (hasW a i && hasW b i) := by
  unfold hasW; rw [andW_at]; simp
theorem hasW_less (a b : List W) (i : Nat) : hasW (lessW a b) i = (hasW a i && !hasW b i) := by
  unfold hasW; rw [lessW_at]
  have : i % 64 < 64 := Nat.mod_lt _ (by decide)
  simp [this]
theorem hasW_new (n i : Nat) : hasW (newW n) i = false := by
  unfold hasW newW
  rw [List.getD_eq_getElem?_getD, List.getElem?_replicate]
  split <;> simp
theorem hasW_full (n i : Nat) : hasW (fullW n) i = decide (i < n) := by
  have hm : i % 64 < 64 := Nat.mod_lt _ (by decide)
  unfold hasW
  by_cases h : i / 64 < wn n
  · have e : (fullW n).getD (i / 64) 0 = fullAt n (i / 64) := by
      unfold fullW
      rw [List.getD_eq_getElem?_getD, List.getElem?_map, List.getElem?_range h]; rfl
    rw [e]
    unfold fullAt
    split
    · rename_i h2
      unfold wn at h2
      rw [ones64, BitVec.getLsbD_ushiftRight, BitVec.getLsbD_allOnes]
      congr 1
      simp only [eq_iff_iff]
      omega
    · rename_i h2
      rw [ones64, BitVec.getLsbD_allOnes, decide_eq_true hm]
      symm
      rw [decide_eq_true_iff]
      unfold wn at h h2
      omega
  · rw [getD_out (by rw [fullW_len]; omega)]
    unfold wn at h
    simp; omega
/-- A set of that width. -/
def RightW (s : List W) (n : Nat) : Prop := s.length = wn n ∧ ∀ i, hasW s i = true → i < n
theorem zero_of {s : List W} (h : ∀ i, hasW s i = false) : ∀ w ∈ s, w = 0 := by
  intro w hw
  obtain ⟨k, hk, rfl⟩ := List.getElem_of_mem hw
  refine BitVec.eq_of_getLsbD_eq fun j hj => ?_
  have := h (k * 64 + j)
  unfold hasW at this
  rw [show (k * 64 + j) / 64 = k by omega, show (k * 64 + j) % 64 = j by omega, List.getD_eq_getElem?_getD, List.getElem?_eq_getElem hk, Option.getD_some] at this
  rw [this]; simp
theorem RightW.less {s : List W} {n : Nat} (h : RightW s n) : ∀ w ∈ lessW s (fullW n), w = 0 := zero_of fun i => by
  rw [hasW_less, hasW_full]
  cases hi : hasW s i with
  | false => rfl
  | true => simp [h.2 i hi]
theorem wn_le {n : Nat} (h : n ≤ 65536) : wn n ≤ 1024 := by unfold wn; omega
theorem shrI (m : Nat) (hm : 0 < m) (h : m < 64) : (18446744073709551615 : Int).fdiv (2 ^ min ((64 : Int) - m).toNat 64) = ((ones64 >>> (64 - m)).toNat : Int) := by
  rw [show ((64 : Int) - m).toNat = 64 - m by omega, show min (64 - m) 64 = 64 - m by omega, BitVec.toNat_ushiftRight, Nat.shiftRight_eq_div_pow]
  rw [Int.fdiv_eq_ediv_of_nonneg _ (Int.pow_nonneg (by decide))]
  rw [show ones64.toNat = 18446744073709551615 from by decide]
  rw [Int.natCast_ediv, Int.natCast_pow]
  rfl
theorem fullW_plain {n : Nat} (h : ¬ 0 < n % 64) : fullW n = fillW (wn n) (wn n) fun _ => ones64 := by
  refine List.ext_getElem? fun i => ?_
  by_cases hi : i < wn n
  · rw [fillW_at hi, if_pos hi]
    unfold fullW
    rw [List.getElem?_map, List.getElem?_range hi]
    show some (fullAt n i) = _
    unfold fullAt
    rw [if_neg (fun h2 => h h2.2)]
  · rw [List.getElem?_eq_none (by rw [fullW_len]; omega), List.getElem?_eq_none (by rw [fillW_len]; omega)]
theorem fullW_last {n : Nat} (h : 0 < n % 64) : fullW n = (fillW (wn n) (wn n) fun _ => ones64).set (wn n - 1) (ones64 >>> (64 - n % 64)) := by
  refine List.ext_getElem? fun i => ?_
  rw [List.getElem?_set]
  by_cases hi : i < wn n
  · rw [fillW_at hi, if_pos hi, fillW_len]
    unfold fullW
    rw [List.getElem?_map, List.getElem?_range hi]
    show some (fullAt n i) = _
    unfold fullAt
    by_cases he : wn n - 1 = i
    · have h1 : i + 1 = wn n := by omega
      have h2 : wn n - 1 < wn n := by omega
      rw [if_pos ⟨h1, h⟩, if_pos he, if_pos h2]
    · have h1 : ¬ (i + 1 = wn n ∧ 0 < n % 64) := fun h2 => he (by omega)
      rw [if_neg h1, if_neg he]
  · rw [List.getElem?_eq_none (by rw [fullW_len]; omega)]
    by_cases he : wn n - 1 = i
    · rw [if_pos he, fillW_len, if_neg (by omega)]
    · rw [if_neg he, List.getElem?_eq_none (by rw [fillW_len]; omega)]
/-- The same numbers, whatever words are missing. -/
def sameW (a b : List W) : Prop := ∀ i : Nat, a.getD i 0 = b.getD i 0
theorem sameW_bits {a b : List W} : sameW a b ↔ ∀ i, hasW a i = hasW b i := by
  constructor
  · intro h i
    unfold hasW; rw [h]
  · intro h k
    refine BitVec.eq_of_getLsbD_eq fun j hj => ?_
    have := h (k * 64 + j)
    unfold hasW at this
    rwa [show (k * 64 + j) / 64 = k by omega, show (k * 64 + j) % 64 = j by omega] at this
end Go.Proofs.YtdgibhndjdgllaaDoor
