/- Whether an instruction is right, as the document's answer says it, by a contract. -/
import Derived.Test.YtdgibhndjdgllaaDoorG06
import Derived.Test.YtdgibhndjdgllaaDoorG10
import Derived.Test.YtdgibhndjdgllaaDoorG04
import Derived.Test.YtdgibhndjdgllaaDoorG09
set_option linter.unusedVariables false
set_option linter.unusedSimpArgs false

namespace Go.Proofs.YtdgibhndjdgllaaDoor
open Go.Ax
set_option maxRecDepth 10000
set_option linter.unusedVariables false

set_option maxHeartbeats 4000000 in
theorem Right15_spec (i : Ins) (hi : i.fits) : FnSpec Tryd.prog 83 [insA i] (fun r => r = tru (right15 i)) := by
  have hi' : i.args.length < 9223372036854775807 := hi
  refine spec_of 1 Tryd.func83 rfl rfl ?_
  refine Stop.mk ?_
  apply join (fun _ : Unit => [(1, .hp 0 0)]) (fun _ => [(0, .var i.cs)]) 1 (fun _ => opF i.op = true)
  · intro jn
    refine go 28 Tryd.func83 ?_
    repeat' first | refine Len.map ?_ | refine Len.nil ?_ | refine Len.cons ?_ | refine Br.t rfl ?_ | refine Br.f rfl ?_ | refine Fit.au ?_ | refine Cv.au ?_ | refine Need.ne ?_ | refine Need.au ?_ | refine Pick.map (by assumption) ?_ | refine Pick.mapI (by omega) (by assumption) ?_ | refine PickN.mk _ (by assumption) ?_ | refine PickN.mk _ rfl ?_ | refine PickN.au ?_ | refine App.au rfl ?_ | refine App.au (own_map (fun _ => rfl) _) ?_ | refine Both.mk ?_ ?_ | exact True.intro | refine Br.d (fun h => ?_) (fun h => ?_) | refine Br.nd (fun h => ?_) (fun h => ?_) | refine Br.mk (fun h => ?_) (fun h => ?_)
    all_goals first
      | exact Stop.mk (jn () _ _ _ (g := []) ⟨rfl, (by repeat' first | exact trivial | refine ⟨rfl, ?_⟩ | refine ⟨congrArg (fun n => AV.lit (.int .i64 n)) (by omega), ?_⟩ | refine ⟨congrArg (fun l => some (Row.row 1 l)) (by simp [int1, num, tru]), ?_⟩), (by repeat' first | exact trivial | refine ⟨rfl, ?_⟩ | refine ⟨congrArg (fun n => AV.lit (.int .i64 n)) (by omega), ?_⟩ | refine ⟨congrArg (fun l => some (Row.row 1 l)) (by simp [int1, num, tru]), ?_⟩)⟩ (by unfold opF; simp; omega))
      | (refine Stop.mk (go 1000 Tryd.func83 ?_)
         show _ = _
         have : opF i.op = false := by unfold opF; simp; omega
         simp [asRes, tru, right15, this])
  · intro _ ho
    apply join (fun b : Bool => [(1, .hp 0 0), (3, tru b)]) (fun _ => [(0, .var i.cs)]) 1 (fun b => b = abF i.op)
    · intro jn
      refine go 17 Tryd.func83 ?_
      repeat' first | refine Call.eq (two_spec _) rfl ?_ | refine Len.map ?_ | refine Len.nil ?_ | refine Len.cons ?_ | refine Br.t rfl ?_ | refine Br.f rfl ?_ | refine Fit.au ?_ | refine Cv.au ?_ | refine Need.ne ?_ | refine Need.au ?_ | refine Pick.map (by assumption) ?_ | refine Pick.mapI (by omega) (by assumption) ?_ | refine PickN.mk _ (by assumption) ?_ | refine PickN.mk _ rfl ?_ | refine PickN.au ?_ | refine App.au rfl ?_ | refine App.au (own_map (fun _ => rfl) _) ?_ | refine Both.mk ?_ ?_ | exact True.intro | refine Br.d (fun h => ?_) (fun h => ?_) | refine Br.nd (fun h => ?_) (fun h => ?_) | refine Br.mk (fun h => ?_) (fun h => ?_)
      all_goals exact Stop.mk (jn _ _ _ _ (g := []) ⟨rfl, (by repeat' first | exact trivial | refine ⟨rfl, ?_⟩ | refine ⟨congrArg (fun n => AV.lit (.int .i64 n)) (by omega), ?_⟩ | refine ⟨congrArg (fun l => some (Row.row 1 l)) (by simp [int1, num, tru]), ?_⟩), (by repeat' first | exact trivial | refine ⟨rfl, ?_⟩ | refine ⟨congrArg (fun n => AV.lit (.int .i64 n)) (by omega), ?_⟩ | refine ⟨congrArg (fun l => some (Row.row 1 l)) (by simp [int1, num, tru]), ?_⟩)⟩ (by unfold abF; simp_all))
    · intro b hb
      apply join (fun _ : Unit => [(1, .hp 0 0)]) (fun _ => [(0, .var i.cs)]) 1 (fun _ => fitsF i = true)
      · intro jn
        refine go 5 Tryd.func83 ?_
        repeat' first | refine Draw.mk (ordL [2, 5, 12, 16, 33, 42, 48, 51] [0, 1, 3, 4, 2, 5, 6, 7, 8, 9, 10, 11, 14, 15, 12, 13, 16, 17, 18, 19, 20, 21, 22, 23, 24, 25, 26, 27, 28, 29, 30, 31, 32, 33, 34, 35, 36, 37, 38, 39, 40, 41, 42, 43, 44, 45, 46, 47, 49, 50, 48, 51, 52, 53]) (by decide +kernel) ?_ | refine Call.eq (one_spec _) rfl ?_ | refine Call.eq (Writes_spec _) rfl ?_ | refine Call.eq (Check_spec _) rfl ?_ | refine Call.eq (fits_spec _ _) rfl ?_ | refine Len.map ?_ | refine Len.nil ?_ | refine Len.cons ?_ | refine Br.t rfl ?_ | refine Br.f rfl ?_ | refine Fit.au ?_ | refine Cv.au ?_ | refine Need.ne ?_ | refine Need.au ?_ | refine Pick.map (by assumption) ?_ | refine Pick.mapI (by omega) (by assumption) ?_ | refine PickN.mk _ (by assumption) ?_ | refine PickN.mk _ rfl ?_ | refine PickN.au ?_ | refine App.au rfl ?_ | refine App.au (own_map (fun _ => rfl) _) ?_ | refine Both.mk ?_ ?_ | exact True.intro | refine Br.d (fun h => ?_) (fun h => ?_) | refine Br.nd (fun h => ?_) (fun h => ?_) | refine Br.mk (fun h => ?_) (fun h => ?_)
        all_goals first
          | (refine Stop.mk (jn () _ _ _ (g := []) ⟨rfl, (by repeat' first | exact trivial | refine ⟨rfl, ?_⟩ | refine ⟨congrArg (fun n => AV.lit (.int .i64 n)) (by omega), ?_⟩ | refine ⟨congrArg (fun l => some (Row.row 1 l)) (by simp [int1, num, tru]), ?_⟩), (by repeat' first | exact trivial | refine ⟨rfl, ?_⟩ | refine ⟨congrArg (fun n => AV.lit (.int .i64 n)) (by omega), ?_⟩ | refine ⟨congrArg (fun l => some (Row.row 1 l)) (by simp [int1, num, tru]), ?_⟩)⟩ ?_); subst hb; unfold fitsF bF; simp_all; done)
          | (refine Stop.mk (go 1000 Tryd.func83 ?_)
             show _ = _
             have : fitsF i = false := by subst hb; unfold fitsF bF; simp_all
             simp [asRes, tru, right15, this])
      · intro _ hfit
        refine go 1000 Tryd.func83 ?_
        repeat' first | refine Len.map ?_ | refine Len.nil ?_ | refine Len.cons ?_ | refine Br.t rfl ?_ | refine Br.f rfl ?_ | refine Fit.au ?_ | refine Cv.au ?_ | refine Need.ne ?_ | refine Need.au ?_ | refine Pick.map (by assumption) ?_ | refine Pick.mapI (by omega) (by assumption) ?_ | refine PickN.mk _ (by assumption) ?_ | refine PickN.mk _ rfl ?_ | refine PickN.au ?_ | refine App.au rfl ?_ | refine App.au (own_map (fun _ => rfl) _) ?_ | refine Both.mk ?_ ?_ | exact True.intro
        refine Stop.mk (loop_in (fun k : Nat => [(1, .hp 0 0), (4, num k)]) (fun _ => [(0, .var i.cs)]) 1 (fun k => k ≤ i.args.length ∧ ∀ x ∈ i.args.take k, 0 ≤ x) (fun k => i.args.length - k) 0 ⟨by omega, by simp⟩ (g := []) ⟨rfl, (by repeat' first | exact trivial | refine ⟨rfl, ?_⟩ | refine ⟨congrArg (fun n => AV.lit (.int .i64 n)) (by omega), ?_⟩ | refine ⟨congrArg (fun l => some (Row.row 1 l)) (by simp [int1, num, tru]), ?_⟩), (by repeat' first | exact trivial | refine ⟨rfl, ?_⟩ | refine ⟨congrArg (fun n => AV.lit (.int .i64 n)) (by omega), ?_⟩ | refine ⟨congrArg (fun l => some (Row.row 1 l)) (by simp [int1, num, tru]), ?_⟩)⟩ (fun k hk ih => ?_))
        obtain ⟨hk1, hk2⟩ := hk
        refine go 1000 Tryd.func83 ?_
        repeat' first | refine Len.map ?_ | refine Len.nil ?_ | refine Len.cons ?_ | refine Br.t rfl ?_ | refine Br.f rfl ?_ | refine Fit.au ?_ | refine Cv.au ?_ | refine Need.ne ?_ | refine Need.au ?_ | refine Pick.map (by assumption) ?_ | refine Pick.mapI (by omega) (by assumption) ?_ | refine PickN.mk _ (by assumption) ?_ | refine PickN.mk _ rfl ?_ | refine PickN.au ?_ | refine App.au rfl ?_ | refine App.au (own_map (fun _ => rfl) _) ?_ | refine Both.mk ?_ ?_ | exact True.intro
        refine Br.d (fun h2 => ?_) (fun h2 => ?_)
        · obtain ⟨x, gx, gm⟩ := getK (l := i.args) (k := k) (by omega)
          repeat' first | refine Draw.mk (ordL [2, 5, 12, 16, 33, 42, 48, 51] [0, 1, 3, 4, 2, 5, 6, 7, 8, 9, 10, 11, 14, 15, 12, 13, 16, 17, 18, 19, 20, 21, 22, 23, 24, 25, 26, 27, 28, 29, 30, 31, 32, 33, 34, 35, 36, 37, 38, 39, 40, 41, 42, 43, 44, 45, 46, 47, 49, 50, 48, 51, 52, 53]) (by decide +kernel) ?_ | refine Len.map ?_ | refine Len.nil ?_ | refine Len.cons ?_ | refine Br.t rfl ?_ | refine Br.f rfl ?_ | refine Fit.au ?_ | refine Cv.au ?_ | refine Need.ne ?_ | refine Need.au ?_ | refine Pick.map (by assumption) ?_ | refine Pick.mapI (by omega) (by assumption) ?_ | refine PickN.mk _ (by assumption) ?_ | refine PickN.mk _ rfl ?_ | refine PickN.au ?_ | refine App.au rfl ?_ | refine App.au (own_map (fun _ => rfl) _) ?_ | refine Both.mk ?_ ?_ | exact True.intro
          refine Br.d (fun h3 => ?_) (fun h3 => ?_)
          · show _ = _
            have : ¬ ∀ x ∈ i.args, 0 ≤ x := fun h => by have := h x gm; omega
            simp [asRes, tru, right15, this]
          · repeat' first | refine Len.map ?_ | refine Len.nil ?_ | refine Len.cons ?_ | refine Br.t rfl ?_ | refine Br.f rfl ?_ | refine Fit.au ?_ | refine Cv.au ?_ | refine Need.ne ?_ | refine Need.au ?_ | refine Pick.map (by assumption) ?_ | refine Pick.mapI (by omega) (by assumption) ?_ | refine PickN.mk _ (by assumption) ?_ | refine PickN.mk _ rfl ?_ | refine PickN.au ?_ | refine App.au rfl ?_ | refine App.au (own_map (fun _ => rfl) _) ?_ | refine Both.mk ?_ ?_ | exact True.intro
            refine Stop.mk (ih (k + 1) _ _ _ ⟨by omega, ?_⟩ (by omega) (g := []) ⟨rfl, (by repeat' first | exact trivial | refine ⟨rfl, ?_⟩ | refine ⟨congrArg (fun n => AV.lit (.int .i64 n)) (by omega), ?_⟩ | refine ⟨congrArg (fun l => some (Row.row 1 l)) (by simp [int1, num, tru]), ?_⟩), (by repeat' first | exact trivial | refine ⟨rfl, ?_⟩ | refine ⟨congrArg (fun n => AV.lit (.int .i64 n)) (by omega), ?_⟩ | refine ⟨congrArg (fun l => some (Row.row 1 l)) (by simp [int1, num, tru]), ?_⟩)⟩)
            exact all_take_succ gx hk2 (by omega)
        · rw [take_all (by omega)] at hk2
          have e : right15 i = tailF i := by simp only [right15, ho, hfit, Bool.true_and, decide_eq_true hk2]
          rw [e]
          clear e ih hk2 hfit h2
          repeat' first | refine Len.map ?_ | refine Len.nil ?_ | refine Len.cons ?_ | refine Br.t rfl ?_ | refine Br.f rfl ?_ | refine Fit.au ?_ | refine Cv.au ?_ | refine Need.ne ?_ | refine Need.au ?_ | refine Pick.map (by assumption) ?_ | refine Pick.mapI (by omega) (by assumption) ?_ | refine PickN.mk _ (by assumption) ?_ | refine PickN.mk _ rfl ?_ | refine PickN.au ?_ | refine App.au rfl ?_ | refine App.au (own_map (fun _ => rfl) _) ?_ | refine Both.mk ?_ ?_ | exact True.intro | refine Br.d (fun h => ?_) (fun h => ?_) | refine Br.nd (fun h => ?_) (fun h => ?_) | refine Br.mk (fun h => ?_) (fun h => ?_)
          all_goals (show _ = _; (try have hne : i.args ≠ [] := fun e => by rw [e] at h; exact absurd h (by decide)); simp_all [asRes, tru, tailF, tailA]; try omega)
end Go.Proofs.YtdgibhndjdgllaaDoor

/- What an instruction writes, reads and goes to, as the document's answer says it, by contracts. -/
namespace Go.Proofs.YtdgibhndjdgllaaDoor
open Go.Ax
set_option maxRecDepth 10000
set_option linter.unusedVariables false

theorem Def15_spec (i : Ins) (hi : i.fits) : FnSpec Tryd.prog 51 [insA i] (fun r => r = num (def15 i)) := by
  refine spec_of 1000 Tryd.func51 rfl rfl ?_
  repeat' first | refine Call.eq (Right15_spec i hi) rfl ?_ | refine Call.eq (Writes_spec _) rfl ?_ | refine Len.map ?_ | refine Len.nil ?_ | refine Len.cons ?_ | refine Br.t rfl ?_ | refine Br.f rfl ?_ | refine Fit.au ?_ | refine Cv.au ?_ | refine Need.ne ?_ | refine Need.au ?_ | refine Pick.map (by assumption) ?_ | refine Pick.mapI (by omega) (by assumption) ?_ | refine PickN.mk _ (by assumption) ?_ | refine PickN.mk _ rfl ?_ | refine PickN.au ?_ | refine App.au rfl ?_ | refine App.au (own_map (fun _ => rfl) _) ?_ | refine Both.mk ?_ ?_ | exact True.intro | refine Br.d (fun h => ?_) (fun h => ?_) | refine Br.nd (fun h => ?_) (fun h => ?_) | refine Br.mk (fun h => ?_) (fun h => ?_)
  all_goals (show _ = _; simp_all [asRes, def15, num])
theorem Targets_spec (i : Ins) (hi : i.fits) : FnSpec Tryd.prog 63 [insA i] (fun r => r = .osl 1 ((targetsF i).map int1)) := by
  refine spec_of 1000 Tryd.func63 rfl rfl ?_
  repeat' first | refine Call.eq (Right15_spec i hi) rfl ?_ | refine Len.map ?_ | refine Len.nil ?_ | refine Len.cons ?_ | refine Br.t rfl ?_ | refine Br.f rfl ?_ | refine Fit.au ?_ | refine Cv.au ?_ | refine Need.ne ?_ | refine Need.au ?_ | refine Pick.map (by assumption) ?_ | refine Pick.mapI (by omega) (by assumption) ?_ | refine PickN.mk _ (by assumption) ?_ | refine PickN.mk _ rfl ?_ | refine PickN.au ?_ | refine App.au rfl ?_ | refine App.au (own_map (fun _ => rfl) _) ?_ | refine Both.mk ?_ ?_ | exact True.intro | refine Br.d (fun h => ?_) (fun h => ?_) | refine Br.nd (fun h => ?_) (fun h => ?_) | refine Br.mk (fun h => ?_) (fun h => ?_)
  all_goals (show _ = _; simp_all [asRes, targetsF, int1])
set_option maxHeartbeats 2000000 in
theorem Uses_spec (i : Ins) (hi : i.args.length ≤ 1000000) : FnSpec Tryd.prog 62 [insA i] (fun r => r = .osl 1 ((usesF i).map int1)) := by
  have hi2 : i.fits := by unfold Ins.fits; omega
  refine spec_of 1 Tryd.func62 rfl rfl ?_
  refine Stop.mk ?_
  apply join (fun _ : Unit => [(1, .hp 0 0), (3, .hw 1)]) (fun _ => [(0, .var i.cs), (1, .row 1 [])]) 2 (fun _ => right15 i = true)
  · intro jn
    refine go 18 Tryd.func62 ?_
    repeat' first | refine Call.eq (Right15_spec i hi2) rfl ?_ | refine Len.map ?_ | refine Len.nil ?_ | refine Len.cons ?_ | refine Br.t rfl ?_ | refine Br.f rfl ?_ | refine Fit.au ?_ | refine Cv.au ?_ | refine Need.ne ?_ | refine Need.au ?_ | refine Pick.map (by assumption) ?_ | refine Pick.mapI (by omega) (by assumption) ?_ | refine PickN.mk _ (by assumption) ?_ | refine PickN.mk _ rfl ?_ | refine PickN.au ?_ | refine App.au rfl ?_ | refine App.au (own_map (fun _ => rfl) _) ?_ | refine Both.mk ?_ ?_ | exact True.intro | refine Br.d (fun h => ?_) (fun h => ?_) | refine Br.nd (fun h => ?_) (fun h => ?_) | refine Br.mk (fun h => ?_) (fun h => ?_)
    all_goals first
      | (refine Stop.mk (jn () _ _ _ (g := []) ⟨rfl, (by repeat' first | exact trivial | refine ⟨rfl, ?_⟩ | refine ⟨congrArg (fun n => AV.lit (.int .i64 n)) (by omega), ?_⟩ | refine ⟨congrArg (fun l => some (Row.row 1 l)) (by simp [int1, num, tru]), ?_⟩), (by repeat' first | exact trivial | refine ⟨rfl, ?_⟩ | refine ⟨congrArg (fun n => AV.lit (.int .i64 n)) (by omega), ?_⟩ | refine ⟨congrArg (fun l => some (Row.row 1 l)) (by simp [int1, num, tru]), ?_⟩)⟩ ?_); show right15 i = true; simp_all; done)
      | (refine Stop.mk (go 1000 Tryd.func62 ?_)
         show _ = _
         simp_all [asRes, usesF])
  intro _ hr
  apply join (fun xs : List Int => [(1, .hp 0 0), (3, .hw 1)]) (fun xs => [(0, .var i.cs), (1, .row 1 (xs.map int1))]) 2 (fun xs => xs = if (abF i.op || oneF i.op) = true then [i.a] else [])
  · intro jn
    refine go 24 Tryd.func62 ?_
    repeat' first | refine Call.eq (two_spec _) rfl ?_ | refine Call.eq (one_spec _) rfl ?_ | refine Len.map ?_ | refine Len.nil ?_ | refine Len.cons ?_ | refine Br.t rfl ?_ | refine Br.f rfl ?_ | refine Fit.au ?_ | refine Cv.au ?_ | refine Need.ne ?_ | refine Need.au ?_ | refine Pick.map (by assumption) ?_ | refine Pick.mapI (by omega) (by assumption) ?_ | refine PickN.mk _ (by assumption) ?_ | refine PickN.mk _ rfl ?_ | refine PickN.au ?_ | refine App.au rfl ?_ | refine App.au (own_map (fun _ => rfl) _) ?_ | refine Both.mk ?_ ?_ | exact True.intro | refine Br.d (fun h => ?_) (fun h => ?_) | refine Br.nd (fun h => ?_) (fun h => ?_) | refine Br.mk (fun h => ?_) (fun h => ?_)
    all_goals first
      | (refine Stop.mk (jn [] _ _ _ (g := []) ⟨rfl, (by repeat' first | exact trivial | refine ⟨rfl, ?_⟩ | refine ⟨congrArg (fun n => AV.lit (.int .i64 n)) (by omega), ?_⟩ | refine ⟨congrArg (fun l => some (Row.row 1 l)) (by simp [int1, num, tru]), ?_⟩), (by repeat' first | exact trivial | refine ⟨rfl, ?_⟩ | refine ⟨congrArg (fun n => AV.lit (.int .i64 n)) (by omega), ?_⟩ | refine ⟨congrArg (fun l => some (Row.row 1 l)) (by simp [int1, num, tru]), ?_⟩)⟩ ?_); rw [abF_eq]; simp_all; done)
      | (refine Stop.mk (go 7 Tryd.func62 ?_)
         repeat' first | refine Len.map ?_ | refine Len.nil ?_ | refine Len.cons ?_ | refine Br.t rfl ?_ | refine Br.f rfl ?_ | refine Fit.au ?_ | refine Cv.au ?_ | refine Need.ne ?_ | refine Need.au ?_ | refine Pick.map (by assumption) ?_ | refine Pick.mapI (by omega) (by assumption) ?_ | refine PickN.mk _ (by assumption) ?_ | refine PickN.mk _ rfl ?_ | refine PickN.au ?_ | refine App.au rfl ?_ | refine App.au (own_map (fun _ => rfl) _) ?_ | refine Both.mk ?_ ?_ | exact True.intro
         refine Stop.mk (jn [i.a] _ _ _ (g := [(1, 3)]) ⟨rfl, (by repeat' first | exact trivial | refine ⟨rfl, ?_⟩ | refine ⟨congrArg (fun n => AV.lit (.int .i64 n)) (by omega), ?_⟩ | refine ⟨congrArg (fun l => some (Row.row 1 l)) (by simp [int1, num, tru]), ?_⟩), (by repeat' first | exact trivial | refine ⟨rfl, ?_⟩ | refine ⟨congrArg (fun n => AV.lit (.int .i64 n)) (by omega), ?_⟩ | refine ⟨congrArg (fun l => some (Row.row 1 l)) (by simp [int1, num, tru]), ?_⟩)⟩ ?_)
         rw [abF_eq]; simp_all; done)
  intro xs hx
  have lx : xs.length ≤ 1 := by rw [hx]; split <;> simp
  apply join (fun xs : List Int => [(1, .hp 0 0), (3, .hw 1)]) (fun xs => [(0, .var i.cs), (1, .row 1 (xs.map int1))]) 2 (fun ys => ys = xs ++ if bF i = true then [i.b] else [])
  · intro jn
    refine go 24 Tryd.func62 ?_
    repeat' first | refine Call.eq (two_spec _) rfl ?_ | refine Len.map ?_ | refine Len.nil ?_ | refine Len.cons ?_ | refine Br.t rfl ?_ | refine Br.f rfl ?_ | refine Fit.au ?_ | refine Cv.au ?_ | refine Need.ne ?_ | refine Need.au ?_ | refine Pick.map (by assumption) ?_ | refine Pick.mapI (by omega) (by assumption) ?_ | refine PickN.mk _ (by assumption) ?_ | refine PickN.mk _ rfl ?_ | refine PickN.au ?_ | refine App.au rfl ?_ | refine App.au (own_map (fun _ => rfl) _) ?_ | refine Both.mk ?_ ?_ | exact True.intro | refine Br.d (fun h => ?_) (fun h => ?_) | refine Br.nd (fun h => ?_) (fun h => ?_) | refine Br.mk (fun h => ?_) (fun h => ?_)
    all_goals first
      | (refine Stop.mk (jn xs _ _ _ (g := []) ⟨rfl, (by repeat' first | exact trivial | refine ⟨rfl, ?_⟩ | refine ⟨congrArg (fun n => AV.lit (.int .i64 n)) (by omega), ?_⟩ | refine ⟨congrArg (fun l => some (Row.row 1 l)) (by simp [int1, num, tru]), ?_⟩), (by repeat' first | exact trivial | refine ⟨rfl, ?_⟩ | refine ⟨congrArg (fun n => AV.lit (.int .i64 n)) (by omega), ?_⟩ | refine ⟨congrArg (fun l => some (Row.row 1 l)) (by simp [int1, num, tru]), ?_⟩)⟩ ?_); rw [bF_eq]; simp_all; done)
      | (refine Stop.mk (go 7 Tryd.func62 ?_)
         repeat' first | refine Len.map ?_ | refine Len.nil ?_ | refine Len.cons ?_ | refine Br.t rfl ?_ | refine Br.f rfl ?_ | refine Fit.au ?_ | refine Cv.au ?_ | refine Need.ne ?_ | refine Need.au ?_ | refine Pick.map (by assumption) ?_ | refine Pick.mapI (by omega) (by assumption) ?_ | refine PickN.mk _ (by assumption) ?_ | refine PickN.mk _ rfl ?_ | refine PickN.au ?_ | refine App.au rfl ?_ | refine App.au (own_map (fun _ => rfl) _) ?_ | refine Both.mk ?_ ?_ | exact True.intro
         refine Stop.mk (jn (xs ++ [i.b]) _ _ _ (g := [(1, 3)]) ⟨rfl, (by repeat' first | exact trivial | refine ⟨rfl, ?_⟩ | refine ⟨congrArg (fun n => AV.lit (.int .i64 n)) (by omega), ?_⟩ | refine ⟨congrArg (fun l => some (Row.row 1 l)) (by simp [int1, num, tru]), ?_⟩), (by repeat' first | exact trivial | refine ⟨rfl, ?_⟩ | refine ⟨congrArg (fun n => AV.lit (.int .i64 n)) (by omega), ?_⟩ | refine ⟨congrArg (fun l => some (Row.row 1 l)) (by simp [int1, num, tru]), ?_⟩)⟩ ?_)
         rw [bF_eq]; simp_all; done)
  intro ys hy
  have ly : ys.length ≤ 2 := by rw [hy, List.length_append]; split <;> simp <;> omega
  apply join (fun xs : List Int => [(1, .hp 0 0), (3, .hw 1)]) (fun xs => [(0, .var i.cs), (1, .row 1 (xs.map int1))]) 2 (fun zs => zs = ys ++ if i.op = 30 then [i.c] else [])
  · intro jn
    refine go 9 Tryd.func62 ?_
    repeat' first | refine Len.map ?_ | refine Len.nil ?_ | refine Len.cons ?_ | refine Br.t rfl ?_ | refine Br.f rfl ?_ | refine Fit.au ?_ | refine Cv.au ?_ | refine Need.ne ?_ | refine Need.au ?_ | refine Pick.map (by assumption) ?_ | refine Pick.mapI (by omega) (by assumption) ?_ | refine PickN.mk _ (by assumption) ?_ | refine PickN.mk _ rfl ?_ | refine PickN.au ?_ | refine App.au rfl ?_ | refine App.au (own_map (fun _ => rfl) _) ?_ | refine Both.mk ?_ ?_ | exact True.intro | refine Br.d (fun h => ?_) (fun h => ?_) | refine Br.nd (fun h => ?_) (fun h => ?_) | refine Br.mk (fun h => ?_) (fun h => ?_)
    all_goals first
      | (refine Stop.mk (jn ys _ _ _ (g := []) ⟨rfl, (by repeat' first | exact trivial | refine ⟨rfl, ?_⟩ | refine ⟨congrArg (fun n => AV.lit (.int .i64 n)) (by omega), ?_⟩ | refine ⟨congrArg (fun l => some (Row.row 1 l)) (by simp [int1, num, tru]), ?_⟩), (by repeat' first | exact trivial | refine ⟨rfl, ?_⟩ | refine ⟨congrArg (fun n => AV.lit (.int .i64 n)) (by omega), ?_⟩ | refine ⟨congrArg (fun l => some (Row.row 1 l)) (by simp [int1, num, tru]), ?_⟩)⟩ ?_); simp_all; done)
      | (refine Stop.mk (go 7 Tryd.func62 ?_)
         repeat' first | refine Len.map ?_ | refine Len.nil ?_ | refine Len.cons ?_ | refine Br.t rfl ?_ | refine Br.f rfl ?_ | refine Fit.au ?_ | refine Cv.au ?_ | refine Need.ne ?_ | refine Need.au ?_ | refine Pick.map (by assumption) ?_ | refine Pick.mapI (by omega) (by assumption) ?_ | refine PickN.mk _ (by assumption) ?_ | refine PickN.mk _ rfl ?_ | refine PickN.au ?_ | refine App.au rfl ?_ | refine App.au (own_map (fun _ => rfl) _) ?_ | refine Both.mk ?_ ?_ | exact True.intro
         refine Stop.mk (jn (ys ++ [i.c]) _ _ _ (g := [(1, 3)]) ⟨rfl, (by repeat' first | exact trivial | refine ⟨rfl, ?_⟩ | refine ⟨congrArg (fun n => AV.lit (.int .i64 n)) (by omega), ?_⟩ | refine ⟨congrArg (fun l => some (Row.row 1 l)) (by simp [int1, num, tru]), ?_⟩), (by repeat' first | exact trivial | refine ⟨rfl, ?_⟩ | refine ⟨congrArg (fun n => AV.lit (.int .i64 n)) (by omega), ?_⟩ | refine ⟨congrArg (fun l => some (Row.row 1 l)) (by simp [int1, num, tru]), ?_⟩)⟩ ?_)
         simp_all; done)
  intro zs hz
  have lz : zs.length ≤ 3 := by rw [hz, List.length_append]; split <;> simp <;> omega
  refine go 1000 Tryd.func62 ?_
  repeat' first | refine Len.map ?_ | refine Len.nil ?_ | refine Len.cons ?_ | refine Br.t rfl ?_ | refine Br.f rfl ?_ | refine Fit.au ?_ | refine Cv.au ?_ | refine Need.ne ?_ | refine Need.au ?_ | refine Pick.map (by assumption) ?_ | refine Pick.mapI (by omega) (by assumption) ?_ | refine PickN.mk _ (by assumption) ?_ | refine PickN.mk _ rfl ?_ | refine PickN.au ?_ | refine App.au rfl ?_ | refine App.au (own_map (fun _ => rfl) _) ?_ | refine Both.mk ?_ ?_ | exact True.intro
  show _ = _
  simp [asRes, usesF, hr, hz, hy, hx]
end Go.Proofs.YtdgibhndjdgllaaDoor

/- What instructions do last with a root (the document's), by a contract. -/
namespace Go.Proofs.YtdgibhndjdgllaaDoor
open Go.Ax
set_option maxRecDepth 10000
set_option linter.unusedVariables false
set_option maxHeartbeats 0

/-- What the walk asks of a function. -/
structure NilW (f : Fun) : Prop extends NilOK f where
  fit : f.fits
  few : f.blocks.length ≤ 1000
  reg : f.regs.length ≤ 100
  len : ∀ b ∈ f.blocks, b.length ≤ 1000000
/-- And the document's answer. -/
structure NilR (f : Fun) : Prop extends NilW f where
  arg : ∀ b ∈ f.blocks, ∀ i ∈ b, i.args.length ≤ 1000000 ∧ rightF i = true
  root : ∀ x, FnSpec Tryd.prog 20 [funA f, num x] (fun r => r = num ((newF f).root x))
  chain : ∀ x, FnSpec Tryd.prog 52 [funA f, num x] (fun r => r = .osl 1 (((newF f).chain x).map int1)) ∧ ((newF f).chain x).length ≤ 100
  all_ : ∀ k : Nat, k < f.blocks.length → Reaches (succsF f) (-1) k
theorem last53_spec (f : Fun) (h : NilR f) (b : List Ins) (hb : b ∈ f.blocks) (m : Nat) (hm : m ≤ b.length) (q : Int) : FnSpec Tryd.prog 53 [funA f, .sl false 9 (b.map Ins.cs), num m, num q] (fun r => r = num (lastN f q (b.take m))) := by
  have hlen := h.len b hb
  refine spec_of 1000 Tryd.func53 rfl rfl ?_
  repeat' first | refine Len.map ?_ | refine Len.nil ?_ | refine Len.cons ?_ | refine Br.t rfl ?_ | refine Br.f rfl ?_ | refine Fit.au ?_ | refine Cv.au ?_ | refine Need.ne ?_ | refine Need.au ?_ | refine Pick.map (by assumption) ?_ | refine Pick.mapI (by omega) (by assumption) ?_ | refine PickN.mk _ (by assumption) ?_ | refine PickN.mk _ rfl ?_ | refine PickN.au ?_ | refine App.au rfl ?_ | refine App.au (own_map (fun _ => rfl) _) ?_ | refine Both.mk ?_ ?_ | exact True.intro
  refine Stop.mk (loop_in (g := []) (fun k : Nat => [(1, .sl false 9 (b.map Ins.cs)), (2, num m), (3, num q), (4, .hp 0 0), (9, num (lastN f q (b.take k))), (10, num k)]) (fun _ => [(0, .var f.cs)]) 1 (fun k => k ≤ m) (fun k => m - k) 0 (Nat.zero_le _) ⟨rfl, (by repeat' first | exact trivial | refine ⟨rfl, ?_⟩ | refine ⟨congrArg (fun n => AV.lit (.int .i64 n)) (by omega), ?_⟩ | refine ⟨congrArg (fun l => some (Row.row 1 l)) (by simp [int1, num, tru]), ?_⟩), (by repeat' first | exact trivial | refine ⟨rfl, ?_⟩ | refine ⟨congrArg (fun n => AV.lit (.int .i64 n)) (by omega), ?_⟩ | refine ⟨congrArg (fun l => some (Row.row 1 l)) (by simp [int1, num, tru]), ?_⟩)⟩ (fun k hk ih => ?_))
  by_cases h2 : k < m
  · obtain ⟨i, gi, him⟩ := getK (l := b) (k := k) (by omega)
    have harg := h.arg b hb i him
    have hD := Def15_spec i (by unfold Ins.fits; omega)
    rw [← def_eq] at hD
    have hO := h.root i.a
    have hst := lastN_take (f := f) (q := q) gi
    unfold lastS at hst
    have ih' := @ih (k + 1)
    by_cases hd : defF i = q
    · by_cases ha : i.op = 31
      · by_cases hr : (newF f).root i.a = q
        · rw [if_pos (show askB f i ∧ rootI f i = q from ⟨⟨ha, harg.2⟩, hr⟩)] at hst
          refine go 1000 Tryd.func53 ?_
          repeat' first | (refine Br.t ?_ ?_; focus (first | (simp; omega) | (simp; done) | (simpa using hd) | (simpa using ha) | (simpa using hr))) | refine Draw.mk (ordL [13] [0, 1, 2, 3, 4, 5, 6, 7, 8, 9, 10, 11, 12, 14, 13, 15, 16]) (by decide +kernel) ?_ | refine Pick.map gi ?_ | refine Call.eq hD rfl ?_ | refine Call.eq hO rfl ?_ | refine Len.map ?_ | refine Len.nil ?_ | refine Len.cons ?_ | refine Br.t rfl ?_ | refine Br.f rfl ?_ | refine Fit.au ?_ | refine Cv.au ?_ | refine Need.ne ?_ | refine Need.au ?_ | refine Pick.map (by assumption) ?_ | refine Pick.mapI (by omega) (by assumption) ?_ | refine PickN.mk _ (by assumption) ?_ | refine PickN.mk _ rfl ?_ | refine PickN.au ?_ | refine App.au rfl ?_ | refine App.au (own_map (fun _ => rfl) _) ?_ | refine Both.mk ?_ ?_ | exact True.intro
          rw [hst] at ih'
          all_goals exact Stop.mk (ih' (g := []) _ _ _ (by omega) (by omega) ⟨rfl, (by repeat' first | exact trivial | refine ⟨rfl, ?_⟩ | refine ⟨congrArg (fun n => AV.lit (.int .i64 n)) (by omega), ?_⟩ | refine ⟨congrArg (fun l => some (Row.row 1 l)) (by simp [int1, num, tru]), ?_⟩), (by repeat' first | exact trivial | refine ⟨rfl, ?_⟩ | refine ⟨congrArg (fun n => AV.lit (.int .i64 n)) (by omega), ?_⟩ | refine ⟨congrArg (fun l => some (Row.row 1 l)) (by simp [int1, num, tru]), ?_⟩)⟩)
        · rw [if_neg (fun e : askB f i ∧ rootI f i = q => hr e.2), if_pos hd] at hst
          refine go 1000 Tryd.func53 ?_
          repeat' first | (refine Br.t ?_ ?_; focus (first | (simp; omega) | (simp; done) | (simpa using hd) | (simpa using ha))) | (refine Br.f ?_ ?_; focus (first | (simp; done) | simpa using hr)) | refine Draw.mk (ordL [13] [0, 1, 2, 3, 4, 5, 6, 7, 8, 9, 10, 11, 12, 14, 13, 15, 16]) (by decide +kernel) ?_ | refine Pick.map gi ?_ | refine Call.eq hD rfl ?_ | refine Call.eq hO rfl ?_ | refine Len.map ?_ | refine Len.nil ?_ | refine Len.cons ?_ | refine Br.t rfl ?_ | refine Br.f rfl ?_ | refine Fit.au ?_ | refine Cv.au ?_ | refine Need.ne ?_ | refine Need.au ?_ | refine Pick.map (by assumption) ?_ | refine Pick.mapI (by omega) (by assumption) ?_ | refine PickN.mk _ (by assumption) ?_ | refine PickN.mk _ rfl ?_ | refine PickN.au ?_ | refine App.au rfl ?_ | refine App.au (own_map (fun _ => rfl) _) ?_ | refine Both.mk ?_ ?_ | exact True.intro
          rw [hst] at ih'
          all_goals exact Stop.mk (ih' (g := []) _ _ _ (by omega) (by omega) ⟨rfl, (by repeat' first | exact trivial | refine ⟨rfl, ?_⟩ | refine ⟨congrArg (fun n => AV.lit (.int .i64 n)) (by omega), ?_⟩ | refine ⟨congrArg (fun l => some (Row.row 1 l)) (by simp [int1, num, tru]), ?_⟩), (by repeat' first | exact trivial | refine ⟨rfl, ?_⟩ | refine ⟨congrArg (fun n => AV.lit (.int .i64 n)) (by omega), ?_⟩ | refine ⟨congrArg (fun l => some (Row.row 1 l)) (by simp [int1, num, tru]), ?_⟩)⟩)
      · rw [if_neg (fun e : askB f i ∧ rootI f i = q => ha e.1.1), if_pos hd] at hst
        refine go 1000 Tryd.func53 ?_
        repeat' first | (refine Br.t ?_ ?_; focus (first | (simp; omega) | (simp; done) | (simpa using hd))) | (refine Br.f ?_ ?_; focus (first | (simp; done) | simpa using ha)) | refine Draw.mk (ordL [13] [0, 1, 2, 3, 4, 5, 6, 7, 8, 9, 10, 11, 12, 14, 13, 15, 16]) (by decide +kernel) ?_ | refine Pick.map gi ?_ | refine Call.eq hD rfl ?_ | refine Call.eq hO rfl ?_ | refine Len.map ?_ | refine Len.nil ?_ | refine Len.cons ?_ | refine Br.t rfl ?_ | refine Br.f rfl ?_ | refine Fit.au ?_ | refine Cv.au ?_ | refine Need.ne ?_ | refine Need.au ?_ | refine Pick.map (by assumption) ?_ | refine Pick.mapI (by omega) (by assumption) ?_ | refine PickN.mk _ (by assumption) ?_ | refine PickN.mk _ rfl ?_ | refine PickN.au ?_ | refine App.au rfl ?_ | refine App.au (own_map (fun _ => rfl) _) ?_ | refine Both.mk ?_ ?_ | exact True.intro
        rw [hst] at ih'
        all_goals exact Stop.mk (ih' (g := []) _ _ _ (by omega) (by omega) ⟨rfl, (by repeat' first | exact trivial | refine ⟨rfl, ?_⟩ | refine ⟨congrArg (fun n => AV.lit (.int .i64 n)) (by omega), ?_⟩ | refine ⟨congrArg (fun l => some (Row.row 1 l)) (by simp [int1, num, tru]), ?_⟩), (by repeat' first | exact trivial | refine ⟨rfl, ?_⟩ | refine ⟨congrArg (fun n => AV.lit (.int .i64 n)) (by omega), ?_⟩ | refine ⟨congrArg (fun l => some (Row.row 1 l)) (by simp [int1, num, tru]), ?_⟩)⟩)
    · by_cases ha : i.op = 31
      · by_cases hr : (newF f).root i.a = q
        · rw [if_pos (show askB f i ∧ rootI f i = q from ⟨⟨ha, harg.2⟩, hr⟩)] at hst
          refine go 1000 Tryd.func53 ?_
          repeat' first | (refine Br.t ?_ ?_; focus (first | (simp; omega) | (simp; done) | (simpa using ha) | (simpa using hr))) | (refine Br.f ?_ ?_; focus (first | (simp; done) | simpa using hd)) | refine Draw.mk (ordL [13] [0, 1, 2, 3, 4, 5, 6, 7, 8, 9, 10, 11, 12, 14, 13, 15, 16]) (by decide +kernel) ?_ | refine Pick.map gi ?_ | refine Call.eq hD rfl ?_ | refine Call.eq hO rfl ?_ | refine Len.map ?_ | refine Len.nil ?_ | refine Len.cons ?_ | refine Br.t rfl ?_ | refine Br.f rfl ?_ | refine Fit.au ?_ | refine Cv.au ?_ | refine Need.ne ?_ | refine Need.au ?_ | refine Pick.map (by assumption) ?_ | refine Pick.mapI (by omega) (by assumption) ?_ | refine PickN.mk _ (by assumption) ?_ | refine PickN.mk _ rfl ?_ | refine PickN.au ?_ | refine App.au rfl ?_ | refine App.au (own_map (fun _ => rfl) _) ?_ | refine Both.mk ?_ ?_ | exact True.intro
          rw [hst] at ih'
          all_goals exact Stop.mk (ih' (g := []) _ _ _ (by omega) (by omega) ⟨rfl, (by repeat' first | exact trivial | refine ⟨rfl, ?_⟩ | refine ⟨congrArg (fun n => AV.lit (.int .i64 n)) (by omega), ?_⟩ | refine ⟨congrArg (fun l => some (Row.row 1 l)) (by simp [int1, num, tru]), ?_⟩), (by repeat' first | exact trivial | refine ⟨rfl, ?_⟩ | refine ⟨congrArg (fun n => AV.lit (.int .i64 n)) (by omega), ?_⟩ | refine ⟨congrArg (fun l => some (Row.row 1 l)) (by simp [int1, num, tru]), ?_⟩)⟩)
        · rw [if_neg (fun e : askB f i ∧ rootI f i = q => hr e.2), if_neg hd] at hst
          refine go 1000 Tryd.func53 ?_
          repeat' first | (refine Br.t ?_ ?_; focus (first | (simp; omega) | (simp; done) | (simpa using ha))) | (refine Br.f ?_ ?_; focus (first | (simp; done) | (simpa using hd) | (simpa using hr))) | refine Draw.mk (ordL [13] [0, 1, 2, 3, 4, 5, 6, 7, 8, 9, 10, 11, 12, 14, 13, 15, 16]) (by decide +kernel) ?_ | refine Pick.map gi ?_ | refine Call.eq hD rfl ?_ | refine Call.eq hO rfl ?_ | refine Len.map ?_ | refine Len.nil ?_ | refine Len.cons ?_ | refine Br.t rfl ?_ | refine Br.f rfl ?_ | refine Fit.au ?_ | refine Cv.au ?_ | refine Need.ne ?_ | refine Need.au ?_ | refine Pick.map (by assumption) ?_ | refine Pick.mapI (by omega) (by assumption) ?_ | refine PickN.mk _ (by assumption) ?_ | refine PickN.mk _ rfl ?_ | refine PickN.au ?_ | refine App.au rfl ?_ | refine App.au (own_map (fun _ => rfl) _) ?_ | refine Both.mk ?_ ?_ | exact True.intro
          rw [hst] at ih'
          all_goals exact Stop.mk (ih' (g := []) _ _ _ (by omega) (by omega) ⟨rfl, (by repeat' first | exact trivial | refine ⟨rfl, ?_⟩ | refine ⟨congrArg (fun n => AV.lit (.int .i64 n)) (by omega), ?_⟩ | refine ⟨congrArg (fun l => some (Row.row 1 l)) (by simp [int1, num, tru]), ?_⟩), (by repeat' first | exact trivial | refine ⟨rfl, ?_⟩ | refine ⟨congrArg (fun n => AV.lit (.int .i64 n)) (by omega), ?_⟩ | refine ⟨congrArg (fun l => some (Row.row 1 l)) (by simp [int1, num, tru]), ?_⟩)⟩)
      · rw [if_neg (fun e : askB f i ∧ rootI f i = q => ha e.1.1), if_neg hd] at hst
        refine go 1000 Tryd.func53 ?_
        repeat' first | (refine Br.t ?_ ?_; focus (simp; omega)) | (refine Br.f ?_ ?_; focus (first | (simp; done) | (simpa using hd) | (simpa using ha))) | refine Draw.mk (ordL [13] [0, 1, 2, 3, 4, 5, 6, 7, 8, 9, 10, 11, 12, 14, 13, 15, 16]) (by decide +kernel) ?_ | refine Pick.map gi ?_ | refine Call.eq hD rfl ?_ | refine Call.eq hO rfl ?_ | refine Len.map ?_ | refine Len.nil ?_ | refine Len.cons ?_ | refine Br.t rfl ?_ | refine Br.f rfl ?_ | refine Fit.au ?_ | refine Cv.au ?_ | refine Need.ne ?_ | refine Need.au ?_ | refine Pick.map (by assumption) ?_ | refine Pick.mapI (by omega) (by assumption) ?_ | refine PickN.mk _ (by assumption) ?_ | refine PickN.mk _ rfl ?_ | refine PickN.au ?_ | refine App.au rfl ?_ | refine App.au (own_map (fun _ => rfl) _) ?_ | refine Both.mk ?_ ?_ | exact True.intro
        rw [hst] at ih'
        all_goals exact Stop.mk (ih' (g := []) _ _ _ (by omega) (by omega) ⟨rfl, (by repeat' first | exact trivial | refine ⟨rfl, ?_⟩ | refine ⟨congrArg (fun n => AV.lit (.int .i64 n)) (by omega), ?_⟩ | refine ⟨congrArg (fun l => some (Row.row 1 l)) (by simp [int1, num, tru]), ?_⟩), (by repeat' first | exact trivial | refine ⟨rfl, ?_⟩ | refine ⟨congrArg (fun n => AV.lit (.int .i64 n)) (by omega), ?_⟩ | refine ⟨congrArg (fun l => some (Row.row 1 l)) (by simp [int1, num, tru]), ?_⟩)⟩)
  · obtain rfl : k = m := by omega
    refine go 1000 Tryd.func53 ?_
    repeat' first | (refine Br.f ?_ ?_; focus (simp; done)) | refine Len.map ?_ | refine Len.nil ?_ | refine Len.cons ?_ | refine Br.t rfl ?_ | refine Br.f rfl ?_ | refine Fit.au ?_ | refine Cv.au ?_ | refine Need.ne ?_ | refine Need.au ?_ | refine Pick.map (by assumption) ?_ | refine Pick.mapI (by omega) (by assumption) ?_ | refine PickN.mk _ (by assumption) ?_ | refine PickN.mk _ rfl ?_ | refine PickN.au ?_ | refine App.au rfl ?_ | refine App.au (own_map (fun _ => rfl) _) ?_ | refine Both.mk ?_ ?_ | exact True.intro
    rfl
end Go.Proofs.YtdgibhndjdgllaaDoor

/- Full sets, and sets that are right: by contracts. -/
namespace Go.Proofs.YtdgibhndjdgllaaDoor
open Go.Ax
set_option maxRecDepth 10000
set_option linter.unusedVariables false

theorem fzw (s : List W) : AV.fzLL (s.map u1) = s.map u1 := fzLL_map (enc2 := u1) (fun _ => rfl) s
theorem Full43_spec (n : Nat) (hn : n ≤ 65536) : FnSpec Tryd.prog 43 [num n] (fun r => r = .osl 1 ((fullW n).map u1)) := by
  have hN := New35_spec n hn
  have hw := wn_le hn
  have hnl := newW_len n
  refine spec_of 1000 Tryd.func43 rfl rfl ?_
  repeat' first | refine Call.eq hN rfl ?_ | refine Len.map ?_ | refine Len.nil ?_ | refine Len.cons ?_ | refine Br.t rfl ?_ | refine Br.f rfl ?_ | refine Fit.au ?_ | refine Cv.au ?_ | refine Need.ne ?_ | refine Need.au ?_ | refine Pick.map (by assumption) ?_ | refine Pick.mapI (by omega) (by assumption) ?_ | refine PickN.mk _ (by assumption) ?_ | refine PickN.mk _ rfl ?_ | refine PickN.au ?_ | refine App.au rfl ?_ | refine App.au (own_map (fun _ => rfl) _) ?_ | refine Both.mk ?_ ?_ | exact True.intro
  obtain ⟨M, hM⟩ : ∃ M, M = wn n := ⟨_, rfl⟩
  have hz : (newW n).map u1 = (fillW M 0 fun _ => ones64).map u1 := by rw [fillW_zero, hM]; rfl
  rw [hnl, ← hM]
  refine Stop.mk (loop_in (g := []) (fun k : Nat => [(0, num n), (3, .hw 0), (9, num M), (10, num k)]) (fun k => [(0, .row 1 ((fillW M k fun _ => ones64).map u1))]) 1 (fun k => k ≤ M) (fun k => M - k) 0 (by omega) ⟨rfl, (by repeat' first | exact trivial | refine ⟨rfl, ?_⟩), by refine ⟨congrArg (fun l => some (Row.row 1 l)) hz, trivial⟩⟩ (fun k hk ih => ?_))
  have hfl := fillW_len M k fun _ => ones64
  refine go 1000 Tryd.func43 ?_
  repeat' first | refine Len.map ?_ | refine Len.nil ?_ | refine Len.cons ?_ | refine Br.t rfl ?_ | refine Br.f rfl ?_ | refine Fit.au ?_ | refine Cv.au ?_ | refine Need.ne ?_ | refine Need.au ?_ | refine Pick.map (by assumption) ?_ | refine Pick.mapI (by omega) (by assumption) ?_ | refine PickN.mk _ (by assumption) ?_ | refine PickN.mk _ rfl ?_ | refine PickN.au ?_ | refine App.au rfl ?_ | refine App.au (own_map (fun _ => rfl) _) ?_ | refine Both.mk ?_ ?_ | exact True.intro
  refine Br.d (fun h => ?_) (fun h => ?_)
  · have gk := fillW_at (n := M) (k := k) (i := k) (f := fun _ => ones64) (by omega)
    have hset := fillW_set (n := M) (k := k) (f := fun _ => ones64) (by omega)
    have h2 : ((fillW M k fun _ => ones64).map u1).set k [.lit (.int .u64 18446744073709551615)] = (fillW M (k + 1) fun _ => ones64).map u1 := by
      rw [← hset, List.map_set, ← ones_nat]; rfl
    repeat' first | refine Need.mk ⟨by omega, by rw [List.length_map, hfl, Int.toNat_natCast]; omega⟩ ?_ | refine PickN.map gk ?_ | refine Len.map ?_ | refine Len.nil ?_ | refine Len.cons ?_ | refine Br.t rfl ?_ | refine Br.f rfl ?_ | refine Fit.au ?_ | refine Cv.au ?_ | refine Need.ne ?_ | refine Need.au ?_ | refine Pick.map (by assumption) ?_ | refine Pick.mapI (by omega) (by assumption) ?_ | refine PickN.mk _ (by assumption) ?_ | refine PickN.mk _ rfl ?_ | refine PickN.au ?_ | refine App.au rfl ?_ | refine App.au (own_map (fun _ => rfl) _) ?_ | refine Both.mk ?_ ?_ | exact True.intro
    refine Stop.mk (ih (k + 1) (g := []) _ _ _ (by omega) (by omega) ⟨rfl, (by repeat' first | exact trivial | refine ⟨rfl, ?_⟩), by refine ⟨congrArg (fun l => some (Row.row 1 l)) h2, trivial⟩⟩)
  · obtain rfl : k = M := by omega
    repeat' first | refine Len.map ?_ | refine Len.nil ?_ | refine Len.cons ?_ | refine Br.t rfl ?_ | refine Br.f rfl ?_ | refine Fit.au ?_ | refine Cv.au ?_ | refine Need.ne ?_ | refine Need.au ?_ | refine Pick.map (by assumption) ?_ | refine Pick.mapI (by omega) (by assumption) ?_ | refine PickN.mk _ (by assumption) ?_ | refine PickN.mk _ rfl ?_ | refine PickN.au ?_ | refine App.au rfl ?_ | refine App.au (own_map (fun _ => rfl) _) ?_ | refine Both.mk ?_ ?_ | exact True.intro
    have hq : (n : Int).tmod 64 = ((n % 64 : Nat) : Int) := by rw [Int.tmod_eq_emod_of_nonneg (by omega)]; omega
    rw [hq]
    refine Br.d (fun h3 => ?_) (fun h3 => ?_)
    · have hk0 : 0 < k := by unfold wn at hM; omega
      repeat' first | refine Len.map ?_ | refine Len.nil ?_ | refine Len.cons ?_ | refine Br.t rfl ?_ | refine Br.f rfl ?_ | refine Fit.au ?_ | refine Cv.au ?_ | refine Need.ne ?_ | refine Need.au ?_ | refine Pick.map (by assumption) ?_ | refine Pick.mapI (by omega) (by assumption) ?_ | refine PickN.mk _ (by assumption) ?_ | refine PickN.mk _ rfl ?_ | refine PickN.au ?_ | refine App.au rfl ?_ | refine App.au (own_map (fun _ => rfl) _) ?_ | refine Both.mk ?_ ?_ | exact True.intro
      refine Br.d (fun h4 => ?_) (fun h4 => absurd h4 (by rw [hfl]; omega))
      have gl := fillW_at (n := k) (k := k) (i := k - 1) (f := fun _ => ones64) (by omega)
      rw [if_pos (by omega)] at gl
      have gl2 : (fillW k k fun _ => ones64)[(((fillW k k fun _ => ones64).length : Int) - 1).toNat]? = some ones64 := by
        rw [show (((fillW k k fun _ => ones64).length : Int) - 1).toNat = k - 1 by rw [hfl]; omega]; exact gl
      have hsh := shrI (n % 64) (by omega) (Nat.mod_lt _ (by decide))
      have hend := fullW_last (n := n) (by omega)
      rw [← hM] at hend
      have h2 : ((fillW k k fun _ => ones64).map u1).set (((fillW k k fun _ => ones64).length : Int) - 1).toNat [.lit (.int .u64 ((ones64.toNat : Int).fdiv (2 ^ min ((64 : Int) - ((n % 64 : Nat) : Int)).toNat 64)))] = (fullW n).map u1 := by
        rw [hend, List.map_set, ones_nat, hsh, show (((fillW k k fun _ => ones64).length : Int) - 1).toNat = k - 1 by rw [hfl]; omega]; rfl
      repeat' first | refine Need.mk ⟨by rw [hfl]; omega, by rw [List.length_map, hfl]; omega⟩ ?_ | refine PickN.map gl2 ?_ | refine Need.mk (by omega) ?_ | refine Len.map ?_ | refine Len.nil ?_ | refine Len.cons ?_ | refine Br.t rfl ?_ | refine Br.f rfl ?_ | refine Fit.au ?_ | refine Cv.au ?_ | refine Need.ne ?_ | refine Need.au ?_ | refine Pick.map (by assumption) ?_ | refine Pick.mapI (by omega) (by assumption) ?_ | refine PickN.mk _ (by assumption) ?_ | refine PickN.mk _ rfl ?_ | refine PickN.au ?_ | refine App.au rfl ?_ | refine App.au (own_map (fun _ => rfl) _) ?_ | refine Both.mk ?_ ?_ | exact True.intro
      show AV.osl 1 _ = AV.osl 1 _
      rw [← h2]
      rfl
    · have hend := fullW_plain (n := n) (by omega)
      rw [← hM] at hend
      repeat' first | refine Len.map ?_ | refine Len.nil ?_ | refine Len.cons ?_ | refine Br.t rfl ?_ | refine Br.f rfl ?_ | refine Fit.au ?_ | refine Cv.au ?_ | refine Need.ne ?_ | refine Need.au ?_ | refine Pick.map (by assumption) ?_ | refine Pick.mapI (by omega) (by assumption) ?_ | refine PickN.mk _ (by assumption) ?_ | refine PickN.mk _ rfl ?_ | refine PickN.au ?_ | refine App.au rfl ?_ | refine App.au (own_map (fun _ => rfl) _) ?_ | refine Both.mk ?_ ?_ | exact True.intro
      show AV.osl 1 _ = AV.osl 1 _
      rw [hend]
/-- Of no numbers the list is empty. -/
theorem List28_zero (s : List W) (hs : s.length ≤ 1000000) (hz : ∀ w ∈ s, w = 0) : FnSpec Tryd.prog 28 [sets s] (fun r => r = .osl 1 []) := by
  refine spec_of 1000 Tryd.func28 rfl rfl ?_
  repeat' first | refine Len.map ?_ | refine Len.nil ?_ | refine Len.cons ?_ | refine Br.t rfl ?_ | refine Br.f rfl ?_ | refine Fit.au ?_ | refine Cv.au ?_ | refine Need.ne ?_ | refine Need.au ?_ | refine Pick.map (by assumption) ?_ | refine Pick.mapI (by omega) (by assumption) ?_ | refine PickN.mk _ (by assumption) ?_ | refine PickN.mk _ rfl ?_ | refine PickN.au ?_ | refine App.au rfl ?_ | refine App.au (own_map (fun _ => rfl) _) ?_ | refine Both.mk ?_ ?_ | exact True.intro
  refine Stop.mk (run_nilT 3 1 rfl ?_)
  refine go 1000 Tryd.func28 ?_
  repeat' first | refine Len.map ?_ | refine Len.nil ?_ | refine Len.cons ?_ | refine Br.t rfl ?_ | refine Br.f rfl ?_ | refine Fit.au ?_ | refine Cv.au ?_ | refine Need.ne ?_ | refine Need.au ?_ | refine Pick.map (by assumption) ?_ | refine Pick.mapI (by omega) (by assumption) ?_ | refine PickN.mk _ (by assumption) ?_ | refine PickN.mk _ rfl ?_ | refine PickN.au ?_ | refine App.au rfl ?_ | refine App.au (own_map (fun _ => rfl) _) ?_ | refine Both.mk ?_ ?_ | exact True.intro
  refine Stop.mk (loop_in (g := []) (fun k : Nat => [(0, sets s), (3, .hw 0), (7, num s.length), (8, num k)]) (fun k => [(0, .row 1 [])]) 1 (fun k => k ≤ s.length) (fun k => s.length - k) 0 (by omega) ⟨rfl, (by repeat' first | exact trivial | refine ⟨rfl, ?_⟩ | refine ⟨congrArg (fun n => AV.lit (.int .i64 n)) (by omega), ?_⟩ | refine ⟨congrArg (fun l => some (Row.row 1 l)) (by simp [int1, num, tru]), ?_⟩), (by repeat' first | exact trivial | refine ⟨rfl, ?_⟩ | refine ⟨congrArg (fun n => AV.lit (.int .i64 n)) (by omega), ?_⟩ | refine ⟨congrArg (fun l => some (Row.row 1 l)) (by simp [int1, num, tru]), ?_⟩)⟩ (fun k hk ih => ?_))
  refine go 1000 Tryd.func28 ?_
  repeat' first | refine Len.map ?_ | refine Len.nil ?_ | refine Len.cons ?_ | refine Br.t rfl ?_ | refine Br.f rfl ?_ | refine Fit.au ?_ | refine Cv.au ?_ | refine Need.ne ?_ | refine Need.au ?_ | refine Pick.map (by assumption) ?_ | refine Pick.mapI (by omega) (by assumption) ?_ | refine PickN.mk _ (by assumption) ?_ | refine PickN.mk _ rfl ?_ | refine PickN.au ?_ | refine App.au rfl ?_ | refine App.au (own_map (fun _ => rfl) _) ?_ | refine Both.mk ?_ ?_ | exact True.intro
  refine Br.d (fun h => ?_) (fun h => ?_)
  · obtain ⟨w, gw, gwm⟩ := getK (l := s) (k := k) (by omega)
    obtain rfl := hz w gwm
    repeat' first | refine Pick.map gw ?_ | refine Len.map ?_ | refine Len.nil ?_ | refine Len.cons ?_ | refine Br.t rfl ?_ | refine Br.f rfl ?_ | refine Fit.au ?_ | refine Cv.au ?_ | refine Need.ne ?_ | refine Need.au ?_ | refine Pick.map (by assumption) ?_ | refine Pick.mapI (by omega) (by assumption) ?_ | refine PickN.mk _ (by assumption) ?_ | refine PickN.mk _ rfl ?_ | refine PickN.au ?_ | refine App.au rfl ?_ | refine App.au (own_map (fun _ => rfl) _) ?_ | refine Both.mk ?_ ?_ | exact True.intro
    refine Stop.mk ?_
    refine run_loop ?_
    refine go 1000 Tryd.func28 ?_
    repeat' first | refine Len.map ?_ | refine Len.nil ?_ | refine Len.cons ?_ | refine Br.t rfl ?_ | refine Br.f rfl ?_ | refine Fit.au ?_ | refine Cv.au ?_ | refine Need.ne ?_ | refine Need.au ?_ | refine Pick.map (by assumption) ?_ | refine Pick.mapI (by omega) (by assumption) ?_ | refine PickN.mk _ (by assumption) ?_ | refine PickN.mk _ rfl ?_ | refine PickN.au ?_ | refine App.au rfl ?_ | refine App.au (own_map (fun _ => rfl) _) ?_ | refine Both.mk ?_ ?_ | exact True.intro
    exact Stop.mk (ih (k + 1) (g := []) _ _ _ (by omega) (by omega) ⟨rfl, (by repeat' first | exact trivial | refine ⟨rfl, ?_⟩ | refine ⟨congrArg (fun n => AV.lit (.int .i64 n)) (by omega), ?_⟩ | refine ⟨congrArg (fun l => some (Row.row 1 l)) (by simp [int1, num, tru]), ?_⟩), (by repeat' first | exact trivial | refine ⟨rfl, ?_⟩ | refine ⟨congrArg (fun n => AV.lit (.int .i64 n)) (by omega), ?_⟩ | refine ⟨congrArg (fun l => some (Row.row 1 l)) (by simp [int1, num, tru]), ?_⟩)⟩)
  · repeat' first | refine Len.map ?_ | refine Len.nil ?_ | refine Len.cons ?_ | refine Br.t rfl ?_ | refine Br.f rfl ?_ | refine Fit.au ?_ | refine Cv.au ?_ | refine Need.ne ?_ | refine Need.au ?_ | refine Pick.map (by assumption) ?_ | refine Pick.mapI (by omega) (by assumption) ?_ | refine PickN.mk _ (by assumption) ?_ | refine PickN.mk _ rfl ?_ | refine PickN.au ?_ | refine App.au rfl ?_ | refine App.au (own_map (fun _ => rfl) _) ?_ | refine Both.mk ?_ ?_ | exact True.intro
    rfl
theorem Right102_spec (s : List W) (n : Nat) (hn : n ≤ 65536) (hr : RightW s n) : FnSpec Tryd.prog 102 [sets s, num n] (fun r => r = tru true) := by
  have hw := wn_le hn
  have hsl := hr.1
  have hN := New35_spec n hn
  have hF := Full43_spec n hn
  have hL := Less45_spec s (fullW n) (by omega) (by rw [fullW_len]; omega)
  have hz := List28_zero (lessW s (fullW n)) (by unfold lessW; rw [fillW_len]; omega) hr.less
  have hnl := newW_len n
  refine spec_of 1000 Tryd.func102 rfl rfl ?_
  repeat' first | (refine Br.f ?_ ?_; focus (simp; omega)) | refine Call.eq hN rfl ?_ | refine Len.map ?_ | refine Len.map ?_ | refine Len.nil ?_ | refine Len.cons ?_ | refine Br.t rfl ?_ | refine Br.f rfl ?_ | refine Fit.au ?_ | refine Cv.au ?_ | refine Need.ne ?_ | refine Need.au ?_ | refine Pick.map (by assumption) ?_ | refine Pick.mapI (by omega) (by assumption) ?_ | refine PickN.mk _ (by assumption) ?_ | refine PickN.mk _ rfl ?_ | refine PickN.au ?_ | refine App.au rfl ?_ | refine App.au (own_map (fun _ => rfl) _) ?_ | refine Both.mk ?_ ?_ | exact True.intro
  repeat' first | refine Call.eq hF rfl ?_ | refine Len.map ?_ | refine Len.nil ?_ | refine Len.cons ?_ | refine Br.t rfl ?_ | refine Br.f rfl ?_ | refine Fit.au ?_ | refine Cv.au ?_ | refine Need.ne ?_ | refine Need.au ?_ | refine Pick.map (by assumption) ?_ | refine Pick.mapI (by omega) (by assumption) ?_ | refine PickN.mk _ (by assumption) ?_ | refine PickN.mk _ rfl ?_ | refine PickN.au ?_ | refine App.au rfl ?_ | refine App.au (own_map (fun _ => rfl) _) ?_ | refine Both.mk ?_ ?_ | exact True.intro
  refine Look.stop (Stop.mk (run_frzR 1 rfl (fzw _) ?_))
  refine go 1000 Tryd.func102 ?_
  repeat' first | refine Call.eq hL rfl ?_ | refine Len.map ?_ | refine Len.nil ?_ | refine Len.cons ?_ | refine Br.t rfl ?_ | refine Br.f rfl ?_ | refine Fit.au ?_ | refine Cv.au ?_ | refine Need.ne ?_ | refine Need.au ?_ | refine Pick.map (by assumption) ?_ | refine Pick.mapI (by omega) (by assumption) ?_ | refine PickN.mk _ (by assumption) ?_ | refine PickN.mk _ rfl ?_ | refine PickN.au ?_ | refine App.au rfl ?_ | refine App.au (own_map (fun _ => rfl) _) ?_ | refine Both.mk ?_ ?_ | exact True.intro
  refine Look.stop (Stop.mk (run_frzR 2 rfl (fzw _) ?_))
  refine go 1000 Tryd.func102 ?_
  repeat' first | refine Call.eq hz rfl ?_ | refine Len.map ?_ | refine Len.nil ?_ | refine Len.cons ?_ | refine Br.t rfl ?_ | refine Br.f rfl ?_ | refine Fit.au ?_ | refine Cv.au ?_ | refine Need.ne ?_ | refine Need.au ?_ | refine Pick.map (by assumption) ?_ | refine Pick.mapI (by omega) (by assumption) ?_ | refine PickN.mk _ (by assumption) ?_ | refine PickN.mk _ rfl ?_ | refine PickN.au ?_ | refine App.au rfl ?_ | refine App.au (own_map (fun _ => rfl) _) ?_ | refine Both.mk ?_ ?_ | exact True.intro
  rfl
end Go.Proofs.YtdgibhndjdgllaaDoor
