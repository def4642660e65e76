/- The check of programs: how many go to a block, how an instruction stands, by contracts. -/
import Derived.Test.YtdgibhndjdgllaaDoorG16
import Derived.Test.YtdgibhndjdgllaaDoorG07
set_option linter.unusedVariables false
set_option linter.unusedSimpArgs false

namespace Go.Proofs.YtdgibhndjdgllaaDoor
open Go.Ax
set_option maxRecDepth 10000
set_option linter.unusedVariables false

theorem Preds16_spec (f : Fun) (block : Int) (hf : f.fits) : FnSpec Tryd.prog 111 [funA f, num block] (fun r => r = num (predCount f block)) := by
  have hf1 := hf.1
  refine spec_of 1000 Tryd.func111 rfl rfl ?_
  repeat' first | refine Len.map ?_ | refine Len.nil ?_ | refine Len.cons ?_ | refine Br.t rfl ?_ | refine Br.f rfl ?_ | refine Fit.au ?_ | refine Cv.au ?_ | refine Need.ne ?_ | refine Need.au ?_ | refine Pick.map (by assumption) ?_ | refine Pick.mapI (by omega) (by assumption) ?_ | refine PickN.mk _ (by assumption) ?_ | refine PickN.mk _ rfl ?_ | refine PickN.au ?_ | refine App.au rfl ?_ | refine App.au (own_map (fun _ => rfl) _) ?_ | refine Both.mk ?_ ?_ | exact True.intro
  refine Stop.mk (loop_in (fun k : Nat => [(2, .hp 0 0), (1, num block), (5, num ((f.blocks.take k).countP (goesTo block))), (6, num k)]) (fun k => [(0, .var f.cs)]) 1 (fun k => k ≤ f.blocks.length) (fun k => f.blocks.length - k) 0 (by omega) (g := []) ⟨rfl, (by repeat' first | exact trivial | refine ⟨rfl, ?_⟩ | refine ⟨congrArg (fun n => AV.lit (.int .i64 n)) (by omega), ?_⟩ | refine ⟨congrArg (fun l => some (Row.row 1 l)) (by simp [int1, num, tru]), ?_⟩), (by repeat' first | exact trivial | refine ⟨rfl, ?_⟩ | refine ⟨congrArg (fun n => AV.lit (.int .i64 n)) (by omega), ?_⟩ | refine ⟨congrArg (fun l => some (Row.row 1 l)) (by simp [int1, num, tru]), ?_⟩)⟩ (fun k hk ih => ?_))
  have hc := countP_take_le (l := f.blocks) (k := k) (p := goesTo block)
  refine go 1000 Tryd.func111 ?_
  repeat' first | refine Len.map ?_ | refine Len.nil ?_ | refine Len.cons ?_ | refine Br.t rfl ?_ | refine Br.f rfl ?_ | refine Fit.au ?_ | refine Cv.au ?_ | refine Need.ne ?_ | refine Need.au ?_ | refine Pick.map (by assumption) ?_ | refine Pick.mapI (by omega) (by assumption) ?_ | refine PickN.mk _ (by assumption) ?_ | refine PickN.mk _ rfl ?_ | refine PickN.au ?_ | refine App.au rfl ?_ | refine App.au (own_map (fun _ => rfl) _) ?_ | refine Both.mk ?_ ?_ | exact True.intro
  refine Br.d (fun h2 => ?_) (fun h2 => ?_)
  · obtain ⟨b, gb, gm⟩ := getK (l := f.blocks) (k := k) (by omega)
    obtain ⟨hb1, hb2⟩ := hf.2.2 b gm
    have e1 := countP_take_succ (p := goesTo block) gb
    repeat' first | refine Len.map ?_ | refine Len.nil ?_ | refine Len.cons ?_ | refine Br.t rfl ?_ | refine Br.f rfl ?_ | refine Fit.au ?_ | refine Cv.au ?_ | refine Need.ne ?_ | refine Need.au ?_ | refine Pick.map (by assumption) ?_ | refine Pick.mapI (by omega) (by assumption) ?_ | refine PickN.mk _ (by assumption) ?_ | refine PickN.mk _ rfl ?_ | refine PickN.au ?_ | refine App.au rfl ?_ | refine App.au (own_map (fun _ => rfl) _) ?_ | refine Both.mk ?_ ?_ | exact True.intro
    refine Br.d (fun h3 => ?_) (fun h3 => ?_)
    · obtain ⟨i, gi, gim⟩ := getK (l := b) (k := b.length - 1) (by omega)
      have gi' : b[((b.length : Int) - 1).toNat]? = some i := by rw [show ((b.length : Int) - 1).toNat = b.length - 1 by omega]; exact gi
      have hl := targetsF_len i
      have e2 : goesTo block b = decide (block ∈ targetsF i) := by unfold goesTo; rw [gi]
      repeat' first | refine Call.eq (Targets_spec i (hb2 i gim)) rfl ?_ | refine Look.yes ?_ | refine View.map (fun _ => rfl) ?_ | refine CallV.eq (HasInt_spec (targetsF i) _ (by omega)) rfl (Free.lit _) ?_ | refine Len.map ?_ | refine Len.nil ?_ | refine Len.cons ?_ | refine Br.t rfl ?_ | refine Br.f rfl ?_ | refine Fit.au ?_ | refine Cv.au ?_ | refine Need.ne ?_ | refine Need.au ?_ | refine Pick.map (by assumption) ?_ | refine Pick.mapI (by omega) (by assumption) ?_ | refine PickN.mk _ (by assumption) ?_ | refine PickN.mk _ rfl ?_ | refine PickN.au ?_ | refine App.au rfl ?_ | refine App.au (own_map (fun _ => rfl) _) ?_ | refine Both.mk ?_ ?_ | exact True.intro | refine Br.d (fun h => ?_) (fun h => ?_) | refine Br.nd (fun h => ?_) (fun h => ?_) | refine Br.mk (fun h => ?_) (fun h => ?_)
      all_goals
        rw [e2] at e1
        refine Stop.mk (ih (k + 1) (g := []) _ _ _ (by omega) (by omega) ?_)
        rw [e1]
      · rw [if_pos (by simpa using h), Int.natCast_add]
        exact ⟨rfl, (by repeat' first | exact trivial | refine ⟨rfl, ?_⟩ | refine ⟨congrArg (fun n => AV.lit (.int .i64 n)) (by omega), ?_⟩ | refine ⟨congrArg (fun l => some (Row.row 1 l)) (by simp [int1, num, tru]), ?_⟩), (by repeat' first | exact trivial | refine ⟨rfl, ?_⟩ | refine ⟨congrArg (fun n => AV.lit (.int .i64 n)) (by omega), ?_⟩ | refine ⟨congrArg (fun l => some (Row.row 1 l)) (by simp [int1, num, tru]), ?_⟩)⟩
      · rw [if_neg (by simpa using h), Nat.add_zero]
        exact ⟨rfl, (by repeat' first | exact trivial | refine ⟨rfl, ?_⟩ | refine ⟨congrArg (fun n => AV.lit (.int .i64 n)) (by omega), ?_⟩ | refine ⟨congrArg (fun l => some (Row.row 1 l)) (by simp [int1, num, tru]), ?_⟩), (by repeat' first | exact trivial | refine ⟨rfl, ?_⟩ | refine ⟨congrArg (fun n => AV.lit (.int .i64 n)) (by omega), ?_⟩ | refine ⟨congrArg (fun l => some (Row.row 1 l)) (by simp [int1, num, tru]), ?_⟩)⟩
    · repeat' first | refine Len.map ?_ | refine Len.nil ?_ | refine Len.cons ?_ | refine Br.t rfl ?_ | refine Br.f rfl ?_ | refine Fit.au ?_ | refine Cv.au ?_ | refine Need.ne ?_ | refine Need.au ?_ | refine Pick.map (by assumption) ?_ | refine Pick.mapI (by omega) (by assumption) ?_ | refine PickN.mk _ (by assumption) ?_ | refine PickN.mk _ rfl ?_ | refine PickN.au ?_ | refine App.au rfl ?_ | refine App.au (own_map (fun _ => rfl) _) ?_ | refine Both.mk ?_ ?_ | exact True.intro
      have e2 : goesTo block b = false := by unfold goesTo; rw [List.getElem?_eq_none (by omega)]
      rw [e2] at e1
      refine Stop.mk (ih (k + 1) (g := []) _ _ _ (by omega) (by omega) ?_)
      rw [e1]
      exact ⟨rfl, (by repeat' first | exact trivial | refine ⟨rfl, ?_⟩ | refine ⟨congrArg (fun n => AV.lit (.int .i64 n)) (by omega), ?_⟩ | refine ⟨congrArg (fun l => some (Row.row 1 l)) (by simp [int1, num, tru]), ?_⟩), (by repeat' first | exact trivial | refine ⟨rfl, ?_⟩ | refine ⟨congrArg (fun n => AV.lit (.int .i64 n)) (by omega), ?_⟩ | refine ⟨congrArg (fun l => some (Row.row 1 l)) (by simp [int1, num, tru]), ?_⟩)⟩
  · repeat' first | refine Len.map ?_ | refine Len.nil ?_ | refine Len.cons ?_ | refine Br.t rfl ?_ | refine Br.f rfl ?_ | refine Fit.au ?_ | refine Cv.au ?_ | refine Need.ne ?_ | refine Need.au ?_ | refine Pick.map (by assumption) ?_ | refine Pick.mapI (by omega) (by assumption) ?_ | refine PickN.mk _ (by assumption) ?_ | refine PickN.mk _ rfl ?_ | refine PickN.au ?_ | refine App.au rfl ?_ | refine App.au (own_map (fun _ => rfl) _) ?_ | refine Both.mk ?_ ?_ | exact True.intro
    show _ = _
    rw [take_all (by omega)]; rfl

theorem form_spec (b : List Ins) (j : Nat) (i : Ins) (gi : b[j]? = some i) (hb : b.length < 9223372036854775807) (hi : i.fits) : FnSpec Tryd.prog 86 [.sl false 9 (b.map Ins.cs), num j] (fun r => ∃ v, r = tru v ∧ (v = true ↔ formF b j i)) := by
  have hj := (List.getElem?_eq_some_iff.1 gi).1
  refine spec_of 1000 Tryd.func86 rfl rfl ?_
  repeat' first | refine Call.eq (Right15_spec i hi) rfl ?_ | refine Call.eq (Ends_spec _) rfl ?_ | refine Len.map ?_ | refine Len.nil ?_ | refine Len.cons ?_ | refine Br.t rfl ?_ | refine Br.f rfl ?_ | refine Fit.au ?_ | refine Cv.au ?_ | refine Need.ne ?_ | refine Need.au ?_ | refine Pick.map (by assumption) ?_ | refine Pick.mapI (by omega) (by assumption) ?_ | refine PickN.mk _ (by assumption) ?_ | refine PickN.mk _ rfl ?_ | refine PickN.au ?_ | refine App.au rfl ?_ | refine App.au (own_map (fun _ => rfl) _) ?_ | refine Both.mk ?_ ?_ | exact True.intro | refine Br.d (fun h => ?_) (fun h => ?_) | refine Br.nd (fun h => ?_) (fun h => ?_) | refine Br.mk (fun h => ?_) (fun h => ?_)
  · refine ⟨false, rfl, ⟨fun h => (by cases h), fun h' => ?_⟩⟩
    have := h'.1; simp_all
  · refine ⟨false, rfl, ⟨fun h => (by cases h), fun h' => ?_⟩⟩
    exfalso
    have h1 := h'.2.1
    cases he : endsF i.op <;> simp_all <;> omega
  have hr : right15 i = true := by simpa using ‹(!right15 i) = false›
  have he : endsF i.op = true ↔ j + 1 = b.length := by
    have h1 : endsF i.op = decide ((j : Int) = b.length - 1) := by simpa using h
    rw [h1]; simp; omega
  refine Stop.mk (loop_in (fun m : Nat => [(0, .sl false 9 (b.map Ins.cs)), (1, num j), (5, .hp 0 0), (6, num m)]) (fun _ => [(0, .var i.cs)]) 1 (fun m => m ≤ j ∧ (i.op = 44 → ∀ x ∈ b.take m, x.op = 44)) (fun m => j - m) 0 ⟨by omega, by simp⟩ (g := []) ⟨rfl, (by repeat' first | exact trivial | refine ⟨rfl, ?_⟩ | refine ⟨congrArg (fun n => AV.lit (.int .i64 n)) (by omega), ?_⟩ | refine ⟨congrArg (fun l => some (Row.row 1 l)) (by simp [int1, num, tru]), ?_⟩), (by repeat' first | exact trivial | refine ⟨rfl, ?_⟩ | refine ⟨congrArg (fun n => AV.lit (.int .i64 n)) (by omega), ?_⟩ | refine ⟨congrArg (fun l => some (Row.row 1 l)) (by simp [int1, num, tru]), ?_⟩)⟩ (fun m hm ih => ?_))
  obtain ⟨hm, hw⟩ := hm
  refine go 1000 Tryd.func86 ?_
  repeat' first | refine Len.map ?_ | refine Len.nil ?_ | refine Len.cons ?_ | refine Br.t rfl ?_ | refine Br.f rfl ?_ | refine Fit.au ?_ | refine Cv.au ?_ | refine Need.ne ?_ | refine Need.au ?_ | refine Pick.map (by assumption) ?_ | refine Pick.mapI (by omega) (by assumption) ?_ | refine PickN.mk _ (by assumption) ?_ | refine PickN.mk _ rfl ?_ | refine PickN.au ?_ | refine App.au rfl ?_ | refine App.au (own_map (fun _ => rfl) _) ?_ | refine Both.mk ?_ ?_ | exact True.intro
  refine Br.d (fun h2 => ?_) (fun h2 => ?_)
  · repeat' first | refine Len.map ?_ | refine Len.nil ?_ | refine Len.cons ?_ | refine Br.t rfl ?_ | refine Br.f rfl ?_ | refine Fit.au ?_ | refine Cv.au ?_ | refine Need.ne ?_ | refine Need.au ?_ | refine Pick.map (by assumption) ?_ | refine Pick.mapI (by omega) (by assumption) ?_ | refine PickN.mk _ (by assumption) ?_ | refine PickN.mk _ rfl ?_ | refine PickN.au ?_ | refine App.au rfl ?_ | refine App.au (own_map (fun _ => rfl) _) ?_ | refine Both.mk ?_ ?_ | exact True.intro
    refine Br.d (fun h3 => ?_) (fun h3 => ?_)
    · obtain ⟨x, gx, gxm⟩ := getK (l := b) (k := m) (by omega)
      repeat' first | refine Len.map ?_ | refine Len.nil ?_ | refine Len.cons ?_ | refine Br.t rfl ?_ | refine Br.f rfl ?_ | refine Fit.au ?_ | refine Cv.au ?_ | refine Need.ne ?_ | refine Need.au ?_ | refine Pick.map (by assumption) ?_ | refine Pick.mapI (by omega) (by assumption) ?_ | refine PickN.mk _ (by assumption) ?_ | refine PickN.mk _ rfl ?_ | refine PickN.au ?_ | refine App.au rfl ?_ | refine App.au (own_map (fun _ => rfl) _) ?_ | refine Both.mk ?_ ?_ | exact True.intro
      refine Br.nd (fun h4 => ?_) (fun h4 => ?_)
      · repeat' first | refine Len.map ?_ | refine Len.nil ?_ | refine Len.cons ?_ | refine Br.t rfl ?_ | refine Br.f rfl ?_ | refine Fit.au ?_ | refine Cv.au ?_ | refine Need.ne ?_ | refine Need.au ?_ | refine Pick.map (by assumption) ?_ | refine Pick.mapI (by omega) (by assumption) ?_ | refine PickN.mk _ (by assumption) ?_ | refine PickN.mk _ rfl ?_ | refine PickN.au ?_ | refine App.au rfl ?_ | refine App.au (own_map (fun _ => rfl) _) ?_ | refine Both.mk ?_ ?_ | exact True.intro
        refine ⟨false, rfl, ⟨fun h => (by cases h), fun h' => ?_⟩⟩
        exact absurd (h'.2.2 h3 x (List.mem_of_getElem? (i := m) (by rw [List.getElem?_take_of_lt (by omega)]; exact gx))) h4
      · repeat' first | refine Len.map ?_ | refine Len.nil ?_ | refine Len.cons ?_ | refine Br.t rfl ?_ | refine Br.f rfl ?_ | refine Fit.au ?_ | refine Cv.au ?_ | refine Need.ne ?_ | refine Need.au ?_ | refine Pick.map (by assumption) ?_ | refine Pick.mapI (by omega) (by assumption) ?_ | refine PickN.mk _ (by assumption) ?_ | refine PickN.mk _ rfl ?_ | refine PickN.au ?_ | refine App.au rfl ?_ | refine App.au (own_map (fun _ => rfl) _) ?_ | refine Both.mk ?_ ?_ | exact True.intro
        refine Stop.mk (ih (m + 1) (g := []) _ _ _ ⟨by omega, fun h => all_take_succ gx (hw h) h4⟩ (by omega) ⟨rfl, (by repeat' first | exact trivial | refine ⟨rfl, ?_⟩ | refine ⟨congrArg (fun n => AV.lit (.int .i64 n)) (by omega), ?_⟩ | refine ⟨congrArg (fun l => some (Row.row 1 l)) (by simp [int1, num, tru]), ?_⟩), (by repeat' first | exact trivial | refine ⟨rfl, ?_⟩ | refine ⟨congrArg (fun n => AV.lit (.int .i64 n)) (by omega), ?_⟩ | refine ⟨congrArg (fun l => some (Row.row 1 l)) (by simp [int1, num, tru]), ?_⟩)⟩)
    · repeat' first | refine Len.map ?_ | refine Len.nil ?_ | refine Len.cons ?_ | refine Br.t rfl ?_ | refine Br.f rfl ?_ | refine Fit.au ?_ | refine Cv.au ?_ | refine Need.ne ?_ | refine Need.au ?_ | refine Pick.map (by assumption) ?_ | refine Pick.mapI (by omega) (by assumption) ?_ | refine PickN.mk _ (by assumption) ?_ | refine PickN.mk _ rfl ?_ | refine PickN.au ?_ | refine App.au rfl ?_ | refine App.au (own_map (fun _ => rfl) _) ?_ | refine Both.mk ?_ ?_ | exact True.intro
      exact ⟨true, rfl, ⟨fun _ => ⟨hr, he, fun h => absurd h h3⟩, fun _ => rfl⟩⟩
  · repeat' first | refine Len.map ?_ | refine Len.nil ?_ | refine Len.cons ?_ | refine Br.t rfl ?_ | refine Br.f rfl ?_ | refine Fit.au ?_ | refine Cv.au ?_ | refine Need.ne ?_ | refine Need.au ?_ | refine Pick.map (by assumption) ?_ | refine Pick.mapI (by omega) (by assumption) ?_ | refine PickN.mk _ (by assumption) ?_ | refine PickN.mk _ rfl ?_ | refine PickN.au ?_ | refine App.au rfl ?_ | refine App.au (own_map (fun _ => rfl) _) ?_ | refine Both.mk ?_ ?_ | exact True.intro
    have : m = j := by omega
    subst this
    exact ⟨true, rfl, ⟨fun _ => ⟨hr, he, hw⟩, fun _ => rfl⟩⟩

theorem all_spec (f : Fun) (regs kinds : List Int) (hr : regs.length < 1000000) (hk : kinds.length < 1000000) (hb : ∀ r ∈ regs, 0 ≤ r ∧ r < f.regs.length) : FnSpec Tryd.prog 88 [funA f, ints regs, ints kinds] (fun r => r = tru (decide (regs.map (fun r => f.regs.getD r.toNat 0) = kinds))) := by
  refine spec_of 1000 Tryd.func88 rfl rfl ?_
  repeat' first | refine Len.map ?_ | refine Len.nil ?_ | refine Len.cons ?_ | refine Br.t rfl ?_ | refine Br.f rfl ?_ | refine Fit.au ?_ | refine Cv.au ?_ | refine Need.ne ?_ | refine Need.au ?_ | refine Pick.map (by assumption) ?_ | refine Pick.mapI (by omega) (by assumption) ?_ | refine PickN.mk _ (by assumption) ?_ | refine PickN.mk _ rfl ?_ | refine PickN.au ?_ | refine App.au rfl ?_ | refine App.au (own_map (fun _ => rfl) _) ?_ | refine Both.mk ?_ ?_ | exact True.intro
  refine Br.nd (fun h1 => ?_) (fun h1 => ?_)
  · repeat' first | refine Len.map ?_ | refine Len.nil ?_ | refine Len.cons ?_ | refine Br.t rfl ?_ | refine Br.f rfl ?_ | refine Fit.au ?_ | refine Cv.au ?_ | refine Need.ne ?_ | refine Need.au ?_ | refine Pick.map (by assumption) ?_ | refine Pick.mapI (by omega) (by assumption) ?_ | refine PickN.mk _ (by assumption) ?_ | refine PickN.mk _ rfl ?_ | refine PickN.au ?_ | refine App.au rfl ?_ | refine App.au (own_map (fun _ => rfl) _) ?_ | refine Both.mk ?_ ?_ | exact True.intro
    have : ¬ regs.map (fun r => f.regs.getD r.toNat 0) = kinds := fun e => h1 (by rw [← e, List.length_map])
    rw [decide_eq_false this]; rfl
  repeat' first | refine Len.map ?_ | refine Len.nil ?_ | refine Len.cons ?_ | refine Br.t rfl ?_ | refine Br.f rfl ?_ | refine Fit.au ?_ | refine Cv.au ?_ | refine Need.ne ?_ | refine Need.au ?_ | refine Pick.map (by assumption) ?_ | refine Pick.mapI (by omega) (by assumption) ?_ | refine PickN.mk _ (by assumption) ?_ | refine PickN.mk _ rfl ?_ | refine PickN.au ?_ | refine App.au rfl ?_ | refine App.au (own_map (fun _ => rfl) _) ?_ | refine Both.mk ?_ ?_ | exact True.intro
  refine Stop.mk (loop_in (fun m : Nat => [(1, ints regs), (2, ints kinds), (3, .hp 0 0), (7, num m)]) (fun _ => [(0, .var f.cs)]) 1 (fun m => m ≤ regs.length ∧ (regs.take m).map (fun r => f.regs.getD r.toNat 0) = kinds.take m) (fun m => regs.length - m) 0 ⟨by omega, by simp⟩ (g := []) ⟨rfl, (by repeat' first | exact trivial | refine ⟨rfl, ?_⟩ | refine ⟨congrArg (fun n => AV.lit (.int .i64 n)) (by omega), ?_⟩ | refine ⟨congrArg (fun l => some (Row.row 1 l)) (by simp [int1, num, tru]), ?_⟩), (by repeat' first | exact trivial | refine ⟨rfl, ?_⟩ | refine ⟨congrArg (fun n => AV.lit (.int .i64 n)) (by omega), ?_⟩ | refine ⟨congrArg (fun l => some (Row.row 1 l)) (by simp [int1, num, tru]), ?_⟩)⟩ (fun m hm ih => ?_))
  obtain ⟨hm, hw⟩ := hm
  refine go 1000 Tryd.func88 ?_
  repeat' first | refine Len.map ?_ | refine Len.nil ?_ | refine Len.cons ?_ | refine Br.t rfl ?_ | refine Br.f rfl ?_ | refine Fit.au ?_ | refine Cv.au ?_ | refine Need.ne ?_ | refine Need.au ?_ | refine Pick.map (by assumption) ?_ | refine Pick.mapI (by omega) (by assumption) ?_ | refine PickN.mk _ (by assumption) ?_ | refine PickN.mk _ rfl ?_ | refine PickN.au ?_ | refine App.au rfl ?_ | refine App.au (own_map (fun _ => rfl) _) ?_ | refine Both.mk ?_ ?_ | exact True.intro
  refine Br.d (fun h2 => ?_) (fun h2 => ?_)
  · obtain ⟨x, gx, gxm⟩ := getK (l := regs) (k := m) (by omega)
    obtain ⟨y, gy, gym⟩ := getK (l := kinds) (k := m) (by omega)
    have hx := hb x gxm
    obtain ⟨z, gz, gzm⟩ := getK (l := f.regs) (k := x.toNat) (by omega)
    have ez : f.regs.getD x.toNat 0 = z := by rw [List.getD_eq_getElem?_getD, gz]; rfl
    repeat' first | refine Draw.mk (ordL [] [0, 1, 2, 3, 4, 5, 6, 7, 8, 9, 10, 11, 12]) (by decide +kernel) ?_ | refine Len.map ?_ | refine Len.nil ?_ | refine Len.cons ?_ | refine Br.t rfl ?_ | refine Br.f rfl ?_ | refine Fit.au ?_ | refine Cv.au ?_ | refine Need.ne ?_ | refine Need.au ?_ | refine Pick.map (by assumption) ?_ | refine Pick.mapI (by omega) (by assumption) ?_ | refine PickN.mk _ (by assumption) ?_ | refine PickN.mk _ rfl ?_ | refine PickN.au ?_ | refine App.au rfl ?_ | refine App.au (own_map (fun _ => rfl) _) ?_ | refine Both.mk ?_ ?_ | exact True.intro
    refine Br.nd (fun h4 => ?_) (fun h4 => ?_)
    · repeat' first | refine Len.map ?_ | refine Len.nil ?_ | refine Len.cons ?_ | refine Br.t rfl ?_ | refine Br.f rfl ?_ | refine Fit.au ?_ | refine Cv.au ?_ | refine Need.ne ?_ | refine Need.au ?_ | refine Pick.map (by assumption) ?_ | refine Pick.mapI (by omega) (by assumption) ?_ | refine PickN.mk _ (by assumption) ?_ | refine PickN.mk _ rfl ?_ | refine PickN.au ?_ | refine App.au rfl ?_ | refine App.au (own_map (fun _ => rfl) _) ?_ | refine Both.mk ?_ ?_ | exact True.intro
      have : ¬ regs.map (fun r => f.regs.getD r.toNat 0) = kinds := fun e => by
        have h5 : (regs.map (fun r => f.regs.getD r.toNat 0))[m]? = kinds[m]? := by rw [e]
        rw [List.getElem?_map, gx, gy] at h5
        simp only [Option.map_some, Option.some.injEq] at h5
        exact h4 (by rw [← ez]; exact h5)
      rw [decide_eq_false this]; rfl
    · repeat' first | refine Len.map ?_ | refine Len.nil ?_ | refine Len.cons ?_ | refine Br.t rfl ?_ | refine Br.f rfl ?_ | refine Fit.au ?_ | refine Cv.au ?_ | refine Need.ne ?_ | refine Need.au ?_ | refine Pick.map (by assumption) ?_ | refine Pick.mapI (by omega) (by assumption) ?_ | refine PickN.mk _ (by assumption) ?_ | refine PickN.mk _ rfl ?_ | refine PickN.au ?_ | refine App.au rfl ?_ | refine App.au (own_map (fun _ => rfl) _) ?_ | refine Both.mk ?_ ?_ | exact True.intro
      refine Stop.mk (ih (m + 1) (g := []) _ _ _ ⟨by omega, ?_⟩ (by omega) ⟨rfl, (by repeat' first | exact trivial | refine ⟨rfl, ?_⟩ | refine ⟨congrArg (fun n => AV.lit (.int .i64 n)) (by omega), ?_⟩ | refine ⟨congrArg (fun l => some (Row.row 1 l)) (by simp [int1, num, tru]), ?_⟩), (by repeat' first | exact trivial | refine ⟨rfl, ?_⟩ | refine ⟨congrArg (fun n => AV.lit (.int .i64 n)) (by omega), ?_⟩ | refine ⟨congrArg (fun l => some (Row.row 1 l)) (by simp [int1, num, tru]), ?_⟩)⟩)
      rw [take_succ gx, take_succ gy, List.map_append, hw]
      simp only [List.map_cons, List.map_nil]
      rw [ez, h4]
  · repeat' first | refine Len.map ?_ | refine Len.nil ?_ | refine Len.cons ?_ | refine Br.t rfl ?_ | refine Br.f rfl ?_ | refine Fit.au ?_ | refine Cv.au ?_ | refine Need.ne ?_ | refine Need.au ?_ | refine Pick.map (by assumption) ?_ | refine Pick.mapI (by omega) (by assumption) ?_ | refine PickN.mk _ (by assumption) ?_ | refine PickN.mk _ rfl ?_ | refine PickN.au ?_ | refine App.au rfl ?_ | refine App.au (own_map (fun _ => rfl) _) ?_ | refine Both.mk ?_ ?_ | exact True.intro
    rw [take_all (by omega), take_all (by omega)] at hw
    rw [decide_eq_true hw]; rfl
end Go.Proofs.YtdgibhndjdgllaaDoor

/- The check of programs: whether all is there that is named, by a contract. -/
namespace Go.Proofs.YtdgibhndjdgllaaDoor
open Go.Ax
set_option maxRecDepth 10000
set_option linter.unusedVariables false

theorem there_spec (p : Pro) (f : Fun) (block : Int) (i : Ins) (hp : p.fits) (hf : f.fits) (hi : i.args.length ≤ 1000000) (hr : right15 i = true) : FnSpec Tryd.prog 87 [proA p, funA f, num block, insA i] (fun r => ∃ v, r = tru v ∧ (v = true ↔ thereP p f block i)) := by
  have hif : i.fits := by unfold Ins.fits; omega
  have hp1 := hp.1
  have hp2 := hp.2.1
  have hf1 := hf.1
  have hf2 := hf.2.1
  have hul := usesF_len i
  have htl := targetsF_len i
  have hsp := site_pos hr
  refine spec_of 1000 Tryd.func87 rfl rfl ?_
  repeat' first | refine Draw.mk (ordL [1] [0, 2, 3, 4, 1, 5]) (by decide +kernel) ?_ | refine Draw.mk (ordL [1, 3] [0, 2, 1, 3, 4, 5]) (by decide +kernel) ?_ | refine Draw.mk (ordL [] [0, 1, 2, 3, 4, 5, 6, 7]) (by decide +kernel) ?_ | refine Draw.mk (ordL [] [0, 1, 2, 3, 4, 5, 6, 7, 8, 9, 10, 11, 12, 13, 14]) (by decide +kernel) ?_ | refine Draw.mk (ordL [16] [0, 1, 2, 3, 4, 5, 6, 7, 8, 9, 10, 11, 12, 13, 14, 15, 16, 17, 18, 19]) (by decide +kernel) ?_ | refine Draw.mk (ordL [9] [0, 1, 2, 3, 4, 5, 6, 7, 8, 9, 10, 11, 12]) (by decide +kernel) ?_ | refine Call.eq (Def15_spec i hif) rfl ?_ | refine Len.map ?_ | refine Len.nil ?_ | refine Len.cons ?_ | refine Br.t rfl ?_ | refine Br.f rfl ?_ | refine Fit.au ?_ | refine Cv.au ?_ | refine Need.ne ?_ | refine Need.au ?_ | refine Pick.map (by assumption) ?_ | refine Pick.mapI (by omega) (by assumption) ?_ | refine PickN.mk _ (by assumption) ?_ | refine PickN.mk _ rfl ?_ | refine PickN.au ?_ | refine App.au rfl ?_ | refine App.au (own_map (fun _ => rfl) _) ?_ | refine Both.mk ?_ ?_ | exact True.intro
  refine Br.d (fun h1 => ?_) (fun h1 => ?_)
  · repeat' first | refine Len.map ?_ | refine Len.nil ?_ | refine Len.cons ?_ | refine Br.t rfl ?_ | refine Br.f rfl ?_ | refine Fit.au ?_ | refine Cv.au ?_ | refine Need.ne ?_ | refine Need.au ?_ | refine Pick.map (by assumption) ?_ | refine Pick.mapI (by omega) (by assumption) ?_ | refine PickN.mk _ (by assumption) ?_ | refine PickN.mk _ rfl ?_ | refine PickN.au ?_ | refine App.au rfl ?_ | refine App.au (own_map (fun _ => rfl) _) ?_ | refine Both.mk ?_ ?_ | exact True.intro
    refine ⟨false, rfl, ⟨fun h => (by cases h), fun h' => ?_⟩⟩
    have := h'.1; omega
  repeat' first | refine Draw.mk (ordL [1] [0, 2, 3, 4, 1, 5]) (by decide +kernel) ?_ | refine Draw.mk (ordL [1, 3] [0, 2, 1, 3, 4, 5]) (by decide +kernel) ?_ | refine Draw.mk (ordL [] [0, 1, 2, 3, 4, 5, 6, 7]) (by decide +kernel) ?_ | refine Draw.mk (ordL [] [0, 1, 2, 3, 4, 5, 6, 7, 8, 9, 10, 11, 12, 13, 14]) (by decide +kernel) ?_ | refine Draw.mk (ordL [16] [0, 1, 2, 3, 4, 5, 6, 7, 8, 9, 10, 11, 12, 13, 14, 15, 16, 17, 18, 19]) (by decide +kernel) ?_ | refine Draw.mk (ordL [9] [0, 1, 2, 3, 4, 5, 6, 7, 8, 9, 10, 11, 12]) (by decide +kernel) ?_ | refine Call.eq (Uses_spec i hi) rfl ?_ | refine Call.eq (Targets_spec i hif) rfl ?_ | refine Len.map ?_ | refine Len.nil ?_ | refine Len.cons ?_ | refine Br.t rfl ?_ | refine Br.f rfl ?_ | refine Fit.au ?_ | refine Cv.au ?_ | refine Need.ne ?_ | refine Need.au ?_ | refine Pick.map (by assumption) ?_ | refine Pick.mapI (by omega) (by assumption) ?_ | refine PickN.mk _ (by assumption) ?_ | refine PickN.mk _ rfl ?_ | refine PickN.au ?_ | refine App.au rfl ?_ | refine App.au (own_map (fun _ => rfl) _) ?_ | refine Both.mk ?_ ?_ | exact True.intro
  refine Stop.mk (loop_in (fun m : Nat => [(4, .hp 0 0), (5, .hp 1 0), (7, .hp 2 0), (2, num block), (9, .hw 3), (10, .hw 4), (11, num m)]) (fun _ => [(0, .var p.cs), (1, .var f.cs), (2, .var i.cs), (3, .row 1 ((usesF i).map int1)), (4, .row 1 ((targetsF i).map int1))]) 5 (fun m => m ≤ (usesF i).length ∧ ∀ u ∈ (usesF i).take m, u < f.regs.length) (fun m => (usesF i).length - m) 0 ⟨by omega, by simp⟩ (g := []) ⟨rfl, (by repeat' first | exact trivial | refine ⟨rfl, ?_⟩ | refine ⟨congrArg (fun n => AV.lit (.int .i64 n)) (by omega), ?_⟩ | refine ⟨congrArg (fun l => some (Row.row 1 l)) (by simp [int1, num, tru]), ?_⟩), (by repeat' first | exact trivial | refine ⟨rfl, ?_⟩ | refine ⟨congrArg (fun n => AV.lit (.int .i64 n)) (by omega), ?_⟩ | refine ⟨congrArg (fun l => some (Row.row 1 l)) (by simp [int1, num, tru]), ?_⟩)⟩ (fun m hm ih => ?_))
  obtain ⟨hm, hw⟩ := hm
  refine go 1000 Tryd.func87 ?_
  repeat' first | refine Len.map ?_ | refine Len.nil ?_ | refine Len.cons ?_ | refine Br.t rfl ?_ | refine Br.f rfl ?_ | refine Fit.au ?_ | refine Cv.au ?_ | refine Need.ne ?_ | refine Need.au ?_ | refine Pick.map (by assumption) ?_ | refine Pick.mapI (by omega) (by assumption) ?_ | refine PickN.mk _ (by assumption) ?_ | refine PickN.mk _ rfl ?_ | refine PickN.au ?_ | refine App.au rfl ?_ | refine App.au (own_map (fun _ => rfl) _) ?_ | refine Both.mk ?_ ?_ | exact True.intro
  refine Br.d (fun h2 => ?_) (fun h2 => ?_)
  · obtain ⟨u, gu, gum⟩ := getK (l := usesF i) (k := m) (by omega)
    repeat' first | refine Draw.mk (ordL [1] [0, 2, 3, 4, 1, 5]) (by decide +kernel) ?_ | refine Draw.mk (ordL [1, 3] [0, 2, 1, 3, 4, 5]) (by decide +kernel) ?_ | refine Draw.mk (ordL [] [0, 1, 2, 3, 4, 5, 6, 7]) (by decide +kernel) ?_ | refine Draw.mk (ordL [] [0, 1, 2, 3, 4, 5, 6, 7, 8, 9, 10, 11, 12, 13, 14]) (by decide +kernel) ?_ | refine Draw.mk (ordL [16] [0, 1, 2, 3, 4, 5, 6, 7, 8, 9, 10, 11, 12, 13, 14, 15, 16, 17, 18, 19]) (by decide +kernel) ?_ | refine Draw.mk (ordL [9] [0, 1, 2, 3, 4, 5, 6, 7, 8, 9, 10, 11, 12]) (by decide +kernel) ?_ | refine Len.map ?_ | refine Len.nil ?_ | refine Len.cons ?_ | refine Br.t rfl ?_ | refine Br.f rfl ?_ | refine Fit.au ?_ | refine Cv.au ?_ | refine Need.ne ?_ | refine Need.au ?_ | refine Pick.map (by assumption) ?_ | refine Pick.mapI (by omega) (by assumption) ?_ | refine PickN.mk _ (by assumption) ?_ | refine PickN.mk _ rfl ?_ | refine PickN.au ?_ | refine App.au rfl ?_ | refine App.au (own_map (fun _ => rfl) _) ?_ | refine Both.mk ?_ ?_ | exact True.intro
    refine Br.d (fun h3 => ?_) (fun h3 => ?_)
    · repeat' first | refine Len.map ?_ | refine Len.nil ?_ | refine Len.cons ?_ | refine Br.t rfl ?_ | refine Br.f rfl ?_ | refine Fit.au ?_ | refine Cv.au ?_ | refine Need.ne ?_ | refine Need.au ?_ | refine Pick.map (by assumption) ?_ | refine Pick.mapI (by omega) (by assumption) ?_ | refine PickN.mk _ (by assumption) ?_ | refine PickN.mk _ rfl ?_ | refine PickN.au ?_ | refine App.au rfl ?_ | refine App.au (own_map (fun _ => rfl) _) ?_ | refine Both.mk ?_ ?_ | exact True.intro
      refine ⟨false, rfl, ⟨fun h => (by cases h), fun h' => ?_⟩⟩
      have := h'.2.1 u gum; omega
    · repeat' first | refine Len.map ?_ | refine Len.nil ?_ | refine Len.cons ?_ | refine Br.t rfl ?_ | refine Br.f rfl ?_ | refine Fit.au ?_ | refine Cv.au ?_ | refine Need.ne ?_ | refine Need.au ?_ | refine Pick.map (by assumption) ?_ | refine Pick.mapI (by omega) (by assumption) ?_ | refine PickN.mk _ (by assumption) ?_ | refine PickN.mk _ rfl ?_ | refine PickN.au ?_ | refine App.au rfl ?_ | refine App.au (own_map (fun _ => rfl) _) ?_ | refine Both.mk ?_ ?_ | exact True.intro
      refine Stop.mk (ih (m + 1) (g := []) _ _ _ ⟨by omega, all_take_succ gu hw (by omega)⟩ (by omega) ⟨rfl, (by repeat' first | exact trivial | refine ⟨rfl, ?_⟩ | refine ⟨congrArg (fun n => AV.lit (.int .i64 n)) (by omega), ?_⟩ | refine ⟨congrArg (fun l => some (Row.row 1 l)) (by simp [int1, num, tru]), ?_⟩), (by repeat' first | exact trivial | refine ⟨rfl, ?_⟩ | refine ⟨congrArg (fun n => AV.lit (.int .i64 n)) (by omega), ?_⟩ | refine ⟨congrArg (fun l => some (Row.row 1 l)) (by simp [int1, num, tru]), ?_⟩)⟩)
  rw [take_all (by omega)] at hw
  clear ih
  repeat' first | refine Len.map ?_ | refine Len.nil ?_ | refine Len.cons ?_ | refine Br.t rfl ?_ | refine Br.f rfl ?_ | refine Fit.au ?_ | refine Cv.au ?_ | refine Need.ne ?_ | refine Need.au ?_ | refine Pick.map (by assumption) ?_ | refine Pick.mapI (by omega) (by assumption) ?_ | refine PickN.mk _ (by assumption) ?_ | refine PickN.mk _ rfl ?_ | refine PickN.au ?_ | refine App.au rfl ?_ | refine App.au (own_map (fun _ => rfl) _) ?_ | refine Both.mk ?_ ?_ | exact True.intro
  refine Stop.mk (loop_in (fun m : Nat => [(4, .hp 0 0), (5, .hp 1 0), (7, .hp 2 0), (2, num block), (10, .hw 4), (12, num m)]) (fun _ => [(0, .var p.cs), (1, .var f.cs), (2, .var i.cs), (4, .row 1 ((targetsF i).map int1))]) 5 (fun m => m ≤ (targetsF i).length ∧ ∀ t ∈ (targetsF i).take m, t ≠ 0 ∧ t < f.blocks.length) (fun m => (targetsF i).length - m) 0 ⟨by omega, by simp⟩ (g := []) ⟨rfl, (by repeat' first | exact trivial | refine ⟨rfl, ?_⟩ | refine ⟨congrArg (fun n => AV.lit (.int .i64 n)) (by omega), ?_⟩ | refine ⟨congrArg (fun l => some (Row.row 1 l)) (by simp [int1, num, tru]), ?_⟩), (by repeat' first | exact trivial | refine ⟨rfl, ?_⟩ | refine ⟨congrArg (fun n => AV.lit (.int .i64 n)) (by omega), ?_⟩ | refine ⟨congrArg (fun l => some (Row.row 1 l)) (by simp [int1, num, tru]), ?_⟩)⟩ (fun m hm ih => ?_))
  obtain ⟨hm, hw2⟩ := hm
  refine go 1000 Tryd.func87 ?_
  repeat' first | refine Len.map ?_ | refine Len.nil ?_ | refine Len.cons ?_ | refine Br.t rfl ?_ | refine Br.f rfl ?_ | refine Fit.au ?_ | refine Cv.au ?_ | refine Need.ne ?_ | refine Need.au ?_ | refine Pick.map (by assumption) ?_ | refine Pick.mapI (by omega) (by assumption) ?_ | refine PickN.mk _ (by assumption) ?_ | refine PickN.mk _ rfl ?_ | refine PickN.au ?_ | refine App.au rfl ?_ | refine App.au (own_map (fun _ => rfl) _) ?_ | refine Both.mk ?_ ?_ | exact True.intro
  refine Br.d (fun h2 => ?_) (fun h2 => ?_)
  · obtain ⟨t, gt, gtm⟩ := getK (l := targetsF i) (k := m) (by omega)
    repeat' first | refine Draw.mk (ordL [1] [0, 2, 3, 4, 1, 5]) (by decide +kernel) ?_ | refine Draw.mk (ordL [1, 3] [0, 2, 1, 3, 4, 5]) (by decide +kernel) ?_ | refine Draw.mk (ordL [] [0, 1, 2, 3, 4, 5, 6, 7]) (by decide +kernel) ?_ | refine Draw.mk (ordL [] [0, 1, 2, 3, 4, 5, 6, 7, 8, 9, 10, 11, 12, 13, 14]) (by decide +kernel) ?_ | refine Draw.mk (ordL [16] [0, 1, 2, 3, 4, 5, 6, 7, 8, 9, 10, 11, 12, 13, 14, 15, 16, 17, 18, 19]) (by decide +kernel) ?_ | refine Draw.mk (ordL [9] [0, 1, 2, 3, 4, 5, 6, 7, 8, 9, 10, 11, 12]) (by decide +kernel) ?_ | refine Len.map ?_ | refine Len.nil ?_ | refine Len.cons ?_ | refine Br.t rfl ?_ | refine Br.f rfl ?_ | refine Fit.au ?_ | refine Cv.au ?_ | refine Need.ne ?_ | refine Need.au ?_ | refine Pick.map (by assumption) ?_ | refine Pick.mapI (by omega) (by assumption) ?_ | refine PickN.mk _ (by assumption) ?_ | refine PickN.mk _ rfl ?_ | refine PickN.au ?_ | refine App.au rfl ?_ | refine App.au (own_map (fun _ => rfl) _) ?_ | refine Both.mk ?_ ?_ | exact True.intro | refine Br.d (fun h => ?_) (fun h => ?_) | refine Br.nd (fun h => ?_) (fun h => ?_) | refine Br.mk (fun h => ?_) (fun h => ?_)
    · refine ⟨false, rfl, ⟨fun h => (by cases h), fun h' => ?_⟩⟩
      have := h'.2.2.1 t gtm; omega
    · refine ⟨false, rfl, ⟨fun h => (by cases h), fun h' => ?_⟩⟩
      have := h'.2.2.1 t gtm; omega
    · refine Stop.mk (ih (m + 1) (g := []) _ _ _ ⟨by omega, all_take_succ gt hw2 (by omega)⟩ (by omega) ⟨rfl, (by repeat' first | exact trivial | refine ⟨rfl, ?_⟩ | refine ⟨congrArg (fun n => AV.lit (.int .i64 n)) (by omega), ?_⟩ | refine ⟨congrArg (fun l => some (Row.row 1 l)) (by simp [int1, num, tru]), ?_⟩), (by repeat' first | exact trivial | refine ⟨rfl, ?_⟩ | refine ⟨congrArg (fun n => AV.lit (.int .i64 n)) (by omega), ?_⟩ | refine ⟨congrArg (fun l => some (Row.row 1 l)) (by simp [int1, num, tru]), ?_⟩)⟩)
  rw [take_all (by omega)] at hw2
  clear ih
  repeat' first | refine Call.eq (Check_spec _) rfl ?_ | refine Len.map ?_ | refine Len.nil ?_ | refine Len.cons ?_ | refine Br.t rfl ?_ | refine Br.f rfl ?_ | refine Fit.au ?_ | refine Cv.au ?_ | refine Need.ne ?_ | refine Need.au ?_ | refine Pick.map (by assumption) ?_ | refine Pick.mapI (by omega) (by assumption) ?_ | refine PickN.mk _ (by assumption) ?_ | refine PickN.mk _ rfl ?_ | refine PickN.au ?_ | refine App.au rfl ?_ | refine App.au (own_map (fun _ => rfl) _) ?_ | refine Both.mk ?_ ?_ | exact True.intro
  have hc0 : checkF i.op = true → i.op ≠ 39 ∧ i.op ≠ 44 := by unfold checkF; simp; omega
  refine Br.mk (fun hc => ?_) (fun hc => ?_)
  · obtain ⟨n1, n2⟩ := hc0 hc
    repeat' first | refine Draw.mk (ordL [1] [0, 2, 3, 4, 1, 5]) (by decide +kernel) ?_ | refine Draw.mk (ordL [1, 3] [0, 2, 1, 3, 4, 5]) (by decide +kernel) ?_ | refine Draw.mk (ordL [] [0, 1, 2, 3, 4, 5, 6, 7]) (by decide +kernel) ?_ | refine Draw.mk (ordL [] [0, 1, 2, 3, 4, 5, 6, 7, 8, 9, 10, 11, 12, 13, 14]) (by decide +kernel) ?_ | refine Draw.mk (ordL [16] [0, 1, 2, 3, 4, 5, 6, 7, 8, 9, 10, 11, 12, 13, 14, 15, 16, 17, 18, 19]) (by decide +kernel) ?_ | refine Draw.mk (ordL [9] [0, 1, 2, 3, 4, 5, 6, 7, 8, 9, 10, 11, 12]) (by decide +kernel) ?_ | refine Len.map ?_ | refine Len.nil ?_ | refine Len.cons ?_ | refine Br.t rfl ?_ | refine Br.f rfl ?_ | refine Fit.au ?_ | refine Cv.au ?_ | refine Need.ne ?_ | refine Need.au ?_ | refine Pick.map (by assumption) ?_ | refine Pick.mapI (by omega) (by assumption) ?_ | refine PickN.mk _ (by assumption) ?_ | refine PickN.mk _ rfl ?_ | refine PickN.au ?_ | refine App.au rfl ?_ | refine App.au (own_map (fun _ => rfl) _) ?_ | refine Both.mk ?_ ?_ | exact True.intro
    refine Br.d (fun h3 => ?_) (fun h3 => ?_)
    · obtain ⟨s, gs, gsm⟩ := getK (l := p.sites) (k := i.site.toNat) (by omega)
      have es : p.sites.getD i.site.toNat (0, 0) = s := by rw [List.getD_eq_getElem?_getD, gs]; rfl
      repeat' first | refine Call.eq (Trap_spec _) rfl ?_ | refine Len.map ?_ | refine Len.nil ?_ | refine Len.cons ?_ | refine Br.t rfl ?_ | refine Br.f rfl ?_ | refine Fit.au ?_ | refine Cv.au ?_ | refine Need.ne ?_ | refine Need.au ?_ | refine Pick.map (by assumption) ?_ | refine Pick.mapI (by omega) (by assumption) ?_ | refine PickN.mk _ (by assumption) ?_ | refine PickN.mk _ rfl ?_ | refine PickN.au ?_ | refine App.au rfl ?_ | refine App.au (own_map (fun _ => rfl) _) ?_ | refine Both.mk ?_ ?_ | exact True.intro
      refine ⟨_, rfl, ?_⟩
      rw [decide_eq_true_iff]
      exact ⟨fun h => ⟨by omega, hw, hw2, fun _ => ⟨h3, by rw [es]; exact h⟩, fun h => absurd h n1, fun h => absurd h n2⟩, fun h' => by have := (h'.2.2.2.1 hc).2; rw [es] at this; exact this⟩
    · repeat' first | refine Len.map ?_ | refine Len.nil ?_ | refine Len.cons ?_ | refine Br.t rfl ?_ | refine Br.f rfl ?_ | refine Fit.au ?_ | refine Cv.au ?_ | refine Need.ne ?_ | refine Need.au ?_ | refine Pick.map (by assumption) ?_ | refine Pick.mapI (by omega) (by assumption) ?_ | refine PickN.mk _ (by assumption) ?_ | refine PickN.mk _ rfl ?_ | refine PickN.au ?_ | refine App.au rfl ?_ | refine App.au (own_map (fun _ => rfl) _) ?_ | refine Both.mk ?_ ?_ | exact True.intro
      refine ⟨false, rfl, ⟨fun h => (by cases h), fun h' => ?_⟩⟩
      have := (h'.2.2.2.1 hc).1; omega
  · repeat' first | refine Len.map ?_ | refine Len.nil ?_ | refine Len.cons ?_ | refine Br.t rfl ?_ | refine Br.f rfl ?_ | refine Fit.au ?_ | refine Cv.au ?_ | refine Need.ne ?_ | refine Need.au ?_ | refine Pick.map (by assumption) ?_ | refine Pick.mapI (by omega) (by assumption) ?_ | refine PickN.mk _ (by assumption) ?_ | refine PickN.mk _ rfl ?_ | refine PickN.au ?_ | refine App.au rfl ?_ | refine App.au (own_map (fun _ => rfl) _) ?_ | refine Both.mk ?_ ?_ | exact True.intro
    refine Br.d (fun h3 => ?_) (fun h3 => ?_)
    · repeat' first | refine Len.map ?_ | refine Len.nil ?_ | refine Len.cons ?_ | refine Br.t rfl ?_ | refine Br.f rfl ?_ | refine Fit.au ?_ | refine Cv.au ?_ | refine Need.ne ?_ | refine Need.au ?_ | refine Pick.map (by assumption) ?_ | refine Pick.mapI (by omega) (by assumption) ?_ | refine PickN.mk _ (by assumption) ?_ | refine PickN.mk _ rfl ?_ | refine PickN.au ?_ | refine App.au rfl ?_ | refine App.au (own_map (fun _ => rfl) _) ?_ | refine Both.mk ?_ ?_ | exact True.intro
      refine ⟨_, rfl, ?_⟩
      rw [decide_eq_true_iff]
      exact ⟨fun h => ⟨by omega, hw, hw2, fun h => (by rw [hc] at h; cases h), fun _ => h, fun h => by omega⟩, fun h' => h'.2.2.2.2.1 h3⟩
    · repeat' first | refine Draw.mk (ordL [1] [0, 2, 3, 4, 1, 5]) (by decide +kernel) ?_ | refine Draw.mk (ordL [1, 3] [0, 2, 1, 3, 4, 5]) (by decide +kernel) ?_ | refine Draw.mk (ordL [] [0, 1, 2, 3, 4, 5, 6, 7]) (by decide +kernel) ?_ | refine Draw.mk (ordL [] [0, 1, 2, 3, 4, 5, 6, 7, 8, 9, 10, 11, 12, 13, 14]) (by decide +kernel) ?_ | refine Draw.mk (ordL [16] [0, 1, 2, 3, 4, 5, 6, 7, 8, 9, 10, 11, 12, 13, 14, 15, 16, 17, 18, 19]) (by decide +kernel) ?_ | refine Draw.mk (ordL [9] [0, 1, 2, 3, 4, 5, 6, 7, 8, 9, 10, 11, 12]) (by decide +kernel) ?_ | refine Call.eq (Preds16_spec f block hf) rfl ?_ | refine Len.map ?_ | refine Len.nil ?_ | refine Len.cons ?_ | refine Br.t rfl ?_ | refine Br.f rfl ?_ | refine Fit.au ?_ | refine Cv.au ?_ | refine Need.ne ?_ | refine Need.au ?_ | refine Pick.map (by assumption) ?_ | refine Pick.mapI (by omega) (by assumption) ?_ | refine PickN.mk _ (by assumption) ?_ | refine PickN.mk _ rfl ?_ | refine PickN.au ?_ | refine App.au rfl ?_ | refine App.au (own_map (fun _ => rfl) _) ?_ | refine Both.mk ?_ ?_ | exact True.intro | refine Br.d (fun h => ?_) (fun h => ?_) | refine Br.nd (fun h => ?_) (fun h => ?_) | refine Br.mk (fun h => ?_) (fun h => ?_)
      · refine ⟨true, rfl, ⟨fun _ => ⟨by omega, hw, hw2, fun h => (by rw [hc] at h; cases h), fun h => absurd h h3, fun h => absurd h (by assumption)⟩, fun _ => rfl⟩⟩
      · refine ⟨_, rfl, ?_⟩
        rw [decide_eq_true_iff]
        exact ⟨fun h => ⟨by omega, hw, hw2, fun h => (by rw [hc] at h; cases h), fun h => absurd h h3, fun _ => h⟩, fun h' => h'.2.2.2.2.2 (by assumption)⟩
end Go.Proofs.YtdgibhndjdgllaaDoor

/- The check of programs: the kinds that an instruction reads and writes, by contracts. -/
namespace Go.Proofs.YtdgibhndjdgllaaDoor
open Go.Ax
set_option maxRecDepth 10000
set_option linter.unusedVariables false

theorem Pick_getD {α : Type} {enc : α → List AV} {l : List α} {n : Int} {k : List AV → Prop} (d : α) (h0 : 0 ≤ n) (h : n < l.length) (hk : k (enc (l.getD n.toNat d))) : Pick (l.map enc) n k :=
  Pick.mapI (e := l.getD n.toNat d) h0 (by rw [List.getD_eq_getElem?_getD, List.getElem?_eq_getElem (by omega)]; rfl) hk

theorem writes16_spec (p : Pro) (f : Fun) (block : Int) (i : Ins) (hp : p.fits) (hf : f.fits) (hr : right15 i = true) (ht : thereP p f block i) : FnSpec Tryd.prog 90 [proA p, funA f, insA i] (fun r => r = num (kindF p f i)) := by
  have hd : i.op = 23 ∨ i.op = 44 → i.dst < f.regs.length := fun h => by
    have := ht.1
    rw [right_def hr (by unfold writesF; simp; omega)] at this
    exact this
  have hn : i.op = 39 → i.n < p.funcs.length := ht.2.2.2.2.1
  have hn0 := right_n hr
  obtain ⟨hd0, _⟩ := right_pos hr
  refine spec_of 1000 Tryd.func90 rfl rfl ?_
  repeat' first | refine Pick_getD 0 (by omega) (by omega) ?_ | refine Pick_getD fun0 (by omega) (by omega) ?_ | refine Len.map ?_ | refine Len.nil ?_ | refine Len.cons ?_ | refine Br.t rfl ?_ | refine Br.f rfl ?_ | refine Fit.au ?_ | refine Cv.au ?_ | refine Need.ne ?_ | refine Need.au ?_ | refine Pick.map (by assumption) ?_ | refine Pick.mapI (by omega) (by assumption) ?_ | refine PickN.mk _ (by assumption) ?_ | refine PickN.mk _ rfl ?_ | refine PickN.au ?_ | refine App.au rfl ?_ | refine App.au (own_map (fun _ => rfl) _) ?_ | refine Both.mk ?_ ?_ | exact True.intro | refine Br.d (fun h => ?_) (fun h => ?_) | refine Br.nd (fun h => ?_) (fun h => ?_) | refine Br.mk (fun h => ?_) (fun h => ?_)
  all_goals first
    | (exfalso; omega)
    | (show _ = _
       unfold kindF
       repeat' first | rw [if_pos (by omega)] | rw [if_neg (by omega)]
       rfl)

end Go.Proofs.YtdgibhndjdgllaaDoor

/- The check of programs: the kinds that an instruction reads, by a contract. -/
namespace Go.Proofs.YtdgibhndjdgllaaDoor
open Go.Ax
set_option maxRecDepth 10000
set_option linter.unusedVariables false

set_option maxHeartbeats 2000000 in
theorem reads16_spec (p : Pro) (f : Fun) (block : Int) (i : Ins) (hp : p.fits) (hf : f.fits) (hi : i.args.length ≤ 1000000) (hr : right15 i = true) (ht : thereP p f block i) : FnSpec Tryd.prog 89 [proA p, funA f, insA i] (fun r => r = .osl 1 ((kindsF p f i).map int1) ∨ r = .sl false 1 ((kindsF p f i).map int1)) := by
  have hd : i.op = 23 ∨ i.op = 44 → i.dst < f.regs.length := fun h => by
    have := ht.1
    rw [right_def hr (by unfold writesF; simp; omega)] at this
    exact this
  have ha : i.op = 3 ∨ i.op = 4 → i.a < f.regs.length := fun h => ht.2.1 _ (uses_a hr (by unfold abF twoF; simp; omega))
  have hn : i.op = 39 → i.n < p.funcs.length := ht.2.2.2.2.1
  have hn0 := right_n hr
  have hul := usesF_len i
  obtain ⟨hd0, ha0, _⟩ := right_pos hr
  refine spec_of 1000 Tryd.func89 rfl rfl ?_
  repeat' first | refine Call.eq (Uses_spec i hi) rfl ?_ | refine Pick_getD 0 (by omega) (by omega) ?_ | refine Pick_getD fun0 (by omega) (by omega) ?_ | refine Draw.mk (ordL [12] [0, 1, 2, 3, 4, 5, 6, 7, 8, 9, 10, 11, 12, 13]) (by decide +kernel) ?_ | refine Len.map ?_ | refine Len.nil ?_ | refine Len.cons ?_ | refine Br.t rfl ?_ | refine Br.f rfl ?_ | refine Fit.au ?_ | refine Cv.au ?_ | refine Need.ne ?_ | refine Need.au ?_ | refine Pick.map (by assumption) ?_ | refine Pick.mapI (by omega) (by assumption) ?_ | refine PickN.mk _ (by assumption) ?_ | refine PickN.mk _ rfl ?_ | refine PickN.au ?_ | refine App.au rfl ?_ | refine App.au (own_map (fun _ => rfl) _) ?_ | refine Both.mk ?_ ?_ | exact True.intro | (refine Br.d (fun h => ?_) (fun h => ?_) <;> try (exfalso; omega)) | (refine Br.nd (fun h => ?_) (fun h => ?_) <;> try (exfalso; omega)) | (refine Br.mk (fun h => ?_) (fun h => ?_) <;> try (exfalso; omega))
  all_goals first
    | (refine .inl ?_
       show _ = _
       unfold kindsF
       repeat' first | rw [if_pos (by omega)] | rw [if_neg (by omega)]
       rfl)
    | (refine Ax.Sub.mk _ (by omega) (by omega) (by simp only [List.length_map]; omega) rfl ?_
       refine .inr ?_
       show AV.sl false 1 _ = _
       unfold kindsF
       repeat' first | rw [if_pos (by omega)] | rw [if_neg (by omega)]
       simp [List.map_take])
    | skip
  all_goals
    refine Stop.mk (loop_in (fun m : Nat => [(4, .hp 1 0), (5, .hp 2 0), (7, .hw 3), (9, .hw 4), (10, num m)]) (fun m => [(1, .var f.cs), (2, .var i.cs), (3, .row 1 ((usesF i).map int1)), (4, .row 1 ((List.replicate m (if i.op = 44 then f.regs.getD i.dst.toNat 0 else 1)).map int1))]) 5 (fun m => m ≤ (usesF i).length) (fun m => (usesF i).length - m) 0 (by omega) (g := []) ⟨rfl, (by repeat' first | exact trivial | refine ⟨rfl, ?_⟩ | refine ⟨congrArg (fun n => AV.lit (.int .i64 n)) (by omega), ?_⟩ | refine ⟨congrArg (fun l => some (Row.row 1 l)) (by simp [int1, num, tru]), ?_⟩), (by repeat' first | exact trivial | refine ⟨rfl, ?_⟩ | refine ⟨congrArg (fun n => AV.lit (.int .i64 n)) (by omega), ?_⟩ | refine ⟨congrArg (fun l => some (Row.row 1 l)) (by simp [int1, num, tru]), ?_⟩)⟩ (fun m hm ih => ?_))
    refine go 1000 Tryd.func89 ?_
    repeat' first | refine Len.map ?_ | refine Len.nil ?_ | refine Len.cons ?_ | refine Br.t rfl ?_ | refine Br.f rfl ?_ | refine Fit.au ?_ | refine Cv.au ?_ | refine Need.ne ?_ | refine Need.au ?_ | refine Pick.map (by assumption) ?_ | refine Pick.mapI (by omega) (by assumption) ?_ | refine PickN.mk _ (by assumption) ?_ | refine PickN.mk _ rfl ?_ | refine PickN.au ?_ | refine App.au rfl ?_ | refine App.au (own_map (fun _ => rfl) _) ?_ | refine Both.mk ?_ ?_ | exact True.intro
    refine Br.d (fun h2 => ?_) (fun h2 => ?_)
    · obtain ⟨u, gu, gum⟩ := getK (l := usesF i) (k := m) (by omega)
      have hlr : (List.replicate m (if i.op = 44 then f.regs.getD i.dst.toNat 0 else 1)).length = m := List.length_replicate
      repeat' first | refine Len.map ?_ | refine Len.nil ?_ | refine Len.cons ?_ | refine Br.t rfl ?_ | refine Br.f rfl ?_ | refine Fit.au ?_ | refine Cv.au ?_ | refine Need.ne ?_ | refine Need.au ?_ | refine Pick.map (by assumption) ?_ | refine Pick.mapI (by omega) (by assumption) ?_ | refine PickN.mk _ (by assumption) ?_ | refine PickN.mk _ rfl ?_ | refine PickN.au ?_ | refine App.au rfl ?_ | refine App.au (own_map (fun _ => rfl) _) ?_ | refine Both.mk ?_ ?_ | exact True.intro
      refine Br.d (fun h3 => ?_) (fun h3 => ?_)
      · repeat' first | refine Pick_getD 0 (by omega) (by omega) ?_ | refine Len.map ?_ | refine Len.nil ?_ | refine Len.cons ?_ | refine Br.t rfl ?_ | refine Br.f rfl ?_ | refine Fit.au ?_ | refine Cv.au ?_ | refine Need.ne ?_ | refine Need.au ?_ | refine Pick.map (by assumption) ?_ | refine Pick.mapI (by omega) (by assumption) ?_ | refine PickN.mk _ (by assumption) ?_ | refine PickN.mk _ rfl ?_ | refine PickN.au ?_ | refine App.au rfl ?_ | refine App.au (own_map (fun _ => rfl) _) ?_ | refine Both.mk ?_ ?_ | exact True.intro
        refine Stop.mk (ih (m + 1) (g := [(4, 6)]) _ _ _ (by omega) (by omega) ?_)
        rw [List.replicate_succ', List.map_append, if_pos h3]
        exact ⟨rfl, (by repeat' first | exact trivial | refine ⟨rfl, ?_⟩ | refine ⟨congrArg (fun n => AV.lit (.int .i64 n)) (by omega), ?_⟩ | refine ⟨congrArg (fun l => some (Row.row 1 l)) (by simp [int1, num, tru]), ?_⟩), (by repeat' first | exact trivial | refine ⟨rfl, ?_⟩ | refine ⟨congrArg (fun n => AV.lit (.int .i64 n)) (by omega), ?_⟩ | refine ⟨congrArg (fun l => some (Row.row 1 l)) (by simp [int1, num, tru]), ?_⟩)⟩
      · repeat' first | refine Len.map ?_ | refine Len.nil ?_ | refine Len.cons ?_ | refine Br.t rfl ?_ | refine Br.f rfl ?_ | refine Fit.au ?_ | refine Cv.au ?_ | refine Need.ne ?_ | refine Need.au ?_ | refine Pick.map (by assumption) ?_ | refine Pick.mapI (by omega) (by assumption) ?_ | refine PickN.mk _ (by assumption) ?_ | refine PickN.mk _ rfl ?_ | refine PickN.au ?_ | refine App.au rfl ?_ | refine App.au (own_map (fun _ => rfl) _) ?_ | refine Both.mk ?_ ?_ | exact True.intro
        refine Stop.mk (ih (m + 1) (g := [(4, 6)]) _ _ _ (by omega) (by omega) ?_)
        rw [List.replicate_succ', List.map_append, if_neg h3]
        exact ⟨rfl, (by repeat' first | exact trivial | refine ⟨rfl, ?_⟩ | refine ⟨congrArg (fun n => AV.lit (.int .i64 n)) (by omega), ?_⟩ | refine ⟨congrArg (fun l => some (Row.row 1 l)) (by simp [int1, num, tru]), ?_⟩), (by repeat' first | exact trivial | refine ⟨rfl, ?_⟩ | refine ⟨congrArg (fun n => AV.lit (.int .i64 n)) (by omega), ?_⟩ | refine ⟨congrArg (fun l => some (Row.row 1 l)) (by simp [int1, num, tru]), ?_⟩)⟩
    · repeat' first | refine Len.map ?_ | refine Len.nil ?_ | refine Len.cons ?_ | refine Br.t rfl ?_ | refine Br.f rfl ?_ | refine Fit.au ?_ | refine Cv.au ?_ | refine Need.ne ?_ | refine Need.au ?_ | refine Pick.map (by assumption) ?_ | refine Pick.mapI (by omega) (by assumption) ?_ | refine PickN.mk _ (by assumption) ?_ | refine PickN.mk _ rfl ?_ | refine PickN.au ?_ | refine App.au rfl ?_ | refine App.au (own_map (fun _ => rfl) _) ?_ | refine Both.mk ?_ ?_ | exact True.intro
      have : m = (usesF i).length := by omega
      subst this
      refine .inl ?_
      show _ = _
      unfold kindsF
      generalize (if i.op = 44 then f.regs.getD i.dst.toNat 0 else 1) = c
      repeat' first | rw [if_pos (by omega)] | rw [if_neg (by omega)]
      rfl
end Go.Proofs.YtdgibhndjdgllaaDoor

/- The check of programs: kinds, a function itself, by contracts. -/
namespace Go.Proofs.YtdgibhndjdgllaaDoor
open Go.Ax
set_option maxRecDepth 10000
set_option linter.unusedVariables false

theorem kinds_spec (l : List Int) (hl : l.length < 9223372036854775807) : FnSpec Tryd.prog 85 [ints l] (fun r => r = tru (decide (∀ x ∈ l, 1 ≤ x ∧ x ≤ 3))) := by
  refine spec_of 1000 Tryd.func85 rfl rfl ?_
  repeat' first | refine Len.map ?_ | refine Len.nil ?_ | refine Len.cons ?_ | refine Br.t rfl ?_ | refine Br.f rfl ?_ | refine Fit.au ?_ | refine Cv.au ?_ | refine Need.ne ?_ | refine Need.au ?_ | refine Pick.map (by assumption) ?_ | refine Pick.mapI (by omega) (by assumption) ?_ | refine PickN.mk _ (by assumption) ?_ | refine PickN.mk _ rfl ?_ | refine PickN.au ?_ | refine App.au rfl ?_ | refine App.au (own_map (fun _ => rfl) _) ?_ | refine Both.mk ?_ ?_ | exact True.intro
  refine Stop.mk (loop_in (fun m : Nat => [(0, ints l), (3, num m)]) (fun _ => []) 0 (fun m => m ≤ l.length ∧ ∀ x ∈ l.take m, 1 ≤ x ∧ x ≤ 3) (fun m => l.length - m) 0 ⟨by omega, by simp⟩ (g := []) ⟨rfl, (by repeat' first | exact trivial | refine ⟨rfl, ?_⟩ | refine ⟨congrArg (fun n => AV.lit (.int .i64 n)) (by omega), ?_⟩ | refine ⟨congrArg (fun l => some (Row.row 1 l)) (by simp [int1, num, tru]), ?_⟩), (by repeat' first | exact trivial | refine ⟨rfl, ?_⟩ | refine ⟨congrArg (fun n => AV.lit (.int .i64 n)) (by omega), ?_⟩ | refine ⟨congrArg (fun l => some (Row.row 1 l)) (by simp [int1, num, tru]), ?_⟩)⟩ (fun m hm ih => ?_))
  obtain ⟨hm, hw⟩ := hm
  refine go 1000 Tryd.func85 ?_
  repeat' first | refine Len.map ?_ | refine Len.nil ?_ | refine Len.cons ?_ | refine Br.t rfl ?_ | refine Br.f rfl ?_ | refine Fit.au ?_ | refine Cv.au ?_ | refine Need.ne ?_ | refine Need.au ?_ | refine Pick.map (by assumption) ?_ | refine Pick.mapI (by omega) (by assumption) ?_ | refine PickN.mk _ (by assumption) ?_ | refine PickN.mk _ rfl ?_ | refine PickN.au ?_ | refine App.au rfl ?_ | refine App.au (own_map (fun _ => rfl) _) ?_ | refine Both.mk ?_ ?_ | exact True.intro
  refine Br.d (fun h2 => ?_) (fun h2 => ?_)
  · obtain ⟨x, gx, gxm⟩ := getK (l := l) (k := m) (by omega)
    have bad : ¬ (1 ≤ x ∧ x ≤ 3) → decide (∀ x ∈ l, 1 ≤ x ∧ x ≤ 3) = false := fun h => decide_eq_false fun h' => h (h' x gxm)
    repeat' first | refine Len.map ?_ | refine Len.nil ?_ | refine Len.cons ?_ | refine Br.t rfl ?_ | refine Br.f rfl ?_ | refine Fit.au ?_ | refine Cv.au ?_ | refine Need.ne ?_ | refine Need.au ?_ | refine Pick.map (by assumption) ?_ | refine Pick.mapI (by omega) (by assumption) ?_ | refine PickN.mk _ (by assumption) ?_ | refine PickN.mk _ rfl ?_ | refine PickN.au ?_ | refine App.au rfl ?_ | refine App.au (own_map (fun _ => rfl) _) ?_ | refine Both.mk ?_ ?_ | exact True.intro | refine Br.d (fun h => ?_) (fun h => ?_) | refine Br.nd (fun h => ?_) (fun h => ?_) | refine Br.mk (fun h => ?_) (fun h => ?_)
    · rw [bad (by omega)]; rfl
    · rw [bad (by omega)]; rfl
    · refine Stop.mk (ih (m + 1) (g := []) _ _ _ ⟨by omega, all_take_succ gx hw (by omega)⟩ (by omega) ⟨rfl, (by repeat' first | exact trivial | refine ⟨rfl, ?_⟩ | refine ⟨congrArg (fun n => AV.lit (.int .i64 n)) (by omega), ?_⟩ | refine ⟨congrArg (fun l => some (Row.row 1 l)) (by simp [int1, num, tru]), ?_⟩), (by repeat' first | exact trivial | refine ⟨rfl, ?_⟩ | refine ⟨congrArg (fun n => AV.lit (.int .i64 n)) (by omega), ?_⟩ | refine ⟨congrArg (fun l => some (Row.row 1 l)) (by simp [int1, num, tru]), ?_⟩)⟩)
  · repeat' first | refine Len.map ?_ | refine Len.nil ?_ | refine Len.cons ?_ | refine Br.t rfl ?_ | refine Br.f rfl ?_ | refine Fit.au ?_ | refine Cv.au ?_ | refine Need.ne ?_ | refine Need.au ?_ | refine Pick.map (by assumption) ?_ | refine Pick.mapI (by omega) (by assumption) ?_ | refine PickN.mk _ (by assumption) ?_ | refine PickN.mk _ rfl ?_ | refine PickN.au ?_ | refine App.au rfl ?_ | refine App.au (own_map (fun _ => rfl) _) ?_ | refine Both.mk ?_ ?_ | exact True.intro
    rw [take_all (by omega)] at hw
    rw [decide_eq_true hw]; rfl
end Go.Proofs.YtdgibhndjdgllaaDoor

/- The check of programs: one instruction, by a contract. -/
namespace Go.Proofs.YtdgibhndjdgllaaDoor
open Go.Ax
set_option maxRecDepth 10000
set_option linter.unusedVariables false

theorem one16_spec (p : Pro) (f : Fun) (k j : Nat) (b : List Ins) (i : Ins) (gb : f.blocks[k]? = some b) (gi : b[j]? = some i) (hp : p.fits) (hf : f.fits) (hi : i.args.length < 100000) (hg : ∀ g ∈ p.funcs, g.regs.length < 1000000) :
    FnSpec Tryd.prog 58 [proA p, funA f, num k, num j] (fun r => r = num (oneE p f k b j i)) := by
  have gm := List.mem_of_getElem? gb
  have gim := List.mem_of_getElem? gi
  have hkn := (List.getElem?_eq_some_iff.1 gb).1
  have hjn := (List.getElem?_eq_some_iff.1 gi).1
  obtain ⟨hb1, hb2⟩ := hf.2.2 b gm
  have hif := hb2 i gim
  refine spec_of 1000 Tryd.func58 rfl rfl ?_
  repeat' first | refine Len.map ?_ | refine Len.nil ?_ | refine Len.cons ?_ | refine Br.t rfl ?_ | refine Br.f rfl ?_ | refine Fit.au ?_ | refine Cv.au ?_ | refine Need.ne ?_ | refine Need.au ?_ | refine Pick.map (by assumption) ?_ | refine Pick.mapI (by omega) (by assumption) ?_ | refine PickN.mk _ (by assumption) ?_ | refine PickN.mk _ rfl ?_ | refine PickN.au ?_ | refine App.au rfl ?_ | refine App.au (own_map (fun _ => rfl) _) ?_ | refine Both.mk ?_ ?_ | exact True.intro
  refine Call.of (form_spec b j i gi hb1 hif) ?_
  rintro r ⟨v, rfl, hv⟩
  refine ⟨rfl, ?_⟩
  repeat' first | refine Len.map ?_ | refine Len.nil ?_ | refine Len.cons ?_ | refine Br.t rfl ?_ | refine Br.f rfl ?_ | refine Fit.au ?_ | refine Cv.au ?_ | refine Need.ne ?_ | refine Need.au ?_ | refine Pick.map (by assumption) ?_ | refine Pick.mapI (by omega) (by assumption) ?_ | refine PickN.mk _ (by assumption) ?_ | refine PickN.mk _ rfl ?_ | refine PickN.au ?_ | refine App.au rfl ?_ | refine App.au (own_map (fun _ => rfl) _) ?_ | refine Both.mk ?_ ?_ | exact True.intro
  refine Br.mk (fun h1 => ?_) (fun h1 => ?_)
  · repeat' first | refine Len.map ?_ | refine Len.nil ?_ | refine Len.cons ?_ | refine Br.t rfl ?_ | refine Br.f rfl ?_ | refine Fit.au ?_ | refine Cv.au ?_ | refine Need.ne ?_ | refine Need.au ?_ | refine Pick.map (by assumption) ?_ | refine Pick.mapI (by omega) (by assumption) ?_ | refine PickN.mk _ (by assumption) ?_ | refine PickN.mk _ rfl ?_ | refine PickN.au ?_ | refine App.au rfl ?_ | refine App.au (own_map (fun _ => rfl) _) ?_ | refine Both.mk ?_ ?_ | exact True.intro
    have e : oneE p f k b j i = 5 := if_neg fun h => by have := hv.2 h; simp_all
    rw [e]; rfl
  have hform := hv.1 (by simpa using h1)
  have hr := hform.1
  repeat' first | refine Len.map ?_ | refine Len.nil ?_ | refine Len.cons ?_ | refine Br.t rfl ?_ | refine Br.f rfl ?_ | refine Fit.au ?_ | refine Cv.au ?_ | refine Need.ne ?_ | refine Need.au ?_ | refine Pick.map (by assumption) ?_ | refine Pick.mapI (by omega) (by assumption) ?_ | refine PickN.mk _ (by assumption) ?_ | refine PickN.mk _ rfl ?_ | refine PickN.au ?_ | refine App.au rfl ?_ | refine App.au (own_map (fun _ => rfl) _) ?_ | refine Both.mk ?_ ?_ | exact True.intro
  refine Call.of (there_spec p f k i hp hf (by omega) hr) ?_
  rintro r ⟨v2, rfl, hv2⟩
  refine ⟨rfl, ?_⟩
  repeat' first | refine Len.map ?_ | refine Len.nil ?_ | refine Len.cons ?_ | refine Br.t rfl ?_ | refine Br.f rfl ?_ | refine Fit.au ?_ | refine Cv.au ?_ | refine Need.ne ?_ | refine Need.au ?_ | refine Pick.map (by assumption) ?_ | refine Pick.mapI (by omega) (by assumption) ?_ | refine PickN.mk _ (by assumption) ?_ | refine PickN.mk _ rfl ?_ | refine PickN.au ?_ | refine App.au rfl ?_ | refine App.au (own_map (fun _ => rfl) _) ?_ | refine Both.mk ?_ ?_ | exact True.intro
  refine Br.mk (fun h2 => ?_) (fun h2 => ?_)
  · repeat' first | refine Len.map ?_ | refine Len.nil ?_ | refine Len.cons ?_ | refine Br.t rfl ?_ | refine Br.f rfl ?_ | refine Fit.au ?_ | refine Cv.au ?_ | refine Need.ne ?_ | refine Need.au ?_ | refine Pick.map (by assumption) ?_ | refine Pick.mapI (by omega) (by assumption) ?_ | refine PickN.mk _ (by assumption) ?_ | refine PickN.mk _ rfl ?_ | refine PickN.au ?_ | refine App.au rfl ?_ | refine App.au (own_map (fun _ => rfl) _) ?_ | refine Both.mk ?_ ?_ | exact True.intro
    have e : oneE p f k b j i = 2 := by unfold oneE; rw [if_pos hform, if_neg fun h => by have := hv2.2 h; simp_all]
    rw [e]; rfl
  have hth := hv2.1 (by simpa using h2)
  have hul := usesF_len i
  have hkl := kindsF_len (f := f) hi hg
  have hup := uses_pos hr
  have hub : ∀ u ∈ usesF i, 0 ≤ u ∧ u < f.regs.length := fun u hu => ⟨hup u hu, hth.2.1 u hu⟩
  repeat' first | refine Draw.mk (ordL [2, 6, 7, 12, 23] [0, 1, 3, 4, 5, 2, 6, 7, 8, 9, 10, 11, 12, 13, 14, 15, 16, 17, 18, 19, 20, 21, 22, 23, 24, 25, 26]) (by decide +kernel) ?_ | refine Call.eq (Uses_spec i (by omega)) rfl ?_ | refine Len.map ?_ | refine Len.nil ?_ | refine Len.cons ?_ | refine Br.t rfl ?_ | refine Br.f rfl ?_ | refine Fit.au ?_ | refine Cv.au ?_ | refine Need.ne ?_ | refine Need.au ?_ | refine Pick.map (by assumption) ?_ | refine Pick.mapI (by omega) (by assumption) ?_ | refine PickN.mk _ (by assumption) ?_ | refine PickN.mk _ rfl ?_ | refine PickN.au ?_ | refine App.au rfl ?_ | refine App.au (own_map (fun _ => rfl) _) ?_ | refine Both.mk ?_ ?_ | exact True.intro
  refine Call.of (reads16_spec p f k i hp hf (by omega) hr hth) ?_
  have hall := all_spec f (usesF i) (kindsF p f i) (by omega) hkl hub
  have hw : writesF i.op = true → 0 ≤ i.dst ∧ i.dst < f.regs.length := fun h => by
    have h1 := hth.1
    rw [right_def hr h] at h1
    exact ⟨(right_pos hr).1, h1⟩
  have bad : ¬ typeP p f i → oneE p f k b j i = 11 := fun h => by unfold oneE; rw [if_pos hform, if_pos hth, if_neg h]
  have good : typeP p f i → oneE p f k b j i = 0 := fun h => by unfold oneE; rw [if_pos hform, if_pos hth, if_pos h]
  rintro r (rfl | rfl)
  all_goals
    refine ⟨rfl, ?_⟩
    repeat' first | refine Draw.mk (ordL [2, 6, 7, 12, 23] [0, 1, 3, 4, 5, 2, 6, 7, 8, 9, 10, 11, 12, 13, 14, 15, 16, 17, 18, 19, 20, 21, 22, 23, 24, 25, 26]) (by decide +kernel) ?_ | refine Look.yes ?_ | refine View.map (fun _ => rfl) ?_ | refine CallV.eq hall rfl (Free.lit _) ?_ | refine Len.map ?_ | refine Len.nil ?_ | refine Len.cons ?_ | refine Br.t rfl ?_ | refine Br.f rfl ?_ | refine Fit.au ?_ | refine Cv.au ?_ | refine Need.ne ?_ | refine Need.au ?_ | refine Pick.map (by assumption) ?_ | refine Pick.mapI (by omega) (by assumption) ?_ | refine PickN.mk _ (by assumption) ?_ | refine PickN.mk _ rfl ?_ | refine PickN.au ?_ | refine App.au rfl ?_ | refine App.au (own_map (fun _ => rfl) _) ?_ | refine Both.mk ?_ ?_ | exact True.intro
    refine Br.nd (fun h3 => ?_) (fun h3 => ?_)
    · repeat' first | refine Len.map ?_ | refine Len.nil ?_ | refine Len.cons ?_ | refine Br.t rfl ?_ | refine Br.f rfl ?_ | refine Fit.au ?_ | refine Cv.au ?_ | refine Need.ne ?_ | refine Need.au ?_ | refine Pick.map (by assumption) ?_ | refine Pick.mapI (by omega) (by assumption) ?_ | refine PickN.mk _ (by assumption) ?_ | refine PickN.mk _ rfl ?_ | refine PickN.au ?_ | refine App.au rfl ?_ | refine App.au (own_map (fun _ => rfl) _) ?_ | refine Both.mk ?_ ?_ | exact True.intro
      rw [bad fun h => h3 h.1]; rfl
    · repeat' first | refine Call.eq (Writes_spec _) rfl ?_ | refine Len.map ?_ | refine Len.nil ?_ | refine Len.cons ?_ | refine Br.t rfl ?_ | refine Br.f rfl ?_ | refine Fit.au ?_ | refine Cv.au ?_ | refine Need.ne ?_ | refine Need.au ?_ | refine Pick.map (by assumption) ?_ | refine Pick.mapI (by omega) (by assumption) ?_ | refine PickN.mk _ (by assumption) ?_ | refine PickN.mk _ rfl ?_ | refine PickN.au ?_ | refine App.au rfl ?_ | refine App.au (own_map (fun _ => rfl) _) ?_ | refine Both.mk ?_ ?_ | exact True.intro
      refine Br.mk (fun h4 => ?_) (fun h4 => ?_)
      · obtain ⟨w1, w2⟩ := hw h4
        repeat' first | refine Pick_getD 0 (by omega) (by omega) ?_ | refine Call.eq (writes16_spec p f k i hp hf hr hth) rfl ?_ | refine Len.map ?_ | refine Len.nil ?_ | refine Len.cons ?_ | refine Br.t rfl ?_ | refine Br.f rfl ?_ | refine Fit.au ?_ | refine Cv.au ?_ | refine Need.ne ?_ | refine Need.au ?_ | refine Pick.map (by assumption) ?_ | refine Pick.mapI (by omega) (by assumption) ?_ | refine PickN.mk _ (by assumption) ?_ | refine PickN.mk _ rfl ?_ | refine PickN.au ?_ | refine App.au rfl ?_ | refine App.au (own_map (fun _ => rfl) _) ?_ | refine Both.mk ?_ ?_ | exact True.intro
        refine Br.nd (fun h5 => ?_) (fun h5 => ?_)
        · repeat' first | refine Len.map ?_ | refine Len.nil ?_ | refine Len.cons ?_ | refine Br.t rfl ?_ | refine Br.f rfl ?_ | refine Fit.au ?_ | refine Cv.au ?_ | refine Need.ne ?_ | refine Need.au ?_ | refine Pick.map (by assumption) ?_ | refine Pick.mapI (by omega) (by assumption) ?_ | refine PickN.mk _ (by assumption) ?_ | refine PickN.mk _ rfl ?_ | refine PickN.au ?_ | refine App.au rfl ?_ | refine App.au (own_map (fun _ => rfl) _) ?_ | refine Both.mk ?_ ?_ | exact True.intro
          rw [bad fun h => h5 (h.2 h4)]; rfl
        · repeat' first | refine Len.map ?_ | refine Len.nil ?_ | refine Len.cons ?_ | refine Br.t rfl ?_ | refine Br.f rfl ?_ | refine Fit.au ?_ | refine Cv.au ?_ | refine Need.ne ?_ | refine Need.au ?_ | refine Pick.map (by assumption) ?_ | refine Pick.mapI (by omega) (by assumption) ?_ | refine PickN.mk _ (by assumption) ?_ | refine PickN.mk _ rfl ?_ | refine PickN.au ?_ | refine App.au rfl ?_ | refine App.au (own_map (fun _ => rfl) _) ?_ | refine Both.mk ?_ ?_ | exact True.intro
          rw [good ⟨h3, fun _ => h5⟩]; rfl
      · repeat' first | refine Len.map ?_ | refine Len.nil ?_ | refine Len.cons ?_ | refine Br.t rfl ?_ | refine Br.f rfl ?_ | refine Fit.au ?_ | refine Cv.au ?_ | refine Need.ne ?_ | refine Need.au ?_ | refine Pick.map (by assumption) ?_ | refine Pick.mapI (by omega) (by assumption) ?_ | refine PickN.mk _ (by assumption) ?_ | refine PickN.mk _ rfl ?_ | refine PickN.au ?_ | refine App.au rfl ?_ | refine App.au (own_map (fun _ => rfl) _) ?_ | refine Both.mk ?_ ?_ | exact True.intro
        rw [good ⟨h3, fun h => by rw [h4] at h; cases h⟩]; rfl
end Go.Proofs.YtdgibhndjdgllaaDoor

/- The check of programs: a function itself, by a contract. -/
namespace Go.Proofs.YtdgibhndjdgllaaDoor
open Go.Ax
set_option maxRecDepth 10000
set_option linter.unusedVariables false

theorem head_spec (f : Fun) (hf : f.fits) (hc : f.count ≤ 100000000000000000) : FnSpec Tryd.prog 57 [funA f] (fun r => r = num (headE f)) := by
  have hf1 := hf.1
  have hf2 := hf.2.1
  refine spec_of 1000 Tryd.func57 rfl rfl ?_
  repeat' first | refine Len.map ?_ | refine Len.nil ?_ | refine Len.cons ?_ | refine Br.t rfl ?_ | refine Br.f rfl ?_ | refine Fit.au ?_ | refine Cv.au ?_ | refine Need.ne ?_ | refine Need.au ?_ | refine Pick.map (by assumption) ?_ | refine Pick.mapI (by omega) (by assumption) ?_ | refine PickN.mk _ (by assumption) ?_ | refine PickN.mk _ rfl ?_ | refine PickN.au ?_ | refine App.au rfl ?_ | refine App.au (own_map (fun _ => rfl) _) ?_ | refine Both.mk ?_ ?_ | exact True.intro
  refine Stop.mk (loop_in (fun k : Nat => [(1, .hp 0 0), (3, num (((f.blocks.map List.length).take k).sum : Nat)), (4, num k)]) (fun k => [(0, .var f.cs)]) 1 (fun k => k ≤ f.blocks.length) (fun k => f.blocks.length - k) 0 (by omega) (g := []) ⟨rfl, (by repeat' first | exact trivial | refine ⟨rfl, ?_⟩ | refine ⟨congrArg (fun n => AV.lit (.int .i64 n)) (by omega), ?_⟩ | refine ⟨congrArg (fun l => some (Row.row 1 l)) (by simp [int1, num, tru]), ?_⟩), (by repeat' first | exact trivial | refine ⟨rfl, ?_⟩ | refine ⟨congrArg (fun n => AV.lit (.int .i64 n)) (by omega), ?_⟩ | refine ⟨congrArg (fun l => some (Row.row 1 l)) (by simp [int1, num, tru]), ?_⟩)⟩ (fun k hk ih => ?_))
  refine go 1000 Tryd.func57 ?_
  repeat' first | refine Len.map ?_ | refine Len.nil ?_ | refine Len.cons ?_ | refine Br.t rfl ?_ | refine Br.f rfl ?_ | refine Fit.au ?_ | refine Cv.au ?_ | refine Need.ne ?_ | refine Need.au ?_ | refine Pick.map (by assumption) ?_ | refine Pick.mapI (by omega) (by assumption) ?_ | refine PickN.mk _ (by assumption) ?_ | refine PickN.mk _ rfl ?_ | refine PickN.au ?_ | refine App.au rfl ?_ | refine App.au (own_map (fun _ => rfl) _) ?_ | refine Both.mk ?_ ?_ | exact True.intro
  refine Br.d (fun h2 => ?_) (fun h2 => ?_)
  · obtain ⟨b, gb, gm⟩ := getK (l := f.blocks) (k := k) (by omega)
    obtain ⟨hb1, hb2⟩ := hf.2.2 b gm
    have e1 := sum_take_succ (l := f.blocks.map List.length) (k := k) (n := b.length) (by simp [gb])
    have e2 := f.count_take (k + 1)
    repeat' first | refine Len.map ?_ | refine Len.nil ?_ | refine Len.cons ?_ | refine Br.t rfl ?_ | refine Br.f rfl ?_ | refine Fit.au ?_ | refine Cv.au ?_ | refine Need.ne ?_ | refine Need.au ?_ | refine Pick.map (by assumption) ?_ | refine Pick.mapI (by omega) (by assumption) ?_ | refine PickN.mk _ (by assumption) ?_ | refine PickN.mk _ rfl ?_ | refine PickN.au ?_ | refine App.au rfl ?_ | refine App.au (own_map (fun _ => rfl) _) ?_ | refine Both.mk ?_ ?_ | exact True.intro
    refine Stop.mk (ih (k + 1) (g := []) _ _ _ (by omega) (by omega) ?_)
    rw [e1, Int.natCast_add]
    exact ⟨rfl, (by repeat' first | exact trivial | refine ⟨rfl, ?_⟩ | refine ⟨congrArg (fun n => AV.lit (.int .i64 n)) (by omega), ?_⟩ | refine ⟨congrArg (fun l => some (Row.row 1 l)) (by simp [int1, num, tru]), ?_⟩), (by repeat' first | exact trivial | refine ⟨rfl, ?_⟩ | refine ⟨congrArg (fun n => AV.lit (.int .i64 n)) (by omega), ?_⟩ | refine ⟨congrArg (fun l => some (Row.row 1 l)) (by simp [int1, num, tru]), ?_⟩)⟩
  have ec : ((f.blocks.map List.length).take k).sum = f.count := by rw [take_all (by simp; omega)]; rfl
  rw [ec]
  clear ih
  have hkr := kinds_spec f.regs hf2
  have hkr2 := kinds_spec [f.ret] (by simp)
  repeat' first | refine Call.eq hkr rfl ?_ | refine Look.yes (View.mk _ rfl ?_) | refine CallV.eq hkr2 rfl (Free.lit _) ?_ | refine Len.map ?_ | refine Len.nil ?_ | refine Len.cons ?_ | refine Br.t rfl ?_ | refine Br.f rfl ?_ | refine Fit.au ?_ | refine Cv.au ?_ | refine Need.ne ?_ | refine Need.au ?_ | refine Pick.map (by assumption) ?_ | refine Pick.mapI (by omega) (by assumption) ?_ | refine PickN.mk _ (by assumption) ?_ | refine PickN.mk _ rfl ?_ | refine PickN.au ?_ | refine App.au rfl ?_ | refine App.au (own_map (fun _ => rfl) _) ?_ | refine Both.mk ?_ ?_ | exact True.intro | refine Br.d (fun h => ?_) (fun h => ?_) | refine Br.nd (fun h => ?_) (fun h => ?_) | refine Br.mk (fun h => ?_) (fun h => ?_)
  all_goals first
    | (have e : headE f = 3 := if_neg fun h => by unfold longP at h; exfalso; omega
       rw [e]; rfl)
    | (have e : headE f = 11 := by
         unfold headE; rw [if_pos (by unfold longP; omega), if_neg fun h => by unfold kindP at h; simp_all; done]
       rw [e]; rfl)
    | (have e : headE f = 5 := by
         unfold headE; rw [if_pos (by unfold longP; omega), if_pos (by unfold kindP; simp_all), if_pos (by omega)]
       rw [e]; rfl)
    | (have e : headE f = 0 := by
         unfold headE; rw [if_pos (by unfold longP; omega), if_pos (by unfold kindP; simp_all), if_neg (by omega)]
       rw [e]; rfl)
end Go.Proofs.YtdgibhndjdgllaaDoor

/- The check of programs, by a contract. -/
namespace Go.Proofs.YtdgibhndjdgllaaDoor
open Go.Ax
set_option maxRecDepth 10000
set_option linter.unusedVariables false

def z4 : List AV := [num 0, num 0, num 0, num 0]
set_option maxHeartbeats 2000000 in
theorem Check16_spec (p : Pro) (hs : p.slim) : FnSpec Tryd.prog 26 [proA p] (fun r => r = .agg (checkE p).cs) := by
  have hp := hs.1
  have hp1 := hp.1
  have hp2 := hp.2.1
  have hreg : ∀ g ∈ p.funcs, g.regs.length < 1000000 := fun g hg => (hs.2 g hg).2.1
  have bad : (200 < p.funcs.length ∨ 262144 < p.sites.length) → checkE p = ⟨-1, -1, -1, 3⟩ := fun h => if_pos h
  have bad2 : ¬ (200 < p.funcs.length ∨ 262144 < p.sites.length) → ¬ mainP p → checkE p = ⟨-1, -1, -1, 13⟩ := fun h h2 => by unfold checkE; rw [if_neg h, if_neg h2]
  refine spec_of 1000 Tryd.func26 rfl rfl ?_
  repeat' first | refine Len.map ?_ | refine Len.nil ?_ | refine Len.cons ?_ | refine Br.t rfl ?_ | refine Br.f rfl ?_ | refine Fit.au ?_ | refine Cv.au ?_ | refine Need.ne ?_ | refine Need.au ?_ | refine Pick.map (by assumption) ?_ | refine Pick.mapI (by omega) (by assumption) ?_ | refine PickN.mk _ (by assumption) ?_ | refine PickN.mk _ rfl ?_ | refine PickN.au ?_ | refine App.au rfl ?_ | refine App.au (own_map (fun _ => rfl) _) ?_ | refine Both.mk ?_ ?_ | exact True.intro
  refine Br.d (fun h1 => ?_) (fun h1 => ?_)
  · repeat' first | refine Len.map ?_ | refine Len.nil ?_ | refine Len.cons ?_ | refine Br.t rfl ?_ | refine Br.f rfl ?_ | refine Fit.au ?_ | refine Cv.au ?_ | refine Need.ne ?_ | refine Need.au ?_ | refine Pick.map (by assumption) ?_ | refine Pick.mapI (by omega) (by assumption) ?_ | refine PickN.mk _ (by assumption) ?_ | refine PickN.mk _ rfl ?_ | refine PickN.au ?_ | refine App.au rfl ?_ | refine App.au (own_map (fun _ => rfl) _) ?_ | refine Both.mk ?_ ?_ | exact True.intro
    rw [bad (by omega)]; rfl
  repeat' first | refine Len.map ?_ | refine Len.nil ?_ | refine Len.cons ?_ | refine Br.t rfl ?_ | refine Br.f rfl ?_ | refine Fit.au ?_ | refine Cv.au ?_ | refine Need.ne ?_ | refine Need.au ?_ | refine Pick.map (by assumption) ?_ | refine Pick.mapI (by omega) (by assumption) ?_ | refine PickN.mk _ (by assumption) ?_ | refine PickN.mk _ rfl ?_ | refine PickN.au ?_ | refine App.au rfl ?_ | refine App.au (own_map (fun _ => rfl) _) ?_ | refine Both.mk ?_ ?_ | exact True.intro
  refine Br.d (fun h2 => ?_) (fun h2 => ?_)
  · repeat' first | refine Len.map ?_ | refine Len.nil ?_ | refine Len.cons ?_ | refine Br.t rfl ?_ | refine Br.f rfl ?_ | refine Fit.au ?_ | refine Cv.au ?_ | refine Need.ne ?_ | refine Need.au ?_ | refine Pick.map (by assumption) ?_ | refine Pick.mapI (by omega) (by assumption) ?_ | refine PickN.mk _ (by assumption) ?_ | refine PickN.mk _ rfl ?_ | refine PickN.au ?_ | refine App.au rfl ?_ | refine App.au (own_map (fun _ => rfl) _) ?_ | refine Both.mk ?_ ?_ | exact True.intro
    rw [bad (by omega)]; rfl
  repeat' first | refine Len.map ?_ | refine Len.nil ?_ | refine Len.cons ?_ | refine Br.t rfl ?_ | refine Br.f rfl ?_ | refine Fit.au ?_ | refine Cv.au ?_ | refine Need.ne ?_ | refine Need.au ?_ | refine Pick.map (by assumption) ?_ | refine Pick.mapI (by omega) (by assumption) ?_ | refine PickN.mk _ (by assumption) ?_ | refine PickN.mk _ rfl ?_ | refine PickN.au ?_ | refine App.au rfl ?_ | refine App.au (own_map (fun _ => rfl) _) ?_ | refine Both.mk ?_ ?_ | exact True.intro
  have hmain : ∀ (h : 0 ≤ p.main ∧ p.main < p.funcs.length), ∃ g, p.funcs[p.main.toNat]? = some g ∧ p.funcs.getD p.main.toNat fun0 = g := fun h => by
    obtain ⟨g, gg, _⟩ := getK (l := p.funcs) (k := p.main.toNat) (by omega)
    exact ⟨g, gg, by rw [List.getD_eq_getElem?_getD, gg]; rfl⟩
  refine Br.d (fun h3 => ?_) (fun h3 => ?_)
  · repeat' first | refine Len.map ?_ | refine Len.nil ?_ | refine Len.cons ?_ | refine Br.t rfl ?_ | refine Br.f rfl ?_ | refine Fit.au ?_ | refine Cv.au ?_ | refine Need.ne ?_ | refine Need.au ?_ | refine Pick.map (by assumption) ?_ | refine Pick.mapI (by omega) (by assumption) ?_ | refine PickN.mk _ (by assumption) ?_ | refine PickN.mk _ rfl ?_ | refine PickN.au ?_ | refine App.au rfl ?_ | refine App.au (own_map (fun _ => rfl) _) ?_ | refine Both.mk ?_ ?_ | exact True.intro
    rw [bad2 (by omega) fun h => by have := h.1; omega]; rfl
  repeat' first | refine Len.map ?_ | refine Len.nil ?_ | refine Len.cons ?_ | refine Br.t rfl ?_ | refine Br.f rfl ?_ | refine Fit.au ?_ | refine Cv.au ?_ | refine Need.ne ?_ | refine Need.au ?_ | refine Pick.map (by assumption) ?_ | refine Pick.mapI (by omega) (by assumption) ?_ | refine PickN.mk _ (by assumption) ?_ | refine PickN.mk _ rfl ?_ | refine PickN.au ?_ | refine App.au rfl ?_ | refine App.au (own_map (fun _ => rfl) _) ?_ | refine Both.mk ?_ ?_ | exact True.intro
  refine Br.d (fun h4 => ?_) (fun h4 => ?_)
  · repeat' first | refine Len.map ?_ | refine Len.nil ?_ | refine Len.cons ?_ | refine Br.t rfl ?_ | refine Br.f rfl ?_ | refine Fit.au ?_ | refine Cv.au ?_ | refine Need.ne ?_ | refine Need.au ?_ | refine Pick.map (by assumption) ?_ | refine Pick.mapI (by omega) (by assumption) ?_ | refine PickN.mk _ (by assumption) ?_ | refine PickN.mk _ rfl ?_ | refine PickN.au ?_ | refine App.au rfl ?_ | refine App.au (own_map (fun _ => rfl) _) ?_ | refine Both.mk ?_ ?_ | exact True.intro
    rw [bad2 (by omega) fun h => by have := h.2.1; omega]; rfl
  obtain ⟨g, gg, eg⟩ := hmain (by omega)
  have em : mainP p ↔ (g.params = 1 ∧ g.regs.length ≠ 0 ∧ g.regs.getD 0 0 = 3 ∧ g.ret = 1) := by
    unfold mainP; rw [eg]
    exact ⟨fun h => h.2.2, fun h => ⟨by omega, by omega, h⟩⟩
  repeat' first | refine Len.map ?_ | refine Len.nil ?_ | refine Len.cons ?_ | refine Br.t rfl ?_ | refine Br.f rfl ?_ | refine Fit.au ?_ | refine Cv.au ?_ | refine Need.ne ?_ | refine Need.au ?_ | refine Pick.map (by assumption) ?_ | refine Pick.mapI (by omega) (by assumption) ?_ | refine PickN.mk _ (by assumption) ?_ | refine PickN.mk _ rfl ?_ | refine PickN.au ?_ | refine App.au rfl ?_ | refine App.au (own_map (fun _ => rfl) _) ?_ | refine Both.mk ?_ ?_ | exact True.intro
  refine Br.nd (fun h5 => ?_) (fun h5 => ?_)
  · repeat' first | refine Len.map ?_ | refine Len.nil ?_ | refine Len.cons ?_ | refine Br.t rfl ?_ | refine Br.f rfl ?_ | refine Fit.au ?_ | refine Cv.au ?_ | refine Need.ne ?_ | refine Need.au ?_ | refine Pick.map (by assumption) ?_ | refine Pick.mapI (by omega) (by assumption) ?_ | refine PickN.mk _ (by assumption) ?_ | refine PickN.mk _ rfl ?_ | refine PickN.au ?_ | refine App.au rfl ?_ | refine App.au (own_map (fun _ => rfl) _) ?_ | refine Both.mk ?_ ?_ | exact True.intro
    rw [bad2 (by omega) fun h => h5 (em.1 h).1]; rfl
  repeat' first | refine Len.map ?_ | refine Len.nil ?_ | refine Len.cons ?_ | refine Br.t rfl ?_ | refine Br.f rfl ?_ | refine Fit.au ?_ | refine Cv.au ?_ | refine Need.ne ?_ | refine Need.au ?_ | refine Pick.map (by assumption) ?_ | refine Pick.mapI (by omega) (by assumption) ?_ | refine PickN.mk _ (by assumption) ?_ | refine PickN.mk _ rfl ?_ | refine PickN.au ?_ | refine App.au rfl ?_ | refine App.au (own_map (fun _ => rfl) _) ?_ | refine Both.mk ?_ ?_ | exact True.intro
  refine Br.d (fun h6 => ?_) (fun h6 => ?_)
  · repeat' first | refine Len.map ?_ | refine Len.nil ?_ | refine Len.cons ?_ | refine Br.t rfl ?_ | refine Br.f rfl ?_ | refine Fit.au ?_ | refine Cv.au ?_ | refine Need.ne ?_ | refine Need.au ?_ | refine Pick.map (by assumption) ?_ | refine Pick.mapI (by omega) (by assumption) ?_ | refine PickN.mk _ (by assumption) ?_ | refine PickN.mk _ rfl ?_ | refine PickN.au ?_ | refine App.au rfl ?_ | refine App.au (own_map (fun _ => rfl) _) ?_ | refine Both.mk ?_ ?_ | exact True.intro
    rw [bad2 (by omega) fun h => (em.1 h).2.1 (by omega)]; rfl
  obtain ⟨x, gx, _⟩ := getK (l := g.regs) (k := 0) (by omega)
  have ex : g.regs.getD 0 0 = x := by rw [List.getD_eq_getElem?_getD, gx]; rfl
  repeat' first | refine Pick.map (n := 0) gx ?_ | refine Len.map ?_ | refine Len.nil ?_ | refine Len.cons ?_ | refine Br.t rfl ?_ | refine Br.f rfl ?_ | refine Fit.au ?_ | refine Cv.au ?_ | refine Need.ne ?_ | refine Need.au ?_ | refine Pick.map (by assumption) ?_ | refine Pick.mapI (by omega) (by assumption) ?_ | refine PickN.mk _ (by assumption) ?_ | refine PickN.mk _ rfl ?_ | refine PickN.au ?_ | refine App.au rfl ?_ | refine App.au (own_map (fun _ => rfl) _) ?_ | refine Both.mk ?_ ?_ | exact True.intro
  refine Br.nd (fun h7 => ?_) (fun h7 => ?_)
  · repeat' first | refine Len.map ?_ | refine Len.nil ?_ | refine Len.cons ?_ | refine Br.t rfl ?_ | refine Br.f rfl ?_ | refine Fit.au ?_ | refine Cv.au ?_ | refine Need.ne ?_ | refine Need.au ?_ | refine Pick.map (by assumption) ?_ | refine Pick.mapI (by omega) (by assumption) ?_ | refine PickN.mk _ (by assumption) ?_ | refine PickN.mk _ rfl ?_ | refine PickN.au ?_ | refine App.au rfl ?_ | refine App.au (own_map (fun _ => rfl) _) ?_ | refine Both.mk ?_ ?_ | exact True.intro
    rw [bad2 (by omega) fun h => h7 (by rw [← ex]; exact (em.1 h).2.2.1)]; rfl
  repeat' first | refine Len.map ?_ | refine Len.nil ?_ | refine Len.cons ?_ | refine Br.t rfl ?_ | refine Br.f rfl ?_ | refine Fit.au ?_ | refine Cv.au ?_ | refine Need.ne ?_ | refine Need.au ?_ | refine Pick.map (by assumption) ?_ | refine Pick.mapI (by omega) (by assumption) ?_ | refine PickN.mk _ (by assumption) ?_ | refine PickN.mk _ rfl ?_ | refine PickN.au ?_ | refine App.au rfl ?_ | refine App.au (own_map (fun _ => rfl) _) ?_ | refine Both.mk ?_ ?_ | exact True.intro
  refine Br.nd (fun h8 => ?_) (fun h8 => ?_)
  · repeat' first | refine Len.map ?_ | refine Len.nil ?_ | refine Len.cons ?_ | refine Br.t rfl ?_ | refine Br.f rfl ?_ | refine Fit.au ?_ | refine Cv.au ?_ | refine Need.ne ?_ | refine Need.au ?_ | refine Pick.map (by assumption) ?_ | refine Pick.mapI (by omega) (by assumption) ?_ | refine PickN.mk _ (by assumption) ?_ | refine PickN.mk _ rfl ?_ | refine PickN.au ?_ | refine App.au rfl ?_ | refine App.au (own_map (fun _ => rfl) _) ?_ | refine Both.mk ?_ ?_ | exact True.intro
    rw [bad2 (by omega) fun h => h8 (em.1 h).2.2.2]; rfl
  have hm : mainP p := em.2 ⟨h5, by omega, by rw [ex]; exact h7, h8⟩
  have hit := fun n w => checkE_hit (p := p) (n := n) (w := w) (by omega) (by omega) hm
  clear bad bad2 hmain em
  repeat' first | refine Len.map ?_ | refine Len.nil ?_ | refine Len.cons ?_ | refine Br.t rfl ?_ | refine Br.f rfl ?_ | refine Fit.au ?_ | refine Cv.au ?_ | refine Need.ne ?_ | refine Need.au ?_ | refine Pick.map (by assumption) ?_ | refine Pick.mapI (by omega) (by assumption) ?_ | refine PickN.mk _ (by assumption) ?_ | refine PickN.mk _ rfl ?_ | refine PickN.au ?_ | refine App.au rfl ?_ | refine App.au (own_map (fun _ => rfl) _) ?_ | refine Both.mk ?_ ?_ | exact True.intro
  refine Stop.mk (loop_in (fun n : Nat => [(1, .hp 0 0), (2, .hp 1 0), (3, num n)]) (fun _ => [(0, .var p.cs), (1, .var z4)]) 2 (fun n => n ≤ p.funcs.length ∧ firstN (funE p) n = none) (fun n => p.funcs.length - n) 0 ⟨by omega, rfl⟩ (g := []) ⟨rfl, (by repeat' first | exact trivial | refine ⟨rfl, ?_⟩ | refine ⟨congrArg (fun n => AV.lit (.int .i64 n)) (by omega), ?_⟩ | refine ⟨congrArg (fun l => some (Row.row 1 l)) (by simp [int1, num, tru]), ?_⟩), (by repeat' first | exact trivial | refine ⟨rfl, ?_⟩ | refine ⟨congrArg (fun n => AV.lit (.int .i64 n)) (by omega), ?_⟩ | refine ⟨congrArg (fun l => some (Row.row 1 l)) (by simp [int1, num, tru]), ?_⟩)⟩ (fun n hn ih => ?_))
  obtain ⟨hn, hw⟩ := hn
  refine go 1000 Tryd.func26 ?_
  repeat' first | refine Len.map ?_ | refine Len.nil ?_ | refine Len.cons ?_ | refine Br.t rfl ?_ | refine Br.f rfl ?_ | refine Fit.au ?_ | refine Cv.au ?_ | refine Need.ne ?_ | refine Need.au ?_ | refine Pick.map (by assumption) ?_ | refine Pick.mapI (by omega) (by assumption) ?_ | refine PickN.mk _ (by assumption) ?_ | refine PickN.mk _ rfl ?_ | refine PickN.au ?_ | refine App.au rfl ?_ | refine App.au (own_map (fun _ => rfl) _) ?_ | refine Both.mk ?_ ?_ | exact True.intro
  refine Br.d (fun g1 => ?_) (fun g1 => ?_)
  · obtain ⟨f, gf, gm⟩ := getK (l := p.funcs) (k := n) (by omega)
    have hf := hp.2.2 f gm
    obtain ⟨s1, s2, s3⟩ := hs.2 f gm
    have hf1 := hf.1
    have hit := fun w => hit n w hw (by omega)
    repeat' first | refine Call.eq (head_spec f hf s1) rfl ?_ | refine Len.map ?_ | refine Len.nil ?_ | refine Len.cons ?_ | refine Br.t rfl ?_ | refine Br.f rfl ?_ | refine Fit.au ?_ | refine Cv.au ?_ | refine Need.ne ?_ | refine Need.au ?_ | refine Pick.map (by assumption) ?_ | refine Pick.mapI (by omega) (by assumption) ?_ | refine PickN.mk _ (by assumption) ?_ | refine PickN.mk _ rfl ?_ | refine PickN.au ?_ | refine App.au rfl ?_ | refine App.au (own_map (fun _ => rfl) _) ?_ | refine Both.mk ?_ ?_ | exact True.intro
    refine Br.nd (fun g2 => ?_) (fun g2 => ?_)
    · repeat' first | refine Len.map ?_ | refine Len.nil ?_ | refine Len.cons ?_ | refine Br.t rfl ?_ | refine Br.f rfl ?_ | refine Fit.au ?_ | refine Cv.au ?_ | refine Need.ne ?_ | refine Need.au ?_ | refine Pick.map (by assumption) ?_ | refine Pick.mapI (by omega) (by assumption) ?_ | refine PickN.mk _ (by assumption) ?_ | refine PickN.mk _ rfl ?_ | refine PickN.au ?_ | refine App.au rfl ?_ | refine App.au (own_map (fun _ => rfl) _) ?_ | refine Both.mk ?_ ?_ | exact True.intro
      rw [hit _ (funE_head gf g2)]; rfl
    rw [funE_first gf g2] at hit
    repeat' first | refine Len.map ?_ | refine Len.nil ?_ | refine Len.cons ?_ | refine Br.t rfl ?_ | refine Br.f rfl ?_ | refine Fit.au ?_ | refine Cv.au ?_ | refine Need.ne ?_ | refine Need.au ?_ | refine Pick.map (by assumption) ?_ | refine Pick.mapI (by omega) (by assumption) ?_ | refine PickN.mk _ (by assumption) ?_ | refine PickN.mk _ rfl ?_ | refine PickN.au ?_ | refine App.au rfl ?_ | refine App.au (own_map (fun _ => rfl) _) ?_ | refine Both.mk ?_ ?_ | exact True.intro
    refine Stop.mk (loop_in (fun k : Nat => [(1, .hp 0 0), (2, .hp 1 0), (3, num n), (4, .hp 2 0), (6, num k)]) (fun _ => [(0, .var p.cs), (1, .var z4), (2, .var f.cs)]) 3 (fun k => k ≤ f.blocks.length ∧ firstN (blkE p f n) k = none) (fun k => f.blocks.length - k) 0 ⟨by omega, rfl⟩ (g := []) ⟨rfl, (by repeat' first | exact trivial | refine ⟨rfl, ?_⟩ | refine ⟨congrArg (fun n => AV.lit (.int .i64 n)) (by omega), ?_⟩ | refine ⟨congrArg (fun l => some (Row.row 1 l)) (by simp [int1, num, tru]), ?_⟩), (by repeat' first | exact trivial | refine ⟨rfl, ?_⟩ | refine ⟨congrArg (fun n => AV.lit (.int .i64 n)) (by omega), ?_⟩ | refine ⟨congrArg (fun l => some (Row.row 1 l)) (by simp [int1, num, tru]), ?_⟩)⟩ (fun k hk ih2 => ?_))
    obtain ⟨hk, hw2⟩ := hk
    refine go 1000 Tryd.func26 ?_
    repeat' first | refine Len.map ?_ | refine Len.nil ?_ | refine Len.cons ?_ | refine Br.t rfl ?_ | refine Br.f rfl ?_ | refine Fit.au ?_ | refine Cv.au ?_ | refine Need.ne ?_ | refine Need.au ?_ | refine Pick.map (by assumption) ?_ | refine Pick.mapI (by omega) (by assumption) ?_ | refine PickN.mk _ (by assumption) ?_ | refine PickN.mk _ rfl ?_ | refine PickN.au ?_ | refine App.au rfl ?_ | refine App.au (own_map (fun _ => rfl) _) ?_ | refine Both.mk ?_ ?_ | exact True.intro
    refine Br.d (fun g3 => ?_) (fun g3 => ?_)
    · obtain ⟨b, gb, gbm⟩ := getK (l := f.blocks) (k := k) (by omega)
      obtain ⟨hb1, hb2⟩ := hf.2.2 b gbm
      repeat' first | refine Len.map ?_ | refine Len.nil ?_ | refine Len.cons ?_ | refine Br.t rfl ?_ | refine Br.f rfl ?_ | refine Fit.au ?_ | refine Cv.au ?_ | refine Need.ne ?_ | refine Need.au ?_ | refine Pick.map (by assumption) ?_ | refine Pick.mapI (by omega) (by assumption) ?_ | refine PickN.mk _ (by assumption) ?_ | refine PickN.mk _ rfl ?_ | refine PickN.au ?_ | refine App.au rfl ?_ | refine App.au (own_map (fun _ => rfl) _) ?_ | refine Both.mk ?_ ?_ | exact True.intro
      refine Br.d (fun g4 => ?_) (fun g4 => ?_)
      · repeat' first | refine Len.map ?_ | refine Len.nil ?_ | refine Len.cons ?_ | refine Br.t rfl ?_ | refine Br.f rfl ?_ | refine Fit.au ?_ | refine Cv.au ?_ | refine Need.ne ?_ | refine Need.au ?_ | refine Pick.map (by assumption) ?_ | refine Pick.mapI (by omega) (by assumption) ?_ | refine PickN.mk _ (by assumption) ?_ | refine PickN.mk _ rfl ?_ | refine PickN.au ?_ | refine App.au rfl ?_ | refine App.au (own_map (fun _ => rfl) _) ?_ | refine Both.mk ?_ ?_ | exact True.intro
        rw [hit _ (firstN_hit hw2 (blkE_empty gb (by omega)) (by omega))]; rfl
      have hbe : blkE p f n k = firstN (insW p f n k b) b.length := blkE_first gb (by omega)
      repeat' first | refine Len.map ?_ | refine Len.nil ?_ | refine Len.cons ?_ | refine Br.t rfl ?_ | refine Br.f rfl ?_ | refine Fit.au ?_ | refine Cv.au ?_ | refine Need.ne ?_ | refine Need.au ?_ | refine Pick.map (by assumption) ?_ | refine Pick.mapI (by omega) (by assumption) ?_ | refine PickN.mk _ (by assumption) ?_ | refine PickN.mk _ rfl ?_ | refine PickN.au ?_ | refine App.au rfl ?_ | refine App.au (own_map (fun _ => rfl) _) ?_ | refine Both.mk ?_ ?_ | exact True.intro
      refine Stop.mk (loop_in (fun j : Nat => [(1, .hp 0 0), (2, .hp 1 0), (3, num n), (4, .hp 2 0), (6, num k), (7, num j)]) (fun _ => [(0, .var p.cs), (1, .var z4), (2, .var f.cs)]) 3 (fun j => j ≤ b.length ∧ firstN (insW p f n k b) j = none) (fun j => b.length - j) 0 ⟨by omega, rfl⟩ (g := []) ⟨rfl, (by repeat' first | exact trivial | refine ⟨rfl, ?_⟩ | refine ⟨congrArg (fun n => AV.lit (.int .i64 n)) (by omega), ?_⟩ | refine ⟨congrArg (fun l => some (Row.row 1 l)) (by simp [int1, num, tru]), ?_⟩), (by repeat' first | exact trivial | refine ⟨rfl, ?_⟩ | refine ⟨congrArg (fun n => AV.lit (.int .i64 n)) (by omega), ?_⟩ | refine ⟨congrArg (fun l => some (Row.row 1 l)) (by simp [int1, num, tru]), ?_⟩)⟩ (fun j hj ih3 => ?_))
      obtain ⟨hj, hw3⟩ := hj
      refine go 1000 Tryd.func26 ?_
      repeat' first | refine Len.map ?_ | refine Len.nil ?_ | refine Len.cons ?_ | refine Br.t rfl ?_ | refine Br.f rfl ?_ | refine Fit.au ?_ | refine Cv.au ?_ | refine Need.ne ?_ | refine Need.au ?_ | refine Pick.map (by assumption) ?_ | refine Pick.mapI (by omega) (by assumption) ?_ | refine PickN.mk _ (by assumption) ?_ | refine PickN.mk _ rfl ?_ | refine PickN.au ?_ | refine App.au rfl ?_ | refine App.au (own_map (fun _ => rfl) _) ?_ | refine Both.mk ?_ ?_ | exact True.intro
      refine Br.d (fun g5 => ?_) (fun g5 => ?_)
      · obtain ⟨i, gi, gim⟩ := getK (l := b) (k := j) (by omega)
        repeat' first | refine Call.eq (one16_spec p f k j b i gb gi hp hf (s3 b gbm i gim) hreg) rfl ?_ | refine Len.map ?_ | refine Len.nil ?_ | refine Len.cons ?_ | refine Br.t rfl ?_ | refine Br.f rfl ?_ | refine Fit.au ?_ | refine Cv.au ?_ | refine Need.ne ?_ | refine Need.au ?_ | refine Pick.map (by assumption) ?_ | refine Pick.mapI (by omega) (by assumption) ?_ | refine PickN.mk _ (by assumption) ?_ | refine PickN.mk _ rfl ?_ | refine PickN.au ?_ | refine App.au rfl ?_ | refine App.au (own_map (fun _ => rfl) _) ?_ | refine Both.mk ?_ ?_ | exact True.intro
        refine Br.nd (fun g6 => ?_) (fun g6 => ?_)
        · repeat' first | refine Len.map ?_ | refine Len.nil ?_ | refine Len.cons ?_ | refine Br.t rfl ?_ | refine Br.f rfl ?_ | refine Fit.au ?_ | refine Cv.au ?_ | refine Need.ne ?_ | refine Need.au ?_ | refine Pick.map (by assumption) ?_ | refine Pick.mapI (by omega) (by assumption) ?_ | refine PickN.mk _ (by assumption) ?_ | refine PickN.mk _ rfl ?_ | refine PickN.au ?_ | refine App.au rfl ?_ | refine App.au (own_map (fun _ => rfl) _) ?_ | refine Both.mk ?_ ?_ | exact True.intro
          rw [hit _ (firstN_hit hw2 (by rw [hbe]; exact firstN_hit hw3 (insW_some gi g6) (by omega)) (by omega))]; rfl
        · repeat' first | refine Len.map ?_ | refine Len.nil ?_ | refine Len.cons ?_ | refine Br.t rfl ?_ | refine Br.f rfl ?_ | refine Fit.au ?_ | refine Cv.au ?_ | refine Need.ne ?_ | refine Need.au ?_ | refine Pick.map (by assumption) ?_ | refine Pick.mapI (by omega) (by assumption) ?_ | refine PickN.mk _ (by assumption) ?_ | refine PickN.mk _ rfl ?_ | refine PickN.au ?_ | refine App.au rfl ?_ | refine App.au (own_map (fun _ => rfl) _) ?_ | refine Both.mk ?_ ?_ | exact True.intro
          exact Stop.mk (ih3 (j + 1) (g := []) _ _ _ ⟨by omega, firstN_next hw3 (insW_none gi g6)⟩ (by omega) ⟨rfl, (by repeat' first | exact trivial | refine ⟨rfl, ?_⟩ | refine ⟨congrArg (fun n => AV.lit (.int .i64 n)) (by omega), ?_⟩ | refine ⟨congrArg (fun l => some (Row.row 1 l)) (by simp [int1, num, tru]), ?_⟩), (by repeat' first | exact trivial | refine ⟨rfl, ?_⟩ | refine ⟨congrArg (fun n => AV.lit (.int .i64 n)) (by omega), ?_⟩ | refine ⟨congrArg (fun l => some (Row.row 1 l)) (by simp [int1, num, tru]), ?_⟩)⟩)
      · repeat' first | refine Len.map ?_ | refine Len.nil ?_ | refine Len.cons ?_ | refine Br.t rfl ?_ | refine Br.f rfl ?_ | refine Fit.au ?_ | refine Cv.au ?_ | refine Need.ne ?_ | refine Need.au ?_ | refine Pick.map (by assumption) ?_ | refine Pick.mapI (by omega) (by assumption) ?_ | refine PickN.mk _ (by assumption) ?_ | refine PickN.mk _ rfl ?_ | refine PickN.au ?_ | refine App.au rfl ?_ | refine App.au (own_map (fun _ => rfl) _) ?_ | refine Both.mk ?_ ?_ | exact True.intro
        have ej : j = b.length := by omega
        subst ej
        exact Stop.mk (ih2 (k + 1) (g := []) _ _ _ ⟨by omega, firstN_next hw2 (by rw [hbe]; exact hw3)⟩ (by omega) ⟨rfl, (by repeat' first | exact trivial | refine ⟨rfl, ?_⟩ | refine ⟨congrArg (fun n => AV.lit (.int .i64 n)) (by omega), ?_⟩ | refine ⟨congrArg (fun l => some (Row.row 1 l)) (by simp [int1, num, tru]), ?_⟩), (by repeat' first | exact trivial | refine ⟨rfl, ?_⟩ | refine ⟨congrArg (fun n => AV.lit (.int .i64 n)) (by omega), ?_⟩ | refine ⟨congrArg (fun l => some (Row.row 1 l)) (by simp [int1, num, tru]), ?_⟩)⟩)
    · repeat' first | refine Len.map ?_ | refine Len.nil ?_ | refine Len.cons ?_ | refine Br.t rfl ?_ | refine Br.f rfl ?_ | refine Fit.au ?_ | refine Cv.au ?_ | refine Need.ne ?_ | refine Need.au ?_ | refine Pick.map (by assumption) ?_ | refine Pick.mapI (by omega) (by assumption) ?_ | refine PickN.mk _ (by assumption) ?_ | refine PickN.mk _ rfl ?_ | refine PickN.au ?_ | refine App.au rfl ?_ | refine App.au (own_map (fun _ => rfl) _) ?_ | refine Both.mk ?_ ?_ | exact True.intro
      have ek : k = f.blocks.length := by omega
      subst ek
      exact Stop.mk (ih (n + 1) (g := []) _ _ _ ⟨by omega, firstN_next hw (by rw [funE_first gf g2]; exact hw2)⟩ (by omega) ⟨rfl, (by repeat' first | exact trivial | refine ⟨rfl, ?_⟩ | refine ⟨congrArg (fun n => AV.lit (.int .i64 n)) (by omega), ?_⟩ | refine ⟨congrArg (fun l => some (Row.row 1 l)) (by simp [int1, num, tru]), ?_⟩), (by repeat' first | exact trivial | refine ⟨rfl, ?_⟩ | refine ⟨congrArg (fun n => AV.lit (.int .i64 n)) (by omega), ?_⟩ | refine ⟨congrArg (fun l => some (Row.row 1 l)) (by simp [int1, num, tru]), ?_⟩)⟩)
  · repeat' first | refine Len.map ?_ | refine Len.nil ?_ | refine Len.cons ?_ | refine Br.t rfl ?_ | refine Br.f rfl ?_ | refine Fit.au ?_ | refine Cv.au ?_ | refine Need.ne ?_ | refine Need.au ?_ | refine Pick.map (by assumption) ?_ | refine Pick.mapI (by omega) (by assumption) ?_ | refine PickN.mk _ (by assumption) ?_ | refine PickN.mk _ rfl ?_ | refine PickN.au ?_ | refine App.au rfl ?_ | refine App.au (own_map (fun _ => rfl) _) ?_ | refine Both.mk ?_ ?_ | exact True.intro
    have en : n = p.funcs.length := by omega
    subst en
    have e : checkE p = Wrong.no := by unfold checkE; rw [if_neg (by omega), if_pos hm, hw]; rfl
    rw [e]; rfl
end Go.Proofs.YtdgibhndjdgllaaDoor

/- The check of proper programs, by contracts. -/
namespace Go.Proofs.YtdgibhndjdgllaaDoor
open Go.Ax
set_option maxRecDepth 10000
set_option linter.unusedVariables false

set_option maxHeartbeats 2000000 in
theorem Check34_spec (p : Pro) (hs : p.slim) : FnSpec Tryd.prog 67 [proA p] (fun r => ∃ w : Wrong, r = .agg w.cs ∧ (w.err = 0 → properP p)) := by
  have hp := hs.1
  have hp1 := hp.1
  have hp2 := hp.2.1
  have stop : ∀ a b c e : Int, e ≠ 0 → ∃ w : Wrong, AV.agg [num a, num b, num c, num e] = .agg w.cs ∧ (w.err = 0 → properP p) := fun a b c e he => ⟨⟨a, b, c, e⟩, rfl, fun h => absurd h he⟩
  refine spec_of 1000 Tryd.func67 rfl rfl ?_
  repeat' first | refine Call.eq (Check16_spec p hs) rfl ?_ | refine Len.map ?_ | refine Len.nil ?_ | refine Len.cons ?_ | refine Br.t rfl ?_ | refine Br.f rfl ?_ | refine Fit.au ?_ | refine Cv.au ?_ | refine Need.ne ?_ | refine Need.au ?_ | refine Pick.map (by assumption) ?_ | refine Pick.mapI (by omega) (by assumption) ?_ | refine PickN.mk _ (by assumption) ?_ | refine PickN.mk _ rfl ?_ | refine PickN.au ?_ | refine App.au rfl ?_ | refine App.au (own_map (fun _ => rfl) _) ?_ | refine Both.mk ?_ ?_ | exact True.intro
  refine Br.nd (fun h1 => ?_) (fun h1 => ?_)
  · repeat' first | refine Len.map ?_ | refine Len.nil ?_ | refine Len.cons ?_ | refine Br.t rfl ?_ | refine Br.f rfl ?_ | refine Fit.au ?_ | refine Cv.au ?_ | refine Need.ne ?_ | refine Need.au ?_ | refine Pick.map (by assumption) ?_ | refine Pick.mapI (by omega) (by assumption) ?_ | refine PickN.mk _ (by assumption) ?_ | refine PickN.mk _ rfl ?_ | refine PickN.au ?_ | refine App.au rfl ?_ | refine App.au (own_map (fun _ => rfl) _) ?_ | refine Both.mk ?_ ?_ | exact True.intro
    exact ⟨checkE p, rfl, fun h => absurd h h1⟩
  have hpro := checkE_zero.1 h1
  repeat' first | refine Len.map ?_ | refine Len.nil ?_ | refine Len.cons ?_ | refine Br.t rfl ?_ | refine Br.f rfl ?_ | refine Fit.au ?_ | refine Cv.au ?_ | refine Need.ne ?_ | refine Need.au ?_ | refine Pick.map (by assumption) ?_ | refine Pick.mapI (by omega) (by assumption) ?_ | refine PickN.mk _ (by assumption) ?_ | refine PickN.mk _ rfl ?_ | refine PickN.au ?_ | refine App.au rfl ?_ | refine App.au (own_map (fun _ => rfl) _) ?_ | refine Both.mk ?_ ?_ | exact True.intro
  refine Stop.mk (loop_in (fun n : Nat => [(1, .hp 0 0), (2, .hp 1 0), (4, num n)]) (fun _ => [(0, .var p.cs), (1, .var z4)]) 2 (fun n => n ≤ p.funcs.length ∧ ∀ f ∈ p.funcs.take n, properF f) (fun n => p.funcs.length - n) 0 ⟨by omega, by simp⟩ (g := []) ⟨rfl, (by repeat' first | exact trivial | refine ⟨rfl, ?_⟩ | refine ⟨congrArg (fun n => AV.lit (.int .i64 n)) (by omega), ?_⟩ | refine ⟨congrArg (fun l => some (Row.row 1 l)) (by simp [int1, num, tru]), ?_⟩), (by repeat' first | exact trivial | refine ⟨rfl, ?_⟩ | refine ⟨congrArg (fun n => AV.lit (.int .i64 n)) (by omega), ?_⟩ | refine ⟨congrArg (fun l => some (Row.row 1 l)) (by simp [int1, num, tru]), ?_⟩)⟩ (fun n hn ih => ?_))
  obtain ⟨hn, hw⟩ := hn
  refine go 1000 Tryd.func67 ?_
  repeat' first | refine Len.map ?_ | refine Len.nil ?_ | refine Len.cons ?_ | refine Br.t rfl ?_ | refine Br.f rfl ?_ | refine Fit.au ?_ | refine Cv.au ?_ | refine Need.ne ?_ | refine Need.au ?_ | refine Pick.map (by assumption) ?_ | refine Pick.mapI (by omega) (by assumption) ?_ | refine PickN.mk _ (by assumption) ?_ | refine PickN.mk _ rfl ?_ | refine PickN.au ?_ | refine App.au rfl ?_ | refine App.au (own_map (fun _ => rfl) _) ?_ | refine Both.mk ?_ ?_ | exact True.intro
  refine Br.d (fun g1 => ?_) (fun g1 => ?_)
  · obtain ⟨f, gf, gm⟩ := getK (l := p.funcs) (k := n) (by omega)
    have hf := hp.2.2 f gm
    obtain ⟨s1, s2, s3⟩ := hs.2 f gm
    have hf1 := hf.1
    have hfun := hpro.2.2.2 f gm
    have hbl : f.blocks.length ≤ 1000000 := by have := hfun.1.1.2.2.2.2.1; omega
    have ha : ∀ b ∈ f.blocks, ∀ i ∈ b, i.args.length ≤ 1000000 := fun b hb i hi => by have := s3 b hb i hi; omega
    repeat' first | refine Len.map ?_ | refine Len.nil ?_ | refine Len.cons ?_ | refine Br.t rfl ?_ | refine Br.f rfl ?_ | refine Fit.au ?_ | refine Cv.au ?_ | refine Need.ne ?_ | refine Need.au ?_ | refine Pick.map (by assumption) ?_ | refine Pick.mapI (by omega) (by assumption) ?_ | refine PickN.mk _ (by assumption) ?_ | refine PickN.mk _ rfl ?_ | refine PickN.au ?_ | refine App.au rfl ?_ | refine App.au (own_map (fun _ => rfl) _) ?_ | refine Both.mk ?_ ?_ | exact True.intro
    refine Call.of (Reach_spec f hf hbl) ?_
    rintro r ⟨l, rfl, hl⟩
    refine ⟨rfl, ?_⟩
    have hll := hl.1
    rw [succsF_len] at hll
    repeat' first | refine Len.map ?_ | refine Len.nil ?_ | refine Len.cons ?_ | refine Br.t rfl ?_ | refine Br.f rfl ?_ | refine Fit.au ?_ | refine Cv.au ?_ | refine Need.ne ?_ | refine Need.au ?_ | refine Pick.map (by assumption) ?_ | refine Pick.mapI (by omega) (by assumption) ?_ | refine PickN.mk _ (by assumption) ?_ | refine PickN.mk _ rfl ?_ | refine PickN.au ?_ | refine App.au rfl ?_ | refine App.au (own_map (fun _ => rfl) _) ?_ | refine Both.mk ?_ ?_ | exact True.intro
    refine Stop.mk (loop_in (fun k : Nat => [(1, .hp 0 0), (2, .hp 1 0), (4, num n), (5, .hp 2 0), (6, .hw 3), (7, num k)]) (fun _ => [(0, .var p.cs), (1, .var z4), (2, .var f.cs), (3, .row 1 (l.map tb))]) 4 (fun k => k ≤ f.blocks.length ∧ ∀ k' : Nat, k' < k → Reaches (succsF f) (-1) k' ∧ ∀ b, f.blocks[k']? = some b → ∀ (j : Nat) (i : Ins), b[j]? = some i → (0 ≤ def15 i → f.params ≤ def15 i ∧ FirstAt f (def15 i) k' j) ∧ (i.op ≠ 44 → ∀ u ∈ usesF i, HasP f u k' j)) (fun k => f.blocks.length - k) 0 ⟨by omega, fun k' h => by omega⟩ (g := []) ⟨rfl, (by repeat' first | exact trivial | refine ⟨rfl, ?_⟩ | refine ⟨congrArg (fun n => AV.lit (.int .i64 n)) (by omega), ?_⟩ | refine ⟨congrArg (fun l => some (Row.row 1 l)) (by simp [int1, num, tru]), ?_⟩), (by repeat' first | exact trivial | refine ⟨rfl, ?_⟩ | refine ⟨congrArg (fun n => AV.lit (.int .i64 n)) (by omega), ?_⟩ | refine ⟨congrArg (fun l => some (Row.row 1 l)) (by simp [int1, num, tru]), ?_⟩)⟩ (fun k hk ih2 => ?_))
    obtain ⟨hk, hw2⟩ := hk
    refine go 1000 Tryd.func67 ?_
    repeat' first | refine Len.map ?_ | refine Len.nil ?_ | refine Len.cons ?_ | refine Br.t rfl ?_ | refine Br.f rfl ?_ | refine Fit.au ?_ | refine Cv.au ?_ | refine Need.ne ?_ | refine Need.au ?_ | refine Pick.map (by assumption) ?_ | refine Pick.mapI (by omega) (by assumption) ?_ | refine PickN.mk _ (by assumption) ?_ | refine PickN.mk _ rfl ?_ | refine PickN.au ?_ | refine App.au rfl ?_ | refine App.au (own_map (fun _ => rfl) _) ?_ | refine Both.mk ?_ ?_ | exact True.intro
    refine Br.d (fun g3 => ?_) (fun g3 => ?_)
    · obtain ⟨b, gb, gbm⟩ := getK (l := f.blocks) (k := k) (by omega)
      obtain ⟨hb1, hb2⟩ := hf.2.2 b gbm
      obtain ⟨v, gv, gvm⟩ := getK (l := l) (k := k) (by omega)
      repeat' first | refine Len.map ?_ | refine Len.nil ?_ | refine Len.cons ?_ | refine Br.t rfl ?_ | refine Br.f rfl ?_ | refine Fit.au ?_ | refine Cv.au ?_ | refine Need.ne ?_ | refine Need.au ?_ | refine Pick.map (by assumption) ?_ | refine Pick.mapI (by omega) (by assumption) ?_ | refine PickN.mk _ (by assumption) ?_ | refine PickN.mk _ rfl ?_ | refine PickN.au ?_ | refine App.au rfl ?_ | refine App.au (own_map (fun _ => rfl) _) ?_ | refine Both.mk ?_ ?_ | exact True.intro
      refine Br.mk (fun g4 => ?_) (fun g4 => ?_)
      · repeat' first | refine Len.map ?_ | refine Len.nil ?_ | refine Len.cons ?_ | refine Br.t rfl ?_ | refine Br.f rfl ?_ | refine Fit.au ?_ | refine Cv.au ?_ | refine Need.ne ?_ | refine Need.au ?_ | refine Pick.map (by assumption) ?_ | refine Pick.mapI (by omega) (by assumption) ?_ | refine PickN.mk _ (by assumption) ?_ | refine PickN.mk _ rfl ?_ | refine PickN.au ?_ | refine App.au rfl ?_ | refine App.au (own_map (fun _ => rfl) _) ?_ | refine Both.mk ?_ ?_ | exact True.intro
        exact stop _ _ _ 5 (by decide)
      have hv : v = true := by simpa using g4
      subst hv
      have hre := (hl.2 k).1 gv
      repeat' first | refine Len.map ?_ | refine Len.nil ?_ | refine Len.cons ?_ | refine Br.t rfl ?_ | refine Br.f rfl ?_ | refine Fit.au ?_ | refine Cv.au ?_ | refine Need.ne ?_ | refine Need.au ?_ | refine Pick.map (by assumption) ?_ | refine Pick.mapI (by omega) (by assumption) ?_ | refine PickN.mk _ (by assumption) ?_ | refine PickN.mk _ rfl ?_ | refine PickN.au ?_ | refine App.au rfl ?_ | refine App.au (own_map (fun _ => rfl) _) ?_ | refine Both.mk ?_ ?_ | exact True.intro
      refine Stop.mk (loop_in (fun j : Nat => [(1, .hp 0 0), (2, .hp 1 0), (4, num n), (5, .hp 2 0), (6, .hw 3), (7, num k), (8, num j)]) (fun _ => [(0, .var p.cs), (1, .var z4), (2, .var f.cs), (3, .row 1 (l.map tb))]) 4 (fun j => j ≤ b.length ∧ ∀ (j' : Nat) (i : Ins), j' < j → b[j']? = some i → (0 ≤ def15 i → f.params ≤ def15 i ∧ FirstAt f (def15 i) k j') ∧ (i.op ≠ 44 → ∀ u ∈ usesF i, HasP f u k j')) (fun j => b.length - j) 0 ⟨by omega, fun j' i h => by omega⟩ (g := []) ⟨rfl, (by repeat' first | exact trivial | refine ⟨rfl, ?_⟩ | refine ⟨congrArg (fun n => AV.lit (.int .i64 n)) (by omega), ?_⟩ | refine ⟨congrArg (fun l => some (Row.row 1 l)) (by simp [int1, num, tru]), ?_⟩), (by repeat' first | exact trivial | refine ⟨rfl, ?_⟩ | refine ⟨congrArg (fun n => AV.lit (.int .i64 n)) (by omega), ?_⟩ | refine ⟨congrArg (fun l => some (Row.row 1 l)) (by simp [int1, num, tru]), ?_⟩)⟩ (fun j hj ih3 => ?_))
      obtain ⟨hj, hw3⟩ := hj
      refine go 1000 Tryd.func67 ?_
      repeat' first | refine Len.map ?_ | refine Len.nil ?_ | refine Len.cons ?_ | refine Br.t rfl ?_ | refine Br.f rfl ?_ | refine Fit.au ?_ | refine Cv.au ?_ | refine Need.ne ?_ | refine Need.au ?_ | refine Pick.map (by assumption) ?_ | refine Pick.mapI (by omega) (by assumption) ?_ | refine PickN.mk _ (by assumption) ?_ | refine PickN.mk _ rfl ?_ | refine PickN.au ?_ | refine App.au rfl ?_ | refine App.au (own_map (fun _ => rfl) _) ?_ | refine Both.mk ?_ ?_ | exact True.intro
      refine Br.d (fun g5 => ?_) (fun g5 => ?_)
      · obtain ⟨i, gi, gim⟩ := getK (l := b) (k := j) (by omega)
        have hone := (hfun.2 k b gb).2 j i gi
        repeat' first | refine Call.eq (Def15_spec i (hb2 i gim)) rfl ?_ | refine Len.map ?_ | refine Len.nil ?_ | refine Len.cons ?_ | refine Br.t rfl ?_ | refine Br.f rfl ?_ | refine Fit.au ?_ | refine Cv.au ?_ | refine Need.ne ?_ | refine Need.au ?_ | refine Pick.map (by assumption) ?_ | refine Pick.mapI (by omega) (by assumption) ?_ | refine PickN.mk _ (by assumption) ?_ | refine PickN.mk _ rfl ?_ | refine PickN.au ?_ | refine App.au rfl ?_ | refine App.au (own_map (fun _ => rfl) _) ?_ | refine Both.mk ?_ ?_ | exact True.intro
        refine Call.of (Writer34_spec f (def15 i) hf hbl) ?_
        rintro r ⟨x, y, w, rfl, hwr⟩
        refine ⟨rfl, ?_⟩
        have first : 0 ≤ def15 i → x = k → y = j → FirstAt f (def15 i) k j := fun h0 ex ey => by
          cases w with
          | true => obtain ⟨k', a', e1, e2, _, h3⟩ := hwr.1 rfl
                    obtain rfl : k = k' := by omega
                    obtain rfl : j = a' := by omega
                    exact h3
          | false => exact absurd ⟨b, i, gb, gi, rfl⟩ ((hwr.2 rfl).2.2 h0 k j)
        have next : (0 ≤ def15 i → f.params ≤ def15 i ∧ FirstAt f (def15 i) k j) → (i.op ≠ 44 → ∀ u ∈ usesF i, HasP f u k j) → ∀ (j' : Nat) (i : Ins), j' < j + 1 → b[j']? = some i → (0 ≤ def15 i → f.params ≤ def15 i ∧ FirstAt f (def15 i) k j') ∧ (i.op ≠ 44 → ∀ u ∈ usesF i, HasP f u k j') := fun h1 h2 j' i' hj' gi' => by
          by_cases e : j' = j
          · subst e; rw [gi] at gi'; cases gi'; exact ⟨h1, h2⟩
          · exact hw3 j' i' (by omega) gi'
        have hph := fun e => phi_preds gb hone e
        repeat' first | refine Len.map ?_ | refine Len.nil ?_ | refine Len.cons ?_ | refine Br.t rfl ?_ | refine Br.f rfl ?_ | refine Fit.au ?_ | refine Cv.au ?_ | refine Need.ne ?_ | refine Need.au ?_ | refine Pick.map (by assumption) ?_ | refine Pick.mapI (by omega) (by assumption) ?_ | refine PickN.mk _ (by assumption) ?_ | refine PickN.mk _ rfl ?_ | refine PickN.au ?_ | refine App.au rfl ?_ | refine App.au (own_map (fun _ => rfl) _) ?_ | refine Both.mk ?_ ?_ | exact True.intro | (refine Br.d (fun h => ?_) (fun h => ?_) <;> try (exfalso; omega)) | (refine Br.nd (fun h => ?_) (fun h => ?_) <;> try (exfalso; omega)) | (refine Br.mk (fun h => ?_) (fun h => ?_) <;> try (exfalso; omega))
        all_goals first
          | exact stop _ _ _ 10 (by decide)
          | (refine Call.of (reads34_spec f k j b i gb gi hf hbl ha hph) ?_
             rintro r ⟨v2, rfl, hv2⟩
             refine ⟨rfl, ?_⟩
             repeat' first | refine Len.map ?_ | refine Len.nil ?_ | refine Len.cons ?_ | refine Br.t rfl ?_ | refine Br.f rfl ?_ | refine Fit.au ?_ | refine Cv.au ?_ | refine Need.ne ?_ | refine Need.au ?_ | refine Pick.map (by assumption) ?_ | refine Pick.mapI (by omega) (by assumption) ?_ | refine PickN.mk _ (by assumption) ?_ | refine PickN.mk _ rfl ?_ | refine PickN.au ?_ | refine App.au rfl ?_ | refine App.au (own_map (fun _ => rfl) _) ?_ | refine Both.mk ?_ ?_ | exact True.intro
             refine Br.mk (fun g6 => ?_) (fun g6 => ?_)
             · repeat' first | refine Len.map ?_ | refine Len.nil ?_ | refine Len.cons ?_ | refine Br.t rfl ?_ | refine Br.f rfl ?_ | refine Fit.au ?_ | refine Cv.au ?_ | refine Need.ne ?_ | refine Need.au ?_ | refine Pick.map (by assumption) ?_ | refine Pick.mapI (by omega) (by assumption) ?_ | refine PickN.mk _ (by assumption) ?_ | refine PickN.mk _ rfl ?_ | refine PickN.au ?_ | refine App.au rfl ?_ | refine App.au (own_map (fun _ => rfl) _) ?_ | refine Both.mk ?_ ?_ | exact True.intro
               exact stop _ _ _ 9 (by decide)
             · have hv2 := hv2 (by simpa using g6)
               repeat' first | refine Len.map ?_ | refine Len.nil ?_ | refine Len.cons ?_ | refine Br.t rfl ?_ | refine Br.f rfl ?_ | refine Fit.au ?_ | refine Cv.au ?_ | refine Need.ne ?_ | refine Need.au ?_ | refine Pick.map (by assumption) ?_ | refine Pick.mapI (by omega) (by assumption) ?_ | refine PickN.mk _ (by assumption) ?_ | refine PickN.mk _ rfl ?_ | refine PickN.au ?_ | refine App.au rfl ?_ | refine App.au (own_map (fun _ => rfl) _) ?_ | refine Both.mk ?_ ?_ | exact True.intro
               have hnx := next (fun h0 => by
                 first
                   | exact ⟨by omega, first h0 (by omega) (by omega)⟩
                   | (exfalso; omega)) hv2
               exact Stop.mk (ih3 (j + 1) (g := []) _ _ _ ⟨by omega, hnx⟩ (by omega) ⟨rfl, (by repeat' first | exact trivial | refine ⟨rfl, ?_⟩ | refine ⟨congrArg (fun n => AV.lit (.int .i64 n)) (by omega), ?_⟩ | refine ⟨congrArg (fun l => some (Row.row 1 l)) (by simp [int1, num, tru]), ?_⟩), (by repeat' first | exact trivial | refine ⟨rfl, ?_⟩ | refine ⟨congrArg (fun n => AV.lit (.int .i64 n)) (by omega), ?_⟩ | refine ⟨congrArg (fun l => some (Row.row 1 l)) (by simp [int1, num, tru]), ?_⟩)⟩))
      · repeat' first | refine Len.map ?_ | refine Len.nil ?_ | refine Len.cons ?_ | refine Br.t rfl ?_ | refine Br.f rfl ?_ | refine Fit.au ?_ | refine Cv.au ?_ | refine Need.ne ?_ | refine Need.au ?_ | refine Pick.map (by assumption) ?_ | refine Pick.mapI (by omega) (by assumption) ?_ | refine PickN.mk _ (by assumption) ?_ | refine PickN.mk _ rfl ?_ | refine PickN.au ?_ | refine App.au rfl ?_ | refine App.au (own_map (fun _ => rfl) _) ?_ | refine Both.mk ?_ ?_ | exact True.intro
        refine Stop.mk (ih2 (k + 1) (g := []) _ _ _ ⟨by omega, fun k' hk' => ?_⟩ (by omega) ⟨rfl, (by repeat' first | exact trivial | refine ⟨rfl, ?_⟩ | refine ⟨congrArg (fun n => AV.lit (.int .i64 n)) (by omega), ?_⟩ | refine ⟨congrArg (fun l => some (Row.row 1 l)) (by simp [int1, num, tru]), ?_⟩), (by repeat' first | exact trivial | refine ⟨rfl, ?_⟩ | refine ⟨congrArg (fun n => AV.lit (.int .i64 n)) (by omega), ?_⟩ | refine ⟨congrArg (fun l => some (Row.row 1 l)) (by simp [int1, num, tru]), ?_⟩)⟩)
        by_cases e : k' = k
        · subst e
          refine ⟨hre, fun b' gb' j' i' gi' => ?_⟩
          rw [gb] at gb'; cases gb'
          have := (List.getElem?_eq_some_iff.1 gi').1
          exact hw3 j' i' (by omega) gi'
        · exact hw2 k' (by omega)
    · repeat' first | refine Len.map ?_ | refine Len.nil ?_ | refine Len.cons ?_ | refine Br.t rfl ?_ | refine Br.f rfl ?_ | refine Fit.au ?_ | refine Cv.au ?_ | refine Need.ne ?_ | refine Need.au ?_ | refine Pick.map (by assumption) ?_ | refine Pick.mapI (by omega) (by assumption) ?_ | refine PickN.mk _ (by assumption) ?_ | refine PickN.mk _ rfl ?_ | refine PickN.au ?_ | refine App.au rfl ?_ | refine App.au (own_map (fun _ => rfl) _) ?_ | refine Both.mk ?_ ?_ | exact True.intro
      refine Stop.mk (ih (n + 1) (g := []) _ _ _ ⟨by omega, all_take_succ gf hw ⟨fun k' hk' => (hw2 k' (by omega)).1, fun k' b' gb' => (hw2 k' ?_).2 b' gb'⟩⟩ (by omega) ⟨rfl, (by repeat' first | exact trivial | refine ⟨rfl, ?_⟩ | refine ⟨congrArg (fun n => AV.lit (.int .i64 n)) (by omega), ?_⟩ | refine ⟨congrArg (fun l => some (Row.row 1 l)) (by simp [int1, num, tru]), ?_⟩), (by repeat' first | exact trivial | refine ⟨rfl, ?_⟩ | refine ⟨congrArg (fun n => AV.lit (.int .i64 n)) (by omega), ?_⟩ | refine ⟨congrArg (fun l => some (Row.row 1 l)) (by simp [int1, num, tru]), ?_⟩)⟩)
      have := (List.getElem?_eq_some_iff.1 gb').1
      omega
  · repeat' first | refine Len.map ?_ | refine Len.nil ?_ | refine Len.cons ?_ | refine Br.t rfl ?_ | refine Br.f rfl ?_ | refine Fit.au ?_ | refine Cv.au ?_ | refine Need.ne ?_ | refine Need.au ?_ | refine Pick.map (by assumption) ?_ | refine Pick.mapI (by omega) (by assumption) ?_ | refine PickN.mk _ (by assumption) ?_ | refine PickN.mk _ rfl ?_ | refine PickN.au ?_ | refine App.au rfl ?_ | refine App.au (own_map (fun _ => rfl) _) ?_ | refine Both.mk ?_ ?_ | exact True.intro
    rw [take_all (by omega)] at hw
    exact ⟨Wrong.no, rfl, fun _ => ⟨hpro, hw⟩⟩

theorem Proper_spec (p : Pro) (hs : p.slim) : FnSpec Tryd.prog 39 [proA p] (fun r => ∃ v, r = tru v ∧ (v = true → properP p)) := by
  refine spec_of 1000 Tryd.func39 rfl rfl ?_
  repeat' first | refine Len.map ?_ | refine Len.nil ?_ | refine Len.cons ?_ | refine Br.t rfl ?_ | refine Br.f rfl ?_ | refine Fit.au ?_ | refine Cv.au ?_ | refine Need.ne ?_ | refine Need.au ?_ | refine Pick.map (by assumption) ?_ | refine Pick.mapI (by omega) (by assumption) ?_ | refine PickN.mk _ (by assumption) ?_ | refine PickN.mk _ rfl ?_ | refine PickN.au ?_ | refine App.au rfl ?_ | refine App.au (own_map (fun _ => rfl) _) ?_ | refine Both.mk ?_ ?_ | exact True.intro
  refine Call.of (Check34_spec p hs) ?_
  rintro r ⟨w, rfl, hw⟩
  refine ⟨rfl, ?_⟩
  repeat' first | refine Len.map ?_ | refine Len.nil ?_ | refine Len.cons ?_ | refine Br.t rfl ?_ | refine Br.f rfl ?_ | refine Fit.au ?_ | refine Cv.au ?_ | refine Need.ne ?_ | refine Need.au ?_ | refine Pick.map (by assumption) ?_ | refine Pick.mapI (by omega) (by assumption) ?_ | refine PickN.mk _ (by assumption) ?_ | refine PickN.mk _ rfl ?_ | refine PickN.au ?_ | refine App.au rfl ?_ | refine App.au (own_map (fun _ => rfl) _) ?_ | refine Both.mk ?_ ?_ | exact True.intro
  exact ⟨_, rfl, fun h => hw (by simpa using h)⟩
end Go.Proofs.YtdgibhndjdgllaaDoor
