/- The law LoopTells as a function. -/
import Derived.Test.YtbmiffgfmlkdnaaBF82
import Derived.Test.YtbmiffgfmlkdnaaBF74
import Derived.Test.YtbmiffgfmlkdnaaG17
import Derived.Test.YtbmiffgfmlkdnaaG15
set_option linter.unusedVariables false
set_option linter.unusedSimpArgs false

namespace Go.Proofs.Ytbmiffgfmlkdnaa
open Go.Ax
set_option maxRecDepth 10000
set_option linter.unusedVariables false

theorem few14_spec (f : Fun) (hf : f.fits) (hl : f.blocks.length ≤ 1000 → f.count ≤ 100000000000000000) : FnSpec Try.prog 14 [funA f] (fun r => ∃ v, r = tru v ∧ (v = true → f.blocks.length ≤ 40 ∧ f.count ≤ 300)) := by
  refine spec_of 1000 Try.func14 rfl rfl ?_
  repeat' first | (refine Call.of (Few65_spec f hf hl) ?_; rintro r ⟨v, rfl, hv⟩; refine ⟨rfl, ?_⟩) | refine Len.map ?_ | refine Len.nil ?_ | refine Len.cons ?_ | refine Br.t rfl ?_ | refine Br.f rfl ?_ | refine Fit.au ?_ | refine Cv.au ?_ | refine Need.ne ?_ | refine Need.au ?_ | refine Pick.map (by assumption) ?_ | refine Pick.mapI (by omega) (by assumption) ?_ | refine PickN.mk _ (by assumption) ?_ | refine PickN.mk _ rfl ?_ | refine PickN.au ?_ | refine App.au rfl ?_ | refine App.au (own_map (fun _ => rfl) _) ?_ | refine Both.mk ?_ ?_ | exact True.intro
  cases v with
  | false =>
    repeat' first | refine Len.map ?_ | refine Len.nil ?_ | refine Len.cons ?_ | refine Br.t rfl ?_ | refine Br.f rfl ?_ | refine Fit.au ?_ | refine Cv.au ?_ | refine Need.ne ?_ | refine Need.au ?_ | refine Pick.map (by assumption) ?_ | refine Pick.mapI (by omega) (by assumption) ?_ | refine PickN.mk _ (by assumption) ?_ | refine PickN.mk _ rfl ?_ | refine PickN.au ?_ | refine App.au rfl ?_ | refine App.au (own_map (fun _ => rfl) _) ?_ | refine Both.mk ?_ ?_ | exact True.intro
    exact ⟨false, rfl, fun h => by cases h⟩
  | true =>
    repeat' first | refine Len.map ?_ | refine Len.nil ?_ | refine Len.cons ?_ | refine Br.t rfl ?_ | refine Br.f rfl ?_ | refine Fit.au ?_ | refine Cv.au ?_ | refine Need.ne ?_ | refine Need.au ?_ | refine Pick.map (by assumption) ?_ | refine Pick.mapI (by omega) (by assumption) ?_ | refine PickN.mk _ (by assumption) ?_ | refine PickN.mk _ rfl ?_ | refine PickN.au ?_ | refine App.au rfl ?_ | refine App.au (own_map (fun _ => rfl) _) ?_ | refine Both.mk ?_ ?_ | exact True.intro
    exact ⟨_, rfl, fun _ => hv rfl⟩
def Bare (ls : List Lp1) (i : Nat) : Prop := ∀ (x y : Lp1) (k : Nat), ls[i]? = some x → ls[k]? = some y → liesB y x = false
set_option maxHeartbeats 4000000 in
theorem LoopTells_spec (f : Fun) (hf : f.fits) (hl : f.blocks.length ≤ 1000 → f.count ≤ 100000000000000000) : FnSpec Try.prog 5 [funA f] (fun r => r = tru true) := by
  refine spec_of 15 Try.func5 rfl rfl ?_
  repeat' first | refine Len.map ?_ | refine Len.nil ?_ | refine Len.cons ?_ | refine Br.t rfl ?_ | refine Br.f rfl ?_ | refine Fit.au ?_ | refine Cv.au ?_ | refine Need.ne ?_ | refine Need.au ?_ | refine Pick.map (by assumption) ?_ | refine Pick.mapI (by omega) (by assumption) ?_ | refine PickN.mk _ (by assumption) ?_ | refine PickN.mk _ rfl ?_ | refine PickN.au ?_ | refine App.au rfl ?_ | refine App.au (own_map (fun _ => rfl) _) ?_ | refine Both.mk ?_ ?_ | exact True.intro
  refine Call.of (few14_spec f hf hl) ?_
  rintro r ⟨v, rfl, hv⟩
  refine ⟨rfl, ?_⟩
  repeat' first | refine Len.map ?_ | refine Len.nil ?_ | refine Len.cons ?_ | refine Br.t rfl ?_ | refine Br.f rfl ?_ | refine Fit.au ?_ | refine Cv.au ?_ | refine Need.ne ?_ | refine Need.au ?_ | refine Pick.map (by assumption) ?_ | refine Pick.mapI (by omega) (by assumption) ?_ | refine PickN.mk _ (by assumption) ?_ | refine PickN.mk _ rfl ?_ | refine PickN.au ?_ | refine App.au rfl ?_ | refine App.au (own_map (fun _ => rfl) _) ?_ | refine Both.mk ?_ ?_ | exact True.intro
  refine Br.mk (fun h => ?_) (fun h => ?_)
  · repeat' first | refine Len.map ?_ | refine Len.nil ?_ | refine Len.cons ?_ | refine Br.t rfl ?_ | refine Br.f rfl ?_ | refine Fit.au ?_ | refine Cv.au ?_ | refine Need.ne ?_ | refine Need.au ?_ | refine Pick.map (by assumption) ?_ | refine Pick.mapI (by omega) (by assumption) ?_ | refine PickN.mk _ (by assumption) ?_ | refine PickN.mk _ rfl ?_ | refine PickN.au ?_ | refine App.au rfl ?_ | refine App.au (own_map (fun _ => rfl) _) ?_ | refine Both.mk ?_ ?_ | exact True.intro
    refine Stop.mk ?_
    refine go 1000 Try.func5 ?_
    repeat' first | refine Call.eq works7 rfl ?_ | refine Len.map ?_ | refine Len.nil ?_ | refine Len.cons ?_ | refine Br.t rfl ?_ | refine Br.f rfl ?_ | refine Fit.au ?_ | refine Cv.au ?_ | refine Need.ne ?_ | refine Need.au ?_ | refine Pick.map (by assumption) ?_ | refine Pick.mapI (by omega) (by assumption) ?_ | refine PickN.mk _ (by assumption) ?_ | refine PickN.mk _ rfl ?_ | refine PickN.au ?_ | refine App.au rfl ?_ | refine App.au (own_map (fun _ => rfl) _) ?_ | refine Both.mk ?_ ?_ | exact True.intro
    rfl
  have hn := hv (by simpa using h)
  have hL := Loops8_spec f hf (by omega)
  have hD := Loops15_spec f hf (by omega)
  repeat' first | refine Len.map ?_ | refine Len.nil ?_ | refine Len.cons ?_ | refine Br.t rfl ?_ | refine Br.f rfl ?_ | refine Fit.au ?_ | refine Cv.au ?_ | refine Need.ne ?_ | refine Need.au ?_ | refine Pick.map (by assumption) ?_ | refine Pick.mapI (by omega) (by assumption) ?_ | refine PickN.mk _ (by assumption) ?_ | refine PickN.mk _ rfl ?_ | refine PickN.au ?_ | refine App.au rfl ?_ | refine App.au (own_map (fun _ => rfl) _) ?_ | refine Both.mk ?_ ?_ | exact True.intro
  refine Stop.mk ?_
  apply join (fun ls : List Lp1 => [(1, .hp 0 0), (2, tru false), (3, .hw 1), (4, .hw 2)]) (fun ls => [(0, .var f.cs), (1, .row 4 (ls.map Lp1.cs)), (2, .row 4 (ls.map Lp1.cs))]) 3 (fun ls => OutI (lps (succsF f) f.blocks.length) (lps (succsF f) f.blocks.length).length ls)
  · intro jn
    refine go 2 Try.func5 ?_
    repeat' first | refine Draw.mk (ordL [1, 3] [0, 2, 1, 3, 4, 5]) (by decide +kernel) ?_ | refine Draw.mk (ordL [35, 49, 58, 64, 65, 74, 80, 81] [0, 1, 2, 3, 4, 5, 6, 7, 8, 9, 10, 11, 12, 13, 14, 15, 16, 17, 18, 19, 20, 21, 22, 23, 24, 25, 26, 27, 28, 29, 30, 31, 32, 33, 34, 35, 36, 37, 38, 39, 40, 41, 42, 43, 44, 45, 46, 47, 48, 49, 50, 51, 52, 53, 54, 55, 56, 57, 59, 60, 61, 62, 63, 58, 64, 65, 66, 67, 68, 69, 70, 71, 72, 73, 75, 76, 77, 78, 79, 74, 80, 81, 82, 83]) (by decide +kernel) ?_ | refine Draw.mk (ordL [10] [0, 1, 2, 3, 4, 5, 6, 7, 8, 9, 10, 11, 12, 13]) (by decide +kernel) ?_ | (refine Call.of hL ?_; rintro r ⟨ls, rfl, hO⟩; refine ⟨rfl, ?_⟩) | (refine Call.of hD ?_; rintro r ⟨ms, rfl, hO2⟩; refine ⟨rfl, ?_⟩) | refine Len.map ?_ | refine Len.nil ?_ | refine Len.cons ?_ | refine Br.t rfl ?_ | refine Br.f rfl ?_ | refine Fit.au ?_ | refine Cv.au ?_ | refine Need.ne ?_ | refine Need.au ?_ | refine Pick.map (by assumption) ?_ | refine Pick.mapI (by omega) (by assumption) ?_ | refine PickN.mk _ (by assumption) ?_ | refine PickN.mk _ rfl ?_ | refine PickN.au ?_ | refine App.au rfl ?_ | refine App.au (own_map (fun _ => rfl) _) ?_ | refine Both.mk ?_ ?_ | exact True.intro
    all_goals obtain rfl := hO.eq hO2
    all_goals exact Stop.mk (jn ls (g := []) _ _ _ ⟨rfl, (by repeat' first | exact trivial | refine ⟨rfl, ?_⟩ | refine ⟨congrArg (fun n => AV.lit (.int .i64 n)) (by omega), ?_⟩ | refine ⟨congrArg (fun l => some (Row.row 1 l)) (by simp [int1, num, tru]), ?_⟩), (by repeat' first | exact trivial | refine ⟨rfl, ?_⟩ | refine ⟨congrArg (fun n => AV.lit (.int .i64 n)) (by omega), ?_⟩ | refine ⟨congrArg (fun l => some (Row.row 1 l)) (by simp [int1, num, tru]), ?_⟩)⟩ hO)
  intro ls hO

  refine run_frzR 1 rfl (fzLL_map (enc2 := Lp1.cs) (fun _ => rfl) _) ?_
  refine run_frzR 2 rfl (fzLL_map (enc2 := Lp1.cs) (fun _ => rfl) _) ?_
  have hlen := hO.same.1
  have hlpn := lps_len (succsF f) f.blocks.length
  have hsl := succsF_len f
  have hcl := succsF_closed f
  refine go 1000 Try.func5 ?_
  repeat' first | refine Len.map ?_ | refine Len.nil ?_ | refine Len.cons ?_ | refine Br.t rfl ?_ | refine Br.f rfl ?_ | refine Fit.au ?_ | refine Cv.au ?_ | refine Need.ne ?_ | refine Need.au ?_ | refine Pick.map (by assumption) ?_ | refine Pick.mapI (by omega) (by assumption) ?_ | refine PickN.mk _ (by assumption) ?_ | refine PickN.mk _ rfl ?_ | refine PickN.au ?_ | refine App.au rfl ?_ | refine App.au (own_map (fun _ => rfl) _) ?_ | refine Both.mk ?_ ?_ | exact True.intro
  repeat' first | refine Len.map ?_ | refine Len.nil ?_ | refine Len.cons ?_ | refine Br.t rfl ?_ | refine Br.f rfl ?_ | refine Fit.au ?_ | refine Cv.au ?_ | refine Need.ne ?_ | refine Need.au ?_ | refine Pick.map (by assumption) ?_ | refine Pick.mapI (by omega) (by assumption) ?_ | refine PickN.mk _ (by assumption) ?_ | refine PickN.mk _ rfl ?_ | refine PickN.au ?_ | refine App.au rfl ?_ | refine App.au (own_map (fun _ => rfl) _) ?_ | refine Both.mk ?_ ?_ | exact True.intro
  refine Br.f (by simp) ?_
  repeat' first | refine Len.map ?_ | refine Len.nil ?_ | refine Len.cons ?_ | refine Br.t rfl ?_ | refine Br.f rfl ?_ | refine Fit.au ?_ | refine Cv.au ?_ | refine Need.ne ?_ | refine Need.au ?_ | refine Pick.map (by assumption) ?_ | refine Pick.mapI (by omega) (by assumption) ?_ | refine PickN.mk _ (by assumption) ?_ | refine PickN.mk _ rfl ?_ | refine PickN.au ?_ | refine App.au rfl ?_ | refine App.au (own_map (fun _ => rfl) _) ?_ | refine Both.mk ?_ ?_ | exact True.intro
  refine Stop.mk (loop_in (g := [(1, 3)]) (fun i : Nat => [(1, .hp 0 0), (2, tru false), (3, .sl false 4 (ls.map Lp1.cs)), (4, .sl false 4 (ls.map Lp1.cs)), (5, .hw 1), (6, num i)]) (fun i => [(0, .var f.cs), (1, .row 1 ((filtN i (Bare ls)).map int1))]) 2 (fun i => i ≤ ls.length) (fun i => ls.length - i) 0 (by omega) ⟨rfl, (by repeat' first | exact trivial | refine ⟨rfl, ?_⟩ | refine ⟨congrArg (fun n => AV.lit (.int .i64 n)) (by omega), ?_⟩ | refine ⟨congrArg (fun l => some (Row.row 1 l)) (by simp [int1, num, tru]), ?_⟩), (by repeat' first | exact trivial | refine ⟨rfl, ?_⟩ | refine ⟨congrArg (fun n => AV.lit (.int .i64 n)) (by omega), ?_⟩ | refine ⟨congrArg (fun l => some (Row.row 1 l)) (by simp [int1, num, tru]), ?_⟩)⟩ (fun i hi ih => ?_))
  have hnx := filtN_next i (Bare ls)
  have hfl := filtN_len i (Bare ls)
  generalize hcur : filtN i (Bare ls) = cur at *
  refine go 1000 Try.func5 ?_
  repeat' first | refine Len.map ?_ | refine Len.nil ?_ | refine Len.cons ?_ | refine Br.t rfl ?_ | refine Br.f rfl ?_ | refine Fit.au ?_ | refine Cv.au ?_ | refine Need.ne ?_ | refine Need.au ?_ | refine Pick.map (by assumption) ?_ | refine Pick.mapI (by omega) (by assumption) ?_ | refine PickN.mk _ (by assumption) ?_ | refine PickN.mk _ rfl ?_ | refine PickN.au ?_ | refine App.au rfl ?_ | refine App.au (own_map (fun _ => rfl) _) ?_ | refine Both.mk ?_ ?_ | exact True.intro
  refine Br.d (fun h2 => ?_) (fun h2 => ?_)
  · obtain ⟨x, gx, gxm⟩ := getK (l := ls) (k := i) (by omega)
    obtain ⟨h, c, hh, rfl, hla⟩ := hO.at gx
    have hhl : h < f.blocks.length := by omega
    have hbl := @blkF_len (succsF f) h
    have hll := @latF_len (succsF f) h
    have hbp := @blkF_lt (succsF f) h
    have hbm : ∀ x ∈ blkF (succsF f) h, 0 ≤ x ∧ x < f.blocks.length := fun x hx => by
      obtain ⟨h1, h2, _⟩ := blkF_mem.1 hx
      omega
    have hE := Enters17_spec f h (blkF (succsF f) h) (latF (succsF f) h) c hf (by omega) (by omega)
    have hE2 := Enters18_spec f h (blkF (succsF f) h) (latF (succsF f) h) c hf (by omega) (by omega) hhl
    have hV := Leaves19_spec f h (blkF (succsF f) h) (latF (succsF f) h) c hf (by omega) (by omega)
    have hV2 := Leaves20_spec f h (blkF (succsF f) h) (latF (succsF f) h) c hf (by omega) (by omega) hbp hbm
    have hS1 := SameInts_spec (blkF (succsF f) h) (blkF (succsF f) h) (by omega)
    have hS2 := SameInts_spec (latF (succsF f) h) (latF (succsF f) h) (by omega)
    have hel : (entF (succsF f) h (blkF (succsF f) h)).length ≤ (succsF f).length := filtN_len _ _
    have hvl : (leavF (succsF f) (blkF (succsF f) h)).length ≤ (succsF f).length := filtN_len _ _
    have hS3 := SameInts_spec (entF (succsF f) h (blkF (succsF f) h)) (entF (succsF f) h (blkF (succsF f) h)) (by omega)
    have hS4 := SameInts_spec (leavF (succsF f) (blkF (succsF f) h)) (leavF (succsF f) (blkF (succsF f) h)) (by omega)
    rw [decide_eq_true rfl] at hS1 hS2 hS3 hS4
    have hLs := fun y : Lp1 => Lies21_spec y ⟨h, blkF (succsF f) h, latF (succsF f) h, c⟩ (by dsimp only; omega)
    generalize entF (succsF f) h (blkF (succsF f) h) = en at *
    generalize leavF (succsF f) (blkF (succsF f) h) = lv at *
    generalize latF (succsF f) h = la at *
    generalize blkF (succsF f) h = bl at *
    repeat' first | refine Len.map ?_ | refine Len.nil ?_ | refine Len.cons ?_ | refine Br.t rfl ?_ | refine Br.f rfl ?_ | refine Fit.au ?_ | refine Cv.au ?_ | refine Need.ne ?_ | refine Need.au ?_ | refine Pick.map (by assumption) ?_ | refine Pick.mapI (by omega) (by assumption) ?_ | refine PickN.mk _ (by assumption) ?_ | refine PickN.mk _ rfl ?_ | refine PickN.au ?_ | refine App.au rfl ?_ | refine App.au (own_map (fun _ => rfl) _) ?_ | refine Both.mk ?_ ?_ | exact True.intro
    refine Draw.mk ord5 (by exact sched5) ?_
    repeat' first | refine PickN.map gx ?_ | refine Pick.map gx ?_ | refine Br.f (by simp) ?_ | refine Call.eq hS1 rfl ?_ | refine Call.eq hS2 rfl ?_ | refine Call.eq hE rfl ?_ | refine Call.eq hE2 rfl ?_ | refine Call.eq hV rfl ?_ | refine Call.eq hV2 rfl ?_ | (refine Look.yes (View.mk _ (fzi _) (View.mk _ (fzi _) ?_)); refine CallV.eq hS3 rfl (Free.lit _) ?_) | (refine Look.yes (View.mk _ (fzi _) (View.mk _ (fzi _) ?_)); refine CallV.eq hS4 rfl (Free.lit _) ?_)
    repeat' first | refine Len.map ?_ | refine Len.nil ?_ | refine Len.cons ?_ | refine Br.t rfl ?_ | refine Br.f rfl ?_ | refine Fit.au ?_ | refine Cv.au ?_ | refine Need.ne ?_ | refine Need.au ?_ | refine Pick.map (by assumption) ?_ | refine Pick.mapI (by omega) (by assumption) ?_ | refine PickN.mk _ (by assumption) ?_ | refine PickN.mk _ rfl ?_ | refine PickN.au ?_ | refine App.au rfl ?_ | refine App.au (own_map (fun _ => rfl) _) ?_ | refine Both.mk ?_ ?_ | exact True.intro
    refine Stop.mk (loop_in (g := []) (fun q : Bool × Nat => [(1, .hp 0 0), (2, tru false), (3, .sl false 4 (ls.map Lp1.cs)), (4, .sl false 4 (ls.map Lp1.cs)), (5, .hw 1), (6, num i), (7, tru q.1), (8, num q.2)]) (fun q => [(0, .var f.cs), (1, .row 1 (cur.map int1))]) 2 (fun q => q.2 ≤ ls.length ∧ (q.1 = true ↔ ∀ (k : Nat) (y : Lp1), k < q.2 → ls[k]? = some y → liesB y ⟨h, bl, la, c⟩ = false)) (fun q => ls.length - q.2) (true, 0) ⟨by simp only; omega, fun _ k y hk => by simp only at hk; omega, fun _ => rfl⟩ ⟨rfl, (by repeat' first | exact trivial | refine ⟨rfl, ?_⟩ | refine ⟨congrArg (fun n => AV.lit (.int .i64 n)) (by omega), ?_⟩ | refine ⟨congrArg (fun l => some (Row.row 1 l)) (by simp [int1, num, tru]), ?_⟩), (by repeat' first | exact trivial | refine ⟨rfl, ?_⟩ | refine ⟨congrArg (fun n => AV.lit (.int .i64 n)) (by omega), ?_⟩ | refine ⟨congrArg (fun l => some (Row.row 1 l)) (by simp [int1, num, tru]), ?_⟩)⟩ (fun q hq ih2 => ?_))
    obtain ⟨v, j⟩ := q
    obtain ⟨hj, hv⟩ := hq
    dsimp only at hj hv ih2 ⊢
    refine go 1000 Try.func5 ?_
    repeat' first | refine Len.map ?_ | refine Len.nil ?_ | refine Len.cons ?_ | refine Br.t rfl ?_ | refine Br.f rfl ?_ | refine Fit.au ?_ | refine Cv.au ?_ | refine Need.ne ?_ | refine Need.au ?_ | refine Pick.map (by assumption) ?_ | refine Pick.mapI (by omega) (by assumption) ?_ | refine PickN.mk _ (by assumption) ?_ | refine PickN.mk _ rfl ?_ | refine PickN.au ?_ | refine App.au rfl ?_ | refine App.au (own_map (fun _ => rfl) _) ?_ | refine Both.mk ?_ ?_ | exact True.intro
    refine Br.d (fun h3 => ?_) (fun h3 => ?_)
    · obtain ⟨y, gy, gym⟩ := getK (l := ls) (k := j) (by omega)
      cases v with
      | false =>
        repeat' first | refine Draw.mk (ordL [1, 3] [0, 2, 1, 3, 4, 5]) (by decide +kernel) ?_ | refine Draw.mk (ordL [35, 49, 58, 64, 65, 74, 80, 81] [0, 1, 2, 3, 4, 5, 6, 7, 8, 9, 10, 11, 12, 13, 14, 15, 16, 17, 18, 19, 20, 21, 22, 23, 24, 25, 26, 27, 28, 29, 30, 31, 32, 33, 34, 35, 36, 37, 38, 39, 40, 41, 42, 43, 44, 45, 46, 47, 48, 49, 50, 51, 52, 53, 54, 55, 56, 57, 59, 60, 61, 62, 63, 58, 64, 65, 66, 67, 68, 69, 70, 71, 72, 73, 75, 76, 77, 78, 79, 74, 80, 81, 82, 83]) (by decide +kernel) ?_ | refine Draw.mk (ordL [10] [0, 1, 2, 3, 4, 5, 6, 7, 8, 9, 10, 11, 12, 13]) (by decide +kernel) ?_ | refine Len.map ?_ | refine Len.nil ?_ | refine Len.cons ?_ | refine Br.t rfl ?_ | refine Br.f rfl ?_ | refine Fit.au ?_ | refine Cv.au ?_ | refine Need.ne ?_ | refine Need.au ?_ | refine Pick.map (by assumption) ?_ | refine Pick.mapI (by omega) (by assumption) ?_ | refine PickN.mk _ (by assumption) ?_ | refine PickN.mk _ rfl ?_ | refine PickN.au ?_ | refine App.au rfl ?_ | refine App.au (own_map (fun _ => rfl) _) ?_ | refine Both.mk ?_ ?_ | exact True.intro
        refine Stop.mk (ih2 (false, j + 1) (g := []) _ _ _ ⟨by simp only; omega, fun e => (by cases e), fun e => ?_⟩ (by simp only; omega) ⟨rfl, (by repeat' first | exact trivial | refine ⟨rfl, ?_⟩ | refine ⟨congrArg (fun n => AV.lit (.int .i64 n)) (by omega), ?_⟩ | refine ⟨congrArg (fun l => some (Row.row 1 l)) (by simp [int1, num, tru]), ?_⟩), (by repeat' first | exact trivial | refine ⟨rfl, ?_⟩ | refine ⟨congrArg (fun n => AV.lit (.int .i64 n)) (by omega), ?_⟩ | refine ⟨congrArg (fun l => some (Row.row 1 l)) (by simp [int1, num, tru]), ?_⟩)⟩)
        exact hv.2 fun k y hk => e k y (by simp only; omega)
      | true =>
        have hw := hv.1 rfl
        repeat' first | refine Draw.mk (ordL [1, 3] [0, 2, 1, 3, 4, 5]) (by decide +kernel) ?_ | refine Draw.mk (ordL [35, 49, 58, 64, 65, 74, 80, 81] [0, 1, 2, 3, 4, 5, 6, 7, 8, 9, 10, 11, 12, 13, 14, 15, 16, 17, 18, 19, 20, 21, 22, 23, 24, 25, 26, 27, 28, 29, 30, 31, 32, 33, 34, 35, 36, 37, 38, 39, 40, 41, 42, 43, 44, 45, 46, 47, 48, 49, 50, 51, 52, 53, 54, 55, 56, 57, 59, 60, 61, 62, 63, 58, 64, 65, 66, 67, 68, 69, 70, 71, 72, 73, 75, 76, 77, 78, 79, 74, 80, 81, 82, 83]) (by decide +kernel) ?_ | refine Draw.mk (ordL [10] [0, 1, 2, 3, 4, 5, 6, 7, 8, 9, 10, 11, 12, 13]) (by decide +kernel) ?_ | refine PickN.map gx ?_ | refine PickN.map gy ?_ | refine Call.eq (hLs y) rfl ?_ | refine Len.map ?_ | refine Len.nil ?_ | refine Len.cons ?_ | refine Br.t rfl ?_ | refine Br.f rfl ?_ | refine Fit.au ?_ | refine Cv.au ?_ | refine Need.ne ?_ | refine Need.au ?_ | refine Pick.map (by assumption) ?_ | refine Pick.mapI (by omega) (by assumption) ?_ | refine PickN.mk _ (by assumption) ?_ | refine PickN.mk _ rfl ?_ | refine PickN.au ?_ | refine App.au rfl ?_ | refine App.au (own_map (fun _ => rfl) _) ?_ | refine Both.mk ?_ ?_ | exact True.intro
        refine Stop.mk (ih2 (!liesB y ⟨h, bl, la, c⟩, j + 1) (g := []) _ _ _ ⟨by simp only; omega, fun e k z hk gz => ?_, fun e => ?_⟩ (by simp only; omega) ⟨rfl, (by repeat' first | exact trivial | refine ⟨rfl, ?_⟩ | refine ⟨congrArg (fun n => AV.lit (.int .i64 n)) (by omega), ?_⟩ | refine ⟨congrArg (fun l => some (Row.row 1 l)) (by simp [int1, num, tru]), ?_⟩), (by repeat' first | exact trivial | refine ⟨rfl, ?_⟩ | refine ⟨congrArg (fun n => AV.lit (.int .i64 n)) (by omega), ?_⟩ | refine ⟨congrArg (fun l => some (Row.row 1 l)) (by simp [int1, num, tru]), ?_⟩)⟩)
        · by_cases e2 : k = j
          · subst e2; rw [gy] at gz; cases gz; simpa using e
          · exact hw k z (by simp only at hk; omega) gz
        · rw [e j y (by simp only; omega) gy]; rfl
    · have hB : v = true ↔ Bare ls i := by
        rw [hv]
        constructor
        · intro hw x y k g1 g2
          rw [gx] at g1; cases g1
          exact hw k y (by have := (List.getElem?_eq_some_iff.1 g2).1; omega) g2
        · intro hw k y _ g2
          exact hw _ y k gx g2
      cases v with
      | true =>
        rw [if_pos (cdec_iff.2 (hB.1 rfl))] at hnx
        repeat' first | refine Len.map ?_ | refine Len.nil ?_ | refine Len.cons ?_ | refine Br.t rfl ?_ | refine Br.f rfl ?_ | refine Fit.au ?_ | refine Cv.au ?_ | refine Need.ne ?_ | refine Need.au ?_ | refine Pick.map (by assumption) ?_ | refine Pick.mapI (by omega) (by assumption) ?_ | refine PickN.mk _ (by assumption) ?_ | refine PickN.mk _ rfl ?_ | refine PickN.au ?_ | refine App.au rfl ?_ | refine App.au (own_map (fun _ => rfl) _) ?_ | refine Both.mk ?_ ?_ | exact True.intro
        refine Stop.mk (ih (i + 1) (g := [(1, 3)]) _ _ _ (by omega) (by omega) ?_)
        rw [hnx, List.map_append]
        exact ⟨rfl, (by repeat' first | exact trivial | refine ⟨rfl, ?_⟩ | refine ⟨congrArg (fun n => AV.lit (.int .i64 n)) (by omega), ?_⟩ | refine ⟨congrArg (fun l => some (Row.row 1 l)) (by simp [int1, num, tru]), ?_⟩), (by repeat' first | exact trivial | refine ⟨rfl, ?_⟩ | refine ⟨congrArg (fun n => AV.lit (.int .i64 n)) (by omega), ?_⟩ | refine ⟨congrArg (fun l => some (Row.row 1 l)) (by simp [int1, num, tru]), ?_⟩)⟩
      | false =>
        rw [if_neg (fun h => by have := hB.2 (cdec_iff.1 h); cases this), List.append_nil] at hnx
        repeat' first | refine Len.map ?_ | refine Len.nil ?_ | refine Len.cons ?_ | refine Br.t rfl ?_ | refine Br.f rfl ?_ | refine Fit.au ?_ | refine Cv.au ?_ | refine Need.ne ?_ | refine Need.au ?_ | refine Pick.map (by assumption) ?_ | refine Pick.mapI (by omega) (by assumption) ?_ | refine PickN.mk _ (by assumption) ?_ | refine PickN.mk _ rfl ?_ | refine PickN.au ?_ | refine App.au rfl ?_ | refine App.au (own_map (fun _ => rfl) _) ?_ | refine Both.mk ?_ ?_ | exact True.intro
        refine Stop.mk (ih (i + 1) (g := []) _ _ _ (by omega) (by omega) ?_)
        rw [hnx]
        exact ⟨rfl, (by repeat' first | exact trivial | refine ⟨rfl, ?_⟩ | refine ⟨congrArg (fun n => AV.lit (.int .i64 n)) (by omega), ?_⟩ | refine ⟨congrArg (fun l => some (Row.row 1 l)) (by simp [int1, num, tru]), ?_⟩), (by repeat' first | exact trivial | refine ⟨rfl, ?_⟩ | refine ⟨congrArg (fun n => AV.lit (.int .i64 n)) (by omega), ?_⟩ | refine ⟨congrArg (fun l => some (Row.row 1 l)) (by simp [int1, num, tru]), ?_⟩)⟩
  · obtain rfl : i = ls.length := by omega
    have hI := Inner22_spec ls (by omega) (fun x hx => by
      obtain ⟨k, hk, gk⟩ := List.mem_iff_getElem.1 hx
      obtain ⟨h, c, _, rfl, _⟩ := hO.at (k := k) (x := x) (by rw [List.getElem?_eq_getElem hk, gk])
      have := @blkF_len (succsF f) h
      show (blkF (succsF f) h).length ≤ 1000000
      omega)
    have hcr : innF ls = cur := hcur
    rw [hcr] at hI
    have hSi := SameInts_spec cur cur (by omega)
    rw [decide_eq_true rfl] at hSi
    repeat' first | refine Call.eq hI rfl ?_ | (refine Look.yes (View.mk _ (fzi _) (View.mk _ (fzi _) ?_)); refine CallV.eq hSi rfl (Free.lit _) ?_) | refine Call.eq works7 rfl ?_ | refine Len.map ?_ | refine Len.nil ?_ | refine Len.cons ?_ | refine Br.t rfl ?_ | refine Br.f rfl ?_ | refine Fit.au ?_ | refine Cv.au ?_ | refine Need.ne ?_ | refine Need.au ?_ | refine Pick.map (by assumption) ?_ | refine Pick.mapI (by omega) (by assumption) ?_ | refine PickN.mk _ (by assumption) ?_ | refine PickN.mk _ rfl ?_ | refine PickN.au ?_ | refine App.au rfl ?_ | refine App.au (own_map (fun _ => rfl) _) ?_ | refine Both.mk ?_ ?_ | exact True.intro
    rfl
end Go.Proofs.Ytbmiffgfmlkdnaa
