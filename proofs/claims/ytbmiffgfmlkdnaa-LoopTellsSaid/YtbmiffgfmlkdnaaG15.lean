/- The document's loops: latches, ways that lead to them, blocks, by contracts. -/
import Derived.Test.YtbmiffgfmlkdnaaG12
import Derived.Test.YtbmiffgfmlkdnaaG10
import Derived.Test.YtbmiffgfmlkdnaaG11
set_option linter.unusedVariables false
set_option linter.unusedSimpArgs false

namespace Go.Proofs.Ytbmiffgfmlkdnaa
open Go.Ax
set_option maxRecDepth 10000
set_option linter.unusedVariables false

theorem Latches33_spec (f : Fun) (h : Nat) (hf : f.fits) (hn : f.blocks.length ≤ 1000000) (hh : h < f.blocks.length) : FnSpec Try.prog 33 [funA f, num h] (fun r => r = .osl 1 ((latF (succsF f) h).map int1)) := by
  have hsl := succsF_len f
  have hP := Preds_spec f hf hn
  have hD := fun a b : Int => Dominates_spec f a b hf hn
  refine spec_of 14 Try.func33 rfl rfl ?_
  repeat' first | refine Call.eq hP rfl ?_ | refine Len.map ?_ | refine Len.nil ?_ | refine Len.cons ?_ | refine Br.t rfl ?_ | refine Br.f rfl ?_ | refine Fit.au ?_ | refine Cv.au ?_ | refine Need.ne ?_ | refine Need.au ?_ | refine Pick.map (by assumption) ?_ | refine Pick.mapI (by omega) (by assumption) ?_ | refine PickN.mk _ (by assumption) ?_ | refine PickN.mk _ rfl ?_ | refine PickN.au ?_ | refine App.au rfl ?_ | refine App.au (own_map (fun _ => rfl) _) ?_ | refine Both.mk ?_ ?_ | exact True.intro
  refine Stop.mk (run_frzR 2 rfl (fzLL_map fz_olsts _) ?_)
  have hpg : (predsF (succsF f))[h]? = some (predOf (succsF f) h (succsF f).length) := by
    unfold predsF
    rw [List.getElem?_map, List.getElem?_range (by omega)]; rfl
  have hrl := predOf_len (succsF f) h (succsF f).length
  have hrn := fun (x : Int) (hx : x ∈ predOf (succsF f) h (succsF f).length) => predOf_nn hx
  have hlat : (predOf (succsF f) h (succsF f).length).filter (domB (succsF f) h) = latF (succsF f) h := rfl
  generalize predOf (succsF f) h (succsF f).length = r at *
  refine go 1000 Try.func33 ?_
  repeat' first | refine Pick.map hpg ?_ | refine Len.map ?_ | refine Len.nil ?_ | refine Len.cons ?_ | refine Br.t rfl ?_ | refine Br.f rfl ?_ | refine Fit.au ?_ | refine Cv.au ?_ | refine Need.ne ?_ | refine Need.au ?_ | refine Pick.map (by assumption) ?_ | refine Pick.mapI (by omega) (by assumption) ?_ | refine PickN.mk _ (by assumption) ?_ | refine PickN.mk _ rfl ?_ | refine PickN.au ?_ | refine App.au rfl ?_ | refine App.au (own_map (fun _ => rfl) _) ?_ | refine Both.mk ?_ ?_ | exact True.intro
  refine Stop.mk (loop_in (g := []) (fun j : Nat => [(2, .hp 0 0), (1, num h), (5, .hw 1), (6, ints r), (7, num j)]) (fun j => [(0, .var f.cs), (1, .row 1 (((r.take j).filter (domB (succsF f) h)).map int1))]) 3 (fun j => j ≤ r.length) (fun j => r.length - j) 0 (by omega) ⟨rfl, (by repeat' first | exact trivial | refine ⟨rfl, ?_⟩ | refine ⟨congrArg (fun n => AV.lit (.int .i64 n)) (by omega), ?_⟩ | refine ⟨congrArg (fun l => some (Row.row 1 l)) (by simp [int1, num, tru]), ?_⟩), (by repeat' first | exact trivial | refine ⟨rfl, ?_⟩ | refine ⟨congrArg (fun n => AV.lit (.int .i64 n)) (by omega), ?_⟩ | refine ⟨congrArg (fun l => some (Row.row 1 l)) (by simp [int1, num, tru]), ?_⟩)⟩ (fun j hj ih => ?_))
  have hcur : ((r.take j).filter (domB (succsF f) h)).length ≤ j := by
    have := List.length_filter_le (domB (succsF f) h) (r.take j)
    rw [List.length_take] at this; omega
  refine go 1000 Try.func33 ?_
  repeat' first | refine Len.map ?_ | refine Len.nil ?_ | refine Len.cons ?_ | refine Br.t rfl ?_ | refine Br.f rfl ?_ | refine Fit.au ?_ | refine Cv.au ?_ | refine Need.ne ?_ | refine Need.au ?_ | refine Pick.map (by assumption) ?_ | refine Pick.mapI (by omega) (by assumption) ?_ | refine PickN.mk _ (by assumption) ?_ | refine PickN.mk _ rfl ?_ | refine PickN.au ?_ | refine App.au rfl ?_ | refine App.au (own_map (fun _ => rfl) _) ?_ | refine Both.mk ?_ ?_ | exact True.intro
  refine Br.d (fun h3 => ?_) (fun h3 => ?_)
  · obtain ⟨x, gx, gxm⟩ := getK (l := r) (k := j) (by omega)
    obtain ⟨p, rfl, hpE⟩ := hrn x gxm
    have hnx := filter_take_succ (p := domB (succsF f) h) gx
    generalize (r.take j).filter (domB (succsF f) h) = cur at *
    repeat' first | refine Draw.mk (ordL [6] [0, 1, 2, 3, 4, 5, 6]) (by decide +kernel) ?_ | refine Pick.map gx ?_ | (refine Call.of (hD h p) ?_; rintro r2 ⟨v, rfl, hv⟩; refine ⟨rfl, ?_⟩) | refine Len.map ?_ | refine Len.nil ?_ | refine Len.cons ?_ | refine Br.t rfl ?_ | refine Br.f rfl ?_ | refine Fit.au ?_ | refine Cv.au ?_ | refine Need.ne ?_ | refine Need.au ?_ | refine Pick.map (by assumption) ?_ | refine Pick.mapI (by omega) (by assumption) ?_ | refine PickN.mk _ (by assumption) ?_ | refine PickN.mk _ rfl ?_ | refine PickN.au ?_ | refine App.au rfl ?_ | refine App.au (own_map (fun _ => rfl) _) ?_ | refine Both.mk ?_ ?_ | exact True.intro
    all_goals
      refine Br.mk (fun h4 => ?_) (fun h4 => ?_)
      · have hb : domB (succsF f) h (p : Int) = true := domB_iff.2 (hv.1 h4)
        rw [if_pos hb] at hnx
        repeat' first | refine Pick.map gx ?_ | refine Len.map ?_ | refine Len.nil ?_ | refine Len.cons ?_ | refine Br.t rfl ?_ | refine Br.f rfl ?_ | refine Fit.au ?_ | refine Cv.au ?_ | refine Need.ne ?_ | refine Need.au ?_ | refine Pick.map (by assumption) ?_ | refine Pick.mapI (by omega) (by assumption) ?_ | refine PickN.mk _ (by assumption) ?_ | refine PickN.mk _ rfl ?_ | refine PickN.au ?_ | refine App.au rfl ?_ | refine App.au (own_map (fun _ => rfl) _) ?_ | refine Both.mk ?_ ?_ | exact True.intro
        refine Stop.mk (ih (j + 1) (g := [(1, 4)]) _ _ _ (by omega) (by omega) ?_)
        rw [hnx, List.map_append]
        exact ⟨rfl, (by repeat' first | exact trivial | refine ⟨rfl, ?_⟩ | refine ⟨congrArg (fun n => AV.lit (.int .i64 n)) (by omega), ?_⟩ | refine ⟨congrArg (fun l => some (Row.row 1 l)) (by simp [int1, num, tru]), ?_⟩), (by repeat' first | exact trivial | refine ⟨rfl, ?_⟩ | refine ⟨congrArg (fun n => AV.lit (.int .i64 n)) (by omega), ?_⟩ | refine ⟨congrArg (fun l => some (Row.row 1 l)) (by simp [int1, num, tru]), ?_⟩)⟩
      · have hb : ¬ domB (succsF f) h (p : Int) = true := fun h5 => by
          have := hv.2 (domB_iff.1 h5)
          rw [this] at h4; cases h4
        rw [if_neg hb, List.append_nil] at hnx
        repeat' first | refine Len.map ?_ | refine Len.nil ?_ | refine Len.cons ?_ | refine Br.t rfl ?_ | refine Br.f rfl ?_ | refine Fit.au ?_ | refine Cv.au ?_ | refine Need.ne ?_ | refine Need.au ?_ | refine Pick.map (by assumption) ?_ | refine Pick.mapI (by omega) (by assumption) ?_ | refine PickN.mk _ (by assumption) ?_ | refine PickN.mk _ rfl ?_ | refine PickN.au ?_ | refine App.au rfl ?_ | refine App.au (own_map (fun _ => rfl) _) ?_ | refine Both.mk ?_ ?_ | exact True.intro
        refine Stop.mk (ih (j + 1) (g := []) _ _ _ (by omega) (by omega) ?_)
        rw [hnx]
        exact ⟨rfl, (by repeat' first | exact trivial | refine ⟨rfl, ?_⟩ | refine ⟨congrArg (fun n => AV.lit (.int .i64 n)) (by omega), ?_⟩ | refine ⟨congrArg (fun l => some (Row.row 1 l)) (by simp [int1, num, tru]), ?_⟩), (by repeat' first | exact trivial | refine ⟨rfl, ?_⟩ | refine ⟨congrArg (fun n => AV.lit (.int .i64 n)) (by omega), ?_⟩ | refine ⟨congrArg (fun l => some (Row.row 1 l)) (by simp [int1, num, tru]), ?_⟩)⟩
  · rw [take_all (by omega), hlat]
    repeat' first | refine Len.map ?_ | refine Len.nil ?_ | refine Len.cons ?_ | refine Br.t rfl ?_ | refine Br.f rfl ?_ | refine Fit.au ?_ | refine Cv.au ?_ | refine Need.ne ?_ | refine Need.au ?_ | refine Pick.map (by assumption) ?_ | refine Pick.mapI (by omega) (by assumption) ?_ | refine PickN.mk _ (by assumption) ?_ | refine PickN.mk _ rfl ?_ | refine PickN.au ?_ | refine App.au rfl ?_ | refine App.au (own_map (fun _ => rfl) _) ?_ | refine Both.mk ?_ ?_ | exact True.intro
    rfl
theorem Pth.first {s : List (List Int)} {A : Nat → Prop} {a b : Nat} (h : Pth s A a b) : A a := by
  induction h with
  | one h => exact h
  | step _ _ _ ih => exact ih
theorem Pth.lt {s : List (List Int)} (hs : Closed s) {A : Nat → Prop} {a c : Nat} (ha : a < s.length) (h : Pth s A a c) : c < s.length := by
  induction h with
  | one => exact ha
  | step _ he _ ih =>
    obtain ⟨r, gr, hm⟩ := he
    have := hs r (List.mem_of_getElem? gr) _ hm
    omega
theorem Gr.len {s : List (List Int)} (hs : Closed s) {h x a c : Nat} {l : List Int} (hx : x < s.length) (hg : Gr s h x l a c) : l.length ≤ s.length :=
  nodup_lenI hg.nodup fun y hy => by
    obtain ⟨n, rfl, hp⟩ := hg.is y hy
    have := hp.lt hs hx
    exact ⟨by omega, by omega⟩
theorem leads50_spec (f : Fun) (x p h : Nat) (hf : f.fits) (hn : f.blocks.length ≤ 1000000) (hx : x < f.blocks.length) : FnSpec Try.prog 50 [funA f, num x, num p, num h] (fun r => ∃ v, r = tru v ∧ (v = true ↔ Pth (succsF f) (· ≠ h) x p)) := by
  have hsl := succsF_len f
  have hcl := succsF_closed f
  have hS := Succs_spec f hf hn
  refine spec_of 10 Try.func50 rfl rfl ?_
  repeat' first | refine Call.eq hS rfl ?_ | refine Len.map ?_ | refine Len.nil ?_ | refine Len.cons ?_ | refine Br.t rfl ?_ | refine Br.f rfl ?_ | refine Fit.au ?_ | refine Cv.au ?_ | refine Need.ne ?_ | refine Need.au ?_ | refine Pick.map (by assumption) ?_ | refine Pick.mapI (by omega) (by assumption) ?_ | refine PickN.mk _ (by assumption) ?_ | refine PickN.mk _ rfl ?_ | refine PickN.au ?_ | refine App.au rfl ?_ | refine App.au (own_map (fun _ => rfl) _) ?_ | refine Both.mk ?_ ?_ | exact True.intro
  refine Stop.mk (run_frzR 1 rfl (fzLL_map fz_olsts _) ?_)
  have htw := succsF_two f
  rw [← hsl] at hx hn
  generalize succsF f = s at *
  refine go 1000 Try.func50 ?_
  repeat' first | refine Len.map ?_ | refine Len.nil ?_ | refine Len.cons ?_ | refine Br.t rfl ?_ | refine Br.f rfl ?_ | refine Fit.au ?_ | refine Cv.au ?_ | refine Need.ne ?_ | refine Need.au ?_ | refine Pick.map (by assumption) ?_ | refine Pick.mapI (by omega) (by assumption) ?_ | refine PickN.mk _ (by assumption) ?_ | refine PickN.mk _ rfl ?_ | refine PickN.au ?_ | refine App.au rfl ?_ | refine App.au (own_map (fun _ => rfl) _) ?_ | refine Both.mk ?_ ?_ | exact True.intro
  refine Br.d (fun he => ?_) (fun he => ?_)
  · obtain rfl : x = h := by omega
    repeat' first | refine Len.map ?_ | refine Len.nil ?_ | refine Len.cons ?_ | refine Br.t rfl ?_ | refine Br.f rfl ?_ | refine Fit.au ?_ | refine Cv.au ?_ | refine Need.ne ?_ | refine Need.au ?_ | refine Pick.map (by assumption) ?_ | refine Pick.mapI (by omega) (by assumption) ?_ | refine PickN.mk _ (by assumption) ?_ | refine PickN.mk _ rfl ?_ | refine PickN.au ?_ | refine App.au rfl ?_ | refine App.au (own_map (fun _ => rfl) _) ?_ | refine Both.mk ?_ ?_ | exact True.intro
    refine ⟨false, rfl, ⟨fun e => (by cases e), fun hp => ?_⟩⟩
    exact absurd rfl (hp.first)
  replace he : x ≠ h := fun e => he (by rw [e])
  repeat' first | refine Len.map ?_ | refine Len.nil ?_ | refine Len.cons ?_ | refine Br.t rfl ?_ | refine Br.f rfl ?_ | refine Fit.au ?_ | refine Cv.au ?_ | refine Need.ne ?_ | refine Need.au ?_ | refine Pick.map (by assumption) ?_ | refine Pick.mapI (by omega) (by assumption) ?_ | refine PickN.mk _ (by assumption) ?_ | refine PickN.mk _ rfl ?_ | refine PickN.au ?_ | refine App.au rfl ?_ | refine App.au (own_map (fun _ => rfl) _) ?_ | refine Both.mk ?_ ?_ | exact True.intro
  refine Stop.mk (loop_in (g := [(0, 2)]) (fun q : List Int × Nat => [(2, num p), (3, num h), (8, tru false), (9, lsts s), (10, .hw 0), (11, num q.2)]) (fun q => [(0, .row 1 (q.1.map int1))]) 1 (fun q => Gr s h x q.1 q.2 0 ∧ q.2 ≤ q.1.length ∧ ∀ b : Nat, b < q.2 → q.1[b]? ≠ some (p : Int)) (fun q => s.length - q.2) ([(x : Int)], 0) ⟨.start he, by simp, fun b hb => by omega⟩ ⟨rfl, (by repeat' first | exact trivial | refine ⟨rfl, ?_⟩ | refine ⟨congrArg (fun n => AV.lit (.int .i64 n)) (by omega), ?_⟩ | refine ⟨congrArg (fun l => some (Row.row 1 l)) (by simp [int1, num, tru]), ?_⟩), (by repeat' first | exact trivial | refine ⟨rfl, ?_⟩ | refine ⟨congrArg (fun n => AV.lit (.int .i64 n)) (by omega), ?_⟩ | refine ⟨congrArg (fun l => some (Row.row 1 l)) (by simp [int1, num, tru]), ?_⟩)⟩ (fun q hq ih => ?_))
  obtain ⟨l, a⟩ := q
  obtain ⟨hG, ha, hno⟩ := hq
  dsimp only at hG ha hno ih ⊢
  have hlen := hG.len hcl hx
  refine go 1000 Try.func50 ?_
  repeat' first | refine Len.map ?_ | refine Len.nil ?_ | refine Len.cons ?_ | refine Br.t rfl ?_ | refine Br.f rfl ?_ | refine Fit.au ?_ | refine Cv.au ?_ | refine Need.ne ?_ | refine Need.au ?_ | refine Pick.map (by assumption) ?_ | refine Pick.mapI (by omega) (by assumption) ?_ | refine PickN.mk _ (by assumption) ?_ | refine PickN.mk _ rfl ?_ | refine PickN.au ?_ | refine App.au rfl ?_ | refine App.au (own_map (fun _ => rfl) _) ?_ | refine Both.mk ?_ ?_ | exact True.intro
  refine Br.d (fun h2 => ?_) (fun h2 => ?_)
  · obtain ⟨y, gy, gym⟩ := getK (l := l) (k := a) (by omega)
    obtain ⟨n, rfl, hP⟩ := hG.is y gym
    have hns := hP.lt hcl hx
    obtain ⟨row, gr, grm⟩ := getK (l := s) (k := n) hns
    have hr2 := htw row grm
    have hrc := hcl row grm
    repeat' first | refine PickN.map gy ?_ | refine Len.map ?_ | refine Len.nil ?_ | refine Len.cons ?_ | refine Br.t rfl ?_ | refine Br.f rfl ?_ | refine Fit.au ?_ | refine Cv.au ?_ | refine Need.ne ?_ | refine Need.au ?_ | refine Pick.map (by assumption) ?_ | refine Pick.mapI (by omega) (by assumption) ?_ | refine PickN.mk _ (by assumption) ?_ | refine PickN.mk _ rfl ?_ | refine PickN.au ?_ | refine App.au rfl ?_ | refine App.au (own_map (fun _ => rfl) _) ?_ | refine Both.mk ?_ ?_ | exact True.intro
    refine Br.d (fun h3 => ?_) (fun h3 => ?_)
    · obtain rfl : n = p := by omega
      repeat' first | refine Len.map ?_ | refine Len.nil ?_ | refine Len.cons ?_ | refine Br.t rfl ?_ | refine Br.f rfl ?_ | refine Fit.au ?_ | refine Cv.au ?_ | refine Need.ne ?_ | refine Need.au ?_ | refine Pick.map (by assumption) ?_ | refine Pick.mapI (by omega) (by assumption) ?_ | refine PickN.mk _ (by assumption) ?_ | refine PickN.mk _ rfl ?_ | refine PickN.au ?_ | refine App.au rfl ?_ | refine App.au (own_map (fun _ => rfl) _) ?_ | refine Both.mk ?_ ?_ | exact True.intro
      exact ⟨true, rfl, fun _ => hP, fun _ => rfl⟩
    · have hno2 : ∀ b : Nat, b < a + 1 → l[b]? ≠ some (p : Int) := fun b hb hbp => by
        by_cases e : b = a
        · subst e; rw [gy] at hbp; exact h3 (Option.some.inj hbp)
        · exact hno b (by omega) hbp
      repeat' first | refine Len.map ?_ | refine Len.nil ?_ | refine Len.cons ?_ | refine Br.t rfl ?_ | refine Br.f rfl ?_ | refine Fit.au ?_ | refine Cv.au ?_ | refine Need.ne ?_ | refine Need.au ?_ | refine Pick.map (by assumption) ?_ | refine Pick.mapI (by omega) (by assumption) ?_ | refine PickN.mk _ (by assumption) ?_ | refine PickN.mk _ rfl ?_ | refine PickN.au ?_ | refine App.au rfl ?_ | refine App.au (own_map (fun _ => rfl) _) ?_ | refine Both.mk ?_ ?_ | exact True.intro
      refine Stop.mk (loop_in (g := []) (fun q : List Int × Nat => [(2, num p), (3, num h), (8, tru false), (9, lsts s), (10, .hw 0), (11, num a), (12, num q.2)]) (fun q => [(0, .row 1 (q.1.map int1))]) 1 (fun q => Gr s h x q.1 a q.2 ∧ q.2 ≤ row.length ∧ q.1[a]? = some (n : Int) ∧ ∀ b : Nat, b < a + 1 → q.1[b]? ≠ some (p : Int)) (fun q => row.length - q.2) (l, 0) ⟨hG, by simp, gy, hno2⟩ ⟨rfl, (by repeat' first | exact trivial | refine ⟨rfl, ?_⟩ | refine ⟨congrArg (fun n => AV.lit (.int .i64 n)) (by omega), ?_⟩ | refine ⟨congrArg (fun l => some (Row.row 1 l)) (by simp [int1, num, tru]), ?_⟩), (by repeat' first | exact trivial | refine ⟨rfl, ?_⟩ | refine ⟨congrArg (fun n => AV.lit (.int .i64 n)) (by omega), ?_⟩ | refine ⟨congrArg (fun l => some (Row.row 1 l)) (by simp [int1, num, tru]), ?_⟩)⟩ (fun q hq ih2 => ?_))
      obtain ⟨l2, c⟩ := q
      obtain ⟨hG2, hc, gy2, hno3⟩ := hq
      dsimp only at hG2 hc gy2 hno3 ih2 ⊢
      have hlen2 := hG2.len hcl hx
      have hal2 := (List.getElem?_eq_some_iff.1 gy2).1
      refine go 1000 Try.func50 ?_
      repeat' first | refine PickN.map gy2 ?_ | refine Pick.map gr ?_ | refine Len.map ?_ | refine Len.nil ?_ | refine Len.cons ?_ | refine Br.t rfl ?_ | refine Br.f rfl ?_ | refine Fit.au ?_ | refine Cv.au ?_ | refine Need.ne ?_ | refine Need.au ?_ | refine Pick.map (by assumption) ?_ | refine Pick.mapI (by omega) (by assumption) ?_ | refine PickN.mk _ (by assumption) ?_ | refine PickN.mk _ rfl ?_ | refine PickN.au ?_ | refine App.au rfl ?_ | refine App.au (own_map (fun _ => rfl) _) ?_ | refine Both.mk ?_ ?_ | exact True.intro
      refine Br.d (fun h4 => ?_) (fun h4 => ?_)
      · obtain ⟨z, gz, gzm⟩ := getK (l := row) (k := c) (by omega)
        obtain ⟨t, rfl⟩ : ∃ t : Nat, z = t := ⟨z.toNat, by have := hrc z gzm; omega⟩
        have hH := HasInt_spec l2 t (by omega)
        repeat' first | refine PickN.map gy2 ?_ | refine Pick.map gr ?_ | refine Pick.map gz ?_ | refine Len.map ?_ | refine Len.nil ?_ | refine Len.cons ?_ | refine Br.t rfl ?_ | refine Br.f rfl ?_ | refine Fit.au ?_ | refine Cv.au ?_ | refine Need.ne ?_ | refine Need.au ?_ | refine Pick.map (by assumption) ?_ | refine Pick.mapI (by omega) (by assumption) ?_ | refine PickN.mk _ (by assumption) ?_ | refine PickN.mk _ rfl ?_ | refine PickN.au ?_ | refine App.au rfl ?_ | refine App.au (own_map (fun _ => rfl) _) ?_ | refine Both.mk ?_ ?_ | exact True.intro
        refine Br.nd (fun h5 => ?_) (fun h5 => ?_)
        · have hth : t ≠ h := fun e => h5 (by rw [e])
          repeat' first | refine PickN.map gy2 ?_ | refine Pick.map gr ?_ | refine Pick.map gz ?_ | refine Len.map ?_ | refine Len.nil ?_ | refine Len.cons ?_ | refine Br.t rfl ?_ | refine Br.f rfl ?_ | refine Fit.au ?_ | refine Cv.au ?_ | refine Need.ne ?_ | refine Need.au ?_ | refine Pick.map (by assumption) ?_ | refine Pick.mapI (by omega) (by assumption) ?_ | refine PickN.mk _ (by assumption) ?_ | refine PickN.mk _ rfl ?_ | refine PickN.au ?_ | refine App.au rfl ?_ | refine App.au (own_map (fun _ => rfl) _) ?_ | refine Both.mk ?_ ?_ | exact True.intro
          refine Look.yes (View.mk _ (fzi _) ?_)
          refine CallV.eq hH rfl (Free.lit _) ?_
          repeat' first | refine PickN.map gy2 ?_ | refine Pick.map gr ?_ | refine Pick.map gz ?_ | refine Len.map ?_ | refine Len.nil ?_ | refine Len.cons ?_ | refine Br.t rfl ?_ | refine Br.f rfl ?_ | refine Fit.au ?_ | refine Cv.au ?_ | refine Need.ne ?_ | refine Need.au ?_ | refine Pick.map (by assumption) ?_ | refine Pick.mapI (by omega) (by assumption) ?_ | refine PickN.mk _ (by assumption) ?_ | refine PickN.mk _ rfl ?_ | refine PickN.au ?_ | refine App.au rfl ?_ | refine App.au (own_map (fun _ => rfl) _) ?_ | refine Both.mk ?_ ?_ | exact True.intro
          refine Br.nd (fun h6 => ?_) (fun h6 => ?_)
          · repeat' first | refine PickN.map gy2 ?_ | refine Pick.map gr ?_ | refine Pick.map gz ?_ | refine Len.map ?_ | refine Len.nil ?_ | refine Len.cons ?_ | refine Br.t rfl ?_ | refine Br.f rfl ?_ | refine Fit.au ?_ | refine Cv.au ?_ | refine Need.ne ?_ | refine Need.au ?_ | refine Pick.map (by assumption) ?_ | refine Pick.mapI (by omega) (by assumption) ?_ | refine PickN.mk _ (by assumption) ?_ | refine PickN.mk _ rfl ?_ | refine PickN.au ?_ | refine App.au rfl ?_ | refine App.au (own_map (fun _ => rfl) _) ?_ | refine Both.mk ?_ ?_ | exact True.intro
            refine Stop.mk (ih2 (l2 ++ [(t : Int)], c + 1) (g := [(0, 2)]) _ _ _ ⟨hG2.new gy2 gr gz hth h6, by simp only; omega, by simp only; rw [List.getElem?_append_left hal2]; exact gy2, ?_⟩ (by simp only; omega) ?_)
            · intro b hb
              simp only
              rw [List.getElem?_append_left (by omega)]
              exact hno3 b hb
            · dsimp only
              rw [List.map_append]
              exact ⟨rfl, (by repeat' first | exact trivial | refine ⟨rfl, ?_⟩ | refine ⟨congrArg (fun n => AV.lit (.int .i64 n)) (by omega), ?_⟩ | refine ⟨congrArg (fun l => some (Row.row 1 l)) (by simp [int1, num, tru]), ?_⟩), (by repeat' first | exact trivial | refine ⟨rfl, ?_⟩ | refine ⟨congrArg (fun n => AV.lit (.int .i64 n)) (by omega), ?_⟩ | refine ⟨congrArg (fun l => some (Row.row 1 l)) (by simp [int1, num, tru]), ?_⟩)⟩
          · repeat' first | refine Len.map ?_ | refine Len.nil ?_ | refine Len.cons ?_ | refine Br.t rfl ?_ | refine Br.f rfl ?_ | refine Fit.au ?_ | refine Cv.au ?_ | refine Need.ne ?_ | refine Need.au ?_ | refine Pick.map (by assumption) ?_ | refine Pick.mapI (by omega) (by assumption) ?_ | refine PickN.mk _ (by assumption) ?_ | refine PickN.mk _ rfl ?_ | refine PickN.au ?_ | refine App.au rfl ?_ | refine App.au (own_map (fun _ => rfl) _) ?_ | refine Both.mk ?_ ?_ | exact True.intro
            exact Stop.mk (ih2 (l2, c + 1) (g := []) _ _ _ ⟨hG2.old gy2 gr gz (.inr h6), by simp only; omega, gy2, hno3⟩ (by simp only; omega) ⟨rfl, (by repeat' first | exact trivial | refine ⟨rfl, ?_⟩ | refine ⟨congrArg (fun n => AV.lit (.int .i64 n)) (by omega), ?_⟩ | refine ⟨congrArg (fun l => some (Row.row 1 l)) (by simp [int1, num, tru]), ?_⟩), (by repeat' first | exact trivial | refine ⟨rfl, ?_⟩ | refine ⟨congrArg (fun n => AV.lit (.int .i64 n)) (by omega), ?_⟩ | refine ⟨congrArg (fun l => some (Row.row 1 l)) (by simp [int1, num, tru]), ?_⟩)⟩)
        · obtain rfl : t = h := by omega
          repeat' first | refine Len.map ?_ | refine Len.nil ?_ | refine Len.cons ?_ | refine Br.t rfl ?_ | refine Br.f rfl ?_ | refine Fit.au ?_ | refine Cv.au ?_ | refine Need.ne ?_ | refine Need.au ?_ | refine Pick.map (by assumption) ?_ | refine Pick.mapI (by omega) (by assumption) ?_ | refine PickN.mk _ (by assumption) ?_ | refine PickN.mk _ rfl ?_ | refine PickN.au ?_ | refine App.au rfl ?_ | refine App.au (own_map (fun _ => rfl) _) ?_ | refine Both.mk ?_ ?_ | exact True.intro
          exact Stop.mk (ih2 (l2, c + 1) (g := []) _ _ _ ⟨hG2.old gy2 gr gz (.inl rfl), by simp only; omega, gy2, hno3⟩ (by simp only; omega) ⟨rfl, (by repeat' first | exact trivial | refine ⟨rfl, ?_⟩ | refine ⟨congrArg (fun n => AV.lit (.int .i64 n)) (by omega), ?_⟩ | refine ⟨congrArg (fun l => some (Row.row 1 l)) (by simp [int1, num, tru]), ?_⟩), (by repeat' first | exact trivial | refine ⟨rfl, ?_⟩ | refine ⟨congrArg (fun n => AV.lit (.int .i64 n)) (by omega), ?_⟩ | refine ⟨congrArg (fun l => some (Row.row 1 l)) (by simp [int1, num, tru]), ?_⟩)⟩)
      · repeat' first | refine Len.map ?_ | refine Len.nil ?_ | refine Len.cons ?_ | refine Br.t rfl ?_ | refine Br.f rfl ?_ | refine Fit.au ?_ | refine Cv.au ?_ | refine Need.ne ?_ | refine Need.au ?_ | refine Pick.map (by assumption) ?_ | refine Pick.mapI (by omega) (by assumption) ?_ | refine PickN.mk _ (by assumption) ?_ | refine PickN.mk _ rfl ?_ | refine PickN.au ?_ | refine App.au rfl ?_ | refine App.au (own_map (fun _ => rfl) _) ?_ | refine Both.mk ?_ ?_ | exact True.intro
        exact Stop.mk (ih (l2, a + 1) (g := []) _ _ _ ⟨hG2.row gy2 gr (by omega), by simp only; omega, hno3⟩ (by simp only; omega) ⟨rfl, (by repeat' first | exact trivial | refine ⟨rfl, ?_⟩ | refine ⟨congrArg (fun n => AV.lit (.int .i64 n)) (by omega), ?_⟩ | refine ⟨congrArg (fun l => some (Row.row 1 l)) (by simp [int1, num, tru]), ?_⟩), (by repeat' first | exact trivial | refine ⟨rfl, ?_⟩ | refine ⟨congrArg (fun n => AV.lit (.int .i64 n)) (by omega), ?_⟩ | refine ⟨congrArg (fun l => some (Row.row 1 l)) (by simp [int1, num, tru]), ?_⟩)⟩)
  · repeat' first | refine Len.map ?_ | refine Len.nil ?_ | refine Len.cons ?_ | refine Br.t rfl ?_ | refine Br.f rfl ?_ | refine Fit.au ?_ | refine Cv.au ?_ | refine Need.ne ?_ | refine Need.au ?_ | refine Pick.map (by assumption) ?_ | refine Pick.mapI (by omega) (by assumption) ?_ | refine PickN.mk _ (by assumption) ?_ | refine PickN.mk _ rfl ?_ | refine PickN.au ?_ | refine App.au rfl ?_ | refine App.au (own_map (fun _ => rfl) _) ?_ | refine Both.mk ?_ ?_ | exact True.intro
    refine ⟨false, rfl, fun e => (by cases e), fun hp => ?_⟩
    obtain ⟨b, gb⟩ := List.getElem?_of_mem ((hG.end (by omega) p).2 hp)
    exact absurd gb (hno b (by have := (List.getElem?_eq_some_iff.1 gb).1; omega))
theorem filtN_succ (n : Nat) (p : Nat → Prop) : filtN (n + 1) p = filtN n p ++ if @decide (p n) (Classical.propDecidable _) = true then [(n : Int)] else [] := by
  unfold filtN
  rw [List.range_succ, List.filter_append, List.map_append]
  congr 1
  by_cases hp : @decide (p n) (Classical.propDecidable _) = true <;> simp [hp]
theorem Blocks34_spec (f : Fun) (h : Nat) (hf : f.fits) (hn : f.blocks.length ≤ 1000000) (hla : latF (succsF f) h ≠ []) : FnSpec Try.prog 34 [funA f, num h, ints (latF (succsF f) h)] (fun r => r = .osl 1 ((blkF (succsF f) h).map int1)) := by
  have hsl := succsF_len f
  have hcl := succsF_closed f
  have hR := Reach_spec f hf hn
  have hml := marksF_len (succsF f) (-1)
  have hma := fun c : Nat => marksF_at (s := succsF f) (x := -1) (k := c)
  have hrh := latF_head hla
  have hLd := fun x p : Nat => leads50_spec f x p h hf hn
  have hiff := fun x : Nat => InL.iff (x := x) hcl hrh
  have hln := fun x (hx : x ∈ latF (succsF f) h) => latF_nn hx
  have hll := @latF_len (succsF f) h
  refine spec_of 1000 Try.func34 rfl rfl ?_
  repeat' first | (refine Call.of hR ?_; rintro r ⟨m, rfl, hm⟩; refine ⟨rfl, ?_⟩; obtain rfl := hm.eq) | refine Len.map ?_ | refine Len.nil ?_ | refine Len.cons ?_ | refine Br.t rfl ?_ | refine Br.f rfl ?_ | refine Fit.au ?_ | refine Cv.au ?_ | refine Need.ne ?_ | refine Need.au ?_ | refine Pick.map (by assumption) ?_ | refine Pick.mapI (by omega) (by assumption) ?_ | refine PickN.mk _ (by assumption) ?_ | refine PickN.mk _ rfl ?_ | refine PickN.au ?_ | refine App.au rfl ?_ | refine App.au (own_map (fun _ => rfl) _) ?_ | refine Both.mk ?_ ?_ | exact True.intro
  unfold blkF
  generalize latF (succsF f) h = la at *
  generalize succsF f = s at *
  generalize marksF s (-1) = m at *
  rw [hsl]
  refine Stop.mk (loop_in (g := []) (fun k : Nat => [(1, num h), (2, ints la), (3, .hp 0 0), (7, .hw 1), (8, .hw 2), (9, num k)]) (fun k => [(0, .var f.cs), (1, .row 1 (m.map tb)), (2, .row 1 ((filtN k fun x => Rc s x ∧ InL s h x).map int1))]) 3 (fun k => k ≤ f.blocks.length) (fun k => f.blocks.length - k) 0 (by omega) ⟨rfl, (by repeat' first | exact trivial | refine ⟨rfl, ?_⟩ | refine ⟨congrArg (fun n => AV.lit (.int .i64 n)) (by omega), ?_⟩ | refine ⟨congrArg (fun l => some (Row.row 1 l)) (by simp [int1, num, tru]), ?_⟩), (by repeat' first | exact trivial | refine ⟨rfl, ?_⟩ | refine ⟨congrArg (fun n => AV.lit (.int .i64 n)) (by omega), ?_⟩ | refine ⟨congrArg (fun l => some (Row.row 1 l)) (by simp [int1, num, tru]), ?_⟩)⟩ (fun k hk ih => ?_))
  have hnx := filtN_succ k fun x => Rc s x ∧ InL s h x
  have hfl := filtN_len k fun x => Rc s x ∧ InL s h x
  generalize hcur : (filtN k fun x => Rc s x ∧ InL s h x) = cur at *
  refine go 1000 Try.func34 ?_
  repeat' first | refine Len.map ?_ | refine Len.nil ?_ | refine Len.cons ?_ | refine Br.t rfl ?_ | refine Br.f rfl ?_ | refine Fit.au ?_ | refine Cv.au ?_ | refine Need.ne ?_ | refine Need.au ?_ | refine Pick.map (by assumption) ?_ | refine Pick.mapI (by omega) (by assumption) ?_ | refine PickN.mk _ (by assumption) ?_ | refine PickN.mk _ rfl ?_ | refine PickN.au ?_ | refine App.au rfl ?_ | refine App.au (own_map (fun _ => rfl) _) ?_ | refine Both.mk ?_ ?_ | exact True.intro
  refine Br.d (fun h2 => ?_) (fun h2 => ?_)
  · obtain ⟨b, gb, gbm⟩ := getK (l := m) (k := k) (by omega)
    have hL := fun p : Nat => hLd k p (by omega)
    repeat' first | refine Len.map ?_ | refine Len.nil ?_ | refine Len.cons ?_ | refine Br.t rfl ?_ | refine Br.f rfl ?_ | refine Fit.au ?_ | refine Cv.au ?_ | refine Need.ne ?_ | refine Need.au ?_ | refine Pick.map (by assumption) ?_ | refine Pick.mapI (by omega) (by assumption) ?_ | refine PickN.mk _ (by assumption) ?_ | refine PickN.mk _ rfl ?_ | refine PickN.au ?_ | refine App.au rfl ?_ | refine App.au (own_map (fun _ => rfl) _) ?_ | refine Both.mk ?_ ?_ | exact True.intro
    refine Stop.mk (loop_in (g := []) (fun q : Bool × Nat => [(1, num h), (2, ints la), (3, .hp 0 0), (7, .hw 1), (8, .hw 2), (9, num k), (10, tru q.1), (11, num q.2)]) (fun q => [(0, .var f.cs), (1, .row 1 (m.map tb)), (2, .row 1 (cur.map int1))]) 3 (fun q => q.2 ≤ la.length ∧ (q.1 = true ↔ k = h ∨ (Rc s k ∧ ∃ (b p : Nat), b < q.2 ∧ la[b]? = some (p : Int) ∧ Pth s (· ≠ h) k p))) (fun q => la.length - q.2) (decide ((k : Int) = h), 0) ⟨by simp only; omega, ?_⟩ ⟨rfl, (by repeat' first | exact trivial | refine ⟨rfl, ?_⟩ | refine ⟨congrArg (fun n => AV.lit (.int .i64 n)) (by omega), ?_⟩ | refine ⟨congrArg (fun l => some (Row.row 1 l)) (by simp [int1, num, tru]), ?_⟩), (by repeat' first | exact trivial | refine ⟨rfl, ?_⟩ | refine ⟨congrArg (fun n => AV.lit (.int .i64 n)) (by omega), ?_⟩ | refine ⟨congrArg (fun l => some (Row.row 1 l)) (by simp [int1, num, tru]), ?_⟩)⟩ (fun q hq ih2 => ?_))
    · simp only [decide_eq_true_iff]
      constructor
      · intro e; exact .inl (by omega)
      · rintro (rfl | ⟨_, b, p, hb, _⟩)
        · rfl
        · omega
    obtain ⟨is, j⟩ := q
    obtain ⟨hj, hI⟩ := hq
    dsimp only at hj hI ih2 ⊢
    refine go 1000 Try.func34 ?_
    repeat' first | refine Len.map ?_ | refine Len.nil ?_ | refine Len.cons ?_ | refine Br.t rfl ?_ | refine Br.f rfl ?_ | refine Fit.au ?_ | refine Cv.au ?_ | refine Need.ne ?_ | refine Need.au ?_ | refine Pick.map (by assumption) ?_ | refine Pick.mapI (by omega) (by assumption) ?_ | refine PickN.mk _ (by assumption) ?_ | refine PickN.mk _ rfl ?_ | refine PickN.au ?_ | refine App.au rfl ?_ | refine App.au (own_map (fun _ => rfl) _) ?_ | refine Both.mk ?_ ?_ | exact True.intro
    refine Br.d (fun h3 => ?_) (fun h3 => ?_)
    · obtain ⟨x, gx, gxm⟩ := getK (l := la) (k := j) (by omega)
      obtain ⟨p, rfl, _, _⟩ := hln x gxm
      have up : (k = h ∨ (Rc s k ∧ ∃ (b p : Nat), b < j ∧ la[b]? = some (p : Int) ∧ Pth s (· ≠ h) k p)) → (k = h ∨ (Rc s k ∧ ∃ (b p : Nat), b < j + 1 ∧ la[b]? = some (p : Int) ∧ Pth s (· ≠ h) k p)) := by
        rintro (e | ⟨r, c, p, hc, g, hp⟩)
        · exact .inl e
        · exact .inr ⟨r, c, p, by omega, g, hp⟩
      have dn : (k = h ∨ (Rc s k ∧ ∃ (b p : Nat), b < j + 1 ∧ la[b]? = some (p : Int) ∧ Pth s (· ≠ h) k p)) → (k = h ∨ (Rc s k ∧ ∃ (b p : Nat), b < j ∧ la[b]? = some (p : Int) ∧ Pth s (· ≠ h) k p)) ∨ (Rc s k ∧ Pth s (· ≠ h) k p) := by
        rintro (e | ⟨r, c, q, hc, g, hp⟩)
        · exact .inl (.inl e)
        · by_cases e : c = j
          · subst e
            rw [gx] at g
            obtain rfl : p = q := by have := Option.some.inj g; omega
            exact .inr ⟨r, hp⟩
          · exact .inl (.inr ⟨r, c, q, by omega, g, hp⟩)
      have on : Rc s k → Pth s (· ≠ h) k p → (k = h ∨ (Rc s k ∧ ∃ (b p : Nat), b < j + 1 ∧ la[b]? = some (p : Int) ∧ Pth s (· ≠ h) k p)) := fun r hp => .inr ⟨r, j, p, by omega, gx, hp⟩
      cases is with
      | true =>
        repeat' first | refine Draw.mk (ordL [14] [0, 1, 2, 3, 4, 5, 6, 7, 8, 9, 10, 11, 12, 13, 14, 15, 16, 17]) (by decide +kernel) ?_ | refine Len.map ?_ | refine Len.nil ?_ | refine Len.cons ?_ | refine Br.t rfl ?_ | refine Br.f rfl ?_ | refine Fit.au ?_ | refine Cv.au ?_ | refine Need.ne ?_ | refine Need.au ?_ | refine Pick.map (by assumption) ?_ | refine Pick.mapI (by omega) (by assumption) ?_ | refine PickN.mk _ (by assumption) ?_ | refine PickN.mk _ rfl ?_ | refine PickN.au ?_ | refine App.au rfl ?_ | refine App.au (own_map (fun _ => rfl) _) ?_ | refine Both.mk ?_ ?_ | exact True.intro
        exact Stop.mk (ih2 (true, j + 1) (g := []) _ _ _ ⟨by simp only; omega, fun _ => up (hI.1 rfl), fun _ => rfl⟩ (by simp only; omega) ⟨rfl, (by repeat' first | exact trivial | refine ⟨rfl, ?_⟩ | refine ⟨congrArg (fun n => AV.lit (.int .i64 n)) (by omega), ?_⟩ | refine ⟨congrArg (fun l => some (Row.row 1 l)) (by simp [int1, num, tru]), ?_⟩), (by repeat' first | exact trivial | refine ⟨rfl, ?_⟩ | refine ⟨congrArg (fun n => AV.lit (.int .i64 n)) (by omega), ?_⟩ | refine ⟨congrArg (fun l => some (Row.row 1 l)) (by simp [int1, num, tru]), ?_⟩)⟩)
      | false =>
        have off : ¬ (k = h ∨ (Rc s k ∧ ∃ (b p : Nat), b < j ∧ la[b]? = some (p : Int) ∧ Pth s (· ≠ h) k p)) := fun h => by have := hI.2 h; cases this
        cases b with
        | false =>
          have hkr : ¬ Rc s k := fun h => by have := (hma k).2 ⟨by omega, h⟩; rw [gb] at this; cases this
          repeat' first | refine Draw.mk (ordL [14] [0, 1, 2, 3, 4, 5, 6, 7, 8, 9, 10, 11, 12, 13, 14, 15, 16, 17]) (by decide +kernel) ?_ | refine PickN.map gb ?_ | refine Len.map ?_ | refine Len.nil ?_ | refine Len.cons ?_ | refine Br.t rfl ?_ | refine Br.f rfl ?_ | refine Fit.au ?_ | refine Cv.au ?_ | refine Need.ne ?_ | refine Need.au ?_ | refine Pick.map (by assumption) ?_ | refine Pick.mapI (by omega) (by assumption) ?_ | refine PickN.mk _ (by assumption) ?_ | refine PickN.mk _ rfl ?_ | refine PickN.au ?_ | refine App.au rfl ?_ | refine App.au (own_map (fun _ => rfl) _) ?_ | refine Both.mk ?_ ?_ | exact True.intro
          exact Stop.mk (ih2 (false, j + 1) (g := []) _ _ _ ⟨by simp only; omega, fun e => (by cases e), fun hq => ((dn hq).elim (fun h => absurd h off) fun h => absurd h.1 hkr)⟩ (by simp only; omega) ⟨rfl, (by repeat' first | exact trivial | refine ⟨rfl, ?_⟩ | refine ⟨congrArg (fun n => AV.lit (.int .i64 n)) (by omega), ?_⟩ | refine ⟨congrArg (fun l => some (Row.row 1 l)) (by simp [int1, num, tru]), ?_⟩), (by repeat' first | exact trivial | refine ⟨rfl, ?_⟩ | refine ⟨congrArg (fun n => AV.lit (.int .i64 n)) (by omega), ?_⟩ | refine ⟨congrArg (fun l => some (Row.row 1 l)) (by simp [int1, num, tru]), ?_⟩)⟩)
        | true =>
          have hkr : Rc s k := ((hma k).1 gb).2
          repeat' first | refine Draw.mk (ordL [14] [0, 1, 2, 3, 4, 5, 6, 7, 8, 9, 10, 11, 12, 13, 14, 15, 16, 17]) (by decide +kernel) ?_ | refine PickN.map gb ?_ | refine Pick.map gx ?_ | (refine Call.of (hL p) ?_; rintro r2 ⟨v, rfl, hv⟩; refine ⟨rfl, ?_⟩) | refine Len.map ?_ | refine Len.nil ?_ | refine Len.cons ?_ | refine Br.t rfl ?_ | refine Br.f rfl ?_ | refine Fit.au ?_ | refine Cv.au ?_ | refine Need.ne ?_ | refine Need.au ?_ | refine Pick.map (by assumption) ?_ | refine Pick.mapI (by omega) (by assumption) ?_ | refine PickN.mk _ (by assumption) ?_ | refine PickN.mk _ rfl ?_ | refine PickN.au ?_ | refine App.au rfl ?_ | refine App.au (own_map (fun _ => rfl) _) ?_ | refine Both.mk ?_ ?_ | exact True.intro
          exact Stop.mk (ih2 (v, j + 1) (g := []) _ _ _ ⟨by simp only; omega, fun e => on hkr (hv.1 e), fun hq => ((dn hq).elim (fun h => absurd h off) fun h => hv.2 h.2)⟩ (by simp only; omega) ⟨rfl, (by repeat' first | exact trivial | refine ⟨rfl, ?_⟩ | refine ⟨congrArg (fun n => AV.lit (.int .i64 n)) (by omega), ?_⟩ | refine ⟨congrArg (fun l => some (Row.row 1 l)) (by simp [int1, num, tru]), ?_⟩), (by repeat' first | exact trivial | refine ⟨rfl, ?_⟩ | refine ⟨congrArg (fun n => AV.lit (.int .i64 n)) (by omega), ?_⟩ | refine ⟨congrArg (fun l => some (Row.row 1 l)) (by simp [int1, num, tru]), ?_⟩)⟩)
    · have hQ : is = true ↔ Rc s k ∧ InL s h k := by
        rw [hI, hiff k]
        constructor
        · rintro (e | ⟨r, c, p, _, g, hp⟩)
          · exact .inl e
          · exact .inr ⟨r, p, List.mem_of_getElem? g, hp⟩
        · rintro (e | ⟨r, p, hm, hp⟩)
          · exact .inl e
          · obtain ⟨c, g⟩ := List.getElem?_of_mem hm
            exact .inr ⟨r, c, p, by have := (List.getElem?_eq_some_iff.1 g).1; omega, g, hp⟩
      cases is with
      | true =>
        rw [if_pos (@decide_eq_true _ (Classical.propDecidable _) (hQ.1 rfl))] at hnx
        repeat' first | refine Len.map ?_ | refine Len.nil ?_ | refine Len.cons ?_ | refine Br.t rfl ?_ | refine Br.f rfl ?_ | refine Fit.au ?_ | refine Cv.au ?_ | refine Need.ne ?_ | refine Need.au ?_ | refine Pick.map (by assumption) ?_ | refine Pick.mapI (by omega) (by assumption) ?_ | refine PickN.mk _ (by assumption) ?_ | refine PickN.mk _ rfl ?_ | refine PickN.au ?_ | refine App.au rfl ?_ | refine App.au (own_map (fun _ => rfl) _) ?_ | refine Both.mk ?_ ?_ | exact True.intro
        refine Stop.mk (ih (k + 1) (g := [(2, 4)]) _ _ _ (by omega) (by omega) ?_)
        rw [hnx, List.map_append]
        exact ⟨rfl, (by repeat' first | exact trivial | refine ⟨rfl, ?_⟩ | refine ⟨congrArg (fun n => AV.lit (.int .i64 n)) (by omega), ?_⟩ | refine ⟨congrArg (fun l => some (Row.row 1 l)) (by simp [int1, num, tru]), ?_⟩), (by repeat' first | exact trivial | refine ⟨rfl, ?_⟩ | refine ⟨congrArg (fun n => AV.lit (.int .i64 n)) (by omega), ?_⟩ | refine ⟨congrArg (fun l => some (Row.row 1 l)) (by simp [int1, num, tru]), ?_⟩)⟩
      | false =>
        rw [if_neg (fun h => by have := hQ.2 (@of_decide_eq_true _ (Classical.propDecidable _) h); cases this), List.append_nil] at hnx
        repeat' first | refine Len.map ?_ | refine Len.nil ?_ | refine Len.cons ?_ | refine Br.t rfl ?_ | refine Br.f rfl ?_ | refine Fit.au ?_ | refine Cv.au ?_ | refine Need.ne ?_ | refine Need.au ?_ | refine Pick.map (by assumption) ?_ | refine Pick.mapI (by omega) (by assumption) ?_ | refine PickN.mk _ (by assumption) ?_ | refine PickN.mk _ rfl ?_ | refine PickN.au ?_ | refine App.au rfl ?_ | refine App.au (own_map (fun _ => rfl) _) ?_ | refine Both.mk ?_ ?_ | exact True.intro
        refine Stop.mk (ih (k + 1) (g := []) _ _ _ (by omega) (by omega) ?_)
        rw [hnx]
        exact ⟨rfl, (by repeat' first | exact trivial | refine ⟨rfl, ?_⟩ | refine ⟨congrArg (fun n => AV.lit (.int .i64 n)) (by omega), ?_⟩ | refine ⟨congrArg (fun l => some (Row.row 1 l)) (by simp [int1, num, tru]), ?_⟩), (by repeat' first | exact trivial | refine ⟨rfl, ?_⟩ | refine ⟨congrArg (fun n => AV.lit (.int .i64 n)) (by omega), ?_⟩ | refine ⟨congrArg (fun l => some (Row.row 1 l)) (by simp [int1, num, tru]), ?_⟩)⟩
  · obtain rfl : k = f.blocks.length := by omega
    rw [hcur]
    repeat' first | refine Len.map ?_ | refine Len.nil ?_ | refine Len.cons ?_ | refine Br.t rfl ?_ | refine Br.f rfl ?_ | refine Fit.au ?_ | refine Cv.au ?_ | refine Need.ne ?_ | refine Need.au ?_ | refine Pick.map (by assumption) ?_ | refine Pick.mapI (by omega) (by assumption) ?_ | refine PickN.mk _ (by assumption) ?_ | refine PickN.mk _ rfl ?_ | refine PickN.au ?_ | refine App.au rfl ?_ | refine App.au (own_map (fun _ => rfl) _) ?_ | refine Both.mk ?_ ?_ | exact True.intro
    show _ = _
    rfl
end Go.Proofs.Ytbmiffgfmlkdnaa

/- Two loops: what they have in common. No program is in sight here. -/
namespace Go.Proofs.Ytbmiffgfmlkdnaa
open Go.Ax
section
variable {s : List (List Int)}
theorem blkF_mem {h : Nat} {x : Int} : x ∈ blkF s h ↔ 0 ≤ x ∧ x < s.length ∧ Rc s x.toNat ∧ InL s h x.toNat := filtN_mem
theorem blkF_nat (hs : Closed s) {h k : Nat} (hh : Rc s h) : (k : Int) ∈ blkF s h ↔ InL s h k := by
  rw [blkF_mem, Int.toNat_natCast]
  constructor
  · exact fun h => h.2.2.2
  · intro hI
    have hr := (hI.dom hh).2.1
    have := Rc_lt hs hr
    exact ⟨by omega, by omega, hr, hI⟩
theorem blkF_lt (h : Nat) : (blkF s h).Pairwise (· < ·) := filtN_lt _ _
theorem blkF_len (h : Nat) : (blkF s h).length ≤ s.length := filtN_len _ _
noncomputable def comm (s : List (List Int)) (h1 h2 : Nat) : Nat := ((blkF s h1).filter fun z => decide (z ∈ blkF s h2)).length
theorem comm_pos {h1 h2 : Nat} {z : Int} (hz : z ∈ blkF s h1) (hz2 : z ∈ blkF s h2) : comm s h1 h2 ≠ 0 := by
  unfold comm
  intro h
  have := List.eq_nil_of_length_eq_zero h
  have hm : z ∈ (blkF s h1).filter fun z => decide (z ∈ blkF s h2) := List.mem_filter.2 ⟨hz, by simpa using hz2⟩
  rw [this] at hm; cases hm
theorem nest_none (hs : Closed s) {h1 h2 : Nat} (r1 : Rc s h1) (r2 : Rc s h2) (hc : comm s h1 h2 = 0) : (h1 : Int) ∉ blkF s h2 ∧ (h2 : Int) ∉ blkF s h1 :=
  ⟨fun h => comm_pos ((blkF_nat hs r1).2 .head) h hc, fun h => comm_pos h ((blkF_nat hs r2).2 .head) hc⟩
theorem nest_some (hs : Closed s) {h1 h2 : Nat} (r1 : Rc s h1) (r2 : Rc s h2) (hne : h1 ≠ h2) (hc : comm s h1 h2 ≠ 0) :
    ((h1 : Int) ∈ blkF s h2 ∧ (h2 : Int) ∉ blkF s h1 ∧ comm s h1 h2 = (blkF s h1).length) ∨ ((h1 : Int) ∉ blkF s h2 ∧ (h2 : Int) ∈ blkF s h1 ∧ comm s h1 h2 = (blkF s h2).length) := by
  obtain ⟨z, hz⟩ : ∃ z, z ∈ (blkF s h1).filter fun z => decide (z ∈ blkF s h2) := List.exists_mem_of_ne_nil _ fun h => hc (by unfold comm; rw [h]; rfl)
  obtain ⟨hz1, hz2⟩ := List.mem_filter.1 hz
  have hz2 : z ∈ blkF s h2 := by simpa using hz2
  have k1 := blkF_mem.1 hz1
  have k2 := blkF_mem.1 hz2
  rw [blkF_nat hs r1, blkF_nat hs r2]
  rcases InL.meet hs r1 r2 hne k1.2.2.2 k2.2.2.2 with h | h
  · right
    refine ⟨fun h3 => InL.not_both r1 r2 hne h h3, h, ?_⟩
    unfold comm
    congr 1
    refine sorted_ext ((blkF_lt h1).filter _) (blkF_lt h2) fun x => ?_
    rw [List.mem_filter, decide_eq_true_iff]
    refine ⟨fun h => h.2, fun hx => ⟨?_, hx⟩⟩
    obtain ⟨g1, g2, g3, g4⟩ := blkF_mem.1 hx
    exact blkF_mem.2 ⟨g1, g2, g3, InL.sub r2 r1 (Ne.symm hne) h g4⟩
  · left
    refine ⟨h, fun h3 => InL.not_both r1 r2 hne h3 h, ?_⟩
    unfold comm
    congr 1
    refine List.filter_eq_self.2 fun x hx => ?_
    rw [decide_eq_true_iff]
    obtain ⟨g1, g2, g3, g4⟩ := blkF_mem.1 hx
    exact blkF_mem.2 ⟨g1, g2, g3, InL.sub r1 r2 hne h g4⟩
end
end Go.Proofs.Ytbmiffgfmlkdnaa

/- Who goes into a loop and out of it, and in which loops none lies. No program is in sight here. -/
namespace Go.Proofs.Ytbmiffgfmlkdnaa
open Go.Ax
noncomputable def cdec (p : Prop) : Bool := @decide p (Classical.propDecidable _)
theorem cdec_iff {p : Prop} : cdec p = true ↔ p := @decide_eq_true_iff _ (Classical.propDecidable _)
theorem filtN_next (n : Nat) (p : Nat → Prop) : filtN (n + 1) p = filtN n p ++ if cdec (p n) = true then [(n : Int)] else [] := by
  unfold filtN cdec
  rw [List.range_succ, List.filter_append, List.map_append]
  congr 1
  by_cases hp : @decide (p n) (Classical.propDecidable _) = true <;> simp [hp]
noncomputable def entF (s : List (List Int)) (h : Nat) (bl : List Int) : List Int := filtN s.length fun k => Rc s k ∧ Ed s k h ∧ (k : Int) ∉ bl
noncomputable def entB (s : List (List Int)) (bl : List Int) (x : Int) : Bool := cdec (Rc s x.toNat ∧ x ∉ bl)
theorem predOf_sorted (s : List (List Int)) (k n : Nat) : (predOf s k n).Pairwise (· < ·) := by
  unfold predOf
  refine List.Pairwise.map _ (R := (· < ·)) (fun a b h => by omega) ?_
  exact List.Pairwise.filter _ List.pairwise_lt_range
theorem entF_pred {s : List (List Int)} {h : Nat} {bl : List Int} : (predOf s h s.length).filter (entB s bl) = entF s h bl := by
  refine sorted_ext ((predOf_sorted ..).filter _) (filtN_lt ..) fun x => ?_
  unfold entF
  rw [filtN_mem, List.mem_filter]
  constructor
  · rintro ⟨h1, h2⟩
    obtain ⟨p, rfl, he⟩ := predOf_nn h1
    have h3 := predOf_lt h1
    obtain ⟨h4, h5⟩ := cdec_iff.1 h2
    rw [Int.toNat_natCast] at h4 ⊢
    exact ⟨h3.1, h3.2, h4, he, h5⟩
  · rintro ⟨h1, h2, h3, h4, h5⟩
    obtain ⟨p, rfl⟩ : ∃ p : Nat, x = p := ⟨x.toNat, by omega⟩
    rw [Int.toNat_natCast] at h3 h4 h5
    refine ⟨mem_predOf.2 h4, cdec_iff.2 ⟨?_, h5⟩⟩
    rw [Int.toNat_natCast]; exact h3
def Goes (s : List (List Int)) (bl : List Int) (x : Int) : Prop := ∃ (r : List Int) (t : Int), s[x.toNat]? = some r ∧ t ∈ r ∧ t ∉ bl
noncomputable def leavF (s : List (List Int)) (bl : List Int) : List Int := filtN s.length fun k => (k : Int) ∈ bl ∧ Goes s bl k
theorem leavF_of {s : List (List Int)} {bl : List Int} (hp : bl.Pairwise (· < ·)) (hb : ∀ x ∈ bl, 0 ≤ x ∧ x < s.length) : bl.filter (fun x => cdec (Goes s bl x)) = leavF s bl := by
  refine sorted_ext (hp.filter _) (filtN_lt ..) fun x => ?_
  unfold leavF
  rw [filtN_mem, List.mem_filter]
  constructor
  · rintro ⟨h1, h2⟩
    obtain ⟨h3, h4⟩ := hb x h1
    obtain ⟨p, rfl⟩ : ∃ p : Nat, x = p := ⟨x.toNat, by omega⟩
    rw [Int.toNat_natCast]
    exact ⟨h3, h4, h1, cdec_iff.1 h2⟩
  · rintro ⟨h1, h2, h3, h4⟩
    obtain ⟨p, rfl⟩ : ∃ p : Nat, x = p := ⟨x.toNat, by omega⟩
    rw [Int.toNat_natCast] at h3 h4
    exact ⟨h3, cdec_iff.2 h4⟩
noncomputable def innF (ls : List Lp1) : List Int := filtN ls.length fun i => ∀ (x y : Lp1) (k : Nat), ls[i]? = some x → ls[k]? = some y → liesB y x = false
end Go.Proofs.Ytbmiffgfmlkdnaa

/- Who goes into a loop, by the program and by the document: by contracts. -/
namespace Go.Proofs.Ytbmiffgfmlkdnaa
open Go.Ax
set_option maxRecDepth 10000
set_option linter.unusedVariables false

theorem Lies21_spec (x y : Lp1) (hy : y.blocks.length ≤ 1000000000) : FnSpec Try.prog 21 [.agg x.cs, .agg y.cs] (fun r => r = tru (liesB x y)) := by
  refine spec_of 1000 Try.func21 rfl rfl ?_
  repeat' first | refine Len.map ?_ | refine Len.nil ?_ | refine Len.cons ?_ | refine Br.t rfl ?_ | refine Br.f rfl ?_ | refine Fit.au ?_ | refine Cv.au ?_ | refine Need.ne ?_ | refine Need.au ?_ | refine Pick.map (by assumption) ?_ | refine Pick.mapI (by omega) (by assumption) ?_ | refine PickN.mk _ (by assumption) ?_ | refine PickN.mk _ rfl ?_ | refine PickN.au ?_ | refine App.au rfl ?_ | refine App.au (own_map (fun _ => rfl) _) ?_ | refine Both.mk ?_ ?_ | exact True.intro
  refine Br.nd (fun h => ?_) (fun h => ?_)
  · repeat' first | refine Call.eq (HasInt_spec y.blocks x.head (by omega)) rfl ?_ | refine Len.map ?_ | refine Len.nil ?_ | refine Len.cons ?_ | refine Br.t rfl ?_ | refine Br.f rfl ?_ | refine Fit.au ?_ | refine Cv.au ?_ | refine Need.ne ?_ | refine Need.au ?_ | refine Pick.map (by assumption) ?_ | refine Pick.mapI (by omega) (by assumption) ?_ | refine PickN.mk _ (by assumption) ?_ | refine PickN.mk _ rfl ?_ | refine PickN.au ?_ | refine App.au rfl ?_ | refine App.au (own_map (fun _ => rfl) _) ?_ | refine Both.mk ?_ ?_ | exact True.intro
    show _ = _
    unfold liesB
    rw [decide_eq_false h]; rfl
  · repeat' first | refine Len.map ?_ | refine Len.nil ?_ | refine Len.cons ?_ | refine Br.t rfl ?_ | refine Br.f rfl ?_ | refine Fit.au ?_ | refine Cv.au ?_ | refine Need.ne ?_ | refine Need.au ?_ | refine Pick.map (by assumption) ?_ | refine Pick.mapI (by omega) (by assumption) ?_ | refine PickN.mk _ (by assumption) ?_ | refine PickN.mk _ rfl ?_ | refine PickN.au ?_ | refine App.au rfl ?_ | refine App.au (own_map (fun _ => rfl) _) ?_ | refine Both.mk ?_ ?_ | exact True.intro
    show _ = _
    unfold liesB
    rw [decide_eq_true h]; rfl
theorem Enters17_spec (f : Fun) (h : Nat) (bl la : List Int) (c : Int) (hf : f.fits) (hn : f.blocks.length ≤ 1000000) (hb : bl.length ≤ 1000000) : FnSpec Try.prog 17 [funA f, .agg [num h, ints bl, ints la, num c]] (fun r => r = .osl 1 ((entF (succsF f) h bl).map int1)) := by
  have hsl := succsF_len f
  have hS := Succs95_spec f hf hn
  have hR := Reach69_spec f hf hn
  have htw := succsF_two f
  have hml := marksF_len (succsF f) (-1)
  have hma := fun c : Nat => marksF_at (s := succsF f) (x := -1) (k := c)
  have hC2 := fun x : Int => Contains70_spec bl x (by omega)
  refine spec_of 10 Try.func17 rfl rfl ?_
  repeat' first | refine Len.map ?_ | refine Len.nil ?_ | refine Len.cons ?_ | refine Br.t rfl ?_ | refine Br.f rfl ?_ | refine Fit.au ?_ | refine Cv.au ?_ | refine Need.ne ?_ | refine Need.au ?_ | refine Pick.map (by assumption) ?_ | refine Pick.mapI (by omega) (by assumption) ?_ | refine PickN.mk _ (by assumption) ?_ | refine PickN.mk _ rfl ?_ | refine PickN.au ?_ | refine App.au rfl ?_ | refine App.au (own_map (fun _ => rfl) _) ?_ | refine Both.mk ?_ ?_ | exact True.intro
  refine Stop.mk (run_nilT 5 1 rfl ?_)
  refine go 1000 Try.func17 ?_
  repeat' first | refine Call.eq hS rfl ?_ | refine Call.eq hR rfl ?_ | refine Len.map ?_ | refine Len.nil ?_ | refine Len.cons ?_ | refine Br.t rfl ?_ | refine Br.f rfl ?_ | refine Fit.au ?_ | refine Cv.au ?_ | refine Need.ne ?_ | refine Need.au ?_ | refine Pick.map (by assumption) ?_ | refine Pick.mapI (by omega) (by assumption) ?_ | refine PickN.mk _ (by assumption) ?_ | refine PickN.mk _ rfl ?_ | refine PickN.au ?_ | refine App.au rfl ?_ | refine App.au (own_map (fun _ => rfl) _) ?_ | refine Both.mk ?_ ?_ | exact True.intro
  unfold entF
  generalize succsF f = s at *
  generalize marksF s (-1) = m at *
  refine Stop.mk (run_frzR 3 rfl (fzLL_map (enc2 := tb) (fun _ => rfl) _) ?_)
  refine run_frzR 4 rfl (fzLL_map fz_olsts _) ?_
  refine loop_in (g := []) (fun k : Nat => [(3, .hp 1 0), (5, .hw 2), (6, .sl false 1 (m.map tb)), (12, lsts s), (13, num s.length), (14, num k)]) (fun k => [(1, .var [num h, ints bl, ints la, num c]), (2, .row 1 ((filtN k fun k => Rc s k ∧ Ed s k h ∧ (k : Int) ∉ bl).map int1))]) 5 (fun k => k ≤ s.length) (fun k => s.length - k) 0 (by omega) ⟨rfl, (by repeat' first | exact trivial | refine ⟨rfl, ?_⟩ | refine ⟨congrArg (fun n => AV.lit (.int .i64 n)) (by omega), ?_⟩ | refine ⟨congrArg (fun l => some (Row.row 1 l)) (by simp [int1, num, tru]), ?_⟩), (by repeat' first | exact trivial | refine ⟨rfl, ?_⟩ | refine ⟨congrArg (fun n => AV.lit (.int .i64 n)) (by omega), ?_⟩ | refine ⟨congrArg (fun l => some (Row.row 1 l)) (by simp [int1, num, tru]), ?_⟩)⟩ (fun k hk ih => ?_)
  have hnx := filtN_next k fun k => Rc s k ∧ Ed s k h ∧ (k : Int) ∉ bl
  have hfl := filtN_len k fun k => Rc s k ∧ Ed s k h ∧ (k : Int) ∉ bl
  generalize hcur : (filtN k fun k => Rc s k ∧ Ed s k h ∧ (k : Int) ∉ bl) = cur at *
  refine go 1000 Try.func17 ?_
  repeat' first | refine Len.map ?_ | refine Len.nil ?_ | refine Len.cons ?_ | refine Br.t rfl ?_ | refine Br.f rfl ?_ | refine Fit.au ?_ | refine Cv.au ?_ | refine Need.ne ?_ | refine Need.au ?_ | refine Pick.map (by assumption) ?_ | refine Pick.mapI (by omega) (by assumption) ?_ | refine PickN.mk _ (by assumption) ?_ | refine PickN.mk _ rfl ?_ | refine PickN.au ?_ | refine App.au rfl ?_ | refine App.au (own_map (fun _ => rfl) _) ?_ | refine Both.mk ?_ ?_ | exact True.intro
  refine Br.d (fun h2 => ?_) (fun h2 => ?_)
  · obtain ⟨b, gb, gbm⟩ := getK (l := m) (k := k) (by omega)
    obtain ⟨row, gr, grm⟩ := getK (l := s) (k := k) (by omega)
    have hr2 := htw row grm
    have hC1 := Contains70_spec row h (by omega)
    have no : ¬ (Rc s k ∧ Ed s k h ∧ (k : Int) ∉ bl) → (filtN (k + 1) fun k => Rc s k ∧ Ed s k h ∧ (k : Int) ∉ bl) = cur := fun hn => by
      rw [if_neg (fun h => hn (cdec_iff.1 h)), List.append_nil] at hnx; exact hnx
    repeat' first | refine Pick.map gr ?_ | refine Pick.map gb ?_ | refine Len.map ?_ | refine Len.nil ?_ | refine Len.cons ?_ | refine Br.t rfl ?_ | refine Br.f rfl ?_ | refine Fit.au ?_ | refine Cv.au ?_ | refine Need.ne ?_ | refine Need.au ?_ | refine Pick.map (by assumption) ?_ | refine Pick.mapI (by omega) (by assumption) ?_ | refine PickN.mk _ (by assumption) ?_ | refine PickN.mk _ rfl ?_ | refine PickN.au ?_ | refine App.au rfl ?_ | refine App.au (own_map (fun _ => rfl) _) ?_ | refine Both.mk ?_ ?_ | exact True.intro
    cases b with
    | false =>
      have hn := no fun h => by have := (hma k).2 ⟨by omega, h.1⟩; rw [gb] at this; cases this
      repeat' first | refine Len.map ?_ | refine Len.nil ?_ | refine Len.cons ?_ | refine Br.t rfl ?_ | refine Br.f rfl ?_ | refine Fit.au ?_ | refine Cv.au ?_ | refine Need.ne ?_ | refine Need.au ?_ | refine Pick.map (by assumption) ?_ | refine Pick.mapI (by omega) (by assumption) ?_ | refine PickN.mk _ (by assumption) ?_ | refine PickN.mk _ rfl ?_ | refine PickN.au ?_ | refine App.au rfl ?_ | refine App.au (own_map (fun _ => rfl) _) ?_ | refine Both.mk ?_ ?_ | exact True.intro
      refine Stop.mk (ih (k + 1) (g := []) _ _ _ (by omega) (by omega) ?_)
      rw [hn]
      exact ⟨rfl, (by repeat' first | exact trivial | refine ⟨rfl, ?_⟩ | refine ⟨congrArg (fun n => AV.lit (.int .i64 n)) (by omega), ?_⟩ | refine ⟨congrArg (fun l => some (Row.row 1 l)) (by simp [int1, num, tru]), ?_⟩), (by repeat' first | exact trivial | refine ⟨rfl, ?_⟩ | refine ⟨congrArg (fun n => AV.lit (.int .i64 n)) (by omega), ?_⟩ | refine ⟨congrArg (fun l => some (Row.row 1 l)) (by simp [int1, num, tru]), ?_⟩)⟩
    | true =>
      have hkr : Rc s k := ((hma k).1 gb).2
      repeat' first | refine Call.eq hC1 rfl ?_ | refine Len.map ?_ | refine Len.nil ?_ | refine Len.cons ?_ | refine Br.t rfl ?_ | refine Br.f rfl ?_ | refine Fit.au ?_ | refine Cv.au ?_ | refine Need.ne ?_ | refine Need.au ?_ | refine Pick.map (by assumption) ?_ | refine Pick.mapI (by omega) (by assumption) ?_ | refine PickN.mk _ (by assumption) ?_ | refine PickN.mk _ rfl ?_ | refine PickN.au ?_ | refine App.au rfl ?_ | refine App.au (own_map (fun _ => rfl) _) ?_ | refine Both.mk ?_ ?_ | exact True.intro
      refine Br.d (fun h3 => ?_) (fun h3 => ?_)
      · repeat' first | refine Call.eq (hC2 _) rfl ?_ | refine Len.map ?_ | refine Len.nil ?_ | refine Len.cons ?_ | refine Br.t rfl ?_ | refine Br.f rfl ?_ | refine Fit.au ?_ | refine Cv.au ?_ | refine Need.ne ?_ | refine Need.au ?_ | refine Pick.map (by assumption) ?_ | refine Pick.mapI (by omega) (by assumption) ?_ | refine PickN.mk _ (by assumption) ?_ | refine PickN.mk _ rfl ?_ | refine PickN.au ?_ | refine App.au rfl ?_ | refine App.au (own_map (fun _ => rfl) _) ?_ | refine Both.mk ?_ ?_ | exact True.intro
        refine Br.nd (fun h4 => ?_) (fun h4 => ?_)
        · rw [if_pos (cdec_iff.2 ⟨hkr, ⟨row, gr, h3⟩, h4⟩)] at hnx
          repeat' first | refine Len.map ?_ | refine Len.nil ?_ | refine Len.cons ?_ | refine Br.t rfl ?_ | refine Br.f rfl ?_ | refine Fit.au ?_ | refine Cv.au ?_ | refine Need.ne ?_ | refine Need.au ?_ | refine Pick.map (by assumption) ?_ | refine Pick.mapI (by omega) (by assumption) ?_ | refine PickN.mk _ (by assumption) ?_ | refine PickN.mk _ rfl ?_ | refine PickN.au ?_ | refine App.au rfl ?_ | refine App.au (own_map (fun _ => rfl) _) ?_ | refine Both.mk ?_ ?_ | exact True.intro
          refine Stop.mk (ih (k + 1) (g := [(2, 6)]) _ _ _ (by omega) (by omega) ?_)
          rw [hnx, List.map_append]
          exact ⟨rfl, (by repeat' first | exact trivial | refine ⟨rfl, ?_⟩ | refine ⟨congrArg (fun n => AV.lit (.int .i64 n)) (by omega), ?_⟩ | refine ⟨congrArg (fun l => some (Row.row 1 l)) (by simp [int1, num, tru]), ?_⟩), (by repeat' first | exact trivial | refine ⟨rfl, ?_⟩ | refine ⟨congrArg (fun n => AV.lit (.int .i64 n)) (by omega), ?_⟩ | refine ⟨congrArg (fun l => some (Row.row 1 l)) (by simp [int1, num, tru]), ?_⟩)⟩
        · have hn := no fun h => h.2.2 h4
          repeat' first | refine Len.map ?_ | refine Len.nil ?_ | refine Len.cons ?_ | refine Br.t rfl ?_ | refine Br.f rfl ?_ | refine Fit.au ?_ | refine Cv.au ?_ | refine Need.ne ?_ | refine Need.au ?_ | refine Pick.map (by assumption) ?_ | refine Pick.mapI (by omega) (by assumption) ?_ | refine PickN.mk _ (by assumption) ?_ | refine PickN.mk _ rfl ?_ | refine PickN.au ?_ | refine App.au rfl ?_ | refine App.au (own_map (fun _ => rfl) _) ?_ | refine Both.mk ?_ ?_ | exact True.intro
          refine Stop.mk (ih (k + 1) (g := []) _ _ _ (by omega) (by omega) ?_)
          rw [hn]
          exact ⟨rfl, (by repeat' first | exact trivial | refine ⟨rfl, ?_⟩ | refine ⟨congrArg (fun n => AV.lit (.int .i64 n)) (by omega), ?_⟩ | refine ⟨congrArg (fun l => some (Row.row 1 l)) (by simp [int1, num, tru]), ?_⟩), (by repeat' first | exact trivial | refine ⟨rfl, ?_⟩ | refine ⟨congrArg (fun n => AV.lit (.int .i64 n)) (by omega), ?_⟩ | refine ⟨congrArg (fun l => some (Row.row 1 l)) (by simp [int1, num, tru]), ?_⟩)⟩
      · have hn := no fun h => by
          obtain ⟨r, gr2, hm⟩ := h.2.1
          rw [gr] at gr2; cases gr2
          exact h3 hm
        repeat' first | refine Len.map ?_ | refine Len.nil ?_ | refine Len.cons ?_ | refine Br.t rfl ?_ | refine Br.f rfl ?_ | refine Fit.au ?_ | refine Cv.au ?_ | refine Need.ne ?_ | refine Need.au ?_ | refine Pick.map (by assumption) ?_ | refine Pick.mapI (by omega) (by assumption) ?_ | refine PickN.mk _ (by assumption) ?_ | refine PickN.mk _ rfl ?_ | refine PickN.au ?_ | refine App.au rfl ?_ | refine App.au (own_map (fun _ => rfl) _) ?_ | refine Both.mk ?_ ?_ | exact True.intro
        refine Stop.mk (ih (k + 1) (g := []) _ _ _ (by omega) (by omega) ?_)
        rw [hn]
        exact ⟨rfl, (by repeat' first | exact trivial | refine ⟨rfl, ?_⟩ | refine ⟨congrArg (fun n => AV.lit (.int .i64 n)) (by omega), ?_⟩ | refine ⟨congrArg (fun l => some (Row.row 1 l)) (by simp [int1, num, tru]), ?_⟩), (by repeat' first | exact trivial | refine ⟨rfl, ?_⟩ | refine ⟨congrArg (fun n => AV.lit (.int .i64 n)) (by omega), ?_⟩ | refine ⟨congrArg (fun l => some (Row.row 1 l)) (by simp [int1, num, tru]), ?_⟩)⟩
  · obtain rfl : k = s.length := by omega
    rw [hcur]
    repeat' first | refine Len.map ?_ | refine Len.nil ?_ | refine Len.cons ?_ | refine Br.t rfl ?_ | refine Br.f rfl ?_ | refine Fit.au ?_ | refine Cv.au ?_ | refine Need.ne ?_ | refine Need.au ?_ | refine Pick.map (by assumption) ?_ | refine Pick.mapI (by omega) (by assumption) ?_ | refine PickN.mk _ (by assumption) ?_ | refine PickN.mk _ rfl ?_ | refine PickN.au ?_ | refine App.au rfl ?_ | refine App.au (own_map (fun _ => rfl) _) ?_ | refine Both.mk ?_ ?_ | exact True.intro
    show _ = _
    rfl
theorem Enters18_spec (f : Fun) (h : Nat) (bl la : List Int) (c : Int) (hf : f.fits) (hn : f.blocks.length ≤ 1000000) (hb : bl.length ≤ 1000000) (hh : h < f.blocks.length) : FnSpec Try.prog 18 [funA f, .agg [num h, ints bl, ints la, num c]] (fun r => r = .osl 1 ((entF (succsF f) h bl).map int1)) := by
  have hsl := succsF_len f
  have hP := Preds_spec f hf hn
  have hR := Reach_spec f hf hn
  have hml := marksF_len (succsF f) (-1)
  have hma := fun c : Nat => marksF_at (s := succsF f) (x := -1) (k := c)
  have hC2 := fun x : Int => HasInt_spec bl x (by omega)
  have hpg : (predsF (succsF f))[h]? = some (predOf (succsF f) h (succsF f).length) := by
    unfold predsF
    rw [List.getElem?_map, List.getElem?_range (by omega)]; rfl
  have hrl := predOf_len (succsF f) h (succsF f).length
  have hrn := fun (x : Int) (hx : x ∈ predOf (succsF f) h (succsF f).length) => predOf_nn hx
  have hrt := fun (x : Int) (hx : x ∈ predOf (succsF f) h (succsF f).length) => predOf_lt hx
  have hlast : (predOf (succsF f) h (succsF f).length).filter (entB (succsF f) bl) = entF (succsF f) h bl := entF_pred
  refine spec_of 12 Try.func18 rfl rfl ?_
  repeat' first | refine Len.map ?_ | refine Len.nil ?_ | refine Len.cons ?_ | refine Br.t rfl ?_ | refine Br.f rfl ?_ | refine Fit.au ?_ | refine Cv.au ?_ | refine Need.ne ?_ | refine Need.au ?_ | refine Pick.map (by assumption) ?_ | refine Pick.mapI (by omega) (by assumption) ?_ | refine PickN.mk _ (by assumption) ?_ | refine PickN.mk _ rfl ?_ | refine PickN.au ?_ | refine App.au rfl ?_ | refine App.au (own_map (fun _ => rfl) _) ?_ | refine Both.mk ?_ ?_ | exact True.intro
  refine Stop.mk ?_
  refine go 1000 Try.func18 ?_
  repeat' first | refine Draw.mk (ordL [1, 3, 7] [0, 2, 4, 5, 1, 3, 6, 8, 7, 9]) (by decide +kernel) ?_ | refine Draw.mk (ordL [9, 14] [0, 1, 2, 3, 4, 5, 6, 7, 8, 10, 11, 12, 13, 9, 14, 15, 16]) (by decide +kernel) ?_ | (refine Call.of hR ?_; rintro r ⟨m, rfl, hm⟩; refine ⟨rfl, ?_⟩; obtain rfl := hm.eq) | refine Call.eq hP rfl ?_ | refine Len.map ?_ | refine Len.nil ?_ | refine Len.cons ?_ | refine Br.t rfl ?_ | refine Br.f rfl ?_ | refine Fit.au ?_ | refine Cv.au ?_ | refine Need.ne ?_ | refine Need.au ?_ | refine Pick.map (by assumption) ?_ | refine Pick.mapI (by omega) (by assumption) ?_ | refine PickN.mk _ (by assumption) ?_ | refine PickN.mk _ rfl ?_ | refine PickN.au ?_ | refine App.au rfl ?_ | refine App.au (own_map (fun _ => rfl) _) ?_ | refine Both.mk ?_ ?_ | exact True.intro
  refine Need.mk ⟨by omega, by rw [List.length_map, predsF_len]; omega⟩ ?_
  repeat' first | refine Draw.mk (ordL [1, 3, 7] [0, 2, 4, 5, 1, 3, 6, 8, 7, 9]) (by decide +kernel) ?_ | refine Draw.mk (ordL [9, 14] [0, 1, 2, 3, 4, 5, 6, 7, 8, 10, 11, 12, 13, 9, 14, 15, 16]) (by decide +kernel) ?_ | refine PickN.map hpg ?_ | refine Len.map ?_ | refine Len.nil ?_ | refine Len.cons ?_ | refine Br.t rfl ?_ | refine Br.f rfl ?_ | refine Fit.au ?_ | refine Cv.au ?_ | refine Need.ne ?_ | refine Need.au ?_ | refine Pick.map (by assumption) ?_ | refine Pick.mapI (by omega) (by assumption) ?_ | refine PickN.mk _ (by assumption) ?_ | refine PickN.mk _ rfl ?_ | refine PickN.au ?_ | refine App.au rfl ?_ | refine App.au (own_map (fun _ => rfl) _) ?_ | refine Both.mk ?_ ?_ | exact True.intro
  rw [← hlast]
  generalize predOf (succsF f) h (succsF f).length = r at *
  generalize succsF f = s at *
  generalize marksF s (-1) = m at *
  refine Stop.mk (loop_in (g := [(4, 5)]) (fun j : Nat => [(3, .hp 1 0), (5, .hw 2), (6, .hw 3), (7, .hw 4), (8, num j)]) (fun j => [(1, .var [num h, ints bl, ints la, num c]), (2, .row 1 (((r.take j).filter (entB s bl)).map int1)), (3, .row 1 (m.map tb)), (4, .row 1 (r.map int1))]) 6 (fun j => j ≤ r.length) (fun j => r.length - j) 0 (by omega) ⟨rfl, (by repeat' first | exact trivial | refine ⟨rfl, ?_⟩ | refine ⟨congrArg (fun n => AV.lit (.int .i64 n)) (by omega), ?_⟩ | refine ⟨congrArg (fun l => some (Row.row 1 l)) (by simp [int1, num, tru]), ?_⟩), (by repeat' first | exact trivial | refine ⟨rfl, ?_⟩ | refine ⟨congrArg (fun n => AV.lit (.int .i64 n)) (by omega), ?_⟩ | refine ⟨congrArg (fun l => some (Row.row 1 l)) (by simp [int1, num, tru]), ?_⟩)⟩ (fun j hj ih => ?_))
  have hcl : ((r.take j).filter (entB s bl)).length ≤ j := by
    have := List.length_filter_le (entB s bl) (r.take j)
    rw [List.length_take] at this; omega
  refine go 1000 Try.func18 ?_
  repeat' first | refine Len.map ?_ | refine Len.nil ?_ | refine Len.cons ?_ | refine Br.t rfl ?_ | refine Br.f rfl ?_ | refine Fit.au ?_ | refine Cv.au ?_ | refine Need.ne ?_ | refine Need.au ?_ | refine Pick.map (by assumption) ?_ | refine Pick.mapI (by omega) (by assumption) ?_ | refine PickN.mk _ (by assumption) ?_ | refine PickN.mk _ rfl ?_ | refine PickN.au ?_ | refine App.au rfl ?_ | refine App.au (own_map (fun _ => rfl) _) ?_ | refine Both.mk ?_ ?_ | exact True.intro
  refine Br.d (fun h2 => ?_) (fun h2 => ?_)
  · obtain ⟨x, gx, gxm⟩ := getK (l := r) (k := j) (by omega)
    have hx := hrt x gxm
    obtain ⟨p, rfl⟩ : ∃ p : Nat, x = p := ⟨x.toNat, by omega⟩
    obtain ⟨b, gb, gbm⟩ := getK (l := m) (k := p) (by omega)
    have hnx := filter_take_succ (p := entB s bl) gx
    generalize (r.take j).filter (entB s bl) = cur at *
    have no : ¬ (Rc s p ∧ (p : Int) ∉ bl) → (r.take (j + 1)).filter (entB s bl) = cur := fun hn => by
      rw [if_neg (fun h => hn (by have := cdec_iff.1 h; rw [Int.toNat_natCast] at this; exact this)), List.append_nil] at hnx; exact hnx
    repeat' first | refine Draw.mk (ordL [1, 3] [0, 2, 4, 5, 1, 3, 6, 7, 8, 9]) (by decide +kernel) ?_ | refine Draw.mk (ordL [14] [0, 1, 2, 3, 4, 5, 6, 7, 8, 9, 10, 11, 12, 13, 14, 15, 16]) (by decide +kernel) ?_ | refine PickN.map gx ?_ | refine PickN.map gb ?_ | refine Len.map ?_ | refine Len.nil ?_ | refine Len.cons ?_ | refine Br.t rfl ?_ | refine Br.f rfl ?_ | refine Fit.au ?_ | refine Cv.au ?_ | refine Need.ne ?_ | refine Need.au ?_ | refine Pick.map (by assumption) ?_ | refine Pick.mapI (by omega) (by assumption) ?_ | refine PickN.mk _ (by assumption) ?_ | refine PickN.mk _ rfl ?_ | refine PickN.au ?_ | refine App.au rfl ?_ | refine App.au (own_map (fun _ => rfl) _) ?_ | refine Both.mk ?_ ?_ | exact True.intro
    cases b with
    | false =>
      have hn := no fun h => by have := (hma p).2 ⟨by omega, h.1⟩; rw [gb] at this; cases this
      repeat' first | refine Len.map ?_ | refine Len.nil ?_ | refine Len.cons ?_ | refine Br.t rfl ?_ | refine Br.f rfl ?_ | refine Fit.au ?_ | refine Cv.au ?_ | refine Need.ne ?_ | refine Need.au ?_ | refine Pick.map (by assumption) ?_ | refine Pick.mapI (by omega) (by assumption) ?_ | refine PickN.mk _ (by assumption) ?_ | refine PickN.mk _ rfl ?_ | refine PickN.au ?_ | refine App.au rfl ?_ | refine App.au (own_map (fun _ => rfl) _) ?_ | refine Both.mk ?_ ?_ | exact True.intro
      refine Stop.mk (ih (j + 1) (g := []) _ _ _ (by omega) (by omega) ?_)
      rw [hn]
      exact ⟨rfl, (by repeat' first | exact trivial | refine ⟨rfl, ?_⟩ | refine ⟨congrArg (fun n => AV.lit (.int .i64 n)) (by omega), ?_⟩ | refine ⟨congrArg (fun l => some (Row.row 1 l)) (by simp [int1, num, tru]), ?_⟩), (by repeat' first | exact trivial | refine ⟨rfl, ?_⟩ | refine ⟨congrArg (fun n => AV.lit (.int .i64 n)) (by omega), ?_⟩ | refine ⟨congrArg (fun l => some (Row.row 1 l)) (by simp [int1, num, tru]), ?_⟩)⟩
    | true =>
      have hpr : Rc s p := ((hma p).1 gb).2
      repeat' first | refine PickN.map gx ?_ | refine Call.eq (hC2 _) rfl ?_ | refine Len.map ?_ | refine Len.nil ?_ | refine Len.cons ?_ | refine Br.t rfl ?_ | refine Br.f rfl ?_ | refine Fit.au ?_ | refine Cv.au ?_ | refine Need.ne ?_ | refine Need.au ?_ | refine Pick.map (by assumption) ?_ | refine Pick.mapI (by omega) (by assumption) ?_ | refine PickN.mk _ (by assumption) ?_ | refine PickN.mk _ rfl ?_ | refine PickN.au ?_ | refine App.au rfl ?_ | refine App.au (own_map (fun _ => rfl) _) ?_ | refine Both.mk ?_ ?_ | exact True.intro
      refine Br.nd (fun h4 => ?_) (fun h4 => ?_)
      · rw [if_pos (show entB s bl p = true from cdec_iff.2 ⟨by rw [Int.toNat_natCast]; exact hpr, h4⟩)] at hnx
        repeat' first | refine PickN.map gx ?_ | refine Len.map ?_ | refine Len.nil ?_ | refine Len.cons ?_ | refine Br.t rfl ?_ | refine Br.f rfl ?_ | refine Fit.au ?_ | refine Cv.au ?_ | refine Need.ne ?_ | refine Need.au ?_ | refine Pick.map (by assumption) ?_ | refine Pick.mapI (by omega) (by assumption) ?_ | refine PickN.mk _ (by assumption) ?_ | refine PickN.mk _ rfl ?_ | refine PickN.au ?_ | refine App.au rfl ?_ | refine App.au (own_map (fun _ => rfl) _) ?_ | refine Both.mk ?_ ?_ | exact True.intro
        refine Stop.mk (ih (j + 1) (g := [(2, 7)]) _ _ _ (by omega) (by omega) ?_)
        rw [hnx, List.map_append]
        exact ⟨rfl, (by repeat' first | exact trivial | refine ⟨rfl, ?_⟩ | refine ⟨congrArg (fun n => AV.lit (.int .i64 n)) (by omega), ?_⟩ | refine ⟨congrArg (fun l => some (Row.row 1 l)) (by simp [int1, num, tru]), ?_⟩), (by repeat' first | exact trivial | refine ⟨rfl, ?_⟩ | refine ⟨congrArg (fun n => AV.lit (.int .i64 n)) (by omega), ?_⟩ | refine ⟨congrArg (fun l => some (Row.row 1 l)) (by simp [int1, num, tru]), ?_⟩)⟩
      · have hn := no fun h => h.2 h4
        repeat' first | refine Len.map ?_ | refine Len.nil ?_ | refine Len.cons ?_ | refine Br.t rfl ?_ | refine Br.f rfl ?_ | refine Fit.au ?_ | refine Cv.au ?_ | refine Need.ne ?_ | refine Need.au ?_ | refine Pick.map (by assumption) ?_ | refine Pick.mapI (by omega) (by assumption) ?_ | refine PickN.mk _ (by assumption) ?_ | refine PickN.mk _ rfl ?_ | refine PickN.au ?_ | refine App.au rfl ?_ | refine App.au (own_map (fun _ => rfl) _) ?_ | refine Both.mk ?_ ?_ | exact True.intro
        refine Stop.mk (ih (j + 1) (g := []) _ _ _ (by omega) (by omega) ?_)
        rw [hn]
        exact ⟨rfl, (by repeat' first | exact trivial | refine ⟨rfl, ?_⟩ | refine ⟨congrArg (fun n => AV.lit (.int .i64 n)) (by omega), ?_⟩ | refine ⟨congrArg (fun l => some (Row.row 1 l)) (by simp [int1, num, tru]), ?_⟩), (by repeat' first | exact trivial | refine ⟨rfl, ?_⟩ | refine ⟨congrArg (fun n => AV.lit (.int .i64 n)) (by omega), ?_⟩ | refine ⟨congrArg (fun l => some (Row.row 1 l)) (by simp [int1, num, tru]), ?_⟩)⟩
  · rw [take_all (by omega)]
    repeat' first | refine Len.map ?_ | refine Len.nil ?_ | refine Len.cons ?_ | refine Br.t rfl ?_ | refine Br.f rfl ?_ | refine Fit.au ?_ | refine Cv.au ?_ | refine Need.ne ?_ | refine Need.au ?_ | refine Pick.map (by assumption) ?_ | refine Pick.mapI (by omega) (by assumption) ?_ | refine PickN.mk _ (by assumption) ?_ | refine PickN.mk _ rfl ?_ | refine PickN.au ?_ | refine App.au rfl ?_ | refine App.au (own_map (fun _ => rfl) _) ?_ | refine Both.mk ?_ ?_ | exact True.intro
    rfl
end Go.Proofs.Ytbmiffgfmlkdnaa

/- Who goes out of a loop, by the program and by the document: by contracts. -/
namespace Go.Proofs.Ytbmiffgfmlkdnaa
open Go.Ax
set_option maxRecDepth 10000
set_option linter.unusedVariables false

theorem Leaves19_spec (f : Fun) (h : Nat) (bl la : List Int) (c : Int) (hf : f.fits) (hn : f.blocks.length ≤ 1000000) (hb : bl.length ≤ 1000000) : FnSpec Try.prog 19 [funA f, .agg [num h, ints bl, ints la, num c]] (fun r => r = .osl 1 ((leavF (succsF f) bl).map int1)) := by
  have hsl := succsF_len f
  have hS := Succs95_spec f hf hn
  have htw := succsF_two f
  have hC2 := fun x : Int => Contains70_spec bl x (by omega)
  refine spec_of 10 Try.func19 rfl rfl ?_
  repeat' first | refine Len.map ?_ | refine Len.nil ?_ | refine Len.cons ?_ | refine Br.t rfl ?_ | refine Br.f rfl ?_ | refine Fit.au ?_ | refine Cv.au ?_ | refine Need.ne ?_ | refine Need.au ?_ | refine Pick.map (by assumption) ?_ | refine Pick.mapI (by omega) (by assumption) ?_ | refine PickN.mk _ (by assumption) ?_ | refine PickN.mk _ rfl ?_ | refine PickN.au ?_ | refine App.au rfl ?_ | refine App.au (own_map (fun _ => rfl) _) ?_ | refine Both.mk ?_ ?_ | exact True.intro
  refine Stop.mk (run_nilT 5 1 rfl ?_)
  refine go 1000 Try.func19 ?_
  repeat' first | refine Call.eq hS rfl ?_ | refine Len.map ?_ | refine Len.nil ?_ | refine Len.cons ?_ | refine Br.t rfl ?_ | refine Br.f rfl ?_ | refine Fit.au ?_ | refine Cv.au ?_ | refine Need.ne ?_ | refine Need.au ?_ | refine Pick.map (by assumption) ?_ | refine Pick.mapI (by omega) (by assumption) ?_ | refine PickN.mk _ (by assumption) ?_ | refine PickN.mk _ rfl ?_ | refine PickN.au ?_ | refine App.au rfl ?_ | refine App.au (own_map (fun _ => rfl) _) ?_ | refine Both.mk ?_ ?_ | exact True.intro
  unfold leavF
  generalize succsF f = s at *
  refine Stop.mk (run_frzR 3 rfl (fzLL_map fz_olsts _) ?_)
  refine loop_in (g := []) (fun k : Nat => [(3, .hp 1 0), (5, .hw 2), (9, lsts s), (10, num s.length), (11, num k)]) (fun k => [(1, .var [num h, ints bl, ints la, num c]), (2, .row 1 ((filtN k fun k => (k : Int) ∈ bl ∧ Goes s bl k).map int1))]) 4 (fun k => k ≤ s.length) (fun k => s.length - k) 0 (by omega) ⟨rfl, (by repeat' first | exact trivial | refine ⟨rfl, ?_⟩ | refine ⟨congrArg (fun n => AV.lit (.int .i64 n)) (by omega), ?_⟩ | refine ⟨congrArg (fun l => some (Row.row 1 l)) (by simp [int1, num, tru]), ?_⟩), (by repeat' first | exact trivial | refine ⟨rfl, ?_⟩ | refine ⟨congrArg (fun n => AV.lit (.int .i64 n)) (by omega), ?_⟩ | refine ⟨congrArg (fun l => some (Row.row 1 l)) (by simp [int1, num, tru]), ?_⟩)⟩ (fun k hk ih => ?_)
  have hnx := filtN_next k fun k => (k : Int) ∈ bl ∧ Goes s bl k
  have hfl := filtN_len k fun k => (k : Int) ∈ bl ∧ Goes s bl k
  generalize hcur : (filtN k fun k => (k : Int) ∈ bl ∧ Goes s bl k) = cur at *
  refine go 1000 Try.func19 ?_
  repeat' first | refine Len.map ?_ | refine Len.nil ?_ | refine Len.cons ?_ | refine Br.t rfl ?_ | refine Br.f rfl ?_ | refine Fit.au ?_ | refine Cv.au ?_ | refine Need.ne ?_ | refine Need.au ?_ | refine Pick.map (by assumption) ?_ | refine Pick.mapI (by omega) (by assumption) ?_ | refine PickN.mk _ (by assumption) ?_ | refine PickN.mk _ rfl ?_ | refine PickN.au ?_ | refine App.au rfl ?_ | refine App.au (own_map (fun _ => rfl) _) ?_ | refine Both.mk ?_ ?_ | exact True.intro
  refine Br.d (fun h2 => ?_) (fun h2 => ?_)
  · obtain ⟨row, gr, grm⟩ := getK (l := s) (k := k) (by omega)
    have hr2 := htw row grm
    have no : ¬ ((k : Int) ∈ bl ∧ Goes s bl k) → (filtN (k + 1) fun k => (k : Int) ∈ bl ∧ Goes s bl k) = cur := fun hn => by
      rw [if_neg (fun h => hn (cdec_iff.1 h)), List.append_nil] at hnx; exact hnx
    repeat' first | refine Pick.map gr ?_ | refine Call.eq (hC2 _) rfl ?_ | refine Len.map ?_ | refine Len.nil ?_ | refine Len.cons ?_ | refine Br.t rfl ?_ | refine Br.f rfl ?_ | refine Fit.au ?_ | refine Cv.au ?_ | refine Need.ne ?_ | refine Need.au ?_ | refine Pick.map (by assumption) ?_ | refine Pick.mapI (by omega) (by assumption) ?_ | refine PickN.mk _ (by assumption) ?_ | refine PickN.mk _ rfl ?_ | refine PickN.au ?_ | refine App.au rfl ?_ | refine App.au (own_map (fun _ => rfl) _) ?_ | refine Both.mk ?_ ?_ | exact True.intro
    refine Br.d (fun h3 => ?_) (fun h3 => ?_)
    · repeat' first | refine Len.map ?_ | refine Len.nil ?_ | refine Len.cons ?_ | refine Br.t rfl ?_ | refine Br.f rfl ?_ | refine Fit.au ?_ | refine Cv.au ?_ | refine Need.ne ?_ | refine Need.au ?_ | refine Pick.map (by assumption) ?_ | refine Pick.mapI (by omega) (by assumption) ?_ | refine PickN.mk _ (by assumption) ?_ | refine PickN.mk _ rfl ?_ | refine PickN.au ?_ | refine App.au rfl ?_ | refine App.au (own_map (fun _ => rfl) _) ?_ | refine Both.mk ?_ ?_ | exact True.intro
      refine Look.stop (Stop.mk ?_)
      refine run_inlC rfl (want_some rfl rfl rfl) rfl rfl rfl rfl rfl rfl rfl (goI 1000 Try.func38 ?_)
      repeat' first | refine Len.map ?_ | refine Len.nil ?_ | refine Len.cons ?_ | refine Br.t rfl ?_ | refine Br.f rfl ?_ | refine Fit.au ?_ | refine Cv.au ?_ | refine Need.ne ?_ | refine Need.au ?_ | refine Pick.map (by assumption) ?_ | refine Pick.mapI (by omega) (by assumption) ?_ | refine PickN.mk _ (by assumption) ?_ | refine PickN.mk _ rfl ?_ | refine PickN.au ?_ | refine App.au rfl ?_ | refine App.au (own_map (fun _ => rfl) _) ?_ | refine Both.mk ?_ ?_ | exact True.intro
      refine Look.stop (Stop.mk ?_)
      refine run_inlC rfl want_none rfl rfl rfl rfl rfl rfl rfl (goI 1000 Try.func53 ?_)
      repeat' first | refine Len.map ?_ | refine Len.nil ?_ | refine Len.cons ?_ | refine Br.t rfl ?_ | refine Br.f rfl ?_ | refine Fit.au ?_ | refine Cv.au ?_ | refine Need.ne ?_ | refine Need.au ?_ | refine Pick.map (by assumption) ?_ | refine Pick.mapI (by omega) (by assumption) ?_ | refine PickN.mk _ (by assumption) ?_ | refine PickN.mk _ rfl ?_ | refine PickN.au ?_ | refine App.au rfl ?_ | refine App.au (own_map (fun _ => rfl) _) ?_ | refine Both.mk ?_ ?_ | exact True.intro
      refine Stop.mk (loop_in (g := []) (fun q : Nat => [(0, ints row), (1, .fn 39 [.hp 1 0]), (7, num row.length), (8, num q)]) (fun q => [(1, .var [num h, ints bl, ints la, num c]), (2, .row 1 (cur.map int1))]) 4 (fun q => q ≤ row.length ∧ ∀ x ∈ row.take q, x ∈ bl) (fun q => row.length - q) 0 ⟨by omega, by simp⟩ ⟨rfl, (by repeat' first | exact trivial | refine ⟨rfl, ?_⟩ | refine ⟨congrArg (fun n => AV.lit (.int .i64 n)) (by omega), ?_⟩ | refine ⟨congrArg (fun l => some (Row.row 1 l)) (by simp [int1, num, tru]), ?_⟩), (by repeat' first | exact trivial | refine ⟨rfl, ?_⟩ | refine ⟨congrArg (fun n => AV.lit (.int .i64 n)) (by omega), ?_⟩ | refine ⟨congrArg (fun l => some (Row.row 1 l)) (by simp [int1, num, tru]), ?_⟩)⟩ (fun q hq ih2 => ?_))
      obtain ⟨hq, hw⟩ := hq
      refine goI 1000 Try.func53 ?_
      repeat' first | refine Len.map ?_ | refine Len.nil ?_ | refine Len.cons ?_ | refine Br.t rfl ?_ | refine Br.f rfl ?_ | refine Fit.au ?_ | refine Cv.au ?_ | refine Need.ne ?_ | refine Need.au ?_ | refine Pick.map (by assumption) ?_ | refine Pick.mapI (by omega) (by assumption) ?_ | refine PickN.mk _ (by assumption) ?_ | refine PickN.mk _ rfl ?_ | refine PickN.au ?_ | refine App.au rfl ?_ | refine App.au (own_map (fun _ => rfl) _) ?_ | refine Both.mk ?_ ?_ | exact True.intro
      refine Br.d (fun h4 => ?_) (fun h4 => ?_)
      · obtain ⟨x, gx, gxm⟩ := getK (l := row) (k := q) (by omega)
        repeat' first | refine Pick.map gx ?_ | refine Len.map ?_ | refine Len.nil ?_ | refine Len.cons ?_ | refine Br.t rfl ?_ | refine Br.f rfl ?_ | refine Fit.au ?_ | refine Cv.au ?_ | refine Need.ne ?_ | refine Need.au ?_ | refine Pick.map (by assumption) ?_ | refine Pick.mapI (by omega) (by assumption) ?_ | refine PickN.mk _ (by assumption) ?_ | refine PickN.mk _ rfl ?_ | refine PickN.au ?_ | refine App.au rfl ?_ | refine App.au (own_map (fun _ => rfl) _) ?_ | refine Both.mk ?_ ?_ | exact True.intro
        refine Dyn.mk _ _ rfl rfl rfl (goI 1000 Try.func39 ?_)
        repeat' first | refine Call.eq (hC2 _) rfl ?_ | refine Len.map ?_ | refine Len.nil ?_ | refine Len.cons ?_ | refine Br.t rfl ?_ | refine Br.f rfl ?_ | refine Fit.au ?_ | refine Cv.au ?_ | refine Need.ne ?_ | refine Need.au ?_ | refine Pick.map (by assumption) ?_ | refine Pick.mapI (by omega) (by assumption) ?_ | refine PickN.mk _ (by assumption) ?_ | refine PickN.mk _ rfl ?_ | refine PickN.au ?_ | refine App.au rfl ?_ | refine App.au (own_map (fun _ => rfl) _) ?_ | refine Both.mk ?_ ?_ | exact True.intro
        refine Br.nd (fun h5 => ?_) (fun h5 => ?_)
        · have hG : Goes s bl k := ⟨row, x, by rw [Int.toNat_natCast]; exact gr, gxm, h5⟩
          rw [if_pos (cdec_iff.2 ⟨h3, hG⟩)] at hnx
          repeat' first | refine Len.map ?_ | refine Len.nil ?_ | refine Len.cons ?_ | refine Br.t rfl ?_ | refine Br.f rfl ?_ | refine Fit.au ?_ | refine Cv.au ?_ | refine Need.ne ?_ | refine Need.au ?_ | refine Pick.map (by assumption) ?_ | refine Pick.mapI (by omega) (by assumption) ?_ | refine PickN.mk _ (by assumption) ?_ | refine PickN.mk _ rfl ?_ | refine PickN.au ?_ | refine App.au rfl ?_ | refine App.au (own_map (fun _ => rfl) _) ?_ | refine Both.mk ?_ ?_ | exact True.intro
          refine goI 1000 Try.func38 ?_
          repeat' first | refine Len.map ?_ | refine Len.nil ?_ | refine Len.cons ?_ | refine Br.t rfl ?_ | refine Br.f rfl ?_ | refine Fit.au ?_ | refine Cv.au ?_ | refine Need.ne ?_ | refine Need.au ?_ | refine Pick.map (by assumption) ?_ | refine Pick.mapI (by omega) (by assumption) ?_ | refine PickN.mk _ (by assumption) ?_ | refine PickN.mk _ rfl ?_ | refine PickN.au ?_ | refine App.au rfl ?_ | refine App.au (own_map (fun _ => rfl) _) ?_ | refine Both.mk ?_ ?_ | exact True.intro
          refine go 1000 Try.func19 ?_
          repeat' first | refine Len.map ?_ | refine Len.nil ?_ | refine Len.cons ?_ | refine Br.t rfl ?_ | refine Br.f rfl ?_ | refine Fit.au ?_ | refine Cv.au ?_ | refine Need.ne ?_ | refine Need.au ?_ | refine Pick.map (by assumption) ?_ | refine Pick.mapI (by omega) (by assumption) ?_ | refine PickN.mk _ (by assumption) ?_ | refine PickN.mk _ rfl ?_ | refine PickN.au ?_ | refine App.au rfl ?_ | refine App.au (own_map (fun _ => rfl) _) ?_ | refine Both.mk ?_ ?_ | exact True.intro
          refine Stop.mk (ih (k + 1) (g := [(2, 5)]) _ _ _ (by omega) (by omega) ?_)
          rw [hnx, List.map_append]
          exact ⟨rfl, (by repeat' first | exact trivial | refine ⟨rfl, ?_⟩ | refine ⟨congrArg (fun n => AV.lit (.int .i64 n)) (by omega), ?_⟩ | refine ⟨congrArg (fun l => some (Row.row 1 l)) (by simp [int1, num, tru]), ?_⟩), (by repeat' first | exact trivial | refine ⟨rfl, ?_⟩ | refine ⟨congrArg (fun n => AV.lit (.int .i64 n)) (by omega), ?_⟩ | refine ⟨congrArg (fun l => some (Row.row 1 l)) (by simp [int1, num, tru]), ?_⟩)⟩
        · repeat' first | refine Len.map ?_ | refine Len.nil ?_ | refine Len.cons ?_ | refine Br.t rfl ?_ | refine Br.f rfl ?_ | refine Fit.au ?_ | refine Cv.au ?_ | refine Need.ne ?_ | refine Need.au ?_ | refine Pick.map (by assumption) ?_ | refine Pick.mapI (by omega) (by assumption) ?_ | refine PickN.mk _ (by assumption) ?_ | refine PickN.mk _ rfl ?_ | refine PickN.au ?_ | refine App.au rfl ?_ | refine App.au (own_map (fun _ => rfl) _) ?_ | refine Both.mk ?_ ?_ | exact True.intro
          refine Stop.mk (ih2 (q + 1) (g := []) _ _ _ ⟨by omega, ?_⟩ (by omega) ⟨rfl, (by repeat' first | exact trivial | refine ⟨rfl, ?_⟩ | refine ⟨congrArg (fun n => AV.lit (.int .i64 n)) (by omega), ?_⟩ | refine ⟨congrArg (fun l => some (Row.row 1 l)) (by simp [int1, num, tru]), ?_⟩), (by repeat' first | exact trivial | refine ⟨rfl, ?_⟩ | refine ⟨congrArg (fun n => AV.lit (.int .i64 n)) (by omega), ?_⟩ | refine ⟨congrArg (fun l => some (Row.row 1 l)) (by simp [int1, num, tru]), ?_⟩)⟩)
          rw [take_succ gx]
          intro z hz
          rcases List.mem_append.1 hz with hz | hz
          · exact hw z hz
          · rw [List.mem_singleton.1 hz]; exact h5
      · rw [take_all (by omega)] at hw
        have hn := no fun h => by
          obtain ⟨r, t, gr2, hm, ht⟩ := h.2
          rw [Int.toNat_natCast, gr] at gr2; cases gr2
          exact ht (hw t hm)
        repeat' first | refine Len.map ?_ | refine Len.nil ?_ | refine Len.cons ?_ | refine Br.t rfl ?_ | refine Br.f rfl ?_ | refine Fit.au ?_ | refine Cv.au ?_ | refine Need.ne ?_ | refine Need.au ?_ | refine Pick.map (by assumption) ?_ | refine Pick.mapI (by omega) (by assumption) ?_ | refine PickN.mk _ (by assumption) ?_ | refine PickN.mk _ rfl ?_ | refine PickN.au ?_ | refine App.au rfl ?_ | refine App.au (own_map (fun _ => rfl) _) ?_ | refine Both.mk ?_ ?_ | exact True.intro
        refine goI 1000 Try.func38 ?_
        repeat' first | refine Len.map ?_ | refine Len.nil ?_ | refine Len.cons ?_ | refine Br.t rfl ?_ | refine Br.f rfl ?_ | refine Fit.au ?_ | refine Cv.au ?_ | refine Need.ne ?_ | refine Need.au ?_ | refine Pick.map (by assumption) ?_ | refine Pick.mapI (by omega) (by assumption) ?_ | refine PickN.mk _ (by assumption) ?_ | refine PickN.mk _ rfl ?_ | refine PickN.au ?_ | refine App.au rfl ?_ | refine App.au (own_map (fun _ => rfl) _) ?_ | refine Both.mk ?_ ?_ | exact True.intro
        refine go 1000 Try.func19 ?_
        repeat' first | refine Len.map ?_ | refine Len.nil ?_ | refine Len.cons ?_ | refine Br.t rfl ?_ | refine Br.f rfl ?_ | refine Fit.au ?_ | refine Cv.au ?_ | refine Need.ne ?_ | refine Need.au ?_ | refine Pick.map (by assumption) ?_ | refine Pick.mapI (by omega) (by assumption) ?_ | refine PickN.mk _ (by assumption) ?_ | refine PickN.mk _ rfl ?_ | refine PickN.au ?_ | refine App.au rfl ?_ | refine App.au (own_map (fun _ => rfl) _) ?_ | refine Both.mk ?_ ?_ | exact True.intro
        refine Stop.mk (ih (k + 1) (g := []) _ _ _ (by omega) (by omega) ?_)
        rw [hn]
        exact ⟨rfl, (by repeat' first | exact trivial | refine ⟨rfl, ?_⟩ | refine ⟨congrArg (fun n => AV.lit (.int .i64 n)) (by omega), ?_⟩ | refine ⟨congrArg (fun l => some (Row.row 1 l)) (by simp [int1, num, tru]), ?_⟩), (by repeat' first | exact trivial | refine ⟨rfl, ?_⟩ | refine ⟨congrArg (fun n => AV.lit (.int .i64 n)) (by omega), ?_⟩ | refine ⟨congrArg (fun l => some (Row.row 1 l)) (by simp [int1, num, tru]), ?_⟩)⟩
    · have hn := no fun h => h3 h.1
      repeat' first | refine Len.map ?_ | refine Len.nil ?_ | refine Len.cons ?_ | refine Br.t rfl ?_ | refine Br.f rfl ?_ | refine Fit.au ?_ | refine Cv.au ?_ | refine Need.ne ?_ | refine Need.au ?_ | refine Pick.map (by assumption) ?_ | refine Pick.mapI (by omega) (by assumption) ?_ | refine PickN.mk _ (by assumption) ?_ | refine PickN.mk _ rfl ?_ | refine PickN.au ?_ | refine App.au rfl ?_ | refine App.au (own_map (fun _ => rfl) _) ?_ | refine Both.mk ?_ ?_ | exact True.intro
      refine Stop.mk (ih (k + 1) (g := []) _ _ _ (by omega) (by omega) ?_)
      rw [hn]
      exact ⟨rfl, (by repeat' first | exact trivial | refine ⟨rfl, ?_⟩ | refine ⟨congrArg (fun n => AV.lit (.int .i64 n)) (by omega), ?_⟩ | refine ⟨congrArg (fun l => some (Row.row 1 l)) (by simp [int1, num, tru]), ?_⟩), (by repeat' first | exact trivial | refine ⟨rfl, ?_⟩ | refine ⟨congrArg (fun n => AV.lit (.int .i64 n)) (by omega), ?_⟩ | refine ⟨congrArg (fun l => some (Row.row 1 l)) (by simp [int1, num, tru]), ?_⟩)⟩
  · obtain rfl : k = s.length := by omega
    rw [hcur]
    repeat' first | refine Len.map ?_ | refine Len.nil ?_ | refine Len.cons ?_ | refine Br.t rfl ?_ | refine Br.f rfl ?_ | refine Fit.au ?_ | refine Cv.au ?_ | refine Need.ne ?_ | refine Need.au ?_ | refine Pick.map (by assumption) ?_ | refine Pick.mapI (by omega) (by assumption) ?_ | refine PickN.mk _ (by assumption) ?_ | refine PickN.mk _ rfl ?_ | refine PickN.au ?_ | refine App.au rfl ?_ | refine App.au (own_map (fun _ => rfl) _) ?_ | refine Both.mk ?_ ?_ | exact True.intro
    show _ = _
    rfl
theorem Leaves20_spec (f : Fun) (h : Nat) (bl la : List Int) (c : Int) (hf : f.fits) (hn : f.blocks.length ≤ 1000000) (hb : bl.length ≤ 1000000) (hp : bl.Pairwise (· < ·)) (hbn : ∀ x ∈ bl, 0 ≤ x ∧ x < f.blocks.length) : FnSpec Try.prog 20 [funA f, .agg [num h, ints bl, ints la, num c]] (fun r => r = .osl 1 ((leavF (succsF f) bl).map int1)) := by
  have hsl := succsF_len f
  have hS := Succs_spec f hf hn
  have htw := succsF_two f
  have hC2 := fun x : Int => HasInt_spec bl x (by omega)
  rw [← hsl] at hbn
  have hlast := leavF_of hp hbn
  refine spec_of 1000 Try.func20 rfl rfl ?_
  repeat' first | refine Call.eq hS rfl ?_ | refine Len.map ?_ | refine Len.nil ?_ | refine Len.cons ?_ | refine Br.t rfl ?_ | refine Br.f rfl ?_ | refine Fit.au ?_ | refine Cv.au ?_ | refine Need.ne ?_ | refine Need.au ?_ | refine Pick.map (by assumption) ?_ | refine Pick.mapI (by omega) (by assumption) ?_ | refine PickN.mk _ (by assumption) ?_ | refine PickN.mk _ rfl ?_ | refine PickN.au ?_ | refine App.au rfl ?_ | refine App.au (own_map (fun _ => rfl) _) ?_ | refine Both.mk ?_ ?_ | exact True.intro
  rw [← hlast]
  generalize succsF f = s at *
  refine Stop.mk (run_frzR 3 rfl (fzLL_map fz_olsts _) ?_)
  refine loop_in (g := []) (fun k : Nat => [(3, .hp 1 0), (5, .hw 2), (6, lsts s), (7, num k)]) (fun k => [(1, .var [num h, ints bl, ints la, num c]), (2, .row 1 (((bl.take k).filter fun x => cdec (Goes s bl x)).map int1))]) 4 (fun k => k ≤ bl.length) (fun k => bl.length - k) 0 (by omega) ⟨rfl, (by repeat' first | exact trivial | refine ⟨rfl, ?_⟩ | refine ⟨congrArg (fun n => AV.lit (.int .i64 n)) (by omega), ?_⟩ | refine ⟨congrArg (fun l => some (Row.row 1 l)) (by simp [int1, num, tru]), ?_⟩), (by repeat' first | exact trivial | refine ⟨rfl, ?_⟩ | refine ⟨congrArg (fun n => AV.lit (.int .i64 n)) (by omega), ?_⟩ | refine ⟨congrArg (fun l => some (Row.row 1 l)) (by simp [int1, num, tru]), ?_⟩)⟩ (fun k hk ih => ?_)
  have hcl : ((bl.take k).filter fun x => cdec (Goes s bl x)).length ≤ k := by
    have := List.length_filter_le (fun x => cdec (Goes s bl x)) (bl.take k)
    rw [List.length_take] at this; omega
  refine go 1000 Try.func20 ?_
  repeat' first | refine Len.map ?_ | refine Len.nil ?_ | refine Len.cons ?_ | refine Br.t rfl ?_ | refine Br.f rfl ?_ | refine Fit.au ?_ | refine Cv.au ?_ | refine Need.ne ?_ | refine Need.au ?_ | refine Pick.map (by assumption) ?_ | refine Pick.mapI (by omega) (by assumption) ?_ | refine PickN.mk _ (by assumption) ?_ | refine PickN.mk _ rfl ?_ | refine PickN.au ?_ | refine App.au rfl ?_ | refine App.au (own_map (fun _ => rfl) _) ?_ | refine Both.mk ?_ ?_ | exact True.intro
  refine Br.d (fun h2 => ?_) (fun h2 => ?_)
  · obtain ⟨x, gx, gxm⟩ := getK (l := bl) (k := k) (by omega)
    have hx := hbn x gxm
    obtain ⟨p, rfl⟩ : ∃ p : Nat, x = p := ⟨x.toNat, by omega⟩
    obtain ⟨row, gr, grm⟩ := getK (l := s) (k := p) (by omega)
    have hr2 := htw row grm
    have hnx := filter_take_succ (p := fun x => cdec (Goes s bl x)) gx
    generalize ((bl.take k).filter fun x => cdec (Goes s bl x)) = cur at *
    repeat' first | refine Len.map ?_ | refine Len.nil ?_ | refine Len.cons ?_ | refine Br.t rfl ?_ | refine Br.f rfl ?_ | refine Fit.au ?_ | refine Cv.au ?_ | refine Need.ne ?_ | refine Need.au ?_ | refine Pick.map (by assumption) ?_ | refine Pick.mapI (by omega) (by assumption) ?_ | refine PickN.mk _ (by assumption) ?_ | refine PickN.mk _ rfl ?_ | refine PickN.au ?_ | refine App.au rfl ?_ | refine App.au (own_map (fun _ => rfl) _) ?_ | refine Both.mk ?_ ?_ | exact True.intro
    refine Stop.mk (loop_in (g := []) (fun q : Bool × Nat => [(3, .hp 1 0), (5, .hw 2), (6, lsts s), (7, num k), (8, tru q.1), (9, num q.2)]) (fun q => [(1, .var [num h, ints bl, ints la, num c]), (2, .row 1 (cur.map int1))]) 4 (fun q => q.2 ≤ row.length ∧ (q.1 = true ↔ ∃ t ∈ row.take q.2, t ∉ bl)) (fun q => row.length - q.2) (false, 0) ⟨by simp only; omega, by simp⟩ ⟨rfl, (by repeat' first | exact trivial | refine ⟨rfl, ?_⟩ | refine ⟨congrArg (fun n => AV.lit (.int .i64 n)) (by omega), ?_⟩ | refine ⟨congrArg (fun l => some (Row.row 1 l)) (by simp [int1, num, tru]), ?_⟩), (by repeat' first | exact trivial | refine ⟨rfl, ?_⟩ | refine ⟨congrArg (fun n => AV.lit (.int .i64 n)) (by omega), ?_⟩ | refine ⟨congrArg (fun l => some (Row.row 1 l)) (by simp [int1, num, tru]), ?_⟩)⟩ (fun q hq ih2 => ?_))
    obtain ⟨v, j⟩ := q
    obtain ⟨hj, hv⟩ := hq
    dsimp only at hj hv ih2 ⊢
    refine go 1000 Try.func20 ?_
    repeat' first | refine Pick.map gx ?_ | refine Pick.map gr ?_ | refine Len.map ?_ | refine Len.nil ?_ | refine Len.cons ?_ | refine Br.t rfl ?_ | refine Br.f rfl ?_ | refine Fit.au ?_ | refine Cv.au ?_ | refine Need.ne ?_ | refine Need.au ?_ | refine Pick.map (by assumption) ?_ | refine Pick.mapI (by omega) (by assumption) ?_ | refine PickN.mk _ (by assumption) ?_ | refine PickN.mk _ rfl ?_ | refine PickN.au ?_ | refine App.au rfl ?_ | refine App.au (own_map (fun _ => rfl) _) ?_ | refine Both.mk ?_ ?_ | exact True.intro
    refine Br.d (fun h3 => ?_) (fun h3 => ?_)
    · obtain ⟨t, gt, gtm⟩ := getK (l := row) (k := j) (by omega)
      cases v with
      | true =>
        repeat' first | refine Draw.mk (ordL [15] [0, 1, 2, 3, 4, 5, 6, 7, 8, 9, 10, 11, 12, 13, 14, 15, 16, 17, 18]) (by decide +kernel) ?_ | refine Len.map ?_ | refine Len.nil ?_ | refine Len.cons ?_ | refine Br.t rfl ?_ | refine Br.f rfl ?_ | refine Fit.au ?_ | refine Cv.au ?_ | refine Need.ne ?_ | refine Need.au ?_ | refine Pick.map (by assumption) ?_ | refine Pick.mapI (by omega) (by assumption) ?_ | refine PickN.mk _ (by assumption) ?_ | refine PickN.mk _ rfl ?_ | refine PickN.au ?_ | refine App.au rfl ?_ | refine App.au (own_map (fun _ => rfl) _) ?_ | refine Both.mk ?_ ?_ | exact True.intro
        refine Stop.mk (ih2 (true, j + 1) (g := []) _ _ _ ⟨by simp only; omega, fun _ => ?_, fun _ => rfl⟩ (by simp only; omega) ⟨rfl, (by repeat' first | exact trivial | refine ⟨rfl, ?_⟩ | refine ⟨congrArg (fun n => AV.lit (.int .i64 n)) (by omega), ?_⟩ | refine ⟨congrArg (fun l => some (Row.row 1 l)) (by simp [int1, num, tru]), ?_⟩), (by repeat' first | exact trivial | refine ⟨rfl, ?_⟩ | refine ⟨congrArg (fun n => AV.lit (.int .i64 n)) (by omega), ?_⟩ | refine ⟨congrArg (fun l => some (Row.row 1 l)) (by simp [int1, num, tru]), ?_⟩)⟩)
        obtain ⟨z, hz, hzn⟩ := hv.1 rfl
        exact ⟨z, by rw [take_succ gt]; exact List.mem_append_left _ hz, hzn⟩
      | false =>
        have off : ∀ z ∈ row.take j, z ∈ bl := fun z hz => Classical.byContradiction fun hn => by have := hv.2 ⟨z, hz, hn⟩; cases this
        repeat' first | refine Draw.mk (ordL [15] [0, 1, 2, 3, 4, 5, 6, 7, 8, 9, 10, 11, 12, 13, 14, 15, 16, 17, 18]) (by decide +kernel) ?_ | refine Pick.map gx ?_ | refine Pick.map gr ?_ | refine Pick.map gt ?_ | refine Call.eq (hC2 _) rfl ?_ | refine Len.map ?_ | refine Len.nil ?_ | refine Len.cons ?_ | refine Br.t rfl ?_ | refine Br.f rfl ?_ | refine Fit.au ?_ | refine Cv.au ?_ | refine Need.ne ?_ | refine Need.au ?_ | refine Pick.map (by assumption) ?_ | refine Pick.mapI (by omega) (by assumption) ?_ | refine PickN.mk _ (by assumption) ?_ | refine PickN.mk _ rfl ?_ | refine PickN.au ?_ | refine App.au rfl ?_ | refine App.au (own_map (fun _ => rfl) _) ?_ | refine Both.mk ?_ ?_ | exact True.intro
        all_goals
          refine Stop.mk (ih2 (!decide (t ∈ bl), j + 1) (g := []) _ _ _ ⟨by simp only; omega, ?_⟩ (by simp only; omega) ⟨rfl, (by repeat' first | exact trivial | refine ⟨rfl, ?_⟩ | refine ⟨congrArg (fun n => AV.lit (.int .i64 n)) (by omega), ?_⟩ | refine ⟨congrArg (fun l => some (Row.row 1 l)) (by simp [int1, num, tru]), ?_⟩), (by repeat' first | exact trivial | refine ⟨rfl, ?_⟩ | refine ⟨congrArg (fun n => AV.lit (.int .i64 n)) (by omega), ?_⟩ | refine ⟨congrArg (fun l => some (Row.row 1 l)) (by simp [int1, num, tru]), ?_⟩)⟩)
          simp only [take_succ gt, List.mem_append, List.mem_singleton]
          constructor
          · intro e
            exact ⟨t, .inr rfl, by simpa using e⟩
          · rintro ⟨z, hz | rfl, hzn⟩
            · exact absurd (off z hz) hzn
            · simpa using hzn
    · rw [take_all (by omega)] at hv
      have hG : v = true ↔ Goes s bl (p : Int) := by
        rw [hv]
        constructor
        · rintro ⟨t, hm, ht⟩
          exact ⟨row, t, by rw [Int.toNat_natCast]; exact gr, hm, ht⟩
        · rintro ⟨r, t, gr2, hm, ht⟩
          rw [Int.toNat_natCast, gr] at gr2; cases gr2
          exact ⟨t, hm, ht⟩
      cases v with
      | true =>
        rw [if_pos (cdec_iff.2 (hG.1 rfl))] at hnx
        repeat' first | refine Pick.map gx ?_ | refine Len.map ?_ | refine Len.nil ?_ | refine Len.cons ?_ | refine Br.t rfl ?_ | refine Br.f rfl ?_ | refine Fit.au ?_ | refine Cv.au ?_ | refine Need.ne ?_ | refine Need.au ?_ | refine Pick.map (by assumption) ?_ | refine Pick.mapI (by omega) (by assumption) ?_ | refine PickN.mk _ (by assumption) ?_ | refine PickN.mk _ rfl ?_ | refine PickN.au ?_ | refine App.au rfl ?_ | refine App.au (own_map (fun _ => rfl) _) ?_ | refine Both.mk ?_ ?_ | exact True.intro
        refine Stop.mk (ih (k + 1) (g := [(2, 5)]) _ _ _ (by omega) (by omega) ?_)
        rw [hnx, List.map_append]
        exact ⟨rfl, (by repeat' first | exact trivial | refine ⟨rfl, ?_⟩ | refine ⟨congrArg (fun n => AV.lit (.int .i64 n)) (by omega), ?_⟩ | refine ⟨congrArg (fun l => some (Row.row 1 l)) (by simp [int1, num, tru]), ?_⟩), (by repeat' first | exact trivial | refine ⟨rfl, ?_⟩ | refine ⟨congrArg (fun n => AV.lit (.int .i64 n)) (by omega), ?_⟩ | refine ⟨congrArg (fun l => some (Row.row 1 l)) (by simp [int1, num, tru]), ?_⟩)⟩
      | false =>
        rw [if_neg (fun h => by have := hG.2 (cdec_iff.1 h); cases this), List.append_nil] at hnx
        repeat' first | refine Len.map ?_ | refine Len.nil ?_ | refine Len.cons ?_ | refine Br.t rfl ?_ | refine Br.f rfl ?_ | refine Fit.au ?_ | refine Cv.au ?_ | refine Need.ne ?_ | refine Need.au ?_ | refine Pick.map (by assumption) ?_ | refine Pick.mapI (by omega) (by assumption) ?_ | refine PickN.mk _ (by assumption) ?_ | refine PickN.mk _ rfl ?_ | refine PickN.au ?_ | refine App.au rfl ?_ | refine App.au (own_map (fun _ => rfl) _) ?_ | refine Both.mk ?_ ?_ | exact True.intro
        refine Stop.mk (ih (k + 1) (g := []) _ _ _ (by omega) (by omega) ?_)
        rw [hnx]
        exact ⟨rfl, (by repeat' first | exact trivial | refine ⟨rfl, ?_⟩ | refine ⟨congrArg (fun n => AV.lit (.int .i64 n)) (by omega), ?_⟩ | refine ⟨congrArg (fun l => some (Row.row 1 l)) (by simp [int1, num, tru]), ?_⟩), (by repeat' first | exact trivial | refine ⟨rfl, ?_⟩ | refine ⟨congrArg (fun n => AV.lit (.int .i64 n)) (by omega), ?_⟩ | refine ⟨congrArg (fun l => some (Row.row 1 l)) (by simp [int1, num, tru]), ?_⟩)⟩
  · rw [take_all (by omega)]
    repeat' first | refine Len.map ?_ | refine Len.nil ?_ | refine Len.cons ?_ | refine Br.t rfl ?_ | refine Br.f rfl ?_ | refine Fit.au ?_ | refine Cv.au ?_ | refine Need.ne ?_ | refine Need.au ?_ | refine Pick.map (by assumption) ?_ | refine Pick.mapI (by omega) (by assumption) ?_ | refine PickN.mk _ (by assumption) ?_ | refine PickN.mk _ rfl ?_ | refine PickN.au ?_ | refine App.au rfl ?_ | refine App.au (own_map (fun _ => rfl) _) ?_ | refine Both.mk ?_ ?_ | exact True.intro
    rfl
end Go.Proofs.Ytbmiffgfmlkdnaa

/- In which loops none lies, by a contract. -/
namespace Go.Proofs.Ytbmiffgfmlkdnaa
open Go.Ax
set_option maxRecDepth 10000
set_option linter.unusedVariables false

theorem Inner22_spec (ls : List Lp1) (hn : ls.length ≤ 1000000) (hb : ∀ x ∈ ls, x.blocks.length ≤ 1000000) : FnSpec Try.prog 22 [.sl false 4 (ls.map Lp1.cs)] (fun r => r = .osl 1 ((innF ls).map int1)) := by
  refine spec_of 8 Try.func22 rfl rfl ?_
  repeat' first | refine Len.map ?_ | refine Len.nil ?_ | refine Len.cons ?_ | refine Br.t rfl ?_ | refine Br.f rfl ?_ | refine Fit.au ?_ | refine Cv.au ?_ | refine Need.ne ?_ | refine Need.au ?_ | refine Pick.map (by assumption) ?_ | refine Pick.mapI (by omega) (by assumption) ?_ | refine PickN.mk _ (by assumption) ?_ | refine PickN.mk _ rfl ?_ | refine PickN.au ?_ | refine App.au rfl ?_ | refine App.au (own_map (fun _ => rfl) _) ?_ | refine Both.mk ?_ ?_ | exact True.intro
  refine Stop.mk (run_nilT 3 1 rfl ?_)
  refine go 1000 Try.func22 ?_
  repeat' first | refine Len.map ?_ | refine Len.nil ?_ | refine Len.cons ?_ | refine Br.t rfl ?_ | refine Br.f rfl ?_ | refine Fit.au ?_ | refine Cv.au ?_ | refine Need.ne ?_ | refine Need.au ?_ | refine Pick.map (by assumption) ?_ | refine Pick.mapI (by omega) (by assumption) ?_ | refine PickN.mk _ (by assumption) ?_ | refine PickN.mk _ rfl ?_ | refine PickN.au ?_ | refine App.au rfl ?_ | refine App.au (own_map (fun _ => rfl) _) ?_ | refine Both.mk ?_ ?_ | exact True.intro
  unfold innF
  refine Stop.mk (loop_in (g := []) (fun k : Nat => [(0, .sl false 4 (ls.map Lp1.cs)), (3, .hw 0), (6, .sl false 4 (ls.map Lp1.cs)), (7, num ls.length), (8, num k)]) (fun k => [(0, .row 1 ((filtN k fun i => ∀ (x y : Lp1) (k : Nat), ls[i]? = some x → ls[k]? = some y → liesB y x = false).map int1))]) 1 (fun k => k ≤ ls.length) (fun k => ls.length - k) 0 (by omega) ⟨rfl, (by repeat' first | exact trivial | refine ⟨rfl, ?_⟩ | refine ⟨congrArg (fun n => AV.lit (.int .i64 n)) (by omega), ?_⟩ | refine ⟨congrArg (fun l => some (Row.row 1 l)) (by simp [int1, num, tru]), ?_⟩), (by repeat' first | exact trivial | refine ⟨rfl, ?_⟩ | refine ⟨congrArg (fun n => AV.lit (.int .i64 n)) (by omega), ?_⟩ | refine ⟨congrArg (fun l => some (Row.row 1 l)) (by simp [int1, num, tru]), ?_⟩)⟩ (fun k hk ih => ?_))
  have hnx := filtN_next k fun i => ∀ (x y : Lp1) (k : Nat), ls[i]? = some x → ls[k]? = some y → liesB y x = false
  have hfl := filtN_len k fun i => ∀ (x y : Lp1) (k : Nat), ls[i]? = some x → ls[k]? = some y → liesB y x = false
  generalize hcur : (filtN k fun i => ∀ (x y : Lp1) (k : Nat), ls[i]? = some x → ls[k]? = some y → liesB y x = false) = cur at *
  refine go 1000 Try.func22 ?_
  repeat' first | refine Len.map ?_ | refine Len.nil ?_ | refine Len.cons ?_ | refine Br.t rfl ?_ | refine Br.f rfl ?_ | refine Fit.au ?_ | refine Cv.au ?_ | refine Need.ne ?_ | refine Need.au ?_ | refine Pick.map (by assumption) ?_ | refine Pick.mapI (by omega) (by assumption) ?_ | refine PickN.mk _ (by assumption) ?_ | refine PickN.mk _ rfl ?_ | refine PickN.au ?_ | refine App.au rfl ?_ | refine App.au (own_map (fun _ => rfl) _) ?_ | refine Both.mk ?_ ?_ | exact True.intro
  refine Br.d (fun h2 => ?_) (fun h2 => ?_)
  · obtain ⟨x, gx, gxm⟩ := getK (l := ls) (k := k) (by omega)
    have hxb := hb x gxm
    repeat' first | refine Pick.map gx ?_ | refine Len.map ?_ | refine Len.nil ?_ | refine Len.cons ?_ | refine Br.t rfl ?_ | refine Br.f rfl ?_ | refine Fit.au ?_ | refine Cv.au ?_ | refine Need.ne ?_ | refine Need.au ?_ | refine Pick.map (by assumption) ?_ | refine Pick.mapI (by omega) (by assumption) ?_ | refine PickN.mk _ (by assumption) ?_ | refine PickN.mk _ rfl ?_ | refine PickN.au ?_ | refine App.au rfl ?_ | refine App.au (own_map (fun _ => rfl) _) ?_ | refine Both.mk ?_ ?_ | exact True.intro
    all_goals
      refine Look.stop (Stop.mk ?_)
      refine run_inlC rfl want_none rfl rfl rfl rfl rfl rfl rfl (goI 1000 Try.func40 ?_)
      repeat' first | refine Len.map ?_ | refine Len.nil ?_ | refine Len.cons ?_ | refine Br.t rfl ?_ | refine Br.f rfl ?_ | refine Fit.au ?_ | refine Cv.au ?_ | refine Need.ne ?_ | refine Need.au ?_ | refine Pick.map (by assumption) ?_ | refine Pick.mapI (by omega) (by assumption) ?_ | refine PickN.mk _ (by assumption) ?_ | refine PickN.mk _ rfl ?_ | refine PickN.au ?_ | refine App.au rfl ?_ | refine App.au (own_map (fun _ => rfl) _) ?_ | refine Both.mk ?_ ?_ | exact True.intro
      refine Look.stop (Stop.mk ?_)
      refine run_inlC rfl want_none rfl rfl rfl rfl rfl rfl rfl (goI 1000 Try.func54 ?_)
      repeat' first | refine Len.map ?_ | refine Len.nil ?_ | refine Len.cons ?_ | refine Br.t rfl ?_ | refine Br.f rfl ?_ | refine Fit.au ?_ | refine Cv.au ?_ | refine Need.ne ?_ | refine Need.au ?_ | refine Pick.map (by assumption) ?_ | refine Pick.mapI (by omega) (by assumption) ?_ | refine PickN.mk _ (by assumption) ?_ | refine PickN.mk _ rfl ?_ | refine PickN.au ?_ | refine App.au rfl ?_ | refine App.au (own_map (fun _ => rfl) _) ?_ | refine Both.mk ?_ ?_ | exact True.intro
      refine Stop.mk (loop_in (g := []) (fun q : Nat => [(0, .sl false 4 (ls.map Lp1.cs)), (1, .fn 41 [.hp 1 0]), (7, num ls.length), (8, num q)]) (fun q => [(0, .row 1 (cur.map int1)), (1, .var x.cs)]) 2 (fun q => q ≤ ls.length ∧ ∀ (c : Nat) (y : Lp1), c < q → ls[c]? = some y → liesB y x = false) (fun q => ls.length - q) 0 ⟨by omega, fun c y hc => by omega⟩ ⟨rfl, (by repeat' first | exact trivial | refine ⟨rfl, ?_⟩ | refine ⟨congrArg (fun n => AV.lit (.int .i64 n)) (by omega), ?_⟩ | refine ⟨congrArg (fun l => some (Row.row 1 l)) (by simp [int1, num, tru]), ?_⟩), (by repeat' first | exact trivial | refine ⟨rfl, ?_⟩ | refine ⟨congrArg (fun n => AV.lit (.int .i64 n)) (by omega), ?_⟩ | refine ⟨congrArg (fun l => some (Row.row 1 l)) (by simp [int1, num, tru]), ?_⟩)⟩ (fun q hq ih2 => ?_))
      obtain ⟨hq, hw⟩ := hq
      refine goI 1000 Try.func54 ?_
      repeat' first | refine Len.map ?_ | refine Len.nil ?_ | refine Len.cons ?_ | refine Br.t rfl ?_ | refine Br.f rfl ?_ | refine Fit.au ?_ | refine Cv.au ?_ | refine Need.ne ?_ | refine Need.au ?_ | refine Pick.map (by assumption) ?_ | refine Pick.mapI (by omega) (by assumption) ?_ | refine PickN.mk _ (by assumption) ?_ | refine PickN.mk _ rfl ?_ | refine PickN.au ?_ | refine App.au rfl ?_ | refine App.au (own_map (fun _ => rfl) _) ?_ | refine Both.mk ?_ ?_ | exact True.intro
      refine Br.d (fun h4 => ?_) (fun h4 => ?_)
      · obtain ⟨y, gy, gym⟩ := getK (l := ls) (k := q) (by omega)
        have hLs := Lies27_spec y x (by omega)
        repeat' first | refine Pick.map gy ?_ | refine Len.map ?_ | refine Len.nil ?_ | refine Len.cons ?_ | refine Br.t rfl ?_ | refine Br.f rfl ?_ | refine Fit.au ?_ | refine Cv.au ?_ | refine Need.ne ?_ | refine Need.au ?_ | refine Pick.map (by assumption) ?_ | refine Pick.mapI (by omega) (by assumption) ?_ | refine PickN.mk _ (by assumption) ?_ | refine PickN.mk _ rfl ?_ | refine PickN.au ?_ | refine App.au rfl ?_ | refine App.au (own_map (fun _ => rfl) _) ?_ | refine Both.mk ?_ ?_ | exact True.intro
        refine Dyn.mk _ _ rfl rfl rfl (goI 1000 Try.func41 ?_)
        repeat' first | refine Call.eq hLs rfl ?_ | refine Len.map ?_ | refine Len.nil ?_ | refine Len.cons ?_ | refine Br.t rfl ?_ | refine Br.f rfl ?_ | refine Fit.au ?_ | refine Cv.au ?_ | refine Need.ne ?_ | refine Need.au ?_ | refine Pick.map (by assumption) ?_ | refine Pick.mapI (by omega) (by assumption) ?_ | refine PickN.mk _ (by assumption) ?_ | refine PickN.mk _ rfl ?_ | refine PickN.au ?_ | refine App.au rfl ?_ | refine App.au (own_map (fun _ => rfl) _) ?_ | refine Both.mk ?_ ?_ | exact True.intro
        all_goals
          refine Br.mk (fun h5 => ?_) (fun h5 => ?_)
          · rw [if_neg (fun h => by have := cdec_iff.1 h x y q gx gy; rw [h5] at this; cases this), List.append_nil] at hnx
            repeat' first | refine Len.map ?_ | refine Len.nil ?_ | refine Len.cons ?_ | refine Br.t rfl ?_ | refine Br.f rfl ?_ | refine Fit.au ?_ | refine Cv.au ?_ | refine Need.ne ?_ | refine Need.au ?_ | refine Pick.map (by assumption) ?_ | refine Pick.mapI (by omega) (by assumption) ?_ | refine PickN.mk _ (by assumption) ?_ | refine PickN.mk _ rfl ?_ | refine PickN.au ?_ | refine App.au rfl ?_ | refine App.au (own_map (fun _ => rfl) _) ?_ | refine Both.mk ?_ ?_ | exact True.intro
            refine goI 1000 Try.func40 ?_
            repeat' first | refine Len.map ?_ | refine Len.nil ?_ | refine Len.cons ?_ | refine Br.t rfl ?_ | refine Br.f rfl ?_ | refine Fit.au ?_ | refine Cv.au ?_ | refine Need.ne ?_ | refine Need.au ?_ | refine Pick.map (by assumption) ?_ | refine Pick.mapI (by omega) (by assumption) ?_ | refine PickN.mk _ (by assumption) ?_ | refine PickN.mk _ rfl ?_ | refine PickN.au ?_ | refine App.au rfl ?_ | refine App.au (own_map (fun _ => rfl) _) ?_ | refine Both.mk ?_ ?_ | exact True.intro
            refine go 1000 Try.func22 ?_
            repeat' first | refine Len.map ?_ | refine Len.nil ?_ | refine Len.cons ?_ | refine Br.t rfl ?_ | refine Br.f rfl ?_ | refine Fit.au ?_ | refine Cv.au ?_ | refine Need.ne ?_ | refine Need.au ?_ | refine Pick.map (by assumption) ?_ | refine Pick.mapI (by omega) (by assumption) ?_ | refine PickN.mk _ (by assumption) ?_ | refine PickN.mk _ rfl ?_ | refine PickN.au ?_ | refine App.au rfl ?_ | refine App.au (own_map (fun _ => rfl) _) ?_ | refine Both.mk ?_ ?_ | exact True.intro
            refine Stop.mk (ih (k + 1) (g := []) _ _ _ (by omega) (by omega) ?_)
            rw [hnx]
            exact ⟨rfl, (by repeat' first | exact trivial | refine ⟨rfl, ?_⟩ | refine ⟨congrArg (fun n => AV.lit (.int .i64 n)) (by omega), ?_⟩ | refine ⟨congrArg (fun l => some (Row.row 1 l)) (by simp [int1, num, tru]), ?_⟩), (by repeat' first | exact trivial | refine ⟨rfl, ?_⟩ | refine ⟨congrArg (fun n => AV.lit (.int .i64 n)) (by omega), ?_⟩ | refine ⟨congrArg (fun l => some (Row.row 1 l)) (by simp [int1, num, tru]), ?_⟩)⟩
          · repeat' first | refine Len.map ?_ | refine Len.nil ?_ | refine Len.cons ?_ | refine Br.t rfl ?_ | refine Br.f rfl ?_ | refine Fit.au ?_ | refine Cv.au ?_ | refine Need.ne ?_ | refine Need.au ?_ | refine Pick.map (by assumption) ?_ | refine Pick.mapI (by omega) (by assumption) ?_ | refine PickN.mk _ (by assumption) ?_ | refine PickN.mk _ rfl ?_ | refine PickN.au ?_ | refine App.au rfl ?_ | refine App.au (own_map (fun _ => rfl) _) ?_ | refine Both.mk ?_ ?_ | exact True.intro
            refine Stop.mk (ih2 (q + 1) (g := []) _ _ _ ⟨by omega, fun c z hc gz => ?_⟩ (by omega) ⟨rfl, (by repeat' first | exact trivial | refine ⟨rfl, ?_⟩ | refine ⟨congrArg (fun n => AV.lit (.int .i64 n)) (by omega), ?_⟩ | refine ⟨congrArg (fun l => some (Row.row 1 l)) (by simp [int1, num, tru]), ?_⟩), (by repeat' first | exact trivial | refine ⟨rfl, ?_⟩ | refine ⟨congrArg (fun n => AV.lit (.int .i64 n)) (by omega), ?_⟩ | refine ⟨congrArg (fun l => some (Row.row 1 l)) (by simp [int1, num, tru]), ?_⟩)⟩)
            by_cases e : c = q
            · subst e; rw [gy] at gz; cases gz; exact h5
            · exact hw c z (by omega) gz
      · rw [if_pos (cdec_iff.2 fun x2 y c g2 gy => by rw [gx] at g2; cases g2; exact hw c y (by have := (List.getElem?_eq_some_iff.1 gy).1; omega) gy)] at hnx
        repeat' first | refine Len.map ?_ | refine Len.nil ?_ | refine Len.cons ?_ | refine Br.t rfl ?_ | refine Br.f rfl ?_ | refine Fit.au ?_ | refine Cv.au ?_ | refine Need.ne ?_ | refine Need.au ?_ | refine Pick.map (by assumption) ?_ | refine Pick.mapI (by omega) (by assumption) ?_ | refine PickN.mk _ (by assumption) ?_ | refine PickN.mk _ rfl ?_ | refine PickN.au ?_ | refine App.au rfl ?_ | refine App.au (own_map (fun _ => rfl) _) ?_ | refine Both.mk ?_ ?_ | exact True.intro
        refine goI 1000 Try.func40 ?_
        repeat' first | refine Len.map ?_ | refine Len.nil ?_ | refine Len.cons ?_ | refine Br.t rfl ?_ | refine Br.f rfl ?_ | refine Fit.au ?_ | refine Cv.au ?_ | refine Need.ne ?_ | refine Need.au ?_ | refine Pick.map (by assumption) ?_ | refine Pick.mapI (by omega) (by assumption) ?_ | refine PickN.mk _ (by assumption) ?_ | refine PickN.mk _ rfl ?_ | refine PickN.au ?_ | refine App.au rfl ?_ | refine App.au (own_map (fun _ => rfl) _) ?_ | refine Both.mk ?_ ?_ | exact True.intro
        refine go 1000 Try.func22 ?_
        repeat' first | refine Len.map ?_ | refine Len.nil ?_ | refine Len.cons ?_ | refine Br.t rfl ?_ | refine Br.f rfl ?_ | refine Fit.au ?_ | refine Cv.au ?_ | refine Need.ne ?_ | refine Need.au ?_ | refine Pick.map (by assumption) ?_ | refine Pick.mapI (by omega) (by assumption) ?_ | refine PickN.mk _ (by assumption) ?_ | refine PickN.mk _ rfl ?_ | refine PickN.au ?_ | refine App.au rfl ?_ | refine App.au (own_map (fun _ => rfl) _) ?_ | refine Both.mk ?_ ?_ | exact True.intro
        refine Stop.mk (ih (k + 1) (g := [(0, 3)]) _ _ _ (by omega) (by omega) ?_)
        rw [hnx, List.map_append]
        exact ⟨rfl, (by repeat' first | exact trivial | refine ⟨rfl, ?_⟩ | refine ⟨congrArg (fun n => AV.lit (.int .i64 n)) (by omega), ?_⟩ | refine ⟨congrArg (fun l => some (Row.row 1 l)) (by simp [int1, num, tru]), ?_⟩), (by repeat' first | exact trivial | refine ⟨rfl, ?_⟩ | refine ⟨congrArg (fun n => AV.lit (.int .i64 n)) (by omega), ?_⟩ | refine ⟨congrArg (fun l => some (Row.row 1 l)) (by simp [int1, num, tru]), ?_⟩)⟩
  · obtain rfl : k = ls.length := by omega
    rw [hcur]
    repeat' first | refine Len.map ?_ | refine Len.nil ?_ | refine Len.cons ?_ | refine Br.t rfl ?_ | refine Br.f rfl ?_ | refine Fit.au ?_ | refine Cv.au ?_ | refine Need.ne ?_ | refine Need.au ?_ | refine Pick.map (by assumption) ?_ | refine Pick.mapI (by omega) (by assumption) ?_ | refine PickN.mk _ (by assumption) ?_ | refine PickN.mk _ rfl ?_ | refine PickN.au ?_ | refine App.au rfl ?_ | refine App.au (own_map (fun _ => rfl) _) ?_ | refine Both.mk ?_ ?_ | exact True.intro
    show _ = _
    rfl
end Go.Proofs.Ytbmiffgfmlkdnaa

/- In which loop one lies, looked for from the last one down. No program is in sight here. -/
namespace Go.Proofs.Ytbmiffgfmlkdnaa
open Go.Ax
theorem SameBut.at0 {b0 ls : List Lp1} {j : Nat} {x : Lp1} (h : SameBut b0 ls) (g : ls[j]? = some x) : ∃ z, b0[j]? = some z ∧ z.head = x.head ∧ z.blocks = x.blocks ∧ z.latches = x.latches := by
  have hl := h.1
  have hj := (List.getElem?_eq_some_iff.1 g).1
  have g0 : b0[j]? = some b0[j] := List.getElem?_eq_getElem (by omega)
  obtain ⟨h1, h2, h3⟩ := h.2 j _ _ g0 g
  exact ⟨_, g0, h1, h2, h3⟩
end Go.Proofs.Ytbmiffgfmlkdnaa

/- All loops of a function, as the document gathers them: by contracts. -/
namespace Go.Proofs.Ytbmiffgfmlkdnaa
open Go.Ax
set_option maxRecDepth 10000
set_option linter.unusedVariables false

structure InnD (b0 : List Lp1) (i lo : Nat) (ls : List Lp1) : Prop where
  same : SameBut b0 ls
  inn_ : ∀ (j : Nat) (x : Lp1), ls[j]? = some x → (j < i → InIs (Lf b0 j) (lenf b0) 0 b0.length x.inn) ∧ (i < j → x.inn = -1) ∧ (j = i → InIs (Lf b0 i) (lenf b0) lo b0.length x.inn)
theorem OutI.innD {b0 ls : List Lp1} {i : Nat} (h : OutI b0 i ls) : InnD b0 i b0.length ls :=
  ⟨h.same, fun j x g => ⟨(h.inn_ j x g).1, fun hj => (h.inn_ j x g).2 (by omega), fun e => by rw [(h.inn_ j x g).2 (by omega)]; exact .start⟩⟩
theorem InnD.done {b0 ls : List Lp1} {i : Nat} (h : InnD b0 i 0 ls) : OutI b0 (i + 1) ls := by
  refine ⟨h.same, fun j x g => ⟨fun hj => ?_, fun hj => (h.inn_ j x g).2.1 (by omega)⟩⟩
  by_cases e : j = i
  · subst e; exact (h.inn_ j x g).2.2 rfl
  · exact (h.inn_ j x g).1 (by omega)
theorem InnD.blk {b0 ls : List Lp1} {i k j : Nat} {x : Lp1} (h : InnD b0 i k ls) (hb : ∀ x ∈ b0, x.blocks.length ≤ 1000000) (g : ls[j]? = some x) : x.blocks.length ≤ 1000000 := by
  obtain ⟨z, gz, _, hz, _⟩ := h.same.at0 g
  rw [← hz]; exact hb z (List.mem_of_getElem? gz)
theorem InnD.lies {b0 ls : List Lp1} {i k j : Nat} {x y : Lp1} (h : InnD b0 i k ls) (gx : ls[i]? = some x) (gy : ls[j]? = some y) : Lf b0 i j = liesB x y := by
  obtain ⟨z, gz, h1, h2, _⟩ := h.same.at0 gx
  obtain ⟨u, gu, h3, h4, _⟩ := h.same.at0 gy
  unfold Lf
  rw [gz, gu]
  show liesB z u = _
  unfold liesB
  rw [h1, h3, h4]
theorem InnD.len {b0 ls : List Lp1} {i k j : Nat} {x : Lp1} (h : InnD b0 i k ls) (g : ls[j]? = some x) : lenf b0 j = x.blocks.length := by
  obtain ⟨z, gz, _, hz, _⟩ := h.same.at0 g
  unfold lenf
  rw [gz, ← hz]; rfl
theorem InnD.skip {b0 ls : List Lp1} {i k : Nat} {x : Lp1} (h : InnD b0 i (k + 1) ls) (gx : ls[i]? = some x) (hn : Lf b0 i k = false ∨ ∃ m : Nat, x.inn = m ∧ lenf b0 m < lenf b0 k) : InnD b0 i k ls := by
  refine ⟨h.same, fun j z g => ⟨(h.inn_ j z g).1, (h.inn_ j z g).2.1, fun e => ?_⟩⟩
  have h1 := (h.inn_ j z g).2.2 e
  subst e
  rw [gx] at g; cases g
  exact h1.skipB hn
theorem InnD.take {b0 ls : List Lp1} {i k : Nat} {x : Lp1} (h : InnD b0 i (k + 1) ls) (gx : ls[i]? = some x) (hL : Lf b0 i k = true) (hk : k < b0.length) (hb : x.inn < 0 ∨ ∃ m : Nat, x.inn = m ∧ lenf b0 k ≤ lenf b0 m) : InnD b0 i k (ls.set i { x with inn := k }) := by
  have hil := (List.getElem?_eq_some_iff.1 gx).1
  have hat : ∀ (j : Nat) (z : Lp1), (ls.set i { x with inn := (k : Int) })[j]? = some z → (j = i ∧ z = { x with inn := (k : Int) }) ∨ (j ≠ i ∧ ls[j]? = some z) := fun j z g => by
    rw [List.getElem?_set] at g
    by_cases e : i = j
    · subst e
      rw [if_pos rfl, if_pos hil] at g
      exact .inl ⟨rfl, (Option.some.inj g).symm⟩
    · rw [if_neg e] at g
      exact .inr ⟨fun e2 => e e2.symm, g⟩
  refine ⟨⟨by rw [List.length_set]; exact h.same.1, fun j u z g0 g => ?_⟩, fun j z g => ?_⟩
  · rcases hat j z g with ⟨rfl, rfl⟩ | ⟨_, g2⟩
    · exact h.same.2 j u x g0 gx
    · exact h.same.2 j u z g0 g2
  · rcases hat j z g with ⟨rfl, rfl⟩ | ⟨hne, g2⟩
    · exact ⟨fun h2 => by omega, fun h2 => by omega, fun _ => ((h.inn_ j x gx).2.2 rfl).takeB hL hk hb⟩
    · exact ⟨(h.inn_ j z g2).1, (h.inn_ j z g2).2.1, fun e => absurd e hne⟩
/-- There is one answer. -/
theorem OutI.eq {b0 ls ms : List Lp1} (h : OutI b0 b0.length ls) (g : OutI b0 b0.length ms) : ls = ms := by
  refine List.ext_getElem? fun k => ?_
  have h1 := h.same.1
  have g1 := g.same.1
  by_cases hk : k < b0.length
  · have e1 : ls[k]? = some ls[k] := List.getElem?_eq_getElem (by omega)
    have e2 : ms[k]? = some ms[k] := List.getElem?_eq_getElem (by omega)
    obtain ⟨z, gz, a1, a2, a3⟩ := h.same.at0 e1
    obtain ⟨u, gu, b1, b2, b3⟩ := g.same.at0 e2
    rw [gz] at gu; cases gu
    have hi := ((h.inn_ k _ e1).1 hk).eq ((g.inn_ k _ e2).1 hk)
    rw [e1, e2]
    congr 1
    generalize ls[k] = p at *
    generalize ms[k] = q at *
    obtain ⟨p1, p2, p3, p4⟩ := p
    obtain ⟨q1, q2, q3, q4⟩ := q
    dsimp only at a1 a2 a3 b1 b2 b3 hi
    rw [← a1, ← a2, ← a3, ← b1, ← b2, ← b3, hi]
  · rw [List.getElem?_eq_none (by omega), List.getElem?_eq_none (by omega)]
set_option maxHeartbeats 4000000 in
theorem Loops15_spec (f : Fun) (hf : f.fits) (hn : f.blocks.length ≤ 1000000) : FnSpec Try.prog 15 [funA f] (fun r => ∃ ls : List Lp1, r = .osl 4 (ls.map Lp1.cs) ∧ OutI (lps (succsF f) f.blocks.length) (lps (succsF f) f.blocks.length).length ls) := by
  have hsl := succsF_len f
  have hLa := fun h => Latches33_spec f h hf hn
  have hBl := fun h => Blocks34_spec f h hf hn
  have hll := fun h => @latF_len (succsF f) h
  have hbl := fun h => @blkF_len (succsF f) h
  refine spec_of 1000 Try.func15 rfl rfl ?_
  repeat' first | refine Len.map ?_ | refine Len.nil ?_ | refine Len.cons ?_ | refine Br.t rfl ?_ | refine Br.f rfl ?_ | refine Fit.au ?_ | refine Cv.au ?_ | refine Need.ne ?_ | refine Need.au ?_ | refine Pick.map (by assumption) ?_ | refine Pick.mapI (by omega) (by assumption) ?_ | refine PickN.mk _ (by assumption) ?_ | refine PickN.mk _ rfl ?_ | refine PickN.au ?_ | refine App.au rfl ?_ | refine App.au (own_map (fun _ => rfl) _) ?_ | refine Both.mk ?_ ?_ | exact True.intro
  refine Stop.mk (loop_in (g := []) (fun h : Nat => [(1, .hp 0 0), (3, .hw 1), (4, num h)]) (fun h => [(0, .var f.cs), (1, .row 4 ((lps (succsF f) h).map Lp1.ocs))]) 2 (fun h => h ≤ f.blocks.length) (fun h => f.blocks.length - h) 0 (by omega) ⟨rfl, (by repeat' first | exact trivial | refine ⟨rfl, ?_⟩ | refine ⟨congrArg (fun n => AV.lit (.int .i64 n)) (by omega), ?_⟩ | refine ⟨congrArg (fun l => some (Row.row 1 l)) (by simp [int1, num, tru]), ?_⟩), (by repeat' first | exact trivial | refine ⟨rfl, ?_⟩ | refine ⟨congrArg (fun n => AV.lit (.int .i64 n)) (by omega), ?_⟩ | refine ⟨congrArg (fun l => some (Row.row 1 l)) (by simp [int1, num, tru]), ?_⟩)⟩ (fun h hh ih => ?_))
  have hlp := lps_len (succsF f) h
  have hnext : lps (succsF f) (h + 1) = lps (succsF f) h ++ if latF (succsF f) h = [] then [] else [⟨h, blkF (succsF f) h, latF (succsF f) h, -1⟩] := rfl
  refine go 1000 Try.func15 ?_
  repeat' first | refine Len.map ?_ | refine Len.nil ?_ | refine Len.cons ?_ | refine Br.t rfl ?_ | refine Br.f rfl ?_ | refine Fit.au ?_ | refine Cv.au ?_ | refine Need.ne ?_ | refine Need.au ?_ | refine Pick.map (by assumption) ?_ | refine Pick.mapI (by omega) (by assumption) ?_ | refine PickN.mk _ (by assumption) ?_ | refine PickN.mk _ rfl ?_ | refine PickN.au ?_ | refine App.au rfl ?_ | refine App.au (own_map (fun _ => rfl) _) ?_ | refine Both.mk ?_ ?_ | exact True.intro
  refine Br.d (fun h2 => ?_) (fun h2 => ?_)
  · have hl1 := hll h
    have hb1 := hbl h
    have hBh := hBl h
    repeat' first | refine Call.eq (hLa h (by omega)) rfl ?_ | refine Len.map ?_ | refine Len.nil ?_ | refine Len.cons ?_ | refine Br.t rfl ?_ | refine Br.f rfl ?_ | refine Fit.au ?_ | refine Cv.au ?_ | refine Need.ne ?_ | refine Need.au ?_ | refine Pick.map (by assumption) ?_ | refine Pick.mapI (by omega) (by assumption) ?_ | refine PickN.mk _ (by assumption) ?_ | refine PickN.mk _ rfl ?_ | refine PickN.au ?_ | refine App.au rfl ?_ | refine App.au (own_map (fun _ => rfl) _) ?_ | refine Both.mk ?_ ?_ | exact True.intro
    generalize hla : latF (succsF f) h = la at *
    refine Br.d (fun h3 => ?_) (fun h3 => ?_)
    · have hne : la ≠ [] := fun e => by rw [e] at h3; exact absurd h3 (by decide)
      rw [if_neg hne] at hnext
      repeat' first | refine Len.map ?_ | refine Len.nil ?_ | refine Len.cons ?_ | refine Br.t rfl ?_ | refine Br.f rfl ?_ | refine Fit.au ?_ | refine Cv.au ?_ | refine Need.ne ?_ | refine Need.au ?_ | refine Pick.map (by assumption) ?_ | refine Pick.mapI (by omega) (by assumption) ?_ | refine PickN.mk _ (by assumption) ?_ | refine PickN.mk _ rfl ?_ | refine PickN.au ?_ | refine App.au rfl ?_ | refine App.au (own_map (fun _ => rfl) _) ?_ | refine Both.mk ?_ ?_ | exact True.intro
      refine Look.stop (Stop.mk (run_frzR 2 rfl (fzi _) ?_))
      refine go 1000 Try.func15 ?_
      repeat' first | refine Call.eq (hBh hne) rfl ?_ | refine Len.map ?_ | refine Len.nil ?_ | refine Len.cons ?_ | refine Br.t rfl ?_ | refine Br.f rfl ?_ | refine Fit.au ?_ | refine Cv.au ?_ | refine Need.ne ?_ | refine Need.au ?_ | refine Pick.map (by assumption) ?_ | refine Pick.mapI (by omega) (by assumption) ?_ | refine PickN.mk _ (by assumption) ?_ | refine PickN.mk _ rfl ?_ | refine PickN.au ?_ | refine App.au rfl ?_ | refine App.au (own_map (fun _ => rfl) _) ?_ | refine Both.mk ?_ ?_ | exact True.intro
      refine Stop.mk (ih (h + 1) (g := [(1, 5)]) _ _ _ (by omega) (by omega) ?_)
      rw [hnext, List.map_append]
      exact ⟨rfl, (by repeat' first | exact trivial | refine ⟨rfl, ?_⟩ | refine ⟨congrArg (fun n => AV.lit (.int .i64 n)) (by omega), ?_⟩ | refine ⟨congrArg (fun l => some (Row.row 1 l)) (by simp [int1, num, tru]), ?_⟩), (by repeat' first | exact trivial | refine ⟨rfl, ?_⟩ | refine ⟨congrArg (fun n => AV.lit (.int .i64 n)) (by omega), ?_⟩ | refine ⟨congrArg (fun l => some (Row.row 1 l)) (by simp [int1, num, tru]), ?_⟩)⟩
    · have he : la = [] := List.eq_nil_of_length_eq_zero (by omega)
      rw [if_pos he, List.append_nil] at hnext
      repeat' first | refine Len.map ?_ | refine Len.nil ?_ | refine Len.cons ?_ | refine Br.t rfl ?_ | refine Br.f rfl ?_ | refine Fit.au ?_ | refine Cv.au ?_ | refine Need.ne ?_ | refine Need.au ?_ | refine Pick.map (by assumption) ?_ | refine Pick.mapI (by omega) (by assumption) ?_ | refine PickN.mk _ (by assumption) ?_ | refine PickN.mk _ rfl ?_ | refine PickN.au ?_ | refine App.au rfl ?_ | refine App.au (own_map (fun _ => rfl) _) ?_ | refine Both.mk ?_ ?_ | exact True.intro
      refine Stop.mk (ih (h + 1) (g := []) _ _ _ (by omega) (by omega) ?_)
      rw [hnext]
      exact ⟨rfl, (by repeat' first | exact trivial | refine ⟨rfl, ?_⟩ | refine ⟨congrArg (fun n => AV.lit (.int .i64 n)) (by omega), ?_⟩ | refine ⟨congrArg (fun l => some (Row.row 1 l)) (by simp [int1, num, tru]), ?_⟩), (by repeat' first | exact trivial | refine ⟨rfl, ?_⟩ | refine ⟨congrArg (fun n => AV.lit (.int .i64 n)) (by omega), ?_⟩ | refine ⟨congrArg (fun l => some (Row.row 1 l)) (by simp [int1, num, tru]), ?_⟩)⟩
  · rw [show h = f.blocks.length by omega]
    have hbl0 := lps_len (succsF f) f.blocks.length
    have hblk : ∀ x ∈ lps (succsF f) f.blocks.length, x.blocks.length ≤ 1000000 := fun x hx => by
      obtain ⟨h, _, rfl, _⟩ := lps_mem hx
      have := hbl h
      show (blkF (succsF f) h).length ≤ 1000000
      omega
    have hin : ∀ x ∈ lps (succsF f) f.blocks.length, x.inn = -1 := fun x hx => by
      obtain ⟨h, _, rfl, _⟩ := lps_mem hx
      rfl
    generalize lps (succsF f) f.blocks.length = b0 at *
    clear ih
    repeat' first | refine Len.map ?_ | refine Len.nil ?_ | refine Len.cons ?_ | refine Br.t rfl ?_ | refine Br.f rfl ?_ | refine Fit.au ?_ | refine Cv.au ?_ | refine Need.ne ?_ | refine Need.au ?_ | refine Pick.map (by assumption) ?_ | refine Pick.mapI (by omega) (by assumption) ?_ | refine PickN.mk _ (by assumption) ?_ | refine PickN.mk _ rfl ?_ | refine PickN.au ?_ | refine App.au rfl ?_ | refine App.au (own_map (fun _ => rfl) _) ?_ | refine Both.mk ?_ ?_ | exact True.intro
    refine Stop.mk (run_frzIn 1 rfl (fzLL_map fz_lp _) ?_)
    refine loop_in (g := []) (fun p : Nat × List Lp1 => [(3, .hw 1), (6, num p.1)]) (fun p => [(1, .row 4 (p.2.map Lp1.cs))]) 2 (fun p => p.1 ≤ b0.length ∧ OutI b0 p.1 p.2) (fun p => b0.length - p.1) (0, b0) ⟨by simp only; omega, .start hin⟩ ⟨rfl, (by repeat' first | exact trivial | refine ⟨rfl, ?_⟩ | refine ⟨congrArg (fun n => AV.lit (.int .i64 n)) (by omega), ?_⟩ | refine ⟨congrArg (fun l => some (Row.row 1 l)) (by simp [int1, num, tru]), ?_⟩), (by repeat' first | exact trivial | refine ⟨rfl, ?_⟩ | refine ⟨congrArg (fun n => AV.lit (.int .i64 n)) (by omega), ?_⟩ | refine ⟨congrArg (fun l => some (Row.row 1 l)) (by simp [int1, num, tru]), ?_⟩)⟩ (fun p hp ih => ?_)
    obtain ⟨i, ls⟩ := p
    obtain ⟨hi, hO⟩ := hp
    dsimp only at hi hO ih ⊢
    have hlen := hO.same.1
    refine go 1000 Try.func15 ?_
    repeat' first | refine Len.map ?_ | refine Len.nil ?_ | refine Len.cons ?_ | refine Br.t rfl ?_ | refine Br.f rfl ?_ | refine Fit.au ?_ | refine Cv.au ?_ | refine Need.ne ?_ | refine Need.au ?_ | refine Pick.map (by assumption) ?_ | refine Pick.mapI (by omega) (by assumption) ?_ | refine PickN.mk _ (by assumption) ?_ | refine PickN.mk _ rfl ?_ | refine PickN.au ?_ | refine App.au rfl ?_ | refine App.au (own_map (fun _ => rfl) _) ?_ | refine Both.mk ?_ ?_ | exact True.intro
    refine Br.d (fun h3 => ?_) (fun h3 => ?_)
    · repeat' first | refine Len.map ?_ | refine Len.nil ?_ | refine Len.cons ?_ | refine Br.t rfl ?_ | refine Br.f rfl ?_ | refine Fit.au ?_ | refine Cv.au ?_ | refine Need.ne ?_ | refine Need.au ?_ | refine Pick.map (by assumption) ?_ | refine Pick.mapI (by omega) (by assumption) ?_ | refine PickN.mk _ (by assumption) ?_ | refine PickN.mk _ rfl ?_ | refine PickN.au ?_ | refine App.au rfl ?_ | refine App.au (own_map (fun _ => rfl) _) ?_ | refine Both.mk ?_ ?_ | exact True.intro
      refine Stop.mk (loop_in (g := []) (fun p : Nat × List Lp1 => [(3, .hw 1), (6, num i), (7, num ((p.1 : Int) - 1))]) (fun p => [(1, .row 4 (p.2.map Lp1.cs))]) 2 (fun p => p.1 ≤ b0.length ∧ InnD b0 i p.1 p.2) (fun p => p.1) (ls.length, ls) ⟨by simp only; omega, by rw [← hlen]; exact hO.innD⟩ ⟨rfl, (by repeat' first | exact trivial | refine ⟨rfl, ?_⟩ | refine ⟨congrArg (fun n => AV.lit (.int .i64 n)) (by omega), ?_⟩ | refine ⟨congrArg (fun l => some (Row.row 1 l)) (by simp [int1, num, tru]), ?_⟩), (by repeat' first | exact trivial | refine ⟨rfl, ?_⟩ | refine ⟨congrArg (fun n => AV.lit (.int .i64 n)) (by omega), ?_⟩ | refine ⟨congrArg (fun l => some (Row.row 1 l)) (by simp [int1, num, tru]), ?_⟩)⟩ (fun p hp ih2 => ?_))
      obtain ⟨lo, l2⟩ := p
      obtain ⟨hlo, hI⟩ := hp
      dsimp only at hlo hI ih2 ⊢
      have hlen2 := hI.same.1
      refine go 1000 Try.func15 ?_
      repeat' first | refine Len.map ?_ | refine Len.nil ?_ | refine Len.cons ?_ | refine Br.t rfl ?_ | refine Br.f rfl ?_ | refine Fit.au ?_ | refine Cv.au ?_ | refine Need.ne ?_ | refine Need.au ?_ | refine Pick.map (by assumption) ?_ | refine Pick.mapI (by omega) (by assumption) ?_ | refine PickN.mk _ (by assumption) ?_ | refine PickN.mk _ rfl ?_ | refine PickN.au ?_ | refine App.au rfl ?_ | refine App.au (own_map (fun _ => rfl) _) ?_ | refine Both.mk ?_ ?_ | exact True.intro
      refine Br.d (fun h4 => ?_) (fun h4 => ?_)
      · obtain ⟨k, rfl⟩ : ∃ k : Nat, lo = k + 1 := ⟨lo - 1, by omega⟩
        rw [show ((k + 1 : Nat) : Int) - 1 = (k : Int) by omega]
        obtain ⟨x, gx, gxm⟩ := getK (l := l2) (k := i) (by omega)
        obtain ⟨y, gy, gym⟩ := getK (l := l2) (k := k) (by omega)
        have hyb : y.blocks.length ≤ 1000000 := hI.blk hblk gy
        have hii := (hI.inn_ i x gx).2.2 rfl
        have hlf := hI.lies gx gy
        have hlk := hI.len gy
        obtain ⟨xh, xb, xl, xi⟩ := x
        have hLs := Lies21_spec ⟨xh, xb, xl, xi⟩ y (by omega)
        have next : ∀ m : Nat, m = k → (k : Int) - 1 = (m : Int) - 1 := fun m h => by rw [h]
        rcases hii with ⟨hx1, _⟩ | ⟨q, hx1, _, hqk, _, _⟩
        · replace hx1 : xi = -1 := hx1
          subst hx1
          repeat' first | refine Draw.mk (ordL [8] [0, 1, 2, 3, 4, 5, 6, 7, 8, 9, 10, 11, 12, 13, 14, 15, 16, 17, 18, 19, 20, 21, 22, 23, 24, 25, 26, 27, 28, 29, 30, 31, 32, 33, 34, 35]) (by decide +kernel) ?_ | refine PickN.map gx ?_ | refine PickN.map gy ?_ | refine Call.eq hLs rfl ?_ | refine Len.map ?_ | refine Len.nil ?_ | refine Len.cons ?_ | refine Br.t rfl ?_ | refine Br.f rfl ?_ | refine Fit.au ?_ | refine Cv.au ?_ | refine Need.ne ?_ | refine Need.au ?_ | refine Pick.map (by assumption) ?_ | refine Pick.mapI (by omega) (by assumption) ?_ | refine PickN.mk _ (by assumption) ?_ | refine PickN.mk _ rfl ?_ | refine PickN.au ?_ | refine App.au rfl ?_ | refine App.au (own_map (fun _ => rfl) _) ?_ | refine Both.mk ?_ ?_ | exact True.intro
          refine Br.mk (fun h5 => ?_) (fun h5 => ?_)
          · repeat' first | refine Draw.mk (ordL [8] [0, 1, 2, 3, 4, 5, 6, 7, 8, 9, 10, 11, 12, 13, 14, 15, 16, 17, 18, 19, 20, 21, 22, 23, 24, 25, 26, 27, 28, 29, 30, 31, 32, 33, 34, 35]) (by decide +kernel) ?_ | refine PickN.map gx ?_ | refine Len.map ?_ | refine Len.nil ?_ | refine Len.cons ?_ | refine Br.t rfl ?_ | refine Br.f rfl ?_ | refine Fit.au ?_ | refine Cv.au ?_ | refine Need.ne ?_ | refine Need.au ?_ | refine Pick.map (by assumption) ?_ | refine Pick.mapI (by omega) (by assumption) ?_ | refine PickN.mk _ (by assumption) ?_ | refine PickN.mk _ rfl ?_ | refine PickN.au ?_ | refine App.au rfl ?_ | refine App.au (own_map (fun _ => rfl) _) ?_ | refine Both.mk ?_ ?_ | exact True.intro
            refine Stop.mk (ih2 (k, l2.set i { (⟨xh, xb, xl, -1⟩ : Lp1) with inn := k }) (g := []) _ _ _ ⟨by simp only; omega, hI.take gx (by rw [hlf]; exact h5) (by omega) (.inl (by dsimp only; omega))⟩ (by simp only; omega) ?_)
            dsimp only
            rw [List.map_set]
            exact ⟨rfl, (by repeat' first | exact trivial | refine ⟨rfl, ?_⟩ | refine ⟨congrArg (fun n => AV.lit (.int .i64 n)) (by omega), ?_⟩ | refine ⟨congrArg (fun l => some (Row.row 1 l)) (by simp [int1, num, tru]), ?_⟩), (by repeat' first | exact trivial | refine ⟨rfl, ?_⟩ | refine ⟨congrArg (fun n => AV.lit (.int .i64 n)) (by omega), ?_⟩ | refine ⟨congrArg (fun l => some (Row.row 1 l)) (by simp [int1, num, tru]), ?_⟩)⟩
          · repeat' first | refine Len.map ?_ | refine Len.nil ?_ | refine Len.cons ?_ | refine Br.t rfl ?_ | refine Br.f rfl ?_ | refine Fit.au ?_ | refine Cv.au ?_ | refine Need.ne ?_ | refine Need.au ?_ | refine Pick.map (by assumption) ?_ | refine Pick.mapI (by omega) (by assumption) ?_ | refine PickN.mk _ (by assumption) ?_ | refine PickN.mk _ rfl ?_ | refine PickN.au ?_ | refine App.au rfl ?_ | refine App.au (own_map (fun _ => rfl) _) ?_ | refine Both.mk ?_ ?_ | exact True.intro
            exact Stop.mk (ih2 (k, l2) (g := []) _ _ _ ⟨by simp only; omega, hI.skip gx (.inl (by rw [hlf]; exact h5))⟩ (by simp only; omega) ⟨rfl, (by repeat' first | exact trivial | refine ⟨rfl, ?_⟩ | refine ⟨congrArg (fun n => AV.lit (.int .i64 n)) (by omega), ?_⟩ | refine ⟨congrArg (fun l => some (Row.row 1 l)) (by simp [int1, num, tru]), ?_⟩), (by repeat' first | exact trivial | refine ⟨rfl, ?_⟩ | refine ⟨congrArg (fun n => AV.lit (.int .i64 n)) (by omega), ?_⟩ | refine ⟨congrArg (fun l => some (Row.row 1 l)) (by simp [int1, num, tru]), ?_⟩)⟩)
        · replace hx1 : xi = (q : Int) := hx1
          subst hx1
          obtain ⟨z, gz, gzm⟩ := getK (l := l2) (k := q) (by omega)
          have hlz := hI.len gz
          repeat' first | refine Draw.mk (ordL [8] [0, 1, 2, 3, 4, 5, 6, 7, 8, 9, 10, 11, 12, 13, 14, 15, 16, 17, 18, 19, 20, 21, 22, 23, 24, 25, 26, 27, 28, 29, 30, 31, 32, 33, 34, 35]) (by decide +kernel) ?_ | refine PickN.map gx ?_ | refine PickN.map gy ?_ | refine Call.eq hLs rfl ?_ | refine Len.map ?_ | refine Len.nil ?_ | refine Len.cons ?_ | refine Br.t rfl ?_ | refine Br.f rfl ?_ | refine Fit.au ?_ | refine Cv.au ?_ | refine Need.ne ?_ | refine Need.au ?_ | refine Pick.map (by assumption) ?_ | refine Pick.mapI (by omega) (by assumption) ?_ | refine PickN.mk _ (by assumption) ?_ | refine PickN.mk _ rfl ?_ | refine PickN.au ?_ | refine App.au rfl ?_ | refine App.au (own_map (fun _ => rfl) _) ?_ | refine Both.mk ?_ ?_ | exact True.intro
          refine Br.mk (fun h5 => ?_) (fun h5 => ?_)
          · repeat' first | refine Draw.mk (ordL [8] [0, 1, 2, 3, 4, 5, 6, 7, 8, 9, 10, 11, 12, 13, 14, 15, 16, 17, 18, 19, 20, 21, 22, 23, 24, 25, 26, 27, 28, 29, 30, 31, 32, 33, 34, 35]) (by decide +kernel) ?_ | refine PickN.map gx ?_ | refine PickN.map gy ?_ | refine Len.map ?_ | refine Len.nil ?_ | refine Len.cons ?_ | refine Br.t rfl ?_ | refine Br.f rfl ?_ | refine Fit.au ?_ | refine Cv.au ?_ | refine Need.ne ?_ | refine Need.au ?_ | refine Pick.map (by assumption) ?_ | refine Pick.mapI (by omega) (by assumption) ?_ | refine PickN.mk _ (by assumption) ?_ | refine PickN.mk _ rfl ?_ | refine PickN.au ?_ | refine App.au rfl ?_ | refine App.au (own_map (fun _ => rfl) _) ?_ | refine Both.mk ?_ ?_ | exact True.intro
            refine Need.mk ⟨by dsimp only; omega, by dsimp only; rw [List.length_map]; omega⟩ ?_
            repeat' first | refine Draw.mk (ordL [8] [0, 1, 2, 3, 4, 5, 6, 7, 8, 9, 10, 11, 12, 13, 14, 15, 16, 17, 18, 19, 20, 21, 22, 23, 24, 25, 26, 27, 28, 29, 30, 31, 32, 33, 34, 35]) (by decide +kernel) ?_ | refine PickN.map gz ?_ | refine PickN.map gx ?_ | refine PickN.map gy ?_ | refine Len.map ?_ | refine Len.nil ?_ | refine Len.cons ?_ | refine Br.t rfl ?_ | refine Br.f rfl ?_ | refine Fit.au ?_ | refine Cv.au ?_ | refine Need.ne ?_ | refine Need.au ?_ | refine Pick.map (by assumption) ?_ | refine Pick.mapI (by omega) (by assumption) ?_ | refine PickN.mk _ (by assumption) ?_ | refine PickN.mk _ rfl ?_ | refine PickN.au ?_ | refine App.au rfl ?_ | refine App.au (own_map (fun _ => rfl) _) ?_ | refine Both.mk ?_ ?_ | exact True.intro
            refine Br.d (fun h6 => ?_) (fun h6 => ?_)
            · repeat' first | refine Draw.mk (ordL [8] [0, 1, 2, 3, 4, 5, 6, 7, 8, 9, 10, 11, 12, 13, 14, 15, 16, 17, 18, 19, 20, 21, 22, 23, 24, 25, 26, 27, 28, 29, 30, 31, 32, 33, 34, 35]) (by decide +kernel) ?_ | refine PickN.map gx ?_ | refine Len.map ?_ | refine Len.nil ?_ | refine Len.cons ?_ | refine Br.t rfl ?_ | refine Br.f rfl ?_ | refine Fit.au ?_ | refine Cv.au ?_ | refine Need.ne ?_ | refine Need.au ?_ | refine Pick.map (by assumption) ?_ | refine Pick.mapI (by omega) (by assumption) ?_ | refine PickN.mk _ (by assumption) ?_ | refine PickN.mk _ rfl ?_ | refine PickN.au ?_ | refine App.au rfl ?_ | refine App.au (own_map (fun _ => rfl) _) ?_ | refine Both.mk ?_ ?_ | exact True.intro
              refine Stop.mk (ih2 (k, l2.set i { (⟨xh, xb, xl, q⟩ : Lp1) with inn := k }) (g := []) _ _ _ ⟨by simp only; omega, hI.take gx (by rw [hlf]; exact h5) (by omega) (.inr ⟨q, rfl, by rw [hlk, hlz]; omega⟩)⟩ (by simp only; omega) ?_)
              dsimp only
              rw [List.map_set]
              exact ⟨rfl, (by repeat' first | exact trivial | refine ⟨rfl, ?_⟩ | refine ⟨congrArg (fun n => AV.lit (.int .i64 n)) (by omega), ?_⟩ | refine ⟨congrArg (fun l => some (Row.row 1 l)) (by simp [int1, num, tru]), ?_⟩), (by repeat' first | exact trivial | refine ⟨rfl, ?_⟩ | refine ⟨congrArg (fun n => AV.lit (.int .i64 n)) (by omega), ?_⟩ | refine ⟨congrArg (fun l => some (Row.row 1 l)) (by simp [int1, num, tru]), ?_⟩)⟩
            · repeat' first | refine Len.map ?_ | refine Len.nil ?_ | refine Len.cons ?_ | refine Br.t rfl ?_ | refine Br.f rfl ?_ | refine Fit.au ?_ | refine Cv.au ?_ | refine Need.ne ?_ | refine Need.au ?_ | refine Pick.map (by assumption) ?_ | refine Pick.mapI (by omega) (by assumption) ?_ | refine PickN.mk _ (by assumption) ?_ | refine PickN.mk _ rfl ?_ | refine PickN.au ?_ | refine App.au rfl ?_ | refine App.au (own_map (fun _ => rfl) _) ?_ | refine Both.mk ?_ ?_ | exact True.intro
              exact Stop.mk (ih2 (k, l2) (g := []) _ _ _ ⟨by simp only; omega, hI.skip gx (.inr ⟨q, rfl, by rw [hlk, hlz]; omega⟩)⟩ (by simp only; omega) ⟨rfl, (by repeat' first | exact trivial | refine ⟨rfl, ?_⟩ | refine ⟨congrArg (fun n => AV.lit (.int .i64 n)) (by omega), ?_⟩ | refine ⟨congrArg (fun l => some (Row.row 1 l)) (by simp [int1, num, tru]), ?_⟩), (by repeat' first | exact trivial | refine ⟨rfl, ?_⟩ | refine ⟨congrArg (fun n => AV.lit (.int .i64 n)) (by omega), ?_⟩ | refine ⟨congrArg (fun l => some (Row.row 1 l)) (by simp [int1, num, tru]), ?_⟩)⟩)
          · repeat' first | refine Len.map ?_ | refine Len.nil ?_ | refine Len.cons ?_ | refine Br.t rfl ?_ | refine Br.f rfl ?_ | refine Fit.au ?_ | refine Cv.au ?_ | refine Need.ne ?_ | refine Need.au ?_ | refine Pick.map (by assumption) ?_ | refine Pick.mapI (by omega) (by assumption) ?_ | refine PickN.mk _ (by assumption) ?_ | refine PickN.mk _ rfl ?_ | refine PickN.au ?_ | refine App.au rfl ?_ | refine App.au (own_map (fun _ => rfl) _) ?_ | refine Both.mk ?_ ?_ | exact True.intro
            exact Stop.mk (ih2 (k, l2) (g := []) _ _ _ ⟨by simp only; omega, hI.skip gx (.inl (by rw [hlf]; exact h5))⟩ (by simp only; omega) ⟨rfl, (by repeat' first | exact trivial | refine ⟨rfl, ?_⟩ | refine ⟨congrArg (fun n => AV.lit (.int .i64 n)) (by omega), ?_⟩ | refine ⟨congrArg (fun l => some (Row.row 1 l)) (by simp [int1, num, tru]), ?_⟩), (by repeat' first | exact trivial | refine ⟨rfl, ?_⟩ | refine ⟨congrArg (fun n => AV.lit (.int .i64 n)) (by omega), ?_⟩ | refine ⟨congrArg (fun l => some (Row.row 1 l)) (by simp [int1, num, tru]), ?_⟩)⟩)
      · repeat' first | refine Len.map ?_ | refine Len.nil ?_ | refine Len.cons ?_ | refine Br.t rfl ?_ | refine Br.f rfl ?_ | refine Fit.au ?_ | refine Cv.au ?_ | refine Need.ne ?_ | refine Need.au ?_ | refine Pick.map (by assumption) ?_ | refine Pick.mapI (by omega) (by assumption) ?_ | refine PickN.mk _ (by assumption) ?_ | refine PickN.mk _ rfl ?_ | refine PickN.au ?_ | refine App.au rfl ?_ | refine App.au (own_map (fun _ => rfl) _) ?_ | refine Both.mk ?_ ?_ | exact True.intro
        obtain rfl : lo = 0 := by omega
        exact Stop.mk (ih (i + 1, l2) (g := []) _ _ _ ⟨by simp only; omega, hI.done⟩ (by simp only; omega) ⟨rfl, (by repeat' first | exact trivial | refine ⟨rfl, ?_⟩ | refine ⟨congrArg (fun n => AV.lit (.int .i64 n)) (by omega), ?_⟩ | refine ⟨congrArg (fun l => some (Row.row 1 l)) (by simp [int1, num, tru]), ?_⟩), (by repeat' first | exact trivial | refine ⟨rfl, ?_⟩ | refine ⟨congrArg (fun n => AV.lit (.int .i64 n)) (by omega), ?_⟩ | refine ⟨congrArg (fun l => some (Row.row 1 l)) (by simp [int1, num, tru]), ?_⟩)⟩)
    · repeat' first | refine Len.map ?_ | refine Len.nil ?_ | refine Len.cons ?_ | refine Br.t rfl ?_ | refine Br.f rfl ?_ | refine Fit.au ?_ | refine Cv.au ?_ | refine Need.ne ?_ | refine Need.au ?_ | refine Pick.map (by assumption) ?_ | refine Pick.mapI (by omega) (by assumption) ?_ | refine PickN.mk _ (by assumption) ?_ | refine PickN.mk _ rfl ?_ | refine PickN.au ?_ | refine App.au rfl ?_ | refine App.au (own_map (fun _ => rfl) _) ?_ | refine Both.mk ?_ ?_ | exact True.intro
      exact ⟨ls, rfl, by rw [show i = b0.length by omega] at hO; exact hO⟩
end Go.Proofs.Ytbmiffgfmlkdnaa
