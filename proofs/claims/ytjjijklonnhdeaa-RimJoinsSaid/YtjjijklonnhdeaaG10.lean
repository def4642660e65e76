/- What is reached, dominators, predecessors, writers, by contracts. -/
import Derived.Test.YtjjijklonnhdeaaG09
import Derived.Test.YtjjijklonnhdeaaG07
import Derived.Test.YtjjijklonnhdeaaG08
import Derived.Test.YtjjijklonnhdeaaG05
set_option linter.unusedVariables false
set_option linter.unusedSimpArgs false

namespace Go.Proofs.Ytjjijklonnhdeaa
open Go.Ax
set_option maxRecDepth 10000
set_option linter.unusedVariables false

theorem Reach_spec (f : Fun) (hf : f.fits) (hn : f.blocks.length ≤ 1000000) : FnSpec Try.prog 10 [funA f] (fun r => ∃ l, r = .osl 1 (l.map tb) ∧ Marks (succsF f) (-1) l) := by
  refine spec_of 1000 Try.func10 rfl rfl ?_
  repeat' first | refine Len.map ?_ | refine Len.nil ?_ | refine Len.cons ?_ | refine Br.t rfl ?_ | refine Br.f rfl ?_ | refine Fit.au ?_ | refine Cv.au ?_ | refine Need.ne ?_ | refine Need.au ?_ | refine Pick.map (by assumption) ?_ | refine Pick.mapI (by omega) (by assumption) ?_ | refine PickN.mk _ (by assumption) ?_ | refine PickN.mk _ rfl ?_ | refine PickN.au ?_ | refine App.au rfl ?_ | refine App.au (own_map (fun _ => rfl) _) ?_ | refine Both.mk ?_ ?_ | exact True.intro
  refine Call.of (Without_spec f (-1) hf hn) ?_
  rintro r ⟨l, rfl, hl⟩
  refine ⟨rfl, ?_⟩
  repeat' first | refine Len.map ?_ | refine Len.nil ?_ | refine Len.cons ?_ | refine Br.t rfl ?_ | refine Br.f rfl ?_ | refine Fit.au ?_ | refine Cv.au ?_ | refine Need.ne ?_ | refine Need.au ?_ | refine Pick.map (by assumption) ?_ | refine Pick.mapI (by omega) (by assumption) ?_ | refine PickN.mk _ (by assumption) ?_ | refine PickN.mk _ rfl ?_ | refine PickN.au ?_ | refine App.au rfl ?_ | refine App.au (own_map (fun _ => rfl) _) ?_ | refine Both.mk ?_ ?_ | exact True.intro
  exact ⟨l, rfl, hl⟩

theorem PickN_getD {α : Type} {enc : α → List AV} {l : List α} {n : Nat} {k : List AV → Prop} {d : α} (h : n < l.length) (hk : k (enc (l.getD n d))) : PickN (l.map enc) n k :=
  PickN.map (e := l.getD n d) (by rw [List.getD_eq_getElem?_getD, List.getElem?_eq_getElem h]; rfl) hk
theorem Marks.getD {s : List (List Int)} {x : Int} {l : List Bool} (h : Marks s x l) {t : Int} (h0 : 0 ≤ t) : l.getD t.toNat false = true ↔ Reaches s x t := by
  have := h.2 t.toNat
  rw [Int.toNat_of_nonneg h0] at this
  rw [← this, List.getD_eq_getElem?_getD]
  cases l[t.toNat]? with
  | none => simp
  | some b => simp
theorem Reaches.bound {s : List (List Int)} {x : Int} {l : List Bool} (h : Marks s x l) {t : Int} (h0 : 0 ≤ t) (hr : Reaches s x t) : t < l.length := by
  have := (h.2 t.toNat).2 (by rw [Int.toNat_of_nonneg h0]; exact hr)
  have := (List.getElem?_eq_some_iff.1 this).1
  omega

end Go.Proofs.Ytjjijklonnhdeaa

/- Where blocks go and come from, as the program reckons it, by contracts. -/
namespace Go.Proofs.Ytjjijklonnhdeaa
open Go.Ax
set_option maxRecDepth 10000
set_option linter.unusedVariables false

theorem zero_olst (n : Nat) : OLeLL (List.replicate n [.lit (.slice none 0 0)]) ((List.replicate n ([] : List Int)).map olst) := by
  rw [List.map_replicate]
  exact OLeLL.rep (.cons OLe.onil .nil) n
theorem set_olst {s : List (List Int)} {k : Nat} {l : List Int} : (s.map olst).set k [.osl 1 (l.map int1)] = (s.set k l).map olst := by rw [List.map_set]; rfl
theorem set_olst1 {s : List (List Int)} {k : Nat} {l : List Int} {t : Int} : (s.map olst).set k [.osl 1 (l.map int1 ++ [int1 t])] = (s.set k (l ++ [t])).map olst := by rw [← set_olst, List.map_append]; rfl

set_option maxHeartbeats 1000000 in
theorem Succs95_spec (f : Fun) (hf : f.fits) (hn : f.blocks.length ≤ 1000000) : FnSpec Try.prog 33 [funA f] (fun r => r = .osl 1 ((succsF f).map olst)) := by
  have hs := succsF_len f
  refine spec_of 1000 Try.func33 rfl rfl ?_
  repeat' first | refine MkS.mk _ rfl rfl (by omega) (by omega) ?_ | refine Len.map ?_ | refine Len.nil ?_ | refine Len.cons ?_ | refine Br.t rfl ?_ | refine Br.f rfl ?_ | refine Fit.au ?_ | refine Cv.au ?_ | refine Need.ne ?_ | refine Need.au ?_ | refine Pick.map (by assumption) ?_ | refine Pick.mapI (by omega) (by assumption) ?_ | refine PickN.mk _ (by assumption) ?_ | refine PickN.mk _ rfl ?_ | refine PickN.au ?_ | refine App.au rfl ?_ | refine App.au (own_map (fun _ => rfl) _) ?_ | refine Both.mk ?_ ?_ | exact True.intro
  refine Stop.mk (run_rowO 1 rfl (zero_olst _) ?_)
  refine loop_in (g := []) (fun k : Nat => [(1, .hp 0 0), (3, .hw 1), (13, .sl false 1 (f.blocks.map blk)), (14, num f.blocks.length), (15, num k)]) (fun k => [(0, .var f.cs), (1, .row 1 ((outS (succsF f) k).map olst))]) 2 (fun k => k ≤ f.blocks.length) (fun k => f.blocks.length - k) 0 (by omega) ?_ (fun k hk ih => ?_)
  · rw [show outS (succsF f) 0 = List.replicate f.blocks.length [] by unfold outS; rw [hs]; simp]
    exact ⟨rfl, (by repeat' first | exact trivial | refine ⟨rfl, ?_⟩ | refine ⟨congrArg (fun n => AV.lit (.int .i64 n)) (by omega), ?_⟩ | refine ⟨congrArg (fun l => some (Row.row 1 l)) (by simp [int1, num, tru]), ?_⟩), (by repeat' first | exact trivial | refine ⟨rfl, ?_⟩ | refine ⟨congrArg (fun n => AV.lit (.int .i64 n)) (by omega), ?_⟩ | refine ⟨congrArg (fun l => some (Row.row 1 l)) (by simp [int1, num, tru]), ?_⟩)⟩
  refine go 1000 Try.func33 ?_
  repeat' first | refine Len.map ?_ | refine Len.nil ?_ | refine Len.cons ?_ | refine Br.t rfl ?_ | refine Br.f rfl ?_ | refine Fit.au ?_ | refine Cv.au ?_ | refine Need.ne ?_ | refine Need.au ?_ | refine Pick.map (by assumption) ?_ | refine Pick.mapI (by omega) (by assumption) ?_ | refine PickN.mk _ (by assumption) ?_ | refine PickN.mk _ rfl ?_ | refine PickN.au ?_ | refine App.au rfl ?_ | refine App.au (own_map (fun _ => rfl) _) ?_ | refine Both.mk ?_ ?_ | exact True.intro
  refine Br.d (fun h2 => ?_) (fun h2 => ?_)
  · obtain ⟨b, gb, gbm⟩ := getK (l := f.blocks) (k := k) (by omega)
    obtain ⟨hb1, hb2⟩ := hf.2.2 b gbm
    have gs : (succsF f)[k]? = some (succ1 f.blocks.length b) := by unfold succsF; rw [List.getElem?_map, gb]; rfl
    have go0 := outS_at (succsF f) (k := k) (by omega)
    have golen := outS_len (succsF f) (k := k) (by omega)
    have gosucc := outS_succ gs
    repeat' first | refine Len.map ?_ | refine Len.nil ?_ | refine Len.cons ?_ | refine Br.t rfl ?_ | refine Br.f rfl ?_ | refine Fit.au ?_ | refine Cv.au ?_ | refine Need.ne ?_ | refine Need.au ?_ | refine Pick.map (by assumption) ?_ | refine Pick.mapI (by omega) (by assumption) ?_ | refine PickN.mk _ (by assumption) ?_ | refine PickN.mk _ rfl ?_ | refine PickN.au ?_ | refine App.au rfl ?_ | refine App.au (own_map (fun _ => rfl) _) ?_ | refine Both.mk ?_ ?_ | exact True.intro
    refine Br.d (fun h3 => ?_) (fun h3 => ?_)
    · repeat' first | refine Len.map ?_ | refine Len.nil ?_ | refine Len.cons ?_ | refine Br.t rfl ?_ | refine Br.f rfl ?_ | refine Fit.au ?_ | refine Cv.au ?_ | refine Need.ne ?_ | refine Need.au ?_ | refine Pick.map (by assumption) ?_ | refine Pick.mapI (by omega) (by assumption) ?_ | refine PickN.mk _ (by assumption) ?_ | refine PickN.mk _ rfl ?_ | refine PickN.au ?_ | refine App.au rfl ?_ | refine App.au (own_map (fun _ => rfl) _) ?_ | refine Both.mk ?_ ?_ | exact True.intro
      have e : succ1 f.blocks.length b = [] := by unfold succ1; rw [List.getElem?_eq_none (by omega)]
      rw [e] at gs
      refine Stop.mk (ih (k + 1) (g := []) _ _ _ (by omega) (by omega) ?_)
      rw [outS_nil gs]
      exact ⟨rfl, (by repeat' first | exact trivial | refine ⟨rfl, ?_⟩ | refine ⟨congrArg (fun n => AV.lit (.int .i64 n)) (by omega), ?_⟩ | refine ⟨congrArg (fun l => some (Row.row 1 l)) (by simp [int1, num, tru]), ?_⟩), (by repeat' first | exact trivial | refine ⟨rfl, ?_⟩ | refine ⟨congrArg (fun n => AV.lit (.int .i64 n)) (by omega), ?_⟩ | refine ⟨congrArg (fun l => some (Row.row 1 l)) (by simp [int1, num, tru]), ?_⟩)⟩
    · obtain ⟨i, gi, gim⟩ := getK (l := b) (k := b.length - 1) (by omega)
      have gi' : b[((b.length : Int) - 1).toNat]? = some i := by rw [show ((b.length : Int) - 1).toNat = b.length - 1 by omega]; exact gi
      have e : succ1 f.blocks.length b = below f.blocks.length (targetsF i) := by unfold succ1; rw [gi]
      have htl := targetsF_len i
      rw [e] at gosucc
      clear gs
      generalize outS (succsF f) k = out at *
      repeat' first | refine Call.eq (Targets100_spec i (hb2 i gim)) rfl ?_ | refine Len.map ?_ | refine Len.nil ?_ | refine Len.cons ?_ | refine Br.t rfl ?_ | refine Br.f rfl ?_ | refine Fit.au ?_ | refine Cv.au ?_ | refine Need.ne ?_ | refine Need.au ?_ | refine Pick.map (by assumption) ?_ | refine Pick.mapI (by omega) (by assumption) ?_ | refine PickN.mk _ (by assumption) ?_ | refine PickN.mk _ rfl ?_ | refine PickN.au ?_ | refine App.au rfl ?_ | refine App.au (own_map (fun _ => rfl) _) ?_ | refine Both.mk ?_ ?_ | exact True.intro
      refine Stop.mk (loop_in (g := []) (fun j : Nat => [(1, .hp 0 0), (3, .hw 1), (13, .sl false 1 (f.blocks.map blk)), (14, num f.blocks.length), (15, num k), (4, num k), (29, .hw 2), (30, num (targetsF i).length), (31, num j)]) (fun j => [(0, .var f.cs), (1, .row 1 ((out.set k (below f.blocks.length ((targetsF i).take j))).map olst)), (2, .row 1 ((targetsF i).map int1))]) 3 (fun j => j ≤ (targetsF i).length) (fun j => (targetsF i).length - j) 0 (by omega) ?_ (fun j hj ih2 => ?_))
      · have e0 : out.set k (below f.blocks.length ((targetsF i).take 0)) = out := by
          refine List.ext_getElem? fun u => ?_
          rw [List.getElem?_set]
          split
          · rename_i eu; subst eu; rw [go0, if_pos (by omega)]; rfl
          · rfl
        rw [e0]
        exact ⟨rfl, (by repeat' first | exact trivial | refine ⟨rfl, ?_⟩ | refine ⟨congrArg (fun n => AV.lit (.int .i64 n)) (by omega), ?_⟩ | refine ⟨congrArg (fun l => some (Row.row 1 l)) (by simp [int1, num, tru]), ?_⟩), (by repeat' first | exact trivial | refine ⟨rfl, ?_⟩ | refine ⟨congrArg (fun n => AV.lit (.int .i64 n)) (by omega), ?_⟩ | refine ⟨congrArg (fun l => some (Row.row 1 l)) (by simp [int1, num, tru]), ?_⟩)⟩
      have hbl := below_len f.blocks.length ((targetsF i).take j)
      rw [List.length_take] at hbl
      refine go 1000 Try.func33 ?_
      repeat' first | refine Len.map ?_ | refine Len.nil ?_ | refine Len.cons ?_ | refine Br.t rfl ?_ | refine Br.f rfl ?_ | refine Fit.au ?_ | refine Cv.au ?_ | refine Need.ne ?_ | refine Need.au ?_ | refine Pick.map (by assumption) ?_ | refine Pick.mapI (by omega) (by assumption) ?_ | refine PickN.mk _ (by assumption) ?_ | refine PickN.mk _ rfl ?_ | refine PickN.au ?_ | refine App.au rfl ?_ | refine App.au (own_map (fun _ => rfl) _) ?_ | refine Both.mk ?_ ?_ | exact True.intro
      refine Br.d (fun h4 => ?_) (fun h4 => ?_)
      · obtain ⟨t, gt, gtm⟩ := getK (l := targetsF i) (k := j) (by omega)
        have ebs := below_succ (n := f.blocks.length) gt
        have gat : (out.set k (below f.blocks.length ((targetsF i).take j)))[k]? = some (below f.blocks.length ((targetsF i).take j)) := set_at go0
        have glen : (out.set k (below f.blocks.length ((targetsF i).take j))).length = out.length := List.length_set
        repeat' first | refine Len.map ?_ | refine Len.nil ?_ | refine Len.cons ?_ | refine Br.t rfl ?_ | refine Br.f rfl ?_ | refine Fit.au ?_ | refine Cv.au ?_ | refine Need.ne ?_ | refine Need.au ?_ | refine Pick.map (by assumption) ?_ | refine Pick.mapI (by omega) (by assumption) ?_ | refine PickN.mk _ (by assumption) ?_ | refine PickN.mk _ rfl ?_ | refine PickN.au ?_ | refine App.au rfl ?_ | refine App.au (own_map (fun _ => rfl) _) ?_ | refine Both.mk ?_ ?_ | exact True.intro
        refine Br.d (fun h5 => ?_) (fun h5 => ?_)
        · rw [if_pos h5] at ebs
          repeat' first | refine Len.map ?_ | refine Len.nil ?_ | refine Len.cons ?_ | refine Br.t rfl ?_ | refine Br.f rfl ?_ | refine Fit.au ?_ | refine Cv.au ?_ | refine Need.ne ?_ | refine Need.au ?_ | refine Pick.map (by assumption) ?_ | refine Pick.mapI (by omega) (by assumption) ?_ | refine PickN.mk _ (by assumption) ?_ | refine PickN.mk _ rfl ?_ | refine PickN.au ?_ | refine App.au rfl ?_ | refine App.au (own_map (fun _ => rfl) _) ?_ | refine Both.mk ?_ ?_ | exact True.intro
          refine Need.mk rfl ?_
          repeat' first | refine Len.map ?_ | refine Len.nil ?_ | refine Len.cons ?_ | refine Br.t rfl ?_ | refine Br.f rfl ?_ | refine Fit.au ?_ | refine Cv.au ?_ | refine Need.ne ?_ | refine Need.au ?_ | refine Pick.map (by assumption) ?_ | refine Pick.mapI (by omega) (by assumption) ?_ | refine PickN.mk _ (by assumption) ?_ | refine PickN.mk _ rfl ?_ | refine PickN.au ?_ | refine App.au rfl ?_ | refine App.au (own_map (fun _ => rfl) _) ?_ | refine Both.mk ?_ ?_ | exact True.intro
          refine Stop.mk (ih2 (j + 1) (g := []) _ _ _ (by omega) (by omega) ?_)
          rw [ebs, show out.set k (below f.blocks.length ((targetsF i).take j) ++ [t]) = (out.set k (below f.blocks.length ((targetsF i).take j))).set k (below f.blocks.length ((targetsF i).take j) ++ [t]) by rw [List.set_set], ← set_olst1]
          exact ⟨rfl, (by repeat' first | exact trivial | refine ⟨rfl, ?_⟩ | refine ⟨congrArg (fun n => AV.lit (.int .i64 n)) (by omega), ?_⟩ | refine ⟨congrArg (fun l => some (Row.row 1 l)) (by simp [int1, num, tru]), ?_⟩), (by repeat' first | exact trivial | refine ⟨rfl, ?_⟩ | refine ⟨congrArg (fun n => AV.lit (.int .i64 n)) (by omega), ?_⟩ | refine ⟨congrArg (fun l => some (Row.row 1 l)) (by simp [int1, num, tru]), ?_⟩)⟩
        · rw [if_neg h5] at ebs
          repeat' first | refine Len.map ?_ | refine Len.nil ?_ | refine Len.cons ?_ | refine Br.t rfl ?_ | refine Br.f rfl ?_ | refine Fit.au ?_ | refine Cv.au ?_ | refine Need.ne ?_ | refine Need.au ?_ | refine Pick.map (by assumption) ?_ | refine Pick.mapI (by omega) (by assumption) ?_ | refine PickN.mk _ (by assumption) ?_ | refine PickN.mk _ rfl ?_ | refine PickN.au ?_ | refine App.au rfl ?_ | refine App.au (own_map (fun _ => rfl) _) ?_ | refine Both.mk ?_ ?_ | exact True.intro
          refine Stop.mk (ih2 (j + 1) (g := []) _ _ _ (by omega) (by omega) ?_)
          rw [ebs]
          exact ⟨rfl, (by repeat' first | exact trivial | refine ⟨rfl, ?_⟩ | refine ⟨congrArg (fun n => AV.lit (.int .i64 n)) (by omega), ?_⟩ | refine ⟨congrArg (fun l => some (Row.row 1 l)) (by simp [int1, num, tru]), ?_⟩), (by repeat' first | exact trivial | refine ⟨rfl, ?_⟩ | refine ⟨congrArg (fun n => AV.lit (.int .i64 n)) (by omega), ?_⟩ | refine ⟨congrArg (fun l => some (Row.row 1 l)) (by simp [int1, num, tru]), ?_⟩)⟩
      · repeat' first | refine Len.map ?_ | refine Len.nil ?_ | refine Len.cons ?_ | refine Br.t rfl ?_ | refine Br.f rfl ?_ | refine Fit.au ?_ | refine Cv.au ?_ | refine Need.ne ?_ | refine Need.au ?_ | refine Pick.map (by assumption) ?_ | refine Pick.mapI (by omega) (by assumption) ?_ | refine PickN.mk _ (by assumption) ?_ | refine PickN.mk _ rfl ?_ | refine PickN.au ?_ | refine App.au rfl ?_ | refine App.au (own_map (fun _ => rfl) _) ?_ | refine Both.mk ?_ ?_ | exact True.intro
        refine Stop.mk (ih (k + 1) (g := []) _ _ _ (by omega) (by omega) ?_)
        rw [gosucc, take_all (l := targetsF i) (by omega)]
        exact ⟨rfl, (by repeat' first | exact trivial | refine ⟨rfl, ?_⟩ | refine ⟨congrArg (fun n => AV.lit (.int .i64 n)) (by omega), ?_⟩ | refine ⟨congrArg (fun l => some (Row.row 1 l)) (by simp [int1, num, tru]), ?_⟩), (by repeat' first | exact trivial | refine ⟨rfl, ?_⟩ | refine ⟨congrArg (fun n => AV.lit (.int .i64 n)) (by omega), ?_⟩ | refine ⟨congrArg (fun l => some (Row.row 1 l)) (by simp [int1, num, tru]), ?_⟩)⟩
  · repeat' first | refine Len.map ?_ | refine Len.nil ?_ | refine Len.cons ?_ | refine Br.t rfl ?_ | refine Br.f rfl ?_ | refine Fit.au ?_ | refine Cv.au ?_ | refine Need.ne ?_ | refine Need.au ?_ | refine Pick.map (by assumption) ?_ | refine Pick.mapI (by omega) (by assumption) ?_ | refine PickN.mk _ (by assumption) ?_ | refine PickN.mk _ rfl ?_ | refine PickN.au ?_ | refine App.au rfl ?_ | refine App.au (own_map (fun _ => rfl) _) ?_ | refine Both.mk ?_ ?_ | exact True.intro
    have : k = (succsF f).length := by omega
    subst this
    rw [outS_all]
    rfl

set_option maxHeartbeats 1000000 in
theorem Preds68_spec (f : Fun) (hf : f.fits) (hn : f.blocks.length ≤ 1000000) : FnSpec Try.prog 24 [funA f] (fun r => r = .osl 1 ((predsF (succsF f)).map olst)) := by
  have hs := succsF_len f
  have hsm := succsF_small f
  have hcl := succsF_closed f
  have hpd := predsD_eq f
  refine spec_of 1000 Try.func24 rfl rfl ?_
  repeat' first | refine MkS.mk _ rfl rfl (by omega) (by omega) ?_ | refine Call.eq (Succs95_spec f hf hn) rfl ?_ | refine Len.map ?_ | refine Len.nil ?_ | refine Len.cons ?_ | refine Br.t rfl ?_ | refine Br.f rfl ?_ | refine Fit.au ?_ | refine Cv.au ?_ | refine Need.ne ?_ | refine Need.au ?_ | refine Pick.map (by assumption) ?_ | refine Pick.mapI (by omega) (by assumption) ?_ | refine PickN.mk _ (by assumption) ?_ | refine PickN.mk _ rfl ?_ | refine PickN.au ?_ | refine App.au rfl ?_ | refine App.au (own_map (fun _ => rfl) _) ?_ | refine Both.mk ?_ ?_ | exact True.intro
  rw [← hpd]
  rw [← hs]
  generalize succsF f = s at *
  refine Stop.mk (run_rowO 1 rfl (zero_olst _) ?_)
  refine run_frzR 2 rfl (fzLL_map fz_olsts _) ?_
  refine loop_in (g := []) (fun k : Nat => [(3, .hw 1), (13, lsts s), (14, num s.length), (15, num k)]) (fun k => [(1, .row 1 ((predsP s k 0).map olst))]) 2 (fun k => k ≤ s.length) (fun k => s.length - k) 0 (by omega) ?_ (fun k hk ih => ?_)
  · rw [predsP_zero]
    exact ⟨rfl, (by repeat' first | exact trivial | refine ⟨rfl, ?_⟩ | refine ⟨congrArg (fun n => AV.lit (.int .i64 n)) (by omega), ?_⟩ | refine ⟨congrArg (fun l => some (Row.row 1 l)) (by simp [int1, num, tru]), ?_⟩), (by repeat' first | exact trivial | refine ⟨rfl, ?_⟩ | refine ⟨congrArg (fun n => AV.lit (.int .i64 n)) (by omega), ?_⟩ | refine ⟨congrArg (fun l => some (Row.row 1 l)) (by simp [int1, num, tru]), ?_⟩)⟩
  refine go 1000 Try.func24 ?_
  repeat' first | refine Len.map ?_ | refine Len.nil ?_ | refine Len.cons ?_ | refine Br.t rfl ?_ | refine Br.f rfl ?_ | refine Fit.au ?_ | refine Cv.au ?_ | refine Need.ne ?_ | refine Need.au ?_ | refine Pick.map (by assumption) ?_ | refine Pick.mapI (by omega) (by assumption) ?_ | refine PickN.mk _ (by assumption) ?_ | refine PickN.mk _ rfl ?_ | refine PickN.au ?_ | refine App.au rfl ?_ | refine App.au (own_map (fun _ => rfl) _) ?_ | refine Both.mk ?_ ?_ | exact True.intro
  refine Br.d (fun h2 => ?_) (fun h2 => ?_)
  · obtain ⟨l, gl, glm⟩ := getK (l := s) (k := k) (by omega)
    have hll := hsm l glm
    have hlc := hcl l glm
    have hnext := predsP_next gl
    repeat' first | refine Len.map ?_ | refine Len.nil ?_ | refine Len.cons ?_ | refine Br.t rfl ?_ | refine Br.f rfl ?_ | refine Fit.au ?_ | refine Cv.au ?_ | refine Need.ne ?_ | refine Need.au ?_ | refine Pick.map (by assumption) ?_ | refine Pick.mapI (by omega) (by assumption) ?_ | refine PickN.mk _ (by assumption) ?_ | refine PickN.mk _ rfl ?_ | refine PickN.au ?_ | refine App.au rfl ?_ | refine App.au (own_map (fun _ => rfl) _) ?_ | refine Both.mk ?_ ?_ | exact True.intro
    refine Stop.mk (loop_in (g := []) (fun j : Nat => [(3, .hw 1), (13, lsts s), (14, num s.length), (15, num k), (4, num k), (20, ints l), (21, num l.length), (22, num j)]) (fun j => [(1, .row 1 ((predsP s k j).map olst))]) 2 (fun j => j ≤ l.length) (fun j => l.length - j) 0 (by omega) ⟨rfl, (by repeat' first | exact trivial | refine ⟨rfl, ?_⟩ | refine ⟨congrArg (fun n => AV.lit (.int .i64 n)) (by omega), ?_⟩ | refine ⟨congrArg (fun l => some (Row.row 1 l)) (by simp [int1, num, tru]), ?_⟩), (by repeat' first | exact trivial | refine ⟨rfl, ?_⟩ | refine ⟨congrArg (fun n => AV.lit (.int .i64 n)) (by omega), ?_⟩ | refine ⟨congrArg (fun l => some (Row.row 1 l)) (by simp [int1, num, tru]), ?_⟩)⟩ (fun j hj ih2 => ?_))
    refine go 1000 Try.func24 ?_
    repeat' first | refine Len.map ?_ | refine Len.nil ?_ | refine Len.cons ?_ | refine Br.t rfl ?_ | refine Br.f rfl ?_ | refine Fit.au ?_ | refine Cv.au ?_ | refine Need.ne ?_ | refine Need.au ?_ | refine Pick.map (by assumption) ?_ | refine Pick.mapI (by omega) (by assumption) ?_ | refine PickN.mk _ (by assumption) ?_ | refine PickN.mk _ rfl ?_ | refine PickN.au ?_ | refine App.au rfl ?_ | refine App.au (own_map (fun _ => rfl) _) ?_ | refine Both.mk ?_ ?_ | exact True.intro
    refine Br.d (fun h3 => ?_) (fun h3 => ?_)
    · obtain ⟨t, gt, gtm⟩ := getK (l := l) (k := j) (by omega)
      obtain ⟨ht0, ht1⟩ := hlc t gtm
      obtain ⟨t, rfl⟩ : ∃ t' : Nat, t = (t' : Int) := ⟨t.toNat, by omega⟩
      have hstep := predsP_step gl gt (by omega)
      have hat : (predsP s k j)[t]? = some (predP s k j t) := predsP_at (by omega)
      have hlen := predsP_len s k j
      have hpl := predP_len hsm k j t
      repeat' first | refine Len.map ?_ | refine Len.nil ?_ | refine Len.cons ?_ | refine Br.t rfl ?_ | refine Br.f rfl ?_ | refine Fit.au ?_ | refine Cv.au ?_ | refine Need.ne ?_ | refine Need.au ?_ | refine Pick.map (by assumption) ?_ | refine Pick.mapI (by omega) (by assumption) ?_ | refine PickN.mk _ (by assumption) ?_ | refine PickN.mk _ rfl ?_ | refine PickN.au ?_ | refine App.au rfl ?_ | refine App.au (own_map (fun _ => rfl) _) ?_ | refine Both.mk ?_ ?_ | exact True.intro
      refine Need.mk rfl ?_
      repeat' first | refine Len.map ?_ | refine Len.nil ?_ | refine Len.cons ?_ | refine Br.t rfl ?_ | refine Br.f rfl ?_ | refine Fit.au ?_ | refine Cv.au ?_ | refine Need.ne ?_ | refine Need.au ?_ | refine Pick.map (by assumption) ?_ | refine Pick.mapI (by omega) (by assumption) ?_ | refine PickN.mk _ (by assumption) ?_ | refine PickN.mk _ rfl ?_ | refine PickN.au ?_ | refine App.au rfl ?_ | refine App.au (own_map (fun _ => rfl) _) ?_ | refine Both.mk ?_ ?_ | exact True.intro
      refine Stop.mk (ih2 (j + 1) (g := []) _ _ _ (by omega) (by omega) ?_)
      rw [hstep, ← set_olst1]
      exact ⟨rfl, (by repeat' first | exact trivial | refine ⟨rfl, ?_⟩ | refine ⟨congrArg (fun n => AV.lit (.int .i64 n)) (by omega), ?_⟩ | refine ⟨congrArg (fun l => some (Row.row 1 l)) (by simp [int1, num, tru]), ?_⟩), (by repeat' first | exact trivial | refine ⟨rfl, ?_⟩ | refine ⟨congrArg (fun n => AV.lit (.int .i64 n)) (by omega), ?_⟩ | refine ⟨congrArg (fun l => some (Row.row 1 l)) (by simp [int1, num, tru]), ?_⟩)⟩
    · repeat' first | refine Len.map ?_ | refine Len.nil ?_ | refine Len.cons ?_ | refine Br.t rfl ?_ | refine Br.f rfl ?_ | refine Fit.au ?_ | refine Cv.au ?_ | refine Need.ne ?_ | refine Need.au ?_ | refine Pick.map (by assumption) ?_ | refine Pick.mapI (by omega) (by assumption) ?_ | refine PickN.mk _ (by assumption) ?_ | refine PickN.mk _ rfl ?_ | refine PickN.au ?_ | refine App.au rfl ?_ | refine App.au (own_map (fun _ => rfl) _) ?_ | refine Both.mk ?_ ?_ | exact True.intro
      have : j = l.length := by omega
      subst this
      refine Stop.mk (ih (k + 1) (g := []) _ _ _ (by omega) (by omega) ?_)
      rw [← hnext]
      exact ⟨rfl, (by repeat' first | exact trivial | refine ⟨rfl, ?_⟩ | refine ⟨congrArg (fun n => AV.lit (.int .i64 n)) (by omega), ?_⟩ | refine ⟨congrArg (fun l => some (Row.row 1 l)) (by simp [int1, num, tru]), ?_⟩), (by repeat' first | exact trivial | refine ⟨rfl, ?_⟩ | refine ⟨congrArg (fun n => AV.lit (.int .i64 n)) (by omega), ?_⟩ | refine ⟨congrArg (fun l => some (Row.row 1 l)) (by simp [int1, num, tru]), ?_⟩)⟩
  · repeat' first | refine Len.map ?_ | refine Len.nil ?_ | refine Len.cons ?_ | refine Br.t rfl ?_ | refine Br.f rfl ?_ | refine Fit.au ?_ | refine Cv.au ?_ | refine Need.ne ?_ | refine Need.au ?_ | refine Pick.map (by assumption) ?_ | refine Pick.mapI (by omega) (by assumption) ?_ | refine PickN.mk _ (by assumption) ?_ | refine PickN.mk _ rfl ?_ | refine PickN.au ?_ | refine App.au rfl ?_ | refine App.au (own_map (fun _ => rfl) _) ?_ | refine Both.mk ?_ ?_ | exact True.intro
    have : k = s.length := by omega
    subst this
    rfl
end Go.Proofs.Ytjjijklonnhdeaa

/- What a block's branch tells, as the program reckons it. No program is in sight here. -/
namespace Go.Proofs.Ytjjijklonnhdeaa
open Go.Ax
def againstF (op : Int) : Int := if op = 3 then 4 else if op = 4 then 3 else if op = 5 then 8 else if op = 8 then 5 else if op = 6 then 7 else if op = 7 then 6 else 0
def turnedF (op : Int) : Int := if op = 3 ∨ op = 4 then op else if op = 5 then 7 else if op = 7 then 5 else if op = 6 then 8 else if op = 8 then 6 else 0
/-- Is a register written in a list? -/
def wrF (b : List Ins) (r : Int) : Bool := b.any fun i => decide (defF i = r)
/-- Who of the first ones writes a register last. -/
def lastW (b : List Ins) (x : Int) : Nat → Option Nat
  | 0 => none
  | n + 1 => match b[n]? with
    | some i => if defF i = x then some n else lastW b x n
    | none => lastW b x n
theorem lastW_hit {b : List Ins} {x : Int} {n : Nat} {i : Ins} (gi : b[n]? = some i) (h : defF i = x) : lastW b x (n + 1) = some n := by simp only [lastW, gi]; exact if_pos h
theorem lastW_miss {b : List Ins} {x : Int} {n : Nat} {i : Ins} (gi : b[n]? = some i) (h : defF i ≠ x) : lastW b x (n + 1) = lastW b x n := by simp only [lastW, gi]; exact if_neg h
theorem lastW_some {b : List Ins} {x : Int} : ∀ {n m : Nat}, lastW b x n = some m → m < n ∧ ∃ i, b[m]? = some i ∧ defF i = x
  | 0, m, h => by cases h
  | n + 1, m, h => by
    simp only [lastW] at h
    split at h
    · rename_i i gi
      split at h
      · cases h; exact ⟨by omega, i, gi, by assumption⟩
      · obtain ⟨h1, h2⟩ := lastW_some h; exact ⟨by omega, h2⟩
    · obtain ⟨h1, h2⟩ := lastW_some h; exact ⟨by omega, h2⟩
/-- What was asked ahead of a block's end, and whether it tells something. -/
def askAt (f : Fun) (b : List Ins) (m : Nat) : Ins × Bool := match b[m]? with
  | some i => (i, !((usesF i).any fun u => wrF (b.drop (m + 1)) u) && (decide (i.op = 26) || (decide (3 ≤ i.op ∧ i.op ≤ 8) && decide (f.regs.getD i.a.toNat 0 = 1))))
  | none => (Ins.none, false)
def askF (f : Fun) (b : List Ins) : Ins × Bool := match lastW b (b.getLastD Ins.none).a (b.length - 1) with
  | some m => askAt f b m
  | none => (Ins.none, false)
end Go.Proofs.Ytjjijklonnhdeaa

/- What is inserted into a function, as the program reckons it. No program is in sight here. -/
namespace Go.Proofs.Ytjjijklonnhdeaa
open Go.Ax
def Ins.ocs (i : Ins) : List AV := [num i.op, num i.dst, num i.a, num i.b, num i.c, num i.n, num i.m, num i.site, .osl 1 (i.args.map int1)]
def oblk (b : List Ins) : List AV := [.osl 9 (b.map Ins.ocs)]
def Fun.ocs (f : Fun) : List AV := [.lit (.string f.name), num f.params, num f.ret, .osl 1 (f.regs.map int1), .osl 1 (f.blocks.map oblk)]
def piIns (x y m : Int) : Ins := ⟨45, x, x, y, 0, 0, m, 0, []⟩
def tellI (op : Int) (i : Ins) : List Ins := if op = 4 then [] else piIns i.a i.b op :: if i.a = i.b then [] else [piIns i.b i.a (turnedF op)]
def tellB (f : Fun) (k : Nat) (b : List Ins) : List Ins :=
  if (b.getLastD Ins.none).op ≠ 42 then [] else
  if (askF f b).2 = false then [] else
  if (askF f b).1.op = 26 then (if (b.getLastD Ins.none).n = k then [] else [piIns (askF f b).1.a 0 21]) else
  tellI (if (b.getLastD Ins.none).n = k then (askF f b).1.op else againstF (askF f b).1.op) (askF f b).1
/-- What stands at a block's beginning. -/
def toldF (f : Fun) (k : Nat) (p : List (List Int)) : List Ins := if k = 0 then [] else match p[k]? with
  | some [x] => tellB f k (f.blocks.getD x.toNat [])
  | _ => []
def aft (i : Ins) : List Ins := i :: if i.op = 32 then [piIns i.b i.a 20] else []
def insB (f : Fun) (p : List (List Int)) (k : Nat) (b : List Ins) : List Ins := toldF f k p ++ b.flatMap aft
def insF (f : Fun) : Fun := { f with blocks := f.blocks.mapIdx (insB f (predsF (succsF f))) }
def Fun.okP (f : Fun) : Prop := ∀ b ∈ f.blocks, ∀ i ∈ b, right15 i = true ∧ i.args.length ≤ 1000000 ∧ ∀ u ∈ usesF i, u < f.regs.length
theorem tellI_len (op : Int) (i : Ins) : (tellI op i).length ≤ 2 := by unfold tellI; split <;> (try split) <;> simp
theorem tellB_len (f : Fun) (k : Nat) (b : List Ins) : (tellB f k b).length ≤ 2 := by
  unfold tellB
  repeat' split
  all_goals first | exact tellI_len _ _ | simp
theorem toldF_len (f : Fun) (k : Nat) (p : List (List Int)) : (toldF f k p).length ≤ 2 := by
  unfold toldF
  repeat' split
  all_goals first | exact tellB_len _ _ _ | simp
theorem aft_len (b : List Ins) : (b.flatMap aft).length ≤ 2 * b.length := by
  induction b with
  | nil => simp
  | cons i b ih =>
    rw [List.flatMap_cons, List.length_append, List.length_cons]
    have : (aft i).length ≤ 2 := by unfold aft; split <;> simp
    omega
theorem flatMap_take_succ {α β : Type} {l : List α} {k : Nat} {x : α} (g : α → List β) (h : l[k]? = some x) : (l.take (k + 1)).flatMap g = (l.take k).flatMap g ++ g x := by
  rw [take_succ h, List.flatMap_append]; simp
end Go.Proofs.Ytjjijklonnhdeaa

/- A tidy function, as the program reckons it. No program is in sight here. -/
namespace Go.Proofs.Ytjjijklonnhdeaa
open Go.Ax
open Classical in
noncomputable def marksF (s : List (List Int)) (x : Int) : List Bool := (List.range s.length).map fun (k : Nat) => decide (Reaches s x k)
theorem marksF_len (s : List (List Int)) (x : Int) : (marksF s x).length = s.length := by unfold marksF; simp
theorem marksF_at {s : List (List Int)} {x : Int} {k : Nat} : (marksF s x)[k]? = some true ↔ k < s.length ∧ Reaches s x k := by
  unfold marksF
  rw [List.getElem?_map]
  by_cases h : k < s.length
  · rw [List.getElem?_range h]; simp [h]
  · rw [List.getElem?_eq_none (by simpa using h)]; simp [h]
theorem Marks.eq {s : List (List Int)} {x : Int} {l : List Bool} (h : Marks s x l) : l = marksF s x := by
  refine List.ext_getElem? fun k => ?_
  by_cases hk : k < s.length
  · obtain ⟨b, hb⟩ : ∃ b, l[k]? = some b := ⟨l[k]'(by rw [h.1]; exact hk), by simp [h.1, hk]⟩
    obtain ⟨c, hc⟩ : ∃ c, (marksF s x)[k]? = some c := ⟨(marksF s x)[k]'(by rw [marksF_len]; exact hk), by simp [marksF_len, hk]⟩
    have h1 := h.2 k
    have h2 := marksF_at (s := s) (x := x) (k := k)
    rw [hb] at h1 ⊢; rw [hc] at h2 ⊢
    cases b <;> cases c <;> simp_all
  · rw [List.getElem?_eq_none (by rw [h.1]; omega), List.getElem?_eq_none (by rw [marksF_len]; omega)]
/-- New numbers. -/
def numF : Int → List Bool → List Int
  | _, [] => []
  | n, true :: l => n :: numF (n + 1) l
  | n, false :: l => -1 :: numF n l
theorem numF_len : ∀ (l : List Bool) (n : Int), (numF n l).length = l.length
  | [], _ => rfl
  | true :: l, n => by simp [numF, numF_len l]
  | false :: l, n => by simp [numF, numF_len l]
theorem numF_app : ∀ (l : List Bool) (n : Int) (b : Bool), numF n (l ++ [b]) = numF n l ++ [if b = true then n + (l.count true : Nat) else -1]
  | [], n, b => by cases b <;> simp [numF]
  | true :: l, n, b => by
    simp only [List.cons_append, numF, numF_app l]
    congr 2
    cases b
    · simp
    · simp; omega
  | false :: l, n, b => by
    simp only [List.cons_append, numF, numF_app l]
    simp
noncomputable def mapF (f : Fun) : List Int := numF 0 (marksF (succsF f) (-1))
theorem mapF_len (f : Fun) : (mapF f).length = f.blocks.length := by unfold mapF; rw [numF_len, marksF_len, succsF_len]
/-- New numbers, so far. -/
def numK (l : List Bool) (k : Nat) : List Int := numF 0 (l.take k) ++ List.replicate (l.length - k) 0
theorem numK_zero (l : List Bool) : numK l 0 = List.replicate l.length 0 := by unfold numK; simp [numF]
theorem numK_all (l : List Bool) : numK l l.length = numF 0 l := by unfold numK; simp
theorem numK_len (l : List Bool) (k : Nat) (h : k ≤ l.length) : (numK l k).length = l.length := by unfold numK; rw [List.length_append, numF_len, List.length_take, List.length_replicate]; omega
theorem numK_at {l : List Bool} {k : Nat} {b : Bool} (h : l[k]? = some b) (v : Int) : (numK l k).set k v = numF 0 (l.take k) ++ v :: List.replicate (l.length - (k + 1)) 0 := by
  have hk := (List.getElem?_eq_some_iff.1 h).1
  unfold numK
  rw [show l.length - k = (l.length - (k + 1)) + 1 by omega, List.replicate_succ, List.set_append_right _ _ (by rw [numF_len, List.length_take]; omega)]
  rw [numF_len, List.length_take, show k - min k l.length = 0 by omega]
  rfl
theorem numK_succ {l : List Bool} {k : Nat} {b : Bool} (h : l[k]? = some b) : (numK l k).set k (if b = true then ((l.take k).count true : Nat) else -1) = numK l (k + 1) := by
  rw [numK_at h]
  unfold numK
  rw [take_succ h, numF_app]
  simp
end Go.Proofs.Ytjjijklonnhdeaa

/- Chains of next dominators, reckoned again and again: what stays so. No program is in sight here. -/
namespace Go.Proofs.Ytjjijklonnhdeaa
open Go.Ax

def par (l : List Int) (x : Nat) : Nat := (l.getD x 0).toNat
/-- Who stands above a block, or is it. -/
inductive Anc (l : List Int) (a : Nat) : Nat → Prop
  | self : Anc l a a
  | up {x : Nat} : x ≠ 0 → Anc l a (par l x) → Anc l a x
theorem Anc.trans {l : List Int} {a b x : Nat} (h : Anc l a b) (g : Anc l b x) : Anc l a x := by
  induction g with
  | self => exact h
  | up hx _ ih => exact .up hx ih
theorem Anc.zero {l : List Int} {a x : Nat} (h : Anc l a x) (hx : x = 0) : a = x := by
  cases h with
  | self => rfl
  | up h _ => exact absurd hx h
theorem Anc.comp {l : List Int} {a b x : Nat} (h : Anc l a x) (g : Anc l b x) : Anc l a b ∨ Anc l b a := by
  induction h with
  | self => exact .inr g
  | up hx h1 ih =>
    cases g with
    | self => exact .inl (.up hx h1)
    | up _ g1 => exact ih g1
theorem Anc.more {l : List Int} {a x : Nat} (h : Anc l a x) (hne : a ≠ x) : x ≠ 0 ∧ Anc l a (par l x) := by
  cases h with
  | self => exact absurd rfl hne
  | up h1 h2 => exact ⟨h1, h2⟩

def Rc (s : List (List Int)) (a : Nat) : Prop := Reaches s (-1) (a : Int)
def Ed (s : List (List Int)) (p k : Nat) : Prop := ∃ r, s[p]? = some r ∧ (k : Int) ∈ r
/-- Places of blocks in an order: each block but the first one comes behind one that goes to it. -/
structure Rpo (s : List (List Int)) (pl : Nat → Nat) (m : Nat) : Prop where
  zero : pl 0 = 0
  inj : ∀ a b, Rc s a → Rc s b → pl a = pl b → a = b
  lt : ∀ a, Rc s a → pl a < m
  pred : ∀ k, k ≠ 0 → Rc s k → ∃ p, Rc s p ∧ Ed s p k ∧ pl p < pl k
/-- A way by blocks that do not come ahead of its first one. -/
inductive Way (s : List (List Int)) (pl : Nat → Nat) (a : Nat) : Nat → Prop
  | self : Way s pl a a
  | step {p k : Nat} : Way s pl a p → Ed s p k → pl a ≤ pl k → Way s pl a k
theorem Way.trans {s : List (List Int)} {pl : Nat → Nat} {a c x : Nat} (h : Way s pl a c) (g : Way s pl c x) (hp : pl a ≤ pl c) : Way s pl a x := by
  induction g with
  | self => exact h
  | step _ he hk ih => exact .step ih he (Nat.le_trans hp hk)
theorem Way.avoid {s : List (List Int)} {pl : Nat → Nat} {c x d : Nat} (h : Way s pl c x) (hd : pl d < pl c) (hr : Reaches s (d : Int) (c : Int)) : Reaches s (d : Int) (x : Int) := by
  induction h with
  | self => exact hr
  | @step p k _ he hk ih =>
    obtain ⟨r, gr, hm⟩ := he
    refine .step ih gr hm fun e => ?_
    have : k = d := by omega
    subst this; omega
def DomN (s : List (List Int)) (d x : Nat) : Prop := Dom s (d : Int) (x : Int)
theorem DomN.pred {s : List (List Int)} {d p c : Nat} (h : DomN s d c) (hp : Rc s p) (he : Ed s p c) (hne : d ≠ c) : DomN s d p := by
  obtain ⟨h1, h2, h3⟩ := h
  obtain ⟨r, gr, hm⟩ := he
  exact ⟨h1, hp, fun h4 => h3 (.step h4 gr hm fun e => hne (by omega))⟩

/-- What stays so. -/
structure Wf (s : List (List Int)) (pl : Nat → Nat) (l : List Int) (dn : Nat → Prop) (pos : Nat) : Prop where
  r : ∀ x, dn x → Rc s x
  z : dn 0
  up : ∀ x, x ≠ 0 → dn x → dn (par l x) ∧ pl (par l x) < pl x
  down : ∀ k j, dn k → Rc s j → pl j < pl k → dn j
  way : ∀ x a, dn x → Anc l a x → Way s pl a x
  dom : ∀ d x, dn x → DomN s d x → Anc l d x
  mono : ∀ k, k ≠ 0 → dn k → ∀ a, (∀ p, dn p → Ed s p k → Anc l a p) → Anc l a (par l k)
  near : ∀ k, k ≠ 0 → dn k → (pl k < pos ∨ pos ≤ pl (par l k)) → ∀ p, Ed s p k → Rc s p → pl p < pl k → Anc l (par l k) p
theorem Wf.anc {s : List (List Int)} {pl : Nat → Nat} {l : List Int} {dn : Nat → Prop} {pos : Nat} (h : Wf s pl l dn pos) {a x : Nat} (ha : Anc l a x) (hx : dn x) : dn a ∧ pl a ≤ pl x ∧ (a ≠ x → pl a < pl x) := by
  induction ha with
  | self => exact ⟨hx, Nat.le_refl _, fun h => absurd rfl h⟩
  | up hne _ ih =>
    obtain ⟨h1, h2⟩ := h.up _ hne hx
    obtain ⟨h3, h4, -⟩ := ih h1
    exact ⟨h3, by omega, fun _ => by omega⟩
theorem par_set_self {l : List Int} {c N : Nat} (hc : c < l.length) : par (l.set c (N : Int)) c = N := by
  unfold par
  rw [List.getD_eq_getElem?_getD, List.getElem?_set]
  simp [hc]
theorem par_set_ne {l : List Int} {c N x : Nat} (hx : x ≠ c) : par (l.set c (N : Int)) x = par l x := by
  unfold par
  rw [List.getD_eq_getElem?_getD, List.getElem?_set, if_neg (fun e => hx e.symm), ← List.getD_eq_getElem?_getD]

section
variable {s : List (List Int)} {pl : Nat → Nat} {m : Nat} {l : List Int} {dn : Nat → Prop} {pos c N : Nat}
/-- A block gets a next dominator. -/
structure Chg (s : List (List Int)) (pl : Nat → Nat) (l : List Int) (dn : Nat → Prop) (pos c N : Nat) : Prop where
  w : Wf s pl l dn pos
  c0 : c ≠ 0
  cR : Rc s c
  cpos : pl c = pos
  prev : ∀ j, Rc s j → pl j < pl c → dn j
  meet : ∀ a, Anc l a N ↔ ∀ p, dn p → Ed s p c → Anc l a p
  len : c < l.length
theorem Chg.n (h : Chg s pl l dn pos c N) (O : Rpo s pl m) : dn N ∧ pl N < pl c := by
  obtain ⟨p, h1, h2, h3⟩ := O.pred c h.c0 h.cR
  have hp := h.prev p h1 h3
  obtain ⟨h4, h5, -⟩ := h.w.anc ((h.meet N).1 .self p hp h2) hp
  exact ⟨h4, by omega⟩
theorem Chg.low (h : Chg s pl l dn pos c N) {x : Nat} (hx : dn x) (hl : pl x < pl c) : ¬ Anc l c x := fun ha => by
  have := (h.w.anc ha hx).2.1; omega
/-- A chain that does not meet the block stays. -/
theorem Chg.same (h : Chg s pl l dn pos c N) {a x : Nat} (hc : ¬ Anc l c x) (ha : Anc l a x) : Anc (l.set c (N : Int)) a x := by
  induction ha with
  | self => exact .self
  | @up x hx h1 ih =>
    have hne : x ≠ c := fun e => hc (e ▸ .self)
    exact .up hx (by rw [par_set_ne hne]; exact ih fun h2 => hc (.up hx h2))
theorem Chg.nn (h : Chg s pl l dn pos c N) (O : Rpo s pl m) {a : Nat} (ha : Anc l a N) : Anc (l.set c (N : Int)) a c := by
  obtain ⟨h1, h2⟩ := h.n O
  refine .up h.c0 ?_
  rw [par_set_self h.len]
  exact h.same (h.low h1 h2) ha
/-- The part of a chain below the block stays. -/
theorem Chg.keep (h : Chg s pl l dn pos c N) (O : Rpo s pl m) {a x : Nat} (hc : dn c) (hx : dn x) (ha : Anc l a x) (hca : Anc l c a) : Anc (l.set c (N : Int)) a x := by
  induction ha with
  | self => exact .self
  | @up x hxz h1 ih =>
    by_cases e : x = c
    · subst e
      have g1 := h.w.anc (.up hxz h1) hx
      have g2 := h.w.anc hca g1.1
      have : a = x := by
        apply Classical.byContradiction; intro hne
        have := g1.2.2 hne; omega
      subst this; exact .self
    · exact .up hxz (by rw [par_set_ne e]; exact ih (h.w.up _ hxz hx).1)
theorem Chg.high (h : Chg s pl l dn pos c N) {a x : Nat} (hx : dn x) (ha : Anc l a x) (hp : pl c < pl a) : Anc (l.set c (N : Int)) a x := by
  induction ha with
  | self => exact .self
  | @up x hxz h1 ih =>
    have h2 := h.w.up _ hxz hx
    have h3 := (h.w.anc h1 h2.1).2.1
    have e : x ≠ c := fun e => by subst e; omega
    exact .up hxz (by rw [par_set_ne e]; exact ih h2.1)
theorem Chg.back (h : Chg s pl l dn pos c N) (O : Rpo s pl m) {a x : Nat} (hx : dn x) (ha : Anc (l.set c (N : Int)) a x) : (¬ Anc l c x ∧ Anc l a x) ∨ (Anc l c x ∧ ((Anc l a x ∧ Anc l c a) ∨ Anc l a N)) := by
  obtain ⟨hn1, hn2⟩ := h.n O
  induction ha with
  | self =>
    by_cases e : Anc l c a
    · exact .inr ⟨e, .inl ⟨.self, e⟩⟩
    · exact .inl ⟨e, .self⟩
  | @up x hxz h1 ih =>
    by_cases e : x = c
    · subst e
      rw [par_set_self h.len] at ih
      rcases ih hn1 with ⟨-, h2⟩ | ⟨h2, -⟩
      · exact .inr ⟨.self, .inr h2⟩
      · exact absurd h2 (h.low hn1 hn2)
    · rw [par_set_ne e] at ih
      rcases ih (h.w.up _ hxz hx).1 with ⟨h2, h3⟩ | ⟨h2, ⟨h3, h4⟩ | h3⟩
      · refine .inl ⟨fun h4 => h2 (h4.more (fun e2 => e e2.symm)).2, .up hxz h3⟩
      · exact .inr ⟨.up hxz h2, .inl ⟨.up hxz h3, h4⟩⟩
      · exact .inr ⟨.up hxz h2, .inr h3⟩
theorem Chg.backc (h : Chg s pl l dn pos c N) (O : Rpo s pl m) {a : Nat} (ha : Anc (l.set c (N : Int)) a c) : a = c ∨ Anc l a N := by
  obtain ⟨hn1, hn2⟩ := h.n O
  by_cases e : a = c
  · exact .inl e
  · right
    have h1 := (ha.more e).2
    rw [par_set_self h.len] at h1
    rcases h.back O hn1 h1 with ⟨-, h2⟩ | ⟨h2, -⟩
    · exact h2
    · exact absurd h2 (h.low hn1 hn2)
theorem Chg.above (h : Chg s pl l dn pos c N) (hc : dn c) : Anc l N (par l c) := h.w.mono c h.c0 hc N fun p hp he => (h.meet N).1 .self p hp he
theorem Chg.less (h : Chg s pl l dn pos c N) (O : Rpo s pl m) {a x : Nat} (hx : dn x) (ha : Anc (l.set c (N : Int)) a x) : Anc l a x := by
  rcases h.back O hx ha with ⟨-, h2⟩ | ⟨h2, ⟨h3, -⟩ | h3⟩
  · exact h2
  · exact h3
  · have hc := (h.w.anc h2 hx).1
    exact (h3.trans (.up h.c0 (h.above hc))).trans h2
theorem Chg.domc (h : Chg s pl l dn pos c N) (O : Rpo s pl m) {d : Nat} (hd : DomN s d c) : Anc (l.set c (N : Int)) d c := by
  by_cases e : d = c
  · subst e; exact .self
  · exact h.nn O ((h.meet d).2 fun p hp he => h.w.dom d p hp (hd.pred (h.w.r p hp) he e))
theorem Chg.wf (h : Chg s pl l dn pos c N) (O : Rpo s pl m) : Wf s pl (l.set c (N : Int)) (fun x => dn x ∨ x = c) (pos + 1) := by
  obtain ⟨hn1, hn2⟩ := h.n O
  have hcp := h.cpos
  refine ⟨?_, .inl h.w.z, ?_, ?_, ?_, ?_, ?_, ?_⟩
  · rintro x (hx | rfl)
    · exact h.w.r x hx
    · exact h.cR
  · intro x hx0 hx
    by_cases e : x = c
    · subst e; rw [par_set_self h.len]; exact ⟨.inl hn1, hn2⟩
    · rw [par_set_ne e]
      have := h.w.up x hx0 (hx.resolve_right e)
      exact ⟨.inl this.1, this.2⟩
  · rintro k j (hk | rfl) hj hl
    · exact .inl (h.w.down k j hk hj hl)
    · exact .inl (h.prev j hj hl)
  · intro x a hx ha
    have wc : Anc l a N → Way s pl a c := fun h1 => by
      obtain ⟨p, p1, p2, p3⟩ := O.pred c h.c0 h.cR
      have hp := h.prev p p1 p3
      have h2 := (h.meet a).1 h1 p hp p2
      have h3 := (h.w.anc h2 hp).2.1
      exact .step (h.w.way p a hp h2) p2 (by omega)
    by_cases e : x = c
    · subst e
      rcases h.backc O ha with rfl | h1
      · exact .self
      · exact wc h1
    · have hx := hx.resolve_right e
      rcases h.back O hx ha with ⟨-, h2⟩ | ⟨h2, ⟨h3, -⟩ | h3⟩
      · exact h.w.way x a hx h2
      · exact h.w.way x a hx h3
      · have := (h.w.anc h3 hn1).2.1
        exact (wc h3).trans (h.w.way x c hx h2) (by omega)
  · intro d x hx hd
    by_cases e : x = c
    · subst e; exact h.domc O hd
    · have hx := hx.resolve_right e
      have h1 := h.w.dom d x hx hd
      by_cases e2 : Anc l c x
      · have hc := (h.w.anc e2 hx).1
        rcases h1.comp e2 with h3 | h3
        · by_cases e3 : d = c
          · rw [e3]; exact h.keep O hc hx e2 .self
          · have h4 := (h.w.anc h3 hc).2.2 e3
            refine (h.domc O ⟨hd.1, h.cR, fun h5 => hd.2.2 ((h.w.way x c hx e2).avoid h4 h5)⟩).trans (h.keep O hc hx e2 .self)
        · exact h.keep O hc hx h1 h3
      · exact h.same e2 h1
  · intro k hk0 hk a ha
    by_cases e : k = c
    · subst e
      rw [par_set_self h.len]
      exact h.same (h.low hn1 hn2) ((h.meet a).2 fun p hp he => h.less O hp (ha p (.inl hp) he))
    · have hk := hk.resolve_right e
      rw [par_set_ne e]
      have h1 := h.w.mono k hk0 hk a fun p hp he => h.less O hp (ha p (.inl hp) he)
      obtain ⟨ht, htl⟩ := h.w.up k hk0 hk
      by_cases e2 : Anc l c (par l k)
      · obtain ⟨hc, hcl, -⟩ := h.w.anc e2 ht
        obtain ⟨p, p1, p2, p3⟩ := O.pred k hk0 (h.w.r k hk)
        have hp := h.w.down k p hk p1 p3
        have h2 := h.w.near k hk0 hk (.inr (by omega)) p p2 p1 p3
        rcases h.back O hp (ha p (.inl hp) p2) with ⟨h3, -⟩ | ⟨-, ⟨-, h4⟩ | h3⟩
        · exact absurd (e2.trans h2) h3
        · exact h.keep O hc ht h1 h4
        · exact (h.nn O h3).trans (h.keep O hc ht e2 .self)
      · exact h.same e2 h1
  · intro k hk0 hk hpk p he hpR hpl
    by_cases e : k = c
    · subst e
      have hp := h.prev p hpR hpl
      rw [par_set_self h.len]
      exact h.same (h.low hp hpl) ((h.meet N).1 .self p hp he)
    · have hk := hk.resolve_right e
      rw [par_set_ne e] at hpk ⊢
      have hkp : pl k ≠ pl c := fun e2 => e (O.inj k c (h.w.r k hk) h.cR e2)
      have hp := h.w.down k p hk hpR hpl
      rcases hpk with h1 | h1
      · exact h.same (h.low hp (by omega)) (h.w.near k hk0 hk (.inl (by omega)) p he hpR hpl)
      · exact h.high hp (h.w.near k hk0 hk (.inr (by omega)) p he hpR hpl) (by omega)
end
theorem Wf.start {s : List (List Int)} {pl : Nat → Nat} {l : List Int} {m : Nat} (O : Rpo s pl m) (h0 : s ≠ []) : Wf s pl l (fun x => x = 0) 1 := by
  refine ⟨?_, rfl, ?_, ?_, ?_, ?_, ?_, ?_⟩
  · rintro x rfl; exact .zero h0 (by decide)
  · intro x hx h; exact absurd h hx
  · rintro k j rfl _ hl
    rw [O.zero] at hl; omega
  · rintro x a rfl ha
    have := ha.zero rfl
    subst this; exact .self
  · rintro d x rfl hd
    by_cases e : d = 0
    · subst e; exact .self
    · exact absurd (.zero h0 (by omega)) hd.2.2
  · intro k hk h; exact absurd h hk
  · intro k hk h; exact absurd h hk
/-- A new round. -/
theorem Wf.round {s : List (List Int)} {pl : Nat → Nat} {l : List Int} {dn : Nat → Prop} {m : Nat} (O : Rpo s pl m) (h : Wf s pl l dn m) : Wf s pl l dn 1 :=
  ⟨h.r, h.z, h.up, h.down, h.way, h.dom, h.mono, fun k hk0 hk _ => h.near k hk0 hk (.inl (O.lt k (h.r k hk)))⟩
theorem Rc_of {s : List (List Int)} (hs : Closed s) {x t : Int} (h : Reaches s x t) : Reaches s (-1) t := by
  induction h with
  | zero h1 _ => exact .zero h1 (by decide)
  | step hk gr hm _ ih => exact .step ih gr hm (by have := hs _ (List.mem_of_getElem? gr) _ hm; omega)
/-- Where nothing changes more, the chains are the dominators. -/
theorem Wf.end {s : List (List Int)} {pl : Nat → Nat} {l : List Int} {dn : Nat → Prop} {pos : Nat} (hs : Closed s) (h : Wf s pl l dn pos) (hall : ∀ x, Rc s x → dn x) (hfix : ∀ k, k ≠ 0 → Rc s k → ∀ a p, Rc s p → Ed s p k → Anc l a (par l k) → Anc l a p) {a x : Nat} (hx : Rc s x) : Anc l a x ↔ DomN s a x := by
  constructor
  · intro ha
    have hd := (h.anc ha (hall x hx)).1
    refine ⟨h.r a hd, hx, fun hr => ?_⟩
    have key : ∀ t : Int, Reaches s (a : Int) t → ∀ x : Nat, t = (x : Int) → Rc s x → ¬ Anc l a x := by
      intro t ht
      induction ht with
      | zero h1 h2 =>
        intro x e _ ha
        have hx0 : x = 0 := by omega
        have := ha.zero hx0
        subst this; omega
      | @step k t r hk gr hm hne ih =>
        intro x e hxR ha
        have hax : a ≠ x := fun e2 => hne (by omega)
        obtain ⟨hx0, h2⟩ := ha.more hax
        have hkR : Rc s k := Rc_of hs hk
        refine ih k rfl hkR (hfix x hx0 hxR a k hkR ⟨r, gr, by rw [← e]; exact hm⟩ h2)
    exact key _ hr x rfl hx ha
  · exact fun hd => h.dom a x (hall x hx) hd
end Go.Proofs.Ytjjijklonnhdeaa

/- Rounds in which next dominators are reckoned, until nothing changes. No program is in sight here. -/
namespace Go.Proofs.Ytjjijklonnhdeaa
open Go.Ax

def dnOf (ds : List Bool) (x : Nat) : Prop := ds[x]? = some true
instance (ds : List Bool) (x : Nat) : Decidable (dnOf ds x) := by unfold dnOf; infer_instance
theorem dnOf_set {ds : List Bool} {c : Nat} (hc : c < ds.length) : dnOf (ds.set c true) = fun x => dnOf ds x ∨ x = c := by
  funext x
  apply propext
  unfold dnOf
  rw [List.getElem?_set]
  by_cases e : c = x
  · subst e; simp [hc]
  · rw [if_neg e]
    constructor
    · exact .inl
    · rintro (h | h)
      · exact h
      · exact absurd h.symm e
theorem mem_predOf {s : List (List Int)} {p k : Nat} : (p : Int) ∈ predOf s k s.length ↔ Ed s p k := by
  unfold predOf Ed
  constructor
  · intro h
    obtain ⟨j, hj, e⟩ := List.mem_map.1 h
    obtain rfl : j = p := by omega
    obtain ⟨h1, h2⟩ := List.mem_filter.1 hj
    have hl := List.mem_range.1 h1
    refine ⟨s[j], List.getElem?_eq_getElem hl, ?_⟩
    have := of_decide_eq_true h2
    rw [List.getElem?_eq_getElem hl] at this
    exact this
  · rintro ⟨r, gr, hm⟩
    refine List.mem_map.2 ⟨p, List.mem_filter.2 ⟨List.mem_range.2 (List.getElem?_eq_some_iff.1 gr).1, decide_eq_true ?_⟩, rfl⟩
    rw [gr]; exact hm
theorem predOf_nn {s : List (List Int)} {k : Nat} {x : Int} (h : x ∈ predOf s k s.length) : ∃ p : Nat, x = p ∧ Ed s p k := by
  have := predOf_lt h
  exact ⟨x.toNat, by omega, mem_predOf.1 (by rw [show ((x.toNat : Nat) : Int) = x by omega]; exact h)⟩

def muTo (g : Nat → Nat) : Nat → Nat
  | 0 => 0
  | n + 1 => muTo g n + g n
theorem muTo_le {g h : Nat → Nat} : ∀ {n : Nat}, (∀ x, x < n → g x ≤ h x) → muTo g n ≤ muTo h n
  | 0, _ => Nat.le_refl _
  | n + 1, k => Nat.add_le_add (muTo_le fun x hx => k x (by omega)) (k n (by omega))
theorem muTo_lt {g h : Nat → Nat} : ∀ {n : Nat}, (∀ x, x < n → g x ≤ h x) → ∀ {c : Nat}, c < n → g c < h c → muTo g n < muTo h n
  | n + 1, k, c, hc, hl => by
    have h1 := muTo_le (g := g) (h := h) (n := n) fun x hx => k x (by omega)
    have h2 := k n (by omega)
    show muTo g n + g n < muTo h n + h n
    by_cases e : c = n
    · subst e; omega
    · have := muTo_lt (n := n) (fun x hx => k x (by omega)) (c := c) (by omega) hl
      omega
def mu (pl : Nat → Nat) (m n : Nat) (l : List Int) (ds : List Bool) : Nat := muTo (fun x => if dnOf ds x then pl (par l x) else m) n

/-- The last one who stands above all done ones of some. -/
def Met (l : List Int) (ds : List Bool) (r : List Int) (nx : Int) : Prop :=
  (nx = -1 ∧ ∀ p : Nat, (p : Int) ∈ r → ¬ dnOf ds p) ∨ ∃ N : Nat, nx = N ∧ dnOf ds N ∧ ∀ a, Anc l a N ↔ ∀ p : Nat, (p : Int) ∈ r → dnOf ds p → Anc l a p
theorem Met.start {l : List Int} {ds : List Bool} : Met l ds [] (-1) := .inl ⟨rfl, fun p h => by cases h⟩
theorem Met.skip {l : List Int} {ds : List Bool} {r : List Int} {nx : Int} {p : Nat} (h : Met l ds r nx) (hp : ¬ dnOf ds p) : Met l ds (r ++ [(p : Int)]) nx := by
  rcases h with ⟨h1, h2⟩ | ⟨N, h1, h2, h3⟩
  · refine .inl ⟨h1, fun q hq => ?_⟩
    rcases List.mem_append.1 hq with hq | hq
    · exact h2 q hq
    · have : q = p := by have := List.mem_singleton.1 hq; omega
      subst this; exact hp
  · refine .inr ⟨N, h1, h2, fun a => (h3 a).trans ⟨fun h4 q hq hd => ?_, fun h4 q hq hd => h4 q (List.mem_append_left _ hq) hd⟩⟩
    rcases List.mem_append.1 hq with hq | hq
    · exact h4 q hq hd
    · have : q = p := by have := List.mem_singleton.1 hq; omega
      subst this; exact absurd hd hp
theorem Met.first {l : List Int} {ds : List Bool} {r : List Int} {nx : Int} {p : Nat} (h : Met l ds r nx) (hn : nx < 0) (hp : dnOf ds p) : Met l ds (r ++ [(p : Int)]) (p : Int) := by
  rcases h with ⟨h1, h2⟩ | ⟨N, h1, h2, h3⟩
  · refine .inr ⟨p, rfl, hp, fun a => ⟨fun h4 q hq hd => ?_, fun h4 => h4 p (by simp) hp⟩⟩
    rcases List.mem_append.1 hq with hq | hq
    · exact absurd hd (h2 q hq)
    · have : q = p := by have := List.mem_singleton.1 hq; omega
      subst this; exact h4
  · omega
theorem Met.more {l : List Int} {ds : List Bool} {r : List Int} {nx : Int} {p M N : Nat} (h : Met l ds r nx) (hn : nx = (N : Int)) (hp : dnOf ds p) (hM : dnOf ds M) (hm : ∀ a, Anc l a M ↔ Anc l a N ∧ Anc l a p) : Met l ds (r ++ [(p : Int)]) (M : Int) := by
  rcases h with ⟨h1, h2⟩ | ⟨N2, h1, h2, h3⟩
  · omega
  · obtain rfl : N2 = N := by omega
    refine .inr ⟨M, rfl, hM, fun a => ?_⟩
    rw [hm a, h3 a]
    constructor
    · rintro ⟨h4, h5⟩ q hq hd
      rcases List.mem_append.1 hq with hq | hq
      · exact h4 q hq hd
      · have : q = p := by have := List.mem_singleton.1 hq; omega
        subst this; exact h5
    · intro h4
      exact ⟨fun q hq hd => h4 q (List.mem_append_left _ hq) hd, h4 p (by simp) hp⟩

/-- A round, so far. -/
structure Rnd (s : List (List Int)) (pl : Nat → Nat) (m : Nat) (l0 : List Int) (ds0 : List Bool) (l : List Int) (ds : List Bool) (ch : Bool) (i : Nat) : Prop where
  w : Wf s pl l (dnOf ds) i
  ln : l.length = s.length
  dl : ds.length = s.length
  neg : ∀ x, x < s.length → (x = 0 ∨ ¬ dnOf ds x) → l[x]? = some (-1)
  pos : ∀ x, x ≠ 0 → dnOf ds x → l[x]? = some (par l x : Int)
  prev : ∀ j, Rc s j → pl j < i → dnOf ds j
  le : mu pl m s.length l ds ≤ mu pl m s.length l0 ds0
  lt : ch = true → mu pl m s.length l ds < mu pl m s.length l0 ds0
  eq : ch = false → l = l0 ∧ ds = ds0 ∧ ∀ k, k ≠ 0 → Rc s k → pl k < i → ∀ a p, dnOf ds p → Ed s p k → Anc l a (par l k) → Anc l a p
theorem Rc_lt {s : List (List Int)} (hs : Closed s) {x : Nat} (h : Rc s x) : x < s.length := by
  unfold Rc at h
  generalize ht : (x : Int) = t at h
  cases h with
  | zero h1 _ =>
    have := List.length_pos_iff.2 h1
    omega
  | step _ gr hm _ =>
    have := hs _ (List.mem_of_getElem? gr) _ hm
    omega
theorem Rnd.step {s : List (List Int)} {pl : Nat → Nat} {m : Nat} {l0 l : List Int} {ds0 ds : List Bool} {ch : Bool} {i c : Nat} {nx x : Int} (hs : Closed s) (O : Rpo s pl m) (h : Rnd s pl m l0 ds0 l ds ch i) (hc0 : c ≠ 0) (hcR : Rc s c) (hci : pl c = i) (hm : Met l ds (predOf s c s.length) nx) (gx : l[c]? = some x) :
    Rnd s pl m l0 ds0 (l.set c nx) (ds.set c true) (ch || decide (nx ≠ x)) (i + 1) := by
  have hcl := Rc_lt hs hcR
  obtain ⟨p, p1, p2, p3⟩ := O.pred c hc0 hcR
  have hpd : dnOf ds p := h.prev p p1 (by omega)
  obtain ⟨N, rfl, hN, hmeet⟩ := hm.resolve_left fun h2 => h2.2 p (mem_predOf.2 p2) hpd
  have hset := dnOf_set (ds := ds) (c := c) (by rw [h.dl]; exact hcl)
  have C : Chg s pl l (dnOf ds) i c N := ⟨h.w, hc0, hcR, hci, fun j hj hl => h.prev j hj (by omega), fun a => (hmeet a).trans ⟨fun h2 q hq he => h2 q (mem_predOf.2 he) hq, fun h2 q hq hd => h2 q hd (mem_predOf.1 hq)⟩, by rw [h.ln]; exact hcl⟩
  obtain ⟨-, hNl⟩ := C.n O
  have hcm := O.lt c hcR
  have hps : par (l.set c (N : Int)) c = N := par_set_self C.len
  have hd : ∀ y, dnOf (ds.set c true) y ↔ dnOf ds y ∨ y = c := fun y => by rw [hset]
  -- how much is left
  have hle : ∀ y, y < s.length → (if dnOf (ds.set c true) y then pl (par (l.set c (N : Int)) y) else m) ≤ (if dnOf ds y then pl (par l y) else m) := by
    intro y _
    by_cases e : y = c
    · subst e
      rw [if_pos ((hd y).2 (.inr rfl)), hps]
      by_cases hdy : dnOf ds y
      · rw [if_pos hdy]
        have := (h.w.anc (C.above hdy) (h.w.up y hc0 hdy).1).2.1
        exact this
      · rw [if_neg hdy]; omega
    · rw [par_set_ne e]
      by_cases hdy : dnOf ds y
      · rw [if_pos hdy, if_pos ((hd y).2 (.inl hdy))]; exact Nat.le_refl _
      · rw [if_neg hdy, if_neg (fun h2 => ((hd y).1 h2).elim hdy e)]; exact Nat.le_refl _
  have hmle : mu pl m s.length (l.set c (N : Int)) (ds.set c true) ≤ mu pl m s.length l ds := muTo_le hle
  have hxN : (dnOf ds c ∧ x = (par l c : Int)) ∨ (¬ dnOf ds c ∧ x = -1) := by
    by_cases hdc : dnOf ds c
    · have := h.pos c hc0 hdc
      rw [gx] at this
      exact .inl ⟨hdc, Option.some.inj this⟩
    · have := h.neg c hcl (.inr hdc)
      rw [gx] at this
      exact .inr ⟨hdc, Option.some.inj this⟩
  have hmlt : (N : Int) ≠ x → mu pl m s.length (l.set c (N : Int)) (ds.set c true) < mu pl m s.length l ds := fun hne => by
    refine muTo_lt hle hcl ?_
    rw [if_pos ((hd c).2 (.inr rfl)), hps]
    rcases hxN with ⟨h1, h2⟩ | ⟨h1, h2⟩
    · rw [if_pos h1]
      exact (h.w.anc (C.above h1) (h.w.up c hc0 h1).1).2.2 (by omega)
    · rw [if_neg h1]; omega
  refine ⟨?_, by rw [List.length_set]; exact h.ln, by rw [List.length_set]; exact h.dl, ?_, ?_, ?_, ?_, ?_, ?_⟩
  · rw [hset]; exact C.wf O
  · intro y hy hy2
    have hyc : y ≠ c := by
      rintro rfl
      rcases hy2 with h2 | h2
      · exact hc0 h2
      · exact h2 ((hd y).2 (.inr rfl))
    rw [List.getElem?_set, if_neg (fun e => hyc e.symm)]
    exact h.neg y hy (hy2.imp id fun h2 h3 => h2 ((hd y).2 (.inl h3)))
  · intro y hy hy2
    by_cases e : y = c
    · subst e
      rw [hps, List.getElem?_set]
      simp [C.len]
    · rw [par_set_ne e, List.getElem?_set, if_neg (fun e2 => e e2.symm)]
      exact h.pos y hy (((hd y).1 hy2).resolve_right e)
  · intro j hj hl
    refine (hd j).2 ?_
    by_cases e : pl j < i
    · exact .inl (h.prev j hj e)
    · exact .inr (O.inj j c hj hcR (by omega))
  · exact Nat.le_trans hmle h.le
  · intro hch
    rw [Bool.or_eq_true] at hch
    rcases hch with h1 | h1
    · exact Nat.lt_of_le_of_lt hmle (h.lt h1)
    · exact Nat.lt_of_lt_of_le (hmlt (of_decide_eq_true h1)) h.le
  · intro hch
    rw [Bool.or_eq_false_iff] at hch
    obtain ⟨h1, h2, h3⟩ := h.eq hch.1
    have hx : (N : Int) = x := by simpa using hch.2
    have hdc : dnOf ds c ∧ x = (par l c : Int) := hxN.resolve_right fun h4 => by omega
    have e1 : l.set c (N : Int) = l := by
      apply List.ext_getElem?
      intro y
      rw [List.getElem?_set]
      split
      · rename_i e; subst e
        rw [if_pos C.len, gx, hx]
      · rfl
    have e2 : ds.set c true = ds := by
      apply List.ext_getElem?
      intro y
      rw [List.getElem?_set]
      split
      · rename_i e; subst e
        rw [if_pos (by rw [h.dl]; exact hcl)]; exact hdc.1.symm
      · rfl
    rw [e1, e2]
    refine ⟨h1, h2, fun k hk0 hk hkl a q hq he ha => ?_⟩
    by_cases e : pl k < i
    · exact h3 k hk0 hk e a q hq he ha
    · obtain rfl : k = c := O.inj k c hk hcR (by omega)
      have hpc : par l k = N := by omega
      rw [hpc] at ha
      exact (C.meet a).1 ha q hq he

/-- What the next dominators are. -/
structure TreeP (s : List (List Int)) (l : List Int) : Prop where
  len : l.length = s.length
  out : ∀ x, x < s.length → (x = 0 ∨ ¬ Rc s x) → l[x]? = some (-1)
  up : ∀ x, x ≠ 0 → Rc s x → l[x]? = some (par l x : Int) ∧ Rc s (par l x)
  dom : ∀ a x, Rc s x → (Anc l a x ↔ DomN s a x)
  pl : ∃ pl : Nat → Nat, ∀ x, x ≠ 0 → Rc s x → pl (par l x) < pl x
theorem Rnd.done {s : List (List Int)} {pl : Nat → Nat} {m : Nat} {l0 l : List Int} {ds0 ds : List Bool} {ch : Bool} (hs : Closed s) (O : Rpo s pl m) (h : Rnd s pl m l0 ds0 l ds ch m) (hc : ch = false) : TreeP s l := by
  obtain ⟨rfl, rfl, h3⟩ := h.eq hc
  have hall : ∀ x, Rc s x → dnOf ds x := fun x hx => h.prev x hx (O.lt x hx)
  refine ⟨h.ln, fun x hx h4 => h.neg x hx (h4.imp id fun h5 h6 => h5 (h.w.r x h6)), fun x hx hR => ⟨h.pos x hx (hall x hR), h.w.r _ (h.w.up x hx (hall x hR)).1⟩, fun a x hx => ?_, pl, fun x hx hR => (h.w.up x hx (hall x hR)).2⟩
  exact h.w.end hs hall (fun k hk0 hk a p hp he ha => h3 k hk0 hk (O.lt k hk) a p (hall p hp) he ha) hx

/-- The beginning of a round. -/
structure Hd (s : List (List Int)) (pl : Nat → Nat) (l : List Int) (ds : List Bool) : Prop where
  w : Wf s pl l (dnOf ds) 1
  ln : l.length = s.length
  dl : ds.length = s.length
  neg : ∀ x, x < s.length → (x = 0 ∨ ¬ dnOf ds x) → l[x]? = some (-1)
  pos : ∀ x, x ≠ 0 → dnOf ds x → l[x]? = some (par l x : Int)
theorem Hd.rnd {s : List (List Int)} {pl : Nat → Nat} {m : Nat} {l : List Int} {ds : List Bool} (O : Rpo s pl m) (h0 : s ≠ []) (h : Hd s pl l ds) : Rnd s pl m l ds l ds false 1 := by
  have hr0 : Rc s 0 := .zero h0 (by decide)
  have hz : ∀ k, Rc s k → pl k < 1 → k = 0 := fun k hk hl => O.inj k 0 hk hr0 (by rw [O.zero]; omega)
  exact ⟨h.w, h.ln, h.dl, h.neg, h.pos, fun j hj hl => by rw [hz j hj hl]; exact h.w.z, Nat.le_refl _, (fun h => by cases h), fun _ => ⟨rfl, rfl, fun k hk0 hk hl => absurd (hz k hk hl) hk0⟩⟩
theorem Rnd.hd {s : List (List Int)} {pl : Nat → Nat} {m : Nat} {l0 l : List Int} {ds0 ds : List Bool} {ch : Bool} (O : Rpo s pl m) (h : Rnd s pl m l0 ds0 l ds ch m) : Hd s pl l ds := ⟨h.w.round O, h.ln, h.dl, h.neg, h.pos⟩
theorem Hd.set {s : List (List Int)} {pl : Nat → Nat} {l : List Int} {ds : List Bool} (h : Hd s pl l ds) : ds.set 0 true = ds := by
  apply List.ext_getElem?
  intro y
  rw [List.getElem?_set]
  split
  · rename_i e; subst e
    have h2 : ds[0]? = some true := h.w.z
    rw [if_pos (List.getElem?_eq_some_iff.1 h2).1, h2]
  · rfl
theorem Hd.start {s : List (List Int)} {pl : Nat → Nat} {m : Nat} (O : Rpo s pl m) (h0 : s ≠ []) : Hd s pl (List.replicate s.length (-1)) ((List.replicate s.length false).set 0 true) := by
  have hl := List.length_pos_iff.2 h0
  have hd : dnOf ((List.replicate s.length false).set 0 true) = fun x => x = 0 := by
    rw [dnOf_set (by simpa using hl)]
    funext x
    apply propext
    unfold dnOf
    rw [List.getElem?_replicate]
    constructor
    · rintro (h | h)
      · split at h <;> simp at h
      · exact h
    · exact .inr
  refine ⟨by rw [hd]; exact .start O h0, by simp, by simp, fun x hx _ => by rw [List.getElem?_replicate, if_pos hx], fun x hx h2 => ?_⟩
  rw [hd] at h2
  exact absurd h2 hx
end Go.Proofs.Ytjjijklonnhdeaa

/- The order in which blocks are left, each once. No program is in sight here. -/
namespace Go.Proofs.Ytjjijklonnhdeaa
open Go.Ax

/-- What was left newly: each but the top ones has one that goes to it and is left later. -/
structure Lv (s : List (List Int)) (l l' : List Bool) (w : List Int) (top : Nat → Prop) : Prop where
  nodup : w.Nodup
  mem : ∀ x : Int, x ∈ w ↔ (0 ≤ x ∧ l'[x.toNat]? = some true ∧ l[x.toNat]? ≠ some true)
  pred : ∀ (i x : Nat), w[i]? = some (x : Int) → top x ∨ ∃ j p : Nat, i < j ∧ w[j]? = some (p : Int) ∧ Ed s p x
theorem Lv.start {s : List (List Int)} {l : List Bool} {top : Nat → Prop} : Lv s l l [] top :=
  ⟨by simp, fun x => ⟨(fun h => by cases h), fun h => absurd h.2.1 h.2.2⟩, fun i x h => by simp at h⟩
theorem Lv.next {s : List (List Int)} {l l1 l2 : List Bool} {w w2 : List Int} {k t : Nat} (h : Lv s l l1 w (Ed s k)) (h2 : Lv s l1 l2 w2 (fun x => x = t)) (he : Ed s k t) (g1 : Grows l l1) (g2 : Grows l1 l2) : Lv s l l2 (w ++ w2) (Ed s k) := by
  refine ⟨?_, fun x => ?_, fun i x gx => ?_⟩
  · rw [List.nodup_append]
    refine ⟨h.nodup, h2.nodup, fun x hx y hy e => ?_⟩
    subst e
    exact ((h2.mem x).1 hy).2.2 ((h.mem x).1 hx).2.1
  · rw [List.mem_append, h.mem, h2.mem]
    constructor
    · rintro (⟨a1, a2, a3⟩ | ⟨a1, a2, a3⟩)
      · exact ⟨a1, g2.2 _ a2, a3⟩
      · exact ⟨a1, a2, fun a4 => a3 (g1.2 _ a4)⟩
    · rintro ⟨a1, a2, a3⟩
      by_cases e : l1[x.toNat]? = some true
      · exact .inl ⟨a1, e, a3⟩
      · exact .inr ⟨a1, a2, e⟩
  · by_cases hi : i < w.length
    · rw [List.getElem?_append_left hi] at gx
      rcases h.pred i x gx with h3 | ⟨j, p, h3, h4, h5⟩
      · exact .inl h3
      · exact .inr ⟨j, p, h3, by rw [List.getElem?_append_left (List.getElem?_eq_some_iff.1 h4).1]; exact h4, h5⟩
    · rw [List.getElem?_append_right (by omega)] at gx
      rcases h2.pred _ x gx with h3 | ⟨j, p, h3, h4, h5⟩
      · subst h3; exact .inl he
      · exact .inr ⟨w.length + j, p, by omega, by rw [List.getElem?_append_right (by omega), show w.length + j - w.length = j by omega]; exact h4, h5⟩
theorem Lv.end {s : List (List Int)} {l l1 : List Bool} {w : List Int} {k : Nat} (h : Lv s (l.set k true) l1 w (Ed s k)) (hk : l[k]? = some false) (g : Grows (l.set k true) l1) : Lv s l l1 (w ++ [(k : Int)]) (fun x => x = k) := by
  have hkl := (List.getElem?_eq_some_iff.1 hk).1
  have hs : (l.set k true)[k]? = some true := by rw [List.getElem?_set]; simp [hkl]
  have hne : ∀ x : Nat, x ≠ k → (l.set k true)[x]? = l[x]? := fun x hx => by rw [List.getElem?_set, if_neg (fun e => hx e.symm)]
  refine ⟨?_, fun x => ?_, fun i x gx => ?_⟩
  · rw [List.nodup_append]
    refine ⟨h.nodup, by simp, fun x hx y hy e => ?_⟩
    subst e
    have := List.mem_singleton.1 hy
    subst this
    exact ((h.mem _).1 hx).2.2 (by simpa using hs)
  · rw [List.mem_append, h.mem, List.mem_singleton]
    constructor
    · rintro (⟨a1, a2, a3⟩ | rfl)
      · refine ⟨a1, a2, fun a4 => a3 ?_⟩
        by_cases e : x.toNat = k
        · rw [e]; exact hs
        · rw [hne _ e]; exact a4
      · exact ⟨by omega, by simpa using g.2 k hs, by simp [hk]⟩
    · rintro ⟨a1, a2, a3⟩
      by_cases e : x.toNat = k
      · right; omega
      · left; exact ⟨a1, a2, by rw [hne _ e]; exact a3⟩
  · by_cases hi : i < w.length
    · right
      rw [List.getElem?_append_left hi] at gx
      rcases h.pred i x gx with h3 | ⟨j, p, h3, h4, h5⟩
      · exact ⟨w.length, k, hi, by rw [List.getElem?_append_right (by omega)]; simp, h3⟩
      · exact ⟨j, p, h3, by rw [List.getElem?_append_left (List.getElem?_eq_some_iff.1 h4).1]; exact h4, h5⟩
    · left
      rw [List.getElem?_append_right (by omega)] at gx
      have := List.mem_singleton.1 (List.mem_of_getElem? gx)
      omega
/-- What was left was seen. -/
structure OB (l : List Bool) (o : List Int) : Prop where
  nodup : o.Nodup
  seen : ∀ x ∈ o, 0 ≤ x ∧ l[x.toNat]? = some true
theorem nodup_lenI {n : Nat} {o : List Int} (h : o.Nodup) (hb : ∀ x ∈ o, 0 ≤ x ∧ x < n) : o.length ≤ n := by
  have h1 : (o.map Int.toNat).Nodup := by
    refine List.Pairwise.map _ ?_ (List.Pairwise.and_mem.1 h)
    rintro x y ⟨hx, hy, hne⟩ e
    have := hb x hx
    have := hb y hy
    omega
  have h2 : o.map Int.toNat ⊆ List.range n := by
    intro x hx
    obtain ⟨y, hy, rfl⟩ := List.mem_map.1 hx
    have := hb y hy
    exact List.mem_range.2 (by omega)
  have := List.Nodup.length_le_of_subset h1 h2
  simpa using this
theorem OB.len {l : List Bool} {o : List Int} (h : OB l o) : o.length ≤ l.length :=
  nodup_lenI h.nodup fun x hx => by
    obtain ⟨h1, h2⟩ := h.seen x hx
    have := (List.getElem?_eq_some_iff.1 h2).1
    omega
theorem OB.app {s : List (List Int)} {l l' : List Bool} {o w : List Int} {top : Nat → Prop} (h : OB l o) (h2 : Lv s l l' w top) (g : Grows l l') : OB l' (o ++ w) := by
  refine ⟨?_, fun x hx => ?_⟩
  · rw [List.nodup_append]
    refine ⟨h.nodup, h2.nodup, fun x hx y hy e => ?_⟩
    subst e
    exact ((h2.mem x).1 hy).2.2 (h.seen x hx).2
  · rcases List.mem_append.1 hx with hx | hx
    · exact ⟨(h.seen x hx).1, g.2 _ (h.seen x hx).2⟩
    · exact ⟨((h2.mem x).1 hx).1, ((h2.mem x).1 hx).2.1⟩
theorem OB.nil {l : List Bool} : OB l [] := ⟨by simp, fun x hx => by cases hx⟩

/-- The order of reached blocks. -/
structure OrdP (s : List (List Int)) (o : List Int) : Prop where
  nodup : o.Nodup
  mem : ∀ x : Int, x ∈ o ↔ 0 ≤ x ∧ Reaches s (-1) x
  pred : ∀ (i x : Nat), o[i]? = some (x : Int) → x = 0 ∨ ∃ j p : Nat, j < i ∧ o[j]? = some (p : Int) ∧ Ed s p x
theorem Lv.ord {s : List (List Int)} {l' : List Bool} {w : List Int} (h : Lv s (List.replicate s.length false) l' w (fun x => x = 0)) (hm : Marks s (-1) l') : OrdP s w.reverse := by
  refine ⟨(by show List.Pairwise _ _; rw [List.pairwise_reverse]; exact List.Pairwise.imp (fun h => Ne.symm h) h.nodup), fun x => ?_, fun i x gx => ?_⟩
  · rw [List.mem_reverse, h.mem]
    constructor
    · rintro ⟨a1, a2, -⟩
      exact ⟨a1, by have := (hm.2 x.toNat).1 a2; rw [show ((x.toNat : Nat) : Int) = x by omega] at this; exact this⟩
    · rintro ⟨a1, a2⟩
      refine ⟨a1, (hm.2 x.toNat).2 (by rw [show ((x.toNat : Nat) : Int) = x by omega]; exact a2), fun a3 => ?_⟩
      rw [List.getElem?_replicate] at a3
      split at a3 <;> simp at a3
  · have hil := (List.getElem?_eq_some_iff.1 gx).1
    rw [List.length_reverse] at hil
    rw [List.getElem?_reverse hil] at gx
    rcases h.pred _ x gx with h3 | ⟨j, p, h3, h4, h5⟩
    · exact .inl h3
    · have hjl := (List.getElem?_eq_some_iff.1 h4).1
      refine .inr ⟨w.length - 1 - j, p, by omega, ?_, h5⟩
      rw [List.getElem?_reverse (by omega), show w.length - 1 - (w.length - 1 - j) = j by omega]
      exact h4
theorem OrdP.nil : OrdP [] [] := by
  refine ⟨by simp, fun x => ⟨(fun h => by cases h), fun h => ?_⟩, fun i x h => by simp at h⟩
  cases h.2 with
  | zero h3 _ => exact absurd rfl h3
  | step _ h => simp at h
theorem OrdP.idx {s : List (List Int)} {o : List Int} (h : OrdP s o) {i j : Nat} {x : Int} (h1 : o[i]? = some x) (h2 : o[j]? = some x) : i = j := by
  have a := List.getElem?_eq_some_iff.1 h1
  have b := List.getElem?_eq_some_iff.1 h2
  exact (List.getElem_inj h.nodup).1 (a.2.trans b.2.symm)
theorem OrdP.zero {s : List (List Int)} {o : List Int} (h : OrdP s o) (h0 : s ≠ []) : o[0]? = some 0 := by
  have : (0 : Int) ∈ o := (h.mem 0).2 ⟨by omega, .zero h0 (by decide)⟩
  have hl : 0 < o.length := List.length_pos_of_mem this
  have g : o[0]? = some o[0] := List.getElem?_eq_getElem hl
  have hx := (h.mem _).1 (List.mem_of_getElem? g)
  have g2 : o[0]? = some ((o[0].toNat : Nat) : Int) := by rw [g, show ((o[0].toNat : Nat) : Int) = o[0] by omega]
  rcases h.pred 0 _ g2 with h3 | ⟨j, p, h3, -⟩
  · rw [g2, h3]; rfl
  · omega
theorem OrdP.rpo {s : List (List Int)} {o : List Int} {pl : Nat → Nat} (h : OrdP s o) (h0 : s ≠ []) (hp : ∀ x, Rc s x → o[pl x]? = some (x : Int)) : Rpo s pl o.length := by
  have hr0 : Rc s 0 := .zero h0 (by decide)
  refine ⟨h.idx (hp 0 hr0) (h.zero h0), fun a b ha hb e => ?_, fun a ha => (List.getElem?_eq_some_iff.1 (hp a ha)).1, fun k hk hR => ?_⟩
  · have h1 := hp a ha
    have h2 := hp b hb
    rw [e] at h1
    rw [h1] at h2
    have := Option.some.inj h2
    omega
  · rcases h.pred _ k (hp k hR) with h3 | ⟨j, p, h3, h4, h5⟩
    · exact absurd h3 hk
    · have hpR : Rc s p := ((h.mem _).1 (List.mem_of_getElem? h4)).2
      exact ⟨p, hpR, h5, by rw [h.idx (hp p hpR) h4]; exact h3⟩
end Go.Proofs.Ytjjijklonnhdeaa

/- The order in which blocks are left, by a contract. -/
namespace Go.Proofs.Ytjjijklonnhdeaa
open Go.Ax
set_option maxRecDepth 10000
set_option linter.unusedVariables false

def dO (s : List (List Int)) (l : List Bool) (o : List Int) : HP := [(0, .var [.osl 1 (o.map int1)]), (1, .var [.sl false 1 (s.map lst)]), (2, .var [num (-1)]), (3, .var [.fn 49 [.hp 0 0]]), (7, .row 1 (l.map tb)), (5, .var [.hw 7]), (6, .var [.fn 64 [.hp 2 0, .hp 5 0, .hp 1 0, .hp 6 0, .hp 3 0]])]
def dTo (k : Int) : TM := [(0, num k), (1, .hp 2 0), (2, .hp 5 0), (3, .hp 1 0), (4, .hp 6 0), (5, .hp 3 0)]

theorem into_runO (s : List (List Int)) (hs : Closed s) (hsm : ∀ l ∈ s, l.length ≤ 2) (hn : s.length ≤ 1000000) : ∀ (n k : Nat) (l : List Bool) (o : List Int), l.length = s.length → k < s.length → Reaches s (-1) k → falses l ≤ n → OB l o →
    ∀ {K : AV → HP → Nat → Prop}, (∀ l' w, Into s (-1) l k l' → Lv s l l' w (fun x => x = k) → K (asRes []) (dO s l' (o ++ w)) 8) → Run Try.prog 64 (Post.inl 8 K) [.code Try.f64.body.get!] ⟨dTo k, dO s l o, 8, 37⟩ := by
  intro n
  induction n using Nat.strongRecOn with
  | _ n ihn =>
    intro k l o hl hk hr hf hob K hK
    obtain ⟨b, gl, -⟩ := getK (l := l) (k := k) (by omega)
    obtain ⟨r, gr, hrm⟩ := getK (l := s) (k := k) (by omega)
    have hr2 := hsm r hrm
    have hol := hob.len
    refine goI 1000 Try.func64 ?_
    repeat' first | refine Pick.map gl ?_ | refine Len.map ?_ | refine Len.nil ?_ | refine Len.cons ?_ | refine Br.t rfl ?_ | refine Br.f rfl ?_ | refine Fit.au ?_ | refine Cv.au ?_ | refine Need.ne ?_ | refine Need.au ?_ | refine Pick.map (by assumption) ?_ | refine Pick.mapI (by omega) (by assumption) ?_ | refine PickN.mk _ (by assumption) ?_ | refine PickN.mk _ rfl ?_ | refine PickN.au ?_ | refine App.au rfl ?_ | refine App.au (own_map (fun _ => rfl) _) ?_ | refine Both.mk ?_ ?_ | exact True.intro | refine Br.d (fun h => ?_) (fun h => ?_) | refine Br.nd (fun h => ?_) (fun h => ?_) | refine Br.mk (fun h => ?_) (fun h => ?_)
    · have hb : b = true := by assumption
      subst hb
      have := hK l [] (.stays fun _ => by simpa using gl) .start
      rw [List.append_nil] at this
      exact this
    · have hb : b = false := by simp_all
      subst hb
      have hm := falses_set gl
      repeat' first | refine PickN.map gl ?_ | refine Pick.map gr ?_ | refine Len.map ?_ | refine Len.nil ?_ | refine Len.cons ?_ | refine Br.t rfl ?_ | refine Br.f rfl ?_ | refine Fit.au ?_ | refine Cv.au ?_ | refine Need.ne ?_ | refine Need.au ?_ | refine Pick.map (by assumption) ?_ | refine Pick.mapI (by omega) (by assumption) ?_ | refine PickN.mk _ (by assumption) ?_ | refine PickN.mk _ rfl ?_ | refine PickN.au ?_ | refine App.au rfl ?_ | refine App.au (own_map (fun _ => rfl) _) ?_ | refine Both.mk ?_ ?_ | exact True.intro
      have el : (l.map tb).set k [AV.lit (Value.bool true)] = (l.set k true).map tb := by rw [List.map_set]; rfl
      refine Stop.mk (loop_in (g := []) (fun p : Nat × List Bool × List Int => [(24, ints r), (25, num r.length), (26, num p.1), (0, num k), (1, .hp 2 0), (2, .hp 5 0), (3, .hp 1 0), (4, .hp 6 0), (5, .hp 3 0)]) (fun p => dO s p.2.1 (o ++ p.2.2)) 8 (fun p => p.1 ≤ r.length ∧ Mid s (-1) l k p.1 p.2.1 ∧ Lv s (l.set k true) p.2.1 p.2.2 (Ed s k)) (fun p => r.length - p.1) (0, l.set k true, []) ⟨by omega, .start hr, .start⟩ ?_ (fun p hp ih => ?_))
      · dsimp only [dO]
        rw [← el, List.append_nil]
        exact ⟨rfl, (by repeat' first | exact trivial | refine ⟨rfl, ?_⟩ | refine ⟨congrArg (fun n => AV.lit (.int .i64 n)) (by omega), ?_⟩ | refine ⟨congrArg (fun l => some (Row.row 1 l)) (by simp [int1, num, tru]), ?_⟩), (by repeat' first | exact trivial | refine ⟨rfl, ?_⟩ | refine ⟨congrArg (fun n => AV.lit (.int .i64 n)) (by omega), ?_⟩ | refine ⟨congrArg (fun l => some (Row.row 1 l)) (by simp [int1, num, tru]), ?_⟩)⟩
      obtain ⟨j, l1, w⟩ := p
      obtain ⟨hj, hmid, hlv⟩ := hp
      dsimp only at hj hmid hlv ih ⊢
      have hl1 : l1.length = s.length := by rw [hmid.grows.1, List.length_set, hl]
      have hm1 := hmid.grows.falses
      have hob1 : OB l1 (o ++ w) := (OB.mk hob.nodup fun x hx => ⟨(hob.seen x hx).1, (Grows.set (l := l) (k := k)).2 _ (hob.seen x hx).2⟩ : OB (l.set k true) o).app hlv hmid.grows
      have hol1 := hob1.len
      refine goI 1000 Try.func64 ?_
      repeat' first | refine Len.map ?_ | refine Len.nil ?_ | refine Len.cons ?_ | refine Br.t rfl ?_ | refine Br.f rfl ?_ | refine Fit.au ?_ | refine Cv.au ?_ | refine Need.ne ?_ | refine Need.au ?_ | refine Pick.map (by assumption) ?_ | refine Pick.mapI (by omega) (by assumption) ?_ | refine PickN.mk _ (by assumption) ?_ | refine PickN.mk _ rfl ?_ | refine PickN.au ?_ | refine App.au rfl ?_ | refine App.au (own_map (fun _ => rfl) _) ?_ | refine Both.mk ?_ ?_ | exact True.intro
      refine Br.d (fun h2 => ?_) (fun h2 => ?_)
      · obtain ⟨t, gt, gtm⟩ := getK (l := r) (k := j) (by omega)
        have htp := hs r hrm t gtm
        obtain ⟨u, rfl⟩ : ∃ u : Nat, t = (u : Int) := ⟨t.toNat, by omega⟩
        repeat' first | refine Pick.map gt ?_ | refine Len.map ?_ | refine Len.nil ?_ | refine Len.cons ?_ | refine Br.t rfl ?_ | refine Br.f rfl ?_ | refine Fit.au ?_ | refine Cv.au ?_ | refine Need.ne ?_ | refine Need.au ?_ | refine Pick.map (by assumption) ?_ | refine Pick.mapI (by omega) (by assumption) ?_ | refine PickN.mk _ (by assumption) ?_ | refine PickN.mk _ rfl ?_ | refine PickN.au ?_ | refine App.au rfl ?_ | refine App.au (own_map (fun _ => rfl) _) ?_ | refine Both.mk ?_ ?_ | exact True.intro
        refine Dyn.mk _ _ rfl rfl rfl (Run.fr (tm' := dTo u) (hp' := dO s l1 (o ++ w)) (nx' := 8) (ihn (falses l1) (by omega) u l1 (o ++ w) hl1 (by omega) (.step hr gr gtm (by omega)) (Nat.le_refl _) hob1 fun l2 w2 hi hl2 => ?_) (g := []) ⟨rfl, (by repeat' first | exact trivial | refine ⟨rfl, ?_⟩ | refine ⟨congrArg (fun n => AV.lit (.int .i64 n)) (by omega), ?_⟩ | refine ⟨congrArg (fun l => some (Row.row 1 l)) (by simp [int1, num, tru]), ?_⟩), (by repeat' first | exact trivial | refine ⟨rfl, ?_⟩ | refine ⟨congrArg (fun n => AV.lit (.int .i64 n)) (by omega), ?_⟩ | refine ⟨congrArg (fun l => some (Row.row 1 l)) (by simp [int1, num, tru]), ?_⟩)⟩)
        repeat' first | refine Len.map ?_ | refine Len.nil ?_ | refine Len.cons ?_ | refine Br.t rfl ?_ | refine Br.f rfl ?_ | refine Fit.au ?_ | refine Cv.au ?_ | refine Need.ne ?_ | refine Need.au ?_ | refine Pick.map (by assumption) ?_ | refine Pick.mapI (by omega) (by assumption) ?_ | refine PickN.mk _ (by assumption) ?_ | refine PickN.mk _ rfl ?_ | refine PickN.au ?_ | refine App.au rfl ?_ | refine App.au (own_map (fun _ => rfl) _) ?_ | refine Both.mk ?_ ?_ | exact True.intro
        refine Stop.mk (ih (j + 1, l2, w ++ w2) (g := []) _ _ _ ⟨by simp only; omega, hmid.next gr gt hi, hlv.next hl2 ⟨r, gr, gtm⟩ hmid.grows hi.grows⟩ (by simp only; omega) ?_)
        dsimp only [dO]
        rw [← List.append_assoc]
        exact ⟨rfl, (by repeat' first | exact trivial | refine ⟨rfl, ?_⟩ | refine ⟨congrArg (fun n => AV.lit (.int .i64 n)) (by omega), ?_⟩ | refine ⟨congrArg (fun l => some (Row.row 1 l)) (by simp [int1, num, tru]), ?_⟩), (by repeat' first | exact trivial | refine ⟨rfl, ?_⟩ | refine ⟨congrArg (fun n => AV.lit (.int .i64 n)) (by omega), ?_⟩ | refine ⟨congrArg (fun l => some (Row.row 1 l)) (by simp [int1, num, tru]), ?_⟩)⟩
      · repeat' first | refine Len.map ?_ | refine Len.nil ?_ | refine Len.cons ?_ | refine Br.t rfl ?_ | refine Br.f rfl ?_ | refine Fit.au ?_ | refine Cv.au ?_ | refine Need.ne ?_ | refine Need.au ?_ | refine Pick.map (by assumption) ?_ | refine Pick.mapI (by omega) (by assumption) ?_ | refine PickN.mk _ (by assumption) ?_ | refine PickN.mk _ rfl ?_ | refine PickN.au ?_ | refine App.au rfl ?_ | refine App.au (own_map (fun _ => rfl) _) ?_ | refine Both.mk ?_ ?_ | exact True.intro
        have hend := hlv.end gl hmid.grows
        have hob2 := hob.app hend (Grows.set.trans hmid.grows)
        have hol2 := hob2.len
        rw [← List.append_assoc] at hol2
        simp only [List.length_append, List.length_cons, List.length_nil] at hol2
        refine Dyn.mk _ _ rfl rfl rfl (Run.fr (tm' := [(0, num k), (1, .hp 0 0)]) (hp' := dO s l1 (o ++ w)) (nx' := 8) (goI 7 Try.func49 ?_) (g := []) ⟨rfl, (by repeat' first | exact trivial | refine ⟨rfl, ?_⟩ | refine ⟨congrArg (fun n => AV.lit (.int .i64 n)) (by omega), ?_⟩ | refine ⟨congrArg (fun l => some (Row.row 1 l)) (by simp [int1, num, tru]), ?_⟩), (by repeat' first | exact trivial | refine ⟨rfl, ?_⟩ | refine ⟨congrArg (fun n => AV.lit (.int .i64 n)) (by omega), ?_⟩ | refine ⟨congrArg (fun l => some (Row.row 1 l)) (by simp [int1, num, tru]), ?_⟩)⟩)
        have hll : (o ++ w).length ≤ 1000000 := by simp only [List.length_append]; omega
        generalize hov : o ++ w = ov at *
        repeat' first | refine Len.map ?_ | refine Len.nil ?_ | refine Len.cons ?_ | refine Br.t rfl ?_ | refine Br.f rfl ?_ | refine Fit.au ?_ | refine Cv.au ?_ | refine Need.ne ?_ | refine Need.au ?_ | refine Pick.map (by assumption) ?_ | refine Pick.mapI (by omega) (by assumption) ?_ | refine PickN.mk _ (by assumption) ?_ | refine PickN.mk _ rfl ?_ | refine PickN.au ?_ | refine App.au rfl ?_ | refine App.au (own_map (fun _ => rfl) _) ?_ | refine Both.mk ?_ ?_ | exact True.intro
        have := hK l1 (w ++ [(k : Int)]) (hmid.end gr (by omega) (by omega)) hend
        rw [← List.append_assoc, hov] at this
        refine Stop.mk (Run.fr (g := []) (tm' := []) (hp' := dO s l1 (ov ++ [(k : Int)])) (nx' := 8) ?_ ?_)
        · refine goI 1000 Try.func49 ?_
          repeat' first | refine Len.map ?_ | refine Len.nil ?_ | refine Len.cons ?_ | refine Br.t rfl ?_ | refine Br.f rfl ?_ | refine Fit.au ?_ | refine Cv.au ?_ | refine Need.ne ?_ | refine Need.au ?_ | refine Pick.map (by assumption) ?_ | refine Pick.mapI (by omega) (by assumption) ?_ | refine PickN.mk _ (by assumption) ?_ | refine PickN.mk _ rfl ?_ | refine PickN.au ?_ | refine App.au rfl ?_ | refine App.au (own_map (fun _ => rfl) _) ?_ | refine Both.mk ?_ ?_ | exact True.intro
          exact this
        · unfold dO
          rw [List.map_append]
          exact ⟨rfl, (by repeat' first | exact trivial | refine ⟨rfl, ?_⟩ | refine ⟨congrArg (fun n => AV.lit (.int .i64 n)) (by omega), ?_⟩ | refine ⟨congrArg (fun l => some (Row.row 1 l)) (by simp [int1, num, tru]), ?_⟩), (by repeat' first | exact trivial | refine ⟨rfl, ?_⟩ | refine ⟨congrArg (fun n => AV.lit (.int .i64 n)) (by omega), ?_⟩ | refine ⟨congrArg (fun l => some (Row.row 1 l)) (by simp [int1, num, tru]), ?_⟩)⟩

theorem through_runO (s : List (List Int)) (hs : Closed s) (hsm : ∀ l ∈ s, l.length ≤ 2) (hn : s.length ≤ 1000000) {K : AV → HP → Nat → Prop} (hK : ∀ l w, w.length ≤ s.length → OrdP s w.reverse → K (.hw 7) (dO s l w) 8) :
    Run Try.prog 48 (Post.inl 1 K) [.code Try.f48.body.get!] ⟨[(0, .sl false 1 (s.map lst)), (1, num (-1)), (2, .fn 49 [.hp 0 0])], [(0, .var [.osl 1 []])], 1, 19⟩ := by
  refine goI 24 Try.func48 ?_
  repeat' first | refine MkS.mk s.length rfl rfl (by omega) (by omega) ?_ | refine Len.map ?_ | refine Len.nil ?_ | refine Len.cons ?_ | refine Br.t rfl ?_ | refine Br.f rfl ?_ | refine Fit.au ?_ | refine Cv.au ?_ | refine Need.ne ?_ | refine Need.au ?_ | refine Pick.map (by assumption) ?_ | refine Pick.mapI (by omega) (by assumption) ?_ | refine PickN.mk _ (by assumption) ?_ | refine PickN.mk _ rfl ?_ | refine PickN.au ?_ | refine App.au rfl ?_ | refine App.au (own_map (fun _ => rfl) _) ?_ | refine Both.mk ?_ ?_ | exact True.intro
  refine Stop.mk (run_unfold 5 0 rfl rfl ?_)
  have er : (List.replicate s.length (List.map AV.lit [Value.bool false])) = (List.replicate s.length false).map tb := by rw [List.map_replicate]; rfl
  refine Run.fr (g := []) (tm' := [(7, .hp 5 0), (8, .hp 6 0), (3, .hp 1 0)]) (hp' := dO s (List.replicate s.length false) []) (nx' := 8) ?_ ?_
  rotate_left
  · dsimp only [dO]
    rw [← er]
    exact ⟨rfl, (by repeat' first | exact trivial | refine ⟨rfl, ?_⟩ | refine ⟨congrArg (fun n => AV.lit (.int .i64 n)) (by omega), ?_⟩ | refine ⟨congrArg (fun l => some (Row.row 1 l)) (by simp [int1, num, tru]), ?_⟩), (by repeat' first | exact trivial | refine ⟨rfl, ?_⟩ | refine ⟨congrArg (fun n => AV.lit (.int .i64 n)) (by omega), ?_⟩ | refine ⟨congrArg (fun l => some (Row.row 1 l)) (by simp [int1, num, tru]), ?_⟩)⟩
  refine goI 1000 Try.func48 ?_
  repeat' first | refine Len.map ?_ | refine Len.nil ?_ | refine Len.cons ?_ | refine Br.t rfl ?_ | refine Br.f rfl ?_ | refine Fit.au ?_ | refine Cv.au ?_ | refine Need.ne ?_ | refine Need.au ?_ | refine Pick.map (by assumption) ?_ | refine Pick.mapI (by omega) (by assumption) ?_ | refine PickN.mk _ (by assumption) ?_ | refine PickN.mk _ rfl ?_ | refine PickN.au ?_ | refine App.au rfl ?_ | refine App.au (own_map (fun _ => rfl) _) ?_ | refine Both.mk ?_ ?_ | exact True.intro | refine Br.d (fun h => ?_) (fun h => ?_) | refine Br.nd (fun h => ?_) (fun h => ?_) | refine Br.mk (fun h => ?_) (fun h => ?_)
  · have hpos : 0 < s.length := by omega
    repeat' first | refine Len.map ?_ | refine Len.nil ?_ | refine Len.cons ?_ | refine Br.t rfl ?_ | refine Br.f rfl ?_ | refine Fit.au ?_ | refine Cv.au ?_ | refine Need.ne ?_ | refine Need.au ?_ | refine Pick.map (by assumption) ?_ | refine Pick.mapI (by omega) (by assumption) ?_ | refine PickN.mk _ (by assumption) ?_ | refine PickN.mk _ rfl ?_ | refine PickN.au ?_ | refine App.au rfl ?_ | refine App.au (own_map (fun _ => rfl) _) ?_ | refine Both.mk ?_ ?_ | exact True.intro
    refine Dyn.mk _ _ rfl rfl rfl (Run.fr (tm' := dTo 0) (hp' := dO s (List.replicate s.length false) []) (nx' := 8) (into_runO s hs hsm hn _ 0 _ [] (by simp) hpos (.zero (fun e => by subst e; exact absurd hpos (by decide)) (by decide)) (Nat.le_refl _) .nil fun l2 w hi hl2 => ?_) (g := []) ⟨rfl, (by repeat' first | exact trivial | refine ⟨rfl, ?_⟩ | refine ⟨congrArg (fun n => AV.lit (.int .i64 n)) (by omega), ?_⟩ | refine ⟨congrArg (fun l => some (Row.row 1 l)) (by simp [int1, num, tru]), ?_⟩), (by repeat' first | exact trivial | refine ⟨rfl, ?_⟩ | refine ⟨congrArg (fun n => AV.lit (.int .i64 n)) (by omega), ?_⟩ | refine ⟨congrArg (fun l => some (Row.row 1 l)) (by simp [int1, num, tru]), ?_⟩)⟩)
    repeat' first | refine Len.map ?_ | refine Len.nil ?_ | refine Len.cons ?_ | refine Br.t rfl ?_ | refine Br.f rfl ?_ | refine Fit.au ?_ | refine Cv.au ?_ | refine Need.ne ?_ | refine Need.au ?_ | refine Pick.map (by assumption) ?_ | refine Pick.mapI (by omega) (by assumption) ?_ | refine PickN.mk _ (by assumption) ?_ | refine PickN.mk _ rfl ?_ | refine PickN.au ?_ | refine App.au rfl ?_ | refine App.au (own_map (fun _ => rfl) _) ?_ | refine Both.mk ?_ ?_ | exact True.intro
    have hw : w.length ≤ s.length := by
      have := (OB.nil.app hl2 hi.grows).len
      rw [List.nil_append, hi.grows.1] at this
      simpa using this
    exact hK l2 w hw (hl2.ord (hi.marks hs))
  · have e0 : s = [] := by cases s with | nil => rfl | cons a s => simp at *
    subst e0
    repeat' first | refine Len.map ?_ | refine Len.nil ?_ | refine Len.cons ?_ | refine Br.t rfl ?_ | refine Br.f rfl ?_ | refine Fit.au ?_ | refine Cv.au ?_ | refine Need.ne ?_ | refine Need.au ?_ | refine Pick.map (by assumption) ?_ | refine Pick.mapI (by omega) (by assumption) ?_ | refine PickN.mk _ (by assumption) ?_ | refine PickN.mk _ rfl ?_ | refine PickN.au ?_ | refine App.au rfl ?_ | refine App.au (own_map (fun _ => rfl) _) ?_ | refine Both.mk ?_ ?_ | exact True.intro
    exact hK [] [] (by simp) .nil
end Go.Proofs.Ytjjijklonnhdeaa
