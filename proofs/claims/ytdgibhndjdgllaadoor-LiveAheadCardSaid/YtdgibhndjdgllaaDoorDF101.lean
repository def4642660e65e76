/- The law LiveTells as a function. -/
import Derived.Test.YtdgibhndjdgllaaDoorG15
import Derived.Test.YtdgibhndjdgllaaDoorG16
set_option linter.unusedVariables false
set_option linter.unusedSimpArgs false

namespace Go.Proofs.YtdgibhndjdgllaaDoor
open Go.Ax
set_option maxRecDepth 10000
set_option linter.unusedVariables false
set_option maxHeartbeats 0

theorem sum_mem {l : List Nat} {x : Nat} (h : x ∈ l) : x ≤ l.sum := by
  induction l with
  | nil => cases h
  | cons a l ih =>
    rw [List.sum_cons]
    rcases List.mem_cons.1 h with rfl | h
    · omega
    · have := ih h; omega
theorem liveR_of {p : Pro} (hp : p.fits) (hf : p.few 100) (hpp : proP p) (hb : barP p) {f : Fun} (hm : f ∈ p.funcs) : LiveR f := by
  obtain ⟨⟨hl, _, _⟩, hall⟩ := hpp.2.2.2 f hm
  have hfew := hf.2.2.2 f hm
  have hone : ∀ b ∈ f.blocks, ∀ i ∈ b, ∃ k j, oneP p f k b j i := fun b hb i hi => by
    obtain ⟨k, hk⟩ := List.getElem?_of_mem hb
    obtain ⟨j, hj⟩ := List.getElem?_of_mem hi
    exact ⟨k, j, (hall k b hk).2 j i hj⟩
  refine ⟨⟨hl.2.2.2.2.1, hl.2.2.2.1, fun b hb i hi => ?_⟩, hp.2.2 f hm, fun b hb => ?_, fun b h1 i h2 => ⟨hb f hm b h1 i h2, ?_⟩⟩
  · obtain ⟨k, j, ho⟩ := hone b hb i hi
    refine ⟨by rw [def_eq]; exact ho.2.1.1, fun u hu => ⟨uses_pos ho.1.1 u hu, ho.2.1.2.1 u hu⟩⟩
  · have h1 := hl.2.2.2.2.2
    have h2 : b.length ≤ f.count := sum_mem (List.mem_map.2 ⟨b, hb, rfl⟩)
    omega
  · have := hfew.2.2.2 b h1 i h2; omega
theorem LiveTells_run (p : Pro) (hp : p.fits) (hl : p.light) (vs : List Value) (hv4 : vs[3]? = some (.int .u8 2)) (hv2 : vs[1]? = some (.int .u8 1)) :
    Run Tryd.prog 3 (Post.one fun r => r = tru true) [.code (Tryd.f3.body.getD .skip)] ⟨slots 0 [proA p], [(0, .tab 0 vs)], 1, Tryd.f3.ntmps⟩ := by
  refine go 15 Tryd.func3 ?_
  repeat' first | refine Len.map ?_ | refine Len.nil ?_ | refine Len.cons ?_ | refine Br.t rfl ?_ | refine Br.f rfl ?_ | refine Fit.au ?_ | refine Cv.au ?_ | refine Need.ne ?_ | refine Need.au ?_ | refine Pick.map (by assumption) ?_ | refine Pick.mapI (by omega) (by assumption) ?_ | refine PickN.mk _ (by assumption) ?_ | refine PickN.mk _ rfl ?_ | refine PickN.au ?_ | refine App.au rfl ?_ | refine App.au (own_map (fun _ => rfl) _) ?_ | refine Both.mk ?_ ?_ | exact True.intro
  refine Call.of (right7_spec p hp hl) ?_
  rintro r ⟨v, rfl, hv⟩
  refine ⟨rfl, ?_⟩
  repeat' first | refine Len.map ?_ | refine Len.nil ?_ | refine Len.cons ?_ | refine Br.t rfl ?_ | refine Br.f rfl ?_ | refine Fit.au ?_ | refine Cv.au ?_ | refine Need.ne ?_ | refine Need.au ?_ | refine Pick.map (by assumption) ?_ | refine Pick.mapI (by omega) (by assumption) ?_ | refine PickN.mk _ (by assumption) ?_ | refine PickN.mk _ rfl ?_ | refine PickN.au ?_ | refine App.au rfl ?_ | refine App.au (own_map (fun _ => rfl) _) ?_ | refine Both.mk ?_ ?_ | exact True.intro
  refine Br.mk (fun h => ?_) (fun h => ?_)
  · repeat' first | refine Len.map ?_ | refine Len.nil ?_ | refine Len.cons ?_ | refine Br.t rfl ?_ | refine Br.f rfl ?_ | refine Fit.au ?_ | refine Cv.au ?_ | refine Need.ne ?_ | refine Need.au ?_ | refine Pick.map (by assumption) ?_ | refine Pick.mapI (by omega) (by assumption) ?_ | refine PickN.mk _ (by assumption) ?_ | refine PickN.mk _ rfl ?_ | refine PickN.au ?_ | refine App.au rfl ?_ | refine App.au (own_map (fun _ => rfl) _) ?_ | refine Both.mk ?_ ?_ | exact True.intro
    refine Stop.mk ?_
    refine run_inlC rfl want_none rfl rfl rfl rfl rfl rfl rfl (works8_run p vs hv4 hv2 ?_)
    refine go 1000 Tryd.func3 ?_
    repeat' first | refine Len.map ?_ | refine Len.nil ?_ | refine Len.cons ?_ | refine Br.t rfl ?_ | refine Br.f rfl ?_ | refine Fit.au ?_ | refine Cv.au ?_ | refine Need.ne ?_ | refine Need.au ?_ | refine Pick.map (by assumption) ?_ | refine Pick.mapI (by omega) (by assumption) ?_ | refine PickN.mk _ (by assumption) ?_ | refine PickN.mk _ rfl ?_ | refine PickN.au ?_ | refine App.au rfl ?_ | refine App.au (own_map (fun _ => rfl) _) ?_ | refine Both.mk ?_ ?_ | exact True.intro
    rfl
  obtain ⟨hb, hpro, hbar⟩ := hv (by simpa using h)
  clear h hv
  have hpl := hp.1
  repeat' first | refine Len.map ?_ | refine Len.nil ?_ | refine Len.cons ?_ | refine Br.t rfl ?_ | refine Br.f rfl ?_ | refine Fit.au ?_ | refine Cv.au ?_ | refine Need.ne ?_ | refine Need.au ?_ | refine Pick.map (by assumption) ?_ | refine Pick.mapI (by omega) (by assumption) ?_ | refine PickN.mk _ (by assumption) ?_ | refine PickN.mk _ rfl ?_ | refine PickN.au ?_ | refine App.au rfl ?_ | refine App.au (own_map (fun _ => rfl) _) ?_ | refine Both.mk ?_ ?_ | exact True.intro
  refine Stop.mk ?_
  refine go 1000 Tryd.func3 ?_
  repeat' first | refine Len.map ?_ | refine Len.nil ?_ | refine Len.cons ?_ | refine Br.t rfl ?_ | refine Br.f rfl ?_ | refine Fit.au ?_ | refine Cv.au ?_ | refine Need.ne ?_ | refine Need.au ?_ | refine Pick.map (by assumption) ?_ | refine Pick.mapI (by omega) (by assumption) ?_ | refine PickN.mk _ (by assumption) ?_ | refine PickN.mk _ rfl ?_ | refine PickN.au ?_ | refine App.au rfl ?_ | refine App.au (own_map (fun _ => rfl) _) ?_ | refine Both.mk ?_ ?_ | exact True.intro
  refine Stop.mk (loop_in (g := []) (fun n : Nat => [(1, .hp 1 0), (3, num n)]) (fun _ => [(1, .var p.cs), (0, .tab 0 vs)]) 2 (fun n => n ≤ p.funcs.length) (fun n => p.funcs.length - n) 0 (by omega) ⟨rfl, (by repeat' first | exact trivial | refine ⟨rfl, ?_⟩ | refine ⟨congrArg (fun n => AV.lit (.int .i64 n)) (by omega), ?_⟩ | refine ⟨congrArg (fun l => some (Row.row 1 l)) (by simp [int1, num, tru]), ?_⟩), (by repeat' first | exact trivial | refine ⟨rfl, ?_⟩ | refine ⟨congrArg (fun n => AV.lit (.int .i64 n)) (by omega), ?_⟩ | refine ⟨congrArg (fun l => some (Row.row 1 l)) (by simp [int1, num, tru]), ?_⟩)⟩ (fun n hn ih => ?_))
  by_cases hnl : n < p.funcs.length
  · obtain ⟨f, gf, hfm⟩ := getK (l := p.funcs) (k := n) hnl
    have hR := liveR_of hp hb hpro hbar hfm
    have hI := Ins9_spec f hR
    have hO := Outs10_spec f hR
    refine go 1000 Tryd.func3 ?_
    repeat' first | (refine Br.t ?_ ?_; focus (simp; omega)) | refine Draw.mk (ordL [1, 3] [0, 2, 1, 3, 4, 5]) (by decide +kernel) ?_ | refine Draw.mk (ordL [5, 9, 17, 27] [0, 1, 2, 3, 4, 6, 7, 8, 5, 9, 10, 11, 12, 13, 14, 15, 16, 18, 19, 20, 21, 22, 23, 24, 25, 26, 17, 27, 28, 29]) (by decide +kernel) ?_ | refine Pick.map gf ?_ | refine Len.map ?_ | refine Len.nil ?_ | refine Len.cons ?_ | refine Br.t rfl ?_ | refine Br.f rfl ?_ | refine Fit.au ?_ | refine Cv.au ?_ | refine Need.ne ?_ | refine Need.au ?_ | refine Pick.map (by assumption) ?_ | refine Pick.mapI (by omega) (by assumption) ?_ | refine PickN.mk _ (by assumption) ?_ | refine PickN.mk _ rfl ?_ | refine PickN.au ?_ | refine App.au rfl ?_ | refine App.au (own_map (fun _ => rfl) _) ?_ | refine Both.mk ?_ ?_ | exact True.intro
    refine Call.of hI ?_
    rintro r ⟨T, F0, hsT, rfl⟩
    refine ⟨rfl, ?_⟩
    repeat' first | refine Len.map ?_ | refine Len.nil ?_ | refine Len.cons ?_ | refine Br.t rfl ?_ | refine Br.f rfl ?_ | refine Fit.au ?_ | refine Cv.au ?_ | refine Need.ne ?_ | refine Need.au ?_ | refine Pick.map (by assumption) ?_ | refine Pick.mapI (by omega) (by assumption) ?_ | refine PickN.mk _ (by assumption) ?_ | refine PickN.mk _ rfl ?_ | refine PickN.au ?_ | refine App.au rfl ?_ | refine App.au (own_map (fun _ => rfl) _) ?_ | refine Both.mk ?_ ?_ | exact True.intro
    refine Call.of hO ?_
    rintro r ⟨T0, F, hsF, rfl⟩
    refine ⟨rfl, ?_⟩
    have hlT : T.length = f.blocks.length := hsT.lenT.trans (succsF_len f)
    have hlF : F.length = f.blocks.length := hsF.lenF.trans (succsF_len f)
    have hfb := hR.blocks
    have hfr := hR.regs
    repeat' first | (refine Br.f ?_ ?_; focus (simp [hlT, hlF]; done)) | refine Len.map ?_ | refine Len.nil ?_ | refine Len.cons ?_ | refine Br.t rfl ?_ | refine Br.f rfl ?_ | refine Fit.au ?_ | refine Cv.au ?_ | refine Need.ne ?_ | refine Need.au ?_ | refine Pick.map (by assumption) ?_ | refine Pick.mapI (by omega) (by assumption) ?_ | refine PickN.mk _ (by assumption) ?_ | refine PickN.mk _ rfl ?_ | refine PickN.au ?_ | refine App.au rfl ?_ | refine App.au (own_map (fun _ => rfl) _) ?_ | refine Both.mk ?_ ?_ | exact True.intro
    refine Stop.mk ?_
    refine run_frzR 3 rfl (fzLL_map fz_oset _) ?_
    refine run_frzR 4 rfl (fzLL_map fz_oset _) ?_
    refine loop_in (g := []) (fun k : Nat => [(1, .hp 1 0), (3, num n), (4, .hp 2 0), (5, setsL T), (6, setsL F), (7, num k)]) (fun _ => [(2, .var f.cs), (1, .var p.cs), (0, .tab 0 vs)]) 3 (fun k => k ≤ T.length) (fun k => T.length - k) 0 (by omega) ⟨rfl, (by repeat' first | exact trivial | refine ⟨rfl, ?_⟩ | refine ⟨congrArg (fun n => AV.lit (.int .i64 n)) (by omega), ?_⟩ | refine ⟨congrArg (fun l => some (Row.row 1 l)) (by simp [int1, num, tru]), ?_⟩), (by repeat' first | exact trivial | refine ⟨rfl, ?_⟩ | refine ⟨congrArg (fun n => AV.lit (.int .i64 n)) (by omega), ?_⟩ | refine ⟨congrArg (fun l => some (Row.row 1 l)) (by simp [int1, num, tru]), ?_⟩)⟩ (fun k hk ih2 => ?_)
    unfold setsL
    by_cases hkl : k < T.length
    · obtain ⟨sT, gT, hTm⟩ := getK (l := T) (k := k) hkl
      obtain ⟨sF, gF, hFm⟩ := getK (l := F) (k := k) (by omega)
      obtain ⟨bk, gb, hbm⟩ := getK (l := f.blocks) (k := k) (by omega)
      have hbl := hR.len bk hbm
      have eT : T.getD k [] = sT := by rw [List.getD_eq_getElem?_getD, gT]; rfl
      have eF : F.getD k [] = sF := by rw [List.getD_eq_getElem?_getD, gF]; rfl
      have eb : f.blocks.getD k [] = bk := by rw [List.getD_eq_getElem?_getD, gb]; rfl
      have hsl := (hsT.low sT hTm).1
      have hsl2 := (hsF.lowF sF hFm).1
      refine go 1000 Tryd.func3 ?_
      repeat' first | (refine Br.t ?_ ?_; focus (simp; omega)) | refine Len.map ?_ | refine Len.nil ?_ | refine Len.cons ?_ | refine Br.t rfl ?_ | refine Br.f rfl ?_ | refine Fit.au ?_ | refine Cv.au ?_ | refine Need.ne ?_ | refine Need.au ?_ | refine Pick.map (by assumption) ?_ | refine Pick.mapI (by omega) (by assumption) ?_ | refine PickN.mk _ (by assumption) ?_ | refine PickN.mk _ rfl ?_ | refine PickN.au ?_ | refine App.au rfl ?_ | refine App.au (own_map (fun _ => rfl) _) ?_ | refine Both.mk ?_ ?_ | exact True.intro
      refine Stop.mk (loop_in (g := []) (fun r : Nat => [(1, .hp 1 0), (3, num n), (4, .hp 2 0), (5, setsL T), (6, setsL F), (7, num k), (8, num r)]) (fun _ => [(2, .var f.cs), (1, .var p.cs), (0, .tab 0 vs)]) 3 (fun r => r ≤ f.regs.length) (fun r => f.regs.length - r) 0 (by omega) ?_ (fun r hr ih3 => ?_))
      · unfold setsL
        exact ⟨rfl, (by repeat' first | exact trivial | refine ⟨rfl, ?_⟩ | refine ⟨congrArg (fun n => AV.lit (.int .i64 n)) (by omega), ?_⟩ | refine ⟨congrArg (fun l => some (Row.row 1 l)) (by simp [int1, num, tru]), ?_⟩), (by repeat' first | exact trivial | refine ⟨rfl, ?_⟩ | refine ⟨congrArg (fun n => AV.lit (.int .i64 n)) (by omega), ?_⟩ | refine ⟨congrArg (fun l => some (Row.row 1 l)) (by simp [int1, num, tru]), ?_⟩)⟩
      unfold setsL
      by_cases hrl : r < f.regs.length
      · have hH1 := Has11_spec sT r (by omega) (by omega)
        have hH2 := Has11_spec sF r (by omega) (by omega)
        have hs1 := live_sol hR.toLiveOK hsT (k := k) (by omega) r
        have hs2 := live_sol hR.toLiveOK hsF (k := k) (by omega) r
        rw [eT] at hs1
        rw [eF] at hs2
        have hN1 : FnSpec Tryd.prog 12 [funA f, num k, num 0, num r] (fun v => v = tru (hasW sT r)) := (Needed12_spec f hR k 0 r bk gb (by omega)).imp fun v ⟨b, e, hbn⟩ => by
          rw [e]
          exact congrArg tru (Bool.eq_iff_iff.2 (hbn.trans hs1.1.symm))
        have hend : NeedP f k bk.length r ↔ NeedO f k r := by
          unfold NeedP
          rw [eb, List.drop_length]
          simp [lookL]
        have hN2 : FnSpec Tryd.prog 12 [funA f, num k, num bk.length, num r] (fun v => v = tru (hasW sF r)) := (Needed12_spec f hR k bk.length r bk gb (by omega)).imp fun v ⟨b, e, hbn⟩ => by
          rw [e]
          exact congrArg tru (Bool.eq_iff_iff.2 ((hbn.trans hend).trans hs2.2.symm))
        refine go 1000 Tryd.func3 ?_
        repeat' first | (refine Br.t ?_ ?_; focus (simp; omega)) | refine Draw.mk (ordL [1, 3] [0, 2, 1, 3, 4, 5]) (by decide +kernel) ?_ | refine Draw.mk (ordL [5, 9, 17, 27] [0, 1, 2, 3, 4, 6, 7, 8, 5, 9, 10, 11, 12, 13, 14, 15, 16, 18, 19, 20, 21, 22, 23, 24, 25, 26, 17, 27, 28, 29]) (by decide +kernel) ?_ | refine Pick.map gT ?_ | refine Pick.map gF ?_ | refine Pick.map gb ?_ | refine Call.eq hH1 rfl ?_ | refine Call.eq hH2 rfl ?_ | refine Call.eq hN1 rfl ?_ | refine Call.eq hN2 rfl ?_ | (refine Br.f ?_ ?_; focus (simp; done)) | refine Len.map ?_ | refine Len.nil ?_ | refine Len.cons ?_ | refine Br.t rfl ?_ | refine Br.f rfl ?_ | refine Fit.au ?_ | refine Cv.au ?_ | refine Need.ne ?_ | refine Need.au ?_ | refine Pick.map (by assumption) ?_ | refine Pick.mapI (by omega) (by assumption) ?_ | refine PickN.mk _ (by assumption) ?_ | refine PickN.mk _ rfl ?_ | refine PickN.au ?_ | refine App.au rfl ?_ | refine App.au (own_map (fun _ => rfl) _) ?_ | refine Both.mk ?_ ?_ | exact True.intro
        all_goals refine Stop.mk (ih3 (r + 1) (g := []) _ _ _ (by omega) (by omega) ?_)
        all_goals unfold setsL
        all_goals exact ⟨rfl, (by repeat' first | exact trivial | refine ⟨rfl, ?_⟩ | refine ⟨congrArg (fun n => AV.lit (.int .i64 n)) (by omega), ?_⟩ | refine ⟨congrArg (fun l => some (Row.row 1 l)) (by simp [int1, num, tru]), ?_⟩), (by repeat' first | exact trivial | refine ⟨rfl, ?_⟩ | refine ⟨congrArg (fun n => AV.lit (.int .i64 n)) (by omega), ?_⟩ | refine ⟨congrArg (fun l => some (Row.row 1 l)) (by simp [int1, num, tru]), ?_⟩)⟩
      · refine go 1000 Tryd.func3 ?_
        repeat' first | (refine Br.f ?_ ?_; focus (simp; omega)) | refine Len.map ?_ | refine Len.nil ?_ | refine Len.cons ?_ | refine Br.t rfl ?_ | refine Br.f rfl ?_ | refine Fit.au ?_ | refine Cv.au ?_ | refine Need.ne ?_ | refine Need.au ?_ | refine Pick.map (by assumption) ?_ | refine Pick.mapI (by omega) (by assumption) ?_ | refine PickN.mk _ (by assumption) ?_ | refine PickN.mk _ rfl ?_ | refine PickN.au ?_ | refine App.au rfl ?_ | refine App.au (own_map (fun _ => rfl) _) ?_ | refine Both.mk ?_ ?_ | exact True.intro
        refine Stop.mk (ih2 (k + 1) (g := []) _ _ _ (by omega) (by omega) ?_)
        unfold setsL
        exact ⟨rfl, (by repeat' first | exact trivial | refine ⟨rfl, ?_⟩ | refine ⟨congrArg (fun n => AV.lit (.int .i64 n)) (by omega), ?_⟩ | refine ⟨congrArg (fun l => some (Row.row 1 l)) (by simp [int1, num, tru]), ?_⟩), (by repeat' first | exact trivial | refine ⟨rfl, ?_⟩ | refine ⟨congrArg (fun n => AV.lit (.int .i64 n)) (by omega), ?_⟩ | refine ⟨congrArg (fun l => some (Row.row 1 l)) (by simp [int1, num, tru]), ?_⟩)⟩
    · refine go 1000 Tryd.func3 ?_
      repeat' first | (refine Br.f ?_ ?_; focus (simp; omega)) | refine Len.map ?_ | refine Len.nil ?_ | refine Len.cons ?_ | refine Br.t rfl ?_ | refine Br.f rfl ?_ | refine Fit.au ?_ | refine Cv.au ?_ | refine Need.ne ?_ | refine Need.au ?_ | refine Pick.map (by assumption) ?_ | refine Pick.mapI (by omega) (by assumption) ?_ | refine PickN.mk _ (by assumption) ?_ | refine PickN.mk _ rfl ?_ | refine PickN.au ?_ | refine App.au rfl ?_ | refine App.au (own_map (fun _ => rfl) _) ?_ | refine Both.mk ?_ ?_ | exact True.intro
      exact Stop.mk (ih (n + 1) (g := []) _ _ _ (by omega) (by omega) ⟨rfl, (by repeat' first | exact trivial | refine ⟨rfl, ?_⟩ | refine ⟨congrArg (fun n => AV.lit (.int .i64 n)) (by omega), ?_⟩ | refine ⟨congrArg (fun l => some (Row.row 1 l)) (by simp [int1, num, tru]), ?_⟩), (by repeat' first | exact trivial | refine ⟨rfl, ?_⟩ | refine ⟨congrArg (fun n => AV.lit (.int .i64 n)) (by omega), ?_⟩ | refine ⟨congrArg (fun l => some (Row.row 1 l)) (by simp [int1, num, tru]), ?_⟩)⟩)
  · have e : n = p.funcs.length := by omega
    subst e
    refine go 13 Tryd.func3 ?_
    repeat' first | (refine Br.f ?_ ?_; focus (simp; done)) | refine Len.map ?_ | refine Len.nil ?_ | refine Len.cons ?_ | refine Br.t rfl ?_ | refine Br.f rfl ?_ | refine Fit.au ?_ | refine Cv.au ?_ | refine Need.ne ?_ | refine Need.au ?_ | refine Pick.map (by assumption) ?_ | refine Pick.mapI (by omega) (by assumption) ?_ | refine PickN.mk _ (by assumption) ?_ | refine PickN.mk _ rfl ?_ | refine PickN.au ?_ | refine App.au rfl ?_ | refine App.au (own_map (fun _ => rfl) _) ?_ | refine Both.mk ?_ ?_ | exact True.intro
    refine Stop.mk ?_
    refine run_inlC rfl want_none rfl rfl rfl rfl rfl rfl rfl (works8_run p vs hv4 hv2 ?_)
    refine go 1000 Tryd.func3 ?_
    repeat' first | refine Len.map ?_ | refine Len.nil ?_ | refine Len.cons ?_ | refine Br.t rfl ?_ | refine Br.f rfl ?_ | refine Fit.au ?_ | refine Cv.au ?_ | refine Need.ne ?_ | refine Need.au ?_ | refine Pick.map (by assumption) ?_ | refine Pick.mapI (by omega) (by assumption) ?_ | refine PickN.mk _ (by assumption) ?_ | refine PickN.mk _ rfl ?_ | refine PickN.au ?_ | refine App.au rfl ?_ | refine App.au (own_map (fun _ => rfl) _) ?_ | refine Both.mk ?_ ?_ | exact True.intro
    rfl
end Go.Proofs.YtdgibhndjdgllaaDoor
