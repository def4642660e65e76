/- The law NilsTells as a function. -/
import Derived.Test.YtdgibhndjdgllaaDoorG16
import Derived.Test.YtdgibhndjdgllaaDoorG18
set_option linter.unusedVariables false
set_option linter.unusedSimpArgs false

namespace Go.Proofs.YtdgibhndjdgllaaDoor
open Go.Ax
set_option maxRecDepth 10000
set_option linter.unusedVariables false
set_option maxHeartbeats 0

/-- The roots that are asked for where a block begins, among the first registers. -/
noncomputable def rootsK (f : Fun) (k m : Nat) : List Int := ((List.range m).filter fun (q : Nat) => atB f q && nowB f k q 0).map fun (q : Nat) => (q : Int)
/-- As far as the blocks have been gone through with one more register. -/
noncomputable def rootsL (f : Fun) (m k : Nat) : List (List Int) := (List.range f.blocks.length).map fun j => rootsK f j (if j < k then m + 1 else m)
theorem rootsL_len (f : Fun) (m k : Nat) : (rootsL f m k).length = f.blocks.length := by simp [rootsL]
theorem rootsL_zero (f : Fun) : rootsL f 0 0 = List.replicate f.blocks.length [] := by
  unfold rootsL rootsK
  refine List.ext_getElem? fun i => ?_
  rw [List.getElem?_map, List.getElem?_replicate]
  by_cases h : i < f.blocks.length
  · rw [List.getElem?_range h]; simp [h]
  · rw [List.getElem?_eq_none (by simpa using h)]; simp [h]
theorem rootsL_end (f : Fun) (m : Nat) : rootsL f m f.blocks.length = rootsL f (m + 1) 0 := by
  unfold rootsL
  refine List.map_congr_left fun j hj => ?_
  have := List.mem_range.1 hj
  rw [if_pos this, if_neg (by omega)]
theorem rootsK_succ (f : Fun) (k m : Nat) : rootsK f k (m + 1) = rootsK f k m ++ (if atB f m && nowB f k m 0 then [(m : Int)] else []) := by
  unfold rootsK
  rw [List.range_succ, List.filter_append, List.map_append]
  congr 1
  cases h : (atB f m && nowB f k m 0) with
  | true => rw [if_pos rfl, List.filter_cons, if_pos h]; rfl
  | false => rw [if_neg (by simp), List.filter_cons, if_neg (by rw [h]; simp)]; rfl
theorem rootsL_set {f : Fun} {m k : Nat} (hk : k < f.blocks.length) : (rootsL f m k).set k (rootsK f k (m + 1)) = rootsL f m (k + 1) := by
  unfold rootsL
  refine List.ext_getElem? fun j => ?_
  rw [List.getElem?_set]
  by_cases e : k = j
  · subst e
    rw [if_pos rfl, if_pos (by simpa using hk), List.getElem?_map, List.getElem?_range hk]
    simp
  · rw [if_neg e, List.getElem?_map, List.getElem?_map]
    by_cases hj : j < f.blocks.length
    · rw [List.getElem?_range hj]
      simp only [Option.map_some]
      congr 2
      by_cases h1 : j < k
      · rw [if_pos h1, if_pos (by omega)]
      · rw [if_neg h1, if_neg (by omega)]
    · rw [List.getElem?_eq_none (by simpa using hj)]; rfl
theorem rootsL_at {f : Fun} {m k : Nat} (hk : k < f.blocks.length) : (rootsL f m k)[k]? = some (rootsK f k m) := by
  unfold rootsL
  rw [List.getElem?_map, List.getElem?_range hk]; simp
theorem rootsL_same {f : Fun} {m k : Nat} (h : (atB f m && nowB f k m 0) = false) : rootsL f m (k + 1) = rootsL f m k := by
  unfold rootsL
  refine List.map_congr_left fun j hj => ?_
  by_cases e : j = k
  · subst e
    rw [if_pos (by omega), if_neg (by omega), rootsK_succ, h]; simp
  · by_cases h1 : j < k
    · rw [if_pos h1, if_pos (by omega)]
    · rw [if_neg h1, if_neg (by omega)]
theorem rootsL_skip {f : Fun} {m : Nat} (h : atB f m = false) : rootsL f (m + 1) 0 = rootsL f m 0 := by
  unfold rootsL
  refine List.map_congr_left fun j hj => ?_
  rw [if_neg (by omega), if_neg (by omega), rootsK_succ, h]; simp
theorem rootsK_len (f : Fun) (k m : Nat) : (rootsK f k m).length ≤ m := by
  unfold rootsK
  rw [List.length_map]
  have := List.length_filter_le (fun (q : Nat) => atB f q && nowB f k q 0) (List.range m)
  rw [List.length_range] at this; exact this
theorem sureL_at {f : Fun} {x : Int} {n k : Nat} (hk : k < n) : (sureL f x n)[k]? = some (sureRow f x k ((f.blocks.getD k []).length + 1)) := by
  unfold sureL
  rw [List.getElem?_map, List.getElem?_range hk]; rfl
theorem sureRow_at {f : Fun} {x : Int} {k n a : Nat} (ha : a < n) : (sureRow f x k n)[a]? = some (sureB f x k a) := by
  unfold sureRow
  rw [List.getElem?_map, List.getElem?_range ha]; rfl
theorem fz_otb (l : List Bool) : AV.fzL (otb l) = [.sl false 1 (l.map tb)] := by
  show [AV.sl false 1 (AV.fzLL (l.map tb))] = _
  rw [fzLL_map (enc := tb) (enc2 := tb) (fun _ => rfl) l]
theorem now_zero {f : Fun} {k : Nat} {q : Int} : nowB f k q 0 = true ↔ AskK f k q := by
  rw [nowB_iff]
  unfold AskP lastN
  simp
/-- What At lists is what is asked for. -/
theorem at_roots {f : Fun} (h : NilOK f) {T F : List (List W)} (hs : SolP (nilsP f) T F) {k : Nat} (hk : k < f.blocks.length) {s : List W} (gF : F[k]? = some s) : (listW s).filter (atB f) = rootsK f k f.regs.length := by
  have e0 : F.getD k [] = s := by rw [List.getD_eq_getElem?_getD, gF]; rfl
  have hl : s.length = wn f.regs.length := by rw [← e0]; exact hs.widF k (by show k < (succsF f).length; rw [succsF_len]; exact hk)
  have hb := fun q => nil_sol h hs hk q
  rw [e0] at hb
  unfold listW rootsK
  rw [listN_eq, List.filter_map, List.filter_filter]
  congr 1
  have hle : f.regs.length ≤ 64 * s.length := by rw [hl]; unfold wn; omega
  obtain ⟨d, hd⟩ : ∃ d, 64 * s.length = f.regs.length + d := ⟨64 * s.length - f.regs.length, by omega⟩
  rw [hd, List.range_add, List.filter_append]
  have e1 : ((List.range d).map fun x => f.regs.length + x).filter (fun a => (atB f ∘ fun (q : Nat) => (q : Int)) a && hasW s a) = [] := by
    rw [List.filter_eq_nil_iff]
    intro a ha
    obtain ⟨x, _, rfl⟩ := List.mem_map.1 ha
    have : hasW s (f.regs.length + x) = false := by
      cases hh : hasW s (f.regs.length + x) with
      | false => rfl
      | true => have := ((hb _).1 hh).1; omega
    rw [this]; simp
  rw [e1, List.append_nil]
  refine List.filter_congr fun q hq => ?_
  have hq := List.mem_range.1 hq
  show (atB f q && hasW s q) = (atB f q && nowB f k q 0)
  congr 1
  rw [Bool.eq_iff_iff, hb, now_zero]
  exact ⟨fun e => e.2, fun e => ⟨hq, e⟩⟩
theorem NilsTells_run (p : Pro) (hp : p.fits) (hl : p.light) (vs : List Value) (hv : ∀ k, k < 64 → vs[(deJ (bitW k)).toNat]? = some (.int .u8 k)) :
    Run Tryd.prog 5 (Post.one fun r => r = tru true) [.code (Tryd.f5.body.getD .skip)] ⟨slots 0 [proA p], [(0, .tab 0 vs)], 1, Tryd.f5.ntmps⟩ := by
  have hW := works16_spec
  refine go 1000 Tryd.func5 ?_
  repeat' first | refine Len.map ?_ | refine Len.nil ?_ | refine Len.cons ?_ | refine Br.t rfl ?_ | refine Br.f rfl ?_ | refine Fit.au ?_ | refine Cv.au ?_ | refine Need.ne ?_ | refine Need.au ?_ | refine Pick.map (by assumption) ?_ | refine Pick.mapI (by omega) (by assumption) ?_ | refine PickN.mk _ (by assumption) ?_ | refine PickN.mk _ rfl ?_ | refine PickN.au ?_ | refine App.au rfl ?_ | refine App.au (own_map (fun _ => rfl) _) ?_ | refine Both.mk ?_ ?_ | exact True.intro
  refine Call.of (few15_spec p hp hl) ?_
  rintro r ⟨v, rfl, hv1⟩
  refine ⟨rfl, ?_⟩
  repeat' first | refine Len.map ?_ | refine Len.nil ?_ | refine Len.cons ?_ | refine Br.t rfl ?_ | refine Br.f rfl ?_ | refine Fit.au ?_ | refine Cv.au ?_ | refine Need.ne ?_ | refine Need.au ?_ | refine Pick.map (by assumption) ?_ | refine Pick.mapI (by omega) (by assumption) ?_ | refine PickN.mk _ (by assumption) ?_ | refine PickN.mk _ rfl ?_ | refine PickN.au ?_ | refine App.au rfl ?_ | refine App.au (own_map (fun _ => rfl) _) ?_ | refine Both.mk ?_ ?_ | exact True.intro
  refine Br.mk (fun h => ?_) (fun h => ?_)
  · repeat' first | refine Call.eq hW rfl ?_ | refine Len.map ?_ | refine Len.nil ?_ | refine Len.cons ?_ | refine Br.t rfl ?_ | refine Br.f rfl ?_ | refine Fit.au ?_ | refine Cv.au ?_ | refine Need.ne ?_ | refine Need.au ?_ | refine Pick.map (by assumption) ?_ | refine Pick.mapI (by omega) (by assumption) ?_ | refine PickN.mk _ (by assumption) ?_ | refine PickN.mk _ rfl ?_ | refine PickN.au ?_ | refine App.au rfl ?_ | refine App.au (own_map (fun _ => rfl) _) ?_ | refine Both.mk ?_ ?_ | exact True.intro
    rfl
  obtain ⟨hb, hpro, h12⟩ := hv1 (by simpa using h)
  clear h hv1
  have hpl := hp.1
  repeat' first | refine Len.map ?_ | refine Len.nil ?_ | refine Len.cons ?_ | refine Br.t rfl ?_ | refine Br.f rfl ?_ | refine Fit.au ?_ | refine Cv.au ?_ | refine Need.ne ?_ | refine Need.au ?_ | refine Pick.map (by assumption) ?_ | refine Pick.mapI (by omega) (by assumption) ?_ | refine PickN.mk _ (by assumption) ?_ | refine PickN.mk _ rfl ?_ | refine PickN.au ?_ | refine App.au rfl ?_ | refine App.au (own_map (fun _ => rfl) _) ?_ | refine Both.mk ?_ ?_ | exact True.intro
  refine Stop.mk (loop_in (g := []) (fun n : Nat => [(1, .hp 1 0), (3, num n)]) (fun _ => [(1, .var p.cs), (0, .tab 0 vs)]) 2 (fun n => n ≤ p.funcs.length) (fun n => p.funcs.length - n) 0 (by omega) ⟨rfl, (by repeat' first | exact trivial | refine ⟨rfl, ?_⟩ | refine ⟨congrArg (fun n => AV.lit (.int .i64 n)) (by omega), ?_⟩ | refine ⟨congrArg (fun l => some (Row.row 1 l)) (by simp [int1, num, tru]), ?_⟩), (by repeat' first | exact trivial | refine ⟨rfl, ?_⟩ | refine ⟨congrArg (fun n => AV.lit (.int .i64 n)) (by omega), ?_⟩ | refine ⟨congrArg (fun l => some (Row.row 1 l)) (by simp [int1, num, tru]), ?_⟩)⟩ (fun n hn ih => ?_))
  by_cases hnl : n < p.funcs.length
  · obtain ⟨f, gf, hfm⟩ := getK (l := p.funcs) (k := n) hnl
    have hR := nilR_of hp hb hpro hfm (h12 f hfm)
    have hfb := h12 f hfm
    have hfr := hR.reg
    have hN := New17_spec f hR.toNilW
    refine go 1000 Tryd.func5 ?_
    repeat' first | (refine Br.t ?_ ?_; focus (simp; omega)) | refine Pick.map gf ?_ | refine Len.map ?_ | refine Len.nil ?_ | refine Len.cons ?_ | refine Br.t rfl ?_ | refine Br.f rfl ?_ | refine Fit.au ?_ | refine Cv.au ?_ | refine Need.ne ?_ | refine Need.au ?_ | refine Pick.map (by assumption) ?_ | refine Pick.mapI (by omega) (by assumption) ?_ | refine PickN.mk _ (by assumption) ?_ | refine PickN.mk _ rfl ?_ | refine PickN.au ?_ | refine App.au rfl ?_ | refine App.au (own_map (fun _ => rfl) _) ?_ | refine Both.mk ?_ ?_ | exact True.intro
    refine Call.of hN ?_
    rintro r ⟨T, F, hs, rfl⟩
    refine ⟨rfl, ?_⟩
    repeat' first | refine Len.map ?_ | refine Len.nil ?_ | refine Len.cons ?_ | refine Br.t rfl ?_ | refine Br.f rfl ?_ | refine Fit.au ?_ | refine Cv.au ?_ | refine Need.ne ?_ | refine Need.au ?_ | refine Pick.map (by assumption) ?_ | refine Pick.mapI (by omega) (by assumption) ?_ | refine PickN.mk _ (by assumption) ?_ | refine PickN.mk _ rfl ?_ | refine PickN.au ?_ | refine App.au rfl ?_ | refine App.au (own_map (fun _ => rfl) _) ?_ | refine Both.mk ?_ ?_ | exact True.intro
    refine Stop.mk ?_
    refine run_frzV 3 rfl rfl (fz_fact f _ F) ?_
    have hL : ∀ k : Nat, k < f.blocks.length → (marksF (succsF f) (-1))[k]? = some true := fun k hk => marksF_at.2 ⟨by rw [succsF_len]; exact hk, hR.all_ k hk⟩
    generalize marksF (succsF f) (-1) = L at *
    have hlF : F.length = f.blocks.length := hs.lenF.trans (succsF_len f)
    refine loop_in (g := [(3, 4)]) (fun k : Nat => [(1, .hp 1 0), (3, num n), (4, .hp 2 0), (5, factA f L F), (6, .hw 3), (7, num k)]) (fun k => [(3, .row 1 ((List.replicate k ([] : List Int)).map olst)), (2, .var f.cs), (1, .var p.cs), (0, .tab 0 vs)]) 4 (fun k => k ≤ f.blocks.length) (fun k => f.blocks.length - k) 0 (by omega) ⟨rfl, (by repeat' first | exact trivial | refine ⟨rfl, ?_⟩ | refine ⟨congrArg (fun n => AV.lit (.int .i64 n)) (by omega), ?_⟩ | refine ⟨congrArg (fun l => some (Row.row 1 l)) (by simp [int1, num, tru]), ?_⟩), (by repeat' first | exact trivial | refine ⟨rfl, ?_⟩ | refine ⟨congrArg (fun n => AV.lit (.int .i64 n)) (by omega), ?_⟩ | refine ⟨congrArg (fun l => some (Row.row 1 l)) (by simp [int1, num, tru]), ?_⟩)⟩ (fun k hk ih2 => ?_)
    by_cases hkl : k < f.blocks.length
    · have hrep : (List.replicate (k + 1) ([] : List Int)).map olst = (List.replicate k ([] : List Int)).map olst ++ [[.osl 1 []]] := by rw [List.replicate_succ', List.map_append]; rfl
      have ih2' := @ih2 (k + 1)
      rw [hrep] at ih2'
      refine go 1000 Tryd.func5 ?_
      repeat' first | (refine Br.t ?_ ?_; focus (simp; omega)) | refine App.au rfl ?_ (by rw [List.length_map, List.length_replicate]; simp; omega) (by rw [List.length_map, List.length_replicate]; simp; omega) | refine Len.map ?_ | refine Len.nil ?_ | refine Len.cons ?_ | refine Br.t rfl ?_ | refine Br.f rfl ?_ | refine Fit.au ?_ | refine Cv.au ?_ | refine Need.ne ?_ | refine Need.au ?_ | refine Pick.map (by assumption) ?_ | refine Pick.mapI (by omega) (by assumption) ?_ | refine PickN.mk _ (by assumption) ?_ | refine PickN.mk _ rfl ?_ | refine PickN.au ?_ | refine App.au rfl ?_ | refine App.au (own_map (fun _ => rfl) _) ?_ | refine Both.mk ?_ ?_ | exact True.intro
      exact Stop.mk (ih2' (g := [(3, 6)]) _ _ _ (by omega) (by omega) ⟨rfl, (by repeat' first | exact trivial | refine ⟨rfl, ?_⟩ | refine ⟨congrArg (fun n => AV.lit (.int .i64 n)) (by omega), ?_⟩ | refine ⟨congrArg (fun l => some (Row.row 1 l)) (by simp [int1, num, tru]), ?_⟩), (by repeat' first | exact trivial | refine ⟨rfl, ?_⟩ | refine ⟨congrArg (fun n => AV.lit (.int .i64 n)) (by omega), ?_⟩ | refine ⟨congrArg (fun l => some (Row.row 1 l)) (by simp [int1, num, tru]), ?_⟩)⟩)
    · obtain rfl : k = f.blocks.length := by omega
      rw [← rootsL_zero]
      refine go 1000 Tryd.func5 ?_
      repeat' first | (refine Br.f ?_ ?_; focus (simp; done)) | refine Len.map ?_ | refine Len.nil ?_ | refine Len.cons ?_ | refine Br.t rfl ?_ | refine Br.f rfl ?_ | refine Fit.au ?_ | refine Cv.au ?_ | refine Need.ne ?_ | refine Need.au ?_ | refine Pick.map (by assumption) ?_ | refine Pick.mapI (by omega) (by assumption) ?_ | refine PickN.mk _ (by assumption) ?_ | refine PickN.mk _ rfl ?_ | refine PickN.au ?_ | refine App.au rfl ?_ | refine App.au (own_map (fun _ => rfl) _) ?_ | refine Both.mk ?_ ?_ | exact True.intro
      refine Stop.mk (loop_in (g := []) (fun r : Nat => [(1, .hp 1 0), (3, num n), (4, .hp 2 0), (5, factA f L F), (6, .hw 3), (8, num r)]) (fun r => [(3, .row 1 ((rootsL f r 0).map olst)), (2, .var f.cs), (1, .var p.cs), (0, .tab 0 vs)]) 4 (fun r => r ≤ f.regs.length) (fun r => f.regs.length - r) 0 (by omega) ⟨rfl, (by repeat' first | exact trivial | refine ⟨rfl, ?_⟩ | refine ⟨congrArg (fun n => AV.lit (.int .i64 n)) (by omega), ?_⟩ | refine ⟨congrArg (fun l => some (Row.row 1 l)) (by simp [int1, num, tru]), ?_⟩), (by repeat' first | exact trivial | refine ⟨rfl, ?_⟩ | refine ⟨congrArg (fun n => AV.lit (.int .i64 n)) (by omega), ?_⟩ | refine ⟨congrArg (fun l => some (Row.row 1 l)) (by simp [int1, num, tru]), ?_⟩)⟩ (fun r hr ih3 => ?_))
      by_cases hrl : r < f.regs.length
      · obtain ⟨v, gv, -⟩ := getK (l := f.regs) (k := r) hrl
        have ev : f.regs.getD (r : Int).toNat 0 = v := by rw [Int.toNat_natCast, List.getD_eq_getElem?_getD, gv]; rfl
        by_cases hv3 : v = 3
        · subst hv3
          have hSu := Sures19_spec f hR r
          have hRt := hR.root r
          have hrr := root_rng (hpro.1.2.2.2 f hfm) (hpro.2 f hfm) (x := (r : Int)) (by omega) (by omega)
          have hat : atB f r = decide ((newF f).root r = r) := by unfold atB; rw [ev]; simp
          have ih3' := @ih3 (r + 1)
          rw [← rootsL_end] at ih3'
          refine go 1000 Tryd.func5 ?_
          repeat' first | (refine Br.t ?_ ?_; focus (simp; omega)) | refine Pick.map gv ?_ | refine Call.eq hSu rfl ?_ | refine Len.map ?_ | refine Len.nil ?_ | refine Len.cons ?_ | refine Br.t rfl ?_ | refine Br.f rfl ?_ | refine Fit.au ?_ | refine Cv.au ?_ | refine Need.ne ?_ | refine Need.au ?_ | refine Pick.map (by assumption) ?_ | refine Pick.mapI (by omega) (by assumption) ?_ | refine PickN.mk _ (by assumption) ?_ | refine PickN.mk _ rfl ?_ | refine PickN.au ?_ | refine App.au rfl ?_ | refine App.au (own_map (fun _ => rfl) _) ?_ | refine Both.mk ?_ ?_ | exact True.intro
          refine Stop.mk ?_
          refine run_frzR 4 rfl (fzLL_map fz_otb _) ?_
          refine loop_in (g := []) (fun k : Nat => [(1, .hp 1 0), (3, num n), (4, .hp 2 0), (5, factA f L F), (6, .hw 3), (8, num r), (9, .sl false 1 ((sureL f r f.blocks.length).map fun l => [.sl false 1 (l.map tb)])), (10, num k)]) (fun k => [(3, .row 1 ((rootsL f r k).map olst)), (2, .var f.cs), (1, .var p.cs), (0, .tab 0 vs)]) 4 (fun k => k ≤ f.blocks.length) (fun k => f.blocks.length - k) 0 (by omega) ⟨rfl, (by repeat' first | exact trivial | refine ⟨rfl, ?_⟩ | refine ⟨congrArg (fun n => AV.lit (.int .i64 n)) (by omega), ?_⟩ | refine ⟨congrArg (fun l => some (Row.row 1 l)) (by simp [int1, num, tru]), ?_⟩), (by repeat' first | exact trivial | refine ⟨rfl, ?_⟩ | refine ⟨congrArg (fun n => AV.lit (.int .i64 n)) (by omega), ?_⟩ | refine ⟨congrArg (fun l => some (Row.row 1 l)) (by simp [int1, num, tru]), ?_⟩)⟩ (fun k hk ih5 => ?_)
          by_cases hkl3 : k < f.blocks.length
          · obtain ⟨bk, gb, hbm⟩ := getK (l := f.blocks) (k := k) hkl3
            have hbl := hR.len bk hbm
            have eb : f.blocks.getD k [] = bk := by rw [List.getD_eq_getElem?_getD, gb]; rfl
            have hA : FnSpec Tryd.prog 21 [funA f, num k, num 0, num r] (fun v => v = tru (nowB f k r 0)) := (Asked21_spec f hR k 0 r bk gb (Nat.zero_le _)).imp fun v ⟨c, e, hc⟩ => by
              rw [e]
              exact congrArg tru (Bool.eq_iff_iff.2 (hc.trans nowB_iff.symm))
            have gra := rootsL_at (m := r) hkl3
            have hset := rootsL_set (m := r) hkl3
            have hsame := rootsL_same (f := f) (m := r) (k := k)
            have hrl2 := rootsL_len f r k
            have hkl4 := rootsK_len f k r
            have gS := sureL_at (f := f) (x := (r : Int)) hkl3
            rw [eb] at gS
            apply join (fun _ : Unit => [(1, .hp 1 0), (3, num n), (4, .hp 2 0), (5, factA f L F), (6, .hw 3), (8, num r), (9, .sl false 1 ((sureL f r f.blocks.length).map fun l => [.sl false 1 (l.map tb)])), (10, num k), (11, num 0)]) (fun _ => [(3, .row 1 ((rootsL f r (k + 1)).map olst)), (2, .var f.cs), (1, .var p.cs), (0, .tab 0 vs)]) 4 (fun _ => True)
            · intro jn
              by_cases hrt : (newF f).root r = r
              · rw [decide_eq_true hrt] at hat
                cases hnow : nowB f k r 0 with
                | true =>
                  rw [hnow] at hA
                  have hrow : ((rootsL f r k).map olst).set k [.osl 1 ((rootsK f k r).map int1 ++ [[num r]])] = (rootsL f r (k + 1)).map olst := by
                    rw [← hset, List.map_set, rootsK_succ, hat, hnow, if_pos (show (true && true) = true from rfl)]
                    unfold olst
                    rw [List.map_append]; rfl
                  rw [← hrow] at jn
                  refine go 1000 Tryd.func5 ?_
                  repeat' first | (refine Br.t ?_ ?_; focus (first | (simp; omega) | (simp; done) | (simpa using hrt))) | refine Call.eq hRt rfl ?_ | refine Call.eq hA rfl ?_ | refine Need.mk ⟨by omega, by rw [List.length_map]; omega⟩ ?_ | refine PickN.map gra ?_ | refine Need.mk rfl ?_ | refine Len.map ?_ | refine Len.nil ?_ | refine Len.cons ?_ | refine Br.t rfl ?_ | refine Br.f rfl ?_ | refine Fit.au ?_ | refine Cv.au ?_ | refine Need.ne ?_ | refine Need.au ?_ | refine Pick.map (by assumption) ?_ | refine Pick.mapI (by omega) (by assumption) ?_ | refine PickN.mk _ (by assumption) ?_ | refine PickN.mk _ rfl ?_ | refine PickN.au ?_ | refine App.au rfl ?_ | refine App.au (own_map (fun _ => rfl) _) ?_ | refine Both.mk ?_ ?_ | exact True.intro
                  exact Stop.mk (jn () (g := []) _ _ _ ⟨rfl, (by repeat' first | exact trivial | refine ⟨rfl, ?_⟩ | refine ⟨congrArg (fun n => AV.lit (.int .i64 n)) (by omega), ?_⟩ | refine ⟨congrArg (fun l => some (Row.row 1 l)) (by simp [int1, num, tru]), ?_⟩), (by repeat' first | exact trivial | refine ⟨rfl, ?_⟩ | refine ⟨congrArg (fun n => AV.lit (.int .i64 n)) (by omega), ?_⟩ | refine ⟨congrArg (fun l => some (Row.row 1 l)) (by simp [int1, num, tru]), ?_⟩)⟩ trivial)
                | false =>
                  rw [hnow] at hA
                  rw [hsame (by rw [hnow]; simp)] at jn
                  refine go 1000 Tryd.func5 ?_
                  repeat' first | (refine Br.t ?_ ?_; focus (first | (simp; omega) | (simp; done) | (simpa using hrt))) | refine Call.eq hRt rfl ?_ | refine Call.eq hA rfl ?_ | refine Len.map ?_ | refine Len.nil ?_ | refine Len.cons ?_ | refine Br.t rfl ?_ | refine Br.f rfl ?_ | refine Fit.au ?_ | refine Cv.au ?_ | refine Need.ne ?_ | refine Need.au ?_ | refine Pick.map (by assumption) ?_ | refine Pick.mapI (by omega) (by assumption) ?_ | refine PickN.mk _ (by assumption) ?_ | refine PickN.mk _ rfl ?_ | refine PickN.au ?_ | refine App.au rfl ?_ | refine App.au (own_map (fun _ => rfl) _) ?_ | refine Both.mk ?_ ?_ | exact True.intro
                  exact Stop.mk (jn () (g := []) _ _ _ ⟨rfl, (by repeat' first | exact trivial | refine ⟨rfl, ?_⟩ | refine ⟨congrArg (fun n => AV.lit (.int .i64 n)) (by omega), ?_⟩ | refine ⟨congrArg (fun l => some (Row.row 1 l)) (by simp [int1, num, tru]), ?_⟩), (by repeat' first | exact trivial | refine ⟨rfl, ?_⟩ | refine ⟨congrArg (fun n => AV.lit (.int .i64 n)) (by omega), ?_⟩ | refine ⟨congrArg (fun l => some (Row.row 1 l)) (by simp [int1, num, tru]), ?_⟩)⟩ trivial)
              · rw [decide_eq_false hrt] at hat
                rw [hsame (by rw [hat]; simp)] at jn
                refine go 1000 Tryd.func5 ?_
                repeat' first | (refine Br.t ?_ ?_; focus (simp; omega)) | (refine Br.f ?_ ?_; focus (first | (simp; done) | simpa using hrt)) | refine Call.eq hRt rfl ?_ | refine Len.map ?_ | refine Len.nil ?_ | refine Len.cons ?_ | refine Br.t rfl ?_ | refine Br.f rfl ?_ | refine Fit.au ?_ | refine Cv.au ?_ | refine Need.ne ?_ | refine Need.au ?_ | refine Pick.map (by assumption) ?_ | refine Pick.mapI (by omega) (by assumption) ?_ | refine PickN.mk _ (by assumption) ?_ | refine PickN.mk _ rfl ?_ | refine PickN.au ?_ | refine App.au rfl ?_ | refine App.au (own_map (fun _ => rfl) _) ?_ | refine Both.mk ?_ ?_ | exact True.intro
                exact Stop.mk (jn () (g := []) _ _ _ ⟨rfl, (by repeat' first | exact trivial | refine ⟨rfl, ?_⟩ | refine ⟨congrArg (fun n => AV.lit (.int .i64 n)) (by omega), ?_⟩ | refine ⟨congrArg (fun l => some (Row.row 1 l)) (by simp [int1, num, tru]), ?_⟩), (by repeat' first | exact trivial | refine ⟨rfl, ?_⟩ | refine ⟨congrArg (fun n => AV.lit (.int .i64 n)) (by omega), ?_⟩ | refine ⟨congrArg (fun l => some (Row.row 1 l)) (by simp [int1, num, tru]), ?_⟩)⟩ trivial)
            rintro _ _
            refine loop_in (g := []) (fun a : Nat => [(1, .hp 1 0), (3, num n), (4, .hp 2 0), (5, factA f L F), (6, .hw 3), (8, num r), (9, .sl false 1 ((sureL f r f.blocks.length).map fun l => [.sl false 1 (l.map tb)])), (10, num k), (11, num a)]) (fun _ => [(3, .row 1 ((rootsL f r (k + 1)).map olst)), (2, .var f.cs), (1, .var p.cs), (0, .tab 0 vs)]) 4 (fun a => a ≤ bk.length + 1) (fun a => bk.length + 1 - a) 0 (by omega) ⟨rfl, (by repeat' first | exact trivial | refine ⟨rfl, ?_⟩ | refine ⟨congrArg (fun n => AV.lit (.int .i64 n)) (by omega), ?_⟩ | refine ⟨congrArg (fun l => some (Row.row 1 l)) (by simp [int1, num, tru]), ?_⟩), (by repeat' first | exact trivial | refine ⟨rfl, ?_⟩ | refine ⟨congrArg (fun n => AV.lit (.int .i64 n)) (by omega), ?_⟩ | refine ⟨congrArg (fun l => some (Row.row 1 l)) (by simp [int1, num, tru]), ?_⟩)⟩ (fun a ha ih6 => ?_)
            by_cases hal : a ≤ bk.length
            · have hSs := Sure18_spec f hR.toNilW L hL hs k r a bk gb gv hal hrr
              have gB := sureRow_at (f := f) (x := (r : Int)) (k := k) (n := bk.length + 1) (a := a) (by omega)
              refine go 1000 Tryd.func5 ?_
              repeat' first | (refine Br.t ?_ ?_; focus (simp; omega)) | refine Draw.mk (ordL [4] [0, 1, 2, 3, 5, 6, 7, 8, 9, 10, 11, 4, 12]) (by decide +kernel) ?_ | refine Draw.mk (ordL [2, 7] [0, 1, 3, 4, 5, 6, 2, 7, 8]) (by decide +kernel) ?_ | refine Pick.map gb ?_ | refine Pick.map gS ?_ | refine Pick.map gB ?_ | refine Call.eq hSs rfl ?_ | (refine Br.f ?_ ?_; focus (simp; done)) | refine Len.map ?_ | refine Len.nil ?_ | refine Len.cons ?_ | refine Br.t rfl ?_ | refine Br.f rfl ?_ | refine Fit.au ?_ | refine Cv.au ?_ | refine Need.ne ?_ | refine Need.au ?_ | refine Pick.map (by assumption) ?_ | refine Pick.mapI (by omega) (by assumption) ?_ | refine PickN.mk _ (by assumption) ?_ | refine PickN.mk _ rfl ?_ | refine PickN.au ?_ | refine App.au rfl ?_ | refine App.au (own_map (fun _ => rfl) _) ?_ | refine Both.mk ?_ ?_ | exact True.intro
              all_goals exact Stop.mk (ih6 (a + 1) (g := []) _ _ _ (by omega) (by omega) ⟨rfl, (by repeat' first | exact trivial | refine ⟨rfl, ?_⟩ | refine ⟨congrArg (fun n => AV.lit (.int .i64 n)) (by omega), ?_⟩ | refine ⟨congrArg (fun l => some (Row.row 1 l)) (by simp [int1, num, tru]), ?_⟩), (by repeat' first | exact trivial | refine ⟨rfl, ?_⟩ | refine ⟨congrArg (fun n => AV.lit (.int .i64 n)) (by omega), ?_⟩ | refine ⟨congrArg (fun l => some (Row.row 1 l)) (by simp [int1, num, tru]), ?_⟩)⟩)
            · refine go 1000 Tryd.func5 ?_
              repeat' first | (refine Br.f ?_ ?_; focus (rw [decide_eq_false_iff_not]; omega)) | refine Pick.map gb ?_ | refine Len.map ?_ | refine Len.nil ?_ | refine Len.cons ?_ | refine Br.t rfl ?_ | refine Br.f rfl ?_ | refine Fit.au ?_ | refine Cv.au ?_ | refine Need.ne ?_ | refine Need.au ?_ | refine Pick.map (by assumption) ?_ | refine Pick.mapI (by omega) (by assumption) ?_ | refine PickN.mk _ (by assumption) ?_ | refine PickN.mk _ rfl ?_ | refine PickN.au ?_ | refine App.au rfl ?_ | refine App.au (own_map (fun _ => rfl) _) ?_ | refine Both.mk ?_ ?_ | exact True.intro
              exact Stop.mk (ih5 (k + 1) (g := []) _ _ _ (by omega) (by omega) ⟨rfl, (by repeat' first | exact trivial | refine ⟨rfl, ?_⟩ | refine ⟨congrArg (fun n => AV.lit (.int .i64 n)) (by omega), ?_⟩ | refine ⟨congrArg (fun l => some (Row.row 1 l)) (by simp [int1, num, tru]), ?_⟩), (by repeat' first | exact trivial | refine ⟨rfl, ?_⟩ | refine ⟨congrArg (fun n => AV.lit (.int .i64 n)) (by omega), ?_⟩ | refine ⟨congrArg (fun l => some (Row.row 1 l)) (by simp [int1, num, tru]), ?_⟩)⟩)
          · obtain rfl : k = f.blocks.length := by omega
            refine go 1000 Tryd.func5 ?_
            repeat' first | (refine Br.f ?_ ?_; focus (simp; done)) | refine Len.map ?_ | refine Len.nil ?_ | refine Len.cons ?_ | refine Br.t rfl ?_ | refine Br.f rfl ?_ | refine Fit.au ?_ | refine Cv.au ?_ | refine Need.ne ?_ | refine Need.au ?_ | refine Pick.map (by assumption) ?_ | refine Pick.mapI (by omega) (by assumption) ?_ | refine PickN.mk _ (by assumption) ?_ | refine PickN.mk _ rfl ?_ | refine PickN.au ?_ | refine App.au rfl ?_ | refine App.au (own_map (fun _ => rfl) _) ?_ | refine Both.mk ?_ ?_ | exact True.intro
            exact Stop.mk (ih3' (g := []) _ _ _ (by omega) (by omega) ⟨rfl, (by repeat' first | exact trivial | refine ⟨rfl, ?_⟩ | refine ⟨congrArg (fun n => AV.lit (.int .i64 n)) (by omega), ?_⟩ | refine ⟨congrArg (fun l => some (Row.row 1 l)) (by simp [int1, num, tru]), ?_⟩), (by repeat' first | exact trivial | refine ⟨rfl, ?_⟩ | refine ⟨congrArg (fun n => AV.lit (.int .i64 n)) (by omega), ?_⟩ | refine ⟨congrArg (fun l => some (Row.row 1 l)) (by simp [int1, num, tru]), ?_⟩)⟩)
        · have hblk0 : 0 < f.blocks.length := List.length_pos_iff.2 (hpro.1.2.2.2 f hfm).1.2.2
          have hSa := Sure18_arr f hR.toNilW L hL hs 0 r hblk0 v gv hv3 0
          have ih3' := @ih3 (r + 1)
          rw [rootsL_skip (show atB f r = false by unfold atB; rw [ev]; simp [hv3])] at ih3'
          refine go 1000 Tryd.func5 ?_
          repeat' first | (refine Br.t ?_ ?_; focus (first | (simp; omega) | (simp; done) | (simpa using hv3))) | refine Pick.map gv ?_ | refine Call.eq hSa rfl ?_ | refine Len.map ?_ | refine Len.nil ?_ | refine Len.cons ?_ | refine Br.t rfl ?_ | refine Br.f rfl ?_ | refine Fit.au ?_ | refine Cv.au ?_ | refine Need.ne ?_ | refine Need.au ?_ | refine Pick.map (by assumption) ?_ | refine Pick.mapI (by omega) (by assumption) ?_ | refine PickN.mk _ (by assumption) ?_ | refine PickN.mk _ rfl ?_ | refine PickN.au ?_ | refine App.au rfl ?_ | refine App.au (own_map (fun _ => rfl) _) ?_ | refine Both.mk ?_ ?_ | exact True.intro
          exact Stop.mk (ih3' (g := []) _ _ _ (by omega) (by omega) ⟨rfl, (by repeat' first | exact trivial | refine ⟨rfl, ?_⟩ | refine ⟨congrArg (fun n => AV.lit (.int .i64 n)) (by omega), ?_⟩ | refine ⟨congrArg (fun l => some (Row.row 1 l)) (by simp [int1, num, tru]), ?_⟩), (by repeat' first | exact trivial | refine ⟨rfl, ?_⟩ | refine ⟨congrArg (fun n => AV.lit (.int .i64 n)) (by omega), ?_⟩ | refine ⟨congrArg (fun l => some (Row.row 1 l)) (by simp [int1, num, tru]), ?_⟩)⟩)
      · obtain rfl : r = f.regs.length := by omega
        refine go 1000 Tryd.func5 ?_
        repeat' first | (refine Br.f ?_ ?_; focus (simp; done)) | refine Len.map ?_ | refine Len.nil ?_ | refine Len.cons ?_ | refine Br.t rfl ?_ | refine Br.f rfl ?_ | refine Fit.au ?_ | refine Cv.au ?_ | refine Need.ne ?_ | refine Need.au ?_ | refine Pick.map (by assumption) ?_ | refine Pick.mapI (by omega) (by assumption) ?_ | refine PickN.mk _ (by assumption) ?_ | refine PickN.mk _ rfl ?_ | refine PickN.au ?_ | refine App.au rfl ?_ | refine App.au (own_map (fun _ => rfl) _) ?_ | refine Both.mk ?_ ?_ | exact True.intro
        refine Stop.mk ?_
        refine run_frzR 3 rfl (fzLL_map fz_olsts _) ?_
        refine loop_in (g := []) (fun k : Nat => [(1, .hp 1 0), (3, num n), (4, .hp 2 0), (5, factA f L F), (6, lsts (rootsL f f.regs.length 0)), (12, num k)]) (fun k => [(2, .var f.cs), (1, .var p.cs), (0, .tab 0 vs)]) 3 (fun k => k ≤ f.blocks.length) (fun k => f.blocks.length - k) 0 (by omega) ⟨rfl, (by repeat' first | exact trivial | refine ⟨rfl, ?_⟩ | refine ⟨congrArg (fun n => AV.lit (.int .i64 n)) (by omega), ?_⟩ | refine ⟨congrArg (fun l => some (Row.row 1 l)) (by simp [int1, num, tru]), ?_⟩), (by repeat' first | exact trivial | refine ⟨rfl, ?_⟩ | refine ⟨congrArg (fun n => AV.lit (.int .i64 n)) (by omega), ?_⟩ | refine ⟨congrArg (fun l => some (Row.row 1 l)) (by simp [int1, num, tru]), ?_⟩)⟩ (fun k hk ih4 => ?_)
        unfold lsts
        by_cases hkl2 : k < f.blocks.length
        · obtain ⟨s, gF, hFm⟩ := getK (l := F) (k := k) (by omega)
          have hsl := (hs.lowF s hFm).1
          have har := at_roots hR.toNilOK hs hkl2 gF
          have hbits : ∀ q ∈ listW s, 0 ≤ q ∧ q < f.regs.length := fun q hq => by
            unfold listW at hq
            rw [listN_eq] at hq
            obtain ⟨x, hx, rfl⟩ := List.mem_map.1 hq
            have h2 := (hs.lowF s hFm).2 x (List.mem_filter.1 hx).2
            have h3 : x < f.regs.length := h2
            omega
          have hAt := At23_specT f L F hfr k s gF (by omega) (hL k hkl2) hsl hbits vs hv
          rw [har] at hAt
          have gR : (rootsL f f.regs.length 0)[k]? = some (rootsK f k f.regs.length) := by
            unfold rootsL
            rw [List.getElem?_map, List.getElem?_range hkl2]; simp
          have hrk := rootsK_len f k f.regs.length
          have hSI := SameInts_spec (rootsK f k f.regs.length) (rootsK f k f.regs.length) (by omega)
          rw [decide_eq_true rfl] at hSI
          refine go 1000 Tryd.func5 ?_
          repeat' first | (refine Br.t ?_ ?_; focus (simp; omega)) | refine Draw.mk (ordL [4] [0, 1, 2, 3, 5, 6, 7, 8, 9, 10, 11, 4, 12]) (by decide +kernel) ?_ | refine Draw.mk (ordL [2, 7] [0, 1, 3, 4, 5, 6, 2, 7, 8]) (by decide +kernel) ?_ | refine Pick.map gR ?_ | refine Call.eqT hAt rfl ?_ | refine Look.yes ?_ | refine View.map (fun _ => rfl) ?_ | refine CallV.eq hSI rfl (Free.lit _) ?_ | refine Len.map ?_ | refine Len.nil ?_ | refine Len.cons ?_ | refine Br.t rfl ?_ | refine Br.f rfl ?_ | refine Fit.au ?_ | refine Cv.au ?_ | refine Need.ne ?_ | refine Need.au ?_ | refine Pick.map (by assumption) ?_ | refine Pick.mapI (by omega) (by assumption) ?_ | refine PickN.mk _ (by assumption) ?_ | refine PickN.mk _ rfl ?_ | refine PickN.au ?_ | refine App.au rfl ?_ | refine App.au (own_map (fun _ => rfl) _) ?_ | refine Both.mk ?_ ?_ | exact True.intro
          all_goals refine Stop.mk (ih4 (k + 1) (g := []) _ _ _ (by omega) (by omega) ?_)
          all_goals unfold lsts
          all_goals exact ⟨rfl, (by repeat' first | exact trivial | refine ⟨rfl, ?_⟩ | refine ⟨congrArg (fun n => AV.lit (.int .i64 n)) (by omega), ?_⟩ | refine ⟨congrArg (fun l => some (Row.row 1 l)) (by simp [int1, num, tru]), ?_⟩), (by repeat' first | exact trivial | refine ⟨rfl, ?_⟩ | refine ⟨congrArg (fun n => AV.lit (.int .i64 n)) (by omega), ?_⟩ | refine ⟨congrArg (fun l => some (Row.row 1 l)) (by simp [int1, num, tru]), ?_⟩)⟩
        · refine go 1000 Tryd.func5 ?_
          repeat' first | (refine Br.f ?_ ?_; focus (simp; omega)) | refine Len.map ?_ | refine Len.nil ?_ | refine Len.cons ?_ | refine Br.t rfl ?_ | refine Br.f rfl ?_ | refine Fit.au ?_ | refine Cv.au ?_ | refine Need.ne ?_ | refine Need.au ?_ | refine Pick.map (by assumption) ?_ | refine Pick.mapI (by omega) (by assumption) ?_ | refine PickN.mk _ (by assumption) ?_ | refine PickN.mk _ rfl ?_ | refine PickN.au ?_ | refine App.au rfl ?_ | refine App.au (own_map (fun _ => rfl) _) ?_ | refine Both.mk ?_ ?_ | exact True.intro
          exact Stop.mk (ih (n + 1) (g := []) _ _ _ (by omega) (by omega) ⟨rfl, (by repeat' first | exact trivial | refine ⟨rfl, ?_⟩ | refine ⟨congrArg (fun n => AV.lit (.int .i64 n)) (by omega), ?_⟩ | refine ⟨congrArg (fun l => some (Row.row 1 l)) (by simp [int1, num, tru]), ?_⟩), (by repeat' first | exact trivial | refine ⟨rfl, ?_⟩ | refine ⟨congrArg (fun n => AV.lit (.int .i64 n)) (by omega), ?_⟩ | refine ⟨congrArg (fun l => some (Row.row 1 l)) (by simp [int1, num, tru]), ?_⟩)⟩)
  · obtain rfl : n = p.funcs.length := by omega
    refine go 1000 Tryd.func5 ?_
    repeat' first | (refine Br.f ?_ ?_; focus (simp; done)) | refine Call.eq hW rfl ?_ | refine Len.map ?_ | refine Len.nil ?_ | refine Len.cons ?_ | refine Br.t rfl ?_ | refine Br.f rfl ?_ | refine Fit.au ?_ | refine Cv.au ?_ | refine Need.ne ?_ | refine Need.au ?_ | refine Pick.map (by assumption) ?_ | refine Pick.mapI (by omega) (by assumption) ?_ | refine PickN.mk _ (by assumption) ?_ | refine PickN.mk _ rfl ?_ | refine PickN.au ?_ | refine App.au rfl ?_ | refine App.au (own_map (fun _ => rfl) _) ?_ | refine Both.mk ?_ ?_ | exact True.intro
    rfl
end Go.Proofs.YtdgibhndjdgllaaDoor
