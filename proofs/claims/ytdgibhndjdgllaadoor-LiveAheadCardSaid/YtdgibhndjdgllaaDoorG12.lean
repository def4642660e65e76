/- live.over in line. -/
import Derived.Test.YtdgibhndjdgllaaDoorG11
import Derived.Test.YtdgibhndjdgllaaDoorG09
set_option linter.unusedVariables false
set_option linter.unusedSimpArgs false

namespace Go.Proofs.YtdgibhndjdgllaaDoor
open Go.Ax
set_option maxRecDepth 10000
set_option linter.unusedVariables false
set_option maxHeartbeats 0

noncomputable def rest37 (n : Nat) : Code := sndN n (Tryd.f37.body.getD .skip)
def probV (f : Fun) : List AV := [.osl 1 ((succsF f).map olst), tru true, tru false, num f.regs.length, .hw 3, .hw 4, .osl 1 ((newW f.regs.length).map u1)]
theorem overG_run (i : Ins) (n : Nat) (hi : i.fits) (ha : i.args.length ≤ 1000000) (h44 : i.op ≠ 44) (hb : InsB n i) (hn : n ≤ 65536) (s : List W) (b : List W) (f : Fun) (G K2 : List (List W)) (hs : s.length ≤ 1000000) {K : AV → HP → Nat → Prop}
    (h : K (asRes []) [(8, .row 1 ((usesF i).map int1)), (7, .var i.cs), (5, rowW (overW i s)), (6, rowW b), (2, .var (probV f)), (3, .row 1 (G.map oset)), (4, .row 1 (K2.map oset)), (0, .var f.cs), (1, .var [nil0, nil0])] 9) :
    Run Tryd.prog 37 (Post.inl 7 K) [.code (Tryd.f37.body.getD .skip)] ⟨slots 0 [insA i, .hw 5], [(5, rowW s), (6, rowW b), (2, .var (probV f)), (3, .row 1 (G.map oset)), (4, .row 1 (K2.map oset)), (0, .var f.cs), (1, .var [nil0, nil0])], 7, Tryd.f37.ntmps⟩ := by
  have hD := Def_spec i hi
  have hU := Uses133_spec i ha
  have hul : (usesF i).length ≤ i.args.length + 3 := usesF_len i
  obtain ⟨s0, hs0⟩ : ∃ s0, s0 = if 0 ≤ defF i then dropW s (defF i).toNat else s := ⟨_, rfl⟩
  have hl0 : s0.length = s.length := by rw [hs0]; split <;> first | exact dropW_len _ _ | rfl
  have hov : overW i s = putsW s0 (usesF i) := by rw [hs0]; rfl
  apply join (fun _ : Unit => [(1, .hw 5), (2, .hp 7 0)]) (fun _ => [(7, .var i.cs), (5, rowW s0), (6, rowW b), (2, .var (probV f)), (3, .row 1 (G.map oset)), (4, .row 1 (K2.map oset)), (0, .var f.cs), (1, .var [nil0, nil0])]) 8 (fun _ => True) (todo' := [.code (rest37 2)])
  · intro jn
    by_cases hd : 0 ≤ defF i
    · obtain ⟨d, hdd⟩ := Int.eq_ofNat_of_zero_le hd
      rw [if_pos hd, hdd, Int.toNat_natCast] at hs0
      refine goI 20 Tryd.func37 ?_
      repeat' first | refine Call.eq hD rfl ?_ | refine Br.t (by simp; omega) ?_ | refine Len.map ?_ | refine Len.nil ?_ | refine Len.cons ?_ | refine Br.t rfl ?_ | refine Br.f rfl ?_ | refine Fit.au ?_ | refine Cv.au ?_ | refine Need.ne ?_ | refine Need.au ?_ | refine Pick.map (by assumption) ?_ | refine Pick.mapI (by omega) (by assumption) ?_ | refine PickN.mk _ (by assumption) ?_ | refine PickN.mk _ rfl ?_ | refine PickN.au ?_ | refine App.au rfl ?_ | refine App.au (own_map (fun _ => rfl) _) ?_ | refine Both.mk ?_ ?_ | exact True.intro
      rw [hdd]
      refine Stop.mk ?_
      refine run_inlC rfl want_none rfl rfl rfl rfl rfl rfl rfl (dropG_run s d b (G.map oset) (K2.map oset) (probV f) f.cs [nil0, nil0] i.cs hs (by have := hb.1; omega) (fun e _ => ?_) (fun _ => ?_))
      · rw [e] at hs0
        subst hs0
        refine goI 1 Tryd.func37 ?_
        repeat' first | refine Len.map ?_ | refine Len.nil ?_ | refine Len.cons ?_ | refine Br.t rfl ?_ | refine Br.f rfl ?_ | refine Fit.au ?_ | refine Cv.au ?_ | refine Need.ne ?_ | refine Need.au ?_ | refine Pick.map (by assumption) ?_ | refine Pick.mapI (by omega) (by assumption) ?_ | refine PickN.mk _ (by assumption) ?_ | refine PickN.mk _ rfl ?_ | refine PickN.au ?_ | refine App.au rfl ?_ | refine App.au (own_map (fun _ => rfl) _) ?_ | refine Both.mk ?_ ?_ | exact True.intro
        exact Stop.mk (jn () (g := []) _ _ _ ⟨rfl, (by repeat' first | exact trivial | refine ⟨rfl, ?_⟩ | refine ⟨congrArg (fun n => AV.lit (.int .i64 n)) (by omega), ?_⟩ | refine ⟨congrArg (fun l => some (Row.row 1 l)) (by simp [int1, num, tru]), ?_⟩), (by repeat' first | exact trivial | refine ⟨rfl, ?_⟩ | refine ⟨congrArg (fun n => AV.lit (.int .i64 n)) (by omega), ?_⟩ | refine ⟨congrArg (fun l => some (Row.row 1 l)) (by simp [int1, num, tru]), ?_⟩)⟩ trivial)
      · subst hs0
        refine goI 1 Tryd.func37 ?_
        repeat' first | refine Len.map ?_ | refine Len.nil ?_ | refine Len.cons ?_ | refine Br.t rfl ?_ | refine Br.f rfl ?_ | refine Fit.au ?_ | refine Cv.au ?_ | refine Need.ne ?_ | refine Need.au ?_ | refine Pick.map (by assumption) ?_ | refine Pick.mapI (by omega) (by assumption) ?_ | refine PickN.mk _ (by assumption) ?_ | refine PickN.mk _ rfl ?_ | refine PickN.au ?_ | refine App.au rfl ?_ | refine App.au (own_map (fun _ => rfl) _) ?_ | refine Both.mk ?_ ?_ | exact True.intro
        exact Stop.mk (jn () (g := []) _ _ _ ⟨rfl, (by repeat' first | exact trivial | refine ⟨rfl, ?_⟩ | refine ⟨congrArg (fun n => AV.lit (.int .i64 n)) (by omega), ?_⟩ | refine ⟨congrArg (fun l => some (Row.row 1 l)) (by simp [int1, num, tru]), ?_⟩), (by repeat' first | exact trivial | refine ⟨rfl, ?_⟩ | refine ⟨congrArg (fun n => AV.lit (.int .i64 n)) (by omega), ?_⟩ | refine ⟨congrArg (fun l => some (Row.row 1 l)) (by simp [int1, num, tru]), ?_⟩)⟩ trivial)
    · rw [if_neg hd] at hs0
      subst hs0
      refine goI 18 Tryd.func37 ?_
      repeat' first | refine Call.eq hD rfl ?_ | refine Br.f (by simp; omega) ?_ | refine Len.map ?_ | refine Len.nil ?_ | refine Len.cons ?_ | refine Br.t rfl ?_ | refine Br.f rfl ?_ | refine Fit.au ?_ | refine Cv.au ?_ | refine Need.ne ?_ | refine Need.au ?_ | refine Pick.map (by assumption) ?_ | refine Pick.mapI (by omega) (by assumption) ?_ | refine PickN.mk _ (by assumption) ?_ | refine PickN.mk _ rfl ?_ | refine PickN.au ?_ | refine App.au rfl ?_ | refine App.au (own_map (fun _ => rfl) _) ?_ | refine Both.mk ?_ ?_ | exact True.intro
      exact Stop.mk (jn () (g := []) _ _ _ ⟨rfl, (by repeat' first | exact trivial | refine ⟨rfl, ?_⟩ | refine ⟨congrArg (fun n => AV.lit (.int .i64 n)) (by omega), ?_⟩ | refine ⟨congrArg (fun l => some (Row.row 1 l)) (by simp [int1, num, tru]), ?_⟩), (by repeat' first | exact trivial | refine ⟨rfl, ?_⟩ | refine ⟨congrArg (fun n => AV.lit (.int .i64 n)) (by omega), ?_⟩ | refine ⟨congrArg (fun l => some (Row.row 1 l)) (by simp [int1, num, tru]), ?_⟩)⟩ trivial)
  rintro _ _
  unfold rest37
  refine goI 1000 Tryd.func37 ?_
  repeat' first | refine Br.f (by simpa using h44) ?_ | refine Call.eq hU rfl ?_ | refine Len.map ?_ | refine Len.nil ?_ | refine Len.cons ?_ | refine Br.t rfl ?_ | refine Br.f rfl ?_ | refine Fit.au ?_ | refine Cv.au ?_ | refine Need.ne ?_ | refine Need.au ?_ | refine Pick.map (by assumption) ?_ | refine Pick.mapI (by omega) (by assumption) ?_ | refine PickN.mk _ (by assumption) ?_ | refine PickN.mk _ rfl ?_ | refine PickN.au ?_ | refine App.au rfl ?_ | refine App.au (own_map (fun _ => rfl) _) ?_ | refine Both.mk ?_ ?_ | exact True.intro
  refine Stop.mk (loop_in (g := []) (fun k : Nat => [(1, .hw 5), (18, .hw 8), (19, num (usesF i).length), (20, num k)]) (fun k => [(8, .row 1 ((usesF i).map int1)), (7, .var i.cs), (5, rowW (putsW s0 ((usesF i).take k))), (6, rowW b), (2, .var (probV f)), (3, .row 1 (G.map oset)), (4, .row 1 (K2.map oset)), (0, .var f.cs), (1, .var [nil0, nil0])]) 9 (fun k => k ≤ (usesF i).length) (fun k => (usesF i).length - k) 0 (by omega) ⟨rfl, (by repeat' first | exact trivial | refine ⟨rfl, ?_⟩ | refine ⟨congrArg (fun n => AV.lit (.int .i64 n)) (by omega), ?_⟩ | refine ⟨congrArg (fun l => some (Row.row 1 l)) (by simp [int1, num, tru]), ?_⟩), (by repeat' first | exact trivial | refine ⟨rfl, ?_⟩ | refine ⟨congrArg (fun n => AV.lit (.int .i64 n)) (by omega), ?_⟩ | refine ⟨congrArg (fun l => some (Row.row 1 l)) (by simp [int1, num, tru]), ?_⟩)⟩ (fun k hk ih => ?_))
  have hlk : (putsW s0 ((usesF i).take k)).length = s.length := putsW_len.trans hl0
  by_cases h2 : k < (usesF i).length
  · obtain ⟨u, gu, hum⟩ := getK (l := usesF i) (k := k) h2
    have hub := hb.2 u hum
    obtain ⟨j, hj⟩ := Int.eq_ofNat_of_zero_le hub.1
    have hst := putsW_take (s := s0) gu
    rw [hj, Int.toNat_natCast] at hst
    refine goI 18 Tryd.func37 ?_
    repeat' first | refine Br.t (by simp; omega) ?_ | refine Need.mk ⟨by omega, by rw [List.length_map]; omega⟩ ?_ | refine PickN.map gu ?_ | refine Len.map ?_ | refine Len.nil ?_ | refine Len.cons ?_ | refine Br.t rfl ?_ | refine Br.f rfl ?_ | refine Fit.au ?_ | refine Cv.au ?_ | refine Need.ne ?_ | refine Need.au ?_ | refine Pick.map (by assumption) ?_ | refine Pick.mapI (by omega) (by assumption) ?_ | refine PickN.mk _ (by assumption) ?_ | refine PickN.mk _ rfl ?_ | refine PickN.au ?_ | refine App.au rfl ?_ | refine App.au (own_map (fun _ => rfl) _) ?_ | refine Both.mk ?_ ?_ | exact True.intro
    rw [hj]
    refine Stop.mk ?_
    refine run_inlC rfl want_none rfl rfl rfl rfl rfl rfl rfl (putG_run _ j b (G.map oset) (K2.map oset) (probV f) f.cs [nil0, nil0] i.cs ((usesF i).map int1) (by omega) (by omega) (fun e _ => ?_) (fun _ => ?_))
    · refine goI 1000 Tryd.func37 ?_
      repeat' first | refine Len.map ?_ | refine Len.nil ?_ | refine Len.cons ?_ | refine Br.t rfl ?_ | refine Br.f rfl ?_ | refine Fit.au ?_ | refine Cv.au ?_ | refine Need.ne ?_ | refine Need.au ?_ | refine Pick.map (by assumption) ?_ | refine Pick.mapI (by omega) (by assumption) ?_ | refine PickN.mk _ (by assumption) ?_ | refine PickN.mk _ rfl ?_ | refine PickN.au ?_ | refine App.au rfl ?_ | refine App.au (own_map (fun _ => rfl) _) ?_ | refine Both.mk ?_ ?_ | exact True.intro
      rw [← e, ← hst]
      exact Stop.mk (ih (k + 1) (g := []) _ _ _ (by omega) (by omega) ⟨rfl, (by repeat' first | exact trivial | refine ⟨rfl, ?_⟩ | refine ⟨congrArg (fun n => AV.lit (.int .i64 n)) (by omega), ?_⟩ | refine ⟨congrArg (fun l => some (Row.row 1 l)) (by simp [int1, num, tru]), ?_⟩), (by repeat' first | exact trivial | refine ⟨rfl, ?_⟩ | refine ⟨congrArg (fun n => AV.lit (.int .i64 n)) (by omega), ?_⟩ | refine ⟨congrArg (fun l => some (Row.row 1 l)) (by simp [int1, num, tru]), ?_⟩)⟩)
    · refine goI 1000 Tryd.func37 ?_
      repeat' first | refine Len.map ?_ | refine Len.nil ?_ | refine Len.cons ?_ | refine Br.t rfl ?_ | refine Br.f rfl ?_ | refine Fit.au ?_ | refine Cv.au ?_ | refine Need.ne ?_ | refine Need.au ?_ | refine Pick.map (by assumption) ?_ | refine Pick.mapI (by omega) (by assumption) ?_ | refine PickN.mk _ (by assumption) ?_ | refine PickN.mk _ rfl ?_ | refine PickN.au ?_ | refine App.au rfl ?_ | refine App.au (own_map (fun _ => rfl) _) ?_ | refine Both.mk ?_ ?_ | exact True.intro
      rw [← hst]
      exact Stop.mk (ih (k + 1) (g := []) _ _ _ (by omega) (by omega) ⟨rfl, (by repeat' first | exact trivial | refine ⟨rfl, ?_⟩ | refine ⟨congrArg (fun n => AV.lit (.int .i64 n)) (by omega), ?_⟩ | refine ⟨congrArg (fun l => some (Row.row 1 l)) (by simp [int1, num, tru]), ?_⟩), (by repeat' first | exact trivial | refine ⟨rfl, ?_⟩ | refine ⟨congrArg (fun n => AV.lit (.int .i64 n)) (by omega), ?_⟩ | refine ⟨congrArg (fun l => some (Row.row 1 l)) (by simp [int1, num, tru]), ?_⟩)⟩)
  · obtain rfl : k = (usesF i).length := by omega
    rw [hov]at h
    refine goI 1000 Tryd.func37 ?_
    repeat' first | refine Br.f (by simp) ?_ | refine Len.map ?_ | refine Len.nil ?_ | refine Len.cons ?_ | refine Br.t rfl ?_ | refine Br.f rfl ?_ | refine Fit.au ?_ | refine Cv.au ?_ | refine Need.ne ?_ | refine Need.au ?_ | refine Pick.map (by assumption) ?_ | refine Pick.mapI (by omega) (by assumption) ?_ | refine PickN.mk _ (by assumption) ?_ | refine PickN.mk _ rfl ?_ | refine PickN.au ?_ | refine App.au rfl ?_ | refine App.au (own_map (fun _ => rfl) _) ?_ | refine Both.mk ?_ ?_ | exact True.intro
    rw [List.take_length]
    exact h
theorem overA_run (i : Ins) (n : Nat) (hi : i.fits) (ha : i.args.length ≤ 1000000) (h44 : i.op ≠ 44) (hb : InsB n i) (hn : n ≤ 65536) (s : List W) (f : Fun) (hs : s.length ≤ 1000000) {K : AV → HP → Nat → Prop}
    (h : K (asRes []) [(4, .row 1 ((usesF i).map int1)), (3, .var i.cs), (2, rowW (overW i s)), (0, .var f.cs)] 5) :
    Run Tryd.prog 37 (Post.inl 3 K) [.code (Tryd.f37.body.getD .skip)] ⟨slots 0 [insA i, .hw 2], [(2, rowW s), (0, .var f.cs)], 3, Tryd.f37.ntmps⟩ := by
  have hD := Def_spec i hi
  have hU := Uses133_spec i ha
  have hul : (usesF i).length ≤ i.args.length + 3 := usesF_len i
  obtain ⟨s0, hs0⟩ : ∃ s0, s0 = if 0 ≤ defF i then dropW s (defF i).toNat else s := ⟨_, rfl⟩
  have hl0 : s0.length = s.length := by rw [hs0]; split <;> first | exact dropW_len _ _ | rfl
  have hov : overW i s = putsW s0 (usesF i) := by rw [hs0]; rfl
  apply join (fun _ : Unit => [(1, .hw 2), (2, .hp 3 0)]) (fun _ => [(3, .var i.cs), (2, rowW s0), (0, .var f.cs)]) 4 (fun _ => True) (todo' := [.code (rest37 2)])
  · intro jn
    by_cases hd : 0 ≤ defF i
    · obtain ⟨d, hdd⟩ := Int.eq_ofNat_of_zero_le hd
      rw [if_pos hd, hdd, Int.toNat_natCast] at hs0
      refine goI 20 Tryd.func37 ?_
      repeat' first | refine Call.eq hD rfl ?_ | refine Br.t (by simp; omega) ?_ | refine Len.map ?_ | refine Len.nil ?_ | refine Len.cons ?_ | refine Br.t rfl ?_ | refine Br.f rfl ?_ | refine Fit.au ?_ | refine Cv.au ?_ | refine Need.ne ?_ | refine Need.au ?_ | refine Pick.map (by assumption) ?_ | refine Pick.mapI (by omega) (by assumption) ?_ | refine PickN.mk _ (by assumption) ?_ | refine PickN.mk _ rfl ?_ | refine PickN.au ?_ | refine App.au rfl ?_ | refine App.au (own_map (fun _ => rfl) _) ?_ | refine Both.mk ?_ ?_ | exact True.intro
      rw [hdd]
      refine Stop.mk ?_
      refine run_inlC rfl want_none rfl rfl rfl rfl rfl rfl rfl (dropA_run s d f.cs i.cs hs (by have := hb.1; omega) (fun e _ => ?_) (fun _ => ?_))
      · rw [e] at hs0
        subst hs0
        refine goI 1 Tryd.func37 ?_
        repeat' first | refine Len.map ?_ | refine Len.nil ?_ | refine Len.cons ?_ | refine Br.t rfl ?_ | refine Br.f rfl ?_ | refine Fit.au ?_ | refine Cv.au ?_ | refine Need.ne ?_ | refine Need.au ?_ | refine Pick.map (by assumption) ?_ | refine Pick.mapI (by omega) (by assumption) ?_ | refine PickN.mk _ (by assumption) ?_ | refine PickN.mk _ rfl ?_ | refine PickN.au ?_ | refine App.au rfl ?_ | refine App.au (own_map (fun _ => rfl) _) ?_ | refine Both.mk ?_ ?_ | exact True.intro
        exact Stop.mk (jn () (g := []) _ _ _ ⟨rfl, (by repeat' first | exact trivial | refine ⟨rfl, ?_⟩ | refine ⟨congrArg (fun n => AV.lit (.int .i64 n)) (by omega), ?_⟩ | refine ⟨congrArg (fun l => some (Row.row 1 l)) (by simp [int1, num, tru]), ?_⟩), (by repeat' first | exact trivial | refine ⟨rfl, ?_⟩ | refine ⟨congrArg (fun n => AV.lit (.int .i64 n)) (by omega), ?_⟩ | refine ⟨congrArg (fun l => some (Row.row 1 l)) (by simp [int1, num, tru]), ?_⟩)⟩ trivial)
      · subst hs0
        refine goI 1 Tryd.func37 ?_
        repeat' first | refine Len.map ?_ | refine Len.nil ?_ | refine Len.cons ?_ | refine Br.t rfl ?_ | refine Br.f rfl ?_ | refine Fit.au ?_ | refine Cv.au ?_ | refine Need.ne ?_ | refine Need.au ?_ | refine Pick.map (by assumption) ?_ | refine Pick.mapI (by omega) (by assumption) ?_ | refine PickN.mk _ (by assumption) ?_ | refine PickN.mk _ rfl ?_ | refine PickN.au ?_ | refine App.au rfl ?_ | refine App.au (own_map (fun _ => rfl) _) ?_ | refine Both.mk ?_ ?_ | exact True.intro
        exact Stop.mk (jn () (g := []) _ _ _ ⟨rfl, (by repeat' first | exact trivial | refine ⟨rfl, ?_⟩ | refine ⟨congrArg (fun n => AV.lit (.int .i64 n)) (by omega), ?_⟩ | refine ⟨congrArg (fun l => some (Row.row 1 l)) (by simp [int1, num, tru]), ?_⟩), (by repeat' first | exact trivial | refine ⟨rfl, ?_⟩ | refine ⟨congrArg (fun n => AV.lit (.int .i64 n)) (by omega), ?_⟩ | refine ⟨congrArg (fun l => some (Row.row 1 l)) (by simp [int1, num, tru]), ?_⟩)⟩ trivial)
    · rw [if_neg hd] at hs0
      subst hs0
      refine goI 18 Tryd.func37 ?_
      repeat' first | refine Call.eq hD rfl ?_ | refine Br.f (by simp; omega) ?_ | refine Len.map ?_ | refine Len.nil ?_ | refine Len.cons ?_ | refine Br.t rfl ?_ | refine Br.f rfl ?_ | refine Fit.au ?_ | refine Cv.au ?_ | refine Need.ne ?_ | refine Need.au ?_ | refine Pick.map (by assumption) ?_ | refine Pick.mapI (by omega) (by assumption) ?_ | refine PickN.mk _ (by assumption) ?_ | refine PickN.mk _ rfl ?_ | refine PickN.au ?_ | refine App.au rfl ?_ | refine App.au (own_map (fun _ => rfl) _) ?_ | refine Both.mk ?_ ?_ | exact True.intro
      exact Stop.mk (jn () (g := []) _ _ _ ⟨rfl, (by repeat' first | exact trivial | refine ⟨rfl, ?_⟩ | refine ⟨congrArg (fun n => AV.lit (.int .i64 n)) (by omega), ?_⟩ | refine ⟨congrArg (fun l => some (Row.row 1 l)) (by simp [int1, num, tru]), ?_⟩), (by repeat' first | exact trivial | refine ⟨rfl, ?_⟩ | refine ⟨congrArg (fun n => AV.lit (.int .i64 n)) (by omega), ?_⟩ | refine ⟨congrArg (fun l => some (Row.row 1 l)) (by simp [int1, num, tru]), ?_⟩)⟩ trivial)
  rintro _ _
  unfold rest37
  refine goI 1000 Tryd.func37 ?_
  repeat' first | refine Br.f (by simpa using h44) ?_ | refine Call.eq hU rfl ?_ | refine Len.map ?_ | refine Len.nil ?_ | refine Len.cons ?_ | refine Br.t rfl ?_ | refine Br.f rfl ?_ | refine Fit.au ?_ | refine Cv.au ?_ | refine Need.ne ?_ | refine Need.au ?_ | refine Pick.map (by assumption) ?_ | refine Pick.mapI (by omega) (by assumption) ?_ | refine PickN.mk _ (by assumption) ?_ | refine PickN.mk _ rfl ?_ | refine PickN.au ?_ | refine App.au rfl ?_ | refine App.au (own_map (fun _ => rfl) _) ?_ | refine Both.mk ?_ ?_ | exact True.intro
  refine Stop.mk (loop_in (g := []) (fun k : Nat => [(1, .hw 2), (18, .hw 4), (19, num (usesF i).length), (20, num k)]) (fun k => [(4, .row 1 ((usesF i).map int1)), (3, .var i.cs), (2, rowW (putsW s0 ((usesF i).take k))), (0, .var f.cs)]) 5 (fun k => k ≤ (usesF i).length) (fun k => (usesF i).length - k) 0 (by omega) ⟨rfl, (by repeat' first | exact trivial | refine ⟨rfl, ?_⟩ | refine ⟨congrArg (fun n => AV.lit (.int .i64 n)) (by omega), ?_⟩ | refine ⟨congrArg (fun l => some (Row.row 1 l)) (by simp [int1, num, tru]), ?_⟩), (by repeat' first | exact trivial | refine ⟨rfl, ?_⟩ | refine ⟨congrArg (fun n => AV.lit (.int .i64 n)) (by omega), ?_⟩ | refine ⟨congrArg (fun l => some (Row.row 1 l)) (by simp [int1, num, tru]), ?_⟩)⟩ (fun k hk ih => ?_))
  have hlk : (putsW s0 ((usesF i).take k)).length = s.length := putsW_len.trans hl0
  by_cases h2 : k < (usesF i).length
  · obtain ⟨u, gu, hum⟩ := getK (l := usesF i) (k := k) h2
    have hub := hb.2 u hum
    obtain ⟨j, hj⟩ := Int.eq_ofNat_of_zero_le hub.1
    have hst := putsW_take (s := s0) gu
    rw [hj, Int.toNat_natCast] at hst
    refine goI 18 Tryd.func37 ?_
    repeat' first | refine Br.t (by simp; omega) ?_ | refine Need.mk ⟨by omega, by rw [List.length_map]; omega⟩ ?_ | refine PickN.map gu ?_ | refine Len.map ?_ | refine Len.nil ?_ | refine Len.cons ?_ | refine Br.t rfl ?_ | refine Br.f rfl ?_ | refine Fit.au ?_ | refine Cv.au ?_ | refine Need.ne ?_ | refine Need.au ?_ | refine Pick.map (by assumption) ?_ | refine Pick.mapI (by omega) (by assumption) ?_ | refine PickN.mk _ (by assumption) ?_ | refine PickN.mk _ rfl ?_ | refine PickN.au ?_ | refine App.au rfl ?_ | refine App.au (own_map (fun _ => rfl) _) ?_ | refine Both.mk ?_ ?_ | exact True.intro
    rw [hj]
    refine Stop.mk ?_
    refine run_inlC rfl want_none rfl rfl rfl rfl rfl rfl rfl (putA_run _ j f.cs i.cs ((usesF i).map int1) (by omega) (by omega) (fun e _ => ?_) (fun _ => ?_))
    · refine goI 1000 Tryd.func37 ?_
      repeat' first | refine Len.map ?_ | refine Len.nil ?_ | refine Len.cons ?_ | refine Br.t rfl ?_ | refine Br.f rfl ?_ | refine Fit.au ?_ | refine Cv.au ?_ | refine Need.ne ?_ | refine Need.au ?_ | refine Pick.map (by assumption) ?_ | refine Pick.mapI (by omega) (by assumption) ?_ | refine PickN.mk _ (by assumption) ?_ | refine PickN.mk _ rfl ?_ | refine PickN.au ?_ | refine App.au rfl ?_ | refine App.au (own_map (fun _ => rfl) _) ?_ | refine Both.mk ?_ ?_ | exact True.intro
      rw [← e, ← hst]
      exact Stop.mk (ih (k + 1) (g := []) _ _ _ (by omega) (by omega) ⟨rfl, (by repeat' first | exact trivial | refine ⟨rfl, ?_⟩ | refine ⟨congrArg (fun n => AV.lit (.int .i64 n)) (by omega), ?_⟩ | refine ⟨congrArg (fun l => some (Row.row 1 l)) (by simp [int1, num, tru]), ?_⟩), (by repeat' first | exact trivial | refine ⟨rfl, ?_⟩ | refine ⟨congrArg (fun n => AV.lit (.int .i64 n)) (by omega), ?_⟩ | refine ⟨congrArg (fun l => some (Row.row 1 l)) (by simp [int1, num, tru]), ?_⟩)⟩)
    · refine goI 1000 Tryd.func37 ?_
      repeat' first | refine Len.map ?_ | refine Len.nil ?_ | refine Len.cons ?_ | refine Br.t rfl ?_ | refine Br.f rfl ?_ | refine Fit.au ?_ | refine Cv.au ?_ | refine Need.ne ?_ | refine Need.au ?_ | refine Pick.map (by assumption) ?_ | refine Pick.mapI (by omega) (by assumption) ?_ | refine PickN.mk _ (by assumption) ?_ | refine PickN.mk _ rfl ?_ | refine PickN.au ?_ | refine App.au rfl ?_ | refine App.au (own_map (fun _ => rfl) _) ?_ | refine Both.mk ?_ ?_ | exact True.intro
      rw [← hst]
      exact Stop.mk (ih (k + 1) (g := []) _ _ _ (by omega) (by omega) ⟨rfl, (by repeat' first | exact trivial | refine ⟨rfl, ?_⟩ | refine ⟨congrArg (fun n => AV.lit (.int .i64 n)) (by omega), ?_⟩ | refine ⟨congrArg (fun l => some (Row.row 1 l)) (by simp [int1, num, tru]), ?_⟩), (by repeat' first | exact trivial | refine ⟨rfl, ?_⟩ | refine ⟨congrArg (fun n => AV.lit (.int .i64 n)) (by omega), ?_⟩ | refine ⟨congrArg (fun l => some (Row.row 1 l)) (by simp [int1, num, tru]), ?_⟩)⟩)
  · obtain rfl : k = (usesF i).length := by omega
    rw [hov]at h
    refine goI 1000 Tryd.func37 ?_
    repeat' first | refine Br.f (by simp) ?_ | refine Len.map ?_ | refine Len.nil ?_ | refine Len.cons ?_ | refine Br.t rfl ?_ | refine Br.f rfl ?_ | refine Fit.au ?_ | refine Cv.au ?_ | refine Need.ne ?_ | refine Need.au ?_ | refine Pick.map (by assumption) ?_ | refine Pick.mapI (by omega) (by assumption) ?_ | refine PickN.mk _ (by assumption) ?_ | refine PickN.mk _ rfl ?_ | refine PickN.au ?_ | refine App.au rfl ?_ | refine App.au (own_map (fun _ => rfl) _) ?_ | refine Both.mk ?_ ?_ | exact True.intro
    rw [List.take_length]
    exact h
end Go.Proofs.YtdgibhndjdgllaaDoor

/- One is put into the queue, in line. -/
namespace Go.Proofs.YtdgibhndjdgllaaDoor
open Go.Ax
set_option maxRecDepth 10000
set_option linter.unusedVariables false
set_option maxHeartbeats 0

theorem waits_len (n : Nat) (Q : List Nat) : (waitsL n Q).length = n := by simp [waitsL]
theorem waits_at {n i : Nat} {Q : List Nat} (h : i < n) : (waitsL n Q)[i]? = some [tru (decide (i ∈ Q))] := by
  unfold waitsL
  rw [List.getElem?_map, List.getElem?_range h]; rfl
def hpR (p : Prob) (F T : List (List W)) (Q : List Nat) : HP := [(7, .row 1 (waitsL p.edges.length Q)), (5, .chn p.edges.length (queI Q)), (6, .var [.hc 5, .hw 7])] ++ hpN p F T
theorem waits_set {n i : Nat} {Q : List Nat} : (waitsL n Q).set i [tru true] = waitsL n (Q ++ [i]) := by
  refine List.ext_getElem? fun j => ?_
  rw [List.getElem?_set, waits_len]
  by_cases hj : j < n
  · rw [waits_at hj, waits_at hj]
    by_cases e : i = j
    · subst e; rw [if_pos rfl, if_pos hj]; simp
    · rw [if_neg e]
      have : (j ∈ Q ++ [i]) ↔ j ∈ Q := by simp; omega
      simp only [this]
  · rw [List.getElem?_eq_none (by rw [waits_len]; omega), List.getElem?_eq_none (by rw [waits_len]; omega)]
    by_cases e : i = j
    · rw [if_pos e, if_neg (by omega)]
    · rw [if_neg e]
theorem queI_app (Q : List Nat) (i : Nat) : queI (Q ++ [i]) = queI Q ++ [(i : Int)] := by simp [queI]
theorem put_run (p : Prob) (hp : p.OK) (F T : List (List W)) (Q : List Nat) (i : Nat) (hi : i < p.edges.length) (hQ : i ∉ Q → Q.length < p.edges.length) {K : AV → HP → Nat → Prop}
    (h1 : i ∈ Q → K (tru false) (hpQ p F T Q) 8) (h2 : i ∉ Q → K (tru true) (hpR p F T (Q ++ [i])) 8) : Run Tryd.prog 75 (Post.inl 8 K) [.code (Tryd.f75.body.getD .skip)] ⟨slots 0 [.hp 6 0, num i], hpQ p F T Q, 8, Tryd.f75.ntmps⟩ := by
  have hfew := hp.few
  have hwl := waits_len p.edges.length Q
  have hwa := waits_at (Q := Q) hi
  unfold hpQ hpN
  by_cases hq : i ∈ Q
  · rw [decide_eq_true hq] at hwa
    replace h1 := h1 hq
    refine goI 1000 Tryd.func75 ?_
    repeat' first | (refine Br.f ?_ ?_; focus (first | (simp; done) | (simp [hwl]; done) | (simp; omega))) | refine Need.mk ⟨by omega, by rw [Int.toNat_natCast]; omega⟩ ?_ | refine PickN.mk _ hwa ?_ | refine Len.map ?_ | refine Len.nil ?_ | refine Len.cons ?_ | refine Br.t rfl ?_ | refine Br.f rfl ?_ | refine Fit.au ?_ | refine Cv.au ?_ | refine Need.ne ?_ | refine Need.au ?_ | refine Pick.map (by assumption) ?_ | refine Pick.mapI (by omega) (by assumption) ?_ | refine PickN.mk _ (by assumption) ?_ | refine PickN.mk _ rfl ?_ | refine PickN.au ?_ | refine App.au rfl ?_ | refine App.au (own_map (fun _ => rfl) _) ?_ | refine Both.mk ?_ ?_ | exact True.intro
    exact h1
  · rw [decide_eq_false hq] at hwa
    replace h2 := h2 hq
    have hql : (queI Q).length < p.edges.length := by unfold queI; rw [List.length_map]; exact hQ hq
    refine goI 1000 Tryd.func75 ?_
    repeat' first | (refine Br.f ?_ ?_; focus (first | (simp; done) | (simp [hwl]; done) | (simp; omega))) | refine Need.mk ⟨by omega, by rw [Int.toNat_natCast]; omega⟩ ?_ | refine PickN.mk _ hwa ?_ | refine Len.map ?_ | refine Len.nil ?_ | refine Len.cons ?_ | refine Br.t rfl ?_ | refine Br.f rfl ?_ | refine Fit.au ?_ | refine Cv.au ?_ | refine Need.ne ?_ | refine Need.au ?_ | refine Pick.map (by assumption) ?_ | refine Pick.mapI (by omega) (by assumption) ?_ | refine PickN.mk _ (by assumption) ?_ | refine PickN.mk _ rfl ?_ | refine PickN.au ?_ | refine App.au rfl ?_ | refine App.au (own_map (fun _ => rfl) _) ?_ | refine Both.mk ?_ ?_ | exact True.intro
    refine Stop.mk ?_
    refine run_selSend rfl rfl (TyT.find_ok (HasT.ok (P := Tryd.prog)) (t := 3) rfl) rfl rfl rfl hql ?_
    refine goI 1000 Tryd.func75 ?_
    repeat' first | (refine Br.f ?_ ?_; focus (first | (simp; done) | (simp [hwl]; done) | (simp; omega))) | refine Need.mk ⟨by omega, by rw [Int.toNat_natCast]; omega⟩ ?_ | refine PickN.mk _ hwa ?_ | refine Len.map ?_ | refine Len.nil ?_ | refine Len.cons ?_ | refine Br.t rfl ?_ | refine Br.f rfl ?_ | refine Fit.au ?_ | refine Cv.au ?_ | refine Need.ne ?_ | refine Need.au ?_ | refine Pick.map (by assumption) ?_ | refine Pick.mapI (by omega) (by assumption) ?_ | refine PickN.mk _ (by assumption) ?_ | refine PickN.mk _ rfl ?_ | refine PickN.au ?_ | refine App.au rfl ?_ | refine App.au (own_map (fun _ => rfl) _) ?_ | refine Both.mk ?_ ?_ | exact True.intro
    unfold hpR hpN at h2
    rw [← waits_set, queI_app] at h2
    exact h2
end Go.Proofs.YtdgibhndjdgllaaDoor

/- One is taken out of the queue, in line. -/
namespace Go.Proofs.YtdgibhndjdgllaaDoor
open Go.Ax
set_option maxRecDepth 10000
set_option linter.unusedVariables false
set_option maxHeartbeats 0

theorem take_none (p : Prob) (hp : p.OK) (F T : List (List W)) {K : AV → HP → Nat → Prop}
    (h : K (.tup [num 0, tru false]) (hpQ p F T []) 8) : Run Tryd.prog 76 (Post.inl 8 K) [.code (Tryd.f76.body.getD .skip)] ⟨slots 0 [.hp 6 0], hpQ p F T [], 8, Tryd.f76.ntmps⟩ := by
  have hfew := hp.few
  unfold hpQ hpN
  refine goI 9 Tryd.func76 ?_
  repeat' first | refine Len.map ?_ | refine Len.nil ?_ | refine Len.cons ?_ | refine Br.t rfl ?_ | refine Br.f rfl ?_ | refine Fit.au ?_ | refine Cv.au ?_ | refine Need.ne ?_ | refine Need.au ?_ | refine Pick.map (by assumption) ?_ | refine Pick.mapI (by omega) (by assumption) ?_ | refine PickN.mk _ (by assumption) ?_ | refine PickN.mk _ rfl ?_ | refine PickN.au ?_ | refine App.au rfl ?_ | refine App.au (own_map (fun _ => rfl) _) ?_ | refine Both.mk ?_ ?_ | exact True.intro
  refine Stop.mk ?_
  refine run_inlC rfl want_none rfl rfl rfl rfl rfl rfl rfl (goI 1000 Tryd.func105 ?_)
  repeat' first | refine Stop.mk (run_loop (goI 1000 Tryd.func105 ?_)) | refine Len.map ?_ | refine Len.nil ?_ | refine Len.cons ?_ | refine Br.t rfl ?_ | refine Br.f rfl ?_ | refine Fit.au ?_ | refine Cv.au ?_ | refine Need.ne ?_ | refine Need.au ?_ | refine Pick.map (by assumption) ?_ | refine Pick.mapI (by omega) (by assumption) ?_ | refine PickN.mk _ (by assumption) ?_ | refine PickN.mk _ rfl ?_ | refine PickN.au ?_ | refine App.au rfl ?_ | refine App.au (own_map (fun _ => rfl) _) ?_ | refine Both.mk ?_ ?_ | exact True.intro
  refine Stop.mk ?_
  refine run_selNone (v := 0) rfl rfl (TyT.find_ok (HasT.ok (P := Tryd.prog)) (t := 3) rfl) rfl rfl rfl rfl ?_
  refine goI 1000 Tryd.func105 ?_
  repeat' first | refine Len.map ?_ | refine Len.nil ?_ | refine Len.cons ?_ | refine Br.t rfl ?_ | refine Br.f rfl ?_ | refine Fit.au ?_ | refine Cv.au ?_ | refine Need.ne ?_ | refine Need.au ?_ | refine Pick.map (by assumption) ?_ | refine Pick.mapI (by omega) (by assumption) ?_ | refine PickN.mk _ (by assumption) ?_ | refine PickN.mk _ rfl ?_ | refine PickN.au ?_ | refine App.au rfl ?_ | refine App.au (own_map (fun _ => rfl) _) ?_ | refine Both.mk ?_ ?_ | exact True.intro
  refine goI 1000 Tryd.func76 ?_
  repeat' first | refine Len.map ?_ | refine Len.nil ?_ | refine Len.cons ?_ | refine Br.t rfl ?_ | refine Br.f rfl ?_ | refine Fit.au ?_ | refine Cv.au ?_ | refine Need.ne ?_ | refine Need.au ?_ | refine Pick.map (by assumption) ?_ | refine Pick.mapI (by omega) (by assumption) ?_ | refine PickN.mk _ (by assumption) ?_ | refine PickN.mk _ rfl ?_ | refine PickN.au ?_ | refine App.au rfl ?_ | refine App.au (own_map (fun _ => rfl) _) ?_ | refine Both.mk ?_ ?_ | exact True.intro
  exact h
theorem waits_drop {n x : Nat} {Q : List Nat} (h : x ∉ Q) : (waitsL n (x :: Q)).set x [tru false] = waitsL n Q := by
  refine List.ext_getElem? fun j => ?_
  rw [List.getElem?_set, waits_len]
  by_cases hj : j < n
  · rw [waits_at hj, waits_at hj]
    by_cases e : x = j
    · subst e; rw [if_pos rfl, if_pos hj, decide_eq_false h]
    · rw [if_neg e]
      have : (j ∈ x :: Q) ↔ j ∈ Q := by simp; omega
      simp only [this]
  · rw [List.getElem?_eq_none (by rw [waits_len]; omega), List.getElem?_eq_none (by rw [waits_len]; omega)]
    by_cases e : x = j
    · rw [if_pos e, if_neg (by omega)]
    · rw [if_neg e]
theorem take_some (p : Prob) (hp : p.OK) (F T : List (List W)) (x : Nat) (Q : List Nat) (hx : x < p.edges.length) (hQ : x ∉ Q) {K : AV → HP → Nat → Prop}
    (h : K (.tup [num x, tru true]) ((10, .row 1 [[num x]]) :: hpR p F T Q) 11) : Run Tryd.prog 76 (Post.inl 8 K) [.code (Tryd.f76.body.getD .skip)] ⟨slots 0 [.hp 6 0], hpQ p F T (x :: Q), 8, Tryd.f76.ntmps⟩ := by
  have hfew := hp.few
  have hwl := waits_len p.edges.length (x :: Q)
  have hwa := waits_at (Q := x :: Q) hx
  unfold hpQ hpN
  refine goI 9 Tryd.func76 ?_
  repeat' first | refine Len.map ?_ | refine Len.nil ?_ | refine Len.cons ?_ | refine Br.t rfl ?_ | refine Br.f rfl ?_ | refine Fit.au ?_ | refine Cv.au ?_ | refine Need.ne ?_ | refine Need.au ?_ | refine Pick.map (by assumption) ?_ | refine Pick.mapI (by omega) (by assumption) ?_ | refine PickN.mk _ (by assumption) ?_ | refine PickN.mk _ rfl ?_ | refine PickN.au ?_ | refine App.au rfl ?_ | refine App.au (own_map (fun _ => rfl) _) ?_ | refine Both.mk ?_ ?_ | exact True.intro
  refine Stop.mk ?_
  refine run_inlC rfl want_none rfl rfl rfl rfl rfl rfl rfl (goI 1000 Tryd.func105 ?_)
  repeat' first | refine Len.map ?_ | refine Len.nil ?_ | refine Len.cons ?_ | refine Br.t rfl ?_ | refine Br.f rfl ?_ | refine Fit.au ?_ | refine Cv.au ?_ | refine Need.ne ?_ | refine Need.au ?_ | refine Pick.map (by assumption) ?_ | refine Pick.mapI (by omega) (by assumption) ?_ | refine PickN.mk _ (by assumption) ?_ | refine PickN.mk _ rfl ?_ | refine PickN.au ?_ | refine App.au rfl ?_ | refine App.au (own_map (fun _ => rfl) _) ?_ | refine Both.mk ?_ ?_ | exact True.intro
  refine Stop.mk (run_nilT 5 1 rfl ?_)
  refine run_loop (goI 1000 Tryd.func105 ?_)
  repeat' first | refine Len.map ?_ | refine Len.nil ?_ | refine Len.cons ?_ | refine Br.t rfl ?_ | refine Br.f rfl ?_ | refine Fit.au ?_ | refine Cv.au ?_ | refine Need.ne ?_ | refine Need.au ?_ | refine Pick.map (by assumption) ?_ | refine Pick.mapI (by omega) (by assumption) ?_ | refine PickN.mk _ (by assumption) ?_ | refine PickN.mk _ rfl ?_ | refine PickN.au ?_ | refine App.au rfl ?_ | refine App.au (own_map (fun _ => rfl) _) ?_ | refine Both.mk ?_ ?_ | exact True.intro
  refine Stop.mk ?_
  refine run_selRecv (x := x) (xs := queI Q) rfl rfl (TyT.find_ok (HasT.ok (P := Tryd.prog)) (t := 3) rfl) rfl rfl ?_
  refine goI 1000 Tryd.func105 ?_
  repeat' first | (refine Need.mk ⟨by omega, by rw [Int.toNat_natCast]; omega⟩ ?_) | refine PickN.mk _ hwa ?_ | refine Len.map ?_ | refine Len.nil ?_ | refine Len.cons ?_ | refine Br.t rfl ?_ | refine Br.f rfl ?_ | refine Fit.au ?_ | refine Cv.au ?_ | refine Need.ne ?_ | refine Need.au ?_ | refine Pick.map (by assumption) ?_ | refine Pick.mapI (by omega) (by assumption) ?_ | refine PickN.mk _ (by assumption) ?_ | refine PickN.mk _ rfl ?_ | refine PickN.au ?_ | refine App.au rfl ?_ | refine App.au (own_map (fun _ => rfl) _) ?_ | refine Both.mk ?_ ?_ | exact True.intro
  refine Stop.mk (run_inLoop (goI 1000 Tryd.func105 ?_))
  repeat' first | refine Len.map ?_ | refine Len.nil ?_ | refine Len.cons ?_ | refine Br.t rfl ?_ | refine Br.f rfl ?_ | refine Fit.au ?_ | refine Cv.au ?_ | refine Need.ne ?_ | refine Need.au ?_ | refine Pick.map (by assumption) ?_ | refine Pick.mapI (by omega) (by assumption) ?_ | refine PickN.mk _ (by assumption) ?_ | refine PickN.mk _ rfl ?_ | refine PickN.au ?_ | refine App.au rfl ?_ | refine App.au (own_map (fun _ => rfl) _) ?_ | refine Both.mk ?_ ?_ | exact True.intro
  refine goI 1000 Tryd.func76 ?_
  repeat' first | refine Len.map ?_ | refine Len.nil ?_ | refine Len.cons ?_ | refine Br.t rfl ?_ | refine Br.f rfl ?_ | refine Fit.au ?_ | refine Cv.au ?_ | refine Need.ne ?_ | refine Need.au ?_ | refine Pick.map (by assumption) ?_ | refine Pick.mapI (by omega) (by assumption) ?_ | refine PickN.mk _ (by assumption) ?_ | refine PickN.mk _ rfl ?_ | refine PickN.au ?_ | refine App.au rfl ?_ | refine App.au (own_map (fun _ => rfl) _) ?_ | refine Both.mk ?_ ?_ | exact True.intro
  unfold hpR hpN at h
  rw [← waits_drop hQ] at h
  exact h
end Go.Proofs.YtdgibhndjdgllaaDoor

/- All blocks are put into the queue. -/
namespace Go.Proofs.YtdgibhndjdgllaaDoor
open Go.Ax
set_option maxRecDepth 10000
set_option linter.unusedVariables false
set_option maxHeartbeats 0

theorem puts_run (p : Prob) (hp : p.OK) (F T : List (List W)) (Qp : AV → Prop) (h : Run Tryd.prog 46 (Post.one Qp) [.code (rest46 8)] ⟨tmQ p, hpQ p F T (List.range p.edges.length), 8, Tryd.f46.ntmps⟩) : Run Tryd.prog 46 (Post.one Qp) [.code (rest46 7)] ⟨tmQ p, hpQ p F T [], 8, Tryd.f46.ntmps⟩ := by
  have hfew := hp.few
  unfold tmQ hpQ tmN hpN
  refine go 1000 Tryd.func46 ?_
  repeat' first | refine Len.map ?_ | refine Len.nil ?_ | refine Len.cons ?_ | refine Br.t rfl ?_ | refine Br.f rfl ?_ | refine Fit.au ?_ | refine Cv.au ?_ | refine Need.ne ?_ | refine Need.au ?_ | refine Pick.map (by assumption) ?_ | refine Pick.mapI (by omega) (by assumption) ?_ | refine PickN.mk _ (by assumption) ?_ | refine PickN.mk _ rfl ?_ | refine PickN.au ?_ | refine App.au rfl ?_ | refine App.au (own_map (fun _ => rfl) _) ?_ | refine Both.mk ?_ ?_ | exact True.intro
  refine Stop.mk (loop_in (g := []) (fun k : Nat => (51, num k) :: (50, num p.edges.length) :: tmQ p) (fun k => hpQ p F T (List.range k)) 8 (fun k => k ≤ p.edges.length) (fun k => p.edges.length - k) 0 (by omega) ⟨rfl, (by repeat' first | exact trivial | refine ⟨rfl, ?_⟩), (by repeat' first | exact trivial | refine ⟨rfl, ?_⟩)⟩ (fun k hk ih => ?_))
  by_cases h2 : k < p.edges.length
  · unfold tmQ hpQ tmN hpN
    refine go 17 Tryd.func46 ?_
    repeat' first | refine Br.t (by simp; omega) ?_ | refine Len.map ?_ | refine Len.nil ?_ | refine Len.cons ?_ | refine Br.t rfl ?_ | refine Br.f rfl ?_ | refine Fit.au ?_ | refine Cv.au ?_ | refine Need.ne ?_ | refine Need.au ?_ | refine Pick.map (by assumption) ?_ | refine Pick.mapI (by omega) (by assumption) ?_ | refine PickN.mk _ (by assumption) ?_ | refine PickN.mk _ rfl ?_ | refine PickN.au ?_ | refine App.au rfl ?_ | refine App.au (own_map (fun _ => rfl) _) ?_ | refine Both.mk ?_ ?_ | exact True.intro
    refine Stop.mk ?_
    refine run_inlC rfl want_none rfl rfl rfl rfl rfl rfl rfl (put_run p hp F T (List.range k) k h2 (fun _ => by rw [List.length_range]; exact h2) (fun h => absurd h (by simp)) (fun _ => ?_))
    unfold hpR hpN
    refine go 1000 Tryd.func46 ?_
    repeat' first | refine Len.map ?_ | refine Len.nil ?_ | refine Len.cons ?_ | refine Br.t rfl ?_ | refine Br.f rfl ?_ | refine Fit.au ?_ | refine Cv.au ?_ | refine Need.ne ?_ | refine Need.au ?_ | refine Pick.map (by assumption) ?_ | refine Pick.mapI (by omega) (by assumption) ?_ | refine PickN.mk _ (by assumption) ?_ | refine PickN.mk _ rfl ?_ | refine PickN.au ?_ | refine App.au rfl ?_ | refine App.au (own_map (fun _ => rfl) _) ?_ | refine Both.mk ?_ ?_ | exact True.intro
    refine Stop.mk (ih (k + 1) (g := []) _ _ _ (by omega) (by omega) ?_)
    unfold hpQ hpN tmQ tmN
    rw [List.range_succ]
    exact ⟨rfl, (by repeat' first | exact trivial | refine ⟨rfl, ?_⟩), (by repeat' first | exact trivial | refine ⟨rfl, ?_⟩)⟩
  · obtain rfl : k = p.edges.length := by omega
    unfold tmQ hpQ tmN hpN
    refine go 7 Tryd.func46 ?_
    repeat' first | refine Br.f (by simp) ?_ | refine Len.map ?_ | refine Len.nil ?_ | refine Len.cons ?_ | refine Br.t rfl ?_ | refine Br.f rfl ?_ | refine Fit.au ?_ | refine Cv.au ?_ | refine Need.ne ?_ | refine Need.au ?_ | refine Pick.map (by assumption) ?_ | refine Pick.mapI (by omega) (by assumption) ?_ | refine PickN.mk _ (by assumption) ?_ | refine PickN.mk _ rfl ?_ | refine PickN.au ?_ | refine App.au rfl ?_ | refine App.au (own_map (fun _ => rfl) _) ?_ | refine Both.mk ?_ ?_ | exact True.intro
    refine Stop.mk ?_
    exact Run.fr (g := []) h ⟨rfl, (by repeat' first | exact trivial | refine ⟨rfl, ?_⟩), (by repeat' first | exact trivial | refine ⟨rfl, ?_⟩)⟩
end Go.Proofs.YtdgibhndjdgllaaDoor

/- The rounds of a flow. -/
namespace Go.Proofs.YtdgibhndjdgllaaDoor
open Go.Ax
set_option maxRecDepth 10000
set_option linter.unusedVariables false
set_option maxHeartbeats 0

def QS (p : Prob) : AV → Prop := fun r => ∃ T F, SolP p T F ∧ r = .tup [.agg [.osl 1 (F.map oset), .osl 1 (T.map oset)], tru true]
theorem fz_oset (s : List W) : AV.fzL (oset s) = setL s := by
  unfold oset setL sets
  simp only [AV.fzL, AV.fz, fzw]
structure FS where
  T : List (List W)
  F : List (List W)
  Q : List Nat
def tmH (p : Prob) (q : FS) : TM := (12, tru (!q.Q.isEmpty)) :: (11, num (q.Q.headD 0)) :: tmQ p
theorem main_run (p : Prob) (hp : p.OK) (T F : List (List W)) (Q : List Nat) (hI : FlowI p T F Q) : Run Tryd.prog 46 (Post.one (QS p)) [.code (rest46 8)] ⟨tmQ p, hpQ p F T Q, 8, Tryd.f46.ntmps⟩ := by
  have hfew := hp.few
  have ht := turned_ok hp
  apply join (fun q : FS => tmH p q) (fun q => hpQ p q.F q.T q.Q.tail) 8 (fun q => FlowI p q.T q.F q.Q)
  · intro jn
    cases Q with
    | nil =>
      unfold tmQ hpQ tmN hpN
      refine go 4 Tryd.func46 ?_
      repeat' first | refine Len.map ?_ | refine Len.nil ?_ | refine Len.cons ?_ | refine Br.t rfl ?_ | refine Br.f rfl ?_ | refine Fit.au ?_ | refine Cv.au ?_ | refine Need.ne ?_ | refine Need.au ?_ | refine Pick.map (by assumption) ?_ | refine Pick.mapI (by omega) (by assumption) ?_ | refine PickN.mk _ (by assumption) ?_ | refine PickN.mk _ rfl ?_ | refine PickN.au ?_ | refine App.au rfl ?_ | refine App.au (own_map (fun _ => rfl) _) ?_ | refine Both.mk ?_ ?_ | exact True.intro
      refine Stop.mk ?_
      refine run_inlC rfl want_none rfl rfl rfl rfl rfl rfl rfl (take_none p hp F T ?_)
      unfold hpQ hpN
      refine go 7 Tryd.func46 ?_
      repeat' first | refine Len.map ?_ | refine Len.nil ?_ | refine Len.cons ?_ | refine Br.t rfl ?_ | refine Br.f rfl ?_ | refine Fit.au ?_ | refine Cv.au ?_ | refine Need.ne ?_ | refine Need.au ?_ | refine Pick.map (by assumption) ?_ | refine Pick.mapI (by omega) (by assumption) ?_ | refine PickN.mk _ (by assumption) ?_ | refine PickN.mk _ rfl ?_ | refine PickN.au ?_ | refine App.au rfl ?_ | refine App.au (own_map (fun _ => rfl) _) ?_ | refine Both.mk ?_ ?_ | exact True.intro
      refine Stop.mk ?_
      refine jn ⟨T, F, []⟩ (g := []) _ _ _ ⟨rfl, (by repeat' first | exact trivial | refine ⟨rfl, ?_⟩), (by repeat' first | exact trivial | refine ⟨rfl, ?_⟩)⟩ hI
    | cons x Q =>
      have hx := hI.rng x (List.mem_cons_self ..)
      have hn := (List.nodup_cons.1 hI.nod).1
      unfold tmQ hpQ tmN hpN
      refine go 4 Tryd.func46 ?_
      repeat' first | refine Len.map ?_ | refine Len.nil ?_ | refine Len.cons ?_ | refine Br.t rfl ?_ | refine Br.f rfl ?_ | refine Fit.au ?_ | refine Cv.au ?_ | refine Need.ne ?_ | refine Need.au ?_ | refine Pick.map (by assumption) ?_ | refine Pick.mapI (by omega) (by assumption) ?_ | refine PickN.mk _ (by assumption) ?_ | refine PickN.mk _ rfl ?_ | refine PickN.au ?_ | refine App.au rfl ?_ | refine App.au (own_map (fun _ => rfl) _) ?_ | refine Both.mk ?_ ?_ | exact True.intro
      refine Stop.mk ?_
      refine run_inlC rfl want_none rfl rfl rfl rfl rfl rfl rfl (take_some p hp F T x Q hx hn ?_)
      unfold hpR hpN
      refine go 7 Tryd.func46 ?_
      repeat' first | refine Len.map ?_ | refine Len.nil ?_ | refine Len.cons ?_ | refine Br.t rfl ?_ | refine Br.f rfl ?_ | refine Fit.au ?_ | refine Cv.au ?_ | refine Need.ne ?_ | refine Need.au ?_ | refine Pick.map (by assumption) ?_ | refine Pick.mapI (by omega) (by assumption) ?_ | refine PickN.mk _ (by assumption) ?_ | refine PickN.mk _ rfl ?_ | refine PickN.au ?_ | refine App.au rfl ?_ | refine App.au (own_map (fun _ => rfl) _) ?_ | refine Both.mk ?_ ?_ | exact True.intro
      refine Stop.mk ?_
      refine jn ⟨T, F, x :: Q⟩ (g := []) _ _ _ ⟨rfl, (by repeat' first | exact trivial | refine ⟨rfl, ?_⟩), (by repeat' first | exact trivial | refine ⟨rfl, ?_⟩)⟩ hI
  intro q0 hq0
  refine loop_in (g := []) (fun q : FS => tmH p q) (fun q => hpQ p q.F q.T q.Q.tail) 8 (fun q => FlowI p q.T q.F q.Q) (fun q => muT p q.T * (p.edges.length + 1) + q.Q.length) q0 hq0 ⟨rfl, ?_, ?_⟩ (fun q hq ih => ?_)
  · unfold tmH tmQ tmN; exact (by repeat' first | exact trivial | refine ⟨rfl, ?_⟩)
  · unfold hpQ hpN; exact (by repeat' first | exact trivial | refine ⟨rfl, ?_⟩)
  obtain ⟨T, F, Q⟩ := q
  dsimp only at hq ih ⊢
  cases Q with
  | nil =>
    unfold tmH tmQ hpQ tmN hpN
    refine go 1000 Tryd.func46 ?_
    repeat' first | refine Len.map ?_ | refine Len.nil ?_ | refine Len.cons ?_ | refine Br.t rfl ?_ | refine Br.f rfl ?_ | refine Fit.au ?_ | refine Cv.au ?_ | refine Need.ne ?_ | refine Need.au ?_ | refine Pick.map (by assumption) ?_ | refine Pick.mapI (by omega) (by assumption) ?_ | refine PickN.mk _ (by assumption) ?_ | refine PickN.mk _ rfl ?_ | refine PickN.au ?_ | refine App.au rfl ?_ | refine App.au (own_map (fun _ => rfl) _) ?_ | refine Both.mk ?_ ?_ | exact True.intro
    exact ⟨T, F, hq.end_, rfl⟩
  | cons x Q =>
    have hx := hq.rng x (List.mem_cons_self ..)
    have hlT := hq.lenT
    have hnod := (List.nodup_cons.1 hq.nod).2
    have hlF := hq.lenF
    have har := aheadAt p x
    have hal := aheadL_len p
    have hrow : (aheadL p)[x]? = some (aheadAt p x) := by
      unfold aheadAt
      rw [List.getD_eq_getElem?_getD, List.getElem?_eq_getElem (by omega)]; rfl
    have hfrom := from77_spec p hp x (aheadL p) (aheadAt p x) hrow T (fun a ha => by rw [hlT]; exact ht.rng x hx a ha) (fun s hs => (hq.low s hs).1) (ahead_len hp hx)
    have hFx : F[x]? = some (F.getD x []) := by
      rw [List.getD_eq_getElem?_getD, List.getElem?_eq_getElem (by omega)]; rfl
    have hTx : T[x]? = some (T.getD x []) := by
      rw [List.getD_eq_getElem?_getD, List.getElem?_eq_getElem (by omega)]; rfl
    have hlowf : Low p (fromW p x (aheadAt p x) T) := Low.from hp hq.low
    have hstep := fun Q2 => hq.step hp ht (Q2 := Q2)
    have hle : ∀ i, leB p (bitsOf T x i) (hasW (toW p x (fromW p x (aheadAt p x) T)) i) := fun i => by
      rw [hasW_to, hasW_from]; exact hq.pre x i hx
    have hsame := hq.same hp ht
    generalize fromW p x (aheadAt p x) T = fr at *
    have hTx0 : (T.map oset)[x]? = some (oset (T.getD x [])) := by rw [List.getElem?_map, hTx]; rfl
    have hT3 : ((T.map oset).set (x : Int).toNat [.osl 1 ((T.getD x []).map u1)])[(x : Int).toNat]? = some (oset (T.getD x [])) := by
      rw [Int.toNat_natCast, List.getElem?_set, if_pos rfl, if_pos (by rw [List.length_map]; omega)]; rfl
    have hbl := behindL_len p
    have hbrow : (behindL p)[x]? = some (behindAt p x) := by
      unfold behindAt
      rw [List.getD_eq_getElem?_getD, List.getElem?_eq_getElem (by omega)]; rfl
    have hr3 : ((F.set x fr).map oset).set (x : Int).toNat [.osl 1 (fr.map u1)] = (F.set x fr).map oset := by
      rw [Int.toNat_natCast]
      show ((F.set x fr).map oset).set x (oset fr) = _
      rw [List.map_set, List.set_set]
    have hr4 : (T.map oset).set (x : Int).toNat [.osl 1 ((T.getD x []).map u1)] = T.map oset := by
      rw [Int.toNat_natCast]
      refine List.ext_getElem? fun i => ?_
      rw [List.getElem?_set]
      by_cases e : x = i
      · subst e; rw [if_pos rfl, if_pos (by rw [List.length_map]; omega), hTx0]; rfl
      · rw [if_neg e]
    have hto := to78_spec p hp x hx fr (by have := hlowf.1; omega)
    have hlowt := hlowf.to hp hx
    generalize toW p x fr = to_ at *
    have hr5 : ((T.map oset).set (x : Int).toNat [.osl 1 ((T.getD x []).map u1)]).set (x : Int).toNat [.osl 1 (to_.map u1)] = (T.set x to_).map oset := by
      rw [List.set_set, List.map_set, Int.toNat_natCast]; rfl
    have hS := Same79_spec to_ (T.getD x []) (by have := hlowt.1; omega) (by have := (hq.low (T.getD x []) (List.mem_of_getElem? hTx)).1; omega)
    have hF2 : (F.set x fr)[x]? = some fr := by
      rw [List.getElem?_set, if_pos rfl, if_pos (by omega)]
    refine (show Run _ _ _ _ ⟨(12, tru true) :: (11, num x) :: tmQ p, hpQ p F T Q, 8, _⟩ from ?_)
    apply join (fun q : FS => (65, .hp 6 0) :: tmQ p) (fun q => hpQ p q.F q.T q.Q) 8 (fun q => FlowI p q.T q.F q.Q ∧ muT p q.T * (p.edges.length + 1) + q.Q.length < muT p T * (p.edges.length + 1) + (Q.length + 1))
    · intro jn
      unfold tmQ hpQ tmN hpN
      refine go 12 Tryd.func46 ?_
      repeat' first | refine Draw.mk (.one 0 false (.one 2 false (.alt 1 (.alt 3 (ordL [5, 6] [4, 5, 6]) (.alt 5 (ordL [3, 6] [3, 4, 6]) .no)) (.alt 3 (.alt 1 (ordL [5, 6] [4, 5, 6]) (.alt 5 (ordL [1, 6] [1, 4, 6]) .no)) (.alt 5 (.alt 1 (ordL [3, 6] [3, 4, 6]) (.alt 3 (ordL [1, 6] [1, 4, 6]) .no)) .no))))) (by decide +kernel) ?_ | refine Draw.mk (.one 0 false (.one 2 false (.one 6 false (.one 7 false (.alt 1 (ordL [3, 4, 8, 10] [3, 4, 5, 8, 9, 10]) (.alt 3 (.alt 1 (ordL [4, 8, 10] [4, 5, 8, 9, 10]) (.alt 4 (.one 5 false (.alt 1 (ordL [8, 10] [8, 9, 10]) (.alt 8 (ordL [10] [1, 9, 10]) .no))) .no)) .no)))))) (by decide +kernel) ?_ | refine Draw.mk (ordL [8, 10] [0, 1, 2, 3, 4, 5, 6, 7, 8, 9, 10]) (by decide +kernel) ?_ | refine Draw.mk (ordL [7] [0, 1, 2, 3, 4, 5, 6, 7, 8]) (by decide +kernel) ?_ | refine Look.yes (View.mk _ (fzLL_map fz_oset _) ?_) | refine CallV.eq hfrom rfl (by repeat' first | exact Free.lit _ | refine Free.tup ?_ | refine Free.agg ?_ | (refine Free.map ?_; intro e _) | refine List.forall_mem_cons.2 ⟨?_, ?_⟩ | exact List.forall_mem_nil _) ?_ | (refine Need.mk ⟨by omega, by rw [List.length_map, Int.toNat_natCast]; omega⟩ ?_) | refine PickN.map hFx ?_ | refine PickN.mk _ hF2 ?_ | (refine Need.mk ⟨by omega, by rw [List.length_set, List.length_map, Int.toNat_natCast]; omega⟩ ?_) | refine Look.yes (View.mk _ (fzw _) ?_) | refine CallV.eq hto rfl (by repeat' first | exact Free.lit _ | refine Free.tup ?_ | refine Free.agg ?_ | (refine Free.map ?_; intro e _) | refine List.forall_mem_cons.2 ⟨?_, ?_⟩ | exact List.forall_mem_nil _) ?_ | refine Len.map ?_ | refine Len.nil ?_ | refine Len.cons ?_ | refine Br.t rfl ?_ | refine Br.f rfl ?_ | refine Fit.au ?_ | refine Cv.au ?_ | refine Need.ne ?_ | refine Need.au ?_ | refine Pick.map (by assumption) ?_ | refine Pick.mapI (by omega) (by assumption) ?_ | refine PickN.mk _ (by assumption) ?_ | refine PickN.mk _ rfl ?_ | refine PickN.au ?_ | refine App.au rfl ?_ | refine App.au (own_map (fun _ => rfl) _) ?_ | refine Both.mk ?_ ?_ | exact True.intro
      refine Stop.mk ?_
      refine Run.fr (g := []) (tm' := (11, num x) :: tmQ p) (hp' := hpQ p (F.set x fr) T Q) (nx' := 8) ?_ ⟨rfl, ?_, ?_⟩
      rotate_left
      · unfold tmQ tmN; exact (by repeat' first | exact trivial | refine ⟨rfl, ?_⟩)
      · unfold hpQ hpN
        rw [List.map_set]
        exact (by repeat' first | exact trivial | refine ⟨rfl, ?_⟩)
      unfold tmQ hpQ tmN hpN
      refine go 1000 Tryd.func46 ?_
      repeat' first | refine Draw.mk (.one 0 false (.one 2 false (.alt 1 (.alt 3 (ordL [5, 6] [4, 5, 6]) (.alt 5 (ordL [3, 6] [3, 4, 6]) .no)) (.alt 3 (.alt 1 (ordL [5, 6] [4, 5, 6]) (.alt 5 (ordL [1, 6] [1, 4, 6]) .no)) (.alt 5 (.alt 1 (ordL [3, 6] [3, 4, 6]) (.alt 3 (ordL [1, 6] [1, 4, 6]) .no)) .no))))) (by decide +kernel) ?_ | refine Draw.mk (.one 0 false (.one 2 false (.one 6 false (.one 7 false (.alt 1 (ordL [3, 4, 8, 10] [3, 4, 5, 8, 9, 10]) (.alt 3 (.alt 1 (ordL [4, 8, 10] [4, 5, 8, 9, 10]) (.alt 4 (.one 5 false (.alt 1 (ordL [8, 10] [8, 9, 10]) (.alt 8 (ordL [1, 10] [1, 9, 10]) .no))) .no)) .no)))))) (by decide +kernel) ?_ | refine Draw.mk (.one 0 false (.one 2 false (.one 3 false (.one 4 false (.one 5 false (.one 6 false (.alt 1 (ordL [7, 8, 10] [7, 8, 9, 10]) (.alt 7 (.alt 1 (ordL [8, 10] [8, 9, 10]) (.alt 8 (ordL [1, 10] [1, 9, 10]) .no)) .no)))))))) (by decide +kernel) ?_ | refine Draw.mk (ordL [3, 6, 7] [0, 1, 2, 4, 3, 5, 6, 7, 8]) (by decide +kernel) ?_ | (refine Need.mk ⟨by omega, by rw [List.length_map, List.length_set, Int.toNat_natCast]; omega⟩ ?_) | refine PickN.map hF2 ?_ | refine Look.yes (View.mk _ (fzw _) ?_) | refine View.mk _ (fzw _) ?_ | refine CallV.eq hto rfl (by repeat' first | exact Free.lit _ | refine Free.tup ?_ | refine Free.agg ?_ | (refine Free.map ?_; intro e _) | refine List.forall_mem_cons.2 ⟨?_, ?_⟩ | exact List.forall_mem_nil _) ?_ | refine PickN.map hTx ?_ | (refine CallV.of hS ?_; rintro r ⟨v, rfl, hv⟩; refine ⟨rfl, (by repeat' first | exact Free.lit _ | refine Free.tup ?_ | refine Free.agg ?_ | (refine Free.map ?_; intro e _) | refine List.forall_mem_cons.2 ⟨?_, ?_⟩ | exact List.forall_mem_nil _), ?_⟩) | refine Len.map ?_ | refine Len.nil ?_ | refine Len.cons ?_ | refine Br.t rfl ?_ | refine Br.f rfl ?_ | refine Fit.au ?_ | refine Cv.au ?_ | refine Need.ne ?_ | refine Need.au ?_ | refine Pick.map (by assumption) ?_ | refine Pick.mapI (by omega) (by assumption) ?_ | refine PickN.mk _ (by assumption) ?_ | refine PickN.mk _ rfl ?_ | refine PickN.au ?_ | refine App.au rfl ?_ | refine App.au (own_map (fun _ => rfl) _) ?_ | refine Both.mk ?_ ?_ | exact True.intro
      refine Br.mk (fun e => ?_) (fun e => ?_)
      · repeat' first | refine Len.map ?_ | refine Len.nil ?_ | refine Len.cons ?_ | refine Br.t rfl ?_ | refine Br.f rfl ?_ | refine Fit.au ?_ | refine Cv.au ?_ | refine Need.ne ?_ | refine Need.au ?_ | refine Pick.map (by assumption) ?_ | refine Pick.mapI (by omega) (by assumption) ?_ | refine PickN.mk _ (by assumption) ?_ | refine PickN.mk _ rfl ?_ | refine PickN.au ?_ | refine App.au rfl ?_ | refine App.au (own_map (fun _ => rfl) _) ?_ | refine Both.mk ?_ ?_ | exact True.intro
        refine Look.stop (Stop.mk ?_)
        refine run_unf (id := 4) rfl ?_
        refine jn ⟨T, F.set x fr, Q⟩ (g := []) _ _ _ ⟨rfl, ?_, ?_⟩ ⟨hsame (hv.1 e), by dsimp only; omega⟩
        · unfold tmQ tmN; exact (by repeat' first | exact trivial | refine ⟨rfl, ?_⟩)
        · unfold hpQ hpN
          exact (by repeat' first | exact trivial | refine ⟨rfl, ?_⟩ | refine ⟨congrArg (fun l => some (Row.row 1 l)) hr3, ?_⟩ | refine ⟨congrArg (fun l => some (Row.row 1 l)) hr4, ?_⟩)
      · repeat' first | (refine Need.mk ⟨by omega, by rw [List.length_set, List.length_map, Int.toNat_natCast]; omega⟩ ?_) | refine PickN.mk _ hT3 ?_ | refine Pick.map hbrow ?_ | refine Len.map ?_ | refine Len.nil ?_ | refine Len.cons ?_ | refine Br.t rfl ?_ | refine Br.f rfl ?_ | refine Fit.au ?_ | refine Cv.au ?_ | refine Need.ne ?_ | refine Need.au ?_ | refine Pick.map (by assumption) ?_ | refine Pick.mapI (by omega) (by assumption) ?_ | refine PickN.mk _ (by assumption) ?_ | refine PickN.mk _ rfl ?_ | refine PickN.au ?_ | refine App.au rfl ?_ | refine App.au (own_map (fun _ => rfl) _) ?_ | refine Both.mk ?_ ?_ | exact True.intro
        have hbr := behind_rng hp hx
        have hbll := behind_len hp hx
        refine Stop.mk (loop_in (g := []) (fun j : Nat => (102, ints (behindAt p x)) :: (103, num (behindAt p x).length) :: (104, num j) :: tmQ p) (fun j => hpQ p (F.set x fr) (T.set x to_) (putL Q ((behindAt p x).take j))) 8 (fun j => j ≤ (behindAt p x).length) (fun j => (behindAt p x).length - j) 0 (by omega) ⟨rfl, ?_, ?_⟩ (fun j hj ih2 => ?_))
        · unfold tmQ tmN; exact (by repeat' first | exact trivial | refine ⟨rfl, ?_⟩)
        · unfold hpQ hpN
          exact (by repeat' first | exact trivial | refine ⟨rfl, ?_⟩ | refine ⟨congrArg (fun l => some (Row.row 1 l)) hr3, ?_⟩ | refine ⟨congrArg (fun l => some (Row.row 1 l)) hr5, ?_⟩)
        by_cases h2 : j < (behindAt p x).length
        · obtain ⟨b, gb, gbm⟩ := getK (l := behindAt p x) (k := j) h2
          obtain ⟨hb0, hb1⟩ := hbr b gbm
          have hpt := putL_take (Q := Q) gb
          obtain ⟨b, rfl⟩ : ∃ n : Nat, b = n := ⟨b.toNat, by omega⟩
          unfold tmQ hpQ tmN hpN
          refine go 18 Tryd.func46 ?_
          repeat' first | refine Br.t (by simp; omega) ?_ | refine Pick.map gb ?_ | refine Len.map ?_ | refine Len.nil ?_ | refine Len.cons ?_ | refine Br.t rfl ?_ | refine Br.f rfl ?_ | refine Fit.au ?_ | refine Cv.au ?_ | refine Need.ne ?_ | refine Need.au ?_ | refine Pick.map (by assumption) ?_ | refine Pick.mapI (by omega) (by assumption) ?_ | refine PickN.mk _ (by assumption) ?_ | refine PickN.mk _ rfl ?_ | refine PickN.au ?_ | refine App.au rfl ?_ | refine App.au (own_map (fun _ => rfl) _) ?_ | refine Both.mk ?_ ?_ | exact True.intro
          have hn2 : (putL Q ((behindAt p x).take j)).Nodup := putL_nodup hnod
          have hr2 : ∀ k ∈ putL Q ((behindAt p x).take j), k < p.edges.length := fun k hk => by
            rcases putL_mem.1 hk with hk | ⟨c, hc, rfl⟩
            · exact hq.rng k (List.mem_cons_of_mem _ hk)
            · have := hbr c (List.mem_of_mem_take hc); omega
          generalize putL Q ((behindAt p x).take j) = Q2 at *
          rw [Int.toNat_natCast] at hpt
          refine Stop.mk ?_
          refine run_inlC rfl want_none rfl rfl rfl rfl rfl rfl rfl (put_run p hp (F.set x fr) (T.set x to_) Q2 b (by omega) (fun h => nodup_lt hn2 hr2 (by omega) h) (fun h => ?_) (fun h => ?_))
          · rw [show put1 Q2 b = Q2 from if_pos h] at hpt
            unfold hpQ hpN
            refine go 1000 Tryd.func46 ?_
            repeat' first | refine Len.map ?_ | refine Len.nil ?_ | refine Len.cons ?_ | refine Br.t rfl ?_ | refine Br.f rfl ?_ | refine Fit.au ?_ | refine Cv.au ?_ | refine Need.ne ?_ | refine Need.au ?_ | refine Pick.map (by assumption) ?_ | refine Pick.mapI (by omega) (by assumption) ?_ | refine PickN.mk _ (by assumption) ?_ | refine PickN.mk _ rfl ?_ | refine PickN.au ?_ | refine App.au rfl ?_ | refine App.au (own_map (fun _ => rfl) _) ?_ | refine Both.mk ?_ ?_ | exact True.intro
            refine Stop.mk (ih2 (j + 1) (g := []) _ _ _ (by omega) (by omega) ?_)
            rw [hpt]
            unfold hpQ hpN tmQ tmN
            exact ⟨rfl, (by repeat' first | exact trivial | refine ⟨rfl, ?_⟩), (by repeat' first | exact trivial | refine ⟨rfl, ?_⟩)⟩
          · rw [show put1 Q2 b = Q2 ++ [b] from if_neg h] at hpt
            unfold hpR hpN
            refine go 1000 Tryd.func46 ?_
            repeat' first | refine Len.map ?_ | refine Len.nil ?_ | refine Len.cons ?_ | refine Br.t rfl ?_ | refine Br.f rfl ?_ | refine Fit.au ?_ | refine Cv.au ?_ | refine Need.ne ?_ | refine Need.au ?_ | refine Pick.map (by assumption) ?_ | refine Pick.mapI (by omega) (by assumption) ?_ | refine PickN.mk _ (by assumption) ?_ | refine PickN.mk _ rfl ?_ | refine PickN.au ?_ | refine App.au rfl ?_ | refine App.au (own_map (fun _ => rfl) _) ?_ | refine Both.mk ?_ ?_ | exact True.intro
            refine Stop.mk (ih2 (j + 1) (g := []) _ _ _ (by omega) (by omega) ?_)
            rw [hpt]
            unfold hpQ hpN tmQ tmN
            exact ⟨rfl, (by repeat' first | exact trivial | refine ⟨rfl, ?_⟩), (by repeat' first | exact trivial | refine ⟨rfl, ?_⟩)⟩
        · obtain rfl : j = (behindAt p x).length := by omega
          rw [List.take_length]
          unfold tmQ hpQ tmN hpN
          refine go 1000 Tryd.func46 ?_
          repeat' first | refine Br.f (by simp) ?_ | refine Len.map ?_ | refine Len.nil ?_ | refine Len.cons ?_ | refine Br.t rfl ?_ | refine Br.f rfl ?_ | refine Fit.au ?_ | refine Cv.au ?_ | refine Need.ne ?_ | refine Need.au ?_ | refine Pick.map (by assumption) ?_ | refine Pick.mapI (by omega) (by assumption) ?_ | refine PickN.mk _ (by assumption) ?_ | refine PickN.mk _ rfl ?_ | refine PickN.au ?_ | refine App.au rfl ?_ | refine App.au (own_map (fun _ => rfl) _) ?_ | refine Both.mk ?_ ?_ | exact True.intro
          refine Look.stop (Stop.mk ?_)
          refine jn ⟨T.set x to_, F.set x fr, putL Q (behindAt p x)⟩ (g := []) _ _ _ ⟨rfl, ?_, ?_⟩ ⟨?_, ?_⟩
          · unfold tmQ tmN; exact (by repeat' first | exact trivial | refine ⟨rfl, ?_⟩)
          · unfold hpQ hpN; exact (by repeat' first | exact trivial | refine ⟨rfl, ?_⟩)
          · have hr2 : ∀ k ∈ putL Q (behindAt p x), k < p.edges.length := fun k hk => by
              rcases putL_mem.1 hk with hk | ⟨c, hc, rfl⟩
              · exact hq.rng k (List.mem_cons_of_mem _ hk)
              · have := hbr c hc; omega
            exact hstep _ (putL_nodup hnod) hr2 (fun k hk => putL_mem.2 (.inl hk)) (fun k hk hm => putL_mem.2 (.inr ⟨k, hm, by omega⟩))
          · have hr2 : ∀ k ∈ putL Q (behindAt p x), k < p.edges.length := fun k hk => by
              rcases putL_mem.1 hk with hk | ⟨c, hc, rfl⟩
              · exact hq.rng k (List.mem_cons_of_mem _ hk)
              · have := hbr c hc; omega
            have h3 := nodup_le (putL_nodup hnod) hr2
            have h4 := muT_lt (by omega) hle hlowt hq.low (fun h => by rw [hv.2 h] at e; cases e)
            have h5 := Nat.mul_le_mul_right (p.edges.length + 1) h4
            rw [Nat.succ_mul] at h5
            dsimp only
            omega
    · intro q hq2
      obtain ⟨T2, F2, Q2⟩ := q
      obtain ⟨hq2, hmu⟩ := hq2
      dsimp only at hq2 hmu ⊢
      cases Q2 with
      | nil =>
        unfold tmQ hpQ tmN hpN
        refine run_inlC rfl want_none rfl rfl rfl rfl rfl rfl rfl (take_none p hp F2 T2 ?_)
        unfold hpQ hpN
        refine go 1000 Tryd.func46 ?_
        repeat' first | refine Len.map ?_ | refine Len.nil ?_ | refine Len.cons ?_ | refine Br.t rfl ?_ | refine Br.f rfl ?_ | refine Fit.au ?_ | refine Cv.au ?_ | refine Need.ne ?_ | refine Need.au ?_ | refine Pick.map (by assumption) ?_ | refine Pick.mapI (by omega) (by assumption) ?_ | refine PickN.mk _ (by assumption) ?_ | refine PickN.mk _ rfl ?_ | refine PickN.au ?_ | refine App.au rfl ?_ | refine App.au (own_map (fun _ => rfl) _) ?_ | refine Both.mk ?_ ?_ | exact True.intro
        refine Stop.mk (ih ⟨T2, F2, []⟩ (g := []) _ _ _ hq2 (by dsimp only; exact hmu) ?_)
        unfold tmH hpQ hpN tmQ tmN
        exact ⟨rfl, (by repeat' first | exact trivial | refine ⟨rfl, ?_⟩), (by repeat' first | exact trivial | refine ⟨rfl, ?_⟩)⟩
      | cons y Q2 =>
        have hy := hq2.rng y (List.mem_cons_self ..)
        have hny := (List.nodup_cons.1 hq2.nod).1
        unfold tmQ hpQ tmN hpN
        refine run_inlC rfl want_none rfl rfl rfl rfl rfl rfl rfl (take_some p hp F2 T2 y Q2 hy hny ?_)
        unfold hpR hpN
        refine go 1000 Tryd.func46 ?_
        repeat' first | refine Len.map ?_ | refine Len.nil ?_ | refine Len.cons ?_ | refine Br.t rfl ?_ | refine Br.f rfl ?_ | refine Fit.au ?_ | refine Cv.au ?_ | refine Need.ne ?_ | refine Need.au ?_ | refine Pick.map (by assumption) ?_ | refine Pick.mapI (by omega) (by assumption) ?_ | refine PickN.mk _ (by assumption) ?_ | refine PickN.mk _ rfl ?_ | refine PickN.au ?_ | refine App.au rfl ?_ | refine App.au (own_map (fun _ => rfl) _) ?_ | refine Both.mk ?_ ?_ | exact True.intro
        refine Stop.mk (ih ⟨T2, F2, y :: Q2⟩ (g := []) _ _ _ hq2 (by dsimp only; exact hmu) ?_)
        unfold tmH hpQ hpN tmQ tmN
        exact ⟨rfl, (by repeat' first | exact trivial | refine ⟨rfl, ?_⟩), (by repeat' first | exact trivial | refine ⟨rfl, ?_⟩)⟩
end Go.Proofs.YtdgibhndjdgllaaDoor

/- The solution of a flow, by a contract. -/
namespace Go.Proofs.YtdgibhndjdgllaaDoor
open Go.Ax
set_option maxRecDepth 10000
set_option linter.unusedVariables false
set_option maxHeartbeats 0

theorem vle_oslO {sz : Nat} {xs ys : List (List AV)} (h : OLeLL xs ys) : VLe (.osl sz xs) (.osl sz ys) := fun I w x F k => by
  rcases k with ⟨k, _⟩ | k
  · cases k with | std k => cases k
  · exact .inr (OLe.oslO h _ _ _ _ k)
theorem oset_rep (n : Nat) : OLeLL (List.replicate n [.lit (.slice none 0 0)]) ((List.replicate n ([] : List W)).map oset) := by
  rw [List.map_replicate]; exact OLeLL.rep (.cons OLe.onil .nil) n
theorem Solve46_spec (p : Prob) (hp : p.OK) : FnSpec Tryd.prog 46 [probA p] (QS p) := by
  obtain ⟨g, h, hL⟩ := latP p hp
  have hR := Right71_spec p hp
  have hW := ways72_spec p hp
  have hN := hL.none_
  have hfew := hp.few
  unfold QS
  refine spec_of 23 Tryd.func46 rfl rfl ?_
  repeat' first | refine Call.eq hR rfl ?_ | refine Len.map ?_ | refine Len.nil ?_ | refine Len.cons ?_ | refine Br.t rfl ?_ | refine Br.f rfl ?_ | refine Fit.au ?_ | refine Cv.au ?_ | refine Need.ne ?_ | refine Need.au ?_ | refine Pick.map (by assumption) ?_ | refine Pick.mapI (by omega) (by assumption) ?_ | refine PickN.mk _ (by assumption) ?_ | refine PickN.mk _ rfl ?_ | refine PickN.au ?_ | refine App.au rfl ?_ | refine App.au (own_map (fun _ => rfl) _) ?_ | refine Both.mk ?_ ?_ | exact True.intro
  refine Stop.mk ?_
  apply join (fun _ : Unit => [(1, .hp 0 0), (2, .hp 1 0), (3, tru false), (4, num p.edges.length), (5, .hp 2 0)]) (fun _ => [(0, .var p.cs), (1, .var [.lit (.slice none 0 0), .lit (.slice none 0 0)]), (2, .var [.osl 1 (List.replicate p.edges.length [.lit (.slice none 0 0)]), .osl 1 (List.replicate p.edges.length [.lit (.slice none 0 0)])])]) 3 (fun _ => True)
  · intro jn
    refine go 1 Tryd.func46 ?_
    repeat' first | refine Draw.mk (.one 0 false (.one 2 false (.alt 1 (.alt 3 (ordL [5, 6] [4, 5, 6]) (.alt 5 (ordL [3, 6] [3, 4, 6]) .no)) (.alt 3 (.alt 1 (ordL [5, 6] [4, 5, 6]) (.alt 5 (ordL [1, 6] [1, 4, 6]) .no)) (.alt 5 (.alt 1 (ordL [3, 6] [3, 4, 6]) (.alt 3 (ordL [1, 6] [1, 4, 6]) .no)) .no))))) (by decide +kernel) ?_ | refine Draw.mk (.one 0 false (.one 2 false (.one 6 false (.one 7 false (.alt 1 (ordL [3, 4, 8, 10] [3, 4, 5, 8, 9, 10]) (.alt 3 (.alt 1 (ordL [4, 8, 10] [4, 5, 8, 9, 10]) (.alt 4 (.one 5 false (.alt 1 (ordL [8, 10] [8, 9, 10]) (.alt 8 (ordL [1, 10] [1, 9, 10]) .no))) .no)) .no)))))) (by decide +kernel) ?_ | refine Draw.mk (.one 0 false (.one 2 false (.one 3 false (.one 4 false (.one 5 false (.one 6 false (.alt 1 (ordL [7, 8, 10] [7, 8, 9, 10]) (.alt 7 (.alt 1 (ordL [8, 10] [8, 9, 10]) (.alt 8 (ordL [1, 10] [1, 9, 10]) .no)) .no)))))))) (by decide +kernel) ?_ | refine Draw.mk (ordL [3, 6, 7] [0, 1, 2, 4, 3, 5, 6, 7, 8]) (by decide +kernel) ?_ | refine MkS.mk p.edges.length rfl rfl (by omega) (by omega) ?_ | refine Len.map ?_ | refine Len.nil ?_ | refine Len.cons ?_ | refine Br.t rfl ?_ | refine Br.f rfl ?_ | refine Fit.au ?_ | refine Cv.au ?_ | refine Need.ne ?_ | refine Need.au ?_ | refine Pick.map (by assumption) ?_ | refine Pick.mapI (by omega) (by assumption) ?_ | refine PickN.mk _ (by assumption) ?_ | refine PickN.mk _ rfl ?_ | refine PickN.au ?_ | refine App.au rfl ?_ | refine App.au (own_map (fun _ => rfl) _) ?_ | refine Both.mk ?_ ?_ | exact True.intro
    all_goals (refine Stop.mk ?_; first | (refine jn () (g := [(2, 2)]) _ _ _ ⟨rfl, ?_, ?_⟩ trivial; all_goals (repeat' first | exact trivial | refine ⟨rfl, ?_⟩); done) | (refine jn () (g := [(2, 3)]) _ _ _ ⟨rfl, ?_, ?_⟩ trivial; all_goals (repeat' first | exact trivial | refine ⟨rfl, ?_⟩); done) | (refine jn () (g := [(2, 4)]) _ _ _ ⟨rfl, ?_, ?_⟩ trivial; all_goals (repeat' first | exact trivial | refine ⟨rfl, ?_⟩); done))
  rintro _ _
  apply join (fun _ : Unit => [(1, .hp 0 0), (2, .hp 1 0), (3, tru false), (4, num p.edges.length), (5, .hp 2 0), (6, lsts (aheadL p)), (7, lsts (behindL p))]) (fun _ => [(0, .var p.cs), (1, .var [.lit (.slice none 0 0), .lit (.slice none 0 0)]), (2, .var [.osl 1 (List.replicate p.edges.length [.lit (.slice none 0 0)]), .osl 1 (List.replicate p.edges.length [.lit (.slice none 0 0)])])]) 3 (fun _ => True)
  · intro jn
    unfold aheadL behindL at jn
    cases hb : p.back with
    | true =>
      rw [hb] at hW jn
      refine go 12 Tryd.func46 ?_
      repeat' first | refine Call.eq hW rfl ?_ | refine Len.map ?_ | refine Len.nil ?_ | refine Len.cons ?_ | refine Br.t rfl ?_ | refine Br.f rfl ?_ | refine Fit.au ?_ | refine Cv.au ?_ | refine Need.ne ?_ | refine Need.au ?_ | refine Pick.map (by assumption) ?_ | refine Pick.mapI (by omega) (by assumption) ?_ | refine PickN.mk _ (by assumption) ?_ | refine PickN.mk _ rfl ?_ | refine PickN.au ?_ | refine App.au rfl ?_ | refine App.au (own_map (fun _ => rfl) _) ?_ | refine Both.mk ?_ ?_ | exact True.intro
      refine Stop.mk ?_
      refine run_frzR 3 rfl (fzLL_map fz_olsts _) ?_
      refine jn () (g := []) _ _ _ ⟨rfl, ?_, ?_⟩ trivial
      all_goals (repeat' first | exact trivial | refine ⟨rfl, ?_⟩)
    | false =>
      rw [hb] at hW jn
      refine go 12 Tryd.func46 ?_
      repeat' first | refine Call.eq hW rfl ?_ | refine Len.map ?_ | refine Len.nil ?_ | refine Len.cons ?_ | refine Br.t rfl ?_ | refine Br.f rfl ?_ | refine Fit.au ?_ | refine Cv.au ?_ | refine Need.ne ?_ | refine Need.au ?_ | refine Pick.map (by assumption) ?_ | refine Pick.mapI (by omega) (by assumption) ?_ | refine PickN.mk _ (by assumption) ?_ | refine PickN.mk _ rfl ?_ | refine PickN.au ?_ | refine App.au rfl ?_ | refine App.au (own_map (fun _ => rfl) _) ?_ | refine Both.mk ?_ ?_ | exact True.intro
      refine Stop.mk ?_
      refine run_frzR 3 rfl (fzLL_map fz_olsts _) ?_
      refine jn () (g := []) _ _ _ ⟨rfl, ?_, ?_⟩ trivial
      all_goals (repeat' first | exact trivial | refine ⟨rfl, ?_⟩)
  rintro _ _
  refine run_varLe 2 rfl (.cons (vle_oslO (oset_rep _)) (.cons (vle_oslO (oset_rep _)) .nil)) ?_
  refine run_unfold 2 0 rfl rfl ?_
  refine run_unfold 2 1 rfl rfl ?_
  refine go 1000 Tryd.func46 ?_
  repeat' first | refine Len.map ?_ | refine Len.nil ?_ | refine Len.cons ?_ | refine Br.t rfl ?_ | refine Br.f rfl ?_ | refine Fit.au ?_ | refine Cv.au ?_ | refine Need.ne ?_ | refine Need.au ?_ | refine Pick.map (by assumption) ?_ | refine Pick.mapI (by omega) (by assumption) ?_ | refine PickN.mk _ (by assumption) ?_ | refine PickN.mk _ rfl ?_ | refine PickN.au ?_ | refine App.au rfl ?_ | refine App.au (own_map (fun _ => rfl) _) ?_ | refine Both.mk ?_ ?_ | exact True.intro
  rw [← fillX_zero p.edges.length (noneW p) ([] : List W)]
  refine Stop.mk (loop_in (g := []) (fun k : Nat => [(1, .hp 0 0), (2, .hp 1 0), (3, tru false), (4, num p.edges.length), (5, .hp 2 0), (6, lsts (aheadL p)), (7, lsts (behindL p)), (33, num p.edges.length), (34, num k)])
    (fun k => [(4, .row 1 ((fillX p.edges.length k (noneW p) []).map oset)), (2, .var [.hw 3, .hw 4]), (3, .row 1 ((List.replicate p.edges.length ([] : List W)).map oset)), (0, .var p.cs), (1, .var [.lit (.slice none 0 0), .lit (.slice none 0 0)])]) 5
    (fun k => k ≤ p.edges.length) (fun k => p.edges.length - k) 0 (by omega) ?_ (fun k hk ih => ?_))
  · rw [fillX_zero]
    exact ⟨rfl, (by repeat' first | exact trivial | refine ⟨rfl, ?_⟩ | refine ⟨congrArg (fun n => AV.lit (.int .i64 n)) (by omega), ?_⟩ | refine ⟨congrArg (fun l => some (Row.row 1 l)) (by simp [int1, num, tru]), ?_⟩), (by repeat' first | exact trivial | refine ⟨rfl, ?_⟩ | refine ⟨congrArg (fun n => AV.lit (.int .i64 n)) (by omega), ?_⟩ | refine ⟨congrArg (fun l => some (Row.row 1 l)) (by simp [int1, num, tru]), ?_⟩)⟩
  by_cases h2 : k < p.edges.length
  · have hset := fillX_set (n := p.edges.length) (k := k) (x := noneW p) (d := []) (by omega)
    have h3 : ((fillX p.edges.length k (noneW p) []).map oset).set k [.osl 1 ((noneW p).map u1)] = (fillX p.edges.length (k + 1) (noneW p) []).map oset := by
      rw [← hset, List.map_set]; rfl
    refine go 1000 Tryd.func46 ?_
    repeat' first | refine Len.map ?_ | refine Len.nil ?_ | refine Len.cons ?_ | refine Br.t rfl ?_ | refine Br.f rfl ?_ | refine Fit.au ?_ | refine Cv.au ?_ | refine Need.ne ?_ | refine Need.au ?_ | refine Pick.map (by assumption) ?_ | refine Pick.mapI (by omega) (by assumption) ?_ | refine PickN.mk _ (by assumption) ?_ | refine PickN.mk _ rfl ?_ | refine PickN.au ?_ | refine App.au rfl ?_ | refine App.au (own_map (fun _ => rfl) _) ?_ | refine Both.mk ?_ ?_ | exact True.intro
    refine Br.t (by simp; omega) ?_
    repeat' first | refine Draw.mk (.one 0 false (.one 2 false (.alt 1 (.alt 3 (ordL [5, 6] [4, 5, 6]) (.alt 5 (ordL [3, 6] [3, 4, 6]) .no)) (.alt 3 (.alt 1 (ordL [5, 6] [4, 5, 6]) (.alt 5 (ordL [1, 6] [1, 4, 6]) .no)) (.alt 5 (.alt 1 (ordL [3, 6] [3, 4, 6]) (.alt 3 (ordL [1, 6] [1, 4, 6]) .no)) .no))))) (by decide +kernel) ?_ | refine Draw.mk (.one 0 false (.one 2 false (.one 6 false (.one 7 false (.alt 1 (ordL [3, 4, 8, 10] [3, 4, 5, 8, 9, 10]) (.alt 3 (.alt 1 (ordL [4, 8, 10] [4, 5, 8, 9, 10]) (.alt 4 (.one 5 false (.alt 1 (ordL [8, 10] [8, 9, 10]) (.alt 8 (ordL [1, 10] [1, 9, 10]) .no))) .no)) .no)))))) (by decide +kernel) ?_ | refine Draw.mk (.one 0 false (.one 2 false (.one 3 false (.one 4 false (.one 5 false (.one 6 false (.alt 1 (ordL [7, 8, 10] [7, 8, 9, 10]) (.alt 7 (.alt 1 (ordL [8, 10] [8, 9, 10]) (.alt 8 (ordL [1, 10] [1, 9, 10]) .no)) .no)))))))) (by decide +kernel) ?_ | refine Draw.mk (ordL [3, 6, 7] [0, 1, 2, 4, 3, 5, 6, 7, 8]) (by decide +kernel) ?_ | refine Call.eq hL.of_ rfl ?_ | (refine Dyn.spec _ _ hN (.cons (.inl rfl) .nil) rfl (fun r hr => ?_); subst hr; refine ⟨rfl, (by repeat' first | exact Free.lit _ | refine Free.tup ?_ | refine Free.agg ?_ | (refine Free.map ?_; intro e _) | refine List.forall_mem_cons.2 ⟨?_, ?_⟩ | exact List.forall_mem_nil _), ?_⟩) | (refine Need.mk ⟨by omega, by rw [List.length_map, fillX_len]; omega⟩ ?_) | (refine PickN.map (fillX_at (by omega)) ?_) | refine Len.map ?_ | refine Len.nil ?_ | refine Len.cons ?_ | refine Br.t rfl ?_ | refine Br.f rfl ?_ | refine Fit.au ?_ | refine Cv.au ?_ | refine Need.ne ?_ | refine Need.au ?_ | refine Pick.map (by assumption) ?_ | refine Pick.mapI (by omega) (by assumption) ?_ | refine PickN.mk _ (by assumption) ?_ | refine PickN.mk _ rfl ?_ | refine PickN.au ?_ | refine App.au rfl ?_ | refine App.au (own_map (fun _ => rfl) _) ?_ | refine Both.mk ?_ ?_ | exact True.intro
    all_goals exact Stop.mk (ih (k + 1) (g := []) _ _ _ (by omega) (by omega) ⟨rfl, (by repeat' first | exact trivial | refine ⟨rfl, ?_⟩), by refine ⟨congrArg (fun l => some (Row.row 1 l)) h3, ?_⟩; repeat' first | exact trivial | refine ⟨rfl, ?_⟩⟩)
  · obtain rfl : k = p.edges.length := by omega
    refine go 7 Tryd.func46 ?_
    repeat' first | refine Len.map ?_ | refine Len.nil ?_ | refine Len.cons ?_ | refine Br.t rfl ?_ | refine Br.f rfl ?_ | refine Fit.au ?_ | refine Cv.au ?_ | refine Need.ne ?_ | refine Need.au ?_ | refine Pick.map (by assumption) ?_ | refine Pick.mapI (by omega) (by assumption) ?_ | refine PickN.mk _ (by assumption) ?_ | refine PickN.mk _ rfl ?_ | refine PickN.au ?_ | refine App.au rfl ?_ | refine App.au (own_map (fun _ => rfl) _) ?_ | refine Both.mk ?_ ?_ | exact True.intro
    refine Br.f (by simp) ?_
    repeat' first | refine Len.map ?_ | refine Len.nil ?_ | refine Len.cons ?_ | refine Br.t rfl ?_ | refine Br.f rfl ?_ | refine Fit.au ?_ | refine Cv.au ?_ | refine Need.ne ?_ | refine Need.au ?_ | refine Pick.map (by assumption) ?_ | refine Pick.mapI (by omega) (by assumption) ?_ | refine PickN.mk _ (by assumption) ?_ | refine PickN.mk _ rfl ?_ | refine PickN.au ?_ | refine App.au rfl ?_ | refine App.au (own_map (fun _ => rfl) _) ?_ | refine Both.mk ?_ ?_ | exact True.intro
    have hI := FlowI.start hp
    rw [← fillX_all] at hI
    refine Stop.mk (Run.fr (g := []) (new_run p hp _ _ _ (puts_run p hp _ _ _ (main_run p hp _ _ _ hI))) ⟨rfl, ?_, ?_⟩)
    · unfold tmN; exact (by repeat' first | exact trivial | refine ⟨rfl, ?_⟩)
    · unfold hpN; exact (by repeat' first | exact trivial | refine ⟨rfl, ?_⟩)
end Go.Proofs.YtdgibhndjdgllaaDoor
