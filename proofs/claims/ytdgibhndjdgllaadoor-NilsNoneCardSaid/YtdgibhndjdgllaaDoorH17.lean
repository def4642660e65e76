/- A flow's problem that may not be: there is no solution (where the table is laid). -/
import Derived.Test.YtdgibhndjdgllaaDoorH16
import Derived.Test.YtdgibhndjdgllaaDoorH11
import Derived.Test.YtdgibhndjdgllaaDoorH12
import Derived.Test.YtdgibhndjdgllaaDoorH09
import Derived.Test.YtdgibhndjdgllaaDoorH07
set_option linter.unusedVariables false
set_option linter.unusedSimpArgs false

namespace Go.Proofs.YtdgibhndjdgllaaDoor
open Go.Ax
set_option maxRecDepth 10000
set_option linter.unusedVariables false
set_option maxHeartbeats 0

theorem Right102_no (s : List W) (n : Nat) (hn : n ≤ 65536) (hsl : s.length = wn n) (hr : ¬ RightW s n) (vs : List Value) (hv : ∀ k, k < 64 → vs[(deJ (bitW k)).toNat]? = some (.int .u8 k)) :
    FnSpecT Tryd.prog [(0, vs)] 102 [sets s, num n] (fun r => r = tru false) := by
  have hw := wn_le hn
  have hN := New35_spec n hn
  have hF := Full43_spec n hn
  have hL := Less45_spec s (fullW n) (by omega) (by rw [fullW_len]; omega)
  have hLi := List28_specT (lessW s (fullW n)) (by unfold lessW; rw [fillW_len]; omega) vs hv
  have hnl := newW_len n
  have hne := notRight hsl hr
  have hll := listN_len (lessW s (fullW n)) (lessW s (fullW n)).length
  have hle : (lessW s (fullW n)).length = s.length := by unfold lessW; rw [fillW_len]
  have hl2 : (listW (lessW s (fullW n))).length ≤ 65536 := by unfold listW; omega
  generalize listW (lessW s (fullW n)) = l at *
  refine specT_of_run 0 vs Tryd.func102 rfl rfl rfl ?_
  refine go 1000 Tryd.func102 ?_
  repeat' first | (refine Br.f ?_ ?_; focus (simp; omega)) | refine Call.eq hN rfl ?_ | refine Len.map ?_ | refine Len.map ?_ | refine Len.nil ?_ | refine Len.cons ?_ | refine Br.t rfl ?_ | refine Br.f rfl ?_ | refine Fit.au ?_ | refine Cv.au ?_ | refine Need.ne ?_ | refine Need.au ?_ | refine Pick.map (by assumption) ?_ | refine Pick.mapI (by omega) (by assumption) ?_ | refine PickN.mk _ (by assumption) ?_ | refine PickN.mk _ rfl ?_ | refine PickN.au ?_ | refine App.au rfl ?_ | refine App.au (own_map (fun _ => rfl) _) ?_ | refine Both.mk ?_ ?_ | exact True.intro
  repeat' first | refine Call.eq hF rfl ?_ | refine Len.map ?_ | refine Len.nil ?_ | refine Len.cons ?_ | refine Br.t rfl ?_ | refine Br.f rfl ?_ | refine Fit.au ?_ | refine Cv.au ?_ | refine Need.ne ?_ | refine Need.au ?_ | refine Pick.map (by assumption) ?_ | refine Pick.mapI (by omega) (by assumption) ?_ | refine PickN.mk _ (by assumption) ?_ | refine PickN.mk _ rfl ?_ | refine PickN.au ?_ | refine App.au rfl ?_ | refine App.au (own_map (fun _ => rfl) _) ?_ | refine Both.mk ?_ ?_ | exact True.intro
  refine Look.stop (Stop.mk (run_frzR 2 rfl (fzw _) ?_))
  refine go 1000 Tryd.func102 ?_
  repeat' first | refine Call.eq hL rfl ?_ | refine Len.map ?_ | refine Len.nil ?_ | refine Len.cons ?_ | refine Br.t rfl ?_ | refine Br.f rfl ?_ | refine Fit.au ?_ | refine Cv.au ?_ | refine Need.ne ?_ | refine Need.au ?_ | refine Pick.map (by assumption) ?_ | refine Pick.mapI (by omega) (by assumption) ?_ | refine PickN.mk _ (by assumption) ?_ | refine PickN.mk _ rfl ?_ | refine PickN.au ?_ | refine App.au rfl ?_ | refine App.au (own_map (fun _ => rfl) _) ?_ | refine Both.mk ?_ ?_ | exact True.intro
  refine Look.stop (Stop.mk (run_frzR 3 rfl (fzw _) ?_))
  refine go 1000 Tryd.func102 ?_
  repeat' first | refine Call.eqT hLi rfl ?_ | refine Len.map ?_ | refine Len.nil ?_ | refine Len.cons ?_ | refine Br.t rfl ?_ | refine Br.f rfl ?_ | refine Fit.au ?_ | refine Cv.au ?_ | refine Need.ne ?_ | refine Need.au ?_ | refine Pick.map (by assumption) ?_ | refine Pick.mapI (by omega) (by assumption) ?_ | refine PickN.mk _ (by assumption) ?_ | refine PickN.mk _ rfl ?_ | refine PickN.au ?_ | refine App.au rfl ?_ | refine App.au (own_map (fun _ => rfl) _) ?_ | refine Both.mk ?_ ?_ | exact True.intro
  exact congrArg tru (decide_eq_false (by omega))
theorem Right71_no (p : Prob) (hp : p.Pre) (hno : ¬ ∀ s ∈ p.gen, RightW s p.width) (vs : List Value) (hv : ∀ k, k < 64 → vs[(deJ (bitW k)).toNat]? = some (.int .u8 k)) :
    FnSpecT Tryd.prog [(0, vs)] 71 [probA p] (fun r => r = tru false) := by
  have hw := hp.wid
  have hf := hp.few
  have h1 := Right102_spec p.start p.width hp.wid hp.start_
  have e1 := hp.genl
  have e2 := hp.kill_
  refine specT_of_run 0 vs Tryd.func71 rfl rfl rfl ?_
  refine go 1000 Tryd.func71 ?_
  repeat' first | (refine Br.f ?_ ?_; focus (first | (simp; omega) | (simp; done))) | refine Call.eq h1 rfl ?_ | refine Len.map ?_ | refine Len.nil ?_ | refine Len.cons ?_ | refine Br.t rfl ?_ | refine Br.f rfl ?_ | refine Fit.au ?_ | refine Cv.au ?_ | refine Need.ne ?_ | refine Need.au ?_ | refine Pick.map (by assumption) ?_ | refine Pick.mapI (by omega) (by assumption) ?_ | refine PickN.mk _ (by assumption) ?_ | refine PickN.mk _ rfl ?_ | refine PickN.au ?_ | refine App.au rfl ?_ | refine App.au (own_map (fun _ => rfl) _) ?_ | refine Both.mk ?_ ?_ | exact True.intro
  refine Stop.mk (loop_in (g := []) (fun k : Nat => [(1, .hp 1 0), (2, tru false), (3, num p.edges.length), (36, lsts p.edges), (37, num p.edges.length), (38, num k)]) (fun k => [(1, .var p.cs), (0, .tab 0 vs)]) 2 (fun k => k ≤ p.edges.length ∧ ∀ m s, m < k → p.gen[m]? = some s → RightW s p.width) (fun k => p.edges.length - k) 0 ⟨by omega, fun m _ hm => by omega⟩ ⟨rfl, (by repeat' first | exact trivial | refine ⟨rfl, ?_⟩ | refine ⟨congrArg (fun n => AV.lit (.int .i64 n)) (by omega), ?_⟩ | refine ⟨congrArg (fun l => some (Row.row 1 l)) (by simp [int1, num, tru]), ?_⟩), (by repeat' first | exact trivial | refine ⟨rfl, ?_⟩ | refine ⟨congrArg (fun n => AV.lit (.int .i64 n)) (by omega), ?_⟩ | refine ⟨congrArg (fun l => some (Row.row 1 l)) (by simp [int1, num, tru]), ?_⟩)⟩ (fun k hk ih => ?_))
  obtain ⟨hk1, hk2⟩ := hk
  by_cases h2 : k < p.edges.length
  · obtain ⟨l, gl, glm⟩ := getK (l := p.edges) (k := k) (by omega)
    obtain ⟨x, gx, gxm⟩ := getK (l := p.gen) (k := k) (by omega)
    obtain ⟨y, gy, gym⟩ := getK (l := p.kill) (k := k) (by omega)
    have hll := hp.small l glm
    have hlc := hp.closed l glm
    have hy := Right102_spec y p.width hp.wid (hp.kills y gym)
    by_cases hr : RightW x p.width
    · have hx := Right102_spec x p.width hp.wid hr
      refine go 1000 Tryd.func71 ?_
      repeat' first | refine Br.t (by simp; omega) ?_ | refine Draw.mk (ordL [7, 17] [0, 1, 2, 3, 4, 5, 6, 7, 8, 9, 10, 11, 12, 13, 14, 15, 16, 17, 18, 19]) (by decide +kernel) ?_ | refine Pick.map gl ?_ | refine Pick.map gx ?_ | refine Pick.map gy ?_ | refine Call.eq hx rfl ?_ | refine Call.eq hy rfl ?_ | refine Len.map ?_ | refine Len.nil ?_ | refine Len.cons ?_ | refine Br.t rfl ?_ | refine Br.f rfl ?_ | refine Fit.au ?_ | refine Cv.au ?_ | refine Need.ne ?_ | refine Need.au ?_ | refine Pick.map (by assumption) ?_ | refine Pick.mapI (by omega) (by assumption) ?_ | refine PickN.mk _ (by assumption) ?_ | refine PickN.mk _ rfl ?_ | refine PickN.au ?_ | refine App.au rfl ?_ | refine App.au (own_map (fun _ => rfl) _) ?_ | refine Both.mk ?_ ?_ | exact True.intro
      refine Stop.mk (loop_in (g := []) (fun j : Nat => [(1, .hp 1 0), (2, tru false), (3, num p.edges.length), (36, lsts p.edges), (37, num p.edges.length), (38, num k), (63, ints l), (64, num l.length), (65, num j)]) (fun j => [(1, .var p.cs), (0, .tab 0 vs)]) 2 (fun j => j ≤ l.length) (fun j => l.length - j) 0 (by omega) ⟨rfl, (by repeat' first | exact trivial | refine ⟨rfl, ?_⟩ | refine ⟨congrArg (fun n => AV.lit (.int .i64 n)) (by omega), ?_⟩ | refine ⟨congrArg (fun l => some (Row.row 1 l)) (by simp [int1, num, tru]), ?_⟩), (by repeat' first | exact trivial | refine ⟨rfl, ?_⟩ | refine ⟨congrArg (fun n => AV.lit (.int .i64 n)) (by omega), ?_⟩ | refine ⟨congrArg (fun l => some (Row.row 1 l)) (by simp [int1, num, tru]), ?_⟩)⟩ (fun j hj ih2 => ?_))
      by_cases h3 : j < l.length
      · obtain ⟨t, gt, gtm⟩ := getK (l := l) (k := j) (by omega)
        have ht := hlc t gtm
        refine go 1000 Tryd.func71 ?_
        repeat' first | refine Br.t (by simp; omega) ?_ | refine Pick.map gt ?_ | (refine Br.f ?_ ?_; focus (simp; omega)) | refine Len.map ?_ | refine Len.nil ?_ | refine Len.cons ?_ | refine Br.t rfl ?_ | refine Br.f rfl ?_ | refine Fit.au ?_ | refine Cv.au ?_ | refine Need.ne ?_ | refine Need.au ?_ | refine Pick.map (by assumption) ?_ | refine Pick.mapI (by omega) (by assumption) ?_ | refine PickN.mk _ (by assumption) ?_ | refine PickN.mk _ rfl ?_ | refine PickN.au ?_ | refine App.au rfl ?_ | refine App.au (own_map (fun _ => rfl) _) ?_ | refine Both.mk ?_ ?_ | exact True.intro
        exact Stop.mk (ih2 (j + 1) (g := []) _ _ _ (by omega) (by omega) ⟨rfl, (by repeat' first | exact trivial | refine ⟨rfl, ?_⟩ | refine ⟨congrArg (fun n => AV.lit (.int .i64 n)) (by omega), ?_⟩ | refine ⟨congrArg (fun l => some (Row.row 1 l)) (by simp [int1, num, tru]), ?_⟩), (by repeat' first | exact trivial | refine ⟨rfl, ?_⟩ | refine ⟨congrArg (fun n => AV.lit (.int .i64 n)) (by omega), ?_⟩ | refine ⟨congrArg (fun l => some (Row.row 1 l)) (by simp [int1, num, tru]), ?_⟩)⟩)
      · refine go 1000 Tryd.func71 ?_
        repeat' first | refine Br.f (by simp; omega) ?_ | refine Len.map ?_ | refine Len.nil ?_ | refine Len.cons ?_ | refine Br.t rfl ?_ | refine Br.f rfl ?_ | refine Fit.au ?_ | refine Cv.au ?_ | refine Need.ne ?_ | refine Need.au ?_ | refine Pick.map (by assumption) ?_ | refine Pick.mapI (by omega) (by assumption) ?_ | refine PickN.mk _ (by assumption) ?_ | refine PickN.mk _ rfl ?_ | refine PickN.au ?_ | refine App.au rfl ?_ | refine App.au (own_map (fun _ => rfl) _) ?_ | refine Both.mk ?_ ?_ | exact True.intro
        refine Stop.mk (ih (k + 1) (g := []) _ _ _ ⟨by omega, fun m s hm hs => ?_⟩ (by omega) ⟨rfl, (by repeat' first | exact trivial | refine ⟨rfl, ?_⟩ | refine ⟨congrArg (fun n => AV.lit (.int .i64 n)) (by omega), ?_⟩ | refine ⟨congrArg (fun l => some (Row.row 1 l)) (by simp [int1, num, tru]), ?_⟩), (by repeat' first | exact trivial | refine ⟨rfl, ?_⟩ | refine ⟨congrArg (fun n => AV.lit (.int .i64 n)) (by omega), ?_⟩ | refine ⟨congrArg (fun l => some (Row.row 1 l)) (by simp [int1, num, tru]), ?_⟩)⟩)
        by_cases e : m = k
        · subst e; rw [gx] at hs; obtain rfl := Option.some.inj hs; exact hr
        · exact hk2 m s (by omega) hs
    · have hx := Right102_no x p.width hp.wid (hp.genw x gxm) hr vs hv
      refine go 1000 Tryd.func71 ?_
      repeat' first | refine Br.t (by simp; omega) ?_ | refine Draw.mk (ordL [7, 17] [0, 1, 2, 3, 4, 5, 6, 7, 8, 9, 10, 11, 12, 13, 14, 15, 16, 17, 18, 19]) (by decide +kernel) ?_ | refine Pick.map gl ?_ | refine Pick.map gx ?_ | refine Call.eqT hx rfl ?_ | refine Len.map ?_ | refine Len.nil ?_ | refine Len.cons ?_ | refine Br.t rfl ?_ | refine Br.f rfl ?_ | refine Fit.au ?_ | refine Cv.au ?_ | refine Need.ne ?_ | refine Need.au ?_ | refine Pick.map (by assumption) ?_ | refine Pick.mapI (by omega) (by assumption) ?_ | refine PickN.mk _ (by assumption) ?_ | refine PickN.mk _ rfl ?_ | refine PickN.au ?_ | refine App.au rfl ?_ | refine App.au (own_map (fun _ => rfl) _) ?_ | refine Both.mk ?_ ?_ | exact True.intro
      all_goals rfl
  · refine (hno fun s hs => ?_).elim
    obtain ⟨m, hm⟩ := List.getElem?_of_mem hs
    exact hk2 m s (by have := (List.getElem?_eq_some_iff.1 hm).1; omega) hm
theorem Solve46_no (p : Prob) (hp : p.Pre) (hno : ¬ ∀ s ∈ p.gen, RightW s p.width) (vs : List Value) (hv : ∀ k, k < 64 → vs[(deJ (bitW k)).toNat]? = some (.int .u8 k)) :
    FnSpecT Tryd.prog [(0, vs)] 46 [probA p] (fun r => r = .tup [.agg [.lit (.slice none 0 0), .lit (.slice none 0 0)], tru false]) := by
  have hR := Right71_no p hp hno vs hv
  refine specT_of_run 0 vs Tryd.func46 rfl rfl rfl ?_
  refine go 1000 Tryd.func46 ?_
  repeat' first | refine Call.eqT hR rfl ?_ | refine Len.map ?_ | refine Len.nil ?_ | refine Len.cons ?_ | refine Br.t rfl ?_ | refine Br.f rfl ?_ | refine Fit.au ?_ | refine Cv.au ?_ | refine Need.ne ?_ | refine Need.au ?_ | refine Pick.map (by assumption) ?_ | refine Pick.mapI (by omega) (by assumption) ?_ | refine PickN.mk _ (by assumption) ?_ | refine PickN.mk _ rfl ?_ | refine PickN.au ?_ | refine App.au rfl ?_ | refine App.au (own_map (fun _ => rfl) _) ?_ | refine Both.mk ?_ ?_ | exact True.intro
  rfl
end Go.Proofs.YtdgibhndjdgllaaDoor

/- nils.New of any function, where the table is laid, by a contract. -/
namespace Go.Proofs.YtdgibhndjdgllaaDoor
open Go.Ax
set_option maxRecDepth 10000
set_option linter.unusedVariables false
set_option maxHeartbeats 0

def probZ (f : Fun) : List AV := [.osl 1 ((succsF f).map olst), tru false, tru true, num f.regs.length, .hw 4, .hw 5, .osl 1 ((newW f.regs.length).map u1)]
noncomputable def hpZ (f : Fun) (G K : List (List W)) (vs : List Value) : HP := [(3, .var (probZ f)), (4, .row 1 (G.map oset)), (5, .row 1 (K.map oset)), (2, .var (factV f)), (1, .var f.cs), (0, .tab 0 vs)]
def tmZ (f : Fun) (k : Nat) : TM := [(1, .hp 1 0), (3, .hp 2 0), (4, num f.regs.length), (5, .hp 3 0), (33, .sl false 1 (f.blocks.map blk)), (34, num f.blocks.length), (35, num k)]
theorem pushZ_run (f : Fun) (hreg : f.regs.length ≤ 65536) (k : Nat) (a b : List W) (G K2 : List (List W)) (vs : List Value) (hb : b.length ≤ 1000000) (hG : G.length ≤ 65536) (hK : K2.length ≤ 65536) (Qp : AV → Prop) {todo : List Item}
    (h : Run Tryd.prog 17 (Post.one Qp) todo ⟨tmZ f k, hpZ f (G ++ [a]) (K2 ++ [lessW (fullW f.regs.length) b]) vs, 6, Tryd.f17.ntmps⟩) :
    Run Tryd.prog 17 (Post.one Qp) (.code reg18 :: todo) ⟨[(8, .hw 6), (9, .hw 7)] ++ tmZ f k, [(6, rowW a), (7, rowW b)] ++ hpZ f G K2 vs, 8, Tryd.f17.ntmps⟩ := by
  have hF := Full43_spec f.regs.length hreg
  have hwn := wn_le hreg
  have hL := Less45_spec (fullW f.regs.length) b (by rw [fullW_len]; omega) hb
  unfold hpZ at h
  rw [List.map_append, List.map_append] at h
  unfold reg18 tmZ hpZ
  refine go 1 Tryd.func17 ?_
  repeat' first | refine Draw.mk (ordL [2, 4, 6] [0, 1, 3, 2, 4, 5, 6, 7]) (by decide +kernel) ?_ | refine Draw.mk (ordL [6] [0, 1, 2, 3, 4, 5, 8, 6, 7]) (by decide +kernel) ?_ | refine Draw.mk (.one 0 false (.one 2 false (.one 5 false (.one 7 false (.one 9 false (.alt 1 (.alt 3 (.alt 4 (.alt 6 (ordL [8, 10, 11, 12, 14, 16] [13, 8, 10, 11, 12, 14, 15, 16]) (.alt 8 (.alt 6 (ordL [10, 11, 12, 14, 16] [13, 10, 11, 12, 14, 15, 16]) (.alt 10 (.alt 6 (ordL [11, 12, 14, 16] [13, 11, 12, 14, 15, 16]) (.alt 11 (ordL [6, 12, 14, 16] [6, 13, 12, 14, 15, 16]) .no)) .no)) .no)) (.alt 6 (ordL [4, 8, 10, 11, 12, 14, 16] [4, 13, 8, 10, 11, 12, 14, 15, 16]) .no)) (.alt 6 (ordL [3, 4, 8, 10, 11, 12, 14, 16] [3, 4, 13, 8, 10, 11, 12, 14, 15, 16]) .no)) (.alt 3 (.alt 1 (.alt 4 (.alt 6 (ordL [8, 10, 11, 12, 14, 16] [13, 8, 10, 11, 12, 14, 15, 16]) (.alt 8 (.alt 6 (ordL [10, 11, 12, 14, 16] [13, 10, 11, 12, 14, 15, 16]) (.alt 10 (.alt 6 (ordL [11, 12, 14, 16] [13, 11, 12, 14, 15, 16]) (.alt 11 (ordL [6, 12, 14, 16] [6, 13, 12, 14, 15, 16]) .no)) .no)) .no)) (.alt 6 (ordL [4, 8, 10, 11, 12, 14, 16] [4, 13, 8, 10, 11, 12, 14, 15, 16]) .no)) (.alt 6 (ordL [1, 4, 8, 10, 11, 12, 14, 16] [1, 4, 13, 8, 10, 11, 12, 14, 15, 16]) .no)) (.alt 6 (.alt 1 (ordL [3, 4, 8, 10, 11, 12, 14, 16] [3, 4, 13, 8, 10, 11, 12, 14, 15, 16]) (.alt 3 (ordL [1, 4, 8, 10, 11, 12, 14, 16] [1, 4, 13, 8, 10, 11, 12, 14, 15, 16]) .no)) .no)))))))) (by decide +kernel) ?_ | refine Call.eq hF rfl ?_ | (refine Look.yes (View.mk _ (fzw _) (View.mk _ (fzw _) ?_)); refine CallV.eq hL rfl (by repeat' first | exact Free.lit _ | refine Free.tup ?_ | refine Free.agg ?_ | (refine Free.map ?_; intro e _) | refine List.forall_mem_cons.2 ⟨?_, ?_⟩ | exact List.forall_mem_nil _) ?_) | refine Len.map ?_ | refine Len.nil ?_ | refine Len.cons ?_ | refine Br.t rfl ?_ | refine Br.f rfl ?_ | refine Fit.au ?_ | refine Cv.au ?_ | refine Need.ne ?_ | refine Need.au ?_ | refine Pick.map (by assumption) ?_ | refine Pick.mapI (by omega) (by assumption) ?_ | refine PickN.mk _ (by assumption) ?_ | refine PickN.mk _ rfl ?_ | refine PickN.au ?_ | refine App.au rfl ?_ | refine App.au (own_map (fun _ => rfl) _) ?_ | refine Both.mk ?_ ?_ | exact True.intro
  all_goals refine Stop.mk ?_
  all_goals refine run_unfold 3 4 rfl rfl ?_
  all_goals refine run_unfold 3 5 rfl rfl ?_
  all_goals exact Run.fr (g := [(4, 14), (5, 15)]) h ⟨rfl, (by repeat' first | exact trivial | refine ⟨rfl, ?_⟩ | refine ⟨congrArg (fun n => AV.lit (.int .i64 n)) (by omega), ?_⟩ | refine ⟨congrArg (fun l => some (Row.row 1 l)) (by simp [int1, num, tru]), ?_⟩), (by repeat' first | exact trivial | refine ⟨rfl, ?_⟩ | refine ⟨congrArg (fun n => AV.lit (.int .i64 n)) (by omega), ?_⟩ | refine ⟨congrArg (fun l => some (Row.row 1 l)) (by simp [int1, num, tru]), ?_⟩)⟩
theorem fz_nilsY (f : Fun) : AV.fzL [.osl 1 ((succsF f).map olst), tru false, tru true, num f.regs.length, .osl 1 ((nilsY f).gen.map oset), .osl 1 ((nilsY f).kill.map oset), .osl 1 ((newW f.regs.length).map u1)] = (nilsY f).cs := by
  simp only [AV.fzL, AV.fz, fzLL_map fz_olsts, fzLL_map fz_oset, fzw]
  rfl
/-- What nils.New makes of any function. -/
def NewQ (f : Fun) : AV → Prop := fun r => ∃ F : List (List W), (F = [] ∨ F.length = f.blocks.length) ∧ (∀ s ∈ F, s.length ≤ 1024) ∧ r = .opt (f.cs ++ [namesA (newF f), .osl 1 ((marksF (succsF f) (-1)).map tb), .osl 1 (F.map oset)])
theorem New17_any (f : Fun) (hfit : f.fits) (hblk : f.blocks.length ≤ 1000) (hrg : f.regs.length ≤ 100) (hlens : ∀ b ∈ f.blocks, b.length ≤ 1000000) (hnum : f.numA) (vs : List Value) (hv : ∀ k, k < 64 → vs[(deJ (bitW k)).toNat]? = some (.int .u8 k)) :
    FnSpecT Tryd.prog [(0, vs)] 17 [funA f] (NewQ f) := by
  have hreg : f.regs.length ≤ 65536 := by omega
  have hN := New_spec f hfit hrg
  have hM := Reach69_spec f hfit (by omega)
  have hS := Succs95_spec f hfit (by omega)
  have hW := New35_spec f.regs.length hreg
  have hF := Full43_spec f.regs.length hreg
  have hnl := newW_len f.regs.length
  have hfl := fullW_len f.regs.length
  have hwn := wn_le hreg
  refine specT_of_run 0 vs Tryd.func17 rfl rfl rfl ?_
  refine go 1000 Tryd.func17 ?_
  repeat' first | refine Draw.mk (ordL [2, 4, 6] [0, 1, 3, 2, 4, 5, 6, 7]) (by decide +kernel) ?_ | refine Draw.mk (ordL [6] [0, 1, 2, 3, 4, 5, 8, 6, 7]) (by decide +kernel) ?_ | refine Draw.mk (.one 0 false (.one 2 false (.one 5 false (.one 7 false (.one 9 false (.alt 1 (.alt 3 (.alt 4 (ordL [8, 10, 11, 12, 14, 16] [6, 13, 8, 10, 11, 12, 14, 15, 16]) (.alt 6 (ordL [4, 8, 10, 11, 12, 14, 16] [4, 13, 8, 10, 11, 12, 14, 15, 16]) .no)) (.alt 6 (ordL [3, 4, 8, 10, 11, 12, 14, 16] [3, 4, 13, 8, 10, 11, 12, 14, 15, 16]) .no)) (.alt 3 (.alt 1 (.alt 4 (ordL [8, 10, 11, 12, 14, 16] [6, 13, 8, 10, 11, 12, 14, 15, 16]) (.alt 6 (ordL [4, 8, 10, 11, 12, 14, 16] [4, 13, 8, 10, 11, 12, 14, 15, 16]) .no)) (.alt 6 (ordL [1, 4, 8, 10, 11, 12, 14, 16] [1, 4, 13, 8, 10, 11, 12, 14, 15, 16]) .no)) (.alt 6 (.alt 1 (ordL [3, 4, 8, 10, 11, 12, 14, 16] [3, 4, 13, 8, 10, 11, 12, 14, 15, 16]) (.alt 3 (ordL [1, 4, 8, 10, 11, 12, 14, 16] [1, 4, 13, 8, 10, 11, 12, 14, 15, 16]) .no)) .no)))))))) (by decide +kernel) ?_ | refine Call.eq hN rfl ?_ | refine Call.eq hM rfl ?_ | refine Call.eq hS rfl ?_ | refine Call.eq hW rfl ?_ | refine Len.map ?_ | refine Len.nil ?_ | refine Len.cons ?_ | refine Br.t rfl ?_ | refine Br.f rfl ?_ | refine Fit.au ?_ | refine Cv.au ?_ | refine Need.ne ?_ | refine Need.au ?_ | refine Pick.map (by assumption) ?_ | refine Pick.mapI (by omega) (by assumption) ?_ | refine PickN.mk _ (by assumption) ?_ | refine PickN.mk _ rfl ?_ | refine PickN.au ?_ | refine App.au rfl ?_ | refine App.au (own_map (fun _ => rfl) _) ?_ | refine Both.mk ?_ ?_ | exact True.intro
  refine Stop.mk ?_
  refine run_frzIn 2 4 rfl rfl (fz_names _) rfl ?_
  refine run_varLe 7 rfl (.cons (VLe.refl _) (.cons (VLe.refl _) (.cons (VLe.refl _) (.cons (VLe.refl _) (.cons (VLe.onil (sz := 1)) (.cons (VLe.onil (sz := 1)) (.cons (VLe.refl _) .nil))))))) ?_
  refine run_unfold 7 4 rfl rfl ?_
  refine run_unfold 7 5 rfl rfl ?_
  refine loop_in (g := [(2, 4), (3, 7), (4, 8), (5, 9)]) (fun k : Nat => tmZ f k) (fun k => hpZ f (((nilsY f).gen).take k) (((nilsY f).kill).take k) vs) 6 (fun k => k ≤ f.blocks.length) (fun k => f.blocks.length - k) 0 (by omega) ⟨rfl, (by repeat' first | exact trivial | refine ⟨rfl, ?_⟩ | refine ⟨congrArg (fun n => AV.lit (.int .i64 n)) (by omega), ?_⟩ | refine ⟨congrArg (fun l => some (Row.row 1 l)) (by simp [int1, num, tru]), ?_⟩), (by repeat' first | exact trivial | refine ⟨rfl, ?_⟩ | refine ⟨congrArg (fun n => AV.lit (.int .i64 n)) (by omega), ?_⟩ | refine ⟨congrArg (fun l => some (Row.row 1 l)) (by simp [int1, num, tru]), ?_⟩)⟩ (fun k hk ih => ?_)
  unfold tmZ hpZ
  by_cases hk2 : k < f.blocks.length
  · obtain ⟨bk, gk, hbm⟩ := getK (l := f.blocks) (k := k) hk2
    have hlen := hlens bk hbm
    have hfi := (hfit.2.2 bk hbm).2
    refine go 1000 Tryd.func17 ?_
    repeat' first | refine Br.t (by simp; omega) ?_ | refine Call.eq hW rfl ?_ | refine Call.eq hF rfl ?_ | refine Pick.map gk ?_ | refine Len.map ?_ | refine Len.nil ?_ | refine Len.cons ?_ | refine Br.t rfl ?_ | refine Br.f rfl ?_ | refine Fit.au ?_ | refine Cv.au ?_ | refine Need.ne ?_ | refine Need.au ?_ | refine Pick.map (by assumption) ?_ | refine Pick.mapI (by omega) (by assumption) ?_ | refine PickN.mk _ (by assumption) ?_ | refine PickN.mk _ rfl ?_ | refine PickN.au ?_ | refine App.au rfl ?_ | refine App.au (own_map (fun _ => rfl) _) ?_ | refine Both.mk ?_ ?_ | exact True.intro
    refine Stop.mk (loop_in (g := []) (fun j : Nat => [(8, .hw 6), (9, .hw 7), (43, .sl false 9 (bk.map Ins.cs)), (44, num bk.length), (45, num j)] ++ tmZ f k) (fun j => [(7, rowW (nilsZ f (bk.take j) (fullW f.regs.length))), (6, rowW (nilsZ f (bk.take j) (newW f.regs.length)))] ++ hpZ f (((nilsY f).gen).take k) (((nilsY f).kill).take k) vs) 8 (fun j => j ≤ bk.length) (fun j => bk.length - j) 0 (Nat.zero_le _) ⟨rfl, (by repeat' first | exact trivial | refine ⟨rfl, ?_⟩ | refine ⟨congrArg (fun n => AV.lit (.int .i64 n)) (by omega), ?_⟩ | refine ⟨congrArg (fun l => some (Row.row 1 l)) (by simp [int1, num, tru]), ?_⟩), (by repeat' first | exact trivial | refine ⟨rfl, ?_⟩ | refine ⟨congrArg (fun n => AV.lit (.int .i64 n)) (by omega), ?_⟩ | refine ⟨congrArg (fun l => some (Row.row 1 l)) (by simp [int1, num, tru]), ?_⟩)⟩ (fun j hj ih2 => ?_))
    unfold tmZ hpZ
    by_cases hjl : j < bk.length
    · obtain ⟨i, gi, him⟩ := getK (l := bk) (k := j) hjl
      have hC := changes44_spec f i (hfi i him) hrg
      have hia := hnum bk hbm i him
      have hcl := chg_len f i
      have hst1 := nilsZ_take (f := f) (s := newW f.regs.length) gi
      have hst2 := nilsZ_take (f := f) (s := fullW f.regs.length) gi
      have hl1 : (nilsZ f (bk.take j) (newW f.regs.length)).length = wn f.regs.length := (nilsZ_len ..).trans hnl
      have hl2 : (nilsZ f (bk.take j) (fullW f.regs.length)).length = wn f.regs.length := (nilsZ_len ..).trans hfl
      have ih2' := @ih2 (j + 1)
      rw [hst1, hst2] at ih2'
      generalize nilsZ f (bk.take j) (newW f.regs.length) = g0 at *
      generalize nilsZ f (bk.take j) (fullW f.regs.length) = k0 at *
      simp only [show ∀ s, nilZ f i s = (chgL f i).foldl chZ s from fun _ => rfl] at ih2'
      refine go 1000 Tryd.func17 ?_
      repeat' first | refine Br.t (by simp; omega) ?_ | refine Draw.mk (ordL [2, 4, 6] [0, 1, 3, 2, 4, 5, 6, 7]) (by decide +kernel) ?_ | refine Draw.mk (ordL [6] [0, 1, 2, 3, 4, 5, 8, 6, 7]) (by decide +kernel) ?_ | refine Draw.mk (.one 0 false (.one 2 false (.one 5 false (.one 7 false (.one 9 false (.alt 1 (.alt 3 (.alt 4 (ordL [8, 10, 11, 12, 14, 16] [6, 13, 8, 10, 11, 12, 14, 15, 16]) (.alt 6 (ordL [4, 8, 10, 11, 12, 14, 16] [4, 13, 8, 10, 11, 12, 14, 15, 16]) .no)) (.alt 6 (ordL [3, 4, 8, 10, 11, 12, 14, 16] [3, 4, 13, 8, 10, 11, 12, 14, 15, 16]) .no)) (.alt 3 (.alt 1 (.alt 4 (ordL [8, 10, 11, 12, 14, 16] [6, 13, 8, 10, 11, 12, 14, 15, 16]) (.alt 6 (ordL [4, 8, 10, 11, 12, 14, 16] [4, 13, 8, 10, 11, 12, 14, 15, 16]) .no)) (.alt 6 (ordL [1, 4, 8, 10, 11, 12, 14, 16] [1, 4, 13, 8, 10, 11, 12, 14, 15, 16]) .no)) (.alt 6 (.alt 1 (ordL [3, 4, 8, 10, 11, 12, 14, 16] [3, 4, 13, 8, 10, 11, 12, 14, 15, 16]) (.alt 3 (ordL [1, 4, 8, 10, 11, 12, 14, 16] [1, 4, 13, 8, 10, 11, 12, 14, 15, 16]) .no)) .no)))))))) (by decide +kernel) ?_ | refine Pick.map gi ?_ | refine Call.eq hC rfl ?_ | refine Len.map ?_ | refine Len.nil ?_ | refine Len.cons ?_ | refine Br.t rfl ?_ | refine Br.f rfl ?_ | refine Fit.au ?_ | refine Cv.au ?_ | refine Need.ne ?_ | refine Need.au ?_ | refine Pick.map (by assumption) ?_ | refine Pick.mapI (by omega) (by assumption) ?_ | refine PickN.mk _ (by assumption) ?_ | refine PickN.mk _ rfl ?_ | refine PickN.au ?_ | refine App.au rfl ?_ | refine App.au (own_map (fun _ => rfl) _) ?_ | refine Both.mk ?_ ?_ | exact True.intro
      refine Stop.mk (loop_in (g := []) (fun c : Nat => [(55, .hw 9), (56, num (chgL f i).length), (57, num c), (8, .hw 6), (9, .hw 7), (43, .sl false 9 (bk.map Ins.cs)), (44, num bk.length), (45, num j)] ++ tmZ f k) (fun c => [(9, .row 2 ((chgL f i).map chA)), (8, .var i.cs), (7, rowW (((chgL f i).take c).foldl chZ k0)), (6, rowW (((chgL f i).take c).foldl chZ g0))] ++ hpZ f (((nilsY f).gen).take k) (((nilsY f).kill).take k) vs) 10 (fun c => c ≤ (chgL f i).length) (fun c => (chgL f i).length - c) 0 (Nat.zero_le _) ⟨rfl, (by repeat' first | exact trivial | refine ⟨rfl, ?_⟩ | refine ⟨congrArg (fun n => AV.lit (.int .i64 n)) (by omega), ?_⟩ | refine ⟨congrArg (fun l => some (Row.row 1 l)) (by simp [int1, num, tru]), ?_⟩), (by repeat' first | exact trivial | refine ⟨rfl, ?_⟩ | refine ⟨congrArg (fun n => AV.lit (.int .i64 n)) (by omega), ?_⟩ | refine ⟨congrArg (fun l => some (Row.row 1 l)) (by simp [int1, num, tru]), ?_⟩)⟩ (fun c hc ih3 => ?_))
      unfold tmZ hpZ
      by_cases hcc : c < (chgL f i).length
      · obtain ⟨⟨bo, x⟩, gc, hcm⟩ := getK (l := chgL f i) (k := c) hcc
        have hx : num64 x := chg_num hnum hrg hia hcm
        have hs1 := chz_take (s := g0) gc
        have hs2 := chz_take (s := k0) gc
        have hm1 : (((chgL f i).take c).foldl chZ g0).length ≤ 1000000 := by rw [chsZ_len, hl1]; omega
        have hm2 : (((chgL f i).take c).foldl chZ k0).length ≤ 1000000 := by rw [chsZ_len, hl2]; omega
        have ih3' := @ih3 (c + 1)
        rw [hs1, hs2] at ih3'
        generalize ((chgL f i).take c).foldl chZ g0 = g1 at *
        generalize ((chgL f i).take c).foldl chZ k0 = k1 at *
        cases bo with
        | true =>
          refine go 1000 Tryd.func17 ?_
          repeat' first | refine Br.t (by simp; omega) ?_ | refine Need.mk ⟨by omega, by rw [List.length_map]; omega⟩ ?_ | refine PickN.map gc ?_ | refine Len.map ?_ | refine Len.nil ?_ | refine Len.cons ?_ | refine Br.t rfl ?_ | refine Br.f rfl ?_ | refine Fit.au ?_ | refine Cv.au ?_ | refine Need.ne ?_ | refine Need.au ?_ | refine Pick.map (by assumption) ?_ | refine Pick.mapI (by omega) (by assumption) ?_ | refine PickN.mk _ (by assumption) ?_ | refine PickN.mk _ rfl ?_ | refine PickN.au ?_ | refine App.au rfl ?_ | refine App.au (own_map (fun _ => rfl) _) ?_ | refine Both.mk ?_ ?_ | exact True.intro
          refine Dyn.mk _ _ rfl rfl rfl (putZT_run g1 x k1 _ _ _ _ _ _ _ _ _ hm1 hx (fun e v => ?_) (fun v => ?_))
          · repeat' first | refine Len.map ?_ | refine Len.nil ?_ | refine Len.cons ?_ | refine Br.t rfl ?_ | refine Br.f rfl ?_ | refine Fit.au ?_ | refine Cv.au ?_ | refine Need.ne ?_ | refine Need.au ?_ | refine Pick.map (by assumption) ?_ | refine Pick.mapI (by omega) (by assumption) ?_ | refine PickN.mk _ (by assumption) ?_ | refine PickN.mk _ rfl ?_ | refine PickN.au ?_ | refine App.au rfl ?_ | refine App.au (own_map (fun _ => rfl) _) ?_ | refine Both.mk ?_ ?_ | exact True.intro
            refine Dyn.mk _ _ rfl rfl rfl (putZU_run k1 x g1 _ _ _ _ _ _ _ _ _ hm2 hx (fun e' v' => ?_) (fun v' => ?_))
            · repeat' first | refine Len.map ?_ | refine Len.nil ?_ | refine Len.cons ?_ | refine Br.t rfl ?_ | refine Br.f rfl ?_ | refine Fit.au ?_ | refine Cv.au ?_ | refine Need.ne ?_ | refine Need.au ?_ | refine Pick.map (by assumption) ?_ | refine Pick.mapI (by omega) (by assumption) ?_ | refine PickN.mk _ (by assumption) ?_ | refine PickN.mk _ rfl ?_ | refine PickN.au ?_ | refine App.au rfl ?_ | refine App.au (own_map (fun _ => rfl) _) ?_ | refine Both.mk ?_ ?_ | exact True.intro
              rw [show chZ g1 (true, x) = g1 from e, show chZ k1 (true, x) = k1 from e'] at ih3'
              exact Stop.mk (ih3' (g := []) _ _ _ (by omega) (by omega) ⟨rfl, (by repeat' first | exact trivial | refine ⟨rfl, ?_⟩ | refine ⟨congrArg (fun n => AV.lit (.int .i64 n)) (by omega), ?_⟩ | refine ⟨congrArg (fun l => some (Row.row 1 l)) (by simp [int1, num, tru]), ?_⟩), (by repeat' first | exact trivial | refine ⟨rfl, ?_⟩ | refine ⟨congrArg (fun n => AV.lit (.int .i64 n)) (by omega), ?_⟩ | refine ⟨congrArg (fun l => some (Row.row 1 l)) (by simp [int1, num, tru]), ?_⟩)⟩)
            · repeat' first | refine Len.map ?_ | refine Len.nil ?_ | refine Len.cons ?_ | refine Br.t rfl ?_ | refine Br.f rfl ?_ | refine Fit.au ?_ | refine Cv.au ?_ | refine Need.ne ?_ | refine Need.au ?_ | refine Pick.map (by assumption) ?_ | refine Pick.mapI (by omega) (by assumption) ?_ | refine PickN.mk _ (by assumption) ?_ | refine PickN.mk _ rfl ?_ | refine PickN.au ?_ | refine App.au rfl ?_ | refine App.au (own_map (fun _ => rfl) _) ?_ | refine Both.mk ?_ ?_ | exact True.intro
              rw [show chZ g1 (true, x) = g1 from e] at ih3'
              exact Stop.mk (ih3' (g := []) _ _ _ (by omega) (by omega) ⟨rfl, (by repeat' first | exact trivial | refine ⟨rfl, ?_⟩ | refine ⟨congrArg (fun n => AV.lit (.int .i64 n)) (by omega), ?_⟩ | refine ⟨congrArg (fun l => some (Row.row 1 l)) (by simp [int1, num, tru]), ?_⟩), (by repeat' first | exact trivial | refine ⟨rfl, ?_⟩ | refine ⟨congrArg (fun n => AV.lit (.int .i64 n)) (by omega), ?_⟩ | refine ⟨congrArg (fun l => some (Row.row 1 l)) (by simp [int1, num, tru]), ?_⟩)⟩)
          · repeat' first | refine Len.map ?_ | refine Len.nil ?_ | refine Len.cons ?_ | refine Br.t rfl ?_ | refine Br.f rfl ?_ | refine Fit.au ?_ | refine Cv.au ?_ | refine Need.ne ?_ | refine Need.au ?_ | refine Pick.map (by assumption) ?_ | refine Pick.mapI (by omega) (by assumption) ?_ | refine PickN.mk _ (by assumption) ?_ | refine PickN.mk _ rfl ?_ | refine PickN.au ?_ | refine App.au rfl ?_ | refine App.au (own_map (fun _ => rfl) _) ?_ | refine Both.mk ?_ ?_ | exact True.intro
            refine Dyn.mk _ _ rfl rfl rfl (putZV_run k1 x (chZ g1 (true, x)) _ _ _ _ _ _ _ _ _ hm2 hx (fun e' v' => ?_) (fun v' => ?_))
            · repeat' first | refine Len.map ?_ | refine Len.nil ?_ | refine Len.cons ?_ | refine Br.t rfl ?_ | refine Br.f rfl ?_ | refine Fit.au ?_ | refine Cv.au ?_ | refine Need.ne ?_ | refine Need.au ?_ | refine Pick.map (by assumption) ?_ | refine Pick.mapI (by omega) (by assumption) ?_ | refine PickN.mk _ (by assumption) ?_ | refine PickN.mk _ rfl ?_ | refine PickN.au ?_ | refine App.au rfl ?_ | refine App.au (own_map (fun _ => rfl) _) ?_ | refine Both.mk ?_ ?_ | exact True.intro
              rw [show chZ k1 (true, x) = k1 from e'] at ih3'
              exact Stop.mk (ih3' (g := []) _ _ _ (by omega) (by omega) ⟨rfl, (by repeat' first | exact trivial | refine ⟨rfl, ?_⟩ | refine ⟨congrArg (fun n => AV.lit (.int .i64 n)) (by omega), ?_⟩ | refine ⟨congrArg (fun l => some (Row.row 1 l)) (by simp [int1, num, tru]), ?_⟩), (by repeat' first | exact trivial | refine ⟨rfl, ?_⟩ | refine ⟨congrArg (fun n => AV.lit (.int .i64 n)) (by omega), ?_⟩ | refine ⟨congrArg (fun l => some (Row.row 1 l)) (by simp [int1, num, tru]), ?_⟩)⟩)
            · repeat' first | refine Len.map ?_ | refine Len.nil ?_ | refine Len.cons ?_ | refine Br.t rfl ?_ | refine Br.f rfl ?_ | refine Fit.au ?_ | refine Cv.au ?_ | refine Need.ne ?_ | refine Need.au ?_ | refine Pick.map (by assumption) ?_ | refine Pick.mapI (by omega) (by assumption) ?_ | refine PickN.mk _ (by assumption) ?_ | refine PickN.mk _ rfl ?_ | refine PickN.au ?_ | refine App.au rfl ?_ | refine App.au (own_map (fun _ => rfl) _) ?_ | refine Both.mk ?_ ?_ | exact True.intro
              exact Stop.mk (ih3' (g := []) _ _ _ (by omega) (by omega) ⟨rfl, (by repeat' first | exact trivial | refine ⟨rfl, ?_⟩ | refine ⟨congrArg (fun n => AV.lit (.int .i64 n)) (by omega), ?_⟩ | refine ⟨congrArg (fun l => some (Row.row 1 l)) (by simp [int1, num, tru]), ?_⟩), (by repeat' first | exact trivial | refine ⟨rfl, ?_⟩ | refine ⟨congrArg (fun n => AV.lit (.int .i64 n)) (by omega), ?_⟩ | refine ⟨congrArg (fun l => some (Row.row 1 l)) (by simp [int1, num, tru]), ?_⟩)⟩)
        | false =>
          refine go 1000 Tryd.func17 ?_
          repeat' first | refine Br.t (by simp; omega) ?_ | refine Need.mk ⟨by omega, by rw [List.length_map]; omega⟩ ?_ | refine PickN.map gc ?_ | refine Len.map ?_ | refine Len.nil ?_ | refine Len.cons ?_ | refine Br.t rfl ?_ | refine Br.f rfl ?_ | refine Fit.au ?_ | refine Cv.au ?_ | refine Need.ne ?_ | refine Need.au ?_ | refine Pick.map (by assumption) ?_ | refine Pick.mapI (by omega) (by assumption) ?_ | refine PickN.mk _ (by assumption) ?_ | refine PickN.mk _ rfl ?_ | refine PickN.au ?_ | refine App.au rfl ?_ | refine App.au (own_map (fun _ => rfl) _) ?_ | refine Both.mk ?_ ?_ | exact True.intro
          refine Dyn.mk _ _ rfl rfl rfl (dropZT_run g1 x k1 _ _ _ _ _ _ _ _ _ hm1 hx (fun e v => ?_) (fun v => ?_))
          · repeat' first | refine Len.map ?_ | refine Len.nil ?_ | refine Len.cons ?_ | refine Br.t rfl ?_ | refine Br.f rfl ?_ | refine Fit.au ?_ | refine Cv.au ?_ | refine Need.ne ?_ | refine Need.au ?_ | refine Pick.map (by assumption) ?_ | refine Pick.mapI (by omega) (by assumption) ?_ | refine PickN.mk _ (by assumption) ?_ | refine PickN.mk _ rfl ?_ | refine PickN.au ?_ | refine App.au rfl ?_ | refine App.au (own_map (fun _ => rfl) _) ?_ | refine Both.mk ?_ ?_ | exact True.intro
            refine Dyn.mk _ _ rfl rfl rfl (dropZU_run k1 x g1 _ _ _ _ _ _ _ _ _ hm2 hx (fun e' v' => ?_) (fun v' => ?_))
            · repeat' first | refine Len.map ?_ | refine Len.nil ?_ | refine Len.cons ?_ | refine Br.t rfl ?_ | refine Br.f rfl ?_ | refine Fit.au ?_ | refine Cv.au ?_ | refine Need.ne ?_ | refine Need.au ?_ | refine Pick.map (by assumption) ?_ | refine Pick.mapI (by omega) (by assumption) ?_ | refine PickN.mk _ (by assumption) ?_ | refine PickN.mk _ rfl ?_ | refine PickN.au ?_ | refine App.au rfl ?_ | refine App.au (own_map (fun _ => rfl) _) ?_ | refine Both.mk ?_ ?_ | exact True.intro
              rw [show chZ g1 (false, x) = g1 from e, show chZ k1 (false, x) = k1 from e'] at ih3'
              exact Stop.mk (ih3' (g := []) _ _ _ (by omega) (by omega) ⟨rfl, (by repeat' first | exact trivial | refine ⟨rfl, ?_⟩ | refine ⟨congrArg (fun n => AV.lit (.int .i64 n)) (by omega), ?_⟩ | refine ⟨congrArg (fun l => some (Row.row 1 l)) (by simp [int1, num, tru]), ?_⟩), (by repeat' first | exact trivial | refine ⟨rfl, ?_⟩ | refine ⟨congrArg (fun n => AV.lit (.int .i64 n)) (by omega), ?_⟩ | refine ⟨congrArg (fun l => some (Row.row 1 l)) (by simp [int1, num, tru]), ?_⟩)⟩)
            · repeat' first | refine Len.map ?_ | refine Len.nil ?_ | refine Len.cons ?_ | refine Br.t rfl ?_ | refine Br.f rfl ?_ | refine Fit.au ?_ | refine Cv.au ?_ | refine Need.ne ?_ | refine Need.au ?_ | refine Pick.map (by assumption) ?_ | refine Pick.mapI (by omega) (by assumption) ?_ | refine PickN.mk _ (by assumption) ?_ | refine PickN.mk _ rfl ?_ | refine PickN.au ?_ | refine App.au rfl ?_ | refine App.au (own_map (fun _ => rfl) _) ?_ | refine Both.mk ?_ ?_ | exact True.intro
              rw [show chZ g1 (false, x) = g1 from e] at ih3'
              exact Stop.mk (ih3' (g := []) _ _ _ (by omega) (by omega) ⟨rfl, (by repeat' first | exact trivial | refine ⟨rfl, ?_⟩ | refine ⟨congrArg (fun n => AV.lit (.int .i64 n)) (by omega), ?_⟩ | refine ⟨congrArg (fun l => some (Row.row 1 l)) (by simp [int1, num, tru]), ?_⟩), (by repeat' first | exact trivial | refine ⟨rfl, ?_⟩ | refine ⟨congrArg (fun n => AV.lit (.int .i64 n)) (by omega), ?_⟩ | refine ⟨congrArg (fun l => some (Row.row 1 l)) (by simp [int1, num, tru]), ?_⟩)⟩)
          · repeat' first | refine Len.map ?_ | refine Len.nil ?_ | refine Len.cons ?_ | refine Br.t rfl ?_ | refine Br.f rfl ?_ | refine Fit.au ?_ | refine Cv.au ?_ | refine Need.ne ?_ | refine Need.au ?_ | refine Pick.map (by assumption) ?_ | refine Pick.mapI (by omega) (by assumption) ?_ | refine PickN.mk _ (by assumption) ?_ | refine PickN.mk _ rfl ?_ | refine PickN.au ?_ | refine App.au rfl ?_ | refine App.au (own_map (fun _ => rfl) _) ?_ | refine Both.mk ?_ ?_ | exact True.intro
            refine Dyn.mk _ _ rfl rfl rfl (dropZV_run k1 x (chZ g1 (false, x)) _ _ _ _ _ _ _ _ _ hm2 hx (fun e' v' => ?_) (fun v' => ?_))
            · repeat' first | refine Len.map ?_ | refine Len.nil ?_ | refine Len.cons ?_ | refine Br.t rfl ?_ | refine Br.f rfl ?_ | refine Fit.au ?_ | refine Cv.au ?_ | refine Need.ne ?_ | refine Need.au ?_ | refine Pick.map (by assumption) ?_ | refine Pick.mapI (by omega) (by assumption) ?_ | refine PickN.mk _ (by assumption) ?_ | refine PickN.mk _ rfl ?_ | refine PickN.au ?_ | refine App.au rfl ?_ | refine App.au (own_map (fun _ => rfl) _) ?_ | refine Both.mk ?_ ?_ | exact True.intro
              rw [show chZ k1 (false, x) = k1 from e'] at ih3'
              exact Stop.mk (ih3' (g := []) _ _ _ (by omega) (by omega) ⟨rfl, (by repeat' first | exact trivial | refine ⟨rfl, ?_⟩ | refine ⟨congrArg (fun n => AV.lit (.int .i64 n)) (by omega), ?_⟩ | refine ⟨congrArg (fun l => some (Row.row 1 l)) (by simp [int1, num, tru]), ?_⟩), (by repeat' first | exact trivial | refine ⟨rfl, ?_⟩ | refine ⟨congrArg (fun n => AV.lit (.int .i64 n)) (by omega), ?_⟩ | refine ⟨congrArg (fun l => some (Row.row 1 l)) (by simp [int1, num, tru]), ?_⟩)⟩)
            · repeat' first | refine Len.map ?_ | refine Len.nil ?_ | refine Len.cons ?_ | refine Br.t rfl ?_ | refine Br.f rfl ?_ | refine Fit.au ?_ | refine Cv.au ?_ | refine Need.ne ?_ | refine Need.au ?_ | refine Pick.map (by assumption) ?_ | refine Pick.mapI (by omega) (by assumption) ?_ | refine PickN.mk _ (by assumption) ?_ | refine PickN.mk _ rfl ?_ | refine PickN.au ?_ | refine App.au rfl ?_ | refine App.au (own_map (fun _ => rfl) _) ?_ | refine Both.mk ?_ ?_ | exact True.intro
              exact Stop.mk (ih3' (g := []) _ _ _ (by omega) (by omega) ⟨rfl, (by repeat' first | exact trivial | refine ⟨rfl, ?_⟩ | refine ⟨congrArg (fun n => AV.lit (.int .i64 n)) (by omega), ?_⟩ | refine ⟨congrArg (fun l => some (Row.row 1 l)) (by simp [int1, num, tru]), ?_⟩), (by repeat' first | exact trivial | refine ⟨rfl, ?_⟩ | refine ⟨congrArg (fun n => AV.lit (.int .i64 n)) (by omega), ?_⟩ | refine ⟨congrArg (fun l => some (Row.row 1 l)) (by simp [int1, num, tru]), ?_⟩)⟩)
      · obtain rfl : c = (chgL f i).length := by omega
        rw [List.take_length]
        refine go 1000 Tryd.func17 ?_
        repeat' first | refine Br.f (by simp) ?_ | refine Len.map ?_ | refine Len.nil ?_ | refine Len.cons ?_ | refine Br.t rfl ?_ | refine Br.f rfl ?_ | refine Fit.au ?_ | refine Cv.au ?_ | refine Need.ne ?_ | refine Need.au ?_ | refine Pick.map (by assumption) ?_ | refine Pick.mapI (by omega) (by assumption) ?_ | refine PickN.mk _ (by assumption) ?_ | refine PickN.mk _ rfl ?_ | refine PickN.au ?_ | refine App.au rfl ?_ | refine App.au (own_map (fun _ => rfl) _) ?_ | refine Both.mk ?_ ?_ | exact True.intro
        exact Stop.mk (ih2' (g := []) _ _ _ (by omega) (by omega) ⟨rfl, (by repeat' first | exact trivial | refine ⟨rfl, ?_⟩ | refine ⟨congrArg (fun n => AV.lit (.int .i64 n)) (by omega), ?_⟩ | refine ⟨congrArg (fun l => some (Row.row 1 l)) (by simp [int1, num, tru]), ?_⟩), (by repeat' first | exact trivial | refine ⟨rfl, ?_⟩ | refine ⟨congrArg (fun n => AV.lit (.int .i64 n)) (by omega), ?_⟩ | refine ⟨congrArg (fun l => some (Row.row 1 l)) (by simp [int1, num, tru]), ?_⟩)⟩)
    · obtain rfl : j = bk.length := by omega
      rw [List.take_length]
      have hkg : ((nilsY f).gen.take (k + 1)) = (nilsY f).gen.take k ++ [nilsZ f bk (newW f.regs.length)] := map_take_succ2 gk
      have hkk : ((nilsY f).kill.take (k + 1)) = (nilsY f).kill.take k ++ [lessW (fullW f.regs.length) (nilsZ f bk (fullW f.regs.length))] := map_take_succ2 gk
      have hpr := fun Qp todo hh => pushZ_run f hreg k (nilsZ f bk (newW f.regs.length)) (nilsZ f bk (fullW f.regs.length)) (((nilsY f).gen).take k) (((nilsY f).kill).take k) vs (by rw [nilsZ_len, hfl]; omega) (by rw [List.length_take]; omega) (by rw [List.length_take]; omega) Qp (todo := todo) hh
      rw [← hkg, ← hkk] at hpr
      simp only [tmZ, hpZ, List.cons_append, List.nil_append] at hpr
      refine go 7 Tryd.func17 ?_
      repeat' first | refine Br.f (by simp) ?_ | refine Len.map ?_ | refine Len.nil ?_ | refine Len.cons ?_ | refine Br.t rfl ?_ | refine Br.f rfl ?_ | refine Fit.au ?_ | refine Cv.au ?_ | refine Need.ne ?_ | refine Need.au ?_ | refine Pick.map (by assumption) ?_ | refine Pick.mapI (by omega) (by assumption) ?_ | refine PickN.mk _ (by assumption) ?_ | refine PickN.mk _ rfl ?_ | refine PickN.au ?_ | refine App.au rfl ?_ | refine App.au (own_map (fun _ => rfl) _) ?_ | refine Both.mk ?_ ?_ | exact True.intro
      refine Stop.mk ?_
      refine Run.fr (g := []) (hpr _ _ ?_) ?_
      case refine_2 => exact ⟨rfl, (by repeat' first | exact trivial | refine ⟨rfl, ?_⟩ | refine ⟨congrArg (fun n => AV.lit (.int .i64 n)) (by omega), ?_⟩ | refine ⟨congrArg (fun l => some (Row.row 1 l)) (by simp [int1, num, tru]), ?_⟩), (by repeat' first | exact trivial | refine ⟨rfl, ?_⟩ | refine ⟨congrArg (fun n => AV.lit (.int .i64 n)) (by omega), ?_⟩ | refine ⟨congrArg (fun l => some (Row.row 1 l)) (by simp [int1, num, tru]), ?_⟩)⟩
      refine go 1000 Tryd.func17 ?_
      repeat' first | refine Len.map ?_ | refine Len.nil ?_ | refine Len.cons ?_ | refine Br.t rfl ?_ | refine Br.f rfl ?_ | refine Fit.au ?_ | refine Cv.au ?_ | refine Need.ne ?_ | refine Need.au ?_ | refine Pick.map (by assumption) ?_ | refine Pick.mapI (by omega) (by assumption) ?_ | refine PickN.mk _ (by assumption) ?_ | refine PickN.mk _ rfl ?_ | refine PickN.au ?_ | refine App.au rfl ?_ | refine App.au (own_map (fun _ => rfl) _) ?_ | refine Both.mk ?_ ?_ | exact True.intro
      refine Stop.mk (ih (k + 1) (g := []) _ _ _ (by omega) (by omega) ?_)
      unfold tmZ hpZ
      exact ⟨rfl, (by repeat' first | exact trivial | refine ⟨rfl, ?_⟩ | refine ⟨congrArg (fun n => AV.lit (.int .i64 n)) (by omega), ?_⟩ | refine ⟨congrArg (fun l => some (Row.row 1 l)) (by simp [int1, num, tru]), ?_⟩), (by repeat' first | exact trivial | refine ⟨rfl, ?_⟩ | refine ⟨congrArg (fun n => AV.lit (.int .i64 n)) (by omega), ?_⟩ | refine ⟨congrArg (fun l => some (Row.row 1 l)) (by simp [int1, num, tru]), ?_⟩)⟩
  · obtain rfl : k = f.blocks.length := by omega
    rw [List.take_of_length_le (by show (f.blocks.map _).length ≤ _; rw [List.length_map]; omega), List.take_of_length_le (by show (f.blocks.map _).length ≤ _; rw [List.length_map]; omega)]
    have hpre := nilsY_pre (f := f) (by omega) hreg
    refine go 8 Tryd.func17 ?_
    repeat' first | refine Br.f (by simp) ?_ | refine Len.map ?_ | refine Len.nil ?_ | refine Len.cons ?_ | refine Br.t rfl ?_ | refine Br.f rfl ?_ | refine Fit.au ?_ | refine Cv.au ?_ | refine Need.ne ?_ | refine Need.au ?_ | refine Pick.map (by assumption) ?_ | refine Pick.mapI (by omega) (by assumption) ?_ | refine PickN.mk _ (by assumption) ?_ | refine PickN.mk _ rfl ?_ | refine PickN.au ?_ | refine App.au rfl ?_ | refine App.au (own_map (fun _ => rfl) _) ?_ | refine Both.mk ?_ ?_ | exact True.intro
    refine Stop.mk ?_
    by_cases hall : ∀ s ∈ (nilsY f).gen, RightW s (nilsY f).width
    · refine run_unfold 3 0 rfl rfl ?_
      refine run_unfold 3 6 rfl rfl ?_
      refine go 1000 Tryd.func17 ?_
      repeat' first | refine Look.yes (View.mk _ (fzLL_map fz_olsts _) ?_) | refine View.mk _ (fzLL_map fz_oset _) ?_ | refine View.mk _ (fzw _) ?_ | refine Len.map ?_ | refine Len.nil ?_ | refine Len.cons ?_ | refine Br.t rfl ?_ | refine Br.f rfl ?_ | refine Fit.au ?_ | refine Cv.au ?_ | refine Need.ne ?_ | refine Need.au ?_ | refine Pick.map (by assumption) ?_ | refine Pick.mapI (by omega) (by assumption) ?_ | refine PickN.mk _ (by assumption) ?_ | refine PickN.mk _ rfl ?_ | refine PickN.au ?_ | refine App.au rfl ?_ | refine App.au (own_map (fun _ => rfl) _) ?_ | refine Both.mk ?_ ?_ | exact True.intro
      refine CallV.of (Solve46_spec (nilsY f) (hpre.ok hall)) ?_
      rintro r ⟨T, F, hs, rfl⟩
      refine ⟨rfl, (by repeat' first | exact Free.lit _ | refine Free.tup ?_ | refine Free.agg ?_ | (refine Free.map ?_; intro e _) | refine List.forall_mem_cons.2 ⟨?_, ?_⟩ | exact List.forall_mem_nil _), ?_⟩
      repeat' first | refine Len.map ?_ | refine Len.nil ?_ | refine Len.cons ?_ | refine Br.t rfl ?_ | refine Br.f rfl ?_ | refine Fit.au ?_ | refine Cv.au ?_ | refine Need.ne ?_ | refine Need.au ?_ | refine Pick.map (by assumption) ?_ | refine Pick.mapI (by omega) (by assumption) ?_ | refine PickN.mk _ (by assumption) ?_ | refine PickN.mk _ rfl ?_ | refine PickN.au ?_ | refine App.au rfl ?_ | refine App.au (own_map (fun _ => rfl) _) ?_ | refine Both.mk ?_ ?_ | exact True.intro
      exact ⟨F, .inr (hs.lenF.trans (succsF_len f)), fun s hs' => (hs.lowF s hs').1, rfl⟩
    · have hno := Solve46_no (nilsY f) hpre hall vs hv
      refine run_foldV 3 rfl rfl ?_
      refine run_frzV 3 rfl rfl (fz_nilsY f) ?_
      refine go 20 Tryd.func17 ?_
      repeat' first | refine Call.eqT hno rfl ?_ | refine Len.map ?_ | refine Len.nil ?_ | refine Len.cons ?_ | refine Br.t rfl ?_ | refine Br.f rfl ?_ | refine Fit.au ?_ | refine Cv.au ?_ | refine Need.ne ?_ | refine Need.au ?_ | refine Pick.map (by assumption) ?_ | refine Pick.mapI (by omega) (by assumption) ?_ | refine PickN.mk _ (by assumption) ?_ | refine PickN.mk _ rfl ?_ | refine PickN.au ?_ | refine App.au rfl ?_ | refine App.au (own_map (fun _ => rfl) _) ?_ | refine Both.mk ?_ ?_ | exact True.intro
      refine Stop.mk ?_
      refine run_varLe 2 rfl (.cons (VLe.refl _) (.cons (VLe.refl _) (.cons (VLe.refl _) (.cons (VLe.refl _) (.cons (VLe.refl _) (.cons (VLe.refl _) (.cons (VLe.refl _) (.cons (VLe.onil (sz := 1)) .nil)))))))) ?_
      refine go 1000 Tryd.func17 ?_
      repeat' first | refine Len.map ?_ | refine Len.nil ?_ | refine Len.cons ?_ | refine Br.t rfl ?_ | refine Br.f rfl ?_ | refine Fit.au ?_ | refine Cv.au ?_ | refine Need.ne ?_ | refine Need.au ?_ | refine Pick.map (by assumption) ?_ | refine Pick.mapI (by omega) (by assumption) ?_ | refine PickN.mk _ (by assumption) ?_ | refine PickN.mk _ rfl ?_ | refine PickN.au ?_ | refine App.au rfl ?_ | refine App.au (own_map (fun _ => rfl) _) ?_ | refine Both.mk ?_ ?_ | exact True.intro
      exact (show NewQ f _ from ⟨[], .inl rfl, fun _ h => absurd h List.not_mem_nil, rfl⟩)
end Go.Proofs.YtdgibhndjdgllaaDoor

/- Whether an array is asked for on each way (the document's), by a contract. -/
namespace Go.Proofs.YtdgibhndjdgllaaDoor
open Go.Ax
set_option maxRecDepth 10000
set_option linter.unusedVariables false
set_option maxHeartbeats 0

end Go.Proofs.YtdgibhndjdgllaaDoor

/- What a name has, what an instruction reads, by contracts. -/
namespace Go.Proofs.YtdgibhndjdgllaaDoor
open Go.Ax
set_option maxRecDepth 10000
set_option linter.unusedVariables false

end Go.Proofs.YtdgibhndjdgllaaDoor

/- The check of programs: how many go to a block, how an instruction stands, by contracts. -/
namespace Go.Proofs.YtdgibhndjdgllaaDoor
open Go.Ax
set_option maxRecDepth 10000
set_option linter.unusedVariables false

end Go.Proofs.YtdgibhndjdgllaaDoor

/- The check of programs: whether all is there that is named, by a contract. -/
namespace Go.Proofs.YtdgibhndjdgllaaDoor
open Go.Ax
set_option maxRecDepth 10000
set_option linter.unusedVariables false

end Go.Proofs.YtdgibhndjdgllaaDoor

/- The check of programs: the kinds that an instruction reads and writes, by contracts. -/
namespace Go.Proofs.YtdgibhndjdgllaaDoor
open Go.Ax
set_option maxRecDepth 10000
set_option linter.unusedVariables false

end Go.Proofs.YtdgibhndjdgllaaDoor

/- The check of programs: the kinds that an instruction reads, by a contract. -/
namespace Go.Proofs.YtdgibhndjdgllaaDoor
open Go.Ax
set_option maxRecDepth 10000
set_option linter.unusedVariables false

end Go.Proofs.YtdgibhndjdgllaaDoor

/- The check of programs: kinds, a function itself, by contracts. -/
namespace Go.Proofs.YtdgibhndjdgllaaDoor
open Go.Ax
set_option maxRecDepth 10000
set_option linter.unusedVariables false

end Go.Proofs.YtdgibhndjdgllaaDoor
