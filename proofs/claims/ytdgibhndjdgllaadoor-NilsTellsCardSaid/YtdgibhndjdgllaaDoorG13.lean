/- All blocks are put into the queue. -/
import Derived.Test.YtdgibhndjdgllaaDoorG12
import Derived.Test.YtdgibhndjdgllaaDoorG08
import Derived.Test.YtdgibhndjdgllaaDoorG07
import Derived.Test.YtdgibhndjdgllaaDoorG03
import Derived.Test.YtdgibhndjdgllaaDoorDTy2
set_option linter.unusedVariables false
set_option linter.unusedSimpArgs false

namespace Go.Proofs.YtdgibhndjdgllaaDoor
open Go.Ax
set_option maxRecDepth 10000
set_option linter.unusedVariables false
set_option maxHeartbeats 0

theorem puts_run (p : Prob) (hp : p.OK) (F T : List (List W)) (Qp : AV → Prop) (h : Run Tryd.prog 46 (Post.one Qp) [.code (rest46 8)] ⟨tmQ p, hpQ p F T (List.range p.edges.length), 8, Tryd.f46.ntmps⟩) : Run Tryd.prog 46 (Post.one Qp) [.code (rest46 7)] ⟨tmQ p, hpQ p F T [], 8, Tryd.f46.ntmps⟩ := by
  have hfew := hp.few
  unfold tmQ hpQ tmN hpN
  refine go 1000 Tryd.func46 ?_
  repeat' first | refine Len.map ?_ | refine Len.nil ?_ | refine Len.cons ?_ | refine Br.t rfl ?_ | refine Br.f rfl ?_ | refine Fit.au ?_ | refine Cv.au ?_ | refine Need.ne ?_ | refine Need.au ?_ | refine Pick.map (by assumption) ?_ | refine Pick.mapI (by omega) (by assumption) ?_ | refine PickN.mk _ (by assumption) ?_ | refine PickN.mk _ rfl ?_ | refine PickN.au ?_ | refine App.au rfl ?_ | refine App.au (own_map (fun _ => rfl) _) ?_ | refine Both.mk ?_ ?_ | exact True.intro
  refine Stop.mk (loop_in (g := []) (fun k : Nat => (51, num k) :: (50, num p.edges.length) :: tmQ p) (fun k => hpQ p F T (List.range k)) 8 (fun k => k ≤ p.edges.length) (fun k => p.edges.length - k) 0 (by omega) ⟨rfl, (by repeat' first | exact trivial | refine ⟨rfl, ?_⟩), (by repeat' first | exact trivial | refine ⟨rfl, ?_⟩)⟩ (fun k hk ih => ?_))
  by_cases h2 : k < p.edges.length
  · unfold tmQ hpQ tmN hpN
    refine go 17 Tryd.func46 ?_
    repeat' first | refine Br.t (by simp; omega) ?_ | refine Len.map ?_ | refine Len.nil ?_ | refine Len.cons ?_ | refine Br.t rfl ?_ | refine Br.f rfl ?_ | refine Fit.au ?_ | refine Cv.au ?_ | refine Need.ne ?_ | refine Need.au ?_ | refine Pick.map (by assumption) ?_ | refine Pick.mapI (by omega) (by assumption) ?_ | refine PickN.mk _ (by assumption) ?_ | refine PickN.mk _ rfl ?_ | refine PickN.au ?_ | refine App.au rfl ?_ | refine App.au (own_map (fun _ => rfl) _) ?_ | refine Both.mk ?_ ?_ | exact True.intro
    refine Stop.mk ?_
    refine run_inlC rfl want_none rfl rfl rfl rfl rfl rfl rfl (put_run p hp F T (List.range k) k h2 (fun _ => by rw [List.length_range]; exact h2) (fun h => absurd h (by simp)) (fun _ => ?_))
    unfold hpR hpN
    refine go 1000 Tryd.func46 ?_
    repeat' first | refine Len.map ?_ | refine Len.nil ?_ | refine Len.cons ?_ | refine Br.t rfl ?_ | refine Br.f rfl ?_ | refine Fit.au ?_ | refine Cv.au ?_ | refine Need.ne ?_ | refine Need.au ?_ | refine Pick.map (by assumption) ?_ | refine Pick.mapI (by omega) (by assumption) ?_ | refine PickN.mk _ (by assumption) ?_ | refine PickN.mk _ rfl ?_ | refine PickN.au ?_ | refine App.au rfl ?_ | refine App.au (own_map (fun _ => rfl) _) ?_ | refine Both.mk ?_ ?_ | exact True.intro
    refine Stop.mk (ih (k + 1) (g := []) _ _ _ (by omega) (by omega) ?_)
    unfold hpQ hpN tmQ tmN
    rw [List.range_succ]
    exact ⟨rfl, (by repeat' first | exact trivial | refine ⟨rfl, ?_⟩), (by repeat' first | exact trivial | refine ⟨rfl, ?_⟩)⟩
  · obtain rfl : k = p.edges.length := by omega
    unfold tmQ hpQ tmN hpN
    refine go 7 Tryd.func46 ?_
    repeat' first | refine Br.f (by simp) ?_ | refine Len.map ?_ | refine Len.nil ?_ | refine Len.cons ?_ | refine Br.t rfl ?_ | refine Br.f rfl ?_ | refine Fit.au ?_ | refine Cv.au ?_ | refine Need.ne ?_ | refine Need.au ?_ | refine Pick.map (by assumption) ?_ | refine Pick.mapI (by omega) (by assumption) ?_ | refine PickN.mk _ (by assumption) ?_ | refine PickN.mk _ rfl ?_ | refine PickN.au ?_ | refine App.au rfl ?_ | refine App.au (own_map (fun _ => rfl) _) ?_ | refine Both.mk ?_ ?_ | exact True.intro
    refine Stop.mk ?_
    exact Run.fr (g := []) h ⟨rfl, (by repeat' first | exact trivial | refine ⟨rfl, ?_⟩), (by repeat' first | exact trivial | refine ⟨rfl, ?_⟩)⟩
end Go.Proofs.YtdgibhndjdgllaaDoor

/- The rounds of a flow. -/
namespace Go.Proofs.YtdgibhndjdgllaaDoor
open Go.Ax
set_option maxRecDepth 10000
set_option linter.unusedVariables false
set_option maxHeartbeats 0

def QS (p : Prob) : AV → Prop := fun r => ∃ T F, SolP p T F ∧ r = .tup [.agg [.osl 1 (F.map oset), .osl 1 (T.map oset)], tru true]
theorem fz_oset (s : List W) : AV.fzL (oset s) = setL s := by
  unfold oset setL sets
  simp only [AV.fzL, AV.fz, fzw]
structure FS where
  T : List (List W)
  F : List (List W)
  Q : List Nat
def tmH (p : Prob) (q : FS) : TM := (12, tru (!q.Q.isEmpty)) :: (11, num (q.Q.headD 0)) :: tmQ p
theorem main_run (p : Prob) (hp : p.OK) (T F : List (List W)) (Q : List Nat) (hI : FlowI p T F Q) : Run Tryd.prog 46 (Post.one (QS p)) [.code (rest46 8)] ⟨tmQ p, hpQ p F T Q, 8, Tryd.f46.ntmps⟩ := by
  have hfew := hp.few
  have ht := turned_ok hp
  apply join (fun q : FS => tmH p q) (fun q => hpQ p q.F q.T q.Q.tail) 8 (fun q => FlowI p q.T q.F q.Q)
  · intro jn
    cases Q with
    | nil =>
      unfold tmQ hpQ tmN hpN
      refine go 4 Tryd.func46 ?_
      repeat' first | refine Len.map ?_ | refine Len.nil ?_ | refine Len.cons ?_ | refine Br.t rfl ?_ | refine Br.f rfl ?_ | refine Fit.au ?_ | refine Cv.au ?_ | refine Need.ne ?_ | refine Need.au ?_ | refine Pick.map (by assumption) ?_ | refine Pick.mapI (by omega) (by assumption) ?_ | refine PickN.mk _ (by assumption) ?_ | refine PickN.mk _ rfl ?_ | refine PickN.au ?_ | refine App.au rfl ?_ | refine App.au (own_map (fun _ => rfl) _) ?_ | refine Both.mk ?_ ?_ | exact True.intro
      refine Stop.mk ?_
      refine run_inlC rfl want_none rfl rfl rfl rfl rfl rfl rfl (take_none p hp F T ?_)
      unfold hpQ hpN
      refine go 7 Tryd.func46 ?_
      repeat' first | refine Len.map ?_ | refine Len.nil ?_ | refine Len.cons ?_ | refine Br.t rfl ?_ | refine Br.f rfl ?_ | refine Fit.au ?_ | refine Cv.au ?_ | refine Need.ne ?_ | refine Need.au ?_ | refine Pick.map (by assumption) ?_ | refine Pick.mapI (by omega) (by assumption) ?_ | refine PickN.mk _ (by assumption) ?_ | refine PickN.mk _ rfl ?_ | refine PickN.au ?_ | refine App.au rfl ?_ | refine App.au (own_map (fun _ => rfl) _) ?_ | refine Both.mk ?_ ?_ | exact True.intro
      refine Stop.mk ?_
      refine jn ⟨T, F, []⟩ (g := []) _ _ _ ⟨rfl, (by repeat' first | exact trivial | refine ⟨rfl, ?_⟩), (by repeat' first | exact trivial | refine ⟨rfl, ?_⟩)⟩ hI
    | cons x Q =>
      have hx := hI.rng x (List.mem_cons_self ..)
      have hn := (List.nodup_cons.1 hI.nod).1
      unfold tmQ hpQ tmN hpN
      refine go 4 Tryd.func46 ?_
      repeat' first | refine Len.map ?_ | refine Len.nil ?_ | refine Len.cons ?_ | refine Br.t rfl ?_ | refine Br.f rfl ?_ | refine Fit.au ?_ | refine Cv.au ?_ | refine Need.ne ?_ | refine Need.au ?_ | refine Pick.map (by assumption) ?_ | refine Pick.mapI (by omega) (by assumption) ?_ | refine PickN.mk _ (by assumption) ?_ | refine PickN.mk _ rfl ?_ | refine PickN.au ?_ | refine App.au rfl ?_ | refine App.au (own_map (fun _ => rfl) _) ?_ | refine Both.mk ?_ ?_ | exact True.intro
      refine Stop.mk ?_
      refine run_inlC rfl want_none rfl rfl rfl rfl rfl rfl rfl (take_some p hp F T x Q hx hn ?_)
      unfold hpR hpN
      refine go 7 Tryd.func46 ?_
      repeat' first | refine Len.map ?_ | refine Len.nil ?_ | refine Len.cons ?_ | refine Br.t rfl ?_ | refine Br.f rfl ?_ | refine Fit.au ?_ | refine Cv.au ?_ | refine Need.ne ?_ | refine Need.au ?_ | refine Pick.map (by assumption) ?_ | refine Pick.mapI (by omega) (by assumption) ?_ | refine PickN.mk _ (by assumption) ?_ | refine PickN.mk _ rfl ?_ | refine PickN.au ?_ | refine App.au rfl ?_ | refine App.au (own_map (fun _ => rfl) _) ?_ | refine Both.mk ?_ ?_ | exact True.intro
      refine Stop.mk ?_
      refine jn ⟨T, F, x :: Q⟩ (g := []) _ _ _ ⟨rfl, (by repeat' first | exact trivial | refine ⟨rfl, ?_⟩), (by repeat' first | exact trivial | refine ⟨rfl, ?_⟩)⟩ hI
  intro q0 hq0
  refine loop_in (g := []) (fun q : FS => tmH p q) (fun q => hpQ p q.F q.T q.Q.tail) 8 (fun q => FlowI p q.T q.F q.Q) (fun q => muT p q.T * (p.edges.length + 1) + q.Q.length) q0 hq0 ⟨rfl, ?_, ?_⟩ (fun q hq ih => ?_)
  · unfold tmH tmQ tmN; exact (by repeat' first | exact trivial | refine ⟨rfl, ?_⟩)
  · unfold hpQ hpN; exact (by repeat' first | exact trivial | refine ⟨rfl, ?_⟩)
  obtain ⟨T, F, Q⟩ := q
  dsimp only at hq ih ⊢
  cases Q with
  | nil =>
    unfold tmH tmQ hpQ tmN hpN
    refine go 1000 Tryd.func46 ?_
    repeat' first | refine Len.map ?_ | refine Len.nil ?_ | refine Len.cons ?_ | refine Br.t rfl ?_ | refine Br.f rfl ?_ | refine Fit.au ?_ | refine Cv.au ?_ | refine Need.ne ?_ | refine Need.au ?_ | refine Pick.map (by assumption) ?_ | refine Pick.mapI (by omega) (by assumption) ?_ | refine PickN.mk _ (by assumption) ?_ | refine PickN.mk _ rfl ?_ | refine PickN.au ?_ | refine App.au rfl ?_ | refine App.au (own_map (fun _ => rfl) _) ?_ | refine Both.mk ?_ ?_ | exact True.intro
    exact ⟨T, F, hq.end_, rfl⟩
  | cons x Q =>
    have hx := hq.rng x (List.mem_cons_self ..)
    have hlT := hq.lenT
    have hnod := (List.nodup_cons.1 hq.nod).2
    have hlF := hq.lenF
    have har := aheadAt p x
    have hal := aheadL_len p
    have hrow : (aheadL p)[x]? = some (aheadAt p x) := by
      unfold aheadAt
      rw [List.getD_eq_getElem?_getD, List.getElem?_eq_getElem (by omega)]; rfl
    have hfrom := from77_spec p hp x (aheadL p) (aheadAt p x) hrow T (fun a ha => by rw [hlT]; exact ht.rng x hx a ha) (fun s hs => (hq.low s hs).1) (ahead_len hp hx)
    have hFx : F[x]? = some (F.getD x []) := by
      rw [List.getD_eq_getElem?_getD, List.getElem?_eq_getElem (by omega)]; rfl
    have hTx : T[x]? = some (T.getD x []) := by
      rw [List.getD_eq_getElem?_getD, List.getElem?_eq_getElem (by omega)]; rfl
    have hlowf : Low p (fromW p x (aheadAt p x) T) := Low.from hp hq.low
    have hstep := fun Q2 => hq.step hp ht (Q2 := Q2)
    have hle : ∀ i, leB p (bitsOf T x i) (hasW (toW p x (fromW p x (aheadAt p x) T)) i) := fun i => by
      rw [hasW_to, hasW_from]; exact hq.pre x i hx
    have hsame := hq.same hp ht
    generalize fromW p x (aheadAt p x) T = fr at *
    have hTx0 : (T.map oset)[x]? = some (oset (T.getD x [])) := by rw [List.getElem?_map, hTx]; rfl
    have hT3 : ((T.map oset).set (x : Int).toNat [.osl 1 ((T.getD x []).map u1)])[(x : Int).toNat]? = some (oset (T.getD x [])) := by
      rw [Int.toNat_natCast, List.getElem?_set, if_pos rfl, if_pos (by rw [List.length_map]; omega)]; rfl
    have hbl := behindL_len p
    have hbrow : (behindL p)[x]? = some (behindAt p x) := by
      unfold behindAt
      rw [List.getD_eq_getElem?_getD, List.getElem?_eq_getElem (by omega)]; rfl
    have hr3 : ((F.set x fr).map oset).set (x : Int).toNat [.osl 1 (fr.map u1)] = (F.set x fr).map oset := by
      rw [Int.toNat_natCast]
      show ((F.set x fr).map oset).set x (oset fr) = _
      rw [List.map_set, List.set_set]
    have hr4 : (T.map oset).set (x : Int).toNat [.osl 1 ((T.getD x []).map u1)] = T.map oset := by
      rw [Int.toNat_natCast]
      refine List.ext_getElem? fun i => ?_
      rw [List.getElem?_set]
      by_cases e : x = i
      · subst e; rw [if_pos rfl, if_pos (by rw [List.length_map]; omega), hTx0]; rfl
      · rw [if_neg e]
    have hto := to78_spec p hp x hx fr (by have := hlowf.1; omega)
    have hlowt := hlowf.to hp hx
    generalize toW p x fr = to_ at *
    have hr5 : ((T.map oset).set (x : Int).toNat [.osl 1 ((T.getD x []).map u1)]).set (x : Int).toNat [.osl 1 (to_.map u1)] = (T.set x to_).map oset := by
      rw [List.set_set, List.map_set, Int.toNat_natCast]; rfl
    have hS := Same79_spec to_ (T.getD x []) (by have := hlowt.1; omega) (by have := (hq.low (T.getD x []) (List.mem_of_getElem? hTx)).1; omega)
    have hF2 : (F.set x fr)[x]? = some fr := by
      rw [List.getElem?_set, if_pos rfl, if_pos (by omega)]
    refine (show Run _ _ _ _ ⟨(12, tru true) :: (11, num x) :: tmQ p, hpQ p F T Q, 8, _⟩ from ?_)
    apply join (fun q : FS => (65, .hp 6 0) :: tmQ p) (fun q => hpQ p q.F q.T q.Q) 8 (fun q => FlowI p q.T q.F q.Q ∧ muT p q.T * (p.edges.length + 1) + q.Q.length < muT p T * (p.edges.length + 1) + (Q.length + 1))
    · intro jn
      unfold tmQ hpQ tmN hpN
      refine go 12 Tryd.func46 ?_
      repeat' first | refine Draw.mk (.one 0 false (.one 2 false (.alt 1 (.alt 3 (ordL [5, 6] [4, 5, 6]) (.alt 5 (ordL [3, 6] [3, 4, 6]) .no)) (.alt 3 (.alt 1 (ordL [5, 6] [4, 5, 6]) (.alt 5 (ordL [1, 6] [1, 4, 6]) .no)) (.alt 5 (.alt 1 (ordL [3, 6] [3, 4, 6]) (.alt 3 (ordL [1, 6] [1, 4, 6]) .no)) .no))))) (by decide +kernel) ?_ | refine Draw.mk (.one 0 false (.one 2 false (.one 6 false (.one 7 false (.alt 1 (ordL [3, 4, 8, 10] [3, 4, 5, 8, 9, 10]) (.alt 3 (.alt 1 (ordL [4, 8, 10] [4, 5, 8, 9, 10]) (.alt 4 (.one 5 false (.alt 1 (ordL [8, 10] [8, 9, 10]) (.alt 8 (ordL [10] [1, 9, 10]) .no))) .no)) .no)))))) (by decide +kernel) ?_ | refine Draw.mk (ordL [8, 10] [0, 1, 2, 3, 4, 5, 6, 7, 8, 9, 10]) (by decide +kernel) ?_ | refine Draw.mk (ordL [7] [0, 1, 2, 3, 4, 5, 6, 7, 8]) (by decide +kernel) ?_ | refine Look.yes (View.mk _ (fzLL_map fz_oset _) ?_) | refine CallV.eq hfrom rfl (by repeat' first | exact Free.lit _ | refine Free.tup ?_ | refine Free.agg ?_ | (refine Free.map ?_; intro e _) | refine List.forall_mem_cons.2 ⟨?_, ?_⟩ | exact List.forall_mem_nil _) ?_ | (refine Need.mk ⟨by omega, by rw [List.length_map, Int.toNat_natCast]; omega⟩ ?_) | refine PickN.map hFx ?_ | refine PickN.mk _ hF2 ?_ | (refine Need.mk ⟨by omega, by rw [List.length_set, List.length_map, Int.toNat_natCast]; omega⟩ ?_) | refine Look.yes (View.mk _ (fzw _) ?_) | refine CallV.eq hto rfl (by repeat' first | exact Free.lit _ | refine Free.tup ?_ | refine Free.agg ?_ | (refine Free.map ?_; intro e _) | refine List.forall_mem_cons.2 ⟨?_, ?_⟩ | exact List.forall_mem_nil _) ?_ | refine Len.map ?_ | refine Len.nil ?_ | refine Len.cons ?_ | refine Br.t rfl ?_ | refine Br.f rfl ?_ | refine Fit.au ?_ | refine Cv.au ?_ | refine Need.ne ?_ | refine Need.au ?_ | refine Pick.map (by assumption) ?_ | refine Pick.mapI (by omega) (by assumption) ?_ | refine PickN.mk _ (by assumption) ?_ | refine PickN.mk _ rfl ?_ | refine PickN.au ?_ | refine App.au rfl ?_ | refine App.au (own_map (fun _ => rfl) _) ?_ | refine Both.mk ?_ ?_ | exact True.intro
      refine Stop.mk ?_
      refine Run.fr (g := []) (tm' := (11, num x) :: tmQ p) (hp' := hpQ p (F.set x fr) T Q) (nx' := 8) ?_ ⟨rfl, ?_, ?_⟩
      rotate_left
      · unfold tmQ tmN; exact (by repeat' first | exact trivial | refine ⟨rfl, ?_⟩)
      · unfold hpQ hpN
        rw [List.map_set]
        exact (by repeat' first | exact trivial | refine ⟨rfl, ?_⟩)
      unfold tmQ hpQ tmN hpN
      refine go 1000 Tryd.func46 ?_
      repeat' first | refine Draw.mk (.one 0 false (.one 2 false (.alt 1 (.alt 3 (ordL [5, 6] [4, 5, 6]) (.alt 5 (ordL [3, 6] [3, 4, 6]) .no)) (.alt 3 (.alt 1 (ordL [5, 6] [4, 5, 6]) (.alt 5 (ordL [1, 6] [1, 4, 6]) .no)) (.alt 5 (.alt 1 (ordL [3, 6] [3, 4, 6]) (.alt 3 (ordL [1, 6] [1, 4, 6]) .no)) .no))))) (by decide +kernel) ?_ | refine Draw.mk (.one 0 false (.one 2 false (.one 6 false (.one 7 false (.alt 1 (ordL [3, 4, 8, 10] [3, 4, 5, 8, 9, 10]) (.alt 3 (.alt 1 (ordL [4, 8, 10] [4, 5, 8, 9, 10]) (.alt 4 (.one 5 false (.alt 1 (ordL [8, 10] [8, 9, 10]) (.alt 8 (ordL [1, 10] [1, 9, 10]) .no))) .no)) .no)))))) (by decide +kernel) ?_ | refine Draw.mk (.one 0 false (.one 2 false (.one 3 false (.one 4 false (.one 5 false (.one 6 false (.alt 1 (ordL [7, 8, 10] [7, 8, 9, 10]) (.alt 7 (.alt 1 (ordL [8, 10] [8, 9, 10]) (.alt 8 (ordL [1, 10] [1, 9, 10]) .no)) .no)))))))) (by decide +kernel) ?_ | refine Draw.mk (ordL [3, 6, 7] [0, 1, 2, 4, 3, 5, 6, 7, 8]) (by decide +kernel) ?_ | (refine Need.mk ⟨by omega, by rw [List.length_map, List.length_set, Int.toNat_natCast]; omega⟩ ?_) | refine PickN.map hF2 ?_ | refine Look.yes (View.mk _ (fzw _) ?_) | refine View.mk _ (fzw _) ?_ | refine CallV.eq hto rfl (by repeat' first | exact Free.lit _ | refine Free.tup ?_ | refine Free.agg ?_ | (refine Free.map ?_; intro e _) | refine List.forall_mem_cons.2 ⟨?_, ?_⟩ | exact List.forall_mem_nil _) ?_ | refine PickN.map hTx ?_ | (refine CallV.of hS ?_; rintro r ⟨v, rfl, hv⟩; refine ⟨rfl, (by repeat' first | exact Free.lit _ | refine Free.tup ?_ | refine Free.agg ?_ | (refine Free.map ?_; intro e _) | refine List.forall_mem_cons.2 ⟨?_, ?_⟩ | exact List.forall_mem_nil _), ?_⟩) | refine Len.map ?_ | refine Len.nil ?_ | refine Len.cons ?_ | refine Br.t rfl ?_ | refine Br.f rfl ?_ | refine Fit.au ?_ | refine Cv.au ?_ | refine Need.ne ?_ | refine Need.au ?_ | refine Pick.map (by assumption) ?_ | refine Pick.mapI (by omega) (by assumption) ?_ | refine PickN.mk _ (by assumption) ?_ | refine PickN.mk _ rfl ?_ | refine PickN.au ?_ | refine App.au rfl ?_ | refine App.au (own_map (fun _ => rfl) _) ?_ | refine Both.mk ?_ ?_ | exact True.intro
      refine Br.mk (fun e => ?_) (fun e => ?_)
      · repeat' first | refine Len.map ?_ | refine Len.nil ?_ | refine Len.cons ?_ | refine Br.t rfl ?_ | refine Br.f rfl ?_ | refine Fit.au ?_ | refine Cv.au ?_ | refine Need.ne ?_ | refine Need.au ?_ | refine Pick.map (by assumption) ?_ | refine Pick.mapI (by omega) (by assumption) ?_ | refine PickN.mk _ (by assumption) ?_ | refine PickN.mk _ rfl ?_ | refine PickN.au ?_ | refine App.au rfl ?_ | refine App.au (own_map (fun _ => rfl) _) ?_ | refine Both.mk ?_ ?_ | exact True.intro
        refine Look.stop (Stop.mk ?_)
        refine run_unf (id := 4) rfl ?_
        refine jn ⟨T, F.set x fr, Q⟩ (g := []) _ _ _ ⟨rfl, ?_, ?_⟩ ⟨hsame (hv.1 e), by dsimp only; omega⟩
        · unfold tmQ tmN; exact (by repeat' first | exact trivial | refine ⟨rfl, ?_⟩)
        · unfold hpQ hpN
          exact (by repeat' first | exact trivial | refine ⟨rfl, ?_⟩ | refine ⟨congrArg (fun l => some (Row.row 1 l)) hr3, ?_⟩ | refine ⟨congrArg (fun l => some (Row.row 1 l)) hr4, ?_⟩)
      · repeat' first | (refine Need.mk ⟨by omega, by rw [List.length_set, List.length_map, Int.toNat_natCast]; omega⟩ ?_) | refine PickN.mk _ hT3 ?_ | refine Pick.map hbrow ?_ | refine Len.map ?_ | refine Len.nil ?_ | refine Len.cons ?_ | refine Br.t rfl ?_ | refine Br.f rfl ?_ | refine Fit.au ?_ | refine Cv.au ?_ | refine Need.ne ?_ | refine Need.au ?_ | refine Pick.map (by assumption) ?_ | refine Pick.mapI (by omega) (by assumption) ?_ | refine PickN.mk _ (by assumption) ?_ | refine PickN.mk _ rfl ?_ | refine PickN.au ?_ | refine App.au rfl ?_ | refine App.au (own_map (fun _ => rfl) _) ?_ | refine Both.mk ?_ ?_ | exact True.intro
        have hbr := behind_rng hp hx
        have hbll := behind_len hp hx
        refine Stop.mk (loop_in (g := []) (fun j : Nat => (102, ints (behindAt p x)) :: (103, num (behindAt p x).length) :: (104, num j) :: tmQ p) (fun j => hpQ p (F.set x fr) (T.set x to_) (putL Q ((behindAt p x).take j))) 8 (fun j => j ≤ (behindAt p x).length) (fun j => (behindAt p x).length - j) 0 (by omega) ⟨rfl, ?_, ?_⟩ (fun j hj ih2 => ?_))
        · unfold tmQ tmN; exact (by repeat' first | exact trivial | refine ⟨rfl, ?_⟩)
        · unfold hpQ hpN
          exact (by repeat' first | exact trivial | refine ⟨rfl, ?_⟩ | refine ⟨congrArg (fun l => some (Row.row 1 l)) hr3, ?_⟩ | refine ⟨congrArg (fun l => some (Row.row 1 l)) hr5, ?_⟩)
        by_cases h2 : j < (behindAt p x).length
        · obtain ⟨b, gb, gbm⟩ := getK (l := behindAt p x) (k := j) h2
          obtain ⟨hb0, hb1⟩ := hbr b gbm
          have hpt := putL_take (Q := Q) gb
          obtain ⟨b, rfl⟩ : ∃ n : Nat, b = n := ⟨b.toNat, by omega⟩
          unfold tmQ hpQ tmN hpN
          refine go 18 Tryd.func46 ?_
          repeat' first | refine Br.t (by simp; omega) ?_ | refine Pick.map gb ?_ | refine Len.map ?_ | refine Len.nil ?_ | refine Len.cons ?_ | refine Br.t rfl ?_ | refine Br.f rfl ?_ | refine Fit.au ?_ | refine Cv.au ?_ | refine Need.ne ?_ | refine Need.au ?_ | refine Pick.map (by assumption) ?_ | refine Pick.mapI (by omega) (by assumption) ?_ | refine PickN.mk _ (by assumption) ?_ | refine PickN.mk _ rfl ?_ | refine PickN.au ?_ | refine App.au rfl ?_ | refine App.au (own_map (fun _ => rfl) _) ?_ | refine Both.mk ?_ ?_ | exact True.intro
          have hn2 : (putL Q ((behindAt p x).take j)).Nodup := putL_nodup hnod
          have hr2 : ∀ k ∈ putL Q ((behindAt p x).take j), k < p.edges.length := fun k hk => by
            rcases putL_mem.1 hk with hk | ⟨c, hc, rfl⟩
            · exact hq.rng k (List.mem_cons_of_mem _ hk)
            · have := hbr c (List.mem_of_mem_take hc); omega
          generalize putL Q ((behindAt p x).take j) = Q2 at *
          rw [Int.toNat_natCast] at hpt
          refine Stop.mk ?_
          refine run_inlC rfl want_none rfl rfl rfl rfl rfl rfl rfl (put_run p hp (F.set x fr) (T.set x to_) Q2 b (by omega) (fun h => nodup_lt hn2 hr2 (by omega) h) (fun h => ?_) (fun h => ?_))
          · rw [show put1 Q2 b = Q2 from if_pos h] at hpt
            unfold hpQ hpN
            refine go 1000 Tryd.func46 ?_
            repeat' first | refine Len.map ?_ | refine Len.nil ?_ | refine Len.cons ?_ | refine Br.t rfl ?_ | refine Br.f rfl ?_ | refine Fit.au ?_ | refine Cv.au ?_ | refine Need.ne ?_ | refine Need.au ?_ | refine Pick.map (by assumption) ?_ | refine Pick.mapI (by omega) (by assumption) ?_ | refine PickN.mk _ (by assumption) ?_ | refine PickN.mk _ rfl ?_ | refine PickN.au ?_ | refine App.au rfl ?_ | refine App.au (own_map (fun _ => rfl) _) ?_ | refine Both.mk ?_ ?_ | exact True.intro
            refine Stop.mk (ih2 (j + 1) (g := []) _ _ _ (by omega) (by omega) ?_)
            rw [hpt]
            unfold hpQ hpN tmQ tmN
            exact ⟨rfl, (by repeat' first | exact trivial | refine ⟨rfl, ?_⟩), (by repeat' first | exact trivial | refine ⟨rfl, ?_⟩)⟩
          · rw [show put1 Q2 b = Q2 ++ [b] from if_neg h] at hpt
            unfold hpR hpN
            refine go 1000 Tryd.func46 ?_
            repeat' first | refine Len.map ?_ | refine Len.nil ?_ | refine Len.cons ?_ | refine Br.t rfl ?_ | refine Br.f rfl ?_ | refine Fit.au ?_ | refine Cv.au ?_ | refine Need.ne ?_ | refine Need.au ?_ | refine Pick.map (by assumption) ?_ | refine Pick.mapI (by omega) (by assumption) ?_ | refine PickN.mk _ (by assumption) ?_ | refine PickN.mk _ rfl ?_ | refine PickN.au ?_ | refine App.au rfl ?_ | refine App.au (own_map (fun _ => rfl) _) ?_ | refine Both.mk ?_ ?_ | exact True.intro
            refine Stop.mk (ih2 (j + 1) (g := []) _ _ _ (by omega) (by omega) ?_)
            rw [hpt]
            unfold hpQ hpN tmQ tmN
            exact ⟨rfl, (by repeat' first | exact trivial | refine ⟨rfl, ?_⟩), (by repeat' first | exact trivial | refine ⟨rfl, ?_⟩)⟩
        · obtain rfl : j = (behindAt p x).length := by omega
          rw [List.take_length]
          unfold tmQ hpQ tmN hpN
          refine go 1000 Tryd.func46 ?_
          repeat' first | refine Br.f (by simp) ?_ | refine Len.map ?_ | refine Len.nil ?_ | refine Len.cons ?_ | refine Br.t rfl ?_ | refine Br.f rfl ?_ | refine Fit.au ?_ | refine Cv.au ?_ | refine Need.ne ?_ | refine Need.au ?_ | refine Pick.map (by assumption) ?_ | refine Pick.mapI (by omega) (by assumption) ?_ | refine PickN.mk _ (by assumption) ?_ | refine PickN.mk _ rfl ?_ | refine PickN.au ?_ | refine App.au rfl ?_ | refine App.au (own_map (fun _ => rfl) _) ?_ | refine Both.mk ?_ ?_ | exact True.intro
          refine Look.stop (Stop.mk ?_)
          refine jn ⟨T.set x to_, F.set x fr, putL Q (behindAt p x)⟩ (g := []) _ _ _ ⟨rfl, ?_, ?_⟩ ⟨?_, ?_⟩
          · unfold tmQ tmN; exact (by repeat' first | exact trivial | refine ⟨rfl, ?_⟩)
          · unfold hpQ hpN; exact (by repeat' first | exact trivial | refine ⟨rfl, ?_⟩)
          · have hr2 : ∀ k ∈ putL Q (behindAt p x), k < p.edges.length := fun k hk => by
              rcases putL_mem.1 hk with hk | ⟨c, hc, rfl⟩
              · exact hq.rng k (List.mem_cons_of_mem _ hk)
              · have := hbr c hc; omega
            exact hstep _ (putL_nodup hnod) hr2 (fun k hk => putL_mem.2 (.inl hk)) (fun k hk hm => putL_mem.2 (.inr ⟨k, hm, by omega⟩))
          · have hr2 : ∀ k ∈ putL Q (behindAt p x), k < p.edges.length := fun k hk => by
              rcases putL_mem.1 hk with hk | ⟨c, hc, rfl⟩
              · exact hq.rng k (List.mem_cons_of_mem _ hk)
              · have := hbr c hc; omega
            have h3 := nodup_le (putL_nodup hnod) hr2
            have h4 := muT_lt (by omega) hle hlowt hq.low (fun h => by rw [hv.2 h] at e; cases e)
            have h5 := Nat.mul_le_mul_right (p.edges.length + 1) h4
            rw [Nat.succ_mul] at h5
            dsimp only
            omega
    · intro q hq2
      obtain ⟨T2, F2, Q2⟩ := q
      obtain ⟨hq2, hmu⟩ := hq2
      dsimp only at hq2 hmu ⊢
      cases Q2 with
      | nil =>
        unfold tmQ hpQ tmN hpN
        refine run_inlC rfl want_none rfl rfl rfl rfl rfl rfl rfl (take_none p hp F2 T2 ?_)
        unfold hpQ hpN
        refine go 1000 Tryd.func46 ?_
        repeat' first | refine Len.map ?_ | refine Len.nil ?_ | refine Len.cons ?_ | refine Br.t rfl ?_ | refine Br.f rfl ?_ | refine Fit.au ?_ | refine Cv.au ?_ | refine Need.ne ?_ | refine Need.au ?_ | refine Pick.map (by assumption) ?_ | refine Pick.mapI (by omega) (by assumption) ?_ | refine PickN.mk _ (by assumption) ?_ | refine PickN.mk _ rfl ?_ | refine PickN.au ?_ | refine App.au rfl ?_ | refine App.au (own_map (fun _ => rfl) _) ?_ | refine Both.mk ?_ ?_ | exact True.intro
        refine Stop.mk (ih ⟨T2, F2, []⟩ (g := []) _ _ _ hq2 (by dsimp only; exact hmu) ?_)
        unfold tmH hpQ hpN tmQ tmN
        exact ⟨rfl, (by repeat' first | exact trivial | refine ⟨rfl, ?_⟩), (by repeat' first | exact trivial | refine ⟨rfl, ?_⟩)⟩
      | cons y Q2 =>
        have hy := hq2.rng y (List.mem_cons_self ..)
        have hny := (List.nodup_cons.1 hq2.nod).1
        unfold tmQ hpQ tmN hpN
        refine run_inlC rfl want_none rfl rfl rfl rfl rfl rfl rfl (take_some p hp F2 T2 y Q2 hy hny ?_)
        unfold hpR hpN
        refine go 1000 Tryd.func46 ?_
        repeat' first | refine Len.map ?_ | refine Len.nil ?_ | refine Len.cons ?_ | refine Br.t rfl ?_ | refine Br.f rfl ?_ | refine Fit.au ?_ | refine Cv.au ?_ | refine Need.ne ?_ | refine Need.au ?_ | refine Pick.map (by assumption) ?_ | refine Pick.mapI (by omega) (by assumption) ?_ | refine PickN.mk _ (by assumption) ?_ | refine PickN.mk _ rfl ?_ | refine PickN.au ?_ | refine App.au rfl ?_ | refine App.au (own_map (fun _ => rfl) _) ?_ | refine Both.mk ?_ ?_ | exact True.intro
        refine Stop.mk (ih ⟨T2, F2, y :: Q2⟩ (g := []) _ _ _ hq2 (by dsimp only; exact hmu) ?_)
        unfold tmH hpQ hpN tmQ tmN
        exact ⟨rfl, (by repeat' first | exact trivial | refine ⟨rfl, ?_⟩), (by repeat' first | exact trivial | refine ⟨rfl, ?_⟩)⟩
end Go.Proofs.YtdgibhndjdgllaaDoor

/- The solution of a flow, by a contract. -/
namespace Go.Proofs.YtdgibhndjdgllaaDoor
open Go.Ax
set_option maxRecDepth 10000
set_option linter.unusedVariables false
set_option maxHeartbeats 0

theorem vle_oslO {sz : Nat} {xs ys : List (List AV)} (h : OLeLL xs ys) : VLe (.osl sz xs) (.osl sz ys) := fun I w x F k => by
  rcases k with ⟨k, _⟩ | k
  · cases k with | std k => cases k
  · exact .inr (OLe.oslO h _ _ _ _ k)
theorem oset_rep (n : Nat) : OLeLL (List.replicate n [.lit (.slice none 0 0)]) ((List.replicate n ([] : List W)).map oset) := by
  rw [List.map_replicate]; exact OLeLL.rep (.cons OLe.onil .nil) n
theorem Solve46_spec (p : Prob) (hp : p.OK) : FnSpec Tryd.prog 46 [probA p] (QS p) := by
  obtain ⟨g, h, hL⟩ := latP p hp
  have hR := Right71_spec p hp
  have hW := ways72_spec p hp
  have hN := hL.none_
  have hfew := hp.few
  unfold QS
  refine spec_of 23 Tryd.func46 rfl rfl ?_
  repeat' first | refine Call.eq hR rfl ?_ | refine Len.map ?_ | refine Len.nil ?_ | refine Len.cons ?_ | refine Br.t rfl ?_ | refine Br.f rfl ?_ | refine Fit.au ?_ | refine Cv.au ?_ | refine Need.ne ?_ | refine Need.au ?_ | refine Pick.map (by assumption) ?_ | refine Pick.mapI (by omega) (by assumption) ?_ | refine PickN.mk _ (by assumption) ?_ | refine PickN.mk _ rfl ?_ | refine PickN.au ?_ | refine App.au rfl ?_ | refine App.au (own_map (fun _ => rfl) _) ?_ | refine Both.mk ?_ ?_ | exact True.intro
  refine Stop.mk ?_
  apply join (fun _ : Unit => [(1, .hp 0 0), (2, .hp 1 0), (3, tru false), (4, num p.edges.length), (5, .hp 2 0)]) (fun _ => [(0, .var p.cs), (1, .var [.lit (.slice none 0 0), .lit (.slice none 0 0)]), (2, .var [.osl 1 (List.replicate p.edges.length [.lit (.slice none 0 0)]), .osl 1 (List.replicate p.edges.length [.lit (.slice none 0 0)])])]) 3 (fun _ => True)
  · intro jn
    refine go 1 Tryd.func46 ?_
    repeat' first | refine Draw.mk (.one 0 false (.one 2 false (.alt 1 (.alt 3 (ordL [5, 6] [4, 5, 6]) (.alt 5 (ordL [3, 6] [3, 4, 6]) .no)) (.alt 3 (.alt 1 (ordL [5, 6] [4, 5, 6]) (.alt 5 (ordL [1, 6] [1, 4, 6]) .no)) (.alt 5 (.alt 1 (ordL [3, 6] [3, 4, 6]) (.alt 3 (ordL [1, 6] [1, 4, 6]) .no)) .no))))) (by decide +kernel) ?_ | refine Draw.mk (.one 0 false (.one 2 false (.one 6 false (.one 7 false (.alt 1 (ordL [3, 4, 8, 10] [3, 4, 5, 8, 9, 10]) (.alt 3 (.alt 1 (ordL [4, 8, 10] [4, 5, 8, 9, 10]) (.alt 4 (.one 5 false (.alt 1 (ordL [8, 10] [8, 9, 10]) (.alt 8 (ordL [1, 10] [1, 9, 10]) .no))) .no)) .no)))))) (by decide +kernel) ?_ | refine Draw.mk (.one 0 false (.one 2 false (.one 3 false (.one 4 false (.one 5 false (.one 6 false (.alt 1 (ordL [7, 8, 10] [7, 8, 9, 10]) (.alt 7 (.alt 1 (ordL [8, 10] [8, 9, 10]) (.alt 8 (ordL [1, 10] [1, 9, 10]) .no)) .no)))))))) (by decide +kernel) ?_ | refine Draw.mk (ordL [3, 6, 7] [0, 1, 2, 4, 3, 5, 6, 7, 8]) (by decide +kernel) ?_ | refine MkS.mk p.edges.length rfl rfl (by omega) (by omega) ?_ | refine Len.map ?_ | refine Len.nil ?_ | refine Len.cons ?_ | refine Br.t rfl ?_ | refine Br.f rfl ?_ | refine Fit.au ?_ | refine Cv.au ?_ | refine Need.ne ?_ | refine Need.au ?_ | refine Pick.map (by assumption) ?_ | refine Pick.mapI (by omega) (by assumption) ?_ | refine PickN.mk _ (by assumption) ?_ | refine PickN.mk _ rfl ?_ | refine PickN.au ?_ | refine App.au rfl ?_ | refine App.au (own_map (fun _ => rfl) _) ?_ | refine Both.mk ?_ ?_ | exact True.intro
    all_goals (refine Stop.mk ?_; first | (refine jn () (g := [(2, 2)]) _ _ _ ⟨rfl, ?_, ?_⟩ trivial; all_goals (repeat' first | exact trivial | refine ⟨rfl, ?_⟩); done) | (refine jn () (g := [(2, 3)]) _ _ _ ⟨rfl, ?_, ?_⟩ trivial; all_goals (repeat' first | exact trivial | refine ⟨rfl, ?_⟩); done) | (refine jn () (g := [(2, 4)]) _ _ _ ⟨rfl, ?_, ?_⟩ trivial; all_goals (repeat' first | exact trivial | refine ⟨rfl, ?_⟩); done))
  rintro _ _
  apply join (fun _ : Unit => [(1, .hp 0 0), (2, .hp 1 0), (3, tru false), (4, num p.edges.length), (5, .hp 2 0), (6, lsts (aheadL p)), (7, lsts (behindL p))]) (fun _ => [(0, .var p.cs), (1, .var [.lit (.slice none 0 0), .lit (.slice none 0 0)]), (2, .var [.osl 1 (List.replicate p.edges.length [.lit (.slice none 0 0)]), .osl 1 (List.replicate p.edges.length [.lit (.slice none 0 0)])])]) 3 (fun _ => True)
  · intro jn
    unfold aheadL behindL at jn
    cases hb : p.back with
    | true =>
      rw [hb] at hW jn
      refine go 12 Tryd.func46 ?_
      repeat' first | refine Call.eq hW rfl ?_ | refine Len.map ?_ | refine Len.nil ?_ | refine Len.cons ?_ | refine Br.t rfl ?_ | refine Br.f rfl ?_ | refine Fit.au ?_ | refine Cv.au ?_ | refine Need.ne ?_ | refine Need.au ?_ | refine Pick.map (by assumption) ?_ | refine Pick.mapI (by omega) (by assumption) ?_ | refine PickN.mk _ (by assumption) ?_ | refine PickN.mk _ rfl ?_ | refine PickN.au ?_ | refine App.au rfl ?_ | refine App.au (own_map (fun _ => rfl) _) ?_ | refine Both.mk ?_ ?_ | exact True.intro
      refine Stop.mk ?_
      refine run_frzR 3 rfl (fzLL_map fz_olsts _) ?_
      refine jn () (g := []) _ _ _ ⟨rfl, ?_, ?_⟩ trivial
      all_goals (repeat' first | exact trivial | refine ⟨rfl, ?_⟩)
    | false =>
      rw [hb] at hW jn
      refine go 12 Tryd.func46 ?_
      repeat' first | refine Call.eq hW rfl ?_ | refine Len.map ?_ | refine Len.nil ?_ | refine Len.cons ?_ | refine Br.t rfl ?_ | refine Br.f rfl ?_ | refine Fit.au ?_ | refine Cv.au ?_ | refine Need.ne ?_ | refine Need.au ?_ | refine Pick.map (by assumption) ?_ | refine Pick.mapI (by omega) (by assumption) ?_ | refine PickN.mk _ (by assumption) ?_ | refine PickN.mk _ rfl ?_ | refine PickN.au ?_ | refine App.au rfl ?_ | refine App.au (own_map (fun _ => rfl) _) ?_ | refine Both.mk ?_ ?_ | exact True.intro
      refine Stop.mk ?_
      refine run_frzR 3 rfl (fzLL_map fz_olsts _) ?_
      refine jn () (g := []) _ _ _ ⟨rfl, ?_, ?_⟩ trivial
      all_goals (repeat' first | exact trivial | refine ⟨rfl, ?_⟩)
  rintro _ _
  refine run_varLe 2 rfl (.cons (vle_oslO (oset_rep _)) (.cons (vle_oslO (oset_rep _)) .nil)) ?_
  refine run_unfold 2 0 rfl rfl ?_
  refine run_unfold 2 1 rfl rfl ?_
  refine go 1000 Tryd.func46 ?_
  repeat' first | refine Len.map ?_ | refine Len.nil ?_ | refine Len.cons ?_ | refine Br.t rfl ?_ | refine Br.f rfl ?_ | refine Fit.au ?_ | refine Cv.au ?_ | refine Need.ne ?_ | refine Need.au ?_ | refine Pick.map (by assumption) ?_ | refine Pick.mapI (by omega) (by assumption) ?_ | refine PickN.mk _ (by assumption) ?_ | refine PickN.mk _ rfl ?_ | refine PickN.au ?_ | refine App.au rfl ?_ | refine App.au (own_map (fun _ => rfl) _) ?_ | refine Both.mk ?_ ?_ | exact True.intro
  rw [← fillX_zero p.edges.length (noneW p) ([] : List W)]
  refine Stop.mk (loop_in (g := []) (fun k : Nat => [(1, .hp 0 0), (2, .hp 1 0), (3, tru false), (4, num p.edges.length), (5, .hp 2 0), (6, lsts (aheadL p)), (7, lsts (behindL p)), (33, num p.edges.length), (34, num k)])
    (fun k => [(4, .row 1 ((fillX p.edges.length k (noneW p) []).map oset)), (2, .var [.hw 3, .hw 4]), (3, .row 1 ((List.replicate p.edges.length ([] : List W)).map oset)), (0, .var p.cs), (1, .var [.lit (.slice none 0 0), .lit (.slice none 0 0)])]) 5
    (fun k => k ≤ p.edges.length) (fun k => p.edges.length - k) 0 (by omega) ?_ (fun k hk ih => ?_))
  · rw [fillX_zero]
    exact ⟨rfl, (by repeat' first | exact trivial | refine ⟨rfl, ?_⟩ | refine ⟨congrArg (fun n => AV.lit (.int .i64 n)) (by omega), ?_⟩ | refine ⟨congrArg (fun l => some (Row.row 1 l)) (by simp [int1, num, tru]), ?_⟩), (by repeat' first | exact trivial | refine ⟨rfl, ?_⟩ | refine ⟨congrArg (fun n => AV.lit (.int .i64 n)) (by omega), ?_⟩ | refine ⟨congrArg (fun l => some (Row.row 1 l)) (by simp [int1, num, tru]), ?_⟩)⟩
  by_cases h2 : k < p.edges.length
  · have hset := fillX_set (n := p.edges.length) (k := k) (x := noneW p) (d := []) (by omega)
    have h3 : ((fillX p.edges.length k (noneW p) []).map oset).set k [.osl 1 ((noneW p).map u1)] = (fillX p.edges.length (k + 1) (noneW p) []).map oset := by
      rw [← hset, List.map_set]; rfl
    refine go 1000 Tryd.func46 ?_
    repeat' first | refine Len.map ?_ | refine Len.nil ?_ | refine Len.cons ?_ | refine Br.t rfl ?_ | refine Br.f rfl ?_ | refine Fit.au ?_ | refine Cv.au ?_ | refine Need.ne ?_ | refine Need.au ?_ | refine Pick.map (by assumption) ?_ | refine Pick.mapI (by omega) (by assumption) ?_ | refine PickN.mk _ (by assumption) ?_ | refine PickN.mk _ rfl ?_ | refine PickN.au ?_ | refine App.au rfl ?_ | refine App.au (own_map (fun _ => rfl) _) ?_ | refine Both.mk ?_ ?_ | exact True.intro
    refine Br.t (by simp; omega) ?_
    repeat' first | refine Draw.mk (.one 0 false (.one 2 false (.alt 1 (.alt 3 (ordL [5, 6] [4, 5, 6]) (.alt 5 (ordL [3, 6] [3, 4, 6]) .no)) (.alt 3 (.alt 1 (ordL [5, 6] [4, 5, 6]) (.alt 5 (ordL [1, 6] [1, 4, 6]) .no)) (.alt 5 (.alt 1 (ordL [3, 6] [3, 4, 6]) (.alt 3 (ordL [1, 6] [1, 4, 6]) .no)) .no))))) (by decide +kernel) ?_ | refine Draw.mk (.one 0 false (.one 2 false (.one 6 false (.one 7 false (.alt 1 (ordL [3, 4, 8, 10] [3, 4, 5, 8, 9, 10]) (.alt 3 (.alt 1 (ordL [4, 8, 10] [4, 5, 8, 9, 10]) (.alt 4 (.one 5 false (.alt 1 (ordL [8, 10] [8, 9, 10]) (.alt 8 (ordL [1, 10] [1, 9, 10]) .no))) .no)) .no)))))) (by decide +kernel) ?_ | refine Draw.mk (.one 0 false (.one 2 false (.one 3 false (.one 4 false (.one 5 false (.one 6 false (.alt 1 (ordL [7, 8, 10] [7, 8, 9, 10]) (.alt 7 (.alt 1 (ordL [8, 10] [8, 9, 10]) (.alt 8 (ordL [1, 10] [1, 9, 10]) .no)) .no)))))))) (by decide +kernel) ?_ | refine Draw.mk (ordL [3, 6, 7] [0, 1, 2, 4, 3, 5, 6, 7, 8]) (by decide +kernel) ?_ | refine Call.eq hL.of_ rfl ?_ | (refine Dyn.spec _ _ hN (.cons (.inl rfl) .nil) rfl (fun r hr => ?_); subst hr; refine ⟨rfl, (by repeat' first | exact Free.lit _ | refine Free.tup ?_ | refine Free.agg ?_ | (refine Free.map ?_; intro e _) | refine List.forall_mem_cons.2 ⟨?_, ?_⟩ | exact List.forall_mem_nil _), ?_⟩) | (refine Need.mk ⟨by omega, by rw [List.length_map, fillX_len]; omega⟩ ?_) | (refine PickN.map (fillX_at (by omega)) ?_) | refine Len.map ?_ | refine Len.nil ?_ | refine Len.cons ?_ | refine Br.t rfl ?_ | refine Br.f rfl ?_ | refine Fit.au ?_ | refine Cv.au ?_ | refine Need.ne ?_ | refine Need.au ?_ | refine Pick.map (by assumption) ?_ | refine Pick.mapI (by omega) (by assumption) ?_ | refine PickN.mk _ (by assumption) ?_ | refine PickN.mk _ rfl ?_ | refine PickN.au ?_ | refine App.au rfl ?_ | refine App.au (own_map (fun _ => rfl) _) ?_ | refine Both.mk ?_ ?_ | exact True.intro
    all_goals exact Stop.mk (ih (k + 1) (g := []) _ _ _ (by omega) (by omega) ⟨rfl, (by repeat' first | exact trivial | refine ⟨rfl, ?_⟩), by refine ⟨congrArg (fun l => some (Row.row 1 l)) h3, ?_⟩; repeat' first | exact trivial | refine ⟨rfl, ?_⟩⟩)
  · obtain rfl : k = p.edges.length := by omega
    refine go 7 Tryd.func46 ?_
    repeat' first | refine Len.map ?_ | refine Len.nil ?_ | refine Len.cons ?_ | refine Br.t rfl ?_ | refine Br.f rfl ?_ | refine Fit.au ?_ | refine Cv.au ?_ | refine Need.ne ?_ | refine Need.au ?_ | refine Pick.map (by assumption) ?_ | refine Pick.mapI (by omega) (by assumption) ?_ | refine PickN.mk _ (by assumption) ?_ | refine PickN.mk _ rfl ?_ | refine PickN.au ?_ | refine App.au rfl ?_ | refine App.au (own_map (fun _ => rfl) _) ?_ | refine Both.mk ?_ ?_ | exact True.intro
    refine Br.f (by simp) ?_
    repeat' first | refine Len.map ?_ | refine Len.nil ?_ | refine Len.cons ?_ | refine Br.t rfl ?_ | refine Br.f rfl ?_ | refine Fit.au ?_ | refine Cv.au ?_ | refine Need.ne ?_ | refine Need.au ?_ | refine Pick.map (by assumption) ?_ | refine Pick.mapI (by omega) (by assumption) ?_ | refine PickN.mk _ (by assumption) ?_ | refine PickN.mk _ rfl ?_ | refine PickN.au ?_ | refine App.au rfl ?_ | refine App.au (own_map (fun _ => rfl) _) ?_ | refine Both.mk ?_ ?_ | exact True.intro
    have hI := FlowI.start hp
    rw [← fillX_all] at hI
    refine Stop.mk (Run.fr (g := []) (new_run p hp _ _ _ (puts_run p hp _ _ _ (main_run p hp _ _ _ hI))) ⟨rfl, ?_, ?_⟩)
    · unfold tmN; exact (by repeat' first | exact trivial | refine ⟨rfl, ?_⟩)
    · unfold hpN; exact (by repeat' first | exact trivial | refine ⟨rfl, ?_⟩)
end Go.Proofs.YtdgibhndjdgllaaDoor

/- Going through blocks, each once: what is marked. No program is in sight here. -/
namespace Go.Proofs.YtdgibhndjdgllaaDoor
open Go.Ax
def Grows (l l' : List Bool) : Prop := l'.length = l.length ∧ ∀ u : Nat, l[u]? = some true → l'[u]? = some true
theorem Grows.refl {l : List Bool} : Grows l l := ⟨rfl, fun _ h => h⟩
theorem Grows.trans {a b c : List Bool} (h : Grows a b) (g : Grows b c) : Grows a c := ⟨g.1.trans h.1, fun u hu => g.2 u (h.2 u hu)⟩
theorem Grows.set {l : List Bool} {k : Nat} : Grows l (l.set k true) := ⟨by simp, fun _ h => set_keep h⟩
theorem Grows.falses : ∀ {l l' : List Bool}, Grows l l' → falses l' ≤ falses l
  | [], [], _ => Nat.le_refl _
  | [], _ :: _, h => by simp [Grows] at h
  | _ :: _, [], h => by simp [Grows] at h
  | a :: l, b :: l', ⟨h1, h2⟩ => by
    have ih : Go.Proofs.YtdgibhndjdgllaaDoor.falses l' ≤ Go.Proofs.YtdgibhndjdgllaaDoor.falses l := Grows.falses ⟨by simpa using h1, fun u hu => by simpa using h2 (u + 1) (by simpa using hu)⟩
    have h0 := h2 0
    unfold Go.Proofs.YtdgibhndjdgllaaDoor.falses at *
    simp only [List.count_cons]
    cases a <;> cases b <;> simp_all <;> omega
/-- What going into a block comes to. -/
structure Into (s : List (List Int)) (x : Int) (l : List Bool) (k : Int) (l' : List Bool) : Prop where
  grows : Grows l l'
  sound : ∀ u : Nat, l'[u]? = some true → l[u]? = some true ∨ Reaches s x u
  here : k ≠ x → l'[k.toNat]? = some true
  shut : ∀ u : Nat, l'[u]? = some true → l[u]? ≠ some true → ∀ r, s[u]? = some r → ∀ t ∈ r, t ≠ x → l'[t.toNat]? = some true
/-- The same, within its loop. -/
structure Mid (s : List (List Int)) (x : Int) (l : List Bool) (k : Nat) (j : Nat) (l' : List Bool) : Prop where
  grows : Grows (l.set k true) l'
  sound : ∀ u : Nat, l'[u]? = some true → l[u]? = some true ∨ Reaches s x u
  shut : ∀ u : Nat, u ≠ k → l'[u]? = some true → l[u]? ≠ some true → ∀ r, s[u]? = some r → ∀ t ∈ r, t ≠ x → l'[t.toNat]? = some true
  done : ∀ r, s[k]? = some r → ∀ (i : Nat) (t : Int), i < j → r[i]? = some t → t ≠ x → l'[t.toNat]? = some true
theorem Into.stays {s : List (List Int)} {x : Int} {l : List Bool} {k : Int} (h : k ≠ x → l[k.toNat]? = some true) : Into s x l k l :=
  ⟨.refl, fun _ h => .inl h, h, fun u h1 h2 => absurd h1 h2⟩
theorem Mid.start {s : List (List Int)} {x : Int} {l : List Bool} {k : Nat} (h : Reaches s x k) : Mid s x l k 0 (l.set k true) := by
  refine ⟨.refl, fun u hu => ?_, fun u hne hu hn => ?_, fun _ _ i _ hi => absurd hi (Nat.not_lt_zero _)⟩
  · rw [List.getElem?_set] at hu
    split at hu
    · rename_i e; subst e; exact .inr h
    · exact .inl hu
  · rw [List.getElem?_set, if_neg (fun e => hne e.symm)] at hu
    exact absurd hu hn
theorem Mid.next {s : List (List Int)} {x : Int} {l l1 l2 : List Bool} {k j : Nat} {r : List Int} {t : Int} (h : Mid s x l k j l1) (hr : s[k]? = some r) (ht : r[j]? = some t) (hi : Into s x l1 t l2) : Mid s x l k (j + 1) l2 := by
  refine ⟨h.grows.trans hi.grows, fun u hu => ?_, fun u hne hu hn r' hr' t' ht' hx => ?_, fun r' hr' i t' hlt ht' hx => ?_⟩
  · rcases hi.sound u hu with h1 | h1
    · exact h.sound u h1
    · exact .inr h1
  · by_cases h1 : l1[u]? = some true
    · exact hi.grows.2 _ (h.shut u hne h1 hn r' hr' t' ht' hx)
    · exact hi.shut u hu h1 r' hr' t' ht' hx
  · rw [hr] at hr'; cases hr'
    by_cases e : i = j
    · subst e
      rw [ht] at ht'; cases ht'
      exact hi.here hx
    · exact hi.grows.2 _ (h.done r hr i t' (by omega) ht' hx)
theorem Mid.end {s : List (List Int)} {x : Int} {l l1 : List Bool} {k j : Nat} {r : List Int} (h : Mid s x l k j l1) (hr : s[k]? = some r) (hj : r.length ≤ j) (hk : k < l.length) : Into s x l (k : Int) l1 := by
  have hm : l1[k]? = some true := h.grows.2 k (by rw [List.getElem?_set]; simp [hk])
  refine ⟨Grows.set.trans h.grows, h.sound, fun _ => by simpa using hm, fun u hu hn r' hr' t ht hx => ?_⟩
  by_cases e : u = k
  · subst e
    rw [hr] at hr'; cases hr'
    obtain ⟨i, hi⟩ := List.getElem?_of_mem ht
    have := (List.getElem?_eq_some_iff.1 hi).1
    exact h.done r hr i t (by omega) hi hx
  · exact h.shut u e hu hn r' hr' t ht hx
theorem Into.marks {s : List (List Int)} {x : Int} {l' : List Bool} (hs : Closed s) (h : Into s x (List.replicate s.length false) 0 l') : Marks s x l' := by
  have hf : ∀ u : Nat, (List.replicate s.length false)[u]? ≠ some true := fun u hu => by rw [List.getElem?_replicate] at hu; split at hu <;> simp at hu
  refine marks_of hs ⟨by have := h.grows.1; simpa using this, fun u hu => (h.sound u hu).resolve_left (hf u)⟩ (fun _ hx => by have := h.here (fun e => hx e.symm); simpa using this) ?_
  intro a r b t ha hb _ hl hne
  exact h.shut a hl (hf a) r ha t (List.mem_of_getElem? hb) hne
theorem marks_nil {x : Int} : Marks [] x [] := ⟨rfl, fun t => ⟨fun h => by simp at h, fun h => by cases h with | zero h => exact absurd rfl h | step _ h => simp at h⟩⟩
end Go.Proofs.YtdgibhndjdgllaaDoor

/- Going through blocks, each once, by a contract. -/
namespace Go.Proofs.YtdgibhndjdgllaaDoor
open Go.Ax
set_option maxRecDepth 10000
set_option linter.unusedVariables false

def dH (s : List (List Int)) (x : Int) (l : List Bool) : HP := [(0, .var [.sl false 1 (s.map lst)]), (1, .var [num x]), (2, .var [.fn 98 []]), (6, .row 1 (l.map tb)), (4, .var [.hw 6]), (5, .var [.fn 114 [.hp 1 0, .hp 4 0, .hp 0 0, .hp 5 0, .hp 2 0]])]
def dT (k : Int) : TM := [(0, num k), (1, .hp 1 0), (2, .hp 4 0), (3, .hp 0 0), (4, .hp 5 0), (5, .hp 2 0)]

theorem into_run (s : List (List Int)) (x : Int) (hs : Closed s) (hsm : ∀ l ∈ s, l.length ≤ 2) (hn : s.length ≤ 1000000) : ∀ (n k : Nat) (l : List Bool), l.length = s.length → k < s.length → ((k : Int) ≠ x → Reaches s x k) → falses l ≤ n →
    ∀ {K : AV → HP → Nat → Prop}, (∀ l', Into s x l k l' → K (asRes []) (dH s x l') 7) → Run Tryd.prog 114 (Post.inl 7 K) [.code Tryd.f114.body.get!] ⟨dT k, dH s x l, 7, 37⟩ := by
  intro n
  induction n using Nat.strongRecOn with
  | _ n ihn =>
    intro k l hl hk hr hf K hK
    obtain ⟨b, gl, -⟩ := getK (l := l) (k := k) (by omega)
    obtain ⟨r, gr, hrm⟩ := getK (l := s) (k := k) (by omega)
    have hr2 := hsm r hrm
    refine goI 1000 Tryd.func114 ?_
    repeat' first | refine Pick.map gl ?_ | refine Len.map ?_ | refine Len.nil ?_ | refine Len.cons ?_ | refine Br.t rfl ?_ | refine Br.f rfl ?_ | refine Fit.au ?_ | refine Cv.au ?_ | refine Need.ne ?_ | refine Need.au ?_ | refine Pick.map (by assumption) ?_ | refine Pick.mapI (by omega) (by assumption) ?_ | refine PickN.mk _ (by assumption) ?_ | refine PickN.mk _ rfl ?_ | refine PickN.au ?_ | refine App.au rfl ?_ | refine App.au (own_map (fun _ => rfl) _) ?_ | refine Both.mk ?_ ?_ | exact True.intro | refine Br.d (fun h => ?_) (fun h => ?_) | refine Br.nd (fun h => ?_) (fun h => ?_) | refine Br.mk (fun h => ?_) (fun h => ?_)
    · exact hK l (.stays fun hne => absurd ‹(k : Int) = x› hne)
    · have hb : b = true := by assumption
      subst hb
      exact hK l (.stays fun _ => by simpa using gl)
    · have hkx : (k : Int) ≠ x := by assumption
      have hb : b = false := by simp_all
      subst hb
      have hm := falses_set gl
      have hrk := hr hkx
      repeat' first | refine PickN.map gl ?_ | refine Pick.map gr ?_ | refine Len.map ?_ | refine Len.nil ?_ | refine Len.cons ?_ | refine Br.t rfl ?_ | refine Br.f rfl ?_ | refine Fit.au ?_ | refine Cv.au ?_ | refine Need.ne ?_ | refine Need.au ?_ | refine Pick.map (by assumption) ?_ | refine Pick.mapI (by omega) (by assumption) ?_ | refine PickN.mk _ (by assumption) ?_ | refine PickN.mk _ rfl ?_ | refine PickN.au ?_ | refine App.au rfl ?_ | refine App.au (own_map (fun _ => rfl) _) ?_ | refine Both.mk ?_ ?_ | exact True.intro
      have el : (l.map tb).set k [AV.lit (Value.bool true)] = (l.set k true).map tb := by rw [List.map_set]; rfl
      refine Stop.mk (loop_in (g := []) (fun p : Nat × List Bool => [(24, ints r), (25, num r.length), (26, num p.1), (0, num k), (1, .hp 1 0), (2, .hp 4 0), (3, .hp 0 0), (4, .hp 5 0), (5, .hp 2 0)]) (fun p => dH s x p.2) 7 (fun p => p.1 ≤ r.length ∧ Mid s x l k p.1 p.2) (fun p => r.length - p.1) (0, l.set k true) ⟨by omega, .start hrk⟩ ?_ (fun p hp ih => ?_))
      · dsimp only [dH]
        rw [← el]
        exact ⟨rfl, (by repeat' first | exact trivial | refine ⟨rfl, ?_⟩ | refine ⟨congrArg (fun n => AV.lit (.int .i64 n)) (by omega), ?_⟩ | refine ⟨congrArg (fun l => some (Row.row 1 l)) (by simp [int1, num, tru]), ?_⟩), (by repeat' first | exact trivial | refine ⟨rfl, ?_⟩ | refine ⟨congrArg (fun n => AV.lit (.int .i64 n)) (by omega), ?_⟩ | refine ⟨congrArg (fun l => some (Row.row 1 l)) (by simp [int1, num, tru]), ?_⟩)⟩
      obtain ⟨j, l1⟩ := p
      obtain ⟨hj, hmid⟩ := hp
      dsimp only at hj hmid ih ⊢
      have hl1 : l1.length = s.length := by rw [hmid.grows.1, List.length_set, hl]
      have hm1 := hmid.grows.falses
      refine goI 1000 Tryd.func114 ?_
      repeat' first | refine Len.map ?_ | refine Len.nil ?_ | refine Len.cons ?_ | refine Br.t rfl ?_ | refine Br.f rfl ?_ | refine Fit.au ?_ | refine Cv.au ?_ | refine Need.ne ?_ | refine Need.au ?_ | refine Pick.map (by assumption) ?_ | refine Pick.mapI (by omega) (by assumption) ?_ | refine PickN.mk _ (by assumption) ?_ | refine PickN.mk _ rfl ?_ | refine PickN.au ?_ | refine App.au rfl ?_ | refine App.au (own_map (fun _ => rfl) _) ?_ | refine Both.mk ?_ ?_ | exact True.intro
      refine Br.d (fun h2 => ?_) (fun h2 => ?_)
      · obtain ⟨t, gt, gtm⟩ := getK (l := r) (k := j) (by omega)
        have htp := hs r hrm t gtm
        obtain ⟨u, rfl⟩ : ∃ u : Nat, t = (u : Int) := ⟨t.toNat, by omega⟩
        repeat' first | refine Pick.map gt ?_ | refine Len.map ?_ | refine Len.nil ?_ | refine Len.cons ?_ | refine Br.t rfl ?_ | refine Br.f rfl ?_ | refine Fit.au ?_ | refine Cv.au ?_ | refine Need.ne ?_ | refine Need.au ?_ | refine Pick.map (by assumption) ?_ | refine Pick.mapI (by omega) (by assumption) ?_ | refine PickN.mk _ (by assumption) ?_ | refine PickN.mk _ rfl ?_ | refine PickN.au ?_ | refine App.au rfl ?_ | refine App.au (own_map (fun _ => rfl) _) ?_ | refine Both.mk ?_ ?_ | exact True.intro
        refine Dyn.mk _ _ rfl rfl rfl (Run.fr (tm' := dT u) (hp' := dH s x l1) (nx' := 7) (ihn (falses l1) (by omega) u l1 hl1 (by omega) (fun hne => .step hrk gr gtm hne) (Nat.le_refl _) fun l2 hi => ?_) (g := []) ⟨rfl, (by repeat' first | exact trivial | refine ⟨rfl, ?_⟩ | refine ⟨congrArg (fun n => AV.lit (.int .i64 n)) (by omega), ?_⟩ | refine ⟨congrArg (fun l => some (Row.row 1 l)) (by simp [int1, num, tru]), ?_⟩), (by repeat' first | exact trivial | refine ⟨rfl, ?_⟩ | refine ⟨congrArg (fun n => AV.lit (.int .i64 n)) (by omega), ?_⟩ | refine ⟨congrArg (fun l => some (Row.row 1 l)) (by simp [int1, num, tru]), ?_⟩)⟩)
        repeat' first | refine Len.map ?_ | refine Len.nil ?_ | refine Len.cons ?_ | refine Br.t rfl ?_ | refine Br.f rfl ?_ | refine Fit.au ?_ | refine Cv.au ?_ | refine Need.ne ?_ | refine Need.au ?_ | refine Pick.map (by assumption) ?_ | refine Pick.mapI (by omega) (by assumption) ?_ | refine PickN.mk _ (by assumption) ?_ | refine PickN.mk _ rfl ?_ | refine PickN.au ?_ | refine App.au rfl ?_ | refine App.au (own_map (fun _ => rfl) _) ?_ | refine Both.mk ?_ ?_ | exact True.intro
        refine Stop.mk (ih (j + 1, l2) (g := []) _ _ _ ⟨by simp only; omega, hmid.next gr gt hi⟩ (by simp only; omega) ?_)
        dsimp only [dH]
        exact ⟨rfl, (by repeat' first | exact trivial | refine ⟨rfl, ?_⟩ | refine ⟨congrArg (fun n => AV.lit (.int .i64 n)) (by omega), ?_⟩ | refine ⟨congrArg (fun l => some (Row.row 1 l)) (by simp [int1, num, tru]), ?_⟩), (by repeat' first | exact trivial | refine ⟨rfl, ?_⟩ | refine ⟨congrArg (fun n => AV.lit (.int .i64 n)) (by omega), ?_⟩ | refine ⟨congrArg (fun l => some (Row.row 1 l)) (by simp [int1, num, tru]), ?_⟩)⟩
      · repeat' first | refine Len.map ?_ | refine Len.nil ?_ | refine Len.cons ?_ | refine Br.t rfl ?_ | refine Br.f rfl ?_ | refine Fit.au ?_ | refine Cv.au ?_ | refine Need.ne ?_ | refine Need.au ?_ | refine Pick.map (by assumption) ?_ | refine Pick.mapI (by omega) (by assumption) ?_ | refine PickN.mk _ (by assumption) ?_ | refine PickN.mk _ rfl ?_ | refine PickN.au ?_ | refine App.au rfl ?_ | refine App.au (own_map (fun _ => rfl) _) ?_ | refine Both.mk ?_ ?_ | exact True.intro
        refine Dyn.mk _ _ rfl rfl rfl (Run.fr (tm' := [(0, num k)]) (hp' := dH s x l1) (nx' := 7) (goI 1000 Tryd.func98 ?_) (g := []) ⟨rfl, (by repeat' first | exact trivial | refine ⟨rfl, ?_⟩ | refine ⟨congrArg (fun n => AV.lit (.int .i64 n)) (by omega), ?_⟩ | refine ⟨congrArg (fun l => some (Row.row 1 l)) (by simp [int1, num, tru]), ?_⟩), (by repeat' first | exact trivial | refine ⟨rfl, ?_⟩ | refine ⟨congrArg (fun n => AV.lit (.int .i64 n)) (by omega), ?_⟩ | refine ⟨congrArg (fun l => some (Row.row 1 l)) (by simp [int1, num, tru]), ?_⟩)⟩)
        repeat' first | refine Len.map ?_ | refine Len.nil ?_ | refine Len.cons ?_ | refine Br.t rfl ?_ | refine Br.f rfl ?_ | refine Fit.au ?_ | refine Cv.au ?_ | refine Need.ne ?_ | refine Need.au ?_ | refine Pick.map (by assumption) ?_ | refine Pick.mapI (by omega) (by assumption) ?_ | refine PickN.mk _ (by assumption) ?_ | refine PickN.mk _ rfl ?_ | refine PickN.au ?_ | refine App.au rfl ?_ | refine App.au (own_map (fun _ => rfl) _) ?_ | refine Both.mk ?_ ?_ | exact True.intro
        exact hK l1 (hmid.end gr (by omega) (by omega))

theorem through_run (s : List (List Int)) (x : Int) (hs : Closed s) (hsm : ∀ l ∈ s, l.length ≤ 2) (hn : s.length ≤ 1000000) {K : AV → HP → Nat → Prop} (hK : ∀ l, Marks s x l → K (.hw 6) (dH s x l) 7) :
    Run Tryd.prog 97 (Post.inl 0 K) [.code Tryd.f97.body.get!] ⟨[(0, .sl false 1 (s.map lst)), (1, num x), (2, .fn 98 [])], [], 0, 19⟩ := by
  refine goI 24 Tryd.func97 ?_
  repeat' first | refine MkS.mk s.length rfl rfl (by omega) (by omega) ?_ | refine Len.map ?_ | refine Len.nil ?_ | refine Len.cons ?_ | refine Br.t rfl ?_ | refine Br.f rfl ?_ | refine Fit.au ?_ | refine Cv.au ?_ | refine Need.ne ?_ | refine Need.au ?_ | refine Pick.map (by assumption) ?_ | refine Pick.mapI (by omega) (by assumption) ?_ | refine PickN.mk _ (by assumption) ?_ | refine PickN.mk _ rfl ?_ | refine PickN.au ?_ | refine App.au rfl ?_ | refine App.au (own_map (fun _ => rfl) _) ?_ | refine Both.mk ?_ ?_ | exact True.intro
  refine Stop.mk (run_unfold 4 0 rfl rfl ?_)
  have er : (List.replicate s.length (List.map AV.lit [Value.bool false])) = (List.replicate s.length false).map tb := by rw [List.map_replicate]; rfl
  refine Run.fr (g := []) (tm' := [(7, .hp 4 0), (8, .hp 5 0), (3, .hp 0 0)]) (hp' := dH s x (List.replicate s.length false)) (nx' := 7) ?_ ?_
  rotate_left
  · dsimp only [dH]
    rw [← er]
    exact ⟨rfl, (by repeat' first | exact trivial | refine ⟨rfl, ?_⟩ | refine ⟨congrArg (fun n => AV.lit (.int .i64 n)) (by omega), ?_⟩ | refine ⟨congrArg (fun l => some (Row.row 1 l)) (by simp [int1, num, tru]), ?_⟩), (by repeat' first | exact trivial | refine ⟨rfl, ?_⟩ | refine ⟨congrArg (fun n => AV.lit (.int .i64 n)) (by omega), ?_⟩ | refine ⟨congrArg (fun l => some (Row.row 1 l)) (by simp [int1, num, tru]), ?_⟩)⟩
  refine goI 1000 Tryd.func97 ?_
  repeat' first | refine Len.map ?_ | refine Len.nil ?_ | refine Len.cons ?_ | refine Br.t rfl ?_ | refine Br.f rfl ?_ | refine Fit.au ?_ | refine Cv.au ?_ | refine Need.ne ?_ | refine Need.au ?_ | refine Pick.map (by assumption) ?_ | refine Pick.mapI (by omega) (by assumption) ?_ | refine PickN.mk _ (by assumption) ?_ | refine PickN.mk _ rfl ?_ | refine PickN.au ?_ | refine App.au rfl ?_ | refine App.au (own_map (fun _ => rfl) _) ?_ | refine Both.mk ?_ ?_ | exact True.intro | refine Br.d (fun h => ?_) (fun h => ?_) | refine Br.nd (fun h => ?_) (fun h => ?_) | refine Br.mk (fun h => ?_) (fun h => ?_)
  · have hpos : 0 < s.length := by omega
    repeat' first | refine Len.map ?_ | refine Len.nil ?_ | refine Len.cons ?_ | refine Br.t rfl ?_ | refine Br.f rfl ?_ | refine Fit.au ?_ | refine Cv.au ?_ | refine Need.ne ?_ | refine Need.au ?_ | refine Pick.map (by assumption) ?_ | refine Pick.mapI (by omega) (by assumption) ?_ | refine PickN.mk _ (by assumption) ?_ | refine PickN.mk _ rfl ?_ | refine PickN.au ?_ | refine App.au rfl ?_ | refine App.au (own_map (fun _ => rfl) _) ?_ | refine Both.mk ?_ ?_ | exact True.intro
    refine Dyn.mk _ _ rfl rfl rfl (Run.fr (tm' := dT 0) (hp' := dH s x (List.replicate s.length false)) (nx' := 7) (into_run s x hs hsm hn _ 0 _ (by simp) hpos (fun hne => .zero (fun e => by subst e; exact absurd hpos (by decide)) (fun e => hne e.symm)) (Nat.le_refl _) fun l2 hi => ?_) (g := []) ⟨rfl, (by repeat' first | exact trivial | refine ⟨rfl, ?_⟩ | refine ⟨congrArg (fun n => AV.lit (.int .i64 n)) (by omega), ?_⟩ | refine ⟨congrArg (fun l => some (Row.row 1 l)) (by simp [int1, num, tru]), ?_⟩), (by repeat' first | exact trivial | refine ⟨rfl, ?_⟩ | refine ⟨congrArg (fun n => AV.lit (.int .i64 n)) (by omega), ?_⟩ | refine ⟨congrArg (fun l => some (Row.row 1 l)) (by simp [int1, num, tru]), ?_⟩)⟩)
    repeat' first | refine Len.map ?_ | refine Len.nil ?_ | refine Len.cons ?_ | refine Br.t rfl ?_ | refine Br.f rfl ?_ | refine Fit.au ?_ | refine Cv.au ?_ | refine Need.ne ?_ | refine Need.au ?_ | refine Pick.map (by assumption) ?_ | refine Pick.mapI (by omega) (by assumption) ?_ | refine PickN.mk _ (by assumption) ?_ | refine PickN.mk _ rfl ?_ | refine PickN.au ?_ | refine App.au rfl ?_ | refine App.au (own_map (fun _ => rfl) _) ?_ | refine Both.mk ?_ ?_ | exact True.intro
    exact hK l2 (hi.marks hs)
  · have e0 : s = [] := by cases s with | nil => rfl | cons a s => simp at *
    subst e0
    repeat' first | refine Len.map ?_ | refine Len.nil ?_ | refine Len.cons ?_ | refine Br.t rfl ?_ | refine Br.f rfl ?_ | refine Fit.au ?_ | refine Cv.au ?_ | refine Need.ne ?_ | refine Need.au ?_ | refine Pick.map (by assumption) ?_ | refine Pick.mapI (by omega) (by assumption) ?_ | refine PickN.mk _ (by assumption) ?_ | refine PickN.mk _ rfl ?_ | refine PickN.au ?_ | refine App.au rfl ?_ | refine App.au (own_map (fun _ => rfl) _) ?_ | refine Both.mk ?_ ?_ | exact True.intro
    exact hK [] marks_nil
end Go.Proofs.YtdgibhndjdgllaaDoor

/- What a block's branch tells, as the program reckons it. No program is in sight here. -/
namespace Go.Proofs.YtdgibhndjdgllaaDoor
open Go.Ax
end Go.Proofs.YtdgibhndjdgllaaDoor

/- What is inserted into a function, as the program reckons it. No program is in sight here. -/
namespace Go.Proofs.YtdgibhndjdgllaaDoor
open Go.Ax
end Go.Proofs.YtdgibhndjdgllaaDoor

/- A tidy function, as the program reckons it. No program is in sight here. -/
namespace Go.Proofs.YtdgibhndjdgllaaDoor
open Go.Ax
open Classical in
noncomputable def marksF (s : List (List Int)) (x : Int) : List Bool := (List.range s.length).map fun (k : Nat) => decide (Reaches s x k)
theorem marksF_len (s : List (List Int)) (x : Int) : (marksF s x).length = s.length := by unfold marksF; simp
theorem marksF_at {s : List (List Int)} {x : Int} {k : Nat} : (marksF s x)[k]? = some true ↔ k < s.length ∧ Reaches s x k := by
  unfold marksF
  rw [List.getElem?_map]
  by_cases h : k < s.length
  · rw [List.getElem?_range h]; simp [h]
  · rw [List.getElem?_eq_none (by simpa using h)]; simp [h]
theorem Marks.eq {s : List (List Int)} {x : Int} {l : List Bool} (h : Marks s x l) : l = marksF s x := by
  refine List.ext_getElem? fun k => ?_
  by_cases hk : k < s.length
  · obtain ⟨b, hb⟩ : ∃ b, l[k]? = some b := ⟨l[k]'(by rw [h.1]; exact hk), by simp [h.1, hk]⟩
    obtain ⟨c, hc⟩ : ∃ c, (marksF s x)[k]? = some c := ⟨(marksF s x)[k]'(by rw [marksF_len]; exact hk), by simp [marksF_len, hk]⟩
    have h1 := h.2 k
    have h2 := marksF_at (s := s) (x := x) (k := k)
    rw [hb] at h1 ⊢; rw [hc] at h2 ⊢
    cases b <;> cases c <;> simp_all
  · rw [List.getElem?_eq_none (by rw [h.1]; omega), List.getElem?_eq_none (by rw [marksF_len]; omega)]
end Go.Proofs.YtdgibhndjdgllaaDoor

/- What is reached, and the new numbers, by contracts. -/
namespace Go.Proofs.YtdgibhndjdgllaaDoor
open Go.Ax
set_option maxRecDepth 10000
set_option linter.unusedVariables false

theorem Without96_spec (f : Fun) (x : Int) (hf : f.fits) (hn : f.blocks.length ≤ 1000000) : FnSpec Tryd.prog 68 [funA f, num x] (fun r => r = .osl 1 ((marksF (succsF f) x).map tb)) := by
  have hcl := succsF_closed f
  have hsm := succsF_small f
  have hsn : (succsF f).length ≤ 1000000 := by rw [succsF_len]; exact hn
  refine spec_of 9 Tryd.func68 rfl rfl ?_
  repeat' first | refine Call.eq (Succs95_spec f hf hn) rfl ?_ | refine Len.map ?_ | refine Len.nil ?_ | refine Len.cons ?_ | refine Br.t rfl ?_ | refine Br.f rfl ?_ | refine Fit.au ?_ | refine Cv.au ?_ | refine Need.ne ?_ | refine Need.au ?_ | refine Pick.map (by assumption) ?_ | refine Pick.mapI (by omega) (by assumption) ?_ | refine PickN.mk _ (by assumption) ?_ | refine PickN.mk _ rfl ?_ | refine PickN.au ?_ | refine App.au rfl ?_ | refine App.au (own_map (fun _ => rfl) _) ?_ | refine Both.mk ?_ ?_ | exact True.intro
  refine Stop.mk (run_frzR 1 rfl (fzLL_map fz_olsts _) ?_)
  refine Run.fr (tm' := [(6, .sl false 1 ((succsF f).map lst)), (1, num x)]) (hp' := []) (nx' := 0) ?_ (g := []) ⟨rfl, (by repeat' first | exact trivial | refine ⟨rfl, ?_⟩ | refine ⟨congrArg (fun n => AV.lit (.int .i64 n)) (by omega), ?_⟩ | refine ⟨congrArg (fun l => some (Row.row 1 l)) (by simp [int1, num, tru]), ?_⟩), (by repeat' first | exact trivial | refine ⟨rfl, ?_⟩ | refine ⟨congrArg (fun n => AV.lit (.int .i64 n)) (by omega), ?_⟩ | refine ⟨congrArg (fun l => some (Row.row 1 l)) (by simp [int1, num, tru]), ?_⟩)⟩
  refine go 1000 Tryd.func68 ?_
  refine Look.stop (Stop.mk ?_)
  refine run_inlC rfl want_none rfl rfl rfl rfl rfl rfl rfl (through_run _ x hcl hsm hsn fun l hm => ?_)
  rw [← hm.eq]
  refine Run.fr (g := [(0, 6)]) (tm' := [(8, .hw 0)]) (hp' := [(0, .row 1 (l.map tb))]) (nx' := 1) ?_ ⟨rfl, (by repeat' first | exact trivial | refine ⟨rfl, ?_⟩ | refine ⟨congrArg (fun n => AV.lit (.int .i64 n)) (by omega), ?_⟩ | refine ⟨congrArg (fun l => some (Row.row 1 l)) (by simp [int1, num, tru]), ?_⟩), (by repeat' first | exact trivial | refine ⟨rfl, ?_⟩ | refine ⟨congrArg (fun n => AV.lit (.int .i64 n)) (by omega), ?_⟩ | refine ⟨congrArg (fun l => some (Row.row 1 l)) (by simp [int1, num, tru]), ?_⟩)⟩
  refine go 1000 Tryd.func68 ?_
  repeat' first | refine Len.map ?_ | refine Len.nil ?_ | refine Len.cons ?_ | refine Br.t rfl ?_ | refine Br.f rfl ?_ | refine Fit.au ?_ | refine Cv.au ?_ | refine Need.ne ?_ | refine Need.au ?_ | refine Pick.map (by assumption) ?_ | refine Pick.mapI (by omega) (by assumption) ?_ | refine PickN.mk _ (by assumption) ?_ | refine PickN.mk _ rfl ?_ | refine PickN.au ?_ | refine App.au rfl ?_ | refine App.au (own_map (fun _ => rfl) _) ?_ | refine Both.mk ?_ ?_ | exact True.intro
  rfl

theorem Reach69_spec (f : Fun) (hf : f.fits) (hn : f.blocks.length ≤ 1000000) : FnSpec Tryd.prog 41 [funA f] (fun r => r = .osl 1 ((marksF (succsF f) (-1)).map tb)) := by
  refine spec_of 1000 Tryd.func41 rfl rfl ?_
  repeat' first | refine Call.eq (Without96_spec f (-1) hf hn) rfl ?_ | refine Len.map ?_ | refine Len.nil ?_ | refine Len.cons ?_ | refine Br.t rfl ?_ | refine Br.f rfl ?_ | refine Fit.au ?_ | refine Cv.au ?_ | refine Need.ne ?_ | refine Need.au ?_ | refine Pick.map (by assumption) ?_ | refine Pick.mapI (by omega) (by assumption) ?_ | refine PickN.mk _ (by assumption) ?_ | refine PickN.mk _ rfl ?_ | refine PickN.au ?_ | refine App.au rfl ?_ | refine App.au (own_map (fun _ => rfl) _) ?_ | refine Both.mk ?_ ?_ | exact True.intro
  rfl

end Go.Proofs.YtdgibhndjdgllaaDoor
