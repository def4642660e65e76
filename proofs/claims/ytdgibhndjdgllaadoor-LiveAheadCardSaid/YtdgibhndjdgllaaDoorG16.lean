/- The chapter's example, in line. -/
import Derived.Test.YtdgibhndjdgllaaDoorG15
import Derived.Test.YtdgibhndjdgllaaDoorG10
import Derived.Test.YtdgibhndjdgllaaDoorG04
set_option linter.unusedVariables false
set_option linter.unusedSimpArgs false

namespace Go.Proofs.YtdgibhndjdgllaaDoor
open Go.Ax
set_option maxRecDepth 10000
set_option linter.unusedVariables false
set_option maxHeartbeats 0

theorem exL_R : LiveR exL := by
  refine ⟨exL_ok, ?_, ?_, ?_⟩
  · refine ⟨by decide, by decide, fun b hb => ?_⟩
    simp only [exL, List.mem_cons, List.not_mem_nil, or_false] at hb
    subst hb
    exact ⟨by decide, fun i hi => by simp only [List.mem_cons, List.not_mem_nil, or_false] at hi; rcases hi with rfl | rfl <;> (unfold Ins.fits; decide)⟩
  · intro b hb
    simp only [exL, List.mem_cons, List.not_mem_nil, or_false] at hb
    subst hb; decide
  · intro b hb i hi
    simp only [exL, List.mem_cons, List.not_mem_nil, or_false] at hb
    subst hb
    simp only [List.mem_cons, List.not_mem_nil, or_false] at hi
    rcases hi with rfl | rfl <;> decide
/-- Where the table tells how many zeros a word ends in. -/
def deI (w : W) : Int := ((IntKind.u64.wrap
          (IntKind.u64.wrap
              ((BitVec.ofInt IntKind.u64.bits (w.toNat : Int) &&&
                    BitVec.ofInt IntKind.u64.bits (IntKind.u64.wrap (0 - (w.toNat : Int)))).toNat : Int) *
            285870213051353865)).fdiv
      (2 ^ min (Int.toNat 58) IntKind.u64.bits))
theorem list28_run (w : W) (n j : Nat) (c : List AV) (vs : List Value) (hw : ¬ ((w.toNat : Int) = 0)) (hv : vs[j]? = some (.int .u8 n))
    (hz : IntKind.u64.wrap ((BitVec.ofInt IntKind.u64.bits (w.toNat : Int) &&& BitVec.ofInt IntKind.u64.bits (IntKind.u64.wrap ((w.toNat : Int) - 1))).toNat : Int) = 0) (hj : deI w = j) (hj2 : j < 64) (hn : n < 64) {K : AV → HP → Nat → Prop} (h : K (.hw 4) [(4, .row 1 [[num (0 * 64 + n)]]), (1, .var c), (0, .tab 0 vs)] 5) :
    Run Tryd.prog 28 (Post.inl 2 K) [.code (Tryd.f28.body.getD .skip)] ⟨slots 0 [sets [w]], [(1, .var c), (0, .tab 0 vs)], 2, Tryd.f28.ntmps⟩ := by
  refine goI 8 Tryd.func28 ?_
  repeat' first | refine Len.map ?_ | refine Len.nil ?_ | refine Len.cons ?_ | refine Br.t rfl ?_ | refine Br.f rfl ?_ | refine Fit.au ?_ | refine Cv.au ?_ | refine Need.ne ?_ | refine Need.au ?_ | refine Pick.map (by assumption) ?_ | refine Pick.mapI (by omega) (by assumption) ?_ | refine PickN.mk _ (by assumption) ?_ | refine PickN.mk _ rfl ?_ | refine PickN.au ?_ | refine App.au rfl ?_ | refine App.au (own_map (fun _ => rfl) _) ?_ | refine Both.mk ?_ ?_ | exact True.intro
  refine Stop.mk (run_nilT 3 1 rfl ?_)
  refine goI 1000 Tryd.func28 ?_
  repeat' first | refine Len.map ?_ | refine Len.nil ?_ | refine Len.cons ?_ | refine Br.t rfl ?_ | refine Br.f rfl ?_ | refine Fit.au ?_ | refine Cv.au ?_ | refine Need.ne ?_ | refine Need.au ?_ | refine Pick.map (by assumption) ?_ | refine Pick.mapI (by omega) (by assumption) ?_ | refine PickN.mk _ (by assumption) ?_ | refine PickN.mk _ rfl ?_ | refine PickN.au ?_ | refine App.au rfl ?_ | refine App.au (own_map (fun _ => rfl) _) ?_ | refine Both.mk ?_ ?_ | exact True.intro
  refine Stop.mk (run_loop ?_)
  refine goI 1000 Tryd.func28 ?_
  repeat' first | refine Pick.mk _ (by decide) rfl ?_ | refine Len.map ?_ | refine Len.nil ?_ | refine Len.cons ?_ | refine Br.t rfl ?_ | refine Br.f rfl ?_ | refine Fit.au ?_ | refine Cv.au ?_ | refine Need.ne ?_ | refine Need.au ?_ | refine Pick.map (by assumption) ?_ | refine Pick.mapI (by omega) (by assumption) ?_ | refine PickN.mk _ (by assumption) ?_ | refine PickN.mk _ rfl ?_ | refine PickN.au ?_ | refine App.au rfl ?_ | refine App.au (own_map (fun _ => rfl) _) ?_ | refine Both.mk ?_ ?_ | exact True.intro
  refine Stop.mk (run_loop ?_)
  refine goI 15 Tryd.func28 ?_
  repeat' first | refine Br.t (congrArg not (decide_eq_false hw)) ?_ | refine Len.map ?_ | refine Len.nil ?_ | refine Len.cons ?_ | refine Br.t rfl ?_ | refine Br.f rfl ?_ | refine Fit.au ?_ | refine Cv.au ?_ | refine Need.ne ?_ | refine Need.au ?_ | refine Pick.map (by assumption) ?_ | refine Pick.mapI (by omega) (by assumption) ?_ | refine PickN.mk _ (by assumption) ?_ | refine PickN.mk _ rfl ?_ | refine PickN.au ?_ | refine App.au rfl ?_ | refine App.au (own_map (fun _ => rfl) _) ?_ | refine Both.mk ?_ ?_ | exact True.intro
  refine Stop.mk ?_
  refine run_inlC rfl want_none rfl rfl rfl rfl rfl rfl rfl (goI 1000 Tryd.func59 ?_)
  repeat' first | refine Br.f (decide_eq_false hw) ?_ | refine Need.mk (by decide) ?_ | refine Len.map ?_ | refine Len.nil ?_ | refine Len.cons ?_ | refine Br.t rfl ?_ | refine Br.f rfl ?_ | refine Fit.au ?_ | refine Cv.au ?_ | refine Need.ne ?_ | refine Need.au ?_ | refine Pick.map (by assumption) ?_ | refine Pick.mapI (by omega) (by assumption) ?_ | refine PickN.mk _ (by assumption) ?_ | refine PickN.mk _ rfl ?_ | refine PickN.au ?_ | refine App.au rfl ?_ | refine App.au (own_map (fun _ => rfl) _) ?_ | refine Both.mk ?_ ?_ | exact True.intro
  refine Stop.mk (run_op rfl want_none rfl (rd_neg rfl rfl).ok ?_)
  refine goI 1000 Tryd.func59 ?_
  repeat' first | refine Cv.wr ?_ | refine Need.mk (by decide) ?_ | refine Len.map ?_ | refine Len.nil ?_ | refine Len.cons ?_ | refine Br.t rfl ?_ | refine Br.f rfl ?_ | refine Fit.au ?_ | refine Cv.au ?_ | refine Need.ne ?_ | refine Need.au ?_ | refine Pick.map (by assumption) ?_ | refine Pick.mapI (by omega) (by assumption) ?_ | refine PickN.mk _ (by assumption) ?_ | refine PickN.mk _ rfl ?_ | refine PickN.au ?_ | refine App.au rfl ?_ | refine App.au (own_map (fun _ => rfl) _) ?_ | refine Both.mk ?_ ?_ | exact True.intro
  have hi0 : 0 ≤ deI w := by omega
  have hi1 : deI w < ((64 : Nat) : Int) := by omega
  have hi2 : vs[(deI w).toNat]? = some (.int .u8 n) := by rw [hj, Int.toNat_natCast]; exact hv
  refine Stop.mk (run_op rfl want_none rfl (rd_indexTab (n := deI w) (id := 0) (e := 5) (len := 64) (v := .int .u8 n) rfl rfl (TyT.find_ok (HasT.ok (P := Tryd.prog)) (t := 5) rfl) rfl rfl rfl hi0 hi1 hi2).ok ?_)
  refine goI 1000 Tryd.func59 ?_
  repeat' first | refine Len.map ?_ | refine Len.nil ?_ | refine Len.cons ?_ | refine Br.t rfl ?_ | refine Br.f rfl ?_ | refine Fit.au ?_ | refine Cv.au ?_ | refine Need.ne ?_ | refine Need.au ?_ | refine Pick.map (by assumption) ?_ | refine Pick.mapI (by omega) (by assumption) ?_ | refine PickN.mk _ (by assumption) ?_ | refine PickN.mk _ rfl ?_ | refine PickN.au ?_ | refine App.au rfl ?_ | refine App.au (own_map (fun _ => rfl) _) ?_ | refine Both.mk ?_ ?_ | exact True.intro
  refine goI 1000 Tryd.func28 ?_
  repeat' first | refine Cv.wr ?_ | refine Len.map ?_ | refine Len.nil ?_ | refine Len.cons ?_ | refine Br.t rfl ?_ | refine Br.f rfl ?_ | refine Fit.au ?_ | refine Cv.au ?_ | refine Need.ne ?_ | refine Need.au ?_ | refine Pick.map (by assumption) ?_ | refine Pick.mapI (by omega) (by assumption) ?_ | refine PickN.mk _ (by assumption) ?_ | refine PickN.mk _ rfl ?_ | refine PickN.au ?_ | refine App.au rfl ?_ | refine App.au (own_map (fun _ => rfl) _) ?_ | refine Both.mk ?_ ?_ | exact True.intro
  refine Stop.mk (run_inLoop ?_)
  refine goI 1000 Tryd.func28 ?_
  repeat' first | refine Cv.wr ?_ | refine Len.map ?_ | refine Len.nil ?_ | refine Len.cons ?_ | refine Br.t rfl ?_ | refine Br.f rfl ?_ | refine Fit.au ?_ | refine Cv.au ?_ | refine Need.ne ?_ | refine Need.au ?_ | refine Pick.map (by assumption) ?_ | refine Pick.mapI (by omega) (by assumption) ?_ | refine PickN.mk _ (by assumption) ?_ | refine PickN.mk _ rfl ?_ | refine PickN.au ?_ | refine App.au rfl ?_ | refine App.au (own_map (fun _ => rfl) _) ?_ | refine Both.mk ?_ ?_ | exact True.intro
  refine Br.f (congrArg not (decide_eq_true hz)) ?_
  repeat' first | refine Len.map ?_ | refine Len.nil ?_ | refine Len.cons ?_ | refine Br.t rfl ?_ | refine Br.f rfl ?_ | refine Fit.au ?_ | refine Cv.au ?_ | refine Need.ne ?_ | refine Need.au ?_ | refine Pick.map (by assumption) ?_ | refine Pick.mapI (by omega) (by assumption) ?_ | refine PickN.mk _ (by assumption) ?_ | refine PickN.mk _ rfl ?_ | refine PickN.au ?_ | refine App.au rfl ?_ | refine App.au (own_map (fun _ => rfl) _) ?_ | refine Both.mk ?_ ?_ | exact True.intro
  refine Stop.mk (run_inLoop ?_)
  refine goI 1000 Tryd.func28 ?_
  repeat' first | refine Br.f (by decide) ?_ | refine Len.map ?_ | refine Len.nil ?_ | refine Len.cons ?_ | refine Br.t rfl ?_ | refine Br.f rfl ?_ | refine Fit.au ?_ | refine Cv.au ?_ | refine Need.ne ?_ | refine Need.au ?_ | refine Pick.map (by assumption) ?_ | refine Pick.mapI (by omega) (by assumption) ?_ | refine PickN.mk _ (by assumption) ?_ | refine PickN.mk _ rfl ?_ | refine PickN.au ?_ | refine App.au rfl ?_ | refine App.au (own_map (fun _ => rfl) _) ?_ | refine Both.mk ?_ ?_ | exact True.intro
  exact h
def exC : List AV := [.lit (.string ⟨#[]⟩), num 3, num 1, .sl false 1 [[num 1], [num 1], [num 1]], .sl false 1 [[.sl false 9 [[num 11, num 1, num 2, num 2, num 0, num 0, num 0, num 0, .lit (.slice none 0 0)], [num 43, num 0, num 1, num 0, num 0, num 0, num 0, num 0, .lit (.slice none 0 0)]]]]]
theorem works8_run (p : Pro) (vs : List Value) (hv4 : vs[3]? = some (.int .u8 2)) (hv2 : vs[1]? = some (.int .u8 1)) {K : AV → HP → Nat → Prop} (h : K (tru true) [(5, .row 1 [[num 1]]), (4, .row 1 [[num (0 * 64 + (1 : Nat))]]), (1, .var p.cs), (0, .tab 0 vs)] 6) :
    Run Tryd.prog 8 (Post.inl 2 K) [.code (Tryd.f8.body.getD .skip)] ⟨slots 0 [], [(1, .var p.cs), (0, .tab 0 vs)], 2, Tryd.f8.ntmps⟩ := by
  have hI := Ins9_spec exL exL_R
  have hA := Ahead13_some exL exL_R 0 1 [exI, exR] rfl (by decide)
  refine goI 14 Tryd.func8 ?_
  repeat' first | refine Len.map ?_ | refine Len.nil ?_ | refine Len.cons ?_ | refine Br.t rfl ?_ | refine Br.f rfl ?_ | refine Fit.au ?_ | refine Cv.au ?_ | refine Need.ne ?_ | refine Need.au ?_ | refine Pick.map (by assumption) ?_ | refine Pick.mapI (by omega) (by assumption) ?_ | refine PickN.mk _ (by assumption) ?_ | refine PickN.mk _ rfl ?_ | refine PickN.au ?_ | refine App.au rfl ?_ | refine App.au (own_map (fun _ => rfl) _) ?_ | refine Both.mk ?_ ?_ | exact True.intro
  refine Stop.mk (run_frzV 5 rfl rfl rfl ?_)
  refine goI 8 Tryd.func8 ?_
  refine Call.le (by repeat' first | exact Le.refl _ | exact Le.none | exact LeL.nil | refine LeL.cons ?_ ?_ | exact LeLL.nil | refine LeLL.cons ?_ ?_ | refine Le.agg ?_ | refine Le.sl ?_ | refine Le.pt ?_) (Call.of hI ?_)
  rintro r ⟨T, F, hs, rfl⟩
  obtain rfl := exL_T hs
  refine ⟨rfl, ?_⟩
  repeat' first | refine Len.map ?_ | refine Len.nil ?_ | refine Len.cons ?_ | refine Br.t rfl ?_ | refine Br.f rfl ?_ | refine Fit.au ?_ | refine Cv.au ?_ | refine Need.ne ?_ | refine Need.au ?_ | refine Pick.map (by assumption) ?_ | refine Pick.mapI (by omega) (by assumption) ?_ | refine PickN.mk _ (by assumption) ?_ | refine PickN.mk _ rfl ?_ | refine PickN.au ?_ | refine App.au rfl ?_ | refine App.au (own_map (fun _ => rfl) _) ?_ | refine Both.mk ?_ ?_ | exact True.intro
  refine Stop.mk ?_
  refine run_frzR 6 rfl (fzLL_map fz_oset _) ?_
  refine Run.fr (g := []) (tm' := [(1, .pt exC), (2, .sl false 1 [[sets [4#64]]])]) (hp' := [(1, .var p.cs), (0, .tab 0 vs)]) (nx' := 2) ?_ ⟨rfl, (by repeat' first | exact trivial | refine ⟨rfl, ?_⟩ | refine ⟨congrArg (fun n => AV.lit (.int .i64 n)) (by omega), ?_⟩ | refine ⟨congrArg (fun l => some (Row.row 1 l)) (by simp [int1, num, tru]), ?_⟩), (by repeat' first | exact trivial | refine ⟨rfl, ?_⟩ | refine ⟨congrArg (fun n => AV.lit (.int .i64 n)) (by omega), ?_⟩ | refine ⟨congrArg (fun l => some (Row.row 1 l)) (by simp [int1, num, tru]), ?_⟩)⟩
  refine goI 8 Tryd.func8 ?_
  repeat' first | refine Pick.mk _ (by decide) rfl ?_ | refine Len.map ?_ | refine Len.nil ?_ | refine Len.cons ?_ | refine Br.t rfl ?_ | refine Br.f rfl ?_ | refine Fit.au ?_ | refine Cv.au ?_ | refine Need.ne ?_ | refine Need.au ?_ | refine Pick.map (by assumption) ?_ | refine Pick.mapI (by omega) (by assumption) ?_ | refine PickN.mk _ (by assumption) ?_ | refine PickN.mk _ rfl ?_ | refine PickN.au ?_ | refine App.au rfl ?_ | refine App.au (own_map (fun _ => rfl) _) ?_ | refine Both.mk ?_ ?_ | exact True.intro
  refine Stop.mk ?_
  refine run_inlC rfl (want_some rfl rfl rfl) rfl rfl rfl rfl rfl rfl rfl (list28_run 4#64 2 3 p.cs vs (by decide) hv4 (by decide +kernel) (by decide +kernel) (by decide) (by decide) ?_)
  refine goI 1000 Tryd.func8 ?_
  repeat' first | refine Len.map ?_ | refine Len.nil ?_ | refine Len.cons ?_ | refine Br.t rfl ?_ | refine Br.f rfl ?_ | refine Fit.au ?_ | refine Cv.au ?_ | refine Need.ne ?_ | refine Need.au ?_ | refine Pick.map (by assumption) ?_ | refine Pick.mapI (by omega) (by assumption) ?_ | refine PickN.mk _ (by assumption) ?_ | refine PickN.mk _ rfl ?_ | refine PickN.au ?_ | refine App.au rfl ?_ | refine App.au (own_map (fun _ => rfl) _) ?_ | refine Both.mk ?_ ?_ | exact True.intro
  refine Look.yes (View.mk _ rfl (View.mk _ rfl ?_))
  refine CallV.eq (SameInts_spec [2] [2] (by decide)) rfl (Free.lit _) ?_
  repeat' first | refine Len.map ?_ | refine Len.nil ?_ | refine Len.cons ?_ | refine Br.t rfl ?_ | refine Br.f rfl ?_ | refine Fit.au ?_ | refine Cv.au ?_ | refine Need.ne ?_ | refine Need.au ?_ | refine Pick.map (by assumption) ?_ | refine Pick.mapI (by omega) (by assumption) ?_ | refine PickN.mk _ (by assumption) ?_ | refine PickN.mk _ rfl ?_ | refine PickN.au ?_ | refine App.au rfl ?_ | refine App.au (own_map (fun _ => rfl) _) ?_ | refine Both.mk ?_ ?_ | exact True.intro
  refine Call.le (by repeat' first | exact Le.refl _ | exact Le.none | exact LeL.nil | refine LeL.cons ?_ ?_ | exact LeLL.nil | refine LeLL.cons ?_ ?_ | refine Le.agg ?_ | refine Le.sl ?_ | refine Le.pt ?_) (Call.of hA ?_)
  rintro r ⟨s, hsl, rfl, hsn⟩
  obtain rfl := exL_A hsl hsn
  refine ⟨rfl, ?_⟩
  repeat' first | refine Len.map ?_ | refine Len.nil ?_ | refine Len.cons ?_ | refine Br.t rfl ?_ | refine Br.f rfl ?_ | refine Fit.au ?_ | refine Cv.au ?_ | refine Need.ne ?_ | refine Need.au ?_ | refine Pick.map (by assumption) ?_ | refine Pick.mapI (by omega) (by assumption) ?_ | refine PickN.mk _ (by assumption) ?_ | refine PickN.mk _ rfl ?_ | refine PickN.au ?_ | refine App.au rfl ?_ | refine App.au (own_map (fun _ => rfl) _) ?_ | refine Both.mk ?_ ?_ | exact True.intro
  refine Look.stop (Stop.mk ?_)
  refine run_frzR 6 rfl (fzw _) ?_
  refine Run.fr (g := []) (tm' := [(22, tru true), (24, sets [2#64])]) (hp' := [(1, .var p.cs), (0, .tab 0 vs)]) (nx' := 2) ?_ ⟨rfl, (by repeat' first | exact trivial | refine ⟨rfl, ?_⟩ | refine ⟨congrArg (fun n => AV.lit (.int .i64 n)) (by omega), ?_⟩ | refine ⟨congrArg (fun l => some (Row.row 1 l)) (by simp [int1, num, tru]), ?_⟩), (by repeat' first | exact trivial | refine ⟨rfl, ?_⟩ | refine ⟨congrArg (fun n => AV.lit (.int .i64 n)) (by omega), ?_⟩ | refine ⟨congrArg (fun l => some (Row.row 1 l)) (by simp [int1, num, tru]), ?_⟩)⟩
  refine run_inlC rfl (want_some rfl rfl rfl) rfl rfl rfl rfl rfl rfl rfl (list28_run 2#64 1 1 p.cs vs (by decide) hv2 (by decide +kernel) (by decide +kernel) (by decide) (by decide) ?_)
  refine goI 1000 Tryd.func8 ?_
  repeat' first | refine Len.map ?_ | refine Len.nil ?_ | refine Len.cons ?_ | refine Br.t rfl ?_ | refine Br.f rfl ?_ | refine Fit.au ?_ | refine Cv.au ?_ | refine Need.ne ?_ | refine Need.au ?_ | refine Pick.map (by assumption) ?_ | refine Pick.mapI (by omega) (by assumption) ?_ | refine PickN.mk _ (by assumption) ?_ | refine PickN.mk _ rfl ?_ | refine PickN.au ?_ | refine App.au rfl ?_ | refine App.au (own_map (fun _ => rfl) _) ?_ | refine Both.mk ?_ ?_ | exact True.intro
  refine Look.yes (View.mk _ rfl (View.mk _ rfl ?_))
  refine CallV.eq (SameInts_spec [1] [1] (by decide)) rfl (Free.lit _) ?_
  repeat' first | refine Len.map ?_ | refine Len.nil ?_ | refine Len.cons ?_ | refine Br.t rfl ?_ | refine Br.f rfl ?_ | refine Fit.au ?_ | refine Cv.au ?_ | refine Need.ne ?_ | refine Need.au ?_ | refine Pick.map (by assumption) ?_ | refine Pick.mapI (by omega) (by assumption) ?_ | refine PickN.mk _ (by assumption) ?_ | refine PickN.mk _ rfl ?_ | refine PickN.au ?_ | refine App.au rfl ?_ | refine App.au (own_map (fun _ => rfl) _) ?_ | refine Both.mk ?_ ?_ | exact True.intro
  exact h
end Go.Proofs.YtdgibhndjdgllaaDoor
