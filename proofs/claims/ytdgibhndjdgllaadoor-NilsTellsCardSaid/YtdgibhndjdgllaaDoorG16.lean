/- nils.New: a block's sets are put behind the others. -/
import Derived.Test.YtdgibhndjdgllaaDoorG09
import Derived.Test.YtdgibhndjdgllaaDoorG10
import Derived.Test.YtdgibhndjdgllaaDoorG11
import Derived.Test.YtdgibhndjdgllaaDoorG13
import Derived.Test.YtdgibhndjdgllaaDoorG12
import Derived.Test.YtdgibhndjdgllaaDoorG15
import Derived.Test.YtdgibhndjdgllaaDoorG04
import Derived.Test.YtdgibhndjdgllaaDoorG06
import Derived.Test.YtdgibhndjdgllaaDoorG08
import Derived.Test.YtdgibhndjdgllaaDoorG07
set_option linter.unusedVariables false
set_option linter.unusedSimpArgs false

namespace Go.Proofs.YtdgibhndjdgllaaDoor
open Go.Ax
set_option maxRecDepth 10000
set_option linter.unusedVariables false
set_option maxHeartbeats 0

def probN (f : Fun) : List AV := [.osl 1 ((succsF f).map olst), tru false, tru true, num f.regs.length, .hw 3, .hw 4, .osl 1 ((newW f.regs.length).map u1)]
noncomputable def factV (f : Fun) : List AV := f.cs ++ [namesA (newF f), .osl 1 ((marksF (succsF f) (-1)).map tb), .lit (.slice none 0 0)]
noncomputable def hpN2 (f : Fun) (G K : List (List W)) : HP := [(2, .var (probN f)), (3, .row 1 (G.map oset)), (4, .row 1 (K.map oset)), (1, .var (factV f)), (0, .var f.cs)]
def tmN2 (f : Fun) (k : Nat) : TM := [(1, .hp 0 0), (3, .hp 1 0), (4, num f.regs.length), (5, .hp 2 0), (33, .sl false 1 (f.blocks.map blk)), (34, num f.blocks.length), (35, num k)]
noncomputable def reg18 : Code := navC [sndC, sndC, sndC, sndC, fstC, sndC, inC, inC, sndC, sndC, fstC, inC, sndC, sndC, sndC] (Tryd.f17.body.getD .skip)
theorem push18_run (f : Fun) (h : NilOK f) (k : Nat) (a b : List W) (G K2 : List (List W)) (hb : b.length ≤ 1000000) (hG : G.length ≤ 65536) (hK : K2.length ≤ 65536) (Qp : AV → Prop) {todo : List Item}
    (h : Run Tryd.prog 17 (Post.one Qp) todo ⟨tmN2 f k, hpN2 f (G ++ [a]) (K2 ++ [lessW (fullW f.regs.length) b]), 5, Tryd.f17.ntmps⟩) :
    Run Tryd.prog 17 (Post.one Qp) (.code reg18 :: todo) ⟨[(8, .hw 5), (9, .hw 6)] ++ tmN2 f k, [(5, rowW a), (6, rowW b)] ++ hpN2 f G K2, 7, Tryd.f17.ntmps⟩ := by
  have hreg := NilOK.regs ‹_›
  have hF := Full43_spec f.regs.length hreg
  have hwn := wn_le hreg
  have hL := Less45_spec (fullW f.regs.length) b (by rw [fullW_len]; omega) hb
  unfold hpN2 at h
  rw [List.map_append, List.map_append] at h
  unfold reg18 tmN2 hpN2
  refine go 1 Tryd.func17 ?_
  repeat' first | refine Draw.mk (ordL [2, 4, 6] [0, 1, 3, 2, 4, 5, 6, 7]) (by decide +kernel) ?_ | refine Draw.mk (ordL [6] [0, 1, 2, 3, 4, 5, 8, 6, 7]) (by decide +kernel) ?_ | refine Draw.mk (.one 0 false (.one 2 false (.one 5 false (.one 7 false (.one 9 false (.alt 1 (.alt 3 (.alt 4 (.alt 6 (ordL [8, 10, 11, 12, 14, 16] [13, 8, 10, 11, 12, 14, 15, 16]) (.alt 8 (.alt 6 (ordL [10, 11, 12, 14, 16] [13, 10, 11, 12, 14, 15, 16]) (.alt 10 (.alt 6 (ordL [11, 12, 14, 16] [13, 11, 12, 14, 15, 16]) (.alt 11 (ordL [6, 12, 14, 16] [6, 13, 12, 14, 15, 16]) .no)) .no)) .no)) (.alt 6 (ordL [4, 8, 10, 11, 12, 14, 16] [4, 13, 8, 10, 11, 12, 14, 15, 16]) .no)) (.alt 6 (ordL [3, 4, 8, 10, 11, 12, 14, 16] [3, 4, 13, 8, 10, 11, 12, 14, 15, 16]) .no)) (.alt 3 (.alt 1 (.alt 4 (.alt 6 (ordL [8, 10, 11, 12, 14, 16] [13, 8, 10, 11, 12, 14, 15, 16]) (.alt 8 (.alt 6 (ordL [10, 11, 12, 14, 16] [13, 10, 11, 12, 14, 15, 16]) (.alt 10 (.alt 6 (ordL [11, 12, 14, 16] [13, 11, 12, 14, 15, 16]) (.alt 11 (ordL [6, 12, 14, 16] [6, 13, 12, 14, 15, 16]) .no)) .no)) .no)) (.alt 6 (ordL [4, 8, 10, 11, 12, 14, 16] [4, 13, 8, 10, 11, 12, 14, 15, 16]) .no)) (.alt 6 (ordL [1, 4, 8, 10, 11, 12, 14, 16] [1, 4, 13, 8, 10, 11, 12, 14, 15, 16]) .no)) (.alt 6 (.alt 1 (ordL [3, 4, 8, 10, 11, 12, 14, 16] [3, 4, 13, 8, 10, 11, 12, 14, 15, 16]) (.alt 3 (ordL [1, 4, 8, 10, 11, 12, 14, 16] [1, 4, 13, 8, 10, 11, 12, 14, 15, 16]) .no)) .no)))))))) (by decide +kernel) ?_ | refine Call.eq hF rfl ?_ | (refine Look.yes (View.mk _ (fzw _) (View.mk _ (fzw _) ?_)); refine CallV.eq hL rfl (by repeat' first | exact Free.lit _ | refine Free.tup ?_ | refine Free.agg ?_ | (refine Free.map ?_; intro e _) | refine List.forall_mem_cons.2 ⟨?_, ?_⟩ | exact List.forall_mem_nil _) ?_) | refine Len.map ?_ | refine Len.nil ?_ | refine Len.cons ?_ | refine Br.t rfl ?_ | refine Br.f rfl ?_ | refine Fit.au ?_ | refine Cv.au ?_ | refine Need.ne ?_ | refine Need.au ?_ | refine Pick.map (by assumption) ?_ | refine Pick.mapI (by omega) (by assumption) ?_ | refine PickN.mk _ (by assumption) ?_ | refine PickN.mk _ rfl ?_ | refine PickN.au ?_ | refine App.au rfl ?_ | refine App.au (own_map (fun _ => rfl) _) ?_ | refine Both.mk ?_ ?_ | exact True.intro
  all_goals refine Stop.mk ?_
  all_goals refine run_unfold 2 4 rfl rfl ?_
  all_goals refine run_unfold 2 5 rfl rfl ?_
  all_goals exact Run.fr (g := [(3, 13), (4, 14)]) h ⟨rfl, (by repeat' first | exact trivial | refine ⟨rfl, ?_⟩ | refine ⟨congrArg (fun n => AV.lit (.int .i64 n)) (by omega), ?_⟩ | refine ⟨congrArg (fun l => some (Row.row 1 l)) (by simp [int1, num, tru]), ?_⟩), (by repeat' first | exact trivial | refine ⟨rfl, ?_⟩ | refine ⟨congrArg (fun n => AV.lit (.int .i64 n)) (by omega), ?_⟩ | refine ⟨congrArg (fun l => some (Row.row 1 l)) (by simp [int1, num, tru]), ?_⟩)⟩
end Go.Proofs.YtdgibhndjdgllaaDoor

/- nils.New: what is surely there, by a contract. -/
namespace Go.Proofs.YtdgibhndjdgllaaDoor
open Go.Ax
set_option maxRecDepth 10000
set_option linter.unusedVariables false
set_option maxHeartbeats 0

def chW (s : List W) (c : Bool × Int) : List W := bif c.1 then putW s c.2.toNat else dropW s c.2.toNat
theorem chW_len (s : List W) (c : Bool × Int) : (chW s c).length = s.length := by
  unfold chW; cases c.1
  · exact dropW_len _ _
  · exact putW_len _ _
theorem chg_fold (f : Fun) (i : Ins) (s : List W) : (chgL f i).foldl chW s = nilW f i s := by
  unfold chgL nilW dropF
  by_cases h1 : 0 ≤ defF i ∧ defF i < f.regs.length
  · by_cases h2 : askB f i
    · rw [if_pos h1, if_pos h2, if_pos h1, if_pos h2]; rfl
    · rw [if_pos h1, if_neg h2, if_pos h1, if_neg h2]; rfl
  · by_cases h2 : askB f i
    · rw [if_neg h1, if_pos h2, if_neg h1, if_pos h2]; rfl
    · rw [if_neg h1, if_neg h2, if_neg h1, if_neg h2]; rfl
theorem chg_pos {f : Fun} {i : Ins} (hb : NilB f i) {c : Bool × Int} (hc : c ∈ chgL f i) : 0 ≤ c.2 ∧ c.2 < f.regs.length := by
  unfold chgL at hc
  rcases List.mem_append.1 hc with hc | hc
  · split at hc
    · rename_i h; rw [List.mem_singleton.1 hc]; exact h
    · cases hc
  · split at hc
    · rename_i h; rw [List.mem_singleton.1 hc]; exact hb.2 h
    · cases hc
theorem chg_len (f : Fun) (i : Ins) : (chgL f i).length ≤ 2 := by
  unfold chgL; split <;> split <;> simp
theorem chg_take {l : List (Bool × Int)} {c : Nat} {x : Bool × Int} {s : List W} (h : l[c]? = some x) : (l.take (c + 1)).foldl chW s = chW ((l.take c).foldl chW s) x := by
  obtain ⟨hk, rfl⟩ := List.getElem?_eq_some_iff.1 h
  rw [List.take_succ_eq_append_getElem hk, List.foldl_append]; rfl
theorem chgs_len (l : List (Bool × Int)) (s : List W) : (l.foldl chW s).length = s.length := by
  induction l generalizing s with
  | nil => rfl
  | cons a l ih => exact (ih _).trans (chW_len _ _)
theorem map_take_succ2 {α β : Type} {l : List α} {k : Nat} {x : α} {g : α → β} (h : l[k]? = some x) : (l.map g).take (k + 1) = (l.map g).take k ++ [g x] := by
  obtain ⟨hk, rfl⟩ := List.getElem?_eq_some_iff.1 h
  rw [List.take_succ_eq_append_getElem (by rw [List.length_map]; exact hk), List.getElem_map]
theorem New17_spec (f : Fun) (h : NilW f) : FnSpec Tryd.prog 17 [funA f] (fun r => ∃ T F, SolP (nilsP f) T F ∧ r = .opt (f.cs ++ [namesA (newF f), .osl 1 ((marksF (succsF f) (-1)).map tb), .osl 1 (F.map oset)])) := by
  have hblk := h.blocks
  have hreg := h.regs
  have hN := New_spec f h.fit h.reg
  have hM := Reach69_spec f h.fit (by omega)
  have hS := Succs95_spec f h.fit (by omega)
  have hW := New35_spec f.regs.length h.regs
  have hF := Full43_spec f.regs.length h.regs
  have hnl := newW_len f.regs.length
  have hfl := fullW_len f.regs.length
  have hwn := wn_le h.regs
  refine spec_of 1000 Tryd.func17 rfl rfl ?_
  repeat' first | refine Draw.mk (ordL [2, 4, 6] [0, 1, 3, 2, 4, 5, 6, 7]) (by decide +kernel) ?_ | refine Draw.mk (ordL [6] [0, 1, 2, 3, 4, 5, 8, 6, 7]) (by decide +kernel) ?_ | refine Draw.mk (.one 0 false (.one 2 false (.one 5 false (.one 7 false (.one 9 false (.alt 1 (.alt 3 (.alt 4 (ordL [8, 10, 11, 12, 14, 16] [6, 13, 8, 10, 11, 12, 14, 15, 16]) (.alt 6 (ordL [4, 8, 10, 11, 12, 14, 16] [4, 13, 8, 10, 11, 12, 14, 15, 16]) .no)) (.alt 6 (ordL [3, 4, 8, 10, 11, 12, 14, 16] [3, 4, 13, 8, 10, 11, 12, 14, 15, 16]) .no)) (.alt 3 (.alt 1 (.alt 4 (ordL [8, 10, 11, 12, 14, 16] [6, 13, 8, 10, 11, 12, 14, 15, 16]) (.alt 6 (ordL [4, 8, 10, 11, 12, 14, 16] [4, 13, 8, 10, 11, 12, 14, 15, 16]) .no)) (.alt 6 (ordL [1, 4, 8, 10, 11, 12, 14, 16] [1, 4, 13, 8, 10, 11, 12, 14, 15, 16]) .no)) (.alt 6 (.alt 1 (ordL [3, 4, 8, 10, 11, 12, 14, 16] [3, 4, 13, 8, 10, 11, 12, 14, 15, 16]) (.alt 3 (ordL [1, 4, 8, 10, 11, 12, 14, 16] [1, 4, 13, 8, 10, 11, 12, 14, 15, 16]) .no)) .no)))))))) (by decide +kernel) ?_ | refine Call.eq hN rfl ?_ | refine Call.eq hM rfl ?_ | refine Call.eq hS rfl ?_ | refine Call.eq hW rfl ?_ | refine Len.map ?_ | refine Len.nil ?_ | refine Len.cons ?_ | refine Br.t rfl ?_ | refine Br.f rfl ?_ | refine Fit.au ?_ | refine Cv.au ?_ | refine Need.ne ?_ | refine Need.au ?_ | refine Pick.map (by assumption) ?_ | refine Pick.mapI (by omega) (by assumption) ?_ | refine PickN.mk _ (by assumption) ?_ | refine PickN.mk _ rfl ?_ | refine PickN.au ?_ | refine App.au rfl ?_ | refine App.au (own_map (fun _ => rfl) _) ?_ | refine Both.mk ?_ ?_ | exact True.intro
  refine Stop.mk ?_
  refine run_frzIn 1 3 rfl rfl (fz_names _) rfl ?_
  refine run_varLe 6 rfl (.cons (VLe.refl _) (.cons (VLe.refl _) (.cons (VLe.refl _) (.cons (VLe.refl _) (.cons (VLe.onil (sz := 1)) (.cons (VLe.onil (sz := 1)) (.cons (VLe.refl _) .nil))))))) ?_
  refine run_unfold 6 4 rfl rfl ?_
  refine run_unfold 6 5 rfl rfl ?_
  refine loop_in (g := [(1, 3), (2, 6), (3, 7), (4, 8)]) (fun k : Nat => tmN2 f k) (fun k => hpN2 f (((nilsP f).gen).take k) (((nilsP f).kill).take k)) 5 (fun k => k ≤ f.blocks.length) (fun k => f.blocks.length - k) 0 (by omega) ⟨rfl, (by repeat' first | exact trivial | refine ⟨rfl, ?_⟩ | refine ⟨congrArg (fun n => AV.lit (.int .i64 n)) (by omega), ?_⟩ | refine ⟨congrArg (fun l => some (Row.row 1 l)) (by simp [int1, num, tru]), ?_⟩), (by repeat' first | exact trivial | refine ⟨rfl, ?_⟩ | refine ⟨congrArg (fun n => AV.lit (.int .i64 n)) (by omega), ?_⟩ | refine ⟨congrArg (fun l => some (Row.row 1 l)) (by simp [int1, num, tru]), ?_⟩)⟩ (fun k hk ih => ?_)
  unfold tmN2 hpN2
  by_cases hk2 : k < f.blocks.length
  · obtain ⟨bk, gk, hbm⟩ := getK (l := f.blocks) (k := k) hk2
    have hlen := h.len bk hbm
    have hib := h.ins bk hbm
    have hfi := (h.fit.2.2 bk hbm).2
    refine go 1000 Tryd.func17 ?_
    repeat' first | refine Br.t (by simp; omega) ?_ | refine Call.eq hW rfl ?_ | refine Call.eq hF rfl ?_ | refine Pick.map gk ?_ | refine Len.map ?_ | refine Len.nil ?_ | refine Len.cons ?_ | refine Br.t rfl ?_ | refine Br.f rfl ?_ | refine Fit.au ?_ | refine Cv.au ?_ | refine Need.ne ?_ | refine Need.au ?_ | refine Pick.map (by assumption) ?_ | refine Pick.mapI (by omega) (by assumption) ?_ | refine PickN.mk _ (by assumption) ?_ | refine PickN.mk _ rfl ?_ | refine PickN.au ?_ | refine App.au rfl ?_ | refine App.au (own_map (fun _ => rfl) _) ?_ | refine Both.mk ?_ ?_ | exact True.intro
    refine Stop.mk (loop_in (g := []) (fun j : Nat => [(8, .hw 5), (9, .hw 6), (43, .sl false 9 (bk.map Ins.cs)), (44, num bk.length), (45, num j)] ++ tmN2 f k) (fun j => [(6, rowW (nilsW f (bk.take j) (fullW f.regs.length))), (5, rowW (nilsW f (bk.take j) (newW f.regs.length)))] ++ hpN2 f (((nilsP f).gen).take k) (((nilsP f).kill).take k)) 7 (fun j => j ≤ bk.length) (fun j => bk.length - j) 0 (Nat.zero_le _) ⟨rfl, (by repeat' first | exact trivial | refine ⟨rfl, ?_⟩ | refine ⟨congrArg (fun n => AV.lit (.int .i64 n)) (by omega), ?_⟩ | refine ⟨congrArg (fun l => some (Row.row 1 l)) (by simp [int1, num, tru]), ?_⟩), (by repeat' first | exact trivial | refine ⟨rfl, ?_⟩ | refine ⟨congrArg (fun n => AV.lit (.int .i64 n)) (by omega), ?_⟩ | refine ⟨congrArg (fun l => some (Row.row 1 l)) (by simp [int1, num, tru]), ?_⟩)⟩ (fun j hj ih2 => ?_))
    unfold tmN2 hpN2
    by_cases hjl : j < bk.length
    · obtain ⟨i, gi, him⟩ := getK (l := bk) (k := j) hjl
      have hC := changes44_spec f i (hfi i him) h.reg
      have hb := hib i him
      have hcl := chg_len f i
      have hst1 := nilsW_take (f := f) (s := newW f.regs.length) gi
      have hst2 := nilsW_take (f := f) (s := fullW f.regs.length) gi
      have hl1 : (nilsW f (bk.take j) (newW f.regs.length)).length = wn f.regs.length := (nilsW_len ..).trans hnl
      have hl2 : (nilsW f (bk.take j) (fullW f.regs.length)).length = wn f.regs.length := (nilsW_len ..).trans hfl
      have ih2' := @ih2 (j + 1)
      rw [hst1, hst2] at ih2'
      generalize nilsW f (bk.take j) (newW f.regs.length) = g0 at *
      generalize nilsW f (bk.take j) (fullW f.regs.length) = k0 at *
      rw [← chg_fold, ← chg_fold] at ih2'
      refine go 1000 Tryd.func17 ?_
      repeat' first | refine Br.t (by simp; omega) ?_ | refine Draw.mk (ordL [2, 4, 6] [0, 1, 3, 2, 4, 5, 6, 7]) (by decide +kernel) ?_ | refine Draw.mk (ordL [6] [0, 1, 2, 3, 4, 5, 8, 6, 7]) (by decide +kernel) ?_ | refine Draw.mk (.one 0 false (.one 2 false (.one 5 false (.one 7 false (.one 9 false (.alt 1 (.alt 3 (.alt 4 (ordL [8, 10, 11, 12, 14, 16] [6, 13, 8, 10, 11, 12, 14, 15, 16]) (.alt 6 (ordL [4, 8, 10, 11, 12, 14, 16] [4, 13, 8, 10, 11, 12, 14, 15, 16]) .no)) (.alt 6 (ordL [3, 4, 8, 10, 11, 12, 14, 16] [3, 4, 13, 8, 10, 11, 12, 14, 15, 16]) .no)) (.alt 3 (.alt 1 (.alt 4 (ordL [8, 10, 11, 12, 14, 16] [6, 13, 8, 10, 11, 12, 14, 15, 16]) (.alt 6 (ordL [4, 8, 10, 11, 12, 14, 16] [4, 13, 8, 10, 11, 12, 14, 15, 16]) .no)) (.alt 6 (ordL [1, 4, 8, 10, 11, 12, 14, 16] [1, 4, 13, 8, 10, 11, 12, 14, 15, 16]) .no)) (.alt 6 (.alt 1 (ordL [3, 4, 8, 10, 11, 12, 14, 16] [3, 4, 13, 8, 10, 11, 12, 14, 15, 16]) (.alt 3 (ordL [1, 4, 8, 10, 11, 12, 14, 16] [1, 4, 13, 8, 10, 11, 12, 14, 15, 16]) .no)) .no)))))))) (by decide +kernel) ?_ | refine Pick.map gi ?_ | refine Call.eq hC rfl ?_ | refine Len.map ?_ | refine Len.nil ?_ | refine Len.cons ?_ | refine Br.t rfl ?_ | refine Br.f rfl ?_ | refine Fit.au ?_ | refine Cv.au ?_ | refine Need.ne ?_ | refine Need.au ?_ | refine Pick.map (by assumption) ?_ | refine Pick.mapI (by omega) (by assumption) ?_ | refine PickN.mk _ (by assumption) ?_ | refine PickN.mk _ rfl ?_ | refine PickN.au ?_ | refine App.au rfl ?_ | refine App.au (own_map (fun _ => rfl) _) ?_ | refine Both.mk ?_ ?_ | exact True.intro
      refine Stop.mk (loop_in (g := []) (fun c : Nat => [(55, .hw 8), (56, num (chgL f i).length), (57, num c), (8, .hw 5), (9, .hw 6), (43, .sl false 9 (bk.map Ins.cs)), (44, num bk.length), (45, num j)] ++ tmN2 f k) (fun c => [(8, .row 2 ((chgL f i).map chA)), (7, .var i.cs), (6, rowW (((chgL f i).take c).foldl chW k0)), (5, rowW (((chgL f i).take c).foldl chW g0))] ++ hpN2 f (((nilsP f).gen).take k) (((nilsP f).kill).take k)) 9 (fun c => c ≤ (chgL f i).length) (fun c => (chgL f i).length - c) 0 (Nat.zero_le _) ⟨rfl, (by repeat' first | exact trivial | refine ⟨rfl, ?_⟩ | refine ⟨congrArg (fun n => AV.lit (.int .i64 n)) (by omega), ?_⟩ | refine ⟨congrArg (fun l => some (Row.row 1 l)) (by simp [int1, num, tru]), ?_⟩), (by repeat' first | exact trivial | refine ⟨rfl, ?_⟩ | refine ⟨congrArg (fun n => AV.lit (.int .i64 n)) (by omega), ?_⟩ | refine ⟨congrArg (fun l => some (Row.row 1 l)) (by simp [int1, num, tru]), ?_⟩)⟩ (fun c hc ih3 => ?_))
      unfold tmN2 hpN2
      by_cases hcc : c < (chgL f i).length
      · obtain ⟨⟨bo, x⟩, gc, hcm⟩ := getK (l := chgL f i) (k := c) hcc
        have hx := chg_pos hb hcm
        obtain ⟨y, hy⟩ := Int.eq_ofNat_of_zero_le hx.1
        dsimp only at hx hy
        subst hy
        have hs1 := chg_take (s := g0) gc
        have hs2 := chg_take (s := k0) gc
        have hm1 : (((chgL f i).take c).foldl chW g0).length ≤ 1000000 := by rw [chgs_len, hl1]; omega
        have hm2 : (((chgL f i).take c).foldl chW k0).length ≤ 1000000 := by rw [chgs_len, hl2]; omega
        have ih3' := @ih3 (c + 1)
        rw [hs1, hs2] at ih3'
        generalize ((chgL f i).take c).foldl chW g0 = g1 at *
        generalize ((chgL f i).take c).foldl chW k0 = k1 at *
        cases bo with
        | true =>
          refine go 1000 Tryd.func17 ?_
          repeat' first | refine Br.t (by simp; omega) ?_ | refine Need.mk ⟨by omega, by rw [List.length_map]; omega⟩ ?_ | refine PickN.map gc ?_ | refine Len.map ?_ | refine Len.nil ?_ | refine Len.cons ?_ | refine Br.t rfl ?_ | refine Br.f rfl ?_ | refine Fit.au ?_ | refine Cv.au ?_ | refine Need.ne ?_ | refine Need.au ?_ | refine Pick.map (by assumption) ?_ | refine Pick.mapI (by omega) (by assumption) ?_ | refine PickN.mk _ (by assumption) ?_ | refine PickN.mk _ rfl ?_ | refine PickN.au ?_ | refine App.au rfl ?_ | refine App.au (own_map (fun _ => rfl) _) ?_ | refine Both.mk ?_ ?_ | exact True.intro
          refine Dyn.mk _ _ rfl rfl rfl (putN_run g1 y k1 _ _ _ _ _ _ _ _ hm1 (by omega) (fun e v => ?_) (fun v => ?_))
          · repeat' first | refine Len.map ?_ | refine Len.nil ?_ | refine Len.cons ?_ | refine Br.t rfl ?_ | refine Br.f rfl ?_ | refine Fit.au ?_ | refine Cv.au ?_ | refine Need.ne ?_ | refine Need.au ?_ | refine Pick.map (by assumption) ?_ | refine Pick.mapI (by omega) (by assumption) ?_ | refine PickN.mk _ (by assumption) ?_ | refine PickN.mk _ rfl ?_ | refine PickN.au ?_ | refine App.au rfl ?_ | refine App.au (own_map (fun _ => rfl) _) ?_ | refine Both.mk ?_ ?_ | exact True.intro
            refine Dyn.mk _ _ rfl rfl rfl (putM_run k1 y g1 _ _ _ _ _ _ _ _ hm2 (by omega) (fun e' v' => ?_) (fun v' => ?_))
            · repeat' first | refine Len.map ?_ | refine Len.nil ?_ | refine Len.cons ?_ | refine Br.t rfl ?_ | refine Br.f rfl ?_ | refine Fit.au ?_ | refine Cv.au ?_ | refine Need.ne ?_ | refine Need.au ?_ | refine Pick.map (by assumption) ?_ | refine Pick.mapI (by omega) (by assumption) ?_ | refine PickN.mk _ (by assumption) ?_ | refine PickN.mk _ rfl ?_ | refine PickN.au ?_ | refine App.au rfl ?_ | refine App.au (own_map (fun _ => rfl) _) ?_ | refine Both.mk ?_ ?_ | exact True.intro
              rw [show chW g1 (true, (y : Int)) = g1 from e, show chW k1 (true, (y : Int)) = k1 from e'] at ih3'
              exact Stop.mk (ih3' (g := []) _ _ _ (by omega) (by omega) ⟨rfl, (by repeat' first | exact trivial | refine ⟨rfl, ?_⟩ | refine ⟨congrArg (fun n => AV.lit (.int .i64 n)) (by omega), ?_⟩ | refine ⟨congrArg (fun l => some (Row.row 1 l)) (by simp [int1, num, tru]), ?_⟩), (by repeat' first | exact trivial | refine ⟨rfl, ?_⟩ | refine ⟨congrArg (fun n => AV.lit (.int .i64 n)) (by omega), ?_⟩ | refine ⟨congrArg (fun l => some (Row.row 1 l)) (by simp [int1, num, tru]), ?_⟩)⟩)
            · repeat' first | refine Len.map ?_ | refine Len.nil ?_ | refine Len.cons ?_ | refine Br.t rfl ?_ | refine Br.f rfl ?_ | refine Fit.au ?_ | refine Cv.au ?_ | refine Need.ne ?_ | refine Need.au ?_ | refine Pick.map (by assumption) ?_ | refine Pick.mapI (by omega) (by assumption) ?_ | refine PickN.mk _ (by assumption) ?_ | refine PickN.mk _ rfl ?_ | refine PickN.au ?_ | refine App.au rfl ?_ | refine App.au (own_map (fun _ => rfl) _) ?_ | refine Both.mk ?_ ?_ | exact True.intro
              rw [show chW g1 (true, (y : Int)) = g1 from e, show chW k1 (true, (y : Int)) = putW k1 y from rfl] at ih3'
              exact Stop.mk (ih3' (g := []) _ _ _ (by omega) (by omega) ⟨rfl, (by repeat' first | exact trivial | refine ⟨rfl, ?_⟩ | refine ⟨congrArg (fun n => AV.lit (.int .i64 n)) (by omega), ?_⟩ | refine ⟨congrArg (fun l => some (Row.row 1 l)) (by simp [int1, num, tru]), ?_⟩), (by repeat' first | exact trivial | refine ⟨rfl, ?_⟩ | refine ⟨congrArg (fun n => AV.lit (.int .i64 n)) (by omega), ?_⟩ | refine ⟨congrArg (fun l => some (Row.row 1 l)) (by simp [int1, num, tru]), ?_⟩)⟩)
          · repeat' first | refine Len.map ?_ | refine Len.nil ?_ | refine Len.cons ?_ | refine Br.t rfl ?_ | refine Br.f rfl ?_ | refine Fit.au ?_ | refine Cv.au ?_ | refine Need.ne ?_ | refine Need.au ?_ | refine Pick.map (by assumption) ?_ | refine Pick.mapI (by omega) (by assumption) ?_ | refine PickN.mk _ (by assumption) ?_ | refine PickN.mk _ rfl ?_ | refine PickN.au ?_ | refine App.au rfl ?_ | refine App.au (own_map (fun _ => rfl) _) ?_ | refine Both.mk ?_ ?_ | exact True.intro
            refine Dyn.mk _ _ rfl rfl rfl (putL_run k1 y (putW g1 y) _ _ _ _ _ _ _ _ hm2 (by omega) (fun e' v' => ?_) (fun v' => ?_))
            · repeat' first | refine Len.map ?_ | refine Len.nil ?_ | refine Len.cons ?_ | refine Br.t rfl ?_ | refine Br.f rfl ?_ | refine Fit.au ?_ | refine Cv.au ?_ | refine Need.ne ?_ | refine Need.au ?_ | refine Pick.map (by assumption) ?_ | refine Pick.mapI (by omega) (by assumption) ?_ | refine PickN.mk _ (by assumption) ?_ | refine PickN.mk _ rfl ?_ | refine PickN.au ?_ | refine App.au rfl ?_ | refine App.au (own_map (fun _ => rfl) _) ?_ | refine Both.mk ?_ ?_ | exact True.intro
              rw [show chW g1 (true, (y : Int)) = putW g1 y from rfl, show chW k1 (true, (y : Int)) = k1 from e'] at ih3'
              exact Stop.mk (ih3' (g := []) _ _ _ (by omega) (by omega) ⟨rfl, (by repeat' first | exact trivial | refine ⟨rfl, ?_⟩ | refine ⟨congrArg (fun n => AV.lit (.int .i64 n)) (by omega), ?_⟩ | refine ⟨congrArg (fun l => some (Row.row 1 l)) (by simp [int1, num, tru]), ?_⟩), (by repeat' first | exact trivial | refine ⟨rfl, ?_⟩ | refine ⟨congrArg (fun n => AV.lit (.int .i64 n)) (by omega), ?_⟩ | refine ⟨congrArg (fun l => some (Row.row 1 l)) (by simp [int1, num, tru]), ?_⟩)⟩)
            · repeat' first | refine Len.map ?_ | refine Len.nil ?_ | refine Len.cons ?_ | refine Br.t rfl ?_ | refine Br.f rfl ?_ | refine Fit.au ?_ | refine Cv.au ?_ | refine Need.ne ?_ | refine Need.au ?_ | refine Pick.map (by assumption) ?_ | refine Pick.mapI (by omega) (by assumption) ?_ | refine PickN.mk _ (by assumption) ?_ | refine PickN.mk _ rfl ?_ | refine PickN.au ?_ | refine App.au rfl ?_ | refine App.au (own_map (fun _ => rfl) _) ?_ | refine Both.mk ?_ ?_ | exact True.intro
              rw [show chW g1 (true, (y : Int)) = putW g1 y from rfl, show chW k1 (true, (y : Int)) = putW k1 y from rfl] at ih3'
              exact Stop.mk (ih3' (g := []) _ _ _ (by omega) (by omega) ⟨rfl, (by repeat' first | exact trivial | refine ⟨rfl, ?_⟩ | refine ⟨congrArg (fun n => AV.lit (.int .i64 n)) (by omega), ?_⟩ | refine ⟨congrArg (fun l => some (Row.row 1 l)) (by simp [int1, num, tru]), ?_⟩), (by repeat' first | exact trivial | refine ⟨rfl, ?_⟩ | refine ⟨congrArg (fun n => AV.lit (.int .i64 n)) (by omega), ?_⟩ | refine ⟨congrArg (fun l => some (Row.row 1 l)) (by simp [int1, num, tru]), ?_⟩)⟩)
        | false =>
          refine go 1000 Tryd.func17 ?_
          repeat' first | refine Br.t (by simp; omega) ?_ | refine Need.mk ⟨by omega, by rw [List.length_map]; omega⟩ ?_ | refine PickN.map gc ?_ | refine Len.map ?_ | refine Len.nil ?_ | refine Len.cons ?_ | refine Br.t rfl ?_ | refine Br.f rfl ?_ | refine Fit.au ?_ | refine Cv.au ?_ | refine Need.ne ?_ | refine Need.au ?_ | refine Pick.map (by assumption) ?_ | refine Pick.mapI (by omega) (by assumption) ?_ | refine PickN.mk _ (by assumption) ?_ | refine PickN.mk _ rfl ?_ | refine PickN.au ?_ | refine App.au rfl ?_ | refine App.au (own_map (fun _ => rfl) _) ?_ | refine Both.mk ?_ ?_ | exact True.intro
          refine Dyn.mk _ _ rfl rfl rfl (dropN_run g1 y k1 _ _ _ _ _ _ _ _ hm1 (by omega) (fun e v => ?_) (fun v => ?_))
          · repeat' first | refine Len.map ?_ | refine Len.nil ?_ | refine Len.cons ?_ | refine Br.t rfl ?_ | refine Br.f rfl ?_ | refine Fit.au ?_ | refine Cv.au ?_ | refine Need.ne ?_ | refine Need.au ?_ | refine Pick.map (by assumption) ?_ | refine Pick.mapI (by omega) (by assumption) ?_ | refine PickN.mk _ (by assumption) ?_ | refine PickN.mk _ rfl ?_ | refine PickN.au ?_ | refine App.au rfl ?_ | refine App.au (own_map (fun _ => rfl) _) ?_ | refine Both.mk ?_ ?_ | exact True.intro
            refine Dyn.mk _ _ rfl rfl rfl (dropM_run k1 y g1 _ _ _ _ _ _ _ _ hm2 (by omega) (fun e' v' => ?_) (fun v' => ?_))
            · repeat' first | refine Len.map ?_ | refine Len.nil ?_ | refine Len.cons ?_ | refine Br.t rfl ?_ | refine Br.f rfl ?_ | refine Fit.au ?_ | refine Cv.au ?_ | refine Need.ne ?_ | refine Need.au ?_ | refine Pick.map (by assumption) ?_ | refine Pick.mapI (by omega) (by assumption) ?_ | refine PickN.mk _ (by assumption) ?_ | refine PickN.mk _ rfl ?_ | refine PickN.au ?_ | refine App.au rfl ?_ | refine App.au (own_map (fun _ => rfl) _) ?_ | refine Both.mk ?_ ?_ | exact True.intro
              rw [show chW g1 (false, (y : Int)) = g1 from e, show chW k1 (false, (y : Int)) = k1 from e'] at ih3'
              exact Stop.mk (ih3' (g := []) _ _ _ (by omega) (by omega) ⟨rfl, (by repeat' first | exact trivial | refine ⟨rfl, ?_⟩ | refine ⟨congrArg (fun n => AV.lit (.int .i64 n)) (by omega), ?_⟩ | refine ⟨congrArg (fun l => some (Row.row 1 l)) (by simp [int1, num, tru]), ?_⟩), (by repeat' first | exact trivial | refine ⟨rfl, ?_⟩ | refine ⟨congrArg (fun n => AV.lit (.int .i64 n)) (by omega), ?_⟩ | refine ⟨congrArg (fun l => some (Row.row 1 l)) (by simp [int1, num, tru]), ?_⟩)⟩)
            · repeat' first | refine Len.map ?_ | refine Len.nil ?_ | refine Len.cons ?_ | refine Br.t rfl ?_ | refine Br.f rfl ?_ | refine Fit.au ?_ | refine Cv.au ?_ | refine Need.ne ?_ | refine Need.au ?_ | refine Pick.map (by assumption) ?_ | refine Pick.mapI (by omega) (by assumption) ?_ | refine PickN.mk _ (by assumption) ?_ | refine PickN.mk _ rfl ?_ | refine PickN.au ?_ | refine App.au rfl ?_ | refine App.au (own_map (fun _ => rfl) _) ?_ | refine Both.mk ?_ ?_ | exact True.intro
              rw [show chW g1 (false, (y : Int)) = g1 from e, show chW k1 (false, (y : Int)) = dropW k1 y from rfl] at ih3'
              exact Stop.mk (ih3' (g := []) _ _ _ (by omega) (by omega) ⟨rfl, (by repeat' first | exact trivial | refine ⟨rfl, ?_⟩ | refine ⟨congrArg (fun n => AV.lit (.int .i64 n)) (by omega), ?_⟩ | refine ⟨congrArg (fun l => some (Row.row 1 l)) (by simp [int1, num, tru]), ?_⟩), (by repeat' first | exact trivial | refine ⟨rfl, ?_⟩ | refine ⟨congrArg (fun n => AV.lit (.int .i64 n)) (by omega), ?_⟩ | refine ⟨congrArg (fun l => some (Row.row 1 l)) (by simp [int1, num, tru]), ?_⟩)⟩)
          · repeat' first | refine Len.map ?_ | refine Len.nil ?_ | refine Len.cons ?_ | refine Br.t rfl ?_ | refine Br.f rfl ?_ | refine Fit.au ?_ | refine Cv.au ?_ | refine Need.ne ?_ | refine Need.au ?_ | refine Pick.map (by assumption) ?_ | refine Pick.mapI (by omega) (by assumption) ?_ | refine PickN.mk _ (by assumption) ?_ | refine PickN.mk _ rfl ?_ | refine PickN.au ?_ | refine App.au rfl ?_ | refine App.au (own_map (fun _ => rfl) _) ?_ | refine Both.mk ?_ ?_ | exact True.intro
            refine Dyn.mk _ _ rfl rfl rfl (dropL_run k1 y (dropW g1 y) _ _ _ _ _ _ _ _ hm2 (by omega) (fun e' v' => ?_) (fun v' => ?_))
            · repeat' first | refine Len.map ?_ | refine Len.nil ?_ | refine Len.cons ?_ | refine Br.t rfl ?_ | refine Br.f rfl ?_ | refine Fit.au ?_ | refine Cv.au ?_ | refine Need.ne ?_ | refine Need.au ?_ | refine Pick.map (by assumption) ?_ | refine Pick.mapI (by omega) (by assumption) ?_ | refine PickN.mk _ (by assumption) ?_ | refine PickN.mk _ rfl ?_ | refine PickN.au ?_ | refine App.au rfl ?_ | refine App.au (own_map (fun _ => rfl) _) ?_ | refine Both.mk ?_ ?_ | exact True.intro
              rw [show chW g1 (false, (y : Int)) = dropW g1 y from rfl, show chW k1 (false, (y : Int)) = k1 from e'] at ih3'
              exact Stop.mk (ih3' (g := []) _ _ _ (by omega) (by omega) ⟨rfl, (by repeat' first | exact trivial | refine ⟨rfl, ?_⟩ | refine ⟨congrArg (fun n => AV.lit (.int .i64 n)) (by omega), ?_⟩ | refine ⟨congrArg (fun l => some (Row.row 1 l)) (by simp [int1, num, tru]), ?_⟩), (by repeat' first | exact trivial | refine ⟨rfl, ?_⟩ | refine ⟨congrArg (fun n => AV.lit (.int .i64 n)) (by omega), ?_⟩ | refine ⟨congrArg (fun l => some (Row.row 1 l)) (by simp [int1, num, tru]), ?_⟩)⟩)
            · repeat' first | refine Len.map ?_ | refine Len.nil ?_ | refine Len.cons ?_ | refine Br.t rfl ?_ | refine Br.f rfl ?_ | refine Fit.au ?_ | refine Cv.au ?_ | refine Need.ne ?_ | refine Need.au ?_ | refine Pick.map (by assumption) ?_ | refine Pick.mapI (by omega) (by assumption) ?_ | refine PickN.mk _ (by assumption) ?_ | refine PickN.mk _ rfl ?_ | refine PickN.au ?_ | refine App.au rfl ?_ | refine App.au (own_map (fun _ => rfl) _) ?_ | refine Both.mk ?_ ?_ | exact True.intro
              rw [show chW g1 (false, (y : Int)) = dropW g1 y from rfl, show chW k1 (false, (y : Int)) = dropW k1 y from rfl] at ih3'
              exact Stop.mk (ih3' (g := []) _ _ _ (by omega) (by omega) ⟨rfl, (by repeat' first | exact trivial | refine ⟨rfl, ?_⟩ | refine ⟨congrArg (fun n => AV.lit (.int .i64 n)) (by omega), ?_⟩ | refine ⟨congrArg (fun l => some (Row.row 1 l)) (by simp [int1, num, tru]), ?_⟩), (by repeat' first | exact trivial | refine ⟨rfl, ?_⟩ | refine ⟨congrArg (fun n => AV.lit (.int .i64 n)) (by omega), ?_⟩ | refine ⟨congrArg (fun l => some (Row.row 1 l)) (by simp [int1, num, tru]), ?_⟩)⟩)
      · obtain rfl : c = (chgL f i).length := by omega
        rw [List.take_length]
        refine go 1000 Tryd.func17 ?_
        repeat' first | refine Br.f (by simp) ?_ | refine Len.map ?_ | refine Len.nil ?_ | refine Len.cons ?_ | refine Br.t rfl ?_ | refine Br.f rfl ?_ | refine Fit.au ?_ | refine Cv.au ?_ | refine Need.ne ?_ | refine Need.au ?_ | refine Pick.map (by assumption) ?_ | refine Pick.mapI (by omega) (by assumption) ?_ | refine PickN.mk _ (by assumption) ?_ | refine PickN.mk _ rfl ?_ | refine PickN.au ?_ | refine App.au rfl ?_ | refine App.au (own_map (fun _ => rfl) _) ?_ | refine Both.mk ?_ ?_ | exact True.intro
        exact Stop.mk (ih2' (g := []) _ _ _ (by omega) (by omega) ⟨rfl, (by repeat' first | exact trivial | refine ⟨rfl, ?_⟩ | refine ⟨congrArg (fun n => AV.lit (.int .i64 n)) (by omega), ?_⟩ | refine ⟨congrArg (fun l => some (Row.row 1 l)) (by simp [int1, num, tru]), ?_⟩), (by repeat' first | exact trivial | refine ⟨rfl, ?_⟩ | refine ⟨congrArg (fun n => AV.lit (.int .i64 n)) (by omega), ?_⟩ | refine ⟨congrArg (fun l => some (Row.row 1 l)) (by simp [int1, num, tru]), ?_⟩)⟩)
    · obtain rfl : j = bk.length := by omega
      rw [List.take_length]
      have hkg : ((nilsP f).gen.take (k + 1)) = (nilsP f).gen.take k ++ [nilsW f bk (newW f.regs.length)] := map_take_succ2 gk
      have hkk : ((nilsP f).kill.take (k + 1)) = (nilsP f).kill.take k ++ [lessW (fullW f.regs.length) (nilsW f bk (fullW f.regs.length))] := map_take_succ2 gk
      have hpr := fun Qp todo hh => push18_run f h.toNilOK k (nilsW f bk (newW f.regs.length)) (nilsW f bk (fullW f.regs.length)) (((nilsP f).gen).take k) (((nilsP f).kill).take k) (by rw [nilsW_len, hfl]; omega) (by rw [List.length_take]; omega) (by rw [List.length_take]; omega) Qp (todo := todo) hh
      rw [← hkg, ← hkk] at hpr
      simp only [tmN2, hpN2, List.cons_append, List.nil_append] at hpr
      refine go 7 Tryd.func17 ?_
      repeat' first | refine Br.f (by simp) ?_ | refine Len.map ?_ | refine Len.nil ?_ | refine Len.cons ?_ | refine Br.t rfl ?_ | refine Br.f rfl ?_ | refine Fit.au ?_ | refine Cv.au ?_ | refine Need.ne ?_ | refine Need.au ?_ | refine Pick.map (by assumption) ?_ | refine Pick.mapI (by omega) (by assumption) ?_ | refine PickN.mk _ (by assumption) ?_ | refine PickN.mk _ rfl ?_ | refine PickN.au ?_ | refine App.au rfl ?_ | refine App.au (own_map (fun _ => rfl) _) ?_ | refine Both.mk ?_ ?_ | exact True.intro
      refine Stop.mk ?_
      refine Run.fr (g := []) (hpr _ _ ?_) ?_
      case refine_2 => exact ⟨rfl, (by repeat' first | exact trivial | refine ⟨rfl, ?_⟩ | refine ⟨congrArg (fun n => AV.lit (.int .i64 n)) (by omega), ?_⟩ | refine ⟨congrArg (fun l => some (Row.row 1 l)) (by simp [int1, num, tru]), ?_⟩), (by repeat' first | exact trivial | refine ⟨rfl, ?_⟩ | refine ⟨congrArg (fun n => AV.lit (.int .i64 n)) (by omega), ?_⟩ | refine ⟨congrArg (fun l => some (Row.row 1 l)) (by simp [int1, num, tru]), ?_⟩)⟩
      refine go 1000 Tryd.func17 ?_
      repeat' first | refine Len.map ?_ | refine Len.nil ?_ | refine Len.cons ?_ | refine Br.t rfl ?_ | refine Br.f rfl ?_ | refine Fit.au ?_ | refine Cv.au ?_ | refine Need.ne ?_ | refine Need.au ?_ | refine Pick.map (by assumption) ?_ | refine Pick.mapI (by omega) (by assumption) ?_ | refine PickN.mk _ (by assumption) ?_ | refine PickN.mk _ rfl ?_ | refine PickN.au ?_ | refine App.au rfl ?_ | refine App.au (own_map (fun _ => rfl) _) ?_ | refine Both.mk ?_ ?_ | exact True.intro
      refine Stop.mk (ih (k + 1) (g := []) _ _ _ (by omega) (by omega) ?_)
      unfold tmN2 hpN2
      exact ⟨rfl, (by repeat' first | exact trivial | refine ⟨rfl, ?_⟩ | refine ⟨congrArg (fun n => AV.lit (.int .i64 n)) (by omega), ?_⟩ | refine ⟨congrArg (fun l => some (Row.row 1 l)) (by simp [int1, num, tru]), ?_⟩), (by repeat' first | exact trivial | refine ⟨rfl, ?_⟩ | refine ⟨congrArg (fun n => AV.lit (.int .i64 n)) (by omega), ?_⟩ | refine ⟨congrArg (fun l => some (Row.row 1 l)) (by simp [int1, num, tru]), ?_⟩)⟩
  · obtain rfl : k = f.blocks.length := by omega
    rw [List.take_of_length_le (by show (f.blocks.map _).length ≤ _; rw [List.length_map]; omega), List.take_of_length_le (by show (f.blocks.map _).length ≤ _; rw [List.length_map]; omega)]
    refine go 8 Tryd.func17 ?_
    repeat' first | refine Br.f (by simp) ?_ | refine Len.map ?_ | refine Len.nil ?_ | refine Len.cons ?_ | refine Br.t rfl ?_ | refine Br.f rfl ?_ | refine Fit.au ?_ | refine Cv.au ?_ | refine Need.ne ?_ | refine Need.au ?_ | refine Pick.map (by assumption) ?_ | refine Pick.mapI (by omega) (by assumption) ?_ | refine PickN.mk _ (by assumption) ?_ | refine PickN.mk _ rfl ?_ | refine PickN.au ?_ | refine App.au rfl ?_ | refine App.au (own_map (fun _ => rfl) _) ?_ | refine Both.mk ?_ ?_ | exact True.intro
    refine Stop.mk ?_
    refine run_unfold 2 0 rfl rfl ?_
    refine run_unfold 2 6 rfl rfl ?_
    refine go 1000 Tryd.func17 ?_
    repeat' first | refine Look.yes (View.mk _ (fzLL_map fz_olsts _) ?_) | refine View.mk _ (fzLL_map fz_oset _) ?_ | refine View.mk _ (fzw _) ?_ | refine Len.map ?_ | refine Len.nil ?_ | refine Len.cons ?_ | refine Br.t rfl ?_ | refine Br.f rfl ?_ | refine Fit.au ?_ | refine Cv.au ?_ | refine Need.ne ?_ | refine Need.au ?_ | refine Pick.map (by assumption) ?_ | refine Pick.mapI (by omega) (by assumption) ?_ | refine PickN.mk _ (by assumption) ?_ | refine PickN.mk _ rfl ?_ | refine PickN.au ?_ | refine App.au rfl ?_ | refine App.au (own_map (fun _ => rfl) _) ?_ | refine Both.mk ?_ ?_ | exact True.intro
    refine CallV.of (Solve46_spec (nilsP f) (nilsP_ok h.toNilOK)) ?_
    rintro r ⟨T, F, hs, rfl⟩
    refine ⟨rfl, (by repeat' first | exact Free.lit _ | refine Free.tup ?_ | refine Free.agg ?_ | (refine Free.map ?_; intro e _) | refine List.forall_mem_cons.2 ⟨?_, ?_⟩ | exact List.forall_mem_nil _), ?_⟩
    repeat' first | refine Len.map ?_ | refine Len.nil ?_ | refine Len.cons ?_ | refine Br.t rfl ?_ | refine Br.f rfl ?_ | refine Fit.au ?_ | refine Cv.au ?_ | refine Need.ne ?_ | refine Need.au ?_ | refine Pick.map (by assumption) ?_ | refine Pick.mapI (by omega) (by assumption) ?_ | refine PickN.mk _ (by assumption) ?_ | refine PickN.mk _ rfl ?_ | refine PickN.au ?_ | refine App.au rfl ?_ | refine App.au (own_map (fun _ => rfl) _) ?_ | refine Both.mk ?_ ?_ | exact True.intro
    exact ⟨T, F, hs, rfl⟩
end Go.Proofs.YtdgibhndjdgllaaDoor

/- nils.Facts: what is known, and what is there from its writing on, by contracts. -/
namespace Go.Proofs.YtdgibhndjdgllaaDoor
open Go.Ax
set_option maxRecDepth 10000
set_option linter.unusedVariables false
set_option maxHeartbeats 0

def factC (f : Fun) (L : List Bool) (F : List (List W)) : List AV := f.cs ++ [namesA (newF f), .sl false 1 (L.map tb), .sl false 1 (F.map setL)]
def factA (f : Fun) (L : List Bool) (F : List (List W)) : AV := .pt (factC f L F)
theorem known47_yes (f : Fun) (L : List Bool) (F : List (List W)) (k : Nat) (hk : k < F.length) (hF : F.length ≤ 65536) (hL : L[k]? = some true) : FnSpec Tryd.prog 47 [factA f L F, num k] (fun r => r = tru true) := by
  refine spec_of 1000 Tryd.func47 rfl rfl ?_
  repeat' first | (refine Br.t ?_ ?_; focus (first | (simp; done) | (simp; omega))) | refine Pick.map hL ?_ | refine Len.map ?_ | refine Len.nil ?_ | refine Len.cons ?_ | refine Br.t rfl ?_ | refine Br.f rfl ?_ | refine Fit.au ?_ | refine Cv.au ?_ | refine Need.ne ?_ | refine Need.au ?_ | refine Pick.map (by assumption) ?_ | refine Pick.mapI (by omega) (by assumption) ?_ | refine PickN.mk _ (by assumption) ?_ | refine PickN.mk _ rfl ?_ | refine PickN.au ?_ | refine App.au rfl ?_ | refine App.au (own_map (fun _ => rfl) _) ?_ | refine Both.mk ?_ ?_ | exact True.intro
  first | rfl | (show tru _ = tru true; simp; done)
theorem born48_spec (f : Fun) (L : List Bool) (F : List (List W)) (hreg : f.regs.length ≤ 100) (x : Int) : FnSpec Tryd.prog 48 [factA f L F, num x] (fun r => r = tru (decide (bornP f x))) := by
  have hl : (newF f).ws.length ≤ 1000 := by rw [newF_len]; omega
  have hC := Chain_spec (newF f) x hl
  have hcl : ((newF f).chain x).length ≤ 1002 := by
    unfold Names.chain
    split
    · have := up_len (newF f) (newF f).ws.length x; omega
    · simp
  have hbp : bornP f x ↔ ∃ y ∈ (newF f).chain x, bornB f y := Iff.rfl
  refine spec_of 1000 Tryd.func48 rfl rfl ?_
  repeat' first | refine Len.map ?_ | refine Len.nil ?_ | refine Len.cons ?_ | refine Br.t rfl ?_ | refine Br.f rfl ?_ | refine Fit.au ?_ | refine Cv.au ?_ | refine Need.ne ?_ | refine Need.au ?_ | refine Pick.map (by assumption) ?_ | refine Pick.mapI (by omega) (by assumption) ?_ | refine PickN.mk _ (by assumption) ?_ | refine PickN.mk _ rfl ?_ | refine PickN.au ?_ | refine App.au rfl ?_ | refine App.au (own_map (fun _ => rfl) _) ?_ | refine Both.mk ?_ ?_ | exact True.intro
  refine Call.of hC ?_
  rintro r (rfl | ⟨rfl, he⟩)
  · refine ⟨rfl, ?_⟩
    repeat' first | refine Len.map ?_ | refine Len.nil ?_ | refine Len.cons ?_ | refine Br.t rfl ?_ | refine Br.f rfl ?_ | refine Fit.au ?_ | refine Cv.au ?_ | refine Need.ne ?_ | refine Need.au ?_ | refine Pick.map (by assumption) ?_ | refine Pick.mapI (by omega) (by assumption) ?_ | refine PickN.mk _ (by assumption) ?_ | refine PickN.mk _ rfl ?_ | refine PickN.au ?_ | refine App.au rfl ?_ | refine App.au (own_map (fun _ => rfl) _) ?_ | refine Both.mk ?_ ?_ | exact True.intro
    refine Stop.mk (loop_in (g := []) (fun k : Nat => [(0, factA f L F), (5, tru false), (15, .hw 0), (16, num ((newF f).chain x).length), (17, num k)]) (fun _ => [(0, .row 1 (((newF f).chain x).map int1))]) 1 (fun k => k ≤ ((newF f).chain x).length ∧ ∀ m y, m < k → ((newF f).chain x)[m]? = some y → ¬ bornB f y) (fun k => ((newF f).chain x).length - k) 0 ⟨Nat.zero_le _, fun m _ hm => by omega⟩ ⟨rfl, (by repeat' first | exact trivial | refine ⟨rfl, ?_⟩ | refine ⟨congrArg (fun n => AV.lit (.int .i64 n)) (by omega), ?_⟩ | refine ⟨congrArg (fun l => some (Row.row 1 l)) (by simp [int1, num, tru]), ?_⟩), (by repeat' first | exact trivial | refine ⟨rfl, ?_⟩ | refine ⟨congrArg (fun n => AV.lit (.int .i64 n)) (by omega), ?_⟩ | refine ⟨congrArg (fun l => some (Row.row 1 l)) (by simp [int1, num, tru]), ?_⟩)⟩ (fun k hk ih => ?_))
    generalize (newF f).chain x = l at *
    obtain ⟨hk1, hk2⟩ := hk
    by_cases hkl : k < l.length
    · obtain ⟨y, gy, hym⟩ := getK (l := l) (k := k) hkl
      have hW := Writer_spec (newF f) y
      have hb : bornB f y ↔ ((newF f).of y).is = true ∧ (((newF f).of y).i.op = 28 ∨ (((newF f).of y).i.op = 45 ∧ ((newF f).of y).i.m = 21)) := Iff.rfl
      generalize (newF f).of y = w at *
      have fin : ¬ bornB f y → ∀ m z, m < k + 1 → l[m]? = some z → ¬ bornB f z := fun hn m z hm hz => by
        by_cases e : m = k
        · subst e; rw [gy] at hz; obtain rfl := Option.some.inj hz; exact hn
        · exact hk2 m z (by omega) hz
      by_cases h1 : w.is = true
      · by_cases h2 : w.i.op = 28
        · have hbx : bornP f x := hbp.2 ⟨y, hym, hb.2 ⟨h1, .inl h2⟩⟩
          refine go 1000 Tryd.func48 ?_
          repeat' first | (refine Br.t ?_ ?_; focus (first | (simp; omega) | exact h1 | (simp; done) | (simpa using h2))) | refine Need.mk ⟨by omega, by rw [List.length_map]; omega⟩ ?_ | refine PickN.map gy ?_ | refine Call.eq hW rfl ?_ | refine Len.map ?_ | refine Len.nil ?_ | refine Len.cons ?_ | refine Br.t rfl ?_ | refine Br.f rfl ?_ | refine Fit.au ?_ | refine Cv.au ?_ | refine Need.ne ?_ | refine Need.au ?_ | refine Pick.map (by assumption) ?_ | refine Pick.mapI (by omega) (by assumption) ?_ | refine PickN.mk _ (by assumption) ?_ | refine PickN.mk _ rfl ?_ | refine PickN.au ?_ | refine App.au rfl ?_ | refine App.au (own_map (fun _ => rfl) _) ?_ | refine Both.mk ?_ ?_ | exact True.intro
          rw [decide_eq_true hbx]; rfl
        · by_cases h3 : w.i.op = 45
          · by_cases h4 : w.i.m = 21
            · have hbx : bornP f x := hbp.2 ⟨y, hym, hb.2 ⟨h1, .inr ⟨h3, h4⟩⟩⟩
              refine go 1000 Tryd.func48 ?_
              repeat' first | (refine Br.t ?_ ?_; focus (first | (simp; omega) | exact h1 | (simp; done) | (simpa using h3) | (simpa using h4))) | (refine Br.f ?_ ?_; focus (first | (simp; done) | simpa using h2)) | refine Need.mk ⟨by omega, by rw [List.length_map]; omega⟩ ?_ | refine PickN.map gy ?_ | refine Call.eq hW rfl ?_ | refine Len.map ?_ | refine Len.nil ?_ | refine Len.cons ?_ | refine Br.t rfl ?_ | refine Br.f rfl ?_ | refine Fit.au ?_ | refine Cv.au ?_ | refine Need.ne ?_ | refine Need.au ?_ | refine Pick.map (by assumption) ?_ | refine Pick.mapI (by omega) (by assumption) ?_ | refine PickN.mk _ (by assumption) ?_ | refine PickN.mk _ rfl ?_ | refine PickN.au ?_ | refine App.au rfl ?_ | refine App.au (own_map (fun _ => rfl) _) ?_ | refine Both.mk ?_ ?_ | exact True.intro
              rw [decide_eq_true hbx]
              show tru _ = tru true
              first | rfl | (congr 1; simp [h4]; done) | (simp [h4]; done)
            · have hn : ¬ bornB f y := fun e => (hb.1 e).2.elim h2 fun e => h4 e.2
              refine go 1000 Tryd.func48 ?_
              repeat' first | (refine Br.t ?_ ?_; focus (first | (simp; omega) | exact h1 | (simp; done) | (simpa using h3))) | (refine Br.f ?_ ?_; focus (first | (simp; done) | (simpa using h2) | (simpa using h4))) | refine Need.mk ⟨by omega, by rw [List.length_map]; omega⟩ ?_ | refine PickN.map gy ?_ | refine Call.eq hW rfl ?_ | refine Len.map ?_ | refine Len.nil ?_ | refine Len.cons ?_ | refine Br.t rfl ?_ | refine Br.f rfl ?_ | refine Fit.au ?_ | refine Cv.au ?_ | refine Need.ne ?_ | refine Need.au ?_ | refine Pick.map (by assumption) ?_ | refine Pick.mapI (by omega) (by assumption) ?_ | refine PickN.mk _ (by assumption) ?_ | refine PickN.mk _ rfl ?_ | refine PickN.au ?_ | refine App.au rfl ?_ | refine App.au (own_map (fun _ => rfl) _) ?_ | refine Both.mk ?_ ?_ | exact True.intro
              rw [show decide (w.i.m = 21) = false from decide_eq_false h4]
              exact Stop.mk (ih (k + 1) (g := []) _ _ _ ⟨by omega, fin hn⟩ (by omega) ⟨rfl, (by repeat' first | exact trivial | refine ⟨rfl, ?_⟩ | refine ⟨congrArg (fun n => AV.lit (.int .i64 n)) (by omega), ?_⟩ | refine ⟨congrArg (fun l => some (Row.row 1 l)) (by simp [int1, num, tru]), ?_⟩), (by repeat' first | exact trivial | refine ⟨rfl, ?_⟩ | refine ⟨congrArg (fun n => AV.lit (.int .i64 n)) (by omega), ?_⟩ | refine ⟨congrArg (fun l => some (Row.row 1 l)) (by simp [int1, num, tru]), ?_⟩)⟩)
          · have hn : ¬ bornB f y := fun e => (hb.1 e).2.elim h2 fun e => h3 e.1
            refine go 1000 Tryd.func48 ?_
            repeat' first | (refine Br.t ?_ ?_; focus (first | (simp; omega) | exact h1)) | (refine Br.f ?_ ?_; focus (first | (simp; done) | (simpa using h2) | (simpa using h3))) | refine Need.mk ⟨by omega, by rw [List.length_map]; omega⟩ ?_ | refine PickN.map gy ?_ | refine Call.eq hW rfl ?_ | refine Len.map ?_ | refine Len.nil ?_ | refine Len.cons ?_ | refine Br.t rfl ?_ | refine Br.f rfl ?_ | refine Fit.au ?_ | refine Cv.au ?_ | refine Need.ne ?_ | refine Need.au ?_ | refine Pick.map (by assumption) ?_ | refine Pick.mapI (by omega) (by assumption) ?_ | refine PickN.mk _ (by assumption) ?_ | refine PickN.mk _ rfl ?_ | refine PickN.au ?_ | refine App.au rfl ?_ | refine App.au (own_map (fun _ => rfl) _) ?_ | refine Both.mk ?_ ?_ | exact True.intro
            exact Stop.mk (ih (k + 1) (g := []) _ _ _ ⟨by omega, fin hn⟩ (by omega) ⟨rfl, (by repeat' first | exact trivial | refine ⟨rfl, ?_⟩ | refine ⟨congrArg (fun n => AV.lit (.int .i64 n)) (by omega), ?_⟩ | refine ⟨congrArg (fun l => some (Row.row 1 l)) (by simp [int1, num, tru]), ?_⟩), (by repeat' first | exact trivial | refine ⟨rfl, ?_⟩ | refine ⟨congrArg (fun n => AV.lit (.int .i64 n)) (by omega), ?_⟩ | refine ⟨congrArg (fun l => some (Row.row 1 l)) (by simp [int1, num, tru]), ?_⟩)⟩)
      · have hn : ¬ bornB f y := fun e => h1 (hb.1 e).1
        refine go 1000 Tryd.func48 ?_
        repeat' first | (refine Br.t ?_ ?_; focus (simp; omega)) | (refine Br.f ?_ ?_; focus (first | (simp; done) | simpa using h1)) | refine Need.mk ⟨by omega, by rw [List.length_map]; omega⟩ ?_ | refine PickN.map gy ?_ | refine Call.eq hW rfl ?_ | refine Len.map ?_ | refine Len.nil ?_ | refine Len.cons ?_ | refine Br.t rfl ?_ | refine Br.f rfl ?_ | refine Fit.au ?_ | refine Cv.au ?_ | refine Need.ne ?_ | refine Need.au ?_ | refine Pick.map (by assumption) ?_ | refine Pick.mapI (by omega) (by assumption) ?_ | refine PickN.mk _ (by assumption) ?_ | refine PickN.mk _ rfl ?_ | refine PickN.au ?_ | refine App.au rfl ?_ | refine App.au (own_map (fun _ => rfl) _) ?_ | refine Both.mk ?_ ?_ | exact True.intro
        exact Stop.mk (ih (k + 1) (g := []) _ _ _ ⟨by omega, fin hn⟩ (by omega) ⟨rfl, (by repeat' first | exact trivial | refine ⟨rfl, ?_⟩ | refine ⟨congrArg (fun n => AV.lit (.int .i64 n)) (by omega), ?_⟩ | refine ⟨congrArg (fun l => some (Row.row 1 l)) (by simp [int1, num, tru]), ?_⟩), (by repeat' first | exact trivial | refine ⟨rfl, ?_⟩ | refine ⟨congrArg (fun n => AV.lit (.int .i64 n)) (by omega), ?_⟩ | refine ⟨congrArg (fun l => some (Row.row 1 l)) (by simp [int1, num, tru]), ?_⟩)⟩)
    · obtain rfl : k = l.length := by omega
      have hn : ¬ bornP f x := fun e => by
        obtain ⟨y, hy, hb⟩ := hbp.1 e
        obtain ⟨m, hm⟩ := List.getElem?_of_mem hy
        exact hk2 m y (List.getElem?_eq_some_iff.1 hm).1 hm hb
      refine go 1000 Tryd.func48 ?_
      repeat' first | (refine Br.f ?_ ?_; focus (simp; done)) | refine Len.map ?_ | refine Len.nil ?_ | refine Len.cons ?_ | refine Br.t rfl ?_ | refine Br.f rfl ?_ | refine Fit.au ?_ | refine Cv.au ?_ | refine Need.ne ?_ | refine Need.au ?_ | refine Pick.map (by assumption) ?_ | refine Pick.mapI (by omega) (by assumption) ?_ | refine PickN.mk _ (by assumption) ?_ | refine PickN.mk _ rfl ?_ | refine PickN.au ?_ | refine App.au rfl ?_ | refine App.au (own_map (fun _ => rfl) _) ?_ | refine Both.mk ?_ ?_ | exact True.intro
      rw [decide_eq_false hn]; rfl
  · have hn : ¬ bornP f x := fun e => by
      obtain ⟨y, hy, _⟩ := hbp.1 e
      rw [he] at hy; cases hy
    refine ⟨rfl, ?_⟩
    repeat' first | refine Len.map ?_ | refine Len.nil ?_ | refine Len.cons ?_ | refine Br.t rfl ?_ | refine Br.f rfl ?_ | refine Fit.au ?_ | refine Cv.au ?_ | refine Need.ne ?_ | refine Need.au ?_ | refine Pick.map (by assumption) ?_ | refine Pick.mapI (by omega) (by assumption) ?_ | refine PickN.mk _ (by assumption) ?_ | refine PickN.mk _ rfl ?_ | refine PickN.au ?_ | refine App.au rfl ?_ | refine App.au (own_map (fun _ => rfl) _) ?_ | refine Both.mk ?_ ?_ | exact True.intro
    refine Stop.mk (run_loop ?_)
    refine go 1000 Tryd.func48 ?_
    repeat' first | refine Len.map ?_ | refine Len.nil ?_ | refine Len.cons ?_ | refine Br.t rfl ?_ | refine Br.f rfl ?_ | refine Fit.au ?_ | refine Cv.au ?_ | refine Need.ne ?_ | refine Need.au ?_ | refine Pick.map (by assumption) ?_ | refine Pick.mapI (by omega) (by assumption) ?_ | refine PickN.mk _ (by assumption) ?_ | refine PickN.mk _ rfl ?_ | refine PickN.au ?_ | refine App.au rfl ?_ | refine App.au (own_map (fun _ => rfl) _) ?_ | refine Both.mk ?_ ?_ | exact True.intro
    rw [decide_eq_false hn]; rfl
end Go.Proofs.YtdgibhndjdgllaaDoor

/- The numbers in a word, from the least one on. No program is in sight here. -/
namespace Go.Proofs.YtdgibhndjdgllaaDoor
open Go.Ax
/-- The numbers of a word. -/
def wordL (w : W) : List Nat := (List.range 64).filter fun i => w.getLsbD i
/-- The least one. -/
theorem low_bit {w : W} (h : w ≠ 0) : ∃ k m, k < 64 ∧ w.toNat = 2 ^ k * (2 * m + 1) := by
  have key : ∀ n : Nat, 0 < n → ∃ k m, n = 2 ^ k * (2 * m + 1) := by
    intro n
    induction n using Nat.strongRecOn with
    | _ n ih =>
      intro hn
      rcases Nat.mod_two_eq_zero_or_one n with e | e
      · obtain ⟨k, m, hk⟩ := ih (n / 2) (by omega) (by omega)
        refine ⟨k + 1, m, ?_⟩
        rw [Nat.pow_succ, Nat.mul_comm (2 ^ k) 2, Nat.mul_assoc, ← hk]; omega
      · exact ⟨0, n / 2, by rw [Nat.pow_zero]; omega⟩
  have hn : 0 < w.toNat := Nat.pos_of_ne_zero fun e => h (BitVec.eq_of_toNat_eq (by simpa using e))
  obtain ⟨k, m, hk⟩ := key _ hn
  refine ⟨k, m, ?_, hk⟩
  have h1 := w.isLt
  rcases Nat.lt_or_ge k 64 with h2 | h2
  · exact h2
  · have h3 : 2 ^ 64 ≤ 2 ^ k := Nat.pow_le_pow_right (by decide) h2
    have h4 : 2 ^ k ≤ 2 ^ k * (2 * m + 1) := Nat.le_mul_of_pos_right _ (by omega)
    omega
theorem bits_low {k m i : Nat} : (2 ^ k * (2 * m + 1)).testBit i = (decide (i = k) || (decide (k < i) && (2 * m + 1).testBit (i - k))) := by
  have h := Nat.testBit_two_pow_mul_add (2 * m + 1) (b := 0) (Nat.two_pow_pos k) i
  rw [Nat.add_zero] at h
  rw [h]
  by_cases h1 : i < k
  · rw [if_pos h1]
    have e1 : decide (i = k) = false := decide_eq_false (by omega)
    have e2 : decide (k < i) = false := decide_eq_false (by omega)
    rw [e1, e2]; simp
  · rw [if_neg h1]
    by_cases h2 : i = k
    · subst h2; simp
    · have e1 : decide (i = k) = false := decide_eq_false h2
      have e2 : decide (k < i) = true := decide_eq_true (by omega)
      rw [e1, e2]; simp
/-- Without the least one. -/
theorem bits_less {k m i : Nat} : (2 ^ k * (2 * m + 1) - 1).testBit i = (decide (i < k) || (decide (k < i) && (2 * m + 1).testBit (i - k))) := by
  have e : 2 ^ k * (2 * m + 1) - 1 = 2 ^ k * (2 * m) + (2 ^ k - 1) := by
    have := Nat.two_pow_pos k
    rw [Nat.mul_add, Nat.mul_one]; omega
  have h := Nat.testBit_two_pow_mul_add (2 * m) (b := 2 ^ k - 1) (by have := Nat.two_pow_pos k; omega) (i := k) i
  rw [e, h]
  by_cases h1 : i < k
  · rw [if_pos h1, Nat.testBit_two_pow_sub_one]; simp [h1]
  · rw [if_neg h1]
    have e1 : decide (i < k) = false := decide_eq_false h1
    rw [e1, Bool.false_or]
    by_cases h2 : i = k
    · subst h2; simp
    · have e2 : decide (k < i) = true := decide_eq_true (by omega)
      rw [e2, Bool.true_and]
      obtain ⟨d, hd⟩ : ∃ d, i - k = d + 1 := ⟨i - k - 1, by omega⟩
      rw [hd, Nat.testBit_succ, Nat.testBit_succ]
      congr 1; omega
theorem word_next {w : W} {k m : Nat} (hk : k < 64) (hw : w.toNat = 2 ^ k * (2 * m + 1)) {i : Nat} (hi : i < 64) : (w &&& (w - 1)).getLsbD i = (w.getLsbD i && !decide (i = k)) := by
  have h1 : w.getLsbD i = w.toNat.testBit i := rfl
  have h2 : (w - 1).getLsbD i = (w.toNat - 1).testBit i := by
    have hp : 0 < w.toNat := by rw [hw]; exact Nat.mul_pos (Nat.two_pow_pos k) (by omega)
    have : (w - 1).toNat = w.toNat - 1 := by
      rw [BitVec.toNat_sub_of_le (by rw [BitVec.le_def]; exact hp)]; rfl
    show (w - 1).toNat.testBit i = _
    rw [this]
  rw [BitVec.getLsbD_and, h1, h2, hw, bits_low, bits_less]
  by_cases e1 : i = k
  · subst e1; simp
  · by_cases e2 : k < i
    · have e3 : decide (i < k) = false := decide_eq_false (by omega)
      simp [e1, e2, e3]
    · have e3 : decide (i < k) = true := decide_eq_true (by omega)
      simp [e1, e2, e3]
theorem word_bit {w : W} {k m : Nat} (hk : k < 64) (hw : w.toNat = 2 ^ k * (2 * m + 1)) : w.getLsbD k = true ∧ ∀ i, i < k → w.getLsbD i = false := by
  have h1 : ∀ i, w.getLsbD i = w.toNat.testBit i := fun _ => rfl
  refine ⟨by rw [h1, hw, bits_low]; simp, fun i hi => ?_⟩
  rw [h1, hw, bits_low]
  have e1 : decide (i = k) = false := decide_eq_false (by omega)
  have e2 : decide (k < i) = false := decide_eq_false (by omega)
  rw [e1, e2]; simp
theorem filter_least {p q : Nat → Bool} {k : Nat} : ∀ {n : Nat} {s : Nat}, s ≤ k → k < s + n → p k = true → (∀ i, i < k → p i = false) → (∀ i, i < s + n → q i = (p i && !decide (i = k))) → (List.range' s n).filter p = k :: (List.range' s n).filter q
  | 0, s, h1, h2, _, _, _ => by omega
  | n + 1, s, h1, h2, hp, hl, hq => by
    rw [List.range'_succ]
    by_cases e : s = k
    · subst e
      have hqs : q s = false := by rw [hq s (by omega)]; simp
      rw [List.filter_cons_of_pos hp, List.filter_cons_of_neg (by rw [hqs]; simp)]
      congr 1
      refine List.filter_congr fun i hi => ?_
      have hi := List.mem_range'_1.1 hi
      rw [hq i (by omega)]
      have : decide (i = s) = false := decide_eq_false (by omega)
      rw [this]; simp
    · have hps : p s = false := hl s (by omega)
      have hqs : q s = false := by rw [hq s (by omega), hps]; simp
      rw [List.filter_cons_of_neg (by rw [hps]; simp), List.filter_cons_of_neg (by rw [hqs]; simp)]
      exact filter_least (by omega) (by omega) hp hl fun i hi => hq i (by omega)
theorem wordL_next {w : W} {k m : Nat} (hk : k < 64) (hw : w.toNat = 2 ^ k * (2 * m + 1)) : wordL w = k :: wordL (w &&& (w - 1)) := by
  unfold wordL
  rw [List.range_eq_range']
  obtain ⟨h1, h2⟩ := word_bit hk hw
  exact filter_least (Nat.zero_le _) (by omega) h1 h2 fun i hi => word_next hk hw (by omega)
theorem wordL_zero : wordL 0 = [] := by
  unfold wordL
  rw [List.filter_eq_nil_iff]
  intro i _
  simp
end Go.Proofs.YtdgibhndjdgllaaDoor

/- The numbers in a set, from the least one on; where a table tells a word's least one. No program is in sight here. -/
namespace Go.Proofs.YtdgibhndjdgllaaDoor
open Go.Ax
def nums (i : Nat) (w : W) : List Int := (wordL w).map fun b => ((64 * i + b : Nat) : Int)
def listN (s : List W) (n : Nat) : List Int := (List.range n).flatMap fun i => nums i (s.getD i 0)
def listW (s : List W) : List Int := listN s s.length
theorem listN_succ (s : List W) (n : Nat) : listN s (n + 1) = listN s n ++ nums n (s.getD n 0) := by
  unfold listN; rw [List.range_succ, List.flatMap_append]; simp
theorem listN_eq (s : List W) (n : Nat) : listN s n = ((List.range (64 * n)).filter fun q => hasW s q).map fun (q : Nat) => (q : Int) := by
  induction n with
  | zero => rfl
  | succ n ih =>
    rw [listN_succ, ih, show 64 * (n + 1) = 64 * n + 64 by omega, List.range_add, List.filter_append, List.map_append]
    congr 1
    unfold nums wordL
    rw [List.filter_map, List.map_map]
    have : ((fun q => hasW s q) ∘ fun x => 64 * n + x) = fun x => hasW s (64 * n + x) := rfl
    rw [this]
    have e : (List.range 64).filter (fun x => hasW s (64 * n + x)) = (List.range 64).filter fun i => (s.getD n 0).getLsbD i := by
      refine List.filter_congr fun i hi => ?_
      have hi := List.mem_range.1 hi
      unfold hasW
      rw [show (64 * n + i) / 64 = n by omega, show (64 * n + i) % 64 = i by omega]
    rw [e]; rfl
theorem listN_len (s : List W) (n : Nat) : (listN s n).length ≤ 64 * n := by
  rw [listN_eq, List.length_map]
  have := List.length_filter_le (fun q => hasW s q) (List.range (64 * n))
  rw [List.length_range] at this; exact this
/-- Where the table tells it. -/
def deJ (x : W) : Int := (IntKind.u64.wrap (IntKind.u64.wrap (x.toNat : Int) * 285870213051353865)).fdiv (2 ^ min (Int.toNat 58) IntKind.u64.bits)
theorem least_and {w : W} {k m : Nat} (hk : k < 64) (hw : w.toNat = 2 ^ k * (2 * m + 1)) : w &&& (0 - w) = bitW k := by
  obtain ⟨h1, h2⟩ := word_bit hk hw
  refine BitVec.eq_of_getLsbD_eq fun i hi => ?_
  rw [show (0 : W) - w = -w from BitVec.zero_sub w, BitVec.getLsbD_and, BitVec.getLsbD_neg, bitW_at hi, Nat.mod_eq_of_lt hk]
  by_cases e1 : i = k
  · subst e1
    have : ¬ ∃ j, j < i ∧ w.getLsbD j = true := fun ⟨j, hj, hb⟩ => by rw [h2 j hj] at hb; cases hb
    simp [h1, hi, this]
  · by_cases e2 : i < k
    · simp [h2 i e2, e1]
    · have : ∃ j, j < i ∧ w.getLsbD j = true := ⟨k, by omega, h1⟩
      simp [hi, this, e1]
theorem deJ_range : ∀ k : Fin 64, 0 ≤ deJ (bitW k.val) ∧ deJ (bitW k.val) < 64 := by decide +kernel
end Go.Proofs.YtdgibhndjdgllaaDoor

/- The numbers of a set as a list, in line, where the table is laid. -/
namespace Go.Proofs.YtdgibhndjdgllaaDoor
open Go.Ax
set_option maxRecDepth 10000
set_option linter.unusedVariables false
set_option maxHeartbeats 0

theorem negI (w : W) : BitVec.ofInt 64 (IntKind.u64.wrap (0 - (w.toNat : Int))) = (0 - w : BitVec 64) := by
  refine BitVec.eq_of_toNat_eq ?_
  have hw : IntKind.u64.wrap (0 - (w.toNat : Int)) = (0 - (w.toNat : Int)) % 18446744073709551616 := rfl
  have hlt := w.isLt
  rw [hw, BitVec.toNat_ofInt, BitVec.toNat_sub]
  have h0 : (0 : W).toNat = 0 := rfl
  rw [h0]
  omega
theorem subI {w : W} (h : w ≠ 0) : IntKind.u64.wrap ((w.toNat : Int) - 1) = ((w - 1).toNat : Int) := by
  have h0 : 0 < w.toNat := Nat.pos_of_ne_zero fun e => h (BitVec.eq_of_toNat_eq (by simpa using e))
  have e : (w - 1).toNat = w.toNat - 1 := by
    rw [BitVec.toNat_sub_of_le (by rw [BitVec.le_def]; exact h0)]; rfl
  rw [e, wrap_u64 (by omega) (by have := w.isLt; omega)]
  omega
/-- Where the table tells how many zeros a word ends in. -/
def deE (w : W) : Int := ((IntKind.u64.wrap
          (IntKind.u64.wrap
              ((BitVec.ofInt IntKind.u64.bits (w.toNat : Int) &&&
                    BitVec.ofInt IntKind.u64.bits (IntKind.u64.wrap (0 - (w.toNat : Int)))).toNat : Int) *
            285870213051353865)).fdiv
      (2 ^ min (Int.toNat 58) IntKind.u64.bits))
theorem deE_eq (w : W) : deE w = deJ (w &&& (0 - w)) := by
  have e := negI w
  unfold deE deJ
  rw [ofI]
  show (IntKind.u64.wrap (IntKind.u64.wrap ((w &&& BitVec.ofInt 64 (IntKind.u64.wrap (0 - (w.toNat : Int)))).toNat : Int) * 285870213051353865)).fdiv _ = _
  rw [e]
theorem subW {w : W} (h : w ≠ 0) : IntKind.u64.wrap ((BitVec.ofInt IntKind.u64.bits (w.toNat : Int) &&& BitVec.ofInt IntKind.u64.bits (IntKind.u64.wrap ((w.toNat : Int) - 1))).toNat : Int) = ((w &&& (w - 1)).toNat : Int) := by
  rw [subI h, andI]
theorem toNat_zero {w : W} : ((w.toNat : Int) = 0) ↔ w = 0 := by
  constructor
  · intro h; exact BitVec.eq_of_toNat_eq (by simpa using h)
  · rintro rfl; rfl
theorem nums_next {w : W} {k m i : Nat} (hk : k < 64) (hw : w.toNat = 2 ^ k * (2 * m + 1)) : nums i w = ((64 * i + k : Nat) : Int) :: nums i (w &&& (w - 1)) := by
  unfold nums; rw [wordL_next hk hw]; rfl
theorem List28_run (s : List W) (hs : s.length ≤ 1024) (vs : List Value) (hv : ∀ k, k < 64 → vs[(deJ (bitW k)).toNat]? = some (.int .u8 k)) :
    Run Tryd.prog 28 (Post.one fun r => r = .osl 1 ((listW s).map int1)) [.code (Tryd.f28.body.getD .skip)] ⟨slots 0 [sets s], [(0, .tab 0 vs)], 1, Tryd.f28.ntmps⟩ := by
  refine go 8 Tryd.func28 ?_
  repeat' first | refine Len.map ?_ | refine Len.nil ?_ | refine Len.cons ?_ | refine Br.t rfl ?_ | refine Br.f rfl ?_ | refine Fit.au ?_ | refine Cv.au ?_ | refine Need.ne ?_ | refine Need.au ?_ | refine Pick.map (by assumption) ?_ | refine Pick.mapI (by omega) (by assumption) ?_ | refine PickN.mk _ (by assumption) ?_ | refine PickN.mk _ rfl ?_ | refine PickN.au ?_ | refine App.au rfl ?_ | refine App.au (own_map (fun _ => rfl) _) ?_ | refine Both.mk ?_ ?_ | exact True.intro
  refine Stop.mk (run_nilT 3 1 rfl ?_)
  refine go 1000 Tryd.func28 ?_
  repeat' first | refine Len.map ?_ | refine Len.nil ?_ | refine Len.cons ?_ | refine Br.t rfl ?_ | refine Br.f rfl ?_ | refine Fit.au ?_ | refine Cv.au ?_ | refine Need.ne ?_ | refine Need.au ?_ | refine Pick.map (by assumption) ?_ | refine Pick.mapI (by omega) (by assumption) ?_ | refine PickN.mk _ (by assumption) ?_ | refine PickN.mk _ rfl ?_ | refine PickN.au ?_ | refine App.au rfl ?_ | refine App.au (own_map (fun _ => rfl) _) ?_ | refine Both.mk ?_ ?_ | exact True.intro
  refine Stop.mk (loop_in (g := []) (fun i : Nat => [(0, sets s), (3, .hw 1), (7, num s.length), (8, num i)]) (fun i => [(1, .row 1 ((listN s i).map int1)), (0, .tab 0 vs)]) 2 (fun i => i ≤ s.length) (fun i => s.length - i) 0 (Nat.zero_le _) ⟨rfl, (by repeat' first | exact trivial | refine ⟨rfl, ?_⟩ | refine ⟨congrArg (fun n => AV.lit (.int .i64 n)) (by omega), ?_⟩ | refine ⟨congrArg (fun l => some (Row.row 1 l)) (by simp [int1, num, tru]), ?_⟩), (by repeat' first | exact trivial | refine ⟨rfl, ?_⟩ | refine ⟨congrArg (fun n => AV.lit (.int .i64 n)) (by omega), ?_⟩ | refine ⟨congrArg (fun l => some (Row.row 1 l)) (by simp [int1, num, tru]), ?_⟩)⟩ (fun i hi ih => ?_))
  by_cases hil : i < s.length
  · obtain ⟨w, gw, -⟩ := getK (l := s) (k := i) hil
    have ew : s.getD i 0 = w := by rw [List.getD_eq_getElem?_getD, gw]; rfl
    have hll := listN_len s (i + 1)
    have hsu := listN_succ s i
    rw [ew] at hsu
    refine go 1000 Tryd.func28 ?_
    repeat' first | (refine Br.t ?_ ?_; focus (simp; omega)) | refine Pick.map gw ?_ | refine Len.map ?_ | refine Len.nil ?_ | refine Len.cons ?_ | refine Br.t rfl ?_ | refine Br.f rfl ?_ | refine Fit.au ?_ | refine Cv.au ?_ | refine Need.ne ?_ | refine Need.au ?_ | refine Pick.map (by assumption) ?_ | refine Pick.mapI (by omega) (by assumption) ?_ | refine PickN.mk _ (by assumption) ?_ | refine PickN.mk _ rfl ?_ | refine PickN.au ?_ | refine App.au rfl ?_ | refine App.au (own_map (fun _ => rfl) _) ?_ | refine Both.mk ?_ ?_ | exact True.intro
    refine Stop.mk (loop_in (g := []) (fun z : W × List Int => [(0, sets s), (3, .hw 1), (7, num s.length), (8, num i), (4, num i), (5, w64 z.1)]) (fun z => [(1, .row 1 (z.2.map int1)), (0, .tab 0 vs)]) 2 (fun z => z.2 ++ nums i z.1 = listN s (i + 1)) (fun z => (wordL z.1).length) (w, listN s i) hsu.symm ⟨rfl, (by repeat' first | exact trivial | refine ⟨rfl, ?_⟩ | refine ⟨congrArg (fun n => AV.lit (.int .i64 n)) (by omega), ?_⟩ | refine ⟨congrArg (fun l => some (Row.row 1 l)) (by simp [int1, num, tru]), ?_⟩), (by repeat' first | exact trivial | refine ⟨rfl, ?_⟩ | refine ⟨congrArg (fun n => AV.lit (.int .i64 n)) (by omega), ?_⟩ | refine ⟨congrArg (fun l => some (Row.row 1 l)) (by simp [int1, num, tru]), ?_⟩)⟩ ?_)
    rintro ⟨u, out⟩ hz ih2
    dsimp only at hz ih2 ⊢
    have hol : out.length ≤ 64 * (i + 1) := by rw [← hz, List.length_append] at hll; omega
    by_cases hu : u = 0
    · subst hu
      have e1 : out = listN s (i + 1) := by rw [← hz]; unfold nums; rw [wordL_zero]; simp
      subst e1
      refine go 1000 Tryd.func28 ?_
      repeat' first | refine Len.map ?_ | refine Len.nil ?_ | refine Len.cons ?_ | refine Br.t rfl ?_ | refine Br.f rfl ?_ | refine Fit.au ?_ | refine Cv.au ?_ | refine Need.ne ?_ | refine Need.au ?_ | refine Pick.map (by assumption) ?_ | refine Pick.mapI (by omega) (by assumption) ?_ | refine PickN.mk _ (by assumption) ?_ | refine PickN.mk _ rfl ?_ | refine PickN.au ?_ | refine App.au rfl ?_ | refine App.au (own_map (fun _ => rfl) _) ?_ | refine Both.mk ?_ ?_ | exact True.intro
      exact Stop.mk (ih (i + 1) (g := []) _ _ _ (by omega) (by omega) ⟨rfl, (by repeat' first | exact trivial | refine ⟨rfl, ?_⟩ | refine ⟨congrArg (fun n => AV.lit (.int .i64 n)) (by omega), ?_⟩ | refine ⟨congrArg (fun l => some (Row.row 1 l)) (by simp [int1, num, tru]), ?_⟩), (by repeat' first | exact trivial | refine ⟨rfl, ?_⟩ | refine ⟨congrArg (fun n => AV.lit (.int .i64 n)) (by omega), ?_⟩ | refine ⟨congrArg (fun l => some (Row.row 1 l)) (by simp [int1, num, tru]), ?_⟩)⟩)
    · obtain ⟨k, m, hk, hw⟩ := low_bit hu
      have hu0 : ¬ ((u.toNat : Int) = 0) := fun e => hu (toNat_zero.1 e)
      have hde : deE u = deJ (bitW k) := by rw [deE_eq, least_and hk hw]
      have hrg := deJ_range ⟨k, hk⟩
      have hi0 : 0 ≤ deE u := by rw [hde]; exact hrg.1
      have hi1 : deE u < ((64 : Nat) : Int) := by rw [hde]; exact hrg.2
      have hi2 : vs[(deE u).toNat]? = some (.int .u8 k) := by rw [hde]; exact hv k hk
      have hnx := nums_next (i := i) hk hw
      have hlt : (wordL (u &&& (u - 1))).length < (wordL u).length := by rw [wordL_next hk hw]; simp
      have hsub := subW hu
      have ek : ((64 * i + k : Nat) : Int) = (i : Int) * 64 + (k : Int) := by omega
      have ih2' := @ih2 (u &&& (u - 1), out ++ [(i : Int) * 64 + (k : Int)])
      dsimp only at ih2'
      unfold w64 at ih2'
      rw [← hsub] at ih2'
      refine go 15 Tryd.func28 ?_
      repeat' first | refine Br.t (congrArg not (decide_eq_false hu0)) ?_ | refine Len.map ?_ | refine Len.nil ?_ | refine Len.cons ?_ | refine Br.t rfl ?_ | refine Br.f rfl ?_ | refine Fit.au ?_ | refine Cv.au ?_ | refine Need.ne ?_ | refine Need.au ?_ | refine Pick.map (by assumption) ?_ | refine Pick.mapI (by omega) (by assumption) ?_ | refine PickN.mk _ (by assumption) ?_ | refine PickN.mk _ rfl ?_ | refine PickN.au ?_ | refine App.au rfl ?_ | refine App.au (own_map (fun _ => rfl) _) ?_ | refine Both.mk ?_ ?_ | exact True.intro
      refine Stop.mk ?_
      refine run_inlC rfl want_none rfl rfl rfl rfl rfl rfl rfl (goI 1000 Tryd.func59 ?_)
      repeat' first | refine Br.f (decide_eq_false hu0) ?_ | refine Need.mk (by decide) ?_ | refine Len.map ?_ | refine Len.nil ?_ | refine Len.cons ?_ | refine Br.t rfl ?_ | refine Br.f rfl ?_ | refine Fit.au ?_ | refine Cv.au ?_ | refine Need.ne ?_ | refine Need.au ?_ | refine Pick.map (by assumption) ?_ | refine Pick.mapI (by omega) (by assumption) ?_ | refine PickN.mk _ (by assumption) ?_ | refine PickN.mk _ rfl ?_ | refine PickN.au ?_ | refine App.au rfl ?_ | refine App.au (own_map (fun _ => rfl) _) ?_ | refine Both.mk ?_ ?_ | exact True.intro
      refine Stop.mk (run_op rfl want_none rfl (rd_neg rfl rfl).ok ?_)
      refine goI 1000 Tryd.func59 ?_
      repeat' first | refine Cv.wr ?_ | refine Need.mk (by decide) ?_ | refine Len.map ?_ | refine Len.nil ?_ | refine Len.cons ?_ | refine Br.t rfl ?_ | refine Br.f rfl ?_ | refine Fit.au ?_ | refine Cv.au ?_ | refine Need.ne ?_ | refine Need.au ?_ | refine Pick.map (by assumption) ?_ | refine Pick.mapI (by omega) (by assumption) ?_ | refine PickN.mk _ (by assumption) ?_ | refine PickN.mk _ rfl ?_ | refine PickN.au ?_ | refine App.au rfl ?_ | refine App.au (own_map (fun _ => rfl) _) ?_ | refine Both.mk ?_ ?_ | exact True.intro
      refine Stop.mk (run_op rfl want_none rfl (rd_indexTab (n := deE u) (id := 0) (e := 5) (len := 64) (v := .int .u8 k) rfl rfl (TyT.find_ok (HasT.ok (P := Tryd.prog)) (t := 5) rfl) rfl rfl rfl hi0 hi1 hi2).ok ?_)
      refine goI 1000 Tryd.func59 ?_
      repeat' first | refine Len.map ?_ | refine Len.nil ?_ | refine Len.cons ?_ | refine Br.t rfl ?_ | refine Br.f rfl ?_ | refine Fit.au ?_ | refine Cv.au ?_ | refine Need.ne ?_ | refine Need.au ?_ | refine Pick.map (by assumption) ?_ | refine Pick.mapI (by omega) (by assumption) ?_ | refine PickN.mk _ (by assumption) ?_ | refine PickN.mk _ rfl ?_ | refine PickN.au ?_ | refine App.au rfl ?_ | refine App.au (own_map (fun _ => rfl) _) ?_ | refine Both.mk ?_ ?_ | exact True.intro
      refine go 1000 Tryd.func28 ?_
      repeat' first | refine Cv.wr ?_ | refine Len.map ?_ | refine Len.nil ?_ | refine Len.cons ?_ | refine Br.t rfl ?_ | refine Br.f rfl ?_ | refine Fit.au ?_ | refine Cv.au ?_ | refine Need.ne ?_ | refine Need.au ?_ | refine Pick.map (by assumption) ?_ | refine Pick.mapI (by omega) (by assumption) ?_ | refine PickN.mk _ (by assumption) ?_ | refine PickN.mk _ rfl ?_ | refine PickN.au ?_ | refine App.au rfl ?_ | refine App.au (own_map (fun _ => rfl) _) ?_ | refine Both.mk ?_ ?_ | exact True.intro
      refine Stop.mk (ih2' (g := [(1, 3)]) _ _ _ (by rw [← hz, hnx, ek]; simp) hlt ⟨rfl, (by repeat' first | exact trivial | refine ⟨rfl, ?_⟩ | refine ⟨congrArg (fun n => AV.lit (.int .i64 n)) (by omega), ?_⟩ | refine ⟨congrArg (fun l => some (Row.row 1 l)) (by simp [int1, num, tru]), ?_⟩), (by repeat' first | exact trivial | refine ⟨rfl, ?_⟩ | refine ⟨congrArg (fun n => AV.lit (.int .i64 n)) (by omega), ?_⟩ | refine ⟨congrArg (fun l => some (Row.row 1 l)) (by simp [int1, num, tru]), ?_⟩)⟩)
  · obtain rfl : i = s.length := by omega
    refine go 1000 Tryd.func28 ?_
    repeat' first | (refine Br.f ?_ ?_; focus (simp; done)) | refine Len.map ?_ | refine Len.nil ?_ | refine Len.cons ?_ | refine Br.t rfl ?_ | refine Br.f rfl ?_ | refine Fit.au ?_ | refine Cv.au ?_ | refine Need.ne ?_ | refine Need.au ?_ | refine Pick.map (by assumption) ?_ | refine Pick.mapI (by omega) (by assumption) ?_ | refine PickN.mk _ (by assumption) ?_ | refine PickN.mk _ rfl ?_ | refine PickN.au ?_ | refine App.au rfl ?_ | refine App.au (own_map (fun _ => rfl) _) ?_ | refine Both.mk ?_ ?_ | exact True.intro
    rfl
end Go.Proofs.YtdgibhndjdgllaaDoor

/- nils.Facts.At, by a contract where the table is laid. -/
namespace Go.Proofs.YtdgibhndjdgllaaDoor
open Go.Ax
set_option maxRecDepth 10000
set_option linter.unusedVariables false
set_option maxHeartbeats 0

theorem List28_specT (s : List W) (hs : s.length ≤ 1024) (vs : List Value) (hv : ∀ k, k < 64 → vs[(deJ (bitW k)).toNat]? = some (.int .u8 k)) : FnSpecT Tryd.prog [(0, vs)] 28 [sets s] (fun r => r = .osl 1 ((listW s).map int1)) :=
  specT_of_run 0 vs Tryd.func28 rfl rfl rfl (List28_run s hs vs hv)
def atB (f : Fun) (r : Int) : Bool := decide (f.regs.getD r.toNat 0 = 3 ∧ (newF f).root r = r)
theorem filter_take {α : Type} {p : α → Bool} {l : List α} {k : Nat} {x : α} (h : l[k]? = some x) : (l.take (k + 1)).filter p = (l.take k).filter p ++ (if p x then [x] else []) := by
  obtain ⟨hk, rfl⟩ := List.getElem?_eq_some_iff.1 h
  rw [List.take_succ_eq_append_getElem hk, List.filter_append]
  congr 1
  cases hp : p l[k] with
  | true => rw [if_pos rfl, List.filter_cons_of_pos hp]; rfl
  | false => rw [if_neg (by simp), List.filter_cons_of_neg (by simp [hp])]; rfl
theorem At23_specT (f : Fun) (L : List Bool) (F : List (List W)) (hreg : f.regs.length ≤ 100) (k : Nat) (s : List W) (gF : F[k]? = some s) (hF : F.length ≤ 65536) (hL : L[k]? = some true) (hs : s.length ≤ 1024) (hb : ∀ r ∈ listW s, 0 ≤ r ∧ r < f.regs.length) (vs : List Value) (hv : ∀ k, k < 64 → vs[(deJ (bitW k)).toNat]? = some (.int .u8 k)) :
    FnSpecT Tryd.prog [(0, vs)] 23 [factA f L F, num k] (fun r => r = .osl 1 (((listW s).filter (atB f)).map int1)) := by
  obtain ⟨hk, -⟩ := List.getElem?_eq_some_iff.1 gF
  have hK := known47_yes f L F k hk hF hL
  have hLi := List28_specT s hs vs hv
  have hll := listN_len s s.length
  have hR := fun x => Root_spec (newF f) x (by rw [newF_len]; omega)
  refine specT_of_run 0 vs Tryd.func23 rfl rfl rfl ?_
  refine go 18 Tryd.func23 ?_
  repeat' first | refine Call.eq hK rfl ?_ | refine Len.map ?_ | refine Len.nil ?_ | refine Len.cons ?_ | refine Br.t rfl ?_ | refine Br.f rfl ?_ | refine Fit.au ?_ | refine Cv.au ?_ | refine Need.ne ?_ | refine Need.au ?_ | refine Pick.map (by assumption) ?_ | refine Pick.mapI (by omega) (by assumption) ?_ | refine PickN.mk _ (by assumption) ?_ | refine PickN.mk _ rfl ?_ | refine PickN.au ?_ | refine App.au rfl ?_ | refine App.au (own_map (fun _ => rfl) _) ?_ | refine Both.mk ?_ ?_ | exact True.intro
  refine Stop.mk (run_nilT 5 1 rfl ?_)
  refine go 1000 Tryd.func23 ?_
  repeat' first | refine Pick.map gF ?_ | refine Call.eqT hLi rfl ?_ | refine Len.map ?_ | refine Len.nil ?_ | refine Len.cons ?_ | refine Br.t rfl ?_ | refine Br.f rfl ?_ | refine Fit.au ?_ | refine Cv.au ?_ | refine Need.ne ?_ | refine Need.au ?_ | refine Pick.map (by assumption) ?_ | refine Pick.mapI (by omega) (by assumption) ?_ | refine PickN.mk _ (by assumption) ?_ | refine PickN.mk _ rfl ?_ | refine PickN.au ?_ | refine App.au rfl ?_ | refine App.au (own_map (fun _ => rfl) _) ?_ | refine Both.mk ?_ ?_ | exact True.intro
  have hll2 : (listW s).length ≤ 65536 := by unfold listW; omega
  generalize listW s = l at *
  refine Stop.mk (loop_in (g := []) (fun j : Nat => [(0, factA f L F), (5, .hw 1), (19, .hw 2), (20, num l.length), (21, num j)]) (fun j => [(2, .row 1 (l.map int1)), (1, .row 1 (((l.take j).filter (atB f)).map int1)), (0, .tab 0 vs)]) 3 (fun j => j ≤ l.length) (fun j => l.length - j) 0 (Nat.zero_le _) ⟨rfl, (by repeat' first | exact trivial | refine ⟨rfl, ?_⟩ | refine ⟨congrArg (fun n => AV.lit (.int .i64 n)) (by omega), ?_⟩ | refine ⟨congrArg (fun l => some (Row.row 1 l)) (by simp [int1, num, tru]), ?_⟩), (by repeat' first | exact trivial | refine ⟨rfl, ?_⟩ | refine ⟨congrArg (fun n => AV.lit (.int .i64 n)) (by omega), ?_⟩ | refine ⟨congrArg (fun l => some (Row.row 1 l)) (by simp [int1, num, tru]), ?_⟩)⟩ (fun j hj ih => ?_))
  have hfl : ((l.take j).filter (atB f)).length ≤ 65536 := by
    have := List.length_filter_le (atB f) (l.take j)
    rw [List.length_take] at this; omega
  by_cases hjl : j < l.length
  · obtain ⟨r, gr, hrm⟩ := getK (l := l) (k := j) hjl
    have hrr := hb r hrm
    obtain ⟨v, gv, hvm⟩ := getK (l := f.regs) (k := r.toNat) (by omega)
    have ev : f.regs.getD r.toNat 0 = v := by rw [List.getD_eq_getElem?_getD, gv]; rfl
    have hst := filter_take (p := atB f) gr
    have hRr := hR r
    have ih' := @ih (j + 1)
    rw [hst] at ih'
    by_cases h1 : v = 3
    · by_cases h2 : (newF f).root r = r
      · rw [if_pos (show atB f r = true by unfold atB; rw [ev]; simp [h1, h2]), List.map_append] at ih'
        refine go 1000 Tryd.func23 ?_
        repeat' first | (refine Br.t ?_ ?_; focus (first | (simp; omega) | (simp; done) | (simpa using h1) | (simpa using h2))) | refine Need.mk ⟨by omega, by rw [List.length_map]; omega⟩ ?_ | refine PickN.map gr ?_ | refine Pick.mapI (by omega) gv ?_ | refine Call.eq hRr rfl ?_ | refine Len.map ?_ | refine Len.nil ?_ | refine Len.cons ?_ | refine Br.t rfl ?_ | refine Br.f rfl ?_ | refine Fit.au ?_ | refine Cv.au ?_ | refine Need.ne ?_ | refine Need.au ?_ | refine Pick.map (by assumption) ?_ | refine Pick.mapI (by omega) (by assumption) ?_ | refine PickN.mk _ (by assumption) ?_ | refine PickN.mk _ rfl ?_ | refine PickN.au ?_ | refine App.au rfl ?_ | refine App.au (own_map (fun _ => rfl) _) ?_ | refine Both.mk ?_ ?_ | exact True.intro
        exact Stop.mk (ih' (g := [(1, 4)]) _ _ _ (by omega) (by omega) ⟨rfl, (by repeat' first | exact trivial | refine ⟨rfl, ?_⟩ | refine ⟨congrArg (fun n => AV.lit (.int .i64 n)) (by omega), ?_⟩ | refine ⟨congrArg (fun l => some (Row.row 1 l)) (by simp [int1, num, tru]), ?_⟩), (by repeat' first | exact trivial | refine ⟨rfl, ?_⟩ | refine ⟨congrArg (fun n => AV.lit (.int .i64 n)) (by omega), ?_⟩ | refine ⟨congrArg (fun l => some (Row.row 1 l)) (by simp [int1, num, tru]), ?_⟩)⟩)
      · rw [if_neg (show ¬ atB f r = true by unfold atB; rw [ev]; simp [h2]), List.append_nil] at ih'
        refine go 1000 Tryd.func23 ?_
        repeat' first | (refine Br.t ?_ ?_; focus (first | (simp; omega) | (simp; done) | (simpa using h1))) | (refine Br.f ?_ ?_; focus (first | (simp; done) | simpa using h2)) | refine Need.mk ⟨by omega, by rw [List.length_map]; omega⟩ ?_ | refine PickN.map gr ?_ | refine Pick.mapI (by omega) gv ?_ | refine Call.eq hRr rfl ?_ | refine Len.map ?_ | refine Len.nil ?_ | refine Len.cons ?_ | refine Br.t rfl ?_ | refine Br.f rfl ?_ | refine Fit.au ?_ | refine Cv.au ?_ | refine Need.ne ?_ | refine Need.au ?_ | refine Pick.map (by assumption) ?_ | refine Pick.mapI (by omega) (by assumption) ?_ | refine PickN.mk _ (by assumption) ?_ | refine PickN.mk _ rfl ?_ | refine PickN.au ?_ | refine App.au rfl ?_ | refine App.au (own_map (fun _ => rfl) _) ?_ | refine Both.mk ?_ ?_ | exact True.intro
        exact Stop.mk (ih' (g := []) _ _ _ (by omega) (by omega) ⟨rfl, (by repeat' first | exact trivial | refine ⟨rfl, ?_⟩ | refine ⟨congrArg (fun n => AV.lit (.int .i64 n)) (by omega), ?_⟩ | refine ⟨congrArg (fun l => some (Row.row 1 l)) (by simp [int1, num, tru]), ?_⟩), (by repeat' first | exact trivial | refine ⟨rfl, ?_⟩ | refine ⟨congrArg (fun n => AV.lit (.int .i64 n)) (by omega), ?_⟩ | refine ⟨congrArg (fun l => some (Row.row 1 l)) (by simp [int1, num, tru]), ?_⟩)⟩)
    · rw [if_neg (show ¬ atB f r = true by unfold atB; rw [ev]; simp [h1]), List.append_nil] at ih'
      refine go 1000 Tryd.func23 ?_
      repeat' first | (refine Br.t ?_ ?_; focus (simp; omega)) | (refine Br.f ?_ ?_; focus (first | (simp; done) | simpa using h1)) | refine Need.mk ⟨by omega, by rw [List.length_map]; omega⟩ ?_ | refine PickN.map gr ?_ | refine Pick.mapI (by omega) gv ?_ | refine Len.map ?_ | refine Len.nil ?_ | refine Len.cons ?_ | refine Br.t rfl ?_ | refine Br.f rfl ?_ | refine Fit.au ?_ | refine Cv.au ?_ | refine Need.ne ?_ | refine Need.au ?_ | refine Pick.map (by assumption) ?_ | refine Pick.mapI (by omega) (by assumption) ?_ | refine PickN.mk _ (by assumption) ?_ | refine PickN.mk _ rfl ?_ | refine PickN.au ?_ | refine App.au rfl ?_ | refine App.au (own_map (fun _ => rfl) _) ?_ | refine Both.mk ?_ ?_ | exact True.intro
      exact Stop.mk (ih' (g := []) _ _ _ (by omega) (by omega) ⟨rfl, (by repeat' first | exact trivial | refine ⟨rfl, ?_⟩ | refine ⟨congrArg (fun n => AV.lit (.int .i64 n)) (by omega), ?_⟩ | refine ⟨congrArg (fun l => some (Row.row 1 l)) (by simp [int1, num, tru]), ?_⟩), (by repeat' first | exact trivial | refine ⟨rfl, ?_⟩ | refine ⟨congrArg (fun n => AV.lit (.int .i64 n)) (by omega), ?_⟩ | refine ⟨congrArg (fun l => some (Row.row 1 l)) (by simp [int1, num, tru]), ?_⟩)⟩)
  · obtain rfl : j = l.length := by omega
    rw [List.take_length]
    refine go 1000 Tryd.func23 ?_
    repeat' first | (refine Br.f ?_ ?_; focus (simp; done)) | refine Len.map ?_ | refine Len.nil ?_ | refine Len.cons ?_ | refine Br.t rfl ?_ | refine Br.f rfl ?_ | refine Fit.au ?_ | refine Cv.au ?_ | refine Need.ne ?_ | refine Need.au ?_ | refine Pick.map (by assumption) ?_ | refine Pick.mapI (by omega) (by assumption) ?_ | refine PickN.mk _ (by assumption) ?_ | refine PickN.mk _ rfl ?_ | refine PickN.au ?_ | refine App.au rfl ?_ | refine App.au (own_map (fun _ => rfl) _) ?_ | refine Both.mk ?_ ?_ | exact True.intro
    rfl
end Go.Proofs.YtdgibhndjdgllaaDoor

/- Whether an array is asked for on each way (the document's), by a contract. -/
namespace Go.Proofs.YtdgibhndjdgllaaDoor
open Go.Ax
set_option maxRecDepth 10000
set_option linter.unusedVariables false
set_option maxHeartbeats 0

theorem fz_tb (l : List Bool) : AV.fzLL (l.map tb) = l.map tb := fzLL_map (enc2 := tb) (fun _ => rfl) l
theorem Asked21_spec (f : Fun) (h : NilR f) (k a : Nat) (q : Int) (bk : List Ins) (gk : f.blocks[k]? = some bk) (ha : a ≤ bk.length) : FnSpec Tryd.prog 21 [funA f, num k, num a, num q] (fun v => ∃ b, v = tru b ∧ (b = true ↔ AskP f k a q)) := by
  have hbl := h.few
  obtain ⟨hk, hke⟩ := List.getElem?_eq_some_iff.1 gk
  have hbm : bk ∈ f.blocks := hke ▸ List.getElem_mem hk
  have hkd : f.blocks.getD k [] = bk := by rw [List.getD_eq_getElem?_getD, gk]; rfl
  have hlook := last53_spec f h bk hbm a ha q
  have hbkl := h.len bk hbm
  have hS := Preds_spec f h.fit (by omega)
  have hRe := Reach_spec f h.fit (by omega)
  have hsl : (predsF (succsF f)).length = f.blocks.length := by unfold predsF; rw [List.length_map, List.length_range, succsF_len]
  obtain ⟨sk, gs, hsm0⟩ := getK (l := predsF (succsF f)) (k := k) (by omega)
  have hsd : predK f k = sk := by unfold predK; rw [List.getD_eq_getElem?_getD, gs]; rfl
  have hskl : sk.length ≤ f.blocks.length := hsd ▸ predK_len f k
  have hI := Ints_spec sk (by omega)
  have hP : AskP f k a q ↔ lastN f q (bk.take a) = 1 ∨ (lastN f q (bk.take a) = 0 ∧ AskK f k q) := by unfold AskP; rw [hkd]
  rcases lastN_cases f q (bk.take a) with hw | hw | hw
  · rw [hw] at hlook
    by_cases hk0 : k = 0
    · subst hk0
      refine spec_of 1000 Tryd.func21 rfl rfl ?_
      repeat' first | refine Draw.mk (ordL [8] [0, 1, 2, 3, 4, 5, 6, 7, 8, 9]) (by decide +kernel) ?_ | refine Draw.mk (ordL [1, 3] [0, 2, 1, 3, 4, 5]) (by decide +kernel) ?_ | refine Draw.mk (ordL [19] [0, 1, 2, 3, 4, 5, 6, 7, 8, 9, 10, 11, 12, 13, 14, 15, 16, 17, 18, 19, 20]) (by decide +kernel) ?_ | refine Pick.map gk ?_ | refine Call.eq hlook rfl ?_ | (refine Br.t ?_ ?_; focus (simp; done)) | refine Len.map ?_ | refine Len.nil ?_ | refine Len.cons ?_ | refine Br.t rfl ?_ | refine Br.f rfl ?_ | refine Fit.au ?_ | refine Cv.au ?_ | refine Need.ne ?_ | refine Need.au ?_ | refine Pick.map (by assumption) ?_ | refine Pick.mapI (by omega) (by assumption) ?_ | refine PickN.mk _ (by assumption) ?_ | refine PickN.mk _ rfl ?_ | refine PickN.au ?_ | refine App.au rfl ?_ | refine App.au (own_map (fun _ => rfl) _) ?_ | refine Both.mk ?_ ?_ | exact True.intro
      all_goals exact ⟨false, rfl, fun e => (by cases e), fun e => (hP.1 e).elim (fun e => absurd e (by omega)) (fun e => absurd rfl e.2.1)⟩
    · refine spec_of 27 Tryd.func21 rfl rfl ?_
      repeat' first | refine Draw.mk (ordL [8] [0, 1, 2, 3, 4, 5, 6, 7, 8, 9]) (by decide +kernel) ?_ | refine Draw.mk (ordL [1, 3] [0, 2, 1, 3, 4, 5]) (by decide +kernel) ?_ | refine Draw.mk (ordL [19] [0, 1, 2, 3, 4, 5, 6, 7, 8, 9, 10, 11, 12, 13, 14, 15, 16, 17, 18, 19, 20]) (by decide +kernel) ?_ | refine Pick.map gk ?_ | refine Call.eq hlook rfl ?_ | refine Call.eq hS rfl ?_ | (refine Br.f ?_ ?_; focus (simp; omega)) | refine Len.map ?_ | refine Len.nil ?_ | refine Len.cons ?_ | refine Br.t rfl ?_ | refine Br.f rfl ?_ | refine Fit.au ?_ | refine Cv.au ?_ | refine Need.ne ?_ | refine Need.au ?_ | refine Pick.map (by assumption) ?_ | refine Pick.mapI (by omega) (by assumption) ?_ | refine PickN.mk _ (by assumption) ?_ | refine PickN.mk _ rfl ?_ | refine PickN.au ?_ | refine App.au rfl ?_ | refine App.au (own_map (fun _ => rfl) _) ?_ | refine Both.mk ?_ ?_ | exact True.intro
      refine Call.of hRe ?_
      rintro r ⟨rs, rfl, hrs⟩
      refine ⟨rfl, ?_⟩
      repeat' first | refine Len.map ?_ | refine Len.nil ?_ | refine Len.cons ?_ | refine Br.t rfl ?_ | refine Br.f rfl ?_ | refine Fit.au ?_ | refine Cv.au ?_ | refine Need.ne ?_ | refine Need.au ?_ | refine Pick.map (by assumption) ?_ | refine Pick.mapI (by omega) (by assumption) ?_ | refine PickN.mk _ (by assumption) ?_ | refine PickN.mk _ rfl ?_ | refine PickN.au ?_ | refine App.au rfl ?_ | refine App.au (own_map (fun _ => rfl) _) ?_ | refine Both.mk ?_ ?_ | exact True.intro
      refine Stop.mk ?_
      refine run_frzR 1 rfl (fzLL_map fz_olsts _) ?_
      refine run_frzR 2 rfl (fz_tb _) ?_
      refine go 1000 Tryd.func21 ?_
      repeat' first | refine Pick.map gs ?_ | refine Call.eq hI rfl ?_ | refine Len.map ?_ | refine Len.nil ?_ | refine Len.cons ?_ | refine Br.t rfl ?_ | refine Br.f rfl ?_ | refine Fit.au ?_ | refine Cv.au ?_ | refine Need.ne ?_ | refine Need.au ?_ | refine Pick.map (by assumption) ?_ | refine Pick.mapI (by omega) (by assumption) ?_ | refine PickN.mk _ (by assumption) ?_ | refine PickN.mk _ rfl ?_ | refine PickN.au ?_ | refine App.au rfl ?_ | refine App.au (own_map (fun _ => rfl) _) ?_ | refine Both.mk ?_ ?_ | exact True.intro
      have h0 : AskI f q k sk 0 := hsd ▸ AskI.start
      refine Stop.mk (loop_in (g := []) (fun z : List Int × Nat => [(3, num q), (4, .hp 0 0), (10, lsts (predsF (succsF f))), (11, .sl false 1 (rs.map tb)), (12, .hw 3), (13, num z.2)]) (fun z => [(3, .row 1 (z.1.map int1)), (0, .var f.cs)]) 4 (fun z => AskI f q k z.1 z.2) (fun z => 2 * missN f.blocks.length z.1 + (z.1.length - z.2)) (sk, 0) h0 ⟨rfl, (by repeat' first | exact trivial | refine ⟨rfl, ?_⟩ | refine ⟨congrArg (fun n => AV.lit (.int .i64 n)) (by omega), ?_⟩ | refine ⟨congrArg (fun l => some (Row.row 1 l)) (by simp [int1, num, tru]), ?_⟩), (by repeat' first | exact trivial | refine ⟨rfl, ?_⟩ | refine ⟨congrArg (fun n => AV.lit (.int .i64 n)) (by omega), ?_⟩ | refine ⟨congrArg (fun l => some (Row.row 1 l)) (by simp [int1, num, tru]), ?_⟩)⟩ ?_)
      rintro ⟨l, i⟩ hq ih
      dsimp only at hq ih ⊢
      have hfew := hq.few
      have hle := hq.le
      by_cases hi : i < l.length
      · obtain ⟨j, gj, hjm⟩ := getK (l := l) (k := i) hi
        have hjr := hq.all_ j hjm
        have hrg := hjr.rng
        obtain ⟨bj, gb, hbjm⟩ := getK (l := f.blocks) (k := j.toNat) hrg.2
        obtain ⟨sj, gsj, hsjm⟩ := getK (l := predsF (succsF f)) (k := j.toNat) (by omega)
        have ebj : f.blocks.getD j.toNat [] = bj := by rw [List.getD_eq_getElem?_getD, gb]; rfl
        have esj : predK f j.toNat = sj := by unfold predK; rw [List.getD_eq_getElem?_getD, gsj]; rfl
        have hsjl : sj.length ≤ f.blocks.length := esj ▸ predK_len f j.toNat
        have hbjl := h.len bj hbjm
        have hlj := last53_spec f h bj hbjm bj.length (Nat.le_refl _) q
        rw [List.take_length] at hlj
        have ela : lastB f q j = lastN f q bj := by unfold lastB; rw [ebj]
        have gr : (rs)[j.toNat]? = some true := (hrs.2 j.toNat).2 (h.all_ j.toNat hrg.2)
        by_cases hbad : badJ f q j
        · have hbk := hq.bad gj hbad
          refine go 1000 Tryd.func21 ?_
          unfold badJ at hbad
          rw [ela] at hbad
          by_cases hw2 : lastN f q bj = 2
          · rw [hw2] at hlj
            repeat' first | (refine Br.t ?_ ?_; focus (simp; omega)) | refine Draw.mk (ordL [8] [0, 1, 2, 3, 4, 5, 6, 7, 8, 9]) (by decide +kernel) ?_ | refine Draw.mk (ordL [1, 3] [0, 2, 1, 3, 4, 5]) (by decide +kernel) ?_ | refine Draw.mk (ordL [19] [0, 1, 2, 3, 4, 5, 6, 7, 8, 9, 10, 11, 12, 13, 14, 15, 16, 17, 18, 19, 20]) (by decide +kernel) ?_ | refine Need.mk ⟨by omega, by rw [List.length_map]; omega⟩ ?_ | refine PickN.map gj ?_ | refine Pick.mapI (by omega) gb ?_ | refine Pick.mapI (by omega) gr ?_ | refine Call.eq hlj rfl ?_ | refine Len.map ?_ | refine Len.nil ?_ | refine Len.cons ?_ | refine Br.t rfl ?_ | refine Br.f rfl ?_ | refine Fit.au ?_ | refine Cv.au ?_ | refine Need.ne ?_ | refine Need.au ?_ | refine Pick.map (by assumption) ?_ | refine Pick.mapI (by omega) (by assumption) ?_ | refine PickN.mk _ (by assumption) ?_ | refine PickN.mk _ rfl ?_ | refine PickN.au ?_ | refine App.au rfl ?_ | refine App.au (own_map (fun _ => rfl) _) ?_ | refine Both.mk ?_ ?_ | exact True.intro
            all_goals exact ⟨false, rfl, fun e => (by cases e), fun e => (hP.1 e).elim (fun e => absurd e (by omega)) (fun e => absurd hbk e.2.2)⟩
          · have hw0 : lastN f q bj = 0 ∧ j = 0 := hbad.elim (fun e => absurd e hw2) id
            rw [hw0.1] at hlj
            have hj0 := hw0.2
            repeat' first | (refine Br.t ?_ ?_; focus (first | (simp; done) | (simp; omega))) | refine Draw.mk (ordL [8] [0, 1, 2, 3, 4, 5, 6, 7, 8, 9]) (by decide +kernel) ?_ | refine Draw.mk (ordL [1, 3] [0, 2, 1, 3, 4, 5]) (by decide +kernel) ?_ | refine Draw.mk (ordL [19] [0, 1, 2, 3, 4, 5, 6, 7, 8, 9, 10, 11, 12, 13, 14, 15, 16, 17, 18, 19, 20]) (by decide +kernel) ?_ | refine Need.mk ⟨by omega, by rw [List.length_map]; omega⟩ ?_ | refine PickN.map gj ?_ | refine Pick.mapI (by omega) gb ?_ | refine Pick.mapI (by omega) gr ?_ | refine Call.eq hlj rfl ?_ | refine Len.map ?_ | refine Len.nil ?_ | refine Len.cons ?_ | refine Br.t rfl ?_ | refine Br.f rfl ?_ | refine Fit.au ?_ | refine Cv.au ?_ | refine Need.ne ?_ | refine Need.au ?_ | refine Pick.map (by assumption) ?_ | refine Pick.mapI (by omega) (by assumption) ?_ | refine PickN.mk _ (by assumption) ?_ | refine PickN.mk _ rfl ?_ | refine PickN.au ?_ | refine App.au rfl ?_ | refine App.au (own_map (fun _ => rfl) _) ?_ | refine Both.mk ?_ ?_ | exact True.intro
            all_goals exact ⟨false, rfl, fun e => (by cases e), fun e => (hP.1 e).elim (fun e => absurd e (by omega)) (fun e => absurd hbk e.2.2)⟩
        · have hnb : ¬ (lastN f q bj = 2 ∨ (lastN f q bj = 0 ∧ j = 0)) := fun e => hbad (by unfold badJ; rw [ela]; exact e)
          have hw2 : ¬ lastN f q bj = 2 := fun e => hnb (.inl e)
          refine go 1000 Tryd.func21 ?_
          by_cases hw0 : lastN f q bj = 0
          · have hj0 : ¬ j = 0 := fun e => hnb (.inr ⟨hw0, e⟩)
            rw [hw0] at hlj
            repeat' first | (refine Br.t ?_ ?_; focus (first | (simp; done) | (simp; omega))) | (refine Br.f ?_ ?_; focus (simp; omega)) | refine Draw.mk (ordL [8] [0, 1, 2, 3, 4, 5, 6, 7, 8, 9]) (by decide +kernel) ?_ | refine Draw.mk (ordL [1, 3] [0, 2, 1, 3, 4, 5]) (by decide +kernel) ?_ | refine Draw.mk (ordL [19] [0, 1, 2, 3, 4, 5, 6, 7, 8, 9, 10, 11, 12, 13, 14, 15, 16, 17, 18, 19, 20]) (by decide +kernel) ?_ | refine Need.mk ⟨by omega, by rw [List.length_map]; omega⟩ ?_ | refine PickN.map gj ?_ | refine Pick.mapI (by omega) gb ?_ | refine Pick.mapI (by omega) gr ?_ | refine Call.eq hlj rfl ?_ | refine Len.map ?_ | refine Len.nil ?_ | refine Len.cons ?_ | refine Br.t rfl ?_ | refine Br.f rfl ?_ | refine Fit.au ?_ | refine Cv.au ?_ | refine Need.ne ?_ | refine Need.au ?_ | refine Pick.map (by assumption) ?_ | refine Pick.mapI (by omega) (by assumption) ?_ | refine PickN.mk _ (by assumption) ?_ | refine PickN.mk _ rfl ?_ | refine PickN.au ?_ | refine App.au rfl ?_ | refine App.au (own_map (fun _ => rfl) _) ?_ | refine Both.mk ?_ ?_ | exact True.intro
            refine Stop.mk (loop_in (g := []) (fun z : List Int × Nat => [(3, num q), (4, .hp 0 0), (9, num 0), (10, lsts (predsF (succsF f))), (11, .sl false 1 (rs.map tb)), (12, .hw 3), (13, num i), (14, num z.2)]) (fun z => [(3, .row 1 (z.1.map int1)), (0, .var f.cs)]) 4
              (fun z => AskI f q k z.1 i ∧ z.1[i]? = some j ∧ z.2 ≤ sj.length ∧ (∀ m t, m < z.2 → sj[m]? = some t → t ∈ z.1) ∧ 2 * missN f.blocks.length z.1 + z.1.length ≤ 2 * missN f.blocks.length l + l.length) (fun z => sj.length - z.2) (l, 0) ⟨hq, gj, Nat.zero_le _, fun m t hm => by omega, Nat.le_refl _⟩ ⟨rfl, (by repeat' first | exact trivial | refine ⟨rfl, ?_⟩ | refine ⟨congrArg (fun n => AV.lit (.int .i64 n)) (by omega), ?_⟩ | refine ⟨congrArg (fun l => some (Row.row 1 l)) (by simp [int1, num, tru]), ?_⟩), (by repeat' first | exact trivial | refine ⟨rfl, ?_⟩ | refine ⟨congrArg (fun n => AV.lit (.int .i64 n)) (by omega), ?_⟩ | refine ⟨congrArg (fun l => some (Row.row 1 l)) (by simp [int1, num, tru]), ?_⟩)⟩ ?_)
            rintro ⟨l2, c⟩ hq2 ih2
            dsimp only at hq2 ih2 ⊢
            obtain ⟨hn2, gj2, hqs, hin, hmu⟩ := hq2
            have hfew2 := hn2.few
            obtain ⟨hi2, -⟩ := List.getElem?_eq_some_iff.1 gj2
            by_cases hq3 : c < sj.length
            · obtain ⟨t, gt, htm⟩ := getK (l := sj) (k := c) hq3
              have hH := HasInt_spec l2 t (by omega)
              have hrt : BackN f q k t := .step hjr (by rw [ela]; exact hw0) (by rw [esj]; exact htm)
              have hin2 : ∀ l3 : List Int, (∀ u ∈ l2, u ∈ l3) → t ∈ l3 → ∀ m u, m < c + 1 → sj[m]? = some u → u ∈ l3 := fun l3 h1 h2 m u hm hu => by
                by_cases e : m = c
                · subst e
                  rw [gt] at hu
                  obtain rfl := Option.some.inj hu
                  exact h2
                · exact h1 u (hin m u (by omega) hu)
              refine go 1000 Tryd.func21 ?_
              repeat' first | (refine Br.t ?_ ?_; focus (first | (simp; done) | (simp; omega))) | refine Need.mk ⟨by omega, by rw [List.length_map]; omega⟩ ?_ | refine PickN.map gj2 ?_ | refine Pick.mapI (by omega) gsj ?_ | refine Pick.map gt ?_ | refine Look.yes ?_ | refine View.map (fun _ => rfl) ?_ | refine CallV.eq hH rfl (Free.lit _) ?_ | refine Len.map ?_ | refine Len.nil ?_ | refine Len.cons ?_ | refine Br.t rfl ?_ | refine Br.f rfl ?_ | refine Fit.au ?_ | refine Cv.au ?_ | refine Need.ne ?_ | refine Need.au ?_ | refine Pick.map (by assumption) ?_ | refine Pick.mapI (by omega) (by assumption) ?_ | refine PickN.mk _ (by assumption) ?_ | refine PickN.mk _ rfl ?_ | refine PickN.au ?_ | refine App.au rfl ?_ | refine App.au (own_map (fun _ => rfl) _) ?_ | refine Both.mk ?_ ?_ | exact True.intro
              by_cases htl : t ∈ l2
              · refine Br.f (by simp [htl]) ?_
                repeat' first | refine Len.map ?_ | refine Len.nil ?_ | refine Len.cons ?_ | refine Br.t rfl ?_ | refine Br.f rfl ?_ | refine Fit.au ?_ | refine Cv.au ?_ | refine Need.ne ?_ | refine Need.au ?_ | refine Pick.map (by assumption) ?_ | refine Pick.mapI (by omega) (by assumption) ?_ | refine PickN.mk _ (by assumption) ?_ | refine PickN.mk _ rfl ?_ | refine PickN.au ?_ | refine App.au rfl ?_ | refine App.au (own_map (fun _ => rfl) _) ?_ | refine Both.mk ?_ ?_ | exact True.intro
                exact Stop.mk (ih2 (l2, c + 1) (g := []) _ _ _ ⟨hn2, gj2, by dsimp only; omega, hin2 l2 (fun _ h => h) htl, hmu⟩ (by dsimp only; omega) ⟨rfl, (by repeat' first | exact trivial | refine ⟨rfl, ?_⟩ | refine ⟨congrArg (fun n => AV.lit (.int .i64 n)) (by omega), ?_⟩ | refine ⟨congrArg (fun l => some (Row.row 1 l)) (by simp [int1, num, tru]), ?_⟩), (by repeat' first | exact trivial | refine ⟨rfl, ?_⟩ | refine ⟨congrArg (fun n => AV.lit (.int .i64 n)) (by omega), ?_⟩ | refine ⟨congrArg (fun l => some (Row.row 1 l)) (by simp [int1, num, tru]), ?_⟩)⟩)
              · have hm3 := missN_app hrt.rng.1 hrt.rng.2 htl
                refine Br.t (by simp [htl]) ?_
                repeat' first | refine Need.mk ⟨by omega, by rw [List.length_map]; omega⟩ ?_ | refine PickN.map gj2 ?_ | refine Pick.mapI (by omega) gsj ?_ | refine Pick.map gt ?_ | refine Len.map ?_ | refine Len.nil ?_ | refine Len.cons ?_ | refine Br.t rfl ?_ | refine Br.f rfl ?_ | refine Fit.au ?_ | refine Cv.au ?_ | refine Need.ne ?_ | refine Need.au ?_ | refine Pick.map (by assumption) ?_ | refine Pick.mapI (by omega) (by assumption) ?_ | refine PickN.mk _ (by assumption) ?_ | refine PickN.mk _ rfl ?_ | refine PickN.au ?_ | refine App.au rfl ?_ | refine App.au (own_map (fun _ => rfl) _) ?_ | refine Both.mk ?_ ?_ | exact True.intro
                exact Stop.mk (ih2 (l2 ++ [t], c + 1) (g := [(3, 5)]) _ _ _ ⟨hn2.app hrt htl, by rw [List.getElem?_append_left hi2]; exact gj2, by dsimp only; omega, hin2 _ (fun _ h => List.mem_append_left _ h) (List.mem_append_right _ (List.mem_singleton.2 rfl)), by dsimp only; rw [List.length_append, List.length_singleton]; omega⟩ (by dsimp only; omega) ⟨rfl, (by repeat' first | exact trivial | refine ⟨rfl, ?_⟩ | refine ⟨congrArg (fun n => AV.lit (.int .i64 n)) (by omega), ?_⟩ | refine ⟨congrArg (fun l => some (Row.row 1 l)) (by simp [int1, num, tru]), ?_⟩), (by repeat' first | exact trivial | refine ⟨rfl, ?_⟩ | refine ⟨congrArg (fun n => AV.lit (.int .i64 n)) (by omega), ?_⟩ | refine ⟨congrArg (fun l => some (Row.row 1 l)) (by simp [int1, num, tru]), ?_⟩)⟩)
            · have hnx : lastB f q j = 0 → ∀ u ∈ predK f j.toNat, u ∈ l2 := fun e u hu => by
                rw [esj] at hu
                obtain ⟨m, hm⟩ := List.getElem?_of_mem hu
                obtain ⟨hm2, -⟩ := List.getElem?_eq_some_iff.1 hm
                exact hin m u (by omega) hm
              have hI2 := hn2.next gj2 hbad hnx
              refine go 1000 Tryd.func21 ?_
              repeat' first | (refine Br.f ?_ ?_; focus (simp; omega)) | refine Need.mk ⟨by omega, by rw [List.length_map]; omega⟩ ?_ | refine PickN.map gj2 ?_ | refine Pick.mapI (by omega) gsj ?_ | refine Len.map ?_ | refine Len.nil ?_ | refine Len.cons ?_ | refine Br.t rfl ?_ | refine Br.f rfl ?_ | refine Fit.au ?_ | refine Cv.au ?_ | refine Need.ne ?_ | refine Need.au ?_ | refine Pick.map (by assumption) ?_ | refine Pick.mapI (by omega) (by assumption) ?_ | refine PickN.mk _ (by assumption) ?_ | refine PickN.mk _ rfl ?_ | refine PickN.au ?_ | refine App.au rfl ?_ | refine App.au (own_map (fun _ => rfl) _) ?_ | refine Both.mk ?_ ?_ | exact True.intro
              exact Stop.mk (ih (l2, i + 1) (g := []) _ _ _ hI2 (by dsimp only; omega) ⟨rfl, (by repeat' first | exact trivial | refine ⟨rfl, ?_⟩ | refine ⟨congrArg (fun n => AV.lit (.int .i64 n)) (by omega), ?_⟩ | refine ⟨congrArg (fun l => some (Row.row 1 l)) (by simp [int1, num, tru]), ?_⟩), (by repeat' first | exact trivial | refine ⟨rfl, ?_⟩ | refine ⟨congrArg (fun n => AV.lit (.int .i64 n)) (by omega), ?_⟩ | refine ⟨congrArg (fun l => some (Row.row 1 l)) (by simp [int1, num, tru]), ?_⟩)⟩)
          · have hw1 : lastN f q bj = 1 := by rcases lastN_cases f q bj with e | e | e <;> omega
            rw [hw1] at hlj
            have hI2 := hq.next gj hbad (fun e => absurd (ela ▸ e) hw0)
            repeat' first | (refine Br.t ?_ ?_; focus (first | (simp; done) | (simp; omega))) | refine Draw.mk (ordL [8] [0, 1, 2, 3, 4, 5, 6, 7, 8, 9]) (by decide +kernel) ?_ | refine Draw.mk (ordL [1, 3] [0, 2, 1, 3, 4, 5]) (by decide +kernel) ?_ | refine Draw.mk (ordL [19] [0, 1, 2, 3, 4, 5, 6, 7, 8, 9, 10, 11, 12, 13, 14, 15, 16, 17, 18, 19, 20]) (by decide +kernel) ?_ | refine Need.mk ⟨by omega, by rw [List.length_map]; omega⟩ ?_ | refine PickN.map gj ?_ | refine Pick.mapI (by omega) gb ?_ | refine Pick.mapI (by omega) gr ?_ | refine Call.eq hlj rfl ?_ | refine Len.map ?_ | refine Len.nil ?_ | refine Len.cons ?_ | refine Br.t rfl ?_ | refine Br.f rfl ?_ | refine Fit.au ?_ | refine Cv.au ?_ | refine Need.ne ?_ | refine Need.au ?_ | refine Pick.map (by assumption) ?_ | refine Pick.mapI (by omega) (by assumption) ?_ | refine PickN.mk _ (by assumption) ?_ | refine PickN.mk _ rfl ?_ | refine PickN.au ?_ | refine App.au rfl ?_ | refine App.au (own_map (fun _ => rfl) _) ?_ | refine Both.mk ?_ ?_ | exact True.intro
            refine Stop.mk (run_loop ?_)
            refine go 1000 Tryd.func21 ?_
            by_cases hs0 : 0 < sj.length
            · repeat' first | (refine Br.t ?_ ?_; focus (simp; omega)) | refine Need.mk ⟨by omega, by rw [List.length_map]; omega⟩ ?_ | refine PickN.map gj ?_ | refine Pick.mapI (by omega) gsj ?_ | refine Len.map ?_ | refine Len.nil ?_ | refine Len.cons ?_ | refine Br.t rfl ?_ | refine Br.f rfl ?_ | refine Fit.au ?_ | refine Cv.au ?_ | refine Need.ne ?_ | refine Need.au ?_ | refine Pick.map (by assumption) ?_ | refine Pick.mapI (by omega) (by assumption) ?_ | refine PickN.mk _ (by assumption) ?_ | refine PickN.mk _ rfl ?_ | refine PickN.au ?_ | refine App.au rfl ?_ | refine App.au (own_map (fun _ => rfl) _) ?_ | refine Both.mk ?_ ?_ | exact True.intro
              exact Stop.mk (ih (l, i + 1) (g := []) _ _ _ hI2 (by dsimp only; omega) ⟨rfl, (by repeat' first | exact trivial | refine ⟨rfl, ?_⟩ | refine ⟨congrArg (fun n => AV.lit (.int .i64 n)) (by omega), ?_⟩ | refine ⟨congrArg (fun l => some (Row.row 1 l)) (by simp [int1, num, tru]), ?_⟩), (by repeat' first | exact trivial | refine ⟨rfl, ?_⟩ | refine ⟨congrArg (fun n => AV.lit (.int .i64 n)) (by omega), ?_⟩ | refine ⟨congrArg (fun l => some (Row.row 1 l)) (by simp [int1, num, tru]), ?_⟩)⟩)
            · repeat' first | (refine Br.f ?_ ?_; focus (rw [decide_eq_false_iff_not]; omega)) | refine Need.mk ⟨by omega, by rw [List.length_map]; omega⟩ ?_ | refine PickN.map gj ?_ | refine Pick.mapI (by omega) gsj ?_ | refine Len.map ?_ | refine Len.nil ?_ | refine Len.cons ?_ | refine Br.t rfl ?_ | refine Br.f rfl ?_ | refine Fit.au ?_ | refine Cv.au ?_ | refine Need.ne ?_ | refine Need.au ?_ | refine Pick.map (by assumption) ?_ | refine Pick.mapI (by omega) (by assumption) ?_ | refine PickN.mk _ (by assumption) ?_ | refine PickN.mk _ rfl ?_ | refine PickN.au ?_ | refine App.au rfl ?_ | refine App.au (own_map (fun _ => rfl) _) ?_ | refine Both.mk ?_ ?_ | exact True.intro
              exact Stop.mk (ih (l, i + 1) (g := []) _ _ _ hI2 (by dsimp only; omega) ⟨rfl, (by repeat' first | exact trivial | refine ⟨rfl, ?_⟩ | refine ⟨congrArg (fun n => AV.lit (.int .i64 n)) (by omega), ?_⟩ | refine ⟨congrArg (fun l => some (Row.row 1 l)) (by simp [int1, num, tru]), ?_⟩), (by repeat' first | exact trivial | refine ⟨rfl, ?_⟩ | refine ⟨congrArg (fun n => AV.lit (.int .i64 n)) (by omega), ?_⟩ | refine ⟨congrArg (fun l => some (Row.row 1 l)) (by simp [int1, num, tru]), ?_⟩)⟩)
      · have e : i = l.length := by omega
        subst e
        refine go 1000 Tryd.func21 ?_
        repeat' first | (refine Br.f ?_ ?_; focus (simp; done)) | refine Len.map ?_ | refine Len.nil ?_ | refine Len.cons ?_ | refine Br.t rfl ?_ | refine Br.f rfl ?_ | refine Fit.au ?_ | refine Cv.au ?_ | refine Need.ne ?_ | refine Need.au ?_ | refine Pick.map (by assumption) ?_ | refine Pick.mapI (by omega) (by assumption) ?_ | refine PickN.mk _ (by assumption) ?_ | refine PickN.mk _ rfl ?_ | refine PickN.au ?_ | refine App.au rfl ?_ | refine App.au (own_map (fun _ => rfl) _) ?_ | refine Both.mk ?_ ?_ | exact True.intro
        exact ⟨true, rfl, fun _ => hP.2 (.inr ⟨hw, hk0, hq.end_⟩), fun _ => rfl⟩
  · rw [hw] at hlook
    refine spec_of 1000 Tryd.func21 rfl rfl ?_
    repeat' first | refine Draw.mk (ordL [8] [0, 1, 2, 3, 4, 5, 6, 7, 8, 9]) (by decide +kernel) ?_ | refine Draw.mk (ordL [1, 3] [0, 2, 1, 3, 4, 5]) (by decide +kernel) ?_ | refine Draw.mk (ordL [19] [0, 1, 2, 3, 4, 5, 6, 7, 8, 9, 10, 11, 12, 13, 14, 15, 16, 17, 18, 19, 20]) (by decide +kernel) ?_ | refine Pick.map gk ?_ | refine Call.eq hlook rfl ?_ | refine Len.map ?_ | refine Len.nil ?_ | refine Len.cons ?_ | refine Br.t rfl ?_ | refine Br.f rfl ?_ | refine Fit.au ?_ | refine Cv.au ?_ | refine Need.ne ?_ | refine Need.au ?_ | refine Pick.map (by assumption) ?_ | refine Pick.mapI (by omega) (by assumption) ?_ | refine PickN.mk _ (by assumption) ?_ | refine PickN.mk _ rfl ?_ | refine PickN.au ?_ | refine App.au rfl ?_ | refine App.au (own_map (fun _ => rfl) _) ?_ | refine Both.mk ?_ ?_ | exact True.intro
    all_goals exact ⟨true, rfl, by rw [hP, hw]; simp⟩
  · rw [hw] at hlook
    refine spec_of 1000 Tryd.func21 rfl rfl ?_
    repeat' first | refine Draw.mk (ordL [8] [0, 1, 2, 3, 4, 5, 6, 7, 8, 9]) (by decide +kernel) ?_ | refine Draw.mk (ordL [1, 3] [0, 2, 1, 3, 4, 5]) (by decide +kernel) ?_ | refine Draw.mk (ordL [19] [0, 1, 2, 3, 4, 5, 6, 7, 8, 9, 10, 11, 12, 13, 14, 15, 16, 17, 18, 19, 20]) (by decide +kernel) ?_ | refine Pick.map gk ?_ | refine Call.eq hlook rfl ?_ | refine Len.map ?_ | refine Len.nil ?_ | refine Len.cons ?_ | refine Br.t rfl ?_ | refine Br.f rfl ?_ | refine Fit.au ?_ | refine Cv.au ?_ | refine Need.ne ?_ | refine Need.au ?_ | refine Pick.map (by assumption) ?_ | refine Pick.mapI (by omega) (by assumption) ?_ | refine PickN.mk _ (by assumption) ?_ | refine PickN.mk _ rfl ?_ | refine PickN.au ?_ | refine App.au rfl ?_ | refine App.au (own_map (fun _ => rfl) _) ?_ | refine Both.mk ?_ ?_ | exact True.intro
    all_goals exact ⟨false, rfl, by rw [hP, hw]; simp⟩
end Go.Proofs.YtdgibhndjdgllaaDoor

/- What a name has, what an instruction reads, by contracts. -/
namespace Go.Proofs.YtdgibhndjdgllaaDoor
open Go.Ax
set_option maxRecDepth 10000
set_option linter.unusedVariables false

theorem has34_spec (f : Fun) (reg block at_ : Int) (hf : f.fits) (hn : f.blocks.length ≤ 1000000) : FnSpec Tryd.prog 113 [funA f, num reg, num block, num at_] (fun r => ∃ v, r = tru v ∧ (v = true ↔ HasP f reg block at_)) := by
  refine spec_of 1000 Tryd.func113 rfl rfl ?_
  repeat' first | refine Len.map ?_ | refine Len.nil ?_ | refine Len.cons ?_ | refine Br.t rfl ?_ | refine Br.f rfl ?_ | refine Fit.au ?_ | refine Cv.au ?_ | refine Need.ne ?_ | refine Need.au ?_ | refine Pick.map (by assumption) ?_ | refine Pick.mapI (by omega) (by assumption) ?_ | refine PickN.mk _ (by assumption) ?_ | refine PickN.mk _ rfl ?_ | refine PickN.au ?_ | refine App.au rfl ?_ | refine App.au (own_map (fun _ => rfl) _) ?_ | refine Both.mk ?_ ?_ | exact True.intro
  refine Br.d (fun h1 => ?_) (fun h1 => ?_)
  · repeat' first | refine Len.map ?_ | refine Len.nil ?_ | refine Len.cons ?_ | refine Br.t rfl ?_ | refine Br.f rfl ?_ | refine Fit.au ?_ | refine Cv.au ?_ | refine Need.ne ?_ | refine Need.au ?_ | refine Pick.map (by assumption) ?_ | refine Pick.mapI (by omega) (by assumption) ?_ | refine PickN.mk _ (by assumption) ?_ | refine PickN.mk _ rfl ?_ | refine PickN.au ?_ | refine App.au rfl ?_ | refine App.au (own_map (fun _ => rfl) _) ?_ | refine Both.mk ?_ ?_ | exact True.intro
    exact ⟨true, rfl, ⟨fun _ => .inl h1, fun _ => rfl⟩⟩
  repeat' first | refine Len.map ?_ | refine Len.nil ?_ | refine Len.cons ?_ | refine Br.t rfl ?_ | refine Br.f rfl ?_ | refine Fit.au ?_ | refine Cv.au ?_ | refine Need.ne ?_ | refine Need.au ?_ | refine Pick.map (by assumption) ?_ | refine Pick.mapI (by omega) (by assumption) ?_ | refine PickN.mk _ (by assumption) ?_ | refine PickN.mk _ rfl ?_ | refine PickN.au ?_ | refine App.au rfl ?_ | refine App.au (own_map (fun _ => rfl) _) ?_ | refine Both.mk ?_ ?_ | exact True.intro
  refine Call.of (Writer34_spec f reg hf hn) ?_
  rintro r ⟨k, i, v, rfl, hw⟩
  refine ⟨rfl, ?_⟩
  repeat' first | refine Len.map ?_ | refine Len.nil ?_ | refine Len.cons ?_ | refine Br.t rfl ?_ | refine Br.f rfl ?_ | refine Fit.au ?_ | refine Cv.au ?_ | refine Need.ne ?_ | refine Need.au ?_ | refine Pick.map (by assumption) ?_ | refine Pick.mapI (by omega) (by assumption) ?_ | refine PickN.mk _ (by assumption) ?_ | refine PickN.mk _ rfl ?_ | refine PickN.au ?_ | refine App.au rfl ?_ | refine App.au (own_map (fun _ => rfl) _) ?_ | refine Both.mk ?_ ?_ | exact True.intro
  refine Br.mk (fun h2 => ?_) (fun h2 => ?_)
  · have h2 : v = false := by simpa using h2
    subst h2
    repeat' first | refine Len.map ?_ | refine Len.nil ?_ | refine Len.cons ?_ | refine Br.t rfl ?_ | refine Br.f rfl ?_ | refine Fit.au ?_ | refine Cv.au ?_ | refine Need.ne ?_ | refine Need.au ?_ | refine Pick.map (by assumption) ?_ | refine Pick.mapI (by omega) (by assumption) ?_ | refine PickN.mk _ (by assumption) ?_ | refine PickN.mk _ rfl ?_ | refine PickN.au ?_ | refine App.au rfl ?_ | refine App.au (own_map (fun _ => rfl) _) ?_ | refine Both.mk ?_ ?_ | exact True.intro
    exact ⟨false, rfl, ⟨fun h => (by cases h), fun h => absurd h (HasP.no h1 hw)⟩⟩
  have h2 : v = true := by simpa using h2
  subst h2
  have e := HasP.of (block := block) (at_ := at_) h1 hw
  repeat' first | refine Len.map ?_ | refine Len.nil ?_ | refine Len.cons ?_ | refine Br.t rfl ?_ | refine Br.f rfl ?_ | refine Fit.au ?_ | refine Cv.au ?_ | refine Need.ne ?_ | refine Need.au ?_ | refine Pick.map (by assumption) ?_ | refine Pick.mapI (by omega) (by assumption) ?_ | refine PickN.mk _ (by assumption) ?_ | refine PickN.mk _ rfl ?_ | refine PickN.au ?_ | refine App.au rfl ?_ | refine App.au (own_map (fun _ => rfl) _) ?_ | refine Both.mk ?_ ?_ | exact True.intro
  refine Br.d (fun h3 => ?_) (fun h3 => ?_)
  · repeat' first | refine Len.map ?_ | refine Len.nil ?_ | refine Len.cons ?_ | refine Br.t rfl ?_ | refine Br.f rfl ?_ | refine Fit.au ?_ | refine Cv.au ?_ | refine Need.ne ?_ | refine Need.au ?_ | refine Pick.map (by assumption) ?_ | refine Pick.mapI (by omega) (by assumption) ?_ | refine PickN.mk _ (by assumption) ?_ | refine PickN.mk _ rfl ?_ | refine PickN.au ?_ | refine App.au rfl ?_ | refine App.au (own_map (fun _ => rfl) _) ?_ | refine Both.mk ?_ ?_ | exact True.intro
    refine ⟨_, rfl, ?_⟩
    rw [e]; simp [h3]
  · repeat' first | refine Len.map ?_ | refine Len.nil ?_ | refine Len.cons ?_ | refine Br.t rfl ?_ | refine Br.f rfl ?_ | refine Fit.au ?_ | refine Cv.au ?_ | refine Need.ne ?_ | refine Need.au ?_ | refine Pick.map (by assumption) ?_ | refine Pick.mapI (by omega) (by assumption) ?_ | refine PickN.mk _ (by assumption) ?_ | refine PickN.mk _ rfl ?_ | refine PickN.au ?_ | refine App.au rfl ?_ | refine App.au (own_map (fun _ => rfl) _) ?_ | refine Both.mk ?_ ?_ | exact True.intro
    refine Call.of (Dominates_spec f k block hf hn) ?_
    rintro r ⟨b, rfl, hb⟩
    refine ⟨rfl, ?_⟩
    repeat' first | refine Len.map ?_ | refine Len.nil ?_ | refine Len.cons ?_ | refine Br.t rfl ?_ | refine Br.f rfl ?_ | refine Fit.au ?_ | refine Cv.au ?_ | refine Need.ne ?_ | refine Need.au ?_ | refine Pick.map (by assumption) ?_ | refine Pick.mapI (by omega) (by assumption) ?_ | refine PickN.mk _ (by assumption) ?_ | refine PickN.mk _ rfl ?_ | refine PickN.au ?_ | refine App.au rfl ?_ | refine App.au (own_map (fun _ => rfl) _) ?_ | refine Both.mk ?_ ?_ | exact True.intro
    refine ⟨b, rfl, ?_⟩
    rw [e, hb]; simp [h3]

theorem reads34_spec (f : Fun) (k j : Nat) (b : List Ins) (i : Ins) (gb : f.blocks[k]? = some b) (gi : b[j]? = some i) (hf : f.fits) (hn : f.blocks.length ≤ 1000000) (ha : ∀ b ∈ f.blocks, ∀ i ∈ b, i.args.length ≤ 1000000) (hu : i.op = 44 → (usesF i).length ≤ (predOf (succsF f) k (succsF f).length).length) :
    FnSpec Tryd.prog 96 [funA f, num k, num j] (fun r => ∃ v, r = tru v ∧ (v = true → i.op ≠ 44 → ∀ u ∈ usesF i, HasP f u k j)) := by
  have gm := List.mem_of_getElem? gb
  have gim := List.mem_of_getElem? gi
  have hai := ha b gm i gim
  have hul := usesF_len i
  have hkn := (List.getElem?_eq_some_iff.1 gb).1
  have hjn := (List.getElem?_eq_some_iff.1 gi).1
  have hbn := hf.2.2 b gm
  have gp : (predsF (succsF f))[k]? = some (predOf (succsF f) k (succsF f).length) := by
    unfold predsF
    rw [List.getElem?_map, List.getElem?_range (by rw [succsF_len]; exact hkn)]; rfl
  refine spec_of 24 Tryd.func96 rfl rfl ?_
  repeat' first | refine Call.eq (Uses_spec i hai) rfl ?_ | refine Len.map ?_ | refine Len.nil ?_ | refine Len.cons ?_ | refine Br.t rfl ?_ | refine Br.f rfl ?_ | refine Fit.au ?_ | refine Cv.au ?_ | refine Need.ne ?_ | refine Need.au ?_ | refine Pick.map (by assumption) ?_ | refine Pick.mapI (by omega) (by assumption) ?_ | refine PickN.mk _ (by assumption) ?_ | refine PickN.mk _ rfl ?_ | refine PickN.au ?_ | refine App.au rfl ?_ | refine App.au (own_map (fun _ => rfl) _) ?_ | refine Both.mk ?_ ?_ | exact True.intro
  refine Stop.mk (go 4 Tryd.func96 ?_)
  repeat' first | refine Call.eq (Preds_spec f hf hn) rfl ?_ | refine Len.map ?_ | refine Len.nil ?_ | refine Len.cons ?_ | refine Br.t rfl ?_ | refine Br.f rfl ?_ | refine Fit.au ?_ | refine Cv.au ?_ | refine Need.ne ?_ | refine Need.au ?_ | refine Pick.map (by assumption) ?_ | refine Pick.mapI (by omega) (by assumption) ?_ | refine PickN.mk _ (by assumption) ?_ | refine PickN.mk _ rfl ?_ | refine PickN.au ?_ | refine App.au rfl ?_ | refine App.au (own_map (fun _ => rfl) _) ?_ | refine Both.mk ?_ ?_ | exact True.intro
  refine Stop.mk (run_frzR 3 rfl (fzLL_map fz_olsts _) ?_)
  refine go 1000 Tryd.func96 ?_
  repeat' first | refine Len.map ?_ | refine Len.nil ?_ | refine Len.cons ?_ | refine Br.t rfl ?_ | refine Br.f rfl ?_ | refine Fit.au ?_ | refine Cv.au ?_ | refine Need.ne ?_ | refine Need.au ?_ | refine Pick.map (by assumption) ?_ | refine Pick.mapI (by omega) (by assumption) ?_ | refine PickN.mk _ (by assumption) ?_ | refine PickN.mk _ rfl ?_ | refine PickN.au ?_ | refine App.au rfl ?_ | refine App.au (own_map (fun _ => rfl) _) ?_ | refine Both.mk ?_ ?_ | exact True.intro
  refine Stop.mk (loop_in (fun m : Nat => [(3, .hp 0 0), (1, num k), (2, num j), (7, .hp 1 0), (8, .hw 2), (9, ints (predOf (succsF f) k (succsF f).length)), (10, num m)]) (fun _ => [(0, .var f.cs), (1, .var i.cs), (2, .row 1 ((usesF i).map int1))]) 3 (fun m => m ≤ (usesF i).length ∧ (i.op ≠ 44 → ∀ u ∈ (usesF i).take m, HasP f u k j)) (fun m => (usesF i).length - m) 0 ⟨by omega, by simp⟩ (g := []) ⟨rfl, (by repeat' first | exact trivial | refine ⟨rfl, ?_⟩ | refine ⟨congrArg (fun n => AV.lit (.int .i64 n)) (by omega), ?_⟩ | refine ⟨congrArg (fun l => some (Row.row 1 l)) (by simp [int1, num, tru]), ?_⟩), (by repeat' first | exact trivial | refine ⟨rfl, ?_⟩ | refine ⟨congrArg (fun n => AV.lit (.int .i64 n)) (by omega), ?_⟩ | refine ⟨congrArg (fun l => some (Row.row 1 l)) (by simp [int1, num, tru]), ?_⟩)⟩ (fun m hm ih => ?_))
  obtain ⟨hm, hw⟩ := hm
  refine go 1000 Tryd.func96 ?_
  repeat' first | refine Len.map ?_ | refine Len.nil ?_ | refine Len.cons ?_ | refine Br.t rfl ?_ | refine Br.f rfl ?_ | refine Fit.au ?_ | refine Cv.au ?_ | refine Need.ne ?_ | refine Need.au ?_ | refine Pick.map (by assumption) ?_ | refine Pick.mapI (by omega) (by assumption) ?_ | refine PickN.mk _ (by assumption) ?_ | refine PickN.mk _ rfl ?_ | refine PickN.au ?_ | refine App.au rfl ?_ | refine App.au (own_map (fun _ => rfl) _) ?_ | refine Both.mk ?_ ?_ | exact True.intro
  refine Br.d (fun h2 => ?_) (fun h2 => ?_)
  · obtain ⟨u, gu, gum⟩ := getK (l := usesF i) (k := m) (by omega)
    repeat' first | refine Draw.mk (ordL [22, 37] [0, 1, 2, 3, 4, 5, 6, 7, 8, 9, 10, 11, 12, 13, 14, 15, 16, 17, 18, 19, 20, 21, 22, 23, 24, 25, 26, 27, 28, 29, 30, 31, 32, 33, 34, 35, 36, 37, 38, 39, 40]) (by decide +kernel) ?_ | refine Len.map ?_ | refine Len.nil ?_ | refine Len.cons ?_ | refine Br.t rfl ?_ | refine Br.f rfl ?_ | refine Fit.au ?_ | refine Cv.au ?_ | refine Need.ne ?_ | refine Need.au ?_ | refine Pick.map (by assumption) ?_ | refine Pick.mapI (by omega) (by assumption) ?_ | refine PickN.mk _ (by assumption) ?_ | refine PickN.mk _ rfl ?_ | refine PickN.au ?_ | refine App.au rfl ?_ | refine App.au (own_map (fun _ => rfl) _) ?_ | refine Both.mk ?_ ?_ | exact True.intro
    refine Br.d (fun h3 => ?_) (fun h3 => ?_)
    · obtain ⟨p, gpp, gpm⟩ := getK (l := predOf (succsF f) k (succsF f).length) (k := m) (by have := hu h3; omega)
      have hpl := predOf_lt gpm
      rw [succsF_len] at hpl
      obtain ⟨bp, gbp, gbm⟩ := getK (l := f.blocks) (k := p.toNat) (by omega)
      repeat' first | refine Len.map ?_ | refine Len.nil ?_ | refine Len.cons ?_ | refine Br.t rfl ?_ | refine Br.f rfl ?_ | refine Fit.au ?_ | refine Cv.au ?_ | refine Need.ne ?_ | refine Need.au ?_ | refine Pick.map (by assumption) ?_ | refine Pick.mapI (by omega) (by assumption) ?_ | refine PickN.mk _ (by assumption) ?_ | refine PickN.mk _ rfl ?_ | refine PickN.au ?_ | refine App.au rfl ?_ | refine App.au (own_map (fun _ => rfl) _) ?_ | refine Both.mk ?_ ?_ | exact True.intro
      refine Call.of (has34_spec f u p bp.length hf hn) ?_
      rintro r ⟨v, rfl, hv⟩
      refine ⟨rfl, ?_⟩
      repeat' first | refine Len.map ?_ | refine Len.nil ?_ | refine Len.cons ?_ | refine Br.t rfl ?_ | refine Br.f rfl ?_ | refine Fit.au ?_ | refine Cv.au ?_ | refine Need.ne ?_ | refine Need.au ?_ | refine Pick.map (by assumption) ?_ | refine Pick.mapI (by omega) (by assumption) ?_ | refine PickN.mk _ (by assumption) ?_ | refine PickN.mk _ rfl ?_ | refine PickN.au ?_ | refine App.au rfl ?_ | refine App.au (own_map (fun _ => rfl) _) ?_ | refine Both.mk ?_ ?_ | exact True.intro | refine Br.d (fun h => ?_) (fun h => ?_) | refine Br.nd (fun h => ?_) (fun h => ?_) | refine Br.mk (fun h => ?_) (fun h => ?_)
      all_goals first
        | exact ⟨false, rfl, fun h => (by cases h)⟩
        | exact absurd h3 (by assumption)
        | refine Stop.mk (ih (m + 1) (g := []) _ _ _ ⟨by omega, fun h => absurd h3 h⟩ (by omega) ⟨rfl, (by repeat' first | exact trivial | refine ⟨rfl, ?_⟩ | refine ⟨congrArg (fun n => AV.lit (.int .i64 n)) (by omega), ?_⟩ | refine ⟨congrArg (fun l => some (Row.row 1 l)) (by simp [int1, num, tru]), ?_⟩), (by repeat' first | exact trivial | refine ⟨rfl, ?_⟩ | refine ⟨congrArg (fun n => AV.lit (.int .i64 n)) (by omega), ?_⟩ | refine ⟨congrArg (fun l => some (Row.row 1 l)) (by simp [int1, num, tru]), ?_⟩)⟩)
    · repeat' first | refine Len.map ?_ | refine Len.nil ?_ | refine Len.cons ?_ | refine Br.t rfl ?_ | refine Br.f rfl ?_ | refine Fit.au ?_ | refine Cv.au ?_ | refine Need.ne ?_ | refine Need.au ?_ | refine Pick.map (by assumption) ?_ | refine Pick.mapI (by omega) (by assumption) ?_ | refine PickN.mk _ (by assumption) ?_ | refine PickN.mk _ rfl ?_ | refine PickN.au ?_ | refine App.au rfl ?_ | refine App.au (own_map (fun _ => rfl) _) ?_ | refine Both.mk ?_ ?_ | exact True.intro
      refine Br.nd (fun h4 => ?_) (fun h4 => absurd h4 h3)
      repeat' first | refine Len.map ?_ | refine Len.nil ?_ | refine Len.cons ?_ | refine Br.t rfl ?_ | refine Br.f rfl ?_ | refine Fit.au ?_ | refine Cv.au ?_ | refine Need.ne ?_ | refine Need.au ?_ | refine Pick.map (by assumption) ?_ | refine Pick.mapI (by omega) (by assumption) ?_ | refine PickN.mk _ (by assumption) ?_ | refine PickN.mk _ rfl ?_ | refine PickN.au ?_ | refine App.au rfl ?_ | refine App.au (own_map (fun _ => rfl) _) ?_ | refine Both.mk ?_ ?_ | exact True.intro
      refine Call.of (has34_spec f u k j hf hn) ?_
      rintro r ⟨v, rfl, hv⟩
      refine ⟨rfl, ?_⟩
      repeat' first | refine Len.map ?_ | refine Len.nil ?_ | refine Len.cons ?_ | refine Br.t rfl ?_ | refine Br.f rfl ?_ | refine Fit.au ?_ | refine Cv.au ?_ | refine Need.ne ?_ | refine Need.au ?_ | refine Pick.map (by assumption) ?_ | refine Pick.mapI (by omega) (by assumption) ?_ | refine PickN.mk _ (by assumption) ?_ | refine PickN.mk _ rfl ?_ | refine PickN.au ?_ | refine App.au rfl ?_ | refine App.au (own_map (fun _ => rfl) _) ?_ | refine Both.mk ?_ ?_ | exact True.intro | refine Br.d (fun h => ?_) (fun h => ?_) | refine Br.nd (fun h => ?_) (fun h => ?_) | refine Br.mk (fun h => ?_) (fun h => ?_)
      · exact ⟨false, rfl, fun h => (by cases h)⟩
      · refine Stop.mk (ih (m + 1) (g := []) _ _ _ ⟨by omega, fun h => all_take_succ gu (hw h) (hv.1 (by simpa using ‹(!v) = false›))⟩ (by omega) ⟨rfl, (by repeat' first | exact trivial | refine ⟨rfl, ?_⟩ | refine ⟨congrArg (fun n => AV.lit (.int .i64 n)) (by omega), ?_⟩ | refine ⟨congrArg (fun l => some (Row.row 1 l)) (by simp [int1, num, tru]), ?_⟩), (by repeat' first | exact trivial | refine ⟨rfl, ?_⟩ | refine ⟨congrArg (fun n => AV.lit (.int .i64 n)) (by omega), ?_⟩ | refine ⟨congrArg (fun l => some (Row.row 1 l)) (by simp [int1, num, tru]), ?_⟩)⟩)
  · repeat' first | refine Len.map ?_ | refine Len.nil ?_ | refine Len.cons ?_ | refine Br.t rfl ?_ | refine Br.f rfl ?_ | refine Fit.au ?_ | refine Cv.au ?_ | refine Need.ne ?_ | refine Need.au ?_ | refine Pick.map (by assumption) ?_ | refine Pick.mapI (by omega) (by assumption) ?_ | refine PickN.mk _ (by assumption) ?_ | refine PickN.mk _ rfl ?_ | refine PickN.au ?_ | refine App.au rfl ?_ | refine App.au (own_map (fun _ => rfl) _) ?_ | refine Both.mk ?_ ?_ | exact True.intro
    rw [take_all (by omega)] at hw
    exact ⟨true, rfl, fun _ => hw⟩
end Go.Proofs.YtdgibhndjdgllaaDoor
