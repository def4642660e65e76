/- The check of programs: one instruction, by a contract. -/
import Derived.Test.YtdgibhndjdgllaaDoorH17
import Derived.Test.YtdgibhndjdgllaaDoorH07
import Derived.Test.YtdgibhndjdgllaaDoorH09
import Derived.Test.YtdgibhndjdgllaaDoorH11
import Derived.Test.YtdgibhndjdgllaaDoorH16
set_option linter.unusedVariables false
set_option linter.unusedSimpArgs false

namespace Go.Proofs.YtdgibhndjdgllaaDoor
open Go.Ax
set_option maxRecDepth 10000
set_option linter.unusedVariables false

end Go.Proofs.YtdgibhndjdgllaaDoor

/- The check of programs: a function itself, by a contract. -/
namespace Go.Proofs.YtdgibhndjdgllaaDoor
open Go.Ax
set_option maxRecDepth 10000
set_option linter.unusedVariables false

end Go.Proofs.YtdgibhndjdgllaaDoor

/- The check of programs, by a contract. -/
namespace Go.Proofs.YtdgibhndjdgllaaDoor
open Go.Ax
set_option maxRecDepth 10000
set_option linter.unusedVariables false

end Go.Proofs.YtdgibhndjdgllaaDoor

/- The check of proper programs, by contracts. -/
namespace Go.Proofs.YtdgibhndjdgllaaDoor
open Go.Ax
set_option maxRecDepth 10000
set_option linter.unusedVariables false

end Go.Proofs.YtdgibhndjdgllaaDoor

/- The document's answer for names, by contracts, and the law RootTells as a function. -/
namespace Go.Proofs.YtdgibhndjdgllaaDoor
open Go.Ax
set_option maxRecDepth 10000
set_option linter.unusedVariables false

end Go.Proofs.YtdgibhndjdgllaaDoor

/- Whether an array is there from its writing on (the document's), by a contract. -/
namespace Go.Proofs.YtdgibhndjdgllaaDoor
open Go.Ax
set_option maxRecDepth 10000
set_option linter.unusedVariables false
set_option maxHeartbeats 0

end Go.Proofs.YtdgibhndjdgllaaDoor

/- Where an array is surely there (the document's), by a contract. -/
namespace Go.Proofs.YtdgibhndjdgllaaDoor
open Go.Ax
set_option maxRecDepth 10000
set_option linter.unusedVariables false
set_option maxHeartbeats 0

open Classical in
noncomputable def nowB (f : Fun) (k : Nat) (q : Int) (a : Nat) : Bool := decide (AskP f k a q)
noncomputable def sureB (f : Fun) (x : Int) (k a : Nat) : Bool := decide (bornP f x) || nowB f k ((newF f).root x) a
open Classical in
theorem nowB_iff {f : Fun} {k : Nat} {q : Int} {a : Nat} : nowB f k q a = true ↔ AskP f k a q := by unfold nowB; exact decide_eq_true_iff
end Go.Proofs.YtdgibhndjdgllaaDoor

/- nils.Facts.Sure, by contracts. -/
namespace Go.Proofs.YtdgibhndjdgllaaDoor
open Go.Ax
set_option maxRecDepth 10000
set_option linter.unusedVariables false
set_option maxHeartbeats 0

theorem Or_nil2_spec (s : List W) (hs : s.length ≤ 1000000) : FnSpec Tryd.prog 36 [sets s, .lit (.slice none 0 0)] (fun r => r = .osl 1 ((orW s []).map u1)) := (Or36_spec s [] hs (by simp)).args (.cons (Le.refl _) (.cons Le.none .nil))
theorem Sure18_spec (f : Fun) (h : NilW f) (L : List Bool) (hL : ∀ k : Nat, k < f.blocks.length → L[k]? = some true) {T F : List (List W)} (hs : SolP (nilsP f) T F) (k x a : Nat) (bk : List Ins) (gk : f.blocks[k]? = some bk) (gx : f.regs[x]? = some 3) (ha : a ≤ bk.length) (hrx : 0 ≤ (newF f).root x ∧ (newF f).root x < f.regs.length) : FnSpec Tryd.prog 18 [factA f L F, num k, num a, num x] (fun r => r = tru (sureB f x k a)) := by
  have hlF : F.length = f.blocks.length := hs.lenF.trans (succsF_len f)
  have hblk := h.blocks
  have hreg := h.reg
  have hwn := wn_le h.regs
  obtain ⟨hx, -⟩ := List.getElem?_eq_some_iff.1 gx
  obtain ⟨hk, hke⟩ := List.getElem?_eq_some_iff.1 gk
  have hbm : bk ∈ f.blocks := hke ▸ List.getElem_mem hk
  have hlen := h.len bk hbm
  have hib := h.ins bk hbm
  have hfi := (h.fit.2.2 bk hbm).2
  have hK := known47_yes f L F k (by omega) (by omega) (hL k hk)
  have hB := born48_spec f L F hreg x
  have hR := Root_spec (newF f) x (by rw [newF_len]; omega)
  obtain ⟨q, hq⟩ := Int.eq_ofNat_of_zero_le hrx.1
  rw [hq] at hR
  obtain ⟨s0, gF, hFm⟩ := getK (l := F) (k := k) (by omega)
  have e0 : F.getD k [] = s0 := by rw [List.getD_eq_getElem?_getD, gF]; rfl
  have ebk : f.blocks.getD k [] = bk := by rw [List.getD_eq_getElem?_getD, gk]; rfl
  have hl0 : s0.length = wn f.regs.length := by rw [← e0]; exact hs.widF k (by show k < (succsF f).length; rw [succsF_len]; exact hk)
  have hO := Or_nil2_spec s0 (by omega)
  have hol := orn_len s0
  have hat := nil_at h.toNilOK hs hk a q (by omega)
  rw [e0, ebk] at hat
  have hsu : sureB f x k a = (decide (bornP f x) || nowB f k q a) := by unfold sureB; rw [hq]
  refine spec_of 1000 Tryd.func18 rfl rfl ?_
  by_cases hb : bornP f x
  · rw [decide_eq_true hb] at hB hsu
    repeat' first | refine Call.eq hK rfl ?_ | refine Call.eq hB rfl ?_ | (refine Br.f ?_ ?_; focus (first | (simp; done) | (simp; omega))) | refine Pick.map gx ?_ | refine Pick.map gk ?_ | refine Len.map ?_ | refine Len.nil ?_ | refine Len.cons ?_ | refine Br.t rfl ?_ | refine Br.f rfl ?_ | refine Fit.au ?_ | refine Cv.au ?_ | refine Need.ne ?_ | refine Need.au ?_ | refine Pick.map (by assumption) ?_ | refine Pick.mapI (by omega) (by assumption) ?_ | refine PickN.mk _ (by assumption) ?_ | refine PickN.mk _ rfl ?_ | refine PickN.au ?_ | refine App.au rfl ?_ | refine App.au (own_map (fun _ => rfl) _) ?_ | refine Both.mk ?_ ?_ | exact True.intro
    rw [hsu]; rfl
  · rw [decide_eq_false hb] at hB hsu
    repeat' first | refine Call.eq hK rfl ?_ | refine Call.eq hB rfl ?_ | (refine Br.f ?_ ?_; focus (first | (simp; done) | (simp; omega))) | refine Pick.map gx ?_ | refine Pick.map gk ?_ | refine Pick.map gF ?_ | refine Call.eq hO rfl ?_ | refine Len.map ?_ | refine Len.nil ?_ | refine Len.cons ?_ | refine Br.t rfl ?_ | refine Br.f rfl ?_ | refine Fit.au ?_ | refine Cv.au ?_ | refine Need.ne ?_ | refine Need.au ?_ | refine Pick.map (by assumption) ?_ | refine Pick.mapI (by omega) (by assumption) ?_ | refine PickN.mk _ (by assumption) ?_ | refine PickN.mk _ rfl ?_ | refine PickN.au ?_ | refine App.au rfl ?_ | refine App.au (own_map (fun _ => rfl) _) ?_ | refine Both.mk ?_ ?_ | exact True.intro
    refine Ax.Sub.mk ((bk.take a).map Ins.cs) (by omega) (by omega) (by rw [List.length_map]; omega) (by simp [List.map_take]) ?_
    have hBl : (bk.take a).length = a := by rw [List.length_take]; omega
    obtain ⟨B, hB2⟩ : ∃ B, B = bk.take a := ⟨_, rfl⟩
    have hBm : ∀ i ∈ B, i ∈ bk := fun i hi => List.mem_of_mem_take (hB2 ▸ hi)
    rw [← hB2] at hBl hat ⊢
    repeat' first | refine Len.map ?_ | refine Len.nil ?_ | refine Len.cons ?_ | refine Br.t rfl ?_ | refine Br.f rfl ?_ | refine Fit.au ?_ | refine Cv.au ?_ | refine Need.ne ?_ | refine Need.au ?_ | refine Pick.map (by assumption) ?_ | refine Pick.mapI (by omega) (by assumption) ?_ | refine PickN.mk _ (by assumption) ?_ | refine PickN.mk _ rfl ?_ | refine PickN.au ?_ | refine App.au rfl ?_ | refine App.au (own_map (fun _ => rfl) _) ?_ | refine Both.mk ?_ ?_ | exact True.intro
    refine Stop.mk (loop_in (g := [(2, 0)]) (fun j : Nat => [(0, factA f L F), (3, num x), (10, .hw 2), (73, .sl false 9 (B.map Ins.cs)), (74, num B.length), (75, num j)]) (fun j => [(2, rowW (nilsW f (B.take j) (orW s0 [])))]) 3 (fun j => j ≤ B.length) (fun j => B.length - j) 0 (Nat.zero_le _) ⟨rfl, (by repeat' first | exact trivial | refine ⟨rfl, ?_⟩ | refine ⟨congrArg (fun n => AV.lit (.int .i64 n)) (by omega), ?_⟩ | refine ⟨congrArg (fun l => some (Row.row 1 l)) (by simp [int1, num, tru]), ?_⟩), (by repeat' first | exact trivial | refine ⟨rfl, ?_⟩ | refine ⟨congrArg (fun n => AV.lit (.int .i64 n)) (by omega), ?_⟩ | refine ⟨congrArg (fun l => some (Row.row 1 l)) (by simp [int1, num, tru]), ?_⟩)⟩ (fun j hj ih2 => ?_))
    by_cases hjl : j < B.length
    · obtain ⟨i, gi, hiB⟩ := getK (l := B) (k := j) hjl
      have him := hBm i hiB
      have hC := changes44_spec f i (hfi i him) hreg
      have hbn := hib i him
      have hcl := chg_len f i
      have hst1 := nilsW_take (f := f) (s := orW s0 []) gi
      have hl1 : (nilsW f (B.take j) (orW s0 [])).length = wn f.regs.length := (nilsW_len ..).trans (hol.trans hl0)
      have ih2' := @ih2 (j + 1)
      rw [hst1] at ih2'
      generalize nilsW f (B.take j) (orW s0 []) = g0 at *
      rw [← chg_fold] at ih2'
      refine go 1000 Tryd.func18 ?_
      repeat' first | refine Br.t (by simp; omega) ?_ | refine Draw.mk (ordL [9] [0, 1, 2, 3, 4, 5, 6, 7, 8, 11, 9, 10]) (by decide +kernel) ?_ | refine Pick.map gi ?_ | refine Call.eq hC rfl ?_ | refine Len.map ?_ | refine Len.nil ?_ | refine Len.cons ?_ | refine Br.t rfl ?_ | refine Br.f rfl ?_ | refine Fit.au ?_ | refine Cv.au ?_ | refine Need.ne ?_ | refine Need.au ?_ | refine Pick.map (by assumption) ?_ | refine Pick.mapI (by omega) (by assumption) ?_ | refine PickN.mk _ (by assumption) ?_ | refine PickN.mk _ rfl ?_ | refine PickN.au ?_ | refine App.au rfl ?_ | refine App.au (own_map (fun _ => rfl) _) ?_ | refine Both.mk ?_ ?_ | exact True.intro
      refine Stop.mk (loop_in (g := []) (fun c : Nat => [(88, .hw 4), (89, num (chgL f i).length), (90, num c), (0, factA f L F), (3, num x), (10, .hw 2), (73, .sl false 9 (B.map Ins.cs)), (74, num B.length), (75, num j)]) (fun c => [(4, .row 2 ((chgL f i).map chA)), (3, .var i.cs), (2, rowW (((chgL f i).take c).foldl chW g0))]) 5 (fun c => c ≤ (chgL f i).length) (fun c => (chgL f i).length - c) 0 (Nat.zero_le _) ⟨rfl, (by repeat' first | exact trivial | refine ⟨rfl, ?_⟩ | refine ⟨congrArg (fun n => AV.lit (.int .i64 n)) (by omega), ?_⟩ | refine ⟨congrArg (fun l => some (Row.row 1 l)) (by simp [int1, num, tru]), ?_⟩), (by repeat' first | exact trivial | refine ⟨rfl, ?_⟩ | refine ⟨congrArg (fun n => AV.lit (.int .i64 n)) (by omega), ?_⟩ | refine ⟨congrArg (fun l => some (Row.row 1 l)) (by simp [int1, num, tru]), ?_⟩)⟩ (fun c hc ih3 => ?_))
      by_cases hcc : c < (chgL f i).length
      · obtain ⟨⟨bo, z⟩, gc, hcm⟩ := getK (l := chgL f i) (k := c) hcc
        have hx := chg_pos hbn hcm
        obtain ⟨y, hy⟩ := Int.eq_ofNat_of_zero_le hx.1
        dsimp only at hx hy
        subst hy
        have hs1 := chg_take (s := g0) gc
        have hm1 : (((chgL f i).take c).foldl chW g0).length ≤ 1000000 := by rw [chgs_len, hl1]; omega
        have ih3' := @ih3 (c + 1)
        rw [hs1] at ih3'
        generalize ((chgL f i).take c).foldl chW g0 = g1 at *
        cases bo with
        | true =>
          refine go 1000 Tryd.func18 ?_
          repeat' first | refine Br.t (by simp; omega) ?_ | refine Need.mk ⟨by omega, by rw [List.length_map]; omega⟩ ?_ | refine PickN.map gc ?_ | refine Len.map ?_ | refine Len.nil ?_ | refine Len.cons ?_ | refine Br.t rfl ?_ | refine Br.f rfl ?_ | refine Fit.au ?_ | refine Cv.au ?_ | refine Need.ne ?_ | refine Need.au ?_ | refine Pick.map (by assumption) ?_ | refine Pick.mapI (by omega) (by assumption) ?_ | refine PickN.mk _ (by assumption) ?_ | refine PickN.mk _ rfl ?_ | refine PickN.au ?_ | refine App.au rfl ?_ | refine App.au (own_map (fun _ => rfl) _) ?_ | refine Both.mk ?_ ?_ | exact True.intro
          refine Dyn.mk _ _ rfl rfl rfl (putS_run g1 y _ _ _ hm1 (by omega) (fun e v => ?_) (fun v => ?_))
          · repeat' first | refine Len.map ?_ | refine Len.nil ?_ | refine Len.cons ?_ | refine Br.t rfl ?_ | refine Br.f rfl ?_ | refine Fit.au ?_ | refine Cv.au ?_ | refine Need.ne ?_ | refine Need.au ?_ | refine Pick.map (by assumption) ?_ | refine Pick.mapI (by omega) (by assumption) ?_ | refine PickN.mk _ (by assumption) ?_ | refine PickN.mk _ rfl ?_ | refine PickN.au ?_ | refine App.au rfl ?_ | refine App.au (own_map (fun _ => rfl) _) ?_ | refine Both.mk ?_ ?_ | exact True.intro
            rw [show chW g1 (true, (y : Int)) = g1 from e] at ih3'
            exact Stop.mk (ih3' (g := []) _ _ _ (by omega) (by omega) ⟨rfl, (by repeat' first | exact trivial | refine ⟨rfl, ?_⟩ | refine ⟨congrArg (fun n => AV.lit (.int .i64 n)) (by omega), ?_⟩ | refine ⟨congrArg (fun l => some (Row.row 1 l)) (by simp [int1, num, tru]), ?_⟩), (by repeat' first | exact trivial | refine ⟨rfl, ?_⟩ | refine ⟨congrArg (fun n => AV.lit (.int .i64 n)) (by omega), ?_⟩ | refine ⟨congrArg (fun l => some (Row.row 1 l)) (by simp [int1, num, tru]), ?_⟩)⟩)
          · repeat' first | refine Len.map ?_ | refine Len.nil ?_ | refine Len.cons ?_ | refine Br.t rfl ?_ | refine Br.f rfl ?_ | refine Fit.au ?_ | refine Cv.au ?_ | refine Need.ne ?_ | refine Need.au ?_ | refine Pick.map (by assumption) ?_ | refine Pick.mapI (by omega) (by assumption) ?_ | refine PickN.mk _ (by assumption) ?_ | refine PickN.mk _ rfl ?_ | refine PickN.au ?_ | refine App.au rfl ?_ | refine App.au (own_map (fun _ => rfl) _) ?_ | refine Both.mk ?_ ?_ | exact True.intro
            rw [show chW g1 (true, (y : Int)) = putW g1 y from rfl] at ih3'
            exact Stop.mk (ih3' (g := []) _ _ _ (by omega) (by omega) ⟨rfl, (by repeat' first | exact trivial | refine ⟨rfl, ?_⟩ | refine ⟨congrArg (fun n => AV.lit (.int .i64 n)) (by omega), ?_⟩ | refine ⟨congrArg (fun l => some (Row.row 1 l)) (by simp [int1, num, tru]), ?_⟩), (by repeat' first | exact trivial | refine ⟨rfl, ?_⟩ | refine ⟨congrArg (fun n => AV.lit (.int .i64 n)) (by omega), ?_⟩ | refine ⟨congrArg (fun l => some (Row.row 1 l)) (by simp [int1, num, tru]), ?_⟩)⟩)
        | false =>
          refine go 1000 Tryd.func18 ?_
          repeat' first | refine Br.t (by simp; omega) ?_ | refine Need.mk ⟨by omega, by rw [List.length_map]; omega⟩ ?_ | refine PickN.map gc ?_ | refine Len.map ?_ | refine Len.nil ?_ | refine Len.cons ?_ | refine Br.t rfl ?_ | refine Br.f rfl ?_ | refine Fit.au ?_ | refine Cv.au ?_ | refine Need.ne ?_ | refine Need.au ?_ | refine Pick.map (by assumption) ?_ | refine Pick.mapI (by omega) (by assumption) ?_ | refine PickN.mk _ (by assumption) ?_ | refine PickN.mk _ rfl ?_ | refine PickN.au ?_ | refine App.au rfl ?_ | refine App.au (own_map (fun _ => rfl) _) ?_ | refine Both.mk ?_ ?_ | exact True.intro
          refine Dyn.mk _ _ rfl rfl rfl (dropS_run g1 y _ _ _ hm1 (by omega) (fun e v => ?_) (fun v => ?_))
          · repeat' first | refine Len.map ?_ | refine Len.nil ?_ | refine Len.cons ?_ | refine Br.t rfl ?_ | refine Br.f rfl ?_ | refine Fit.au ?_ | refine Cv.au ?_ | refine Need.ne ?_ | refine Need.au ?_ | refine Pick.map (by assumption) ?_ | refine Pick.mapI (by omega) (by assumption) ?_ | refine PickN.mk _ (by assumption) ?_ | refine PickN.mk _ rfl ?_ | refine PickN.au ?_ | refine App.au rfl ?_ | refine App.au (own_map (fun _ => rfl) _) ?_ | refine Both.mk ?_ ?_ | exact True.intro
            rw [show chW g1 (false, (y : Int)) = g1 from e] at ih3'
            exact Stop.mk (ih3' (g := []) _ _ _ (by omega) (by omega) ⟨rfl, (by repeat' first | exact trivial | refine ⟨rfl, ?_⟩ | refine ⟨congrArg (fun n => AV.lit (.int .i64 n)) (by omega), ?_⟩ | refine ⟨congrArg (fun l => some (Row.row 1 l)) (by simp [int1, num, tru]), ?_⟩), (by repeat' first | exact trivial | refine ⟨rfl, ?_⟩ | refine ⟨congrArg (fun n => AV.lit (.int .i64 n)) (by omega), ?_⟩ | refine ⟨congrArg (fun l => some (Row.row 1 l)) (by simp [int1, num, tru]), ?_⟩)⟩)
          · repeat' first | refine Len.map ?_ | refine Len.nil ?_ | refine Len.cons ?_ | refine Br.t rfl ?_ | refine Br.f rfl ?_ | refine Fit.au ?_ | refine Cv.au ?_ | refine Need.ne ?_ | refine Need.au ?_ | refine Pick.map (by assumption) ?_ | refine Pick.mapI (by omega) (by assumption) ?_ | refine PickN.mk _ (by assumption) ?_ | refine PickN.mk _ rfl ?_ | refine PickN.au ?_ | refine App.au rfl ?_ | refine App.au (own_map (fun _ => rfl) _) ?_ | refine Both.mk ?_ ?_ | exact True.intro
            rw [show chW g1 (false, (y : Int)) = dropW g1 y from rfl] at ih3'
            exact Stop.mk (ih3' (g := []) _ _ _ (by omega) (by omega) ⟨rfl, (by repeat' first | exact trivial | refine ⟨rfl, ?_⟩ | refine ⟨congrArg (fun n => AV.lit (.int .i64 n)) (by omega), ?_⟩ | refine ⟨congrArg (fun l => some (Row.row 1 l)) (by simp [int1, num, tru]), ?_⟩), (by repeat' first | exact trivial | refine ⟨rfl, ?_⟩ | refine ⟨congrArg (fun n => AV.lit (.int .i64 n)) (by omega), ?_⟩ | refine ⟨congrArg (fun l => some (Row.row 1 l)) (by simp [int1, num, tru]), ?_⟩)⟩)
      · obtain rfl : c = (chgL f i).length := by omega
        rw [List.take_length]
        refine go 1000 Tryd.func18 ?_
        repeat' first | refine Br.f (by simp) ?_ | refine Len.map ?_ | refine Len.nil ?_ | refine Len.cons ?_ | refine Br.t rfl ?_ | refine Br.f rfl ?_ | refine Fit.au ?_ | refine Cv.au ?_ | refine Need.ne ?_ | refine Need.au ?_ | refine Pick.map (by assumption) ?_ | refine Pick.mapI (by omega) (by assumption) ?_ | refine PickN.mk _ (by assumption) ?_ | refine PickN.mk _ rfl ?_ | refine PickN.au ?_ | refine App.au rfl ?_ | refine App.au (own_map (fun _ => rfl) _) ?_ | refine Both.mk ?_ ?_ | exact True.intro
        exact Stop.mk (ih2' (g := []) _ _ _ (by omega) (by omega) ⟨rfl, (by repeat' first | exact trivial | refine ⟨rfl, ?_⟩ | refine ⟨congrArg (fun n => AV.lit (.int .i64 n)) (by omega), ?_⟩ | refine ⟨congrArg (fun l => some (Row.row 1 l)) (by simp [int1, num, tru]), ?_⟩), (by repeat' first | exact trivial | refine ⟨rfl, ?_⟩ | refine ⟨congrArg (fun n => AV.lit (.int .i64 n)) (by omega), ?_⟩ | refine ⟨congrArg (fun l => some (Row.row 1 l)) (by simp [int1, num, tru]), ?_⟩)⟩)
    · obtain rfl : j = B.length := by omega
      rw [List.take_length]
      have hH := Has11_spec (nilsW f B (orW s0 [])) q (by rw [nilsW_len, hol, hl0]; omega) (by omega)
      refine go 1000 Tryd.func18 ?_
      repeat' first | refine Br.f (by simp) ?_ | refine Call.eq hR rfl ?_ | refine Look.yes (View.mk _ (fzw _) ?_) | refine CallV.eq hH rfl (Free.lit _) ?_ | refine Len.map ?_ | refine Len.nil ?_ | refine Len.cons ?_ | refine Br.t rfl ?_ | refine Br.f rfl ?_ | refine Fit.au ?_ | refine Cv.au ?_ | refine Need.ne ?_ | refine Need.au ?_ | refine Pick.map (by assumption) ?_ | refine Pick.mapI (by omega) (by assumption) ?_ | refine PickN.mk _ (by assumption) ?_ | refine PickN.mk _ rfl ?_ | refine PickN.au ?_ | refine App.au rfl ?_ | refine App.au (own_map (fun _ => rfl) _) ?_ | refine Both.mk ?_ ?_ | exact True.intro
      rw [hsu, Bool.false_or]
      exact congrArg tru (Bool.eq_iff_iff.2 (hat.trans nowB_iff.symm))
end Go.Proofs.YtdgibhndjdgllaaDoor

/- nils.Facts.Sure and At, of any function's facts, any place and any name: what is told implies that the place and the name are there. -/
namespace Go.Proofs.YtdgibhndjdgllaaDoor
open Go.Ax
set_option maxRecDepth 10000
set_option linter.unusedVariables false
set_option maxHeartbeats 0

theorem Has11_any (s : List W) (x : Int) (hs : s.length ≤ 1000000) (hx : num64 x) : FnSpec Tryd.prog 11 [sets s, num x] (fun r => ∃ v, r = tru v) := by
  by_cases h0 : 0 ≤ x
  · obtain ⟨i, rfl⟩ := Int.eq_ofNat_of_zero_le h0
    have hi := hx.2
    refine spec_of 8 Tryd.func11 rfl rfl ?_
    repeat' first | refine Len.map ?_ | refine Len.nil ?_ | refine Len.cons ?_ | refine Br.t rfl ?_ | refine Br.f rfl ?_ | refine Fit.au ?_ | refine Cv.au ?_ | refine Need.ne ?_ | refine Need.au ?_ | refine Pick.map (by assumption) ?_ | refine Pick.mapI (by omega) (by assumption) ?_ | refine PickN.mk _ (by assumption) ?_ | refine PickN.mk _ rfl ?_ | refine PickN.au ?_ | refine App.au rfl ?_ | refine App.au (own_map (fun _ => rfl) _) ?_ | refine Both.mk ?_ ?_ | exact True.intro
    by_cases h : i / 64 < s.length
    · obtain ⟨w, gw, -⟩ := getK (l := s) (k := i / 64) h
      refine Stop.mk ?_
      refine run_inlC rfl want_none rfl rfl rfl rfl rfl rfl rfl (goI 1000 Tryd.func30 ?_)
      repeat' first | refine Len.map ?_ | refine Len.nil ?_ | refine Len.cons ?_ | refine Br.t rfl ?_ | refine Br.f rfl ?_ | refine Fit.au ?_ | refine Cv.au ?_ | refine Need.ne ?_ | refine Need.au ?_ | refine Pick.map (by assumption) ?_ | refine Pick.mapI (by omega) (by assumption) ?_ | refine PickN.mk _ (by assumption) ?_ | refine PickN.mk _ rfl ?_ | refine PickN.au ?_ | refine App.au rfl ?_ | refine App.au (own_map (fun _ => rfl) _) ?_ | refine Both.mk ?_ ?_ | exact True.intro
      rw [quoI]
      refine Br.f (by simp; omega) ?_
      repeat' first | refine Draw.mk (ordL [] [0, 1, 2, 3, 4, 5, 6, 7, 8, 9]) (by decide +kernel) ?_ | (rw [quoI]; refine Pick.map gw ?_) | refine Need.mk (Int.tmod_nonneg _ (by omega)) ?_ | refine cvBit ?_ | refine Len.map ?_ | refine Len.nil ?_ | refine Len.cons ?_ | refine Br.t rfl ?_ | refine Br.f rfl ?_ | refine Fit.au ?_ | refine Cv.au ?_ | refine Need.ne ?_ | refine Need.au ?_ | refine Pick.map (by assumption) ?_ | refine Pick.mapI (by omega) (by assumption) ?_ | refine PickN.mk _ (by assumption) ?_ | refine PickN.mk _ rfl ?_ | refine PickN.au ?_ | refine App.au rfl ?_ | refine App.au (own_map (fun _ => rfl) _) ?_ | refine Both.mk ?_ ?_ | exact True.intro
      all_goals refine go 1000 Tryd.func11 ?_
      repeat' first | refine Len.map ?_ | refine Len.nil ?_ | refine Len.cons ?_ | refine Br.t rfl ?_ | refine Br.f rfl ?_ | refine Fit.au ?_ | refine Cv.au ?_ | refine Need.ne ?_ | refine Need.au ?_ | refine Pick.map (by assumption) ?_ | refine Pick.mapI (by omega) (by assumption) ?_ | refine PickN.mk _ (by assumption) ?_ | refine PickN.mk _ rfl ?_ | refine PickN.au ?_ | refine App.au rfl ?_ | refine App.au (own_map (fun _ => rfl) _) ?_ | refine Both.mk ?_ ?_ | exact True.intro
      all_goals exact ⟨_, rfl⟩
    · refine Stop.mk ?_
      refine run_inlC rfl want_none rfl rfl rfl rfl rfl rfl rfl (goI 1000 Tryd.func30 ?_)
      repeat' first | refine Len.map ?_ | refine Len.nil ?_ | refine Len.cons ?_ | refine Br.t rfl ?_ | refine Br.f rfl ?_ | refine Fit.au ?_ | refine Cv.au ?_ | refine Need.ne ?_ | refine Need.au ?_ | refine Pick.map (by assumption) ?_ | refine Pick.mapI (by omega) (by assumption) ?_ | refine PickN.mk _ (by assumption) ?_ | refine PickN.mk _ rfl ?_ | refine PickN.au ?_ | refine App.au rfl ?_ | refine App.au (own_map (fun _ => rfl) _) ?_ | refine Both.mk ?_ ?_ | exact True.intro
      rw [quoI]
      refine Br.t (by simp; omega) ?_
      repeat' first | refine Len.map ?_ | refine Len.nil ?_ | refine Len.cons ?_ | refine Br.t rfl ?_ | refine Br.f rfl ?_ | refine Fit.au ?_ | refine Cv.au ?_ | refine Need.ne ?_ | refine Need.au ?_ | refine Pick.map (by assumption) ?_ | refine Pick.mapI (by omega) (by assumption) ?_ | refine PickN.mk _ (by assumption) ?_ | refine PickN.mk _ rfl ?_ | refine PickN.au ?_ | refine App.au rfl ?_ | refine App.au (own_map (fun _ => rfl) _) ?_ | refine Both.mk ?_ ?_ | exact True.intro
      refine go 1000 Tryd.func11 ?_
      repeat' first | refine Len.map ?_ | refine Len.nil ?_ | refine Len.cons ?_ | refine Br.t rfl ?_ | refine Br.f rfl ?_ | refine Fit.au ?_ | refine Cv.au ?_ | refine Need.ne ?_ | refine Need.au ?_ | refine Pick.map (by assumption) ?_ | refine Pick.mapI (by omega) (by assumption) ?_ | refine PickN.mk _ (by assumption) ?_ | refine PickN.mk _ rfl ?_ | refine PickN.au ?_ | refine App.au rfl ?_ | refine App.au (own_map (fun _ => rfl) _) ?_ | refine Both.mk ?_ ?_ | exact True.intro
      exact ⟨_, rfl⟩
  · refine spec_of 8 Tryd.func11 rfl rfl ?_
    repeat' first | refine Len.map ?_ | refine Len.nil ?_ | refine Len.cons ?_ | refine Br.t rfl ?_ | refine Br.f rfl ?_ | refine Fit.au ?_ | refine Cv.au ?_ | refine Need.ne ?_ | refine Need.au ?_ | refine Pick.map (by assumption) ?_ | refine Pick.mapI (by omega) (by assumption) ?_ | refine PickN.mk _ (by assumption) ?_ | refine PickN.mk _ rfl ?_ | refine PickN.au ?_ | refine App.au rfl ?_ | refine App.au (own_map (fun _ => rfl) _) ?_ | refine Both.mk ?_ ?_ | exact True.intro
    refine Stop.mk ?_
    refine run_inlC rfl want_none rfl rfl rfl rfl rfl rfl rfl (goI 1000 Tryd.func30 ?_)
    repeat' first | refine Len.map ?_ | refine Len.nil ?_ | refine Len.cons ?_ | refine Br.t rfl ?_ | refine Br.f rfl ?_ | refine Fit.au ?_ | refine Cv.au ?_ | refine Need.ne ?_ | refine Need.au ?_ | refine Pick.map (by assumption) ?_ | refine Pick.mapI (by omega) (by assumption) ?_ | refine PickN.mk _ (by assumption) ?_ | refine PickN.mk _ rfl ?_ | refine PickN.au ?_ | refine App.au rfl ?_ | refine App.au (own_map (fun _ => rfl) _) ?_ | refine Both.mk ?_ ?_ | exact True.intro
    refine Br.t (by simp; omega) ?_
    repeat' first | refine Len.map ?_ | refine Len.nil ?_ | refine Len.cons ?_ | refine Br.t rfl ?_ | refine Br.f rfl ?_ | refine Fit.au ?_ | refine Cv.au ?_ | refine Need.ne ?_ | refine Need.au ?_ | refine Pick.map (by assumption) ?_ | refine Pick.mapI (by omega) (by assumption) ?_ | refine PickN.mk _ (by assumption) ?_ | refine PickN.mk _ rfl ?_ | refine PickN.au ?_ | refine App.au rfl ?_ | refine App.au (own_map (fun _ => rfl) _) ?_ | refine Both.mk ?_ ?_ | exact True.intro
    refine go 1000 Tryd.func11 ?_
    repeat' first | refine Len.map ?_ | refine Len.nil ?_ | refine Len.cons ?_ | refine Br.t rfl ?_ | refine Br.f rfl ?_ | refine Fit.au ?_ | refine Cv.au ?_ | refine Need.ne ?_ | refine Need.au ?_ | refine Pick.map (by assumption) ?_ | refine Pick.mapI (by omega) (by assumption) ?_ | refine PickN.mk _ (by assumption) ?_ | refine PickN.mk _ rfl ?_ | refine PickN.au ?_ | refine App.au rfl ?_ | refine App.au (own_map (fun _ => rfl) _) ?_ | refine Both.mk ?_ ?_ | exact True.intro
    exact ⟨_, rfl⟩
/-- Is a block known? -/
def kn47 (L : List Bool) (F : List (List W)) (b : Int) : Prop := 0 ≤ b ∧ b < F.length ∧ L[b.toNat]? = some true
instance (L : List Bool) (F : List (List W)) (b : Int) : Decidable (kn47 L F b) := by unfold kn47; infer_instance
theorem known47_any (f : Fun) (L : List Bool) (F : List (List W)) (b : Int) (hF : F.length ≤ 65536) (hL : F.length ≤ L.length) : FnSpec Tryd.prog 47 [factA f L F, num b] (fun r => r = tru (decide (kn47 L F b))) := by
  by_cases h : 0 ≤ b ∧ b < F.length
  · obtain ⟨k, rfl⟩ := Int.eq_ofNat_of_zero_le h.1
    obtain ⟨v, gv, -⟩ := getK (l := L) (k := k) (by omega)
    cases v with
    | true =>
      rw [decide_eq_true (show kn47 L F k from ⟨h.1, h.2, gv⟩)]
      exact known47_yes f L F k (by omega) hF gv
    | false =>
      rw [decide_eq_false (show ¬ kn47 L F k from fun e => by have := e.2.2; rw [Int.toNat_natCast, gv] at this; cases this)]
      refine spec_of 1000 Tryd.func47 rfl rfl ?_
      repeat' first | (refine Br.t ?_ ?_; focus (first | (simp; done) | (simp; omega))) | refine Pick.map gv ?_ | refine Len.map ?_ | refine Len.nil ?_ | refine Len.cons ?_ | refine Br.t rfl ?_ | refine Br.f rfl ?_ | refine Fit.au ?_ | refine Cv.au ?_ | refine Need.ne ?_ | refine Need.au ?_ | refine Pick.map (by assumption) ?_ | refine Pick.mapI (by omega) (by assumption) ?_ | refine PickN.mk _ (by assumption) ?_ | refine PickN.mk _ rfl ?_ | refine PickN.au ?_ | refine App.au rfl ?_ | refine App.au (own_map (fun _ => rfl) _) ?_ | refine Both.mk ?_ ?_ | exact True.intro
      first | rfl | (show tru _ = tru false; simp; done)
  · rw [decide_eq_false (show ¬ kn47 L F b from fun e => h ⟨e.1, e.2.1⟩)]
    exact known47_no f L F b h hF
/-- What is so of a place and a name that is surely there. -/
def SurQ (f : Fun) (L : List Bool) (F : List (List W)) (k a x : Int) : AV → Prop := fun r => ∃ v, r = tru v ∧ (v = true → kn47 L F k ∧ 0 ≤ x ∧ x < f.regs.length ∧ f.regs[x.toNat]? = some 3 ∧ 0 ≤ a ∧ ∃ bk, f.blocks[k.toNat]? = some bk ∧ a ≤ bk.length)
theorem Sure18_any (f : Fun) (hfit : f.fits) (hreg : f.regs.length ≤ 100) (hblk : f.blocks.length ≤ 1000) (hlens : ∀ b ∈ f.blocks, b.length ≤ 1000000) (hnum : f.numA) (L : List Bool) (F : List (List W)) (hlF : F = [] ∨ F.length = f.blocks.length) (hL : L.length = f.blocks.length) (hsF : ∀ s ∈ F, s.length ≤ 1024) (k a x : Int) (hnx : num64 x) : FnSpec Tryd.prog 18 [factA f L F, num k, num a, num x] (SurQ f L F k a x) := by
  have hlF2 : F.length ≤ f.blocks.length := by
    rcases hlF with rfl | h
    · exact Nat.zero_le _
    · omega
  have hK := known47_any f L F k (by omega) (by omega)
  have no : ∃ v, tru false = tru v ∧ (v = true → kn47 L F k ∧ 0 ≤ x ∧ x < f.regs.length ∧ f.regs[x.toNat]? = some 3 ∧ 0 ≤ a ∧ ∃ bk, f.blocks[k.toNat]? = some bk ∧ a ≤ bk.length) := ⟨false, rfl, fun h => by cases h⟩
  have hR := Root_spec (newF f) x (by rw [newF_len]; omega)
  have hRn := newF_num hnum hnx
  have hB := born48_spec f L F hreg x
  unfold SurQ
  refine spec_of 1000 Tryd.func18 rfl rfl ?_
  by_cases hk : kn47 L F k
  · rw [decide_eq_true hk] at hK
    obtain ⟨k0, hk0⟩ := Int.eq_ofNat_of_zero_le hk.1
    subst hk0
    have hk1 := hk.2.1
    obtain ⟨bk, gk, hbm⟩ := getK (l := f.blocks) (k := k0) (by omega)
    obtain ⟨s0, gF, hFm⟩ := getK (l := F) (k := k0) (by omega)
    have hl0 := hsF s0 hFm
    have hlen := hlens bk hbm
    have hfi := (hfit.2.2 bk hbm).2
    have hia := hnum bk hbm
    by_cases hx0 : 0 ≤ x
    · by_cases hx1 : x < f.regs.length
      · obtain ⟨x0, hx⟩ := Int.eq_ofNat_of_zero_le hx0
        subst hx
        obtain ⟨w, gx, -⟩ := getK (l := f.regs) (k := x0) (by omega)
        by_cases hw : w = 3
        · subst hw
          by_cases ha0 : 0 ≤ a
          · by_cases ha1 : a ≤ bk.length
            · have yes : ∀ v : Bool, ∃ v', tru v = tru v' ∧ (v' = true → kn47 L F k0 ∧ 0 ≤ (x0 : Int) ∧ (x0 : Int) < f.regs.length ∧ f.regs[(x0 : Int).toNat]? = some 3 ∧ 0 ≤ a ∧ ∃ b, f.blocks[(k0 : Int).toNat]? = some b ∧ a ≤ b.length) := fun v => ⟨v, rfl, fun _ => ⟨hk, hx0, hx1, gx, ha0, bk, gk, ha1⟩⟩
              obtain ⟨a0, ha⟩ := Int.eq_ofNat_of_zero_le ha0
              subst ha
              have hO := Or_nil2_spec s0 (by omega)
              have hol := orn_len s0
              generalize (newF f).root x0 = q at *
              by_cases hb : bornP f x0
              · rw [decide_eq_true hb] at hB
                repeat' first | refine Call.eq hK rfl ?_ | refine Call.eq hB rfl ?_ | (refine Br.f ?_ ?_; focus (first | (simp; done) | (simp; omega))) | refine Pick.map gx ?_ | refine Pick.map gk ?_ | refine Len.map ?_ | refine Len.nil ?_ | refine Len.cons ?_ | refine Br.t rfl ?_ | refine Br.f rfl ?_ | refine Fit.au ?_ | refine Cv.au ?_ | refine Need.ne ?_ | refine Need.au ?_ | refine Pick.map (by assumption) ?_ | refine Pick.mapI (by omega) (by assumption) ?_ | refine PickN.mk _ (by assumption) ?_ | refine PickN.mk _ rfl ?_ | refine PickN.au ?_ | refine App.au rfl ?_ | refine App.au (own_map (fun _ => rfl) _) ?_ | refine Both.mk ?_ ?_ | exact True.intro
                exact yes true
              · rw [decide_eq_false hb] at hB
                repeat' first | refine Call.eq hK rfl ?_ | refine Call.eq hB rfl ?_ | (refine Br.f ?_ ?_; focus (first | (simp; done) | (simp; omega))) | refine Pick.map gx ?_ | refine Pick.map gk ?_ | refine Pick.map gF ?_ | refine Call.eq hO rfl ?_ | refine Len.map ?_ | refine Len.nil ?_ | refine Len.cons ?_ | refine Br.t rfl ?_ | refine Br.f rfl ?_ | refine Fit.au ?_ | refine Cv.au ?_ | refine Need.ne ?_ | refine Need.au ?_ | refine Pick.map (by assumption) ?_ | refine Pick.mapI (by omega) (by assumption) ?_ | refine PickN.mk _ (by assumption) ?_ | refine PickN.mk _ rfl ?_ | refine PickN.au ?_ | refine App.au rfl ?_ | refine App.au (own_map (fun _ => rfl) _) ?_ | refine Both.mk ?_ ?_ | exact True.intro
                refine Ax.Sub.mk ((bk.take a0).map Ins.cs) (by omega) (by omega) (by rw [List.length_map]; omega) (by simp [List.map_take]) ?_
                have hBl : (bk.take a0).length = a0 := by rw [List.length_take]; omega
                obtain ⟨B, hB2⟩ : ∃ B, B = bk.take a0 := ⟨_, rfl⟩
                have hBm : ∀ i ∈ B, i ∈ bk := fun i hi => List.mem_of_mem_take (hB2 ▸ hi)
                rw [← hB2] at hBl ⊢
                repeat' first | refine Len.map ?_ | refine Len.nil ?_ | refine Len.cons ?_ | refine Br.t rfl ?_ | refine Br.f rfl ?_ | refine Fit.au ?_ | refine Cv.au ?_ | refine Need.ne ?_ | refine Need.au ?_ | refine Pick.map (by assumption) ?_ | refine Pick.mapI (by omega) (by assumption) ?_ | refine PickN.mk _ (by assumption) ?_ | refine PickN.mk _ rfl ?_ | refine PickN.au ?_ | refine App.au rfl ?_ | refine App.au (own_map (fun _ => rfl) _) ?_ | refine Both.mk ?_ ?_ | exact True.intro
                refine Stop.mk (loop_in (g := [(2, 0)]) (fun j : Nat => [(0, factA f L F), (3, num x0), (10, .hw 2), (73, .sl false 9 (B.map Ins.cs)), (74, num B.length), (75, num j)]) (fun j => [(2, rowW (nilsZ f (B.take j) (orW s0 [])))]) 3 (fun j => j ≤ B.length) (fun j => B.length - j) 0 (Nat.zero_le _) ⟨rfl, (by repeat' first | exact trivial | refine ⟨rfl, ?_⟩ | refine ⟨congrArg (fun n => AV.lit (.int .i64 n)) (by omega), ?_⟩ | refine ⟨congrArg (fun l => some (Row.row 1 l)) (by simp [int1, num, tru]), ?_⟩), (by repeat' first | exact trivial | refine ⟨rfl, ?_⟩ | refine ⟨congrArg (fun n => AV.lit (.int .i64 n)) (by omega), ?_⟩ | refine ⟨congrArg (fun l => some (Row.row 1 l)) (by simp [int1, num, tru]), ?_⟩)⟩ (fun j hj ih2 => ?_))
                by_cases hjl : j < B.length
                · obtain ⟨i, gi, hiB⟩ := getK (l := B) (k := j) hjl
                  have him := hBm i hiB
                  have hC := changes44_spec f i (hfi i him) hreg
                  have hcl := chg_len f i
                  have hst1 := nilsZ_take (f := f) (s := orW s0 []) gi
                  have hl1 : (nilsZ f (B.take j) (orW s0 [])).length = s0.length := (nilsZ_len ..).trans hol
                  have ih2' := @ih2 (j + 1)
                  rw [hst1] at ih2'
                  generalize nilsZ f (B.take j) (orW s0 []) = g0 at *
                  simp only [show ∀ s, nilZ f i s = (chgL f i).foldl chZ s from fun _ => rfl] at ih2'
                  refine go 1000 Tryd.func18 ?_
                  repeat' first | refine Br.t (by simp; omega) ?_ | refine Draw.mk (ordL [9] [0, 1, 2, 3, 4, 5, 6, 7, 8, 11, 9, 10]) (by decide +kernel) ?_ | refine Pick.map gi ?_ | refine Call.eq hC rfl ?_ | refine Len.map ?_ | refine Len.nil ?_ | refine Len.cons ?_ | refine Br.t rfl ?_ | refine Br.f rfl ?_ | refine Fit.au ?_ | refine Cv.au ?_ | refine Need.ne ?_ | refine Need.au ?_ | refine Pick.map (by assumption) ?_ | refine Pick.mapI (by omega) (by assumption) ?_ | refine PickN.mk _ (by assumption) ?_ | refine PickN.mk _ rfl ?_ | refine PickN.au ?_ | refine App.au rfl ?_ | refine App.au (own_map (fun _ => rfl) _) ?_ | refine Both.mk ?_ ?_ | exact True.intro
                  refine Stop.mk (loop_in (g := []) (fun c : Nat => [(88, .hw 4), (89, num (chgL f i).length), (90, num c), (0, factA f L F), (3, num x0), (10, .hw 2), (73, .sl false 9 (B.map Ins.cs)), (74, num B.length), (75, num j)]) (fun c => [(4, .row 2 ((chgL f i).map chA)), (3, .var i.cs), (2, rowW (((chgL f i).take c).foldl chZ g0))]) 5 (fun c => c ≤ (chgL f i).length) (fun c => (chgL f i).length - c) 0 (Nat.zero_le _) ⟨rfl, (by repeat' first | exact trivial | refine ⟨rfl, ?_⟩ | refine ⟨congrArg (fun n => AV.lit (.int .i64 n)) (by omega), ?_⟩ | refine ⟨congrArg (fun l => some (Row.row 1 l)) (by simp [int1, num, tru]), ?_⟩), (by repeat' first | exact trivial | refine ⟨rfl, ?_⟩ | refine ⟨congrArg (fun n => AV.lit (.int .i64 n)) (by omega), ?_⟩ | refine ⟨congrArg (fun l => some (Row.row 1 l)) (by simp [int1, num, tru]), ?_⟩)⟩ (fun c hc ih3 => ?_))
                  by_cases hcc : c < (chgL f i).length
                  · obtain ⟨⟨bo, z⟩, gc, hcm⟩ := getK (l := chgL f i) (k := c) hcc
                    have hx : num64 z := chg_num hnum hreg (hia i him) hcm
                    have hs1 := chz_take (s := g0) gc
                    have hm1 : (((chgL f i).take c).foldl chZ g0).length ≤ 1000000 := by rw [chsZ_len, hl1]; omega
                    have ih3' := @ih3 (c + 1)
                    rw [hs1] at ih3'
                    generalize ((chgL f i).take c).foldl chZ g0 = g1 at *
                    cases bo with
                    | true =>
                      refine go 1000 Tryd.func18 ?_
                      repeat' first | refine Br.t (by simp; omega) ?_ | refine Need.mk ⟨by omega, by rw [List.length_map]; omega⟩ ?_ | refine PickN.map gc ?_ | refine Len.map ?_ | refine Len.nil ?_ | refine Len.cons ?_ | refine Br.t rfl ?_ | refine Br.f rfl ?_ | refine Fit.au ?_ | refine Cv.au ?_ | refine Need.ne ?_ | refine Need.au ?_ | refine Pick.map (by assumption) ?_ | refine Pick.mapI (by omega) (by assumption) ?_ | refine PickN.mk _ (by assumption) ?_ | refine PickN.mk _ rfl ?_ | refine PickN.au ?_ | refine App.au rfl ?_ | refine App.au (own_map (fun _ => rfl) _) ?_ | refine Both.mk ?_ ?_ | exact True.intro
                      refine Dyn.mk _ _ rfl rfl rfl (putZY_run g1 z _ _ _ hm1 hx (fun e v => ?_) (fun v => ?_))
                      · repeat' first | refine Len.map ?_ | refine Len.nil ?_ | refine Len.cons ?_ | refine Br.t rfl ?_ | refine Br.f rfl ?_ | refine Fit.au ?_ | refine Cv.au ?_ | refine Need.ne ?_ | refine Need.au ?_ | refine Pick.map (by assumption) ?_ | refine Pick.mapI (by omega) (by assumption) ?_ | refine PickN.mk _ (by assumption) ?_ | refine PickN.mk _ rfl ?_ | refine PickN.au ?_ | refine App.au rfl ?_ | refine App.au (own_map (fun _ => rfl) _) ?_ | refine Both.mk ?_ ?_ | exact True.intro
                        rw [show chZ g1 (true, z) = g1 from e] at ih3'
                        exact Stop.mk (ih3' (g := []) _ _ _ (by omega) (by omega) ⟨rfl, (by repeat' first | exact trivial | refine ⟨rfl, ?_⟩ | refine ⟨congrArg (fun n => AV.lit (.int .i64 n)) (by omega), ?_⟩ | refine ⟨congrArg (fun l => some (Row.row 1 l)) (by simp [int1, num, tru]), ?_⟩), (by repeat' first | exact trivial | refine ⟨rfl, ?_⟩ | refine ⟨congrArg (fun n => AV.lit (.int .i64 n)) (by omega), ?_⟩ | refine ⟨congrArg (fun l => some (Row.row 1 l)) (by simp [int1, num, tru]), ?_⟩)⟩)
                      · repeat' first | refine Len.map ?_ | refine Len.nil ?_ | refine Len.cons ?_ | refine Br.t rfl ?_ | refine Br.f rfl ?_ | refine Fit.au ?_ | refine Cv.au ?_ | refine Need.ne ?_ | refine Need.au ?_ | refine Pick.map (by assumption) ?_ | refine Pick.mapI (by omega) (by assumption) ?_ | refine PickN.mk _ (by assumption) ?_ | refine PickN.mk _ rfl ?_ | refine PickN.au ?_ | refine App.au rfl ?_ | refine App.au (own_map (fun _ => rfl) _) ?_ | refine Both.mk ?_ ?_ | exact True.intro
                        exact Stop.mk (ih3' (g := []) _ _ _ (by omega) (by omega) ⟨rfl, (by repeat' first | exact trivial | refine ⟨rfl, ?_⟩ | refine ⟨congrArg (fun n => AV.lit (.int .i64 n)) (by omega), ?_⟩ | refine ⟨congrArg (fun l => some (Row.row 1 l)) (by simp [int1, num, tru]), ?_⟩), (by repeat' first | exact trivial | refine ⟨rfl, ?_⟩ | refine ⟨congrArg (fun n => AV.lit (.int .i64 n)) (by omega), ?_⟩ | refine ⟨congrArg (fun l => some (Row.row 1 l)) (by simp [int1, num, tru]), ?_⟩)⟩)
                    | false =>
                      refine go 1000 Tryd.func18 ?_
                      repeat' first | refine Br.t (by simp; omega) ?_ | refine Need.mk ⟨by omega, by rw [List.length_map]; omega⟩ ?_ | refine PickN.map gc ?_ | refine Len.map ?_ | refine Len.nil ?_ | refine Len.cons ?_ | refine Br.t rfl ?_ | refine Br.f rfl ?_ | refine Fit.au ?_ | refine Cv.au ?_ | refine Need.ne ?_ | refine Need.au ?_ | refine Pick.map (by assumption) ?_ | refine Pick.mapI (by omega) (by assumption) ?_ | refine PickN.mk _ (by assumption) ?_ | refine PickN.mk _ rfl ?_ | refine PickN.au ?_ | refine App.au rfl ?_ | refine App.au (own_map (fun _ => rfl) _) ?_ | refine Both.mk ?_ ?_ | exact True.intro
                      refine Dyn.mk _ _ rfl rfl rfl (dropZY_run g1 z _ _ _ hm1 hx (fun e v => ?_) (fun v => ?_))
                      · repeat' first | refine Len.map ?_ | refine Len.nil ?_ | refine Len.cons ?_ | refine Br.t rfl ?_ | refine Br.f rfl ?_ | refine Fit.au ?_ | refine Cv.au ?_ | refine Need.ne ?_ | refine Need.au ?_ | refine Pick.map (by assumption) ?_ | refine Pick.mapI (by omega) (by assumption) ?_ | refine PickN.mk _ (by assumption) ?_ | refine PickN.mk _ rfl ?_ | refine PickN.au ?_ | refine App.au rfl ?_ | refine App.au (own_map (fun _ => rfl) _) ?_ | refine Both.mk ?_ ?_ | exact True.intro
                        rw [show chZ g1 (false, z) = g1 from e] at ih3'
                        exact Stop.mk (ih3' (g := []) _ _ _ (by omega) (by omega) ⟨rfl, (by repeat' first | exact trivial | refine ⟨rfl, ?_⟩ | refine ⟨congrArg (fun n => AV.lit (.int .i64 n)) (by omega), ?_⟩ | refine ⟨congrArg (fun l => some (Row.row 1 l)) (by simp [int1, num, tru]), ?_⟩), (by repeat' first | exact trivial | refine ⟨rfl, ?_⟩ | refine ⟨congrArg (fun n => AV.lit (.int .i64 n)) (by omega), ?_⟩ | refine ⟨congrArg (fun l => some (Row.row 1 l)) (by simp [int1, num, tru]), ?_⟩)⟩)
                      · repeat' first | refine Len.map ?_ | refine Len.nil ?_ | refine Len.cons ?_ | refine Br.t rfl ?_ | refine Br.f rfl ?_ | refine Fit.au ?_ | refine Cv.au ?_ | refine Need.ne ?_ | refine Need.au ?_ | refine Pick.map (by assumption) ?_ | refine Pick.mapI (by omega) (by assumption) ?_ | refine PickN.mk _ (by assumption) ?_ | refine PickN.mk _ rfl ?_ | refine PickN.au ?_ | refine App.au rfl ?_ | refine App.au (own_map (fun _ => rfl) _) ?_ | refine Both.mk ?_ ?_ | exact True.intro
                        exact Stop.mk (ih3' (g := []) _ _ _ (by omega) (by omega) ⟨rfl, (by repeat' first | exact trivial | refine ⟨rfl, ?_⟩ | refine ⟨congrArg (fun n => AV.lit (.int .i64 n)) (by omega), ?_⟩ | refine ⟨congrArg (fun l => some (Row.row 1 l)) (by simp [int1, num, tru]), ?_⟩), (by repeat' first | exact trivial | refine ⟨rfl, ?_⟩ | refine ⟨congrArg (fun n => AV.lit (.int .i64 n)) (by omega), ?_⟩ | refine ⟨congrArg (fun l => some (Row.row 1 l)) (by simp [int1, num, tru]), ?_⟩)⟩)
                  · obtain rfl : c = (chgL f i).length := by omega
                    rw [List.take_length]
                    refine go 1000 Tryd.func18 ?_
                    repeat' first | refine Br.f (by simp) ?_ | refine Len.map ?_ | refine Len.nil ?_ | refine Len.cons ?_ | refine Br.t rfl ?_ | refine Br.f rfl ?_ | refine Fit.au ?_ | refine Cv.au ?_ | refine Need.ne ?_ | refine Need.au ?_ | refine Pick.map (by assumption) ?_ | refine Pick.mapI (by omega) (by assumption) ?_ | refine PickN.mk _ (by assumption) ?_ | refine PickN.mk _ rfl ?_ | refine PickN.au ?_ | refine App.au rfl ?_ | refine App.au (own_map (fun _ => rfl) _) ?_ | refine Both.mk ?_ ?_ | exact True.intro
                    exact Stop.mk (ih2' (g := []) _ _ _ (by omega) (by omega) ⟨rfl, (by repeat' first | exact trivial | refine ⟨rfl, ?_⟩ | refine ⟨congrArg (fun n => AV.lit (.int .i64 n)) (by omega), ?_⟩ | refine ⟨congrArg (fun l => some (Row.row 1 l)) (by simp [int1, num, tru]), ?_⟩), (by repeat' first | exact trivial | refine ⟨rfl, ?_⟩ | refine ⟨congrArg (fun n => AV.lit (.int .i64 n)) (by omega), ?_⟩ | refine ⟨congrArg (fun l => some (Row.row 1 l)) (by simp [int1, num, tru]), ?_⟩)⟩)
                · obtain rfl : j = B.length := by omega
                  rw [List.take_length]
                  have hH := Has11_any (nilsZ f B (orW s0 [])) q (by rw [nilsZ_len, hol]; omega) hRn
                  refine go 1000 Tryd.func18 ?_
                  repeat' first | refine Br.f (by simp) ?_ | refine Call.eq hR rfl ?_ | refine Look.yes (View.mk _ (fzw _) ?_) | refine Len.map ?_ | refine Len.nil ?_ | refine Len.cons ?_ | refine Br.t rfl ?_ | refine Br.f rfl ?_ | refine Fit.au ?_ | refine Cv.au ?_ | refine Need.ne ?_ | refine Need.au ?_ | refine Pick.map (by assumption) ?_ | refine Pick.mapI (by omega) (by assumption) ?_ | refine PickN.mk _ (by assumption) ?_ | refine PickN.mk _ rfl ?_ | refine PickN.au ?_ | refine App.au rfl ?_ | refine App.au (own_map (fun _ => rfl) _) ?_ | refine Both.mk ?_ ?_ | exact True.intro
                  refine CallV.of hH ?_
                  rintro r ⟨v, rfl⟩
                  refine ⟨rfl, Free.lit _, ?_⟩
                  repeat' first | refine Len.map ?_ | refine Len.nil ?_ | refine Len.cons ?_ | refine Br.t rfl ?_ | refine Br.f rfl ?_ | refine Fit.au ?_ | refine Cv.au ?_ | refine Need.ne ?_ | refine Need.au ?_ | refine Pick.map (by assumption) ?_ | refine Pick.mapI (by omega) (by assumption) ?_ | refine PickN.mk _ (by assumption) ?_ | refine PickN.mk _ rfl ?_ | refine PickN.au ?_ | refine App.au rfl ?_ | refine App.au (own_map (fun _ => rfl) _) ?_ | refine Both.mk ?_ ?_ | exact True.intro
                  exact yes v
            · repeat' first | refine Call.eq hK rfl ?_ | (refine Br.f ?_ ?_; focus (first | (simp; done) | (simp; omega))) | refine Pick.map gx ?_ | refine Pick.map gk ?_ | (refine Br.t ?_ ?_; focus (simp; omega)) | refine Len.map ?_ | refine Len.nil ?_ | refine Len.cons ?_ | refine Br.t rfl ?_ | refine Br.f rfl ?_ | refine Fit.au ?_ | refine Cv.au ?_ | refine Need.ne ?_ | refine Need.au ?_ | refine Pick.map (by assumption) ?_ | refine Pick.mapI (by omega) (by assumption) ?_ | refine PickN.mk _ (by assumption) ?_ | refine PickN.mk _ rfl ?_ | refine PickN.au ?_ | refine App.au rfl ?_ | refine App.au (own_map (fun _ => rfl) _) ?_ | refine Both.mk ?_ ?_ | exact True.intro
              exact no
          · repeat' first | refine Call.eq hK rfl ?_ | (refine Br.f ?_ ?_; focus (first | (simp; done) | (simp; omega))) | refine Pick.map gx ?_ | refine Pick.map gk ?_ | (refine Br.t ?_ ?_; focus (simp; omega)) | refine Len.map ?_ | refine Len.nil ?_ | refine Len.cons ?_ | refine Br.t rfl ?_ | refine Br.f rfl ?_ | refine Fit.au ?_ | refine Cv.au ?_ | refine Need.ne ?_ | refine Need.au ?_ | refine Pick.map (by assumption) ?_ | refine Pick.mapI (by omega) (by assumption) ?_ | refine PickN.mk _ (by assumption) ?_ | refine PickN.mk _ rfl ?_ | refine PickN.au ?_ | refine App.au rfl ?_ | refine App.au (own_map (fun _ => rfl) _) ?_ | refine Both.mk ?_ ?_ | exact True.intro
            exact no
        · repeat' first | refine Call.eq hK rfl ?_ | (refine Br.f ?_ ?_; focus (first | (simp; done) | (simp; omega))) | refine Pick.map gx ?_ | (refine Br.t ?_ ?_; focus (simpa using hw)) | refine Len.map ?_ | refine Len.nil ?_ | refine Len.cons ?_ | refine Br.t rfl ?_ | refine Br.f rfl ?_ | refine Fit.au ?_ | refine Cv.au ?_ | refine Need.ne ?_ | refine Need.au ?_ | refine Pick.map (by assumption) ?_ | refine Pick.mapI (by omega) (by assumption) ?_ | refine PickN.mk _ (by assumption) ?_ | refine PickN.mk _ rfl ?_ | refine PickN.au ?_ | refine App.au rfl ?_ | refine App.au (own_map (fun _ => rfl) _) ?_ | refine Both.mk ?_ ?_ | exact True.intro
          exact no
      · repeat' first | refine Call.eq hK rfl ?_ | (refine Br.f ?_ ?_; focus (first | (simp; done) | (simp; omega))) | (refine Br.t ?_ ?_; focus (simp; omega)) | refine Len.map ?_ | refine Len.nil ?_ | refine Len.cons ?_ | refine Br.t rfl ?_ | refine Br.f rfl ?_ | refine Fit.au ?_ | refine Cv.au ?_ | refine Need.ne ?_ | refine Need.au ?_ | refine Pick.map (by assumption) ?_ | refine Pick.mapI (by omega) (by assumption) ?_ | refine PickN.mk _ (by assumption) ?_ | refine PickN.mk _ rfl ?_ | refine PickN.au ?_ | refine App.au rfl ?_ | refine App.au (own_map (fun _ => rfl) _) ?_ | refine Both.mk ?_ ?_ | exact True.intro
        exact no
    · repeat' first | refine Call.eq hK rfl ?_ | (refine Br.t ?_ ?_; focus (simp; omega)) | refine Len.map ?_ | refine Len.nil ?_ | refine Len.cons ?_ | refine Br.t rfl ?_ | refine Br.f rfl ?_ | refine Fit.au ?_ | refine Cv.au ?_ | refine Need.ne ?_ | refine Need.au ?_ | refine Pick.map (by assumption) ?_ | refine Pick.mapI (by omega) (by assumption) ?_ | refine PickN.mk _ (by assumption) ?_ | refine PickN.mk _ rfl ?_ | refine PickN.au ?_ | refine App.au rfl ?_ | refine App.au (own_map (fun _ => rfl) _) ?_ | refine Both.mk ?_ ?_ | exact True.intro
      exact no
  · rw [decide_eq_false hk] at hK
    repeat' first | refine Call.eq hK rfl ?_ | refine Len.map ?_ | refine Len.nil ?_ | refine Len.cons ?_ | refine Br.t rfl ?_ | refine Br.f rfl ?_ | refine Fit.au ?_ | refine Cv.au ?_ | refine Need.ne ?_ | refine Need.au ?_ | refine Pick.map (by assumption) ?_ | refine Pick.mapI (by omega) (by assumption) ?_ | refine PickN.mk _ (by assumption) ?_ | refine PickN.mk _ rfl ?_ | refine PickN.au ?_ | refine App.au rfl ?_ | refine App.au (own_map (fun _ => rfl) _) ?_ | refine Both.mk ?_ ?_ | exact True.intro
    exact no
theorem At23_no (f : Fun) (L : List Bool) (F : List (List W)) (k : Int) (hF : F.length ≤ 65536) (hL : F.length ≤ L.length) (hk : ¬ kn47 L F k) : FnSpec Tryd.prog 23 [factA f L F, num k] (fun r => r = .lit (.slice none 0 0)) := by
  have hK := known47_any f L F k hF hL
  rw [decide_eq_false hk] at hK
  refine spec_of 1000 Tryd.func23 rfl rfl ?_
  repeat' first | refine Call.eq hK rfl ?_ | refine Len.map ?_ | refine Len.nil ?_ | refine Len.cons ?_ | refine Br.t rfl ?_ | refine Br.f rfl ?_ | refine Fit.au ?_ | refine Cv.au ?_ | refine Need.ne ?_ | refine Need.au ?_ | refine Pick.map (by assumption) ?_ | refine Pick.mapI (by omega) (by assumption) ?_ | refine PickN.mk _ (by assumption) ?_ | refine PickN.mk _ rfl ?_ | refine PickN.au ?_ | refine App.au rfl ?_ | refine App.au (own_map (fun _ => rfl) _) ?_ | refine Both.mk ?_ ?_ | exact True.intro
  rfl
end Go.Proofs.YtdgibhndjdgllaaDoor
