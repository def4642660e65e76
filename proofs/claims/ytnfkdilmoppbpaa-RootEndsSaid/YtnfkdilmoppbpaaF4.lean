/- The example of law 37, and the law RootEnds as a function. -/
import Derived.Test.YtnfkdilmoppbpaaF3
namespace Go.Proofs.Ytnfkdilmoppbpaa
open Go.Ax
set_option maxRecDepth 10000
set_option linter.unusedVariables false

theorem fz_wr (w : Wr) : AV.fzL w.cs = w.cs := rfl
theorem fz_names (n : Names) : AV.fzL [.osl 11 (n.ws.map Wr.cs), num n.params] = n.cs := by
  show AV.sl false 11 (AV.fzLL (n.ws.map Wr.cs)) :: _ = _
  rw [fzLL_map fz_wr]; rfl

def ex37 : Fun := ⟨⟨#[]⟩, 0, 1, [1, 1, 1, 1], [[⟨20, 1, 0, 0, 0, 4, 0, 0, []⟩, ⟨23, 2, 1, 0, 0, 0, 0, 0, []⟩, ⟨45, 3, 2, 1, 0, 0, 5, 0, []⟩]]⟩
theorem ex37_fits : ex37.fits := by
  refine ⟨by decide, by decide, ?_⟩
  simp [ex37, Ins.fits]
theorem ex37_ws : (newF ex37).ws = [Wr0, ⟨⟨20, 1, 0, 0, 0, 4, 0, 0, []⟩, 0, true⟩, ⟨⟨23, 2, 1, 0, 0, 0, 0, 0, []⟩, 0, true⟩, ⟨⟨45, 3, 2, 1, 0, 0, 5, 0, []⟩, 0, true⟩] := by kernel_rfl

theorem ex37_const : (newF ex37).const 3 = (4, true) := by kernel_rfl
theorem ex37_root : (newF ex37).root 3 = 1 := by kernel_rfl
theorem ex37_chain : (newF ex37).chain 3 = [3, 2, 1] := by kernel_rfl

theorem works37 : FnSpec Try.prog 18 [] (fun r => r = tru true) := by
  refine spec_of 1000 Try.func18 rfl rfl ?_
  repeat' first | refine Len.map ?_ | refine Len.nil ?_ | refine Len.cons ?_ | refine Br.t rfl ?_ | refine Br.f rfl ?_ | refine Need.mk ⟨by first | omega | (simp; omega), by first | omega | (simp; done) | (simp; omega)⟩ ?_ | refine Pick.map (by assumption) ?_ | refine Pick.mapI (by omega) (by assumption) ?_ | refine PickN.mk _ (by assumption) ?_ | refine PickN.mk _ rfl ?_ | refine App.mk rfl (by simp only [List.length_map, List.length_append, List.length_cons, List.length_nil]; omega) (by simp only [List.length_map, List.length_append, List.length_cons, List.length_nil]; omega) ?_ | refine Both.mk ?_ ?_ | exact True.intro
  refine Stop.mk (run_frzV 3 rfl rfl rfl ?_)
  refine go 1000 Try.func18 ?_
  refine Call.le (by repeat' first | exact Le.refl _ | exact Le.none | exact LeL.nil | refine LeL.cons ?_ ?_ | exact LeLL.nil | refine LeLL.cons ?_ ?_ | refine Le.agg ?_ | refine Le.sl ?_ | refine Le.pt ?_) (Call.eq (New_spec ex37 ex37_fits (by decide)) rfl ?_)
  refine Look.stop (Stop.mk (run_frzV 4 rfl rfl (fz_names _) ?_))
  refine go 1000 Try.func18 ?_
  have hn : (newF ex37).ws.length ≤ 1000 := by rw [newF_len]; decide
  have c1 := Const_spec (newF ex37) 3 hn
  rw [ex37_const] at c1
  have c2 := Root_spec (newF ex37) 3 hn
  rw [ex37_root] at c2
  have c3 := Chain_spec (newF ex37) 3 hn
  rw [ex37_chain] at c3
  refine Call.eq c1 rfl ?_
  refine Call.eq c2 rfl ?_
  repeat' first | refine Len.map ?_ | refine Len.nil ?_ | refine Len.cons ?_ | refine Br.t rfl ?_ | refine Br.f rfl ?_ | refine Need.mk ⟨by first | omega | (simp; omega), by first | omega | (simp; done) | (simp; omega)⟩ ?_ | refine Pick.map (by assumption) ?_ | refine Pick.mapI (by omega) (by assumption) ?_ | refine PickN.mk _ (by assumption) ?_ | refine PickN.mk _ rfl ?_ | refine App.mk rfl (by simp only [List.length_map, List.length_append, List.length_cons, List.length_nil]; omega) (by simp only [List.length_map, List.length_append, List.length_cons, List.length_nil]; omega) ?_ | refine Both.mk ?_ ?_ | exact True.intro
  refine Call.of c3 ?_
  rintro r (rfl | ⟨rfl, h⟩)
  · refine ⟨rfl, ?_⟩
    repeat' first | refine Len.map ?_ | refine Len.nil ?_ | refine Len.cons ?_ | refine Br.t rfl ?_ | refine Br.f rfl ?_ | refine Need.mk ⟨by first | omega | (simp; omega), by first | omega | (simp; done) | (simp; omega)⟩ ?_ | refine Pick.map (by assumption) ?_ | refine Pick.mapI (by omega) (by assumption) ?_ | refine PickN.mk _ (by assumption) ?_ | refine PickN.mk _ rfl ?_ | refine App.mk rfl (by simp only [List.length_map, List.length_append, List.length_cons, List.length_nil]; omega) (by simp only [List.length_map, List.length_append, List.length_cons, List.length_nil]; omega) ?_ | refine Both.mk ?_ ?_ | exact True.intro
    refine Look.yes (View.mk _ rfl (View.mk _ rfl ?_))
    refine CallV.eq (SameInts_spec [3, 2, 1] [3, 2, 1] (by decide)) rfl (Free.lit _) ?_
    repeat' first | refine Len.map ?_ | refine Len.nil ?_ | refine Len.cons ?_ | refine Br.t rfl ?_ | refine Br.f rfl ?_ | refine Need.mk ⟨by first | omega | (simp; omega), by first | omega | (simp; done) | (simp; omega)⟩ ?_ | refine Pick.map (by assumption) ?_ | refine Pick.mapI (by omega) (by assumption) ?_ | refine PickN.mk _ (by assumption) ?_ | refine PickN.mk _ rfl ?_ | refine App.mk rfl (by simp only [List.length_map, List.length_append, List.length_cons, List.length_nil]; omega) (by simp only [List.length_map, List.length_append, List.length_cons, List.length_nil]; omega) ?_ | refine Both.mk ?_ ?_ | exact True.intro
    rfl
  · cases h

theorem newF_ok (f : Fun) (h : f.regs.length ≤ 100) : (newF f).ws.length ≤ 1000 := by rw [newF_len]; omega

theorem RootEnds_spec (p : Pro) (x : Int) (hp : p.fits) (hl : p.light) : FnSpec Try.prog 5 [proA p, num x] (fun r => r = tru true) := by
  have hp1 := hp.1
  refine spec_of 1000 Try.func5 rfl rfl ?_
  refine Call.of (Few_spec p 100 (by decide) hp hl) ?_
  rintro r ⟨b, rfl, hb⟩
  refine ⟨rfl, ?_⟩
  refine Br.mk (fun h => ?_) (fun h => ?_)
  · repeat' first | refine Call.eq works37 rfl ?_ | refine Len.map ?_ | refine Len.nil ?_ | refine Len.cons ?_ | refine Br.t rfl ?_ | refine Br.f rfl ?_ | refine Need.mk ⟨by first | omega | (simp; omega), by first | omega | (simp; done) | (simp; omega)⟩ ?_ | refine Pick.map (by assumption) ?_ | refine Pick.mapI (by omega) (by assumption) ?_ | refine PickN.mk _ (by assumption) ?_ | refine PickN.mk _ rfl ?_ | refine App.mk rfl (by simp only [List.length_map, List.length_append, List.length_cons, List.length_nil]; omega) (by simp only [List.length_map, List.length_append, List.length_cons, List.length_nil]; omega) ?_ | refine Both.mk ?_ ?_ | exact True.intro
    rfl
  have hb := hb (by simpa using h)
  repeat' first | refine Len.map ?_ | refine Len.nil ?_ | refine Len.cons ?_ | refine Br.t rfl ?_ | refine Br.f rfl ?_ | refine Need.mk ⟨by first | omega | (simp; omega), by first | omega | (simp; done) | (simp; omega)⟩ ?_ | refine Pick.map (by assumption) ?_ | refine Pick.mapI (by omega) (by assumption) ?_ | refine PickN.mk _ (by assumption) ?_ | refine PickN.mk _ rfl ?_ | refine App.mk rfl (by simp only [List.length_map, List.length_append, List.length_cons, List.length_nil]; omega) (by simp only [List.length_map, List.length_append, List.length_cons, List.length_nil]; omega) ?_ | refine Both.mk ?_ ?_ | exact True.intro
  refine Stop.mk (loop_in (fun k : Nat => [(2, .hp 0 0), (1, num x), (5, num k)]) (fun k => [(0, .var p.cs)]) 1 (fun k => k ≤ p.funcs.length) (fun k => p.funcs.length - k) 0 (by omega) (g := []) ⟨rfl, (by repeat' first | exact trivial | refine ⟨rfl, ?_⟩ | refine ⟨congrArg (fun n => AV.lit (.int .i64 n)) (by omega), ?_⟩ | refine ⟨congrArg (fun l => some (Row.row 1 l)) (by simp [int1, num, tru]), ?_⟩), (by repeat' first | exact trivial | refine ⟨rfl, ?_⟩ | refine ⟨congrArg (fun n => AV.lit (.int .i64 n)) (by omega), ?_⟩ | refine ⟨congrArg (fun l => some (Row.row 1 l)) (by simp [int1, num, tru]), ?_⟩)⟩ (fun k hk ih => ?_))
  refine go 1000 Try.func5 ?_
  repeat' first | refine Len.map ?_ | refine Len.nil ?_ | refine Len.cons ?_ | refine Br.t rfl ?_ | refine Br.f rfl ?_ | refine Need.mk ⟨by first | omega | (simp; omega), by first | omega | (simp; done) | (simp; omega)⟩ ?_ | refine Pick.map (by assumption) ?_ | refine Pick.mapI (by omega) (by assumption) ?_ | refine PickN.mk _ (by assumption) ?_ | refine PickN.mk _ rfl ?_ | refine App.mk rfl (by simp only [List.length_map, List.length_append, List.length_cons, List.length_nil]; omega) (by simp only [List.length_map, List.length_append, List.length_cons, List.length_nil]; omega) ?_ | refine Both.mk ?_ ?_ | exact True.intro
  refine Br.d (fun h2 => ?_) (fun h2 => ?_)
  · obtain ⟨f, gf, gm⟩ := getK (l := p.funcs) (k := k) (by omega)
    have hreg := (hb.2.2.2 f gm).1
    have hn := newF_ok f hreg
    have hc := chain_len (newF f) x
    rw [newF_len] at hc
    repeat' first | refine Call.eq (New_spec f (hp.2.2 f gm) hreg) rfl ?_ | refine Len.map ?_ | refine Len.nil ?_ | refine Len.cons ?_ | refine Br.t rfl ?_ | refine Br.f rfl ?_ | refine Need.mk ⟨by first | omega | (simp; omega), by first | omega | (simp; done) | (simp; omega)⟩ ?_ | refine Pick.map (by assumption) ?_ | refine Pick.mapI (by omega) (by assumption) ?_ | refine PickN.mk _ (by assumption) ?_ | refine PickN.mk _ rfl ?_ | refine App.mk rfl (by simp only [List.length_map, List.length_append, List.length_cons, List.length_nil]; omega) (by simp only [List.length_map, List.length_append, List.length_cons, List.length_nil]; omega) ?_ | refine Both.mk ?_ ?_ | exact True.intro
    refine Look.stop (Stop.mk ?_)
    refine run_frzV 1 rfl rfl (fz_names _) ?_
    refine go 1000 Try.func5 ?_
    repeat' first | refine Call.eq (Writer_spec (newF f) x) rfl ?_ | refine Call.eq (Block_spec (newF f) x) rfl ?_ | refine Call.eq (Const_spec (newF f) x hn) rfl ?_ | refine Draw.mk (ordL [2] [0, 1, 4, 5, 6, 7, 8, 9, 10, 11, 2, 3, 12]) (by decide +kernel) ?_ | refine Len.map ?_ | refine Len.nil ?_ | refine Len.cons ?_ | refine Br.t rfl ?_ | refine Br.f rfl ?_ | refine Need.mk ⟨by first | omega | (simp; omega), by first | omega | (simp; done) | (simp; omega)⟩ ?_ | refine Pick.map (by assumption) ?_ | refine Pick.mapI (by omega) (by assumption) ?_ | refine PickN.mk _ (by assumption) ?_ | refine PickN.mk _ rfl ?_ | refine App.mk rfl (by simp only [List.length_map, List.length_append, List.length_cons, List.length_nil]; omega) (by simp only [List.length_map, List.length_append, List.length_cons, List.length_nil]; omega) ?_ | refine Both.mk ?_ ?_ | exact True.intro
    refine Call.of (Chain_spec (newF f) x hn) ?_
    rintro r (rfl | ⟨rfl, h⟩)
    · refine ⟨rfl, ?_⟩
      repeat' first | refine Len.map ?_ | refine Len.nil ?_ | refine Len.cons ?_ | refine Br.t rfl ?_ | refine Br.f rfl ?_ | refine Need.mk ⟨by first | omega | (simp; omega), by first | omega | (simp; done) | (simp; omega)⟩ ?_ | refine Pick.map (by assumption) ?_ | refine Pick.mapI (by omega) (by assumption) ?_ | refine PickN.mk _ (by assumption) ?_ | refine PickN.mk _ rfl ?_ | refine App.mk rfl (by simp only [List.length_map, List.length_append, List.length_cons, List.length_nil]; omega) (by simp only [List.length_map, List.length_append, List.length_cons, List.length_nil]; omega) ?_ | refine Both.mk ?_ ?_ | exact True.intro
      refine Br.d (fun h => by omega) (fun h => ?_)
      repeat' first | refine Len.map ?_ | refine Len.nil ?_ | refine Len.cons ?_ | refine Br.t rfl ?_ | refine Br.f rfl ?_ | refine Need.mk ⟨by first | omega | (simp; omega), by first | omega | (simp; done) | (simp; omega)⟩ ?_ | refine Pick.map (by assumption) ?_ | refine Pick.mapI (by omega) (by assumption) ?_ | refine PickN.mk _ (by assumption) ?_ | refine PickN.mk _ rfl ?_ | refine App.mk rfl (by simp only [List.length_map, List.length_append, List.length_cons, List.length_nil]; omega) (by simp only [List.length_map, List.length_append, List.length_cons, List.length_nil]; omega) ?_ | refine Both.mk ?_ ?_ | exact True.intro
      exact Stop.mk (ih (k + 1) _ _ _ (by omega) (by omega) (g := []) ⟨rfl, (by repeat' first | exact trivial | refine ⟨rfl, ?_⟩ | refine ⟨congrArg (fun n => AV.lit (.int .i64 n)) (by omega), ?_⟩ | refine ⟨congrArg (fun l => some (Row.row 1 l)) (by simp [int1, num, tru]), ?_⟩), (by repeat' first | exact trivial | refine ⟨rfl, ?_⟩ | refine ⟨congrArg (fun n => AV.lit (.int .i64 n)) (by omega), ?_⟩ | refine ⟨congrArg (fun l => some (Row.row 1 l)) (by simp [int1, num, tru]), ?_⟩)⟩)
    · refine ⟨rfl, ?_⟩
      repeat' first | refine Len.map ?_ | refine Len.nil ?_ | refine Len.cons ?_ | refine Br.t rfl ?_ | refine Br.f rfl ?_ | refine Need.mk ⟨by first | omega | (simp; omega), by first | omega | (simp; done) | (simp; omega)⟩ ?_ | refine Pick.map (by assumption) ?_ | refine Pick.mapI (by omega) (by assumption) ?_ | refine PickN.mk _ (by assumption) ?_ | refine PickN.mk _ rfl ?_ | refine App.mk rfl (by simp only [List.length_map, List.length_append, List.length_cons, List.length_nil]; omega) (by simp only [List.length_map, List.length_append, List.length_cons, List.length_nil]; omega) ?_ | refine Both.mk ?_ ?_ | exact True.intro
      exact Stop.mk (ih (k + 1) _ _ _ (by omega) (by omega) (g := []) ⟨rfl, (by repeat' first | exact trivial | refine ⟨rfl, ?_⟩ | refine ⟨congrArg (fun n => AV.lit (.int .i64 n)) (by omega), ?_⟩ | refine ⟨congrArg (fun l => some (Row.row 1 l)) (by simp [int1, num, tru]), ?_⟩), (by repeat' first | exact trivial | refine ⟨rfl, ?_⟩ | refine ⟨congrArg (fun n => AV.lit (.int .i64 n)) (by omega), ?_⟩ | refine ⟨congrArg (fun l => some (Row.row 1 l)) (by simp [int1, num, tru]), ?_⟩)⟩)
  · repeat' first | refine Call.eq (Writer_nil x) rfl ?_ | refine Draw.mk (ordL [2] [0, 1, 4, 5, 6, 7, 8, 9, 10, 11, 2, 3, 12]) (by decide +kernel) ?_ | refine Len.map ?_ | refine Len.nil ?_ | refine Len.cons ?_ | refine Br.t rfl ?_ | refine Br.f rfl ?_ | refine Need.mk ⟨by first | omega | (simp; omega), by first | omega | (simp; done) | (simp; omega)⟩ ?_ | refine Pick.map (by assumption) ?_ | refine Pick.mapI (by omega) (by assumption) ?_ | refine PickN.mk _ (by assumption) ?_ | refine PickN.mk _ rfl ?_ | refine App.mk rfl (by simp only [List.length_map, List.length_append, List.length_cons, List.length_nil]; omega) (by simp only [List.length_map, List.length_append, List.length_cons, List.length_nil]; omega) ?_ | refine Both.mk ?_ ?_ | exact True.intro
    refine Look.yes (CallV.le (bs := [namesA ⟨[], 0⟩, num x]) (by repeat' first | exact Le.refl _ | exact Le.none | exact LeL.nil | refine LeL.cons ?_ ?_ | exact LeLL.nil | refine LeLL.cons ?_ ?_ | refine Le.agg ?_ | refine Le.sl ?_ | refine Le.pt ?_) (CallV.eq (Const_spec ⟨[], 0⟩ x (by decide)) rfl (by repeat' first | exact Free.lit _ | refine Free.tup ?_ | refine Free.agg ?_ | (refine Free.map ?_; intro e _) | refine List.forall_mem_cons.2 ⟨?_, ?_⟩ | exact List.forall_mem_nil _) ?_))
    have e : (Names.mk [] 0).const x = (0, false) := by
      have h1 : ∀ y, (Names.mk [] 0).of y = Wr0 := fun y => by unfold Names.of; rw [if_neg (by simp)]
      unfold Names.const; rw [h1]; rfl
    rw [e]
    repeat' first | refine Call.eq (Block_nil x) rfl ?_ | refine Call.eq (Chain_nil x) rfl ?_ | refine Call.eq (Root_nil x) rfl ?_ | refine Call.eq works37 rfl ?_ | refine Len.map ?_ | refine Len.nil ?_ | refine Len.cons ?_ | refine Br.t rfl ?_ | refine Br.f rfl ?_ | refine Need.mk ⟨by first | omega | (simp; omega), by first | omega | (simp; done) | (simp; omega)⟩ ?_ | refine Pick.map (by assumption) ?_ | refine Pick.mapI (by omega) (by assumption) ?_ | refine PickN.mk _ (by assumption) ?_ | refine PickN.mk _ rfl ?_ | refine App.mk rfl (by simp only [List.length_map, List.length_append, List.length_cons, List.length_nil]; omega) (by simp only [List.length_map, List.length_append, List.length_cons, List.length_nil]; omega) ?_ | refine Both.mk ?_ ?_ | exact True.intro
    refine Br.t (decide_eq_true rfl) ?_
    repeat' first | refine Call.eq works37 rfl ?_ | refine Len.map ?_ | refine Len.nil ?_ | refine Len.cons ?_ | refine Br.t rfl ?_ | refine Br.f rfl ?_ | refine Need.mk ⟨by first | omega | (simp; omega), by first | omega | (simp; done) | (simp; omega)⟩ ?_ | refine Pick.map (by assumption) ?_ | refine Pick.mapI (by omega) (by assumption) ?_ | refine PickN.mk _ (by assumption) ?_ | refine PickN.mk _ rfl ?_ | refine App.mk rfl (by simp only [List.length_map, List.length_append, List.length_cons, List.length_nil]; omega) (by simp only [List.length_map, List.length_append, List.length_cons, List.length_nil]; omega) ?_ | refine Both.mk ?_ ?_ | exact True.intro
    rfl
end Go.Proofs.Ytnfkdilmoppbpaa
