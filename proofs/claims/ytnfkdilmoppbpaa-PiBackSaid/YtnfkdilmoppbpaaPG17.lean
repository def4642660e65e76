/- The law PiBack as a function. -/
import Derived.Test.YtnfkdilmoppbpaaPG14
import Derived.Test.YtnfkdilmoppbpaaPG15
set_option linter.unusedVariables false
set_option linter.unusedSimpArgs false

namespace Go.Proofs.Ytnfkdilmoppbpaa
open Go.Ax
set_option maxRecDepth 10000
set_option linter.unusedVariables false

def npF (b : List Ins) : List Ins := b.filter fun i => !decide (i.op = 45)
theorem npF_succ {b : List Ins} {k : Nat} {i : Ins} (g : b[k]? = some i) : npF (b.take (k + 1)) = npF (b.take k) ++ if i.op = 45 then [] else [i] := by
  unfold npF
  rw [take_succ g, List.filter_append]
  by_cases h : i.op = 45 <;> simp [h]
theorem npF_aft : ∀ (b : List Ins), (∀ i ∈ b, i.op < 44) → npF (b.flatMap aft) = b
  | [], _ => rfl
  | i :: b, h => by
    have h1 := h i (List.mem_cons_self ..)
    have h2 := npF_aft b fun x hx => h x (List.mem_cons_of_mem _ hx)
    have h45 : i.op ≠ 45 := by omega
    unfold npF at h2 ⊢
    rw [aft_cons, List.filter_append, h2]
    unfold aft
    split
    · simp [h45, piIns]
    · simp [h45]
theorem insB_np {f : Fun} {k : Nat} {b : List Ins} (h : ∀ i ∈ b, i.op < 44) : npF (insB f (predsF (succsF f)) k b) = b := by
  have h1 : npF (toldF f k (predsF (succsF f))) = [] := by
    unfold npF
    rw [List.filter_eq_nil_iff]
    intro x hx
    obtain ⟨j, m, i, hfr⟩ := told_from hx
    rcases hfr.is with ⟨rfl, -⟩ | ⟨o, _, _, _, _, _, rfl | rfl⟩ <;> simp [piIns]
  have h2 := npF_aft b h
  unfold insB npF at *
  rw [List.filter_append, h1, h2]; rfl
theorem insB_dst {f : Fun} {k : Nat} {b : List Ins} (h : ∀ i ∈ b, i.op < 44) : ∀ x ∈ insB f (predsF (succsF f)) k b, x.op = 45 → x.dst = x.a := by
  intro x hx ho
  obtain ⟨q, gx⟩ := List.getElem?_of_mem hx
  rcases insB_at gx with hx | ⟨j, i, gi, -, hx⟩
  · obtain ⟨j, m, i, hfr⟩ := told_from hx
    rcases hfr.is with ⟨rfl, -⟩ | ⟨o, _, _, _, _, _, rfl | rfl⟩ <;> rfl
  · rcases hx with ⟨rfl, -⟩ | ⟨rfl, -⟩
    · have := h x (List.mem_of_getElem? gi); omega
    · rfl
structure BackF (f g : Fun) : Prop where
  len : g.blocks.length = f.blocks.length
  at_ : ∀ (k : Nat) (b : List Ins), f.blocks[k]? = some b → ∃ c, g.blocks[k]? = some c ∧ npF c = b ∧ (∀ x ∈ c, x.op = 45 → x.dst = x.a)
theorem insF_back {f : Fun} (h : ∀ b ∈ f.blocks, ∀ i ∈ b, i.op < 44) : BackF f (insF f) :=
  ⟨insLen f, fun k b gb => ⟨_, insGet gb, insB_np (h b (List.mem_of_getElem? gb)), insB_dst (h b (List.mem_of_getElem? gb))⟩⟩

set_option maxHeartbeats 2000000 in
theorem PiBack_spec (p : Pro) (hp : p.fits) (hl : p.light) : FnSpec Try.prog 12 [proA p] (fun r => r = tru true) := by
  refine spec_of 1000 Try.func12 rfl rfl ?_
  refine Call.of (valid52_spec p hp hl) ?_
  rintro r ⟨v, rfl, hv⟩
  refine ⟨rfl, ?_⟩
  repeat' first | refine Len.map ?_ | refine Len.nil ?_ | refine Len.cons ?_ | refine Br.t rfl ?_ | refine Br.f rfl ?_ | refine Fit.au ?_ | refine Need.au ?_ | refine Pick.map (by assumption) ?_ | refine Pick.mapI (by omega) (by assumption) ?_ | refine PickN.mk _ (by assumption) ?_ | refine PickN.mk _ rfl ?_ | refine PickN.au ?_ | refine App.au rfl ?_ | refine App.au (own_map (fun _ => rfl) _) ?_ | refine Both.mk ?_ ?_ | exact True.intro
  refine Br.mk (fun h => ?_) (fun h => ?_)
  · repeat' first | refine Call.eq works31 rfl ?_ | refine Len.map ?_ | refine Len.nil ?_ | refine Len.cons ?_ | refine Br.t rfl ?_ | refine Br.f rfl ?_ | refine Fit.au ?_ | refine Need.au ?_ | refine Pick.map (by assumption) ?_ | refine Pick.mapI (by omega) (by assumption) ?_ | refine PickN.mk _ (by assumption) ?_ | refine PickN.mk _ rfl ?_ | refine PickN.au ?_ | refine App.au rfl ?_ | refine App.au (own_map (fun _ => rfl) _) ?_ | refine Both.mk ?_ ?_ | exact True.intro
    rfl
  obtain ⟨hb, hvp⟩ := hv (by simpa using h)
  clear h hv
  have hpro := hvp.1
  have hs := hb.slim (by decide) hp
  have ho := hb.okT hp
  have ho1 := ho.1
  have hok : ∀ f ∈ p.funcs, f.okP := fun f hf => hpro.okP hf fun b hbm i him => ((ho.2.2 f hf).2.2.2 b hbm).2 i him
  have hQ := Program54_spec p ho hok
  have e2 : p.funcs.map (fun f => (insF f).ocs) = (p.funcs.map insF).map Fun.ocs := by rw [List.map_map]; rfl
  rw [e2] at hQ
  have hfi := insPro_fits hb hp
  have hoi := insPro_okT hb hp
  have hsi := insPro_slim hb hp
  obtain ⟨v1, v2, v3⟩ := insPro_valid hb hvp
  have hC := Check16_spec (insPro p) hsi
  have hC0 : (checkE (insPro p)).err = 0 := checkE_zero.2 v1
  have hU := Sure56_spec (insPro p) hsi hoi v3
  have hts : ∀ (k : Nat) (f : Fun), p.funcs[k]? = some f → ∃ g, (p.funcs.map insF)[k]? = some g ∧ BackF f g ∧ g.blocks.length ≤ 100000 ∧ ∀ b ∈ g.blocks, b.length ≤ 1000000 := fun k f h => by
    have hf := List.mem_of_getElem? h
    obtain ⟨a1, a2, a3, a4⟩ := hoi.2.2 (insF f) (List.mem_map.2 ⟨f, hf, rfl⟩)
    exact ⟨insF f, by rw [List.getElem?_map, h]; rfl, insF_back (hvp.2.1 f hf), a2, fun b hb => (a4 b hb).1⟩
  have hlt : (p.funcs.map insF).length = p.funcs.length := List.length_map _
  have eP : proA (insPro p) = .agg [.sl false 5 ((p.funcs.map insF).map Fun.cs), num p.main, .sl false 2 (p.sites.map site)] := rfl
  rw [eP] at hC hU
  generalize p.funcs.map insF = ts at *
  repeat' first | refine Call.eq hQ rfl ?_ | refine Len.map ?_ | refine Len.nil ?_ | refine Len.cons ?_ | refine Br.t rfl ?_ | refine Br.f rfl ?_ | refine Fit.au ?_ | refine Need.au ?_ | refine Pick.map (by assumption) ?_ | refine Pick.mapI (by omega) (by assumption) ?_ | refine PickN.mk _ (by assumption) ?_ | refine PickN.mk _ rfl ?_ | refine PickN.au ?_ | refine App.au rfl ?_ | refine App.au (own_map (fun _ => rfl) _) ?_ | refine Both.mk ?_ ?_ | exact True.intro
  refine Stop.mk (run_frzV 3 rfl rfl (fz_prO _ _ _) ?_)
  refine Run.fr (g := []) (tm' := [(1, .hp 0 0), (3, .pt [.sl false 5 (ts.map Fun.cs), num p.main, .sl false 2 (p.sites.map site)])]) (hp' := [(0, .var p.cs)]) (nx' := 1) ?_ ⟨rfl, (by repeat' first | exact trivial | refine ⟨rfl, ?_⟩ | refine ⟨congrArg (fun n => AV.lit (.int .i64 n)) (by omega), ?_⟩ | refine ⟨congrArg (fun l => some (Row.row 1 l)) (by simp [int1, num, tru]), ?_⟩), (by repeat' first | exact trivial | refine ⟨rfl, ?_⟩ | refine ⟨congrArg (fun n => AV.lit (.int .i64 n)) (by omega), ?_⟩ | refine ⟨congrArg (fun l => some (Row.row 1 l)) (by simp [int1, num, tru]), ?_⟩)⟩
  refine go 1000 Try.func12 ?_
  repeat' first | refine Call.eq hC rfl ?_ | (refine Br.f ?_ ?_; focus (first | (simp [hC0]; done) | (simp [hlt]; done))) | refine Len.map ?_ | refine Len.nil ?_ | refine Len.cons ?_ | refine Br.t rfl ?_ | refine Br.f rfl ?_ | refine Fit.au ?_ | refine Need.au ?_ | refine Pick.map (by assumption) ?_ | refine Pick.mapI (by omega) (by assumption) ?_ | refine PickN.mk _ (by assumption) ?_ | refine PickN.mk _ rfl ?_ | refine PickN.au ?_ | refine App.au rfl ?_ | refine App.au (own_map (fun _ => rfl) _) ?_ | refine Both.mk ?_ ?_ | exact True.intro
  refine Call.of hU ?_
  rintro r ⟨w, rfl, hw⟩
  have hw0 : w.err = 0 := hw.2 ⟨v1, v2⟩
  refine ⟨rfl, ?_⟩
  repeat' first | (refine Br.f ?_ ?_; focus (first | (simp [hw0]; done) | (simp [hlt]; done))) | refine Len.map ?_ | refine Len.nil ?_ | refine Len.cons ?_ | refine Br.t rfl ?_ | refine Br.f rfl ?_ | refine Fit.au ?_ | refine Need.au ?_ | refine Pick.map (by assumption) ?_ | refine Pick.mapI (by omega) (by assumption) ?_ | refine PickN.mk _ (by assumption) ?_ | refine PickN.mk _ rfl ?_ | refine PickN.au ?_ | refine App.au rfl ?_ | refine App.au (own_map (fun _ => rfl) _) ?_ | refine Both.mk ?_ ?_ | exact True.intro
  refine Stop.mk (loop_in (g := []) (fun n : Nat => [(1, .hp 0 0), (3, .pt [.sl false 5 (ts.map Fun.cs), num p.main, .sl false 2 (p.sites.map site)]), (4, num n)]) (fun n => [(0, .var p.cs)]) 1 (fun n => n ≤ p.funcs.length) (fun n => p.funcs.length - n) 0 (by omega) ⟨rfl, (by repeat' first | exact trivial | refine ⟨rfl, ?_⟩ | refine ⟨congrArg (fun n => AV.lit (.int .i64 n)) (by omega), ?_⟩ | refine ⟨congrArg (fun l => some (Row.row 1 l)) (by simp [int1, num, tru]), ?_⟩), (by repeat' first | exact trivial | refine ⟨rfl, ?_⟩ | refine ⟨congrArg (fun n => AV.lit (.int .i64 n)) (by omega), ?_⟩ | refine ⟨congrArg (fun l => some (Row.row 1 l)) (by simp [int1, num, tru]), ?_⟩)⟩ (fun n hn ih => ?_))
  refine go 1000 Try.func12 ?_
  repeat' first | refine Len.map ?_ | refine Len.nil ?_ | refine Len.cons ?_ | refine Br.t rfl ?_ | refine Br.f rfl ?_ | refine Fit.au ?_ | refine Need.au ?_ | refine Pick.map (by assumption) ?_ | refine Pick.mapI (by omega) (by assumption) ?_ | refine PickN.mk _ (by assumption) ?_ | refine PickN.mk _ rfl ?_ | refine PickN.au ?_ | refine App.au rfl ?_ | refine App.au (own_map (fun _ => rfl) _) ?_ | refine Both.mk ?_ ?_ | exact True.intro
  refine Br.d (fun h2 => ?_) (fun h2 => ?_)
  · obtain ⟨f, gf, gm⟩ := getK (l := p.funcs) (k := n) (by omega)
    obtain ⟨g, gg, ⟨hgl, hga⟩, hg1, hg2⟩ := hts n f gf
    obtain ⟨hf, hbl, hrl, hbb⟩ := ho.2.2 f gm
    repeat' first | refine Draw.mk (ordL [] [0, 1, 2, 3, 4, 5, 6, 7, 8, 9, 10, 11, 12, 13, 14]) (by decide +kernel) ?_ | refine Pick.map gf ?_ | refine Pick.map gg ?_ | (refine Br.f ?_ ?_; focus (first | (simp [hgl]; done))) | refine Len.map ?_ | refine Len.nil ?_ | refine Len.cons ?_ | refine Br.t rfl ?_ | refine Br.f rfl ?_ | refine Fit.au ?_ | refine Need.au ?_ | refine Pick.map (by assumption) ?_ | refine Pick.mapI (by omega) (by assumption) ?_ | refine PickN.mk _ (by assumption) ?_ | refine PickN.mk _ rfl ?_ | refine PickN.au ?_ | refine App.au rfl ?_ | refine App.au (own_map (fun _ => rfl) _) ?_ | refine Both.mk ?_ ?_ | exact True.intro
    all_goals
      refine Stop.mk (loop_in (g := []) (fun k : Nat => [(1, .hp 0 0), (3, .pt [.sl false 5 (ts.map Fun.cs), num p.main, .sl false 2 (p.sites.map site)]), (4, num n), (5, num k)]) (fun k => [(0, .var p.cs)]) 1 (fun k => k ≤ f.blocks.length) (fun k => f.blocks.length - k) 0 (by omega) ⟨rfl, (by repeat' first | exact trivial | refine ⟨rfl, ?_⟩ | refine ⟨congrArg (fun n => AV.lit (.int .i64 n)) (by omega), ?_⟩ | refine ⟨congrArg (fun l => some (Row.row 1 l)) (by simp [int1, num, tru]), ?_⟩), (by repeat' first | exact trivial | refine ⟨rfl, ?_⟩ | refine ⟨congrArg (fun n => AV.lit (.int .i64 n)) (by omega), ?_⟩ | refine ⟨congrArg (fun l => some (Row.row 1 l)) (by simp [int1, num, tru]), ?_⟩)⟩ (fun k hk ih2 => ?_))
      refine go 1000 Try.func12 ?_
      repeat' first | refine Pick.map gg ?_ | refine Len.map ?_ | refine Len.nil ?_ | refine Len.cons ?_ | refine Br.t rfl ?_ | refine Br.f rfl ?_ | refine Fit.au ?_ | refine Need.au ?_ | refine Pick.map (by assumption) ?_ | refine Pick.mapI (by omega) (by assumption) ?_ | refine PickN.mk _ (by assumption) ?_ | refine PickN.mk _ rfl ?_ | refine PickN.au ?_ | refine App.au rfl ?_ | refine App.au (own_map (fun _ => rfl) _) ?_ | refine Both.mk ?_ ?_ | exact True.intro
      refine Br.d (fun h3 => ?_) (fun h3 => ?_)
      · obtain ⟨b, gb, gbm⟩ := getK (l := f.blocks) (k := k) (by omega)
        obtain ⟨c, gc, hnp, hdst⟩ := hga k b gb
        have hcl := hg2 c (List.mem_of_getElem? gc)
        have hbl2 := hbb b gbm
        have hSB := SameBlock_spec b b (by omega) (fun i hi => by have := hbl2.2 i hi; omega) (by omega)
        rw [decide_eq_true rfl] at hSB
        repeat' first | refine Len.map ?_ | refine Len.nil ?_ | refine Len.cons ?_ | refine Br.t rfl ?_ | refine Br.f rfl ?_ | refine Fit.au ?_ | refine Need.au ?_ | refine Pick.map (by assumption) ?_ | refine Pick.mapI (by omega) (by assumption) ?_ | refine PickN.mk _ (by assumption) ?_ | refine PickN.mk _ rfl ?_ | refine PickN.au ?_ | refine App.au rfl ?_ | refine App.au (own_map (fun _ => rfl) _) ?_ | refine Both.mk ?_ ?_ | exact True.intro
        refine Stop.mk (loop_in (g := []) (fun j : Nat => [(1, .hp 0 0), (3, .pt [.sl false 5 (ts.map Fun.cs), num p.main, .sl false 2 (p.sites.map site)]), (4, num n), (5, num k), (6, .hw 1), (7, num j)]) (fun j => [(0, .var p.cs), (1, .row 9 ((npF (c.take j)).map Ins.cs))]) 2 (fun j => j ≤ c.length) (fun j => c.length - j) 0 (by omega) ⟨rfl, (by repeat' first | exact trivial | refine ⟨rfl, ?_⟩ | refine ⟨congrArg (fun n => AV.lit (.int .i64 n)) (by omega), ?_⟩ | refine ⟨congrArg (fun l => some (Row.row 1 l)) (by simp [int1, num, tru]), ?_⟩), (by repeat' first | exact trivial | refine ⟨rfl, ?_⟩ | refine ⟨congrArg (fun n => AV.lit (.int .i64 n)) (by omega), ?_⟩ | refine ⟨congrArg (fun l => some (Row.row 1 l)) (by simp [int1, num, tru]), ?_⟩)⟩ (fun j hj ih3 => ?_))
        have hnl : (npF (c.take j)).length ≤ j := by
          have := List.length_filter_le (fun i : Ins => !decide (i.op = 45)) (c.take j)
          unfold npF
          rw [List.length_take] at this; omega
        refine go 1000 Try.func12 ?_
        repeat' first | refine Pick.map gg ?_ | refine Pick.map gc ?_ | refine Len.map ?_ | refine Len.nil ?_ | refine Len.cons ?_ | refine Br.t rfl ?_ | refine Br.f rfl ?_ | refine Fit.au ?_ | refine Need.au ?_ | refine Pick.map (by assumption) ?_ | refine Pick.mapI (by omega) (by assumption) ?_ | refine PickN.mk _ (by assumption) ?_ | refine PickN.mk _ rfl ?_ | refine PickN.au ?_ | refine App.au rfl ?_ | refine App.au (own_map (fun _ => rfl) _) ?_ | refine Both.mk ?_ ?_ | exact True.intro
        refine Br.d (fun h4 => ?_) (fun h4 => ?_)
        · obtain ⟨i, gi, gim⟩ := getK (l := c) (k := j) (by omega)
          have hnx := npF_succ gi
          have hdi := hdst i gim
          generalize npF (c.take j) = cur at *
          repeat' first | refine Pick.map gg ?_ | refine Pick.map gc ?_ | refine Pick.map gi ?_ | refine Len.map ?_ | refine Len.nil ?_ | refine Len.cons ?_ | refine Br.t rfl ?_ | refine Br.f rfl ?_ | refine Fit.au ?_ | refine Need.au ?_ | refine Pick.map (by assumption) ?_ | refine Pick.mapI (by omega) (by assumption) ?_ | refine PickN.mk _ (by assumption) ?_ | refine PickN.mk _ rfl ?_ | refine PickN.au ?_ | refine App.au rfl ?_ | refine App.au (own_map (fun _ => rfl) _) ?_ | refine Both.mk ?_ ?_ | exact True.intro
          refine Br.d (fun h5 => ?_) (fun h5 => ?_)
          · have hd := hdi h5
            rw [if_pos h5, List.append_nil] at hnx
            repeat' first | refine Len.map ?_ | refine Len.nil ?_ | refine Len.cons ?_ | refine Br.t rfl ?_ | refine Br.f rfl ?_ | refine Fit.au ?_ | refine Need.au ?_ | refine Pick.map (by assumption) ?_ | refine Pick.mapI (by omega) (by assumption) ?_ | refine PickN.mk _ (by assumption) ?_ | refine PickN.mk _ rfl ?_ | refine PickN.au ?_ | refine App.au rfl ?_ | refine App.au (own_map (fun _ => rfl) _) ?_ | refine Both.mk ?_ ?_ | exact True.intro
            refine Br.nd (fun h6 => absurd hd h6) (fun h6 => ?_)
            repeat' first | refine Len.map ?_ | refine Len.nil ?_ | refine Len.cons ?_ | refine Br.t rfl ?_ | refine Br.f rfl ?_ | refine Fit.au ?_ | refine Need.au ?_ | refine Pick.map (by assumption) ?_ | refine Pick.mapI (by omega) (by assumption) ?_ | refine PickN.mk _ (by assumption) ?_ | refine PickN.mk _ rfl ?_ | refine PickN.au ?_ | refine App.au rfl ?_ | refine App.au (own_map (fun _ => rfl) _) ?_ | refine Both.mk ?_ ?_ | exact True.intro
            refine Br.nd (fun h7 => absurd h5 h7) (fun h7 => ?_)
            repeat' first | refine Len.map ?_ | refine Len.nil ?_ | refine Len.cons ?_ | refine Br.t rfl ?_ | refine Br.f rfl ?_ | refine Fit.au ?_ | refine Need.au ?_ | refine Pick.map (by assumption) ?_ | refine Pick.mapI (by omega) (by assumption) ?_ | refine PickN.mk _ (by assumption) ?_ | refine PickN.mk _ rfl ?_ | refine PickN.au ?_ | refine App.au rfl ?_ | refine App.au (own_map (fun _ => rfl) _) ?_ | refine Both.mk ?_ ?_ | exact True.intro
            refine Stop.mk (ih3 (j + 1) (g := []) _ _ _ (by omega) (by omega) ?_)
            rw [hnx]
            exact ⟨rfl, (by repeat' first | exact trivial | refine ⟨rfl, ?_⟩ | refine ⟨congrArg (fun n => AV.lit (.int .i64 n)) (by omega), ?_⟩ | refine ⟨congrArg (fun l => some (Row.row 1 l)) (by simp [int1, num, tru]), ?_⟩), (by repeat' first | exact trivial | refine ⟨rfl, ?_⟩ | refine ⟨congrArg (fun n => AV.lit (.int .i64 n)) (by omega), ?_⟩ | refine ⟨congrArg (fun l => some (Row.row 1 l)) (by simp [int1, num, tru]), ?_⟩)⟩
          · rw [if_neg h5] at hnx
            repeat' first | refine Len.map ?_ | refine Len.nil ?_ | refine Len.cons ?_ | refine Br.t rfl ?_ | refine Br.f rfl ?_ | refine Fit.au ?_ | refine Need.au ?_ | refine Pick.map (by assumption) ?_ | refine Pick.mapI (by omega) (by assumption) ?_ | refine PickN.mk _ (by assumption) ?_ | refine PickN.mk _ rfl ?_ | refine PickN.au ?_ | refine App.au rfl ?_ | refine App.au (own_map (fun _ => rfl) _) ?_ | refine Both.mk ?_ ?_ | exact True.intro
            refine Br.nd (fun h7 => ?_) (fun h7 => absurd h7 h5)
            repeat' first | refine Len.map ?_ | refine Len.nil ?_ | refine Len.cons ?_ | refine Br.t rfl ?_ | refine Br.f rfl ?_ | refine Fit.au ?_ | refine Need.au ?_ | refine Pick.map (by assumption) ?_ | refine Pick.mapI (by omega) (by assumption) ?_ | refine PickN.mk _ (by assumption) ?_ | refine PickN.mk _ rfl ?_ | refine PickN.au ?_ | refine App.au rfl ?_ | refine App.au (own_map (fun _ => rfl) _) ?_ | refine Both.mk ?_ ?_ | exact True.intro
            refine Stop.mk (ih3 (j + 1) (g := [(1, 4)]) _ _ _ (by omega) (by omega) ?_)
            rw [hnx, List.map_append]
            exact ⟨rfl, (by repeat' first | exact trivial | refine ⟨rfl, ?_⟩ | refine ⟨congrArg (fun n => AV.lit (.int .i64 n)) (by omega), ?_⟩ | refine ⟨congrArg (fun l => some (Row.row 1 l)) (by simp [int1, num, tru]), ?_⟩), (by repeat' first | exact trivial | refine ⟨rfl, ?_⟩ | refine ⟨congrArg (fun n => AV.lit (.int .i64 n)) (by omega), ?_⟩ | refine ⟨congrArg (fun l => some (Row.row 1 l)) (by simp [int1, num, tru]), ?_⟩)⟩
        · rw [take_all (by omega), hnp]
          repeat' first | refine Pick.map gf ?_ | refine Pick.map gb ?_ | refine Look.yes (View.mk _ (fz_icsL _) ?_) | refine CallV.eq hSB rfl (Free.lit _) ?_ | refine Len.map ?_ | refine Len.nil ?_ | refine Len.cons ?_ | refine Br.t rfl ?_ | refine Br.f rfl ?_ | refine Fit.au ?_ | refine Need.au ?_ | refine Pick.map (by assumption) ?_ | refine Pick.mapI (by omega) (by assumption) ?_ | refine PickN.mk _ (by assumption) ?_ | refine PickN.mk _ rfl ?_ | refine PickN.au ?_ | refine App.au rfl ?_ | refine App.au (own_map (fun _ => rfl) _) ?_ | refine Both.mk ?_ ?_ | exact True.intro
          exact Stop.mk (ih2 (k + 1) (g := []) _ _ _ (by omega) (by omega) ⟨rfl, (by repeat' first | exact trivial | refine ⟨rfl, ?_⟩ | refine ⟨congrArg (fun n => AV.lit (.int .i64 n)) (by omega), ?_⟩ | refine ⟨congrArg (fun l => some (Row.row 1 l)) (by simp [int1, num, tru]), ?_⟩), (by repeat' first | exact trivial | refine ⟨rfl, ?_⟩ | refine ⟨congrArg (fun n => AV.lit (.int .i64 n)) (by omega), ?_⟩ | refine ⟨congrArg (fun l => some (Row.row 1 l)) (by simp [int1, num, tru]), ?_⟩)⟩)
      · repeat' first | refine Len.map ?_ | refine Len.nil ?_ | refine Len.cons ?_ | refine Br.t rfl ?_ | refine Br.f rfl ?_ | refine Fit.au ?_ | refine Need.au ?_ | refine Pick.map (by assumption) ?_ | refine Pick.mapI (by omega) (by assumption) ?_ | refine PickN.mk _ (by assumption) ?_ | refine PickN.mk _ rfl ?_ | refine PickN.au ?_ | refine App.au rfl ?_ | refine App.au (own_map (fun _ => rfl) _) ?_ | refine Both.mk ?_ ?_ | exact True.intro
        exact Stop.mk (ih (n + 1) (g := []) _ _ _ (by omega) (by omega) ⟨rfl, (by repeat' first | exact trivial | refine ⟨rfl, ?_⟩ | refine ⟨congrArg (fun n => AV.lit (.int .i64 n)) (by omega), ?_⟩ | refine ⟨congrArg (fun l => some (Row.row 1 l)) (by simp [int1, num, tru]), ?_⟩), (by repeat' first | exact trivial | refine ⟨rfl, ?_⟩ | refine ⟨congrArg (fun n => AV.lit (.int .i64 n)) (by omega), ?_⟩ | refine ⟨congrArg (fun l => some (Row.row 1 l)) (by simp [int1, num, tru]), ?_⟩)⟩)
  · repeat' first | refine Call.eq works31 rfl ?_ | refine Len.map ?_ | refine Len.nil ?_ | refine Len.cons ?_ | refine Br.t rfl ?_ | refine Br.f rfl ?_ | refine Fit.au ?_ | refine Need.au ?_ | refine Pick.map (by assumption) ?_ | refine Pick.mapI (by omega) (by assumption) ?_ | refine PickN.mk _ (by assumption) ?_ | refine PickN.mk _ rfl ?_ | refine PickN.au ?_ | refine App.au rfl ?_ | refine App.au (own_map (fun _ => rfl) _) ?_ | refine Both.mk ?_ ?_ | exact True.intro
    rfl
end Go.Proofs.Ytnfkdilmoppbpaa
