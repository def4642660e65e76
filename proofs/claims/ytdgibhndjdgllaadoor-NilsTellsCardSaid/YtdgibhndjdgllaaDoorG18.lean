/- The document's answer for names, by contracts, and the law RootTells as a function. -/
import Derived.Test.YtdgibhndjdgllaaDoorG17
import Derived.Test.YtdgibhndjdgllaaDoorG09
import Derived.Test.YtdgibhndjdgllaaDoorG11
import Derived.Test.YtdgibhndjdgllaaDoorG16
import Derived.Test.YtdgibhndjdgllaaDoorG06
set_option linter.unusedVariables false
set_option linter.unusedSimpArgs false

namespace Go.Proofs.YtdgibhndjdgllaaDoor
open Go.Ax
set_option maxRecDepth 10000
set_option linter.unusedVariables false

theorem Writer37_spec (f : Fun) (x : Int) (hf : f.fits) (hn : f.blocks.length ≤ 1000000) : FnSpec Tryd.prog 82 [funA f, num x] (fun r => r = .tup [insA ((newF f).of x).i, num ((newF f).of x).block, tru ((newF f).of x).is]) := by
  refine FnSpec.weak (spec_of 1000 Tryd.func82 rfl rfl ?_)
  repeat' first | refine Len.map ?_ | refine Len.nil ?_ | refine Len.cons ?_ | refine Br.t rfl ?_ | refine Br.f rfl ?_ | refine Fit.au ?_ | refine Cv.au ?_ | refine Need.ne ?_ | refine Need.au ?_ | refine Pick.map (by assumption) ?_ | refine Pick.mapI (by omega) (by assumption) ?_ | refine PickN.mk _ (by assumption) ?_ | refine PickN.mk _ rfl ?_ | refine PickN.au ?_ | refine App.au rfl ?_ | refine App.au (own_map (fun _ => rfl) _) ?_ | refine Both.mk ?_ ?_ | exact True.intro
  refine Call.of (Writer34_spec f x hf hn) ?_
  rintro r ⟨k, a, v, rfl, hw⟩
  refine ⟨rfl, ?_⟩
  have h1 := newF_of hw
  have no : (newF f).of x = Wr0 → OLe (asRes [.agg [num 0, num 0, num 0, num 0, num 0, num 0, num 0, num 0, .lit (.slice none 0 0)], num 0, tru false]) (.tup [insA ((newF f).of x).i, num ((newF f).of x).block, tru ((newF f).of x).is]) := fun e => by
    rw [e]
    refine OLe.tup (.cons (.agg ?_ rfl) (.cons (.refl _) (.cons (.refl _) .nil)))
    repeat' first | exact .nil | refine .cons (Le.refl _) ?_ | refine .cons Le.none ?_
  repeat' first | refine Len.map ?_ | refine Len.nil ?_ | refine Len.cons ?_ | refine Br.t rfl ?_ | refine Br.f rfl ?_ | refine Fit.au ?_ | refine Cv.au ?_ | refine Need.ne ?_ | refine Need.au ?_ | refine Pick.map (by assumption) ?_ | refine Pick.mapI (by omega) (by assumption) ?_ | refine PickN.mk _ (by assumption) ?_ | refine PickN.mk _ rfl ?_ | refine PickN.au ?_ | refine App.au rfl ?_ | refine App.au (own_map (fun _ => rfl) _) ?_ | refine Both.mk ?_ ?_ | exact True.intro
  refine Br.mk (fun g1 => ?_) (fun g1 => ?_)
  · repeat' first | refine Len.map ?_ | refine Len.nil ?_ | refine Len.cons ?_ | refine Br.t rfl ?_ | refine Br.f rfl ?_ | refine Fit.au ?_ | refine Cv.au ?_ | refine Need.ne ?_ | refine Need.au ?_ | refine Pick.map (by assumption) ?_ | refine Pick.mapI (by omega) (by assumption) ?_ | refine PickN.mk _ (by assumption) ?_ | refine PickN.mk _ rfl ?_ | refine PickN.au ?_ | refine App.au rfl ?_ | refine App.au (own_map (fun _ => rfl) _) ?_ | refine Both.mk ?_ ?_ | exact True.intro
    exact no (h1.2 (.inl (by simpa using g1)))
  have hv : v = true := by simpa using g1
  subst hv
  obtain ⟨k', a', rfl, rfl, h0, _⟩ := hw.1 rfl
  repeat' first | refine Len.map ?_ | refine Len.nil ?_ | refine Len.cons ?_ | refine Br.t rfl ?_ | refine Br.f rfl ?_ | refine Fit.au ?_ | refine Cv.au ?_ | refine Need.ne ?_ | refine Need.au ?_ | refine Pick.map (by assumption) ?_ | refine Pick.mapI (by omega) (by assumption) ?_ | refine PickN.mk _ (by assumption) ?_ | refine PickN.mk _ rfl ?_ | refine PickN.au ?_ | refine App.au rfl ?_ | refine App.au (own_map (fun _ => rfl) _) ?_ | refine Both.mk ?_ ?_ | exact True.intro
  refine Br.d (fun g2 => ?_) (fun g2 => ?_)
  · repeat' first | refine Len.map ?_ | refine Len.nil ?_ | refine Len.cons ?_ | refine Br.t rfl ?_ | refine Br.f rfl ?_ | refine Fit.au ?_ | refine Cv.au ?_ | refine Need.ne ?_ | refine Need.au ?_ | refine Pick.map (by assumption) ?_ | refine Pick.mapI (by omega) (by assumption) ?_ | refine PickN.mk _ (by assumption) ?_ | refine PickN.mk _ rfl ?_ | refine PickN.au ?_ | refine App.au rfl ?_ | refine App.au (own_map (fun _ => rfl) _) ?_ | refine Both.mk ?_ ?_ | exact True.intro
    exact no (h1.2 (.inr (by omega)))
  · obtain ⟨k2, a2, b, i, e1, e2, gb, gi, eo⟩ := h1.1 (by omega) rfl
    obtain rfl : k' = k2 := by omega
    obtain rfl : a' = a2 := by omega
    repeat' first | refine Len.map ?_ | refine Len.nil ?_ | refine Len.cons ?_ | refine Br.t rfl ?_ | refine Br.f rfl ?_ | refine Fit.au ?_ | refine Cv.au ?_ | refine Need.ne ?_ | refine Need.au ?_ | refine Pick.map (by assumption) ?_ | refine Pick.mapI (by omega) (by assumption) ?_ | refine PickN.mk _ (by assumption) ?_ | refine PickN.mk _ rfl ?_ | refine PickN.au ?_ | refine App.au rfl ?_ | refine App.au (own_map (fun _ => rfl) _) ?_ | refine Both.mk ?_ ?_ | exact True.intro
    rw [eo]
    exact OLe.refl _

theorem Chain37_spec (f : Fun) (hf : f.fits) (hn : f.blocks.length ≤ 1000000) : ∀ {x : Int} {l : List Int}, ChainR (newF f) x l → l.length ≤ 1000000 → FnSpec Tryd.prog 52 [funA f, num x] (fun r => r = .osl 1 (l.map int1)) := by
  have hl := newF_len f
  intro x l h
  induction h with
  | @stop x hx hc =>
    intro _
    unfold Names.inR at hx
    unfold Names.cp at hc
    refine spec_of 1000 Tryd.func52 rfl rfl ?_
    repeat' first | refine Call.eq (Writer37_spec f x hf hn) rfl ?_ | refine Len.map ?_ | refine Len.nil ?_ | refine Len.cons ?_ | refine Br.t rfl ?_ | refine Br.f rfl ?_ | refine Fit.au ?_ | refine Cv.au ?_ | refine Need.ne ?_ | refine Need.au ?_ | refine Pick.map (by assumption) ?_ | refine Pick.mapI (by omega) (by assumption) ?_ | refine PickN.mk _ (by assumption) ?_ | refine PickN.mk _ rfl ?_ | refine PickN.au ?_ | refine App.au rfl ?_ | refine App.au (own_map (fun _ => rfl) _) ?_ | refine Both.mk ?_ ?_ | exact True.intro | (refine Br.d (fun h => ?_) (fun h => ?_) <;> try (exfalso; omega)) | (refine Br.nd (fun h => ?_) (fun h => ?_) <;> try (exfalso; omega)) | (refine Br.mk (fun h => ?_) (fun h => ?_) <;> try (exfalso; omega))
    all_goals first
      | rfl
      | (exfalso; simp_all; done)
      | (exfalso; omega)
  | @step x l hx hc h ih =>
    intro hll
    simp only [List.length_cons] at hll
    unfold Names.inR at hx
    unfold Names.cp at hc
    refine spec_of 1000 Tryd.func52 rfl rfl ?_
    repeat' first | refine Call.eq (Writer37_spec f x hf hn) rfl ?_ | refine Call.eq (ih (by omega)) rfl ?_ | refine Len.map ?_ | refine Len.nil ?_ | refine Len.cons ?_ | refine Br.t rfl ?_ | refine Br.f rfl ?_ | refine Fit.au ?_ | refine Cv.au ?_ | refine Need.ne ?_ | refine Need.au ?_ | refine Pick.map (by assumption) ?_ | refine Pick.mapI (by omega) (by assumption) ?_ | refine PickN.mk _ (by assumption) ?_ | refine PickN.mk _ rfl ?_ | refine PickN.au ?_ | refine App.au rfl ?_ | refine App.au (own_map (fun _ => rfl) _) ?_ | refine Both.mk ?_ ?_ | exact True.intro | (refine Br.d (fun h => ?_) (fun h => ?_) <;> try (exfalso; omega)) | (refine Br.nd (fun h => ?_) (fun h => ?_) <;> try (exfalso; omega)) | (refine Br.mk (fun h => ?_) (fun h => ?_) <;> try (exfalso; omega))
    all_goals first
      | rfl
      | (exfalso; simp_all; done)
      | (exfalso; omega)
theorem Chain37_out (f : Fun) (x : Int) (h : ¬ (0 ≤ x ∧ x < f.regs.length)) : FnSpec Tryd.prog 52 [funA f, num x] (fun r => r = .osl 1 []) := by
  refine spec_of 1000 Tryd.func52 rfl rfl ?_
  repeat' first | refine Len.map ?_ | refine Len.nil ?_ | refine Len.cons ?_ | refine Br.t rfl ?_ | refine Br.f rfl ?_ | refine Fit.au ?_ | refine Cv.au ?_ | refine Need.ne ?_ | refine Need.au ?_ | refine Pick.map (by assumption) ?_ | refine Pick.mapI (by omega) (by assumption) ?_ | refine PickN.mk _ (by assumption) ?_ | refine PickN.mk _ rfl ?_ | refine PickN.au ?_ | refine App.au rfl ?_ | refine App.au (own_map (fun _ => rfl) _) ?_ | refine Both.mk ?_ ?_ | exact True.intro | (refine Br.d (fun h => ?_) (fun h => ?_) <;> try (exfalso; omega)) | (refine Br.nd (fun h => ?_) (fun h => ?_) <;> try (exfalso; omega)) | (refine Br.mk (fun h => ?_) (fun h => ?_) <;> try (exfalso; omega))
  all_goals first
    | rfl
    | (exfalso; omega)
/-- All of it together. -/
theorem Chain37_all (p : Pro) (f : Fun) (hf : f.fits) (hn : f.blocks.length ≤ 1000000) (hg : f.regs.length ≤ 100) (h1 : funP p f) (h2 : properF f) (x : Int) : FnSpec Tryd.prog 52 [funA f, num x] (fun r => r = .osl 1 (((newF f).chain x).map int1)) ∧ ((newF f).chain x).length ≤ 100 := by
  have hl := newF_len f
  by_cases hx : (newF f).inR x
  · obtain ⟨l, h⟩ := chain_ends h1 h2 x hx
    have h3 := nodup_len (newF f).ws.length l h.nodup fun y hy => (h.mem hy).1
    rw [h.chain]
    exact ⟨Chain37_spec f hf hn h (by omega), by omega⟩
  · have : (newF f).chain x = [] := if_neg hx
    rw [this]
    exact ⟨Chain37_out f x (by rw [← hl]; exact hx), by simp⟩
theorem Root37_spec (p : Pro) (f : Fun) (hf : f.fits) (hn : f.blocks.length ≤ 1000000) (hg : f.regs.length ≤ 100) (h1 : funP p f) (h2 : properF f) (x : Int) : FnSpec Tryd.prog 20 [funA f, num x] (fun r => r = num ((newF f).root x)) := by
  obtain ⟨hc, hcl⟩ := Chain37_all p f hf hn hg h1 h2 x
  refine spec_of 1000 Tryd.func20 rfl rfl ?_
  repeat' first | refine Call.eq hc rfl ?_ | refine Len.map ?_ | refine Len.nil ?_ | refine Len.cons ?_ | refine Br.t rfl ?_ | refine Br.f rfl ?_ | refine Fit.au ?_ | refine Cv.au ?_ | refine Need.ne ?_ | refine Need.au ?_ | refine Pick.map (by assumption) ?_ | refine Pick.mapI (by omega) (by assumption) ?_ | refine PickN.mk _ (by assumption) ?_ | refine PickN.mk _ rfl ?_ | refine PickN.au ?_ | refine App.au rfl ?_ | refine App.au (own_map (fun _ => rfl) _) ?_ | refine Both.mk ?_ ?_ | exact True.intro
  refine Br.d (fun h => ?_) (fun h => ?_)
  · repeat' first | refine Len.map ?_ | refine Len.nil ?_ | refine Len.cons ?_ | refine Br.t rfl ?_ | refine Br.f rfl ?_ | refine Fit.au ?_ | refine Cv.au ?_ | refine Need.ne ?_ | refine Need.au ?_ | refine Pick.map (by assumption) ?_ | refine Pick.mapI (by omega) (by assumption) ?_ | refine PickN.mk _ (by assumption) ?_ | refine PickN.mk _ rfl ?_ | refine PickN.au ?_ | refine App.au rfl ?_ | refine App.au (own_map (fun _ => rfl) _) ?_ | refine Both.mk ?_ ?_ | exact True.intro
    show _ = _
    rw [Names.root, List.eq_nil_of_length_eq_zero (l := (newF f).chain x) (by omega)]; rfl
  · obtain ⟨y, gy, -⟩ := getK (l := (newF f).chain x) (k := ((newF f).chain x).length - 1) (by omega)
    have gy2 : ((newF f).chain x)[((((newF f).chain x).length : Int) - 1).toNat]? = some y := by
      rw [show ((((newF f).chain x).length : Int) - 1).toNat = ((newF f).chain x).length - 1 by omega]; exact gy
    repeat' first | refine Len.map ?_ | refine Len.nil ?_ | refine Len.cons ?_ | refine Br.t rfl ?_ | refine Br.f rfl ?_ | refine Fit.au ?_ | refine Cv.au ?_ | refine Need.ne ?_ | refine Need.au ?_ | refine Pick.map (by assumption) ?_ | refine Pick.mapI (by omega) (by assumption) ?_ | refine PickN.mk _ (by assumption) ?_ | refine PickN.mk _ rfl ?_ | refine PickN.au ?_ | refine App.au rfl ?_ | refine App.au (own_map (fun _ => rfl) _) ?_ | refine Both.mk ?_ ?_ | exact True.intro
    show _ = _
    rw [Names.root, List.getLastD_eq_getLast?, List.getLast?_eq_getElem?, gy]; rfl
end Go.Proofs.YtdgibhndjdgllaaDoor

/- Whether an array is there from its writing on (the document's), by a contract. -/
namespace Go.Proofs.YtdgibhndjdgllaaDoor
open Go.Ax
set_option maxRecDepth 10000
set_option linter.unusedVariables false
set_option maxHeartbeats 0

theorem Born50_spec (f : Fun) (h : NilR f) (x : Int) : FnSpec Tryd.prog 50 [funA f, num x] (fun r => r = tru (decide (bornP f x))) := by
  have hbl := h.few
  obtain ⟨hC, hcl⟩ := h.chain x
  have hbp : bornP f x ↔ ∃ y ∈ (newF f).chain x, bornB f y := Iff.rfl
  refine spec_of 1000 Tryd.func50 rfl rfl ?_
  repeat' first | refine Call.eq hC rfl ?_ | refine Len.map ?_ | refine Len.nil ?_ | refine Len.cons ?_ | refine Br.t rfl ?_ | refine Br.f rfl ?_ | refine Fit.au ?_ | refine Cv.au ?_ | refine Need.ne ?_ | refine Need.au ?_ | refine Pick.map (by assumption) ?_ | refine Pick.mapI (by omega) (by assumption) ?_ | refine PickN.mk _ (by assumption) ?_ | refine PickN.mk _ rfl ?_ | refine PickN.au ?_ | refine App.au rfl ?_ | refine App.au (own_map (fun _ => rfl) _) ?_ | refine Both.mk ?_ ?_ | exact True.intro
  refine Stop.mk (loop_in (g := []) (fun k : Nat => [(2, .hp 0 0), (5, .hw 1), (6, num k)]) (fun _ => [(1, .row 1 (((newF f).chain x).map int1)), (0, .var f.cs)]) 2 (fun k => k ≤ ((newF f).chain x).length ∧ ∀ m y, m < k → ((newF f).chain x)[m]? = some y → ¬ bornB f y) (fun k => ((newF f).chain x).length - k) 0 ⟨Nat.zero_le _, fun m _ hm => by omega⟩ ⟨rfl, (by repeat' first | exact trivial | refine ⟨rfl, ?_⟩ | refine ⟨congrArg (fun n => AV.lit (.int .i64 n)) (by omega), ?_⟩ | refine ⟨congrArg (fun l => some (Row.row 1 l)) (by simp [int1, num, tru]), ?_⟩), (by repeat' first | exact trivial | refine ⟨rfl, ?_⟩ | refine ⟨congrArg (fun n => AV.lit (.int .i64 n)) (by omega), ?_⟩ | refine ⟨congrArg (fun l => some (Row.row 1 l)) (by simp [int1, num, tru]), ?_⟩)⟩ (fun k hk ih => ?_))
  generalize (newF f).chain x = l at *
  obtain ⟨hk1, hk2⟩ := hk
  by_cases hkl : k < l.length
  · obtain ⟨y, gy, hym⟩ := getK (l := l) (k := k) hkl
    have hW := Writer37_spec f y h.fit (by omega)
    have hb : bornB f y ↔ ((newF f).of y).is = true ∧ (((newF f).of y).i.op = 28 ∨ (((newF f).of y).i.op = 45 ∧ ((newF f).of y).i.m = 21)) := Iff.rfl
    generalize (newF f).of y = w at *
    have fin : ¬ bornB f y → ∀ m z, m < k + 1 → l[m]? = some z → ¬ bornB f z := fun hn m z hm hz => by
      by_cases e : m = k
      · subst e; rw [gy] at hz; obtain rfl := Option.some.inj hz; exact hn
      · exact hk2 m z (by omega) hz
    by_cases h1 : w.is = true
    · by_cases h2 : w.i.op = 28
      · have : bornP f x := hbp.2 ⟨y, hym, hb.2 ⟨h1, .inl h2⟩⟩
        refine go 1000 Tryd.func50 ?_
        repeat' first | (refine Br.t ?_ ?_; focus (first | (simp; omega) | exact h1 | (simp; done) | (simpa using h2))) | refine Draw.mk (.one 0 false (.one 1 false (.one 2 false (.one 3 false (.one 4 false (.alt 5 (ordL [10, 11] [6, 7, 8, 9, 10, 11, 12, 13]) (.alt 10 (ordL [5, 11] [5, 6, 7, 8, 9, 11, 12, 13]) .no))))))) (by decide +kernel) ?_ | refine Need.mk ⟨by omega, by rw [List.length_map]; omega⟩ ?_ | refine PickN.map gy ?_ | refine Call.eq hW rfl ?_ | refine Len.map ?_ | refine Len.nil ?_ | refine Len.cons ?_ | refine Br.t rfl ?_ | refine Br.f rfl ?_ | refine Fit.au ?_ | refine Cv.au ?_ | refine Need.ne ?_ | refine Need.au ?_ | refine Pick.map (by assumption) ?_ | refine Pick.mapI (by omega) (by assumption) ?_ | refine PickN.mk _ (by assumption) ?_ | refine PickN.mk _ rfl ?_ | refine PickN.au ?_ | refine App.au rfl ?_ | refine App.au (own_map (fun _ => rfl) _) ?_ | refine Both.mk ?_ ?_ | exact True.intro
        all_goals (rw [decide_eq_true this]; rfl)
      · by_cases h3 : w.i.op = 45
        · by_cases h4 : w.i.m = 21
          · have : bornP f x := hbp.2 ⟨y, hym, hb.2 ⟨h1, .inr ⟨h3, h4⟩⟩⟩
            refine go 1000 Tryd.func50 ?_
            repeat' first | (refine Br.t ?_ ?_; focus (first | (simp; omega) | exact h1 | (simp; done) | (simpa using h3) | (simpa using h4))) | (refine Br.f ?_ ?_; focus (first | (simp; done) | simpa using h2)) | refine Draw.mk (.one 0 false (.one 1 false (.one 2 false (.one 3 false (.one 4 false (.alt 5 (ordL [10, 11] [6, 7, 8, 9, 10, 11, 12, 13]) (.alt 10 (ordL [5, 11] [5, 6, 7, 8, 9, 11, 12, 13]) .no))))))) (by decide +kernel) ?_ | refine Need.mk ⟨by omega, by rw [List.length_map]; omega⟩ ?_ | refine PickN.map gy ?_ | refine Call.eq hW rfl ?_ | refine Len.map ?_ | refine Len.nil ?_ | refine Len.cons ?_ | refine Br.t rfl ?_ | refine Br.f rfl ?_ | refine Fit.au ?_ | refine Cv.au ?_ | refine Need.ne ?_ | refine Need.au ?_ | refine Pick.map (by assumption) ?_ | refine Pick.mapI (by omega) (by assumption) ?_ | refine PickN.mk _ (by assumption) ?_ | refine PickN.mk _ rfl ?_ | refine PickN.au ?_ | refine App.au rfl ?_ | refine App.au (own_map (fun _ => rfl) _) ?_ | refine Both.mk ?_ ?_ | exact True.intro
            all_goals (rw [decide_eq_true this]; rfl)
          · have hn : ¬ bornB f y := fun e => (hb.1 e).2.elim h2 fun e => h4 e.2
            refine go 1000 Tryd.func50 ?_
            repeat' first | (refine Br.t ?_ ?_; focus (first | (simp; omega) | exact h1 | (simp; done) | (simpa using h3))) | (refine Br.f ?_ ?_; focus (first | (simp; done) | (simpa using h2) | (simpa using h4))) | refine Draw.mk (.one 0 false (.one 1 false (.one 2 false (.one 3 false (.one 4 false (.alt 5 (ordL [10, 11] [6, 7, 8, 9, 10, 11, 12, 13]) (.alt 10 (ordL [5, 11] [5, 6, 7, 8, 9, 11, 12, 13]) .no))))))) (by decide +kernel) ?_ | refine Need.mk ⟨by omega, by rw [List.length_map]; omega⟩ ?_ | refine PickN.map gy ?_ | refine Call.eq hW rfl ?_ | refine Len.map ?_ | refine Len.nil ?_ | refine Len.cons ?_ | refine Br.t rfl ?_ | refine Br.f rfl ?_ | refine Fit.au ?_ | refine Cv.au ?_ | refine Need.ne ?_ | refine Need.au ?_ | refine Pick.map (by assumption) ?_ | refine Pick.mapI (by omega) (by assumption) ?_ | refine PickN.mk _ (by assumption) ?_ | refine PickN.mk _ rfl ?_ | refine PickN.au ?_ | refine App.au rfl ?_ | refine App.au (own_map (fun _ => rfl) _) ?_ | refine Both.mk ?_ ?_ | exact True.intro
            all_goals exact Stop.mk (ih (k + 1) (g := []) _ _ _ ⟨by omega, fin hn⟩ (by omega) ⟨rfl, (by repeat' first | exact trivial | refine ⟨rfl, ?_⟩ | refine ⟨congrArg (fun n => AV.lit (.int .i64 n)) (by omega), ?_⟩ | refine ⟨congrArg (fun l => some (Row.row 1 l)) (by simp [int1, num, tru]), ?_⟩), (by repeat' first | exact trivial | refine ⟨rfl, ?_⟩ | refine ⟨congrArg (fun n => AV.lit (.int .i64 n)) (by omega), ?_⟩ | refine ⟨congrArg (fun l => some (Row.row 1 l)) (by simp [int1, num, tru]), ?_⟩)⟩)
        · have hn : ¬ bornB f y := fun e => (hb.1 e).2.elim h2 fun e => h3 e.1
          refine go 1000 Tryd.func50 ?_
          repeat' first | (refine Br.t ?_ ?_; focus (first | (simp; omega) | exact h1)) | (refine Br.f ?_ ?_; focus (first | (simp; done) | (simpa using h2) | (simpa using h3))) | refine Draw.mk (.one 0 false (.one 1 false (.one 2 false (.one 3 false (.one 4 false (.alt 5 (ordL [10, 11] [6, 7, 8, 9, 10, 11, 12, 13]) (.alt 10 (ordL [5, 11] [5, 6, 7, 8, 9, 11, 12, 13]) .no))))))) (by decide +kernel) ?_ | refine Need.mk ⟨by omega, by rw [List.length_map]; omega⟩ ?_ | refine PickN.map gy ?_ | refine Call.eq hW rfl ?_ | refine Len.map ?_ | refine Len.nil ?_ | refine Len.cons ?_ | refine Br.t rfl ?_ | refine Br.f rfl ?_ | refine Fit.au ?_ | refine Cv.au ?_ | refine Need.ne ?_ | refine Need.au ?_ | refine Pick.map (by assumption) ?_ | refine Pick.mapI (by omega) (by assumption) ?_ | refine PickN.mk _ (by assumption) ?_ | refine PickN.mk _ rfl ?_ | refine PickN.au ?_ | refine App.au rfl ?_ | refine App.au (own_map (fun _ => rfl) _) ?_ | refine Both.mk ?_ ?_ | exact True.intro
          all_goals exact Stop.mk (ih (k + 1) (g := []) _ _ _ ⟨by omega, fin hn⟩ (by omega) ⟨rfl, (by repeat' first | exact trivial | refine ⟨rfl, ?_⟩ | refine ⟨congrArg (fun n => AV.lit (.int .i64 n)) (by omega), ?_⟩ | refine ⟨congrArg (fun l => some (Row.row 1 l)) (by simp [int1, num, tru]), ?_⟩), (by repeat' first | exact trivial | refine ⟨rfl, ?_⟩ | refine ⟨congrArg (fun n => AV.lit (.int .i64 n)) (by omega), ?_⟩ | refine ⟨congrArg (fun l => some (Row.row 1 l)) (by simp [int1, num, tru]), ?_⟩)⟩)
    · have hn : ¬ bornB f y := fun e => h1 (hb.1 e).1
      refine go 1000 Tryd.func50 ?_
      repeat' first | (refine Br.t ?_ ?_; focus (simp; omega)) | (refine Br.f ?_ ?_; focus (first | (simp; done) | simpa using h1)) | refine Draw.mk (.one 0 false (.one 1 false (.one 2 false (.one 3 false (.one 4 false (.alt 5 (ordL [10, 11] [6, 7, 8, 9, 10, 11, 12, 13]) (.alt 10 (ordL [5, 11] [5, 6, 7, 8, 9, 11, 12, 13]) .no))))))) (by decide +kernel) ?_ | refine Need.mk ⟨by omega, by rw [List.length_map]; omega⟩ ?_ | refine PickN.map gy ?_ | refine Call.eq hW rfl ?_ | refine Len.map ?_ | refine Len.nil ?_ | refine Len.cons ?_ | refine Br.t rfl ?_ | refine Br.f rfl ?_ | refine Fit.au ?_ | refine Cv.au ?_ | refine Need.ne ?_ | refine Need.au ?_ | refine Pick.map (by assumption) ?_ | refine Pick.mapI (by omega) (by assumption) ?_ | refine PickN.mk _ (by assumption) ?_ | refine PickN.mk _ rfl ?_ | refine PickN.au ?_ | refine App.au rfl ?_ | refine App.au (own_map (fun _ => rfl) _) ?_ | refine Both.mk ?_ ?_ | exact True.intro
      all_goals exact Stop.mk (ih (k + 1) (g := []) _ _ _ ⟨by omega, fin hn⟩ (by omega) ⟨rfl, (by repeat' first | exact trivial | refine ⟨rfl, ?_⟩ | refine ⟨congrArg (fun n => AV.lit (.int .i64 n)) (by omega), ?_⟩ | refine ⟨congrArg (fun l => some (Row.row 1 l)) (by simp [int1, num, tru]), ?_⟩), (by repeat' first | exact trivial | refine ⟨rfl, ?_⟩ | refine ⟨congrArg (fun n => AV.lit (.int .i64 n)) (by omega), ?_⟩ | refine ⟨congrArg (fun l => some (Row.row 1 l)) (by simp [int1, num, tru]), ?_⟩)⟩)
  · obtain rfl : k = l.length := by omega
    have : ¬ bornP f x := fun e => by
      obtain ⟨y, hy, hb⟩ := hbp.1 e
      obtain ⟨m, hm⟩ := List.getElem?_of_mem hy
      exact hk2 m y (List.getElem?_eq_some_iff.1 hm).1 hm hb
    refine go 1000 Tryd.func50 ?_
    repeat' first | (refine Br.f ?_ ?_; focus (simp; done)) | refine Len.map ?_ | refine Len.nil ?_ | refine Len.cons ?_ | refine Br.t rfl ?_ | refine Br.f rfl ?_ | refine Fit.au ?_ | refine Cv.au ?_ | refine Need.ne ?_ | refine Need.au ?_ | refine Pick.map (by assumption) ?_ | refine Pick.mapI (by omega) (by assumption) ?_ | refine PickN.mk _ (by assumption) ?_ | refine PickN.mk _ rfl ?_ | refine PickN.au ?_ | refine App.au rfl ?_ | refine App.au (own_map (fun _ => rfl) _) ?_ | refine Both.mk ?_ ?_ | exact True.intro
    rw [decide_eq_false this]; rfl
end Go.Proofs.YtdgibhndjdgllaaDoor

/- Where an array is surely there (the document's), by a contract. -/
namespace Go.Proofs.YtdgibhndjdgllaaDoor
open Go.Ax
set_option maxRecDepth 10000
set_option linter.unusedVariables false
set_option maxHeartbeats 0

open Classical in
noncomputable def nowB (f : Fun) (k : Nat) (q : Int) (a : Nat) : Bool := decide (AskP f k a q)
noncomputable def sureB (f : Fun) (x : Int) (k a : Nat) : Bool := decide (bornP f x) || nowB f k ((newF f).root x) a
noncomputable def sureRow (f : Fun) (x : Int) (k n : Nat) : List Bool := (List.range n).map (sureB f x k)
noncomputable def sureL (f : Fun) (x : Int) (n : Nat) : List (List Bool) := (List.range n).map fun k => sureRow f x k ((f.blocks.getD k []).length + 1)
def otb (l : List Bool) : List AV := [.osl 1 (l.map tb)]
open Classical in
theorem nowB_iff {f : Fun} {k : Nat} {q : Int} {a : Nat} : nowB f k q a = true ↔ AskP f k a q := by unfold nowB; exact decide_eq_true_iff
theorem nowB_succ {f : Fun} {k a : Nat} {b : List Ins} {i : Ins} {q : Int} (hb : f.blocks.getD k [] = b) (hi : b[a]? = some i) : nowB f k q (a + 1) = if askB f i ∧ rootI f i = q then true else if defF i = q then false else nowB f k q a := by
  rw [Bool.eq_iff_iff, nowB_iff, askP_succ hb hi]
  by_cases h1 : askB f i ∧ rootI f i = q
  · simp [h1]
  · by_cases h2 : defF i = q
    · simp [h1, h2]
    · rw [if_neg h1, if_neg h2, nowB_iff]; simp [h1, h2]
theorem sureRow_succ (f : Fun) (x : Int) (k n : Nat) : sureRow f x k (n + 1) = sureRow f x k n ++ [sureB f x k n] := by unfold sureRow; rw [List.range_succ, List.map_append]; rfl
theorem sureL_succ (f : Fun) (x : Int) (n : Nat) : sureL f x (n + 1) = sureL f x n ++ [sureRow f x n ((f.blocks.getD n []).length + 1)] := by unfold sureL; rw [List.range_succ, List.map_append]; rfl
theorem sureRow_len (f : Fun) (x : Int) (k n : Nat) : (sureRow f x k n).length = n := by simp [sureRow]
theorem sureL_len (f : Fun) (x : Int) (n : Nat) : (sureL f x n).length = n := by simp [sureL]
theorem Sures19_spec (f : Fun) (h : NilR f) (x : Int) : FnSpec Tryd.prog 19 [funA f, num x] (fun r => r = .osl 1 ((sureL f x f.blocks.length).map otb)) := by
  have hbl := h.few
  obtain ⟨q, hq⟩ : ∃ q, q = (newF f).root x := ⟨_, rfl⟩
  obtain ⟨bo, hbo⟩ : ∃ bo, bo = decide (bornP f x) := ⟨_, rfl⟩
  have hO := h.root x
  have hB := Born50_spec f h x
  rw [← hq] at hO
  rw [← hbo] at hB
  have hsu : ∀ k a, sureB f x k a = (bo || nowB f k q a) := fun k a => by unfold sureB; rw [hq, hbo]
  refine spec_of 1000 Tryd.func19 rfl rfl ?_
  repeat' first | refine Draw.mk (ordL [2, 5] [0, 1, 3, 4, 2, 5, 6, 7]) (by decide +kernel) ?_ | refine Call.eq hO rfl ?_ | refine Call.eq hB rfl ?_ | refine Len.map ?_ | refine Len.nil ?_ | refine Len.cons ?_ | refine Br.t rfl ?_ | refine Br.f rfl ?_ | refine Fit.au ?_ | refine Cv.au ?_ | refine Need.ne ?_ | refine Need.au ?_ | refine Pick.map (by assumption) ?_ | refine Pick.mapI (by omega) (by assumption) ?_ | refine PickN.mk _ (by assumption) ?_ | refine PickN.mk _ rfl ?_ | refine PickN.au ?_ | refine App.au rfl ?_ | refine App.au (own_map (fun _ => rfl) _) ?_ | refine Both.mk ?_ ?_ | exact True.intro
  refine Stop.mk (loop_in (g := []) (fun k : Nat => [(2, .hp 0 0), (5, num q), (6, tru bo), (7, .hw 1), (8, num k)]) (fun k => [(1, .row 1 ((sureL f x k).map otb)), (0, .var f.cs)]) 2 (fun k => k ≤ f.blocks.length) (fun k => f.blocks.length - k) 0 (Nat.zero_le _) ⟨rfl, (by repeat' first | exact trivial | refine ⟨rfl, ?_⟩ | refine ⟨congrArg (fun n => AV.lit (.int .i64 n)) (by omega), ?_⟩ | refine ⟨congrArg (fun l => some (Row.row 1 l)) (by simp [int1, num, tru]), ?_⟩), (by repeat' first | exact trivial | refine ⟨rfl, ?_⟩ | refine ⟨congrArg (fun n => AV.lit (.int .i64 n)) (by omega), ?_⟩ | refine ⟨congrArg (fun l => some (Row.row 1 l)) (by simp [int1, num, tru]), ?_⟩)⟩ (fun k hk ih => ?_))
  by_cases hkl : k < f.blocks.length
  · obtain ⟨b, gb, hbm⟩ := getK (l := f.blocks) (k := k) hkl
    have hbl2 := h.len b hbm
    have eb : f.blocks.getD k [] = b := by rw [List.getD_eq_getElem?_getD, gb]; rfl
    have hA : FnSpec Tryd.prog 21 [funA f, num k, num 0, num q] (fun v => v = tru (nowB f k q 0)) := (Asked21_spec f h k 0 q b gb (Nat.zero_le _)).imp fun v ⟨c, e, hc⟩ => by
      rw [e]
      exact congrArg tru (Bool.eq_iff_iff.2 (hc.trans nowB_iff.symm))
    have hsl := sureL_len f x k
    have hrow0 : sureRow f x k (0 + 1) = [bo || nowB f k q 0] := by rw [sureRow_succ, hsu]; rfl
    apply join (fun _ : Unit => [(2, .hp 0 0), (5, num q), (6, tru bo), (7, .hw 1), (8, num k), (9, tru (nowB f k q 0)), (10, .hw 2), (11, num 0)]) (fun _ => [(2, .row 1 ((sureRow f x k (0 + 1)).map tb)), (1, .row 1 ((sureL f x k).map otb)), (0, .var f.cs)]) 3 (fun _ => True)
    · intro jn
      rw [hrow0] at jn
      refine go 1000 Tryd.func19 ?_
      repeat' first | (refine Br.t ?_ ?_; focus (simp; omega)) | refine Call.eq hA rfl ?_ | refine Len.map ?_ | refine Len.nil ?_ | refine Len.cons ?_ | refine Br.t rfl ?_ | refine Br.f rfl ?_ | refine Fit.au ?_ | refine Cv.au ?_ | refine Need.ne ?_ | refine Need.au ?_ | refine Pick.map (by assumption) ?_ | refine Pick.mapI (by omega) (by assumption) ?_ | refine PickN.mk _ (by assumption) ?_ | refine PickN.mk _ rfl ?_ | refine PickN.au ?_ | refine App.au rfl ?_ | refine App.au (own_map (fun _ => rfl) _) ?_ | refine Both.mk ?_ ?_ | exact True.intro
      refine Br.mk (fun hb => ?_) (fun hb => ?_)
      · subst hb
        repeat' first | refine Len.map ?_ | refine Len.nil ?_ | refine Len.cons ?_ | refine Br.t rfl ?_ | refine Br.f rfl ?_ | refine Fit.au ?_ | refine Cv.au ?_ | refine Need.ne ?_ | refine Need.au ?_ | refine Pick.map (by assumption) ?_ | refine Pick.mapI (by omega) (by assumption) ?_ | refine PickN.mk _ (by assumption) ?_ | refine PickN.mk _ rfl ?_ | refine PickN.au ?_ | refine App.au rfl ?_ | refine App.au (own_map (fun _ => rfl) _) ?_ | refine Both.mk ?_ ?_ | exact True.intro
        exact Stop.mk (jn () (g := []) _ _ _ ⟨rfl, (by repeat' first | exact trivial | refine ⟨rfl, ?_⟩ | refine ⟨congrArg (fun n => AV.lit (.int .i64 n)) (by omega), ?_⟩ | refine ⟨congrArg (fun l => some (Row.row 1 l)) (by simp [int1, num, tru]), ?_⟩), (by repeat' first | exact trivial | refine ⟨rfl, ?_⟩ | refine ⟨congrArg (fun n => AV.lit (.int .i64 n)) (by omega), ?_⟩ | refine ⟨congrArg (fun l => some (Row.row 1 l)) (by simp [int1, num, tru]), ?_⟩)⟩ trivial)
      · subst hb
        repeat' first | refine Len.map ?_ | refine Len.nil ?_ | refine Len.cons ?_ | refine Br.t rfl ?_ | refine Br.f rfl ?_ | refine Fit.au ?_ | refine Cv.au ?_ | refine Need.ne ?_ | refine Need.au ?_ | refine Pick.map (by assumption) ?_ | refine Pick.mapI (by omega) (by assumption) ?_ | refine PickN.mk _ (by assumption) ?_ | refine PickN.mk _ rfl ?_ | refine PickN.au ?_ | refine App.au rfl ?_ | refine App.au (own_map (fun _ => rfl) _) ?_ | refine Both.mk ?_ ?_ | exact True.intro
        exact Stop.mk (jn () (g := []) _ _ _ ⟨rfl, (by repeat' first | exact trivial | refine ⟨rfl, ?_⟩ | refine ⟨congrArg (fun n => AV.lit (.int .i64 n)) (by omega), ?_⟩ | refine ⟨congrArg (fun l => some (Row.row 1 l)) (by simp [int1, num, tru]), ?_⟩), (by repeat' first | exact trivial | refine ⟨rfl, ?_⟩ | refine ⟨congrArg (fun n => AV.lit (.int .i64 n)) (by omega), ?_⟩ | refine ⟨congrArg (fun l => some (Row.row 1 l)) (by simp [int1, num, tru]), ?_⟩)⟩ trivial)
    rintro _ _
    refine loop_in (g := []) (fun a : Nat => [(2, .hp 0 0), (5, num q), (6, tru bo), (7, .hw 1), (8, num k), (9, tru (nowB f k q a)), (10, .hw 2), (11, num a)]) (fun a => [(2, .row 1 ((sureRow f x k (a + 1)).map tb)), (1, .row 1 ((sureL f x k).map otb)), (0, .var f.cs)]) 3 (fun a => a ≤ b.length) (fun a => b.length - a) 0 (Nat.zero_le _) ⟨rfl, (by repeat' first | exact trivial | refine ⟨rfl, ?_⟩ | refine ⟨congrArg (fun n => AV.lit (.int .i64 n)) (by omega), ?_⟩ | refine ⟨congrArg (fun l => some (Row.row 1 l)) (by simp [int1, num, tru]), ?_⟩), (by repeat' first | exact trivial | refine ⟨rfl, ?_⟩ | refine ⟨congrArg (fun n => AV.lit (.int .i64 n)) (by omega), ?_⟩ | refine ⟨congrArg (fun l => some (Row.row 1 l)) (by simp [int1, num, tru]), ?_⟩)⟩ (fun a ha ih2 => ?_)
    have hrl := sureRow_len f x k (a + 1)
    by_cases hal : a < b.length
    · obtain ⟨i, gi, him⟩ := getK (l := b) (k := a) hal
      have harg := h.arg b hbm i him
      have hD := Def15_spec i (by unfold Ins.fits; omega)
      rw [← def_eq] at hD
      have hO2 := h.root i.a
      have hst := nowB_succ (q := q) eb gi
      have hrow : (sureRow f x k (a + 1 + 1)).map tb = (sureRow f x k (a + 1)).map tb ++ [[tru (bo || nowB f k q (a + 1))]] := by
        rw [sureRow_succ, List.map_append, hsu]; rfl
      have ih' := @ih2 (a + 1)
      by_cases hd : defF i = q
      · by_cases hop : i.op = 31
        · by_cases hr : (newF f).root i.a = q
          · rw [if_pos (show askB f i ∧ rootI f i = q from ⟨⟨hop, harg.2⟩, hr⟩)] at hst
            rw [hrow, hst] at ih'
            refine go 1000 Tryd.func19 ?_
            repeat' first | (refine Br.t ?_ ?_; focus (first | (simp; omega) | (simp; done) | (simpa using hd) | (simpa using hop) | (simpa using hr))) | refine Pick.map gb ?_ | refine Pick.map gi ?_ | refine Call.eq hD rfl ?_ | refine Call.eq hO2 rfl ?_ | refine Len.map ?_ | refine Len.nil ?_ | refine Len.cons ?_ | refine Br.t rfl ?_ | refine Br.f rfl ?_ | refine Fit.au ?_ | refine Cv.au ?_ | refine Need.ne ?_ | refine Need.au ?_ | refine Pick.map (by assumption) ?_ | refine Pick.mapI (by omega) (by assumption) ?_ | refine PickN.mk _ (by assumption) ?_ | refine PickN.mk _ rfl ?_ | refine PickN.au ?_ | refine App.au rfl ?_ | refine App.au (own_map (fun _ => rfl) _) ?_ | refine Both.mk ?_ ?_ | exact True.intro
            refine Br.mk (fun hb => ?_) (fun hb => ?_)
            · subst hb
              repeat' first | refine Len.map ?_ | refine Len.nil ?_ | refine Len.cons ?_ | refine Br.t rfl ?_ | refine Br.f rfl ?_ | refine Fit.au ?_ | refine Cv.au ?_ | refine Need.ne ?_ | refine Need.au ?_ | refine Pick.map (by assumption) ?_ | refine Pick.mapI (by omega) (by assumption) ?_ | refine PickN.mk _ (by assumption) ?_ | refine PickN.mk _ rfl ?_ | refine PickN.au ?_ | refine App.au rfl ?_ | refine App.au (own_map (fun _ => rfl) _) ?_ | refine Both.mk ?_ ?_ | exact True.intro
              exact Stop.mk (ih' (g := [(2, 5)]) _ _ _ (by omega) (by omega) ⟨rfl, (by repeat' first | exact trivial | refine ⟨rfl, ?_⟩ | refine ⟨congrArg (fun n => AV.lit (.int .i64 n)) (by omega), ?_⟩ | refine ⟨congrArg (fun l => some (Row.row 1 l)) (by simp [int1, num, tru]), ?_⟩), (by repeat' first | exact trivial | refine ⟨rfl, ?_⟩ | refine ⟨congrArg (fun n => AV.lit (.int .i64 n)) (by omega), ?_⟩ | refine ⟨congrArg (fun l => some (Row.row 1 l)) (by simp [int1, num, tru]), ?_⟩)⟩)
            · subst hb
              repeat' first | refine Len.map ?_ | refine Len.nil ?_ | refine Len.cons ?_ | refine Br.t rfl ?_ | refine Br.f rfl ?_ | refine Fit.au ?_ | refine Cv.au ?_ | refine Need.ne ?_ | refine Need.au ?_ | refine Pick.map (by assumption) ?_ | refine Pick.mapI (by omega) (by assumption) ?_ | refine PickN.mk _ (by assumption) ?_ | refine PickN.mk _ rfl ?_ | refine PickN.au ?_ | refine App.au rfl ?_ | refine App.au (own_map (fun _ => rfl) _) ?_ | refine Both.mk ?_ ?_ | exact True.intro
              exact Stop.mk (ih' (g := [(2, 5)]) _ _ _ (by omega) (by omega) ⟨rfl, (by repeat' first | exact trivial | refine ⟨rfl, ?_⟩ | refine ⟨congrArg (fun n => AV.lit (.int .i64 n)) (by omega), ?_⟩ | refine ⟨congrArg (fun l => some (Row.row 1 l)) (by simp [int1, num, tru]), ?_⟩), (by repeat' first | exact trivial | refine ⟨rfl, ?_⟩ | refine ⟨congrArg (fun n => AV.lit (.int .i64 n)) (by omega), ?_⟩ | refine ⟨congrArg (fun l => some (Row.row 1 l)) (by simp [int1, num, tru]), ?_⟩)⟩)
          · rw [if_neg (fun e : askB f i ∧ rootI f i = q => hr e.2), if_pos hd] at hst
            rw [hrow, hst] at ih'
            refine go 1000 Tryd.func19 ?_
            repeat' first | (refine Br.t ?_ ?_; focus (first | (simp; omega) | (simp; done) | (simpa using hd) | (simpa using hop))) | (refine Br.f ?_ ?_; focus (first | (simp; done) | (simpa using hr))) | refine Pick.map gb ?_ | refine Pick.map gi ?_ | refine Call.eq hD rfl ?_ | refine Call.eq hO2 rfl ?_ | refine Len.map ?_ | refine Len.nil ?_ | refine Len.cons ?_ | refine Br.t rfl ?_ | refine Br.f rfl ?_ | refine Fit.au ?_ | refine Cv.au ?_ | refine Need.ne ?_ | refine Need.au ?_ | refine Pick.map (by assumption) ?_ | refine Pick.mapI (by omega) (by assumption) ?_ | refine PickN.mk _ (by assumption) ?_ | refine PickN.mk _ rfl ?_ | refine PickN.au ?_ | refine App.au rfl ?_ | refine App.au (own_map (fun _ => rfl) _) ?_ | refine Both.mk ?_ ?_ | exact True.intro
            refine Br.mk (fun hb => ?_) (fun hb => ?_)
            · subst hb
              repeat' first | refine Len.map ?_ | refine Len.nil ?_ | refine Len.cons ?_ | refine Br.t rfl ?_ | refine Br.f rfl ?_ | refine Fit.au ?_ | refine Cv.au ?_ | refine Need.ne ?_ | refine Need.au ?_ | refine Pick.map (by assumption) ?_ | refine Pick.mapI (by omega) (by assumption) ?_ | refine PickN.mk _ (by assumption) ?_ | refine PickN.mk _ rfl ?_ | refine PickN.au ?_ | refine App.au rfl ?_ | refine App.au (own_map (fun _ => rfl) _) ?_ | refine Both.mk ?_ ?_ | exact True.intro
              exact Stop.mk (ih' (g := [(2, 5)]) _ _ _ (by omega) (by omega) ⟨rfl, (by repeat' first | exact trivial | refine ⟨rfl, ?_⟩ | refine ⟨congrArg (fun n => AV.lit (.int .i64 n)) (by omega), ?_⟩ | refine ⟨congrArg (fun l => some (Row.row 1 l)) (by simp [int1, num, tru]), ?_⟩), (by repeat' first | exact trivial | refine ⟨rfl, ?_⟩ | refine ⟨congrArg (fun n => AV.lit (.int .i64 n)) (by omega), ?_⟩ | refine ⟨congrArg (fun l => some (Row.row 1 l)) (by simp [int1, num, tru]), ?_⟩)⟩)
            · subst hb
              repeat' first | refine Len.map ?_ | refine Len.nil ?_ | refine Len.cons ?_ | refine Br.t rfl ?_ | refine Br.f rfl ?_ | refine Fit.au ?_ | refine Cv.au ?_ | refine Need.ne ?_ | refine Need.au ?_ | refine Pick.map (by assumption) ?_ | refine Pick.mapI (by omega) (by assumption) ?_ | refine PickN.mk _ (by assumption) ?_ | refine PickN.mk _ rfl ?_ | refine PickN.au ?_ | refine App.au rfl ?_ | refine App.au (own_map (fun _ => rfl) _) ?_ | refine Both.mk ?_ ?_ | exact True.intro
              exact Stop.mk (ih' (g := [(2, 5)]) _ _ _ (by omega) (by omega) ⟨rfl, (by repeat' first | exact trivial | refine ⟨rfl, ?_⟩ | refine ⟨congrArg (fun n => AV.lit (.int .i64 n)) (by omega), ?_⟩ | refine ⟨congrArg (fun l => some (Row.row 1 l)) (by simp [int1, num, tru]), ?_⟩), (by repeat' first | exact trivial | refine ⟨rfl, ?_⟩ | refine ⟨congrArg (fun n => AV.lit (.int .i64 n)) (by omega), ?_⟩ | refine ⟨congrArg (fun l => some (Row.row 1 l)) (by simp [int1, num, tru]), ?_⟩)⟩)
        · rw [if_neg (fun e : askB f i ∧ rootI f i = q => hop e.1.1), if_pos hd] at hst
          rw [hrow, hst] at ih'
          refine go 1000 Tryd.func19 ?_
          repeat' first | (refine Br.t ?_ ?_; focus (first | (simp; omega) | (simp; done) | (simpa using hd))) | (refine Br.f ?_ ?_; focus (first | (simp; done) | (simpa using hop))) | refine Pick.map gb ?_ | refine Pick.map gi ?_ | refine Call.eq hD rfl ?_ | refine Call.eq hO2 rfl ?_ | refine Len.map ?_ | refine Len.nil ?_ | refine Len.cons ?_ | refine Br.t rfl ?_ | refine Br.f rfl ?_ | refine Fit.au ?_ | refine Cv.au ?_ | refine Need.ne ?_ | refine Need.au ?_ | refine Pick.map (by assumption) ?_ | refine Pick.mapI (by omega) (by assumption) ?_ | refine PickN.mk _ (by assumption) ?_ | refine PickN.mk _ rfl ?_ | refine PickN.au ?_ | refine App.au rfl ?_ | refine App.au (own_map (fun _ => rfl) _) ?_ | refine Both.mk ?_ ?_ | exact True.intro
          refine Br.mk (fun hb => ?_) (fun hb => ?_)
          · subst hb
            repeat' first | refine Len.map ?_ | refine Len.nil ?_ | refine Len.cons ?_ | refine Br.t rfl ?_ | refine Br.f rfl ?_ | refine Fit.au ?_ | refine Cv.au ?_ | refine Need.ne ?_ | refine Need.au ?_ | refine Pick.map (by assumption) ?_ | refine Pick.mapI (by omega) (by assumption) ?_ | refine PickN.mk _ (by assumption) ?_ | refine PickN.mk _ rfl ?_ | refine PickN.au ?_ | refine App.au rfl ?_ | refine App.au (own_map (fun _ => rfl) _) ?_ | refine Both.mk ?_ ?_ | exact True.intro
            exact Stop.mk (ih' (g := [(2, 5)]) _ _ _ (by omega) (by omega) ⟨rfl, (by repeat' first | exact trivial | refine ⟨rfl, ?_⟩ | refine ⟨congrArg (fun n => AV.lit (.int .i64 n)) (by omega), ?_⟩ | refine ⟨congrArg (fun l => some (Row.row 1 l)) (by simp [int1, num, tru]), ?_⟩), (by repeat' first | exact trivial | refine ⟨rfl, ?_⟩ | refine ⟨congrArg (fun n => AV.lit (.int .i64 n)) (by omega), ?_⟩ | refine ⟨congrArg (fun l => some (Row.row 1 l)) (by simp [int1, num, tru]), ?_⟩)⟩)
          · subst hb
            repeat' first | refine Len.map ?_ | refine Len.nil ?_ | refine Len.cons ?_ | refine Br.t rfl ?_ | refine Br.f rfl ?_ | refine Fit.au ?_ | refine Cv.au ?_ | refine Need.ne ?_ | refine Need.au ?_ | refine Pick.map (by assumption) ?_ | refine Pick.mapI (by omega) (by assumption) ?_ | refine PickN.mk _ (by assumption) ?_ | refine PickN.mk _ rfl ?_ | refine PickN.au ?_ | refine App.au rfl ?_ | refine App.au (own_map (fun _ => rfl) _) ?_ | refine Both.mk ?_ ?_ | exact True.intro
            exact Stop.mk (ih' (g := [(2, 5)]) _ _ _ (by omega) (by omega) ⟨rfl, (by repeat' first | exact trivial | refine ⟨rfl, ?_⟩ | refine ⟨congrArg (fun n => AV.lit (.int .i64 n)) (by omega), ?_⟩ | refine ⟨congrArg (fun l => some (Row.row 1 l)) (by simp [int1, num, tru]), ?_⟩), (by repeat' first | exact trivial | refine ⟨rfl, ?_⟩ | refine ⟨congrArg (fun n => AV.lit (.int .i64 n)) (by omega), ?_⟩ | refine ⟨congrArg (fun l => some (Row.row 1 l)) (by simp [int1, num, tru]), ?_⟩)⟩)
      · by_cases hop : i.op = 31
        · by_cases hr : (newF f).root i.a = q
          · rw [if_pos (show askB f i ∧ rootI f i = q from ⟨⟨hop, harg.2⟩, hr⟩)] at hst
            rw [hrow, hst] at ih'
            refine go 1000 Tryd.func19 ?_
            repeat' first | (refine Br.t ?_ ?_; focus (first | (simp; omega) | (simp; done) | (simpa using hop) | (simpa using hr))) | (refine Br.f ?_ ?_; focus (first | (simp; done) | (simpa using hd))) | refine Pick.map gb ?_ | refine Pick.map gi ?_ | refine Call.eq hD rfl ?_ | refine Call.eq hO2 rfl ?_ | refine Len.map ?_ | refine Len.nil ?_ | refine Len.cons ?_ | refine Br.t rfl ?_ | refine Br.f rfl ?_ | refine Fit.au ?_ | refine Cv.au ?_ | refine Need.ne ?_ | refine Need.au ?_ | refine Pick.map (by assumption) ?_ | refine Pick.mapI (by omega) (by assumption) ?_ | refine PickN.mk _ (by assumption) ?_ | refine PickN.mk _ rfl ?_ | refine PickN.au ?_ | refine App.au rfl ?_ | refine App.au (own_map (fun _ => rfl) _) ?_ | refine Both.mk ?_ ?_ | exact True.intro
            refine Br.mk (fun hb => ?_) (fun hb => ?_)
            · subst hb
              repeat' first | refine Len.map ?_ | refine Len.nil ?_ | refine Len.cons ?_ | refine Br.t rfl ?_ | refine Br.f rfl ?_ | refine Fit.au ?_ | refine Cv.au ?_ | refine Need.ne ?_ | refine Need.au ?_ | refine Pick.map (by assumption) ?_ | refine Pick.mapI (by omega) (by assumption) ?_ | refine PickN.mk _ (by assumption) ?_ | refine PickN.mk _ rfl ?_ | refine PickN.au ?_ | refine App.au rfl ?_ | refine App.au (own_map (fun _ => rfl) _) ?_ | refine Both.mk ?_ ?_ | exact True.intro
              exact Stop.mk (ih' (g := [(2, 5)]) _ _ _ (by omega) (by omega) ⟨rfl, (by repeat' first | exact trivial | refine ⟨rfl, ?_⟩ | refine ⟨congrArg (fun n => AV.lit (.int .i64 n)) (by omega), ?_⟩ | refine ⟨congrArg (fun l => some (Row.row 1 l)) (by simp [int1, num, tru]), ?_⟩), (by repeat' first | exact trivial | refine ⟨rfl, ?_⟩ | refine ⟨congrArg (fun n => AV.lit (.int .i64 n)) (by omega), ?_⟩ | refine ⟨congrArg (fun l => some (Row.row 1 l)) (by simp [int1, num, tru]), ?_⟩)⟩)
            · subst hb
              repeat' first | refine Len.map ?_ | refine Len.nil ?_ | refine Len.cons ?_ | refine Br.t rfl ?_ | refine Br.f rfl ?_ | refine Fit.au ?_ | refine Cv.au ?_ | refine Need.ne ?_ | refine Need.au ?_ | refine Pick.map (by assumption) ?_ | refine Pick.mapI (by omega) (by assumption) ?_ | refine PickN.mk _ (by assumption) ?_ | refine PickN.mk _ rfl ?_ | refine PickN.au ?_ | refine App.au rfl ?_ | refine App.au (own_map (fun _ => rfl) _) ?_ | refine Both.mk ?_ ?_ | exact True.intro
              exact Stop.mk (ih' (g := [(2, 5)]) _ _ _ (by omega) (by omega) ⟨rfl, (by repeat' first | exact trivial | refine ⟨rfl, ?_⟩ | refine ⟨congrArg (fun n => AV.lit (.int .i64 n)) (by omega), ?_⟩ | refine ⟨congrArg (fun l => some (Row.row 1 l)) (by simp [int1, num, tru]), ?_⟩), (by repeat' first | exact trivial | refine ⟨rfl, ?_⟩ | refine ⟨congrArg (fun n => AV.lit (.int .i64 n)) (by omega), ?_⟩ | refine ⟨congrArg (fun l => some (Row.row 1 l)) (by simp [int1, num, tru]), ?_⟩)⟩)
          · rw [if_neg (fun e : askB f i ∧ rootI f i = q => hr e.2), if_neg hd] at hst
            rw [hrow, hst] at ih'
            refine go 1000 Tryd.func19 ?_
            repeat' first | (refine Br.t ?_ ?_; focus (first | (simp; omega) | (simp; done) | (simpa using hop))) | (refine Br.f ?_ ?_; focus (first | (simp; done) | (simpa using hd) | (simpa using hr))) | refine Pick.map gb ?_ | refine Pick.map gi ?_ | refine Call.eq hD rfl ?_ | refine Call.eq hO2 rfl ?_ | refine Len.map ?_ | refine Len.nil ?_ | refine Len.cons ?_ | refine Br.t rfl ?_ | refine Br.f rfl ?_ | refine Fit.au ?_ | refine Cv.au ?_ | refine Need.ne ?_ | refine Need.au ?_ | refine Pick.map (by assumption) ?_ | refine Pick.mapI (by omega) (by assumption) ?_ | refine PickN.mk _ (by assumption) ?_ | refine PickN.mk _ rfl ?_ | refine PickN.au ?_ | refine App.au rfl ?_ | refine App.au (own_map (fun _ => rfl) _) ?_ | refine Both.mk ?_ ?_ | exact True.intro
            refine Br.mk (fun hb => ?_) (fun hb => ?_)
            · subst hb
              repeat' first | refine Len.map ?_ | refine Len.nil ?_ | refine Len.cons ?_ | refine Br.t rfl ?_ | refine Br.f rfl ?_ | refine Fit.au ?_ | refine Cv.au ?_ | refine Need.ne ?_ | refine Need.au ?_ | refine Pick.map (by assumption) ?_ | refine Pick.mapI (by omega) (by assumption) ?_ | refine PickN.mk _ (by assumption) ?_ | refine PickN.mk _ rfl ?_ | refine PickN.au ?_ | refine App.au rfl ?_ | refine App.au (own_map (fun _ => rfl) _) ?_ | refine Both.mk ?_ ?_ | exact True.intro
              exact Stop.mk (ih' (g := [(2, 5)]) _ _ _ (by omega) (by omega) ⟨rfl, (by repeat' first | exact trivial | refine ⟨rfl, ?_⟩ | refine ⟨congrArg (fun n => AV.lit (.int .i64 n)) (by omega), ?_⟩ | refine ⟨congrArg (fun l => some (Row.row 1 l)) (by simp [int1, num, tru]), ?_⟩), (by repeat' first | exact trivial | refine ⟨rfl, ?_⟩ | refine ⟨congrArg (fun n => AV.lit (.int .i64 n)) (by omega), ?_⟩ | refine ⟨congrArg (fun l => some (Row.row 1 l)) (by simp [int1, num, tru]), ?_⟩)⟩)
            · subst hb
              repeat' first | refine Len.map ?_ | refine Len.nil ?_ | refine Len.cons ?_ | refine Br.t rfl ?_ | refine Br.f rfl ?_ | refine Fit.au ?_ | refine Cv.au ?_ | refine Need.ne ?_ | refine Need.au ?_ | refine Pick.map (by assumption) ?_ | refine Pick.mapI (by omega) (by assumption) ?_ | refine PickN.mk _ (by assumption) ?_ | refine PickN.mk _ rfl ?_ | refine PickN.au ?_ | refine App.au rfl ?_ | refine App.au (own_map (fun _ => rfl) _) ?_ | refine Both.mk ?_ ?_ | exact True.intro
              exact Stop.mk (ih' (g := [(2, 5)]) _ _ _ (by omega) (by omega) ⟨rfl, (by repeat' first | exact trivial | refine ⟨rfl, ?_⟩ | refine ⟨congrArg (fun n => AV.lit (.int .i64 n)) (by omega), ?_⟩ | refine ⟨congrArg (fun l => some (Row.row 1 l)) (by simp [int1, num, tru]), ?_⟩), (by repeat' first | exact trivial | refine ⟨rfl, ?_⟩ | refine ⟨congrArg (fun n => AV.lit (.int .i64 n)) (by omega), ?_⟩ | refine ⟨congrArg (fun l => some (Row.row 1 l)) (by simp [int1, num, tru]), ?_⟩)⟩)
        · rw [if_neg (fun e : askB f i ∧ rootI f i = q => hop e.1.1), if_neg hd] at hst
          rw [hrow, hst] at ih'
          refine go 1000 Tryd.func19 ?_
          repeat' first | (refine Br.t ?_ ?_; focus (first | (simp; omega))) | (refine Br.f ?_ ?_; focus (first | (simp; done) | (simpa using hd) | (simpa using hop))) | refine Pick.map gb ?_ | refine Pick.map gi ?_ | refine Call.eq hD rfl ?_ | refine Call.eq hO2 rfl ?_ | refine Len.map ?_ | refine Len.nil ?_ | refine Len.cons ?_ | refine Br.t rfl ?_ | refine Br.f rfl ?_ | refine Fit.au ?_ | refine Cv.au ?_ | refine Need.ne ?_ | refine Need.au ?_ | refine Pick.map (by assumption) ?_ | refine Pick.mapI (by omega) (by assumption) ?_ | refine PickN.mk _ (by assumption) ?_ | refine PickN.mk _ rfl ?_ | refine PickN.au ?_ | refine App.au rfl ?_ | refine App.au (own_map (fun _ => rfl) _) ?_ | refine Both.mk ?_ ?_ | exact True.intro
          refine Br.mk (fun hb => ?_) (fun hb => ?_)
          · subst hb
            repeat' first | refine Len.map ?_ | refine Len.nil ?_ | refine Len.cons ?_ | refine Br.t rfl ?_ | refine Br.f rfl ?_ | refine Fit.au ?_ | refine Cv.au ?_ | refine Need.ne ?_ | refine Need.au ?_ | refine Pick.map (by assumption) ?_ | refine Pick.mapI (by omega) (by assumption) ?_ | refine PickN.mk _ (by assumption) ?_ | refine PickN.mk _ rfl ?_ | refine PickN.au ?_ | refine App.au rfl ?_ | refine App.au (own_map (fun _ => rfl) _) ?_ | refine Both.mk ?_ ?_ | exact True.intro
            exact Stop.mk (ih' (g := [(2, 5)]) _ _ _ (by omega) (by omega) ⟨rfl, (by repeat' first | exact trivial | refine ⟨rfl, ?_⟩ | refine ⟨congrArg (fun n => AV.lit (.int .i64 n)) (by omega), ?_⟩ | refine ⟨congrArg (fun l => some (Row.row 1 l)) (by simp [int1, num, tru]), ?_⟩), (by repeat' first | exact trivial | refine ⟨rfl, ?_⟩ | refine ⟨congrArg (fun n => AV.lit (.int .i64 n)) (by omega), ?_⟩ | refine ⟨congrArg (fun l => some (Row.row 1 l)) (by simp [int1, num, tru]), ?_⟩)⟩)
          · subst hb
            repeat' first | refine Len.map ?_ | refine Len.nil ?_ | refine Len.cons ?_ | refine Br.t rfl ?_ | refine Br.f rfl ?_ | refine Fit.au ?_ | refine Cv.au ?_ | refine Need.ne ?_ | refine Need.au ?_ | refine Pick.map (by assumption) ?_ | refine Pick.mapI (by omega) (by assumption) ?_ | refine PickN.mk _ (by assumption) ?_ | refine PickN.mk _ rfl ?_ | refine PickN.au ?_ | refine App.au rfl ?_ | refine App.au (own_map (fun _ => rfl) _) ?_ | refine Both.mk ?_ ?_ | exact True.intro
            exact Stop.mk (ih' (g := [(2, 5)]) _ _ _ (by omega) (by omega) ⟨rfl, (by repeat' first | exact trivial | refine ⟨rfl, ?_⟩ | refine ⟨congrArg (fun n => AV.lit (.int .i64 n)) (by omega), ?_⟩ | refine ⟨congrArg (fun l => some (Row.row 1 l)) (by simp [int1, num, tru]), ?_⟩), (by repeat' first | exact trivial | refine ⟨rfl, ?_⟩ | refine ⟨congrArg (fun n => AV.lit (.int .i64 n)) (by omega), ?_⟩ | refine ⟨congrArg (fun l => some (Row.row 1 l)) (by simp [int1, num, tru]), ?_⟩)⟩)
    · obtain rfl : a = b.length := by omega
      have hL : (sureL f x (k + 1)).map otb = (sureL f x k).map otb ++ [[.osl 1 ((sureRow f x k (b.length + 1)).map tb)]] := by
        rw [sureL_succ, List.map_append, eb]; rfl
      have ih' := @ih (k + 1)
      rw [hL] at ih'
      refine go 1000 Tryd.func19 ?_
      repeat' first | (refine Br.f ?_ ?_; focus (simp; done)) | refine Pick.map gb ?_ | refine Len.map ?_ | refine Len.nil ?_ | refine Len.cons ?_ | refine Br.t rfl ?_ | refine Br.f rfl ?_ | refine Fit.au ?_ | refine Cv.au ?_ | refine Need.ne ?_ | refine Need.au ?_ | refine Pick.map (by assumption) ?_ | refine Pick.mapI (by omega) (by assumption) ?_ | refine PickN.mk _ (by assumption) ?_ | refine PickN.mk _ rfl ?_ | refine PickN.au ?_ | refine App.au rfl ?_ | refine App.au (own_map (fun _ => rfl) _) ?_ | refine Both.mk ?_ ?_ | exact True.intro
      exact Stop.mk (ih' (g := [(1, 4)]) _ _ _ (by omega) (by omega) ⟨rfl, (by repeat' first | exact trivial | refine ⟨rfl, ?_⟩ | refine ⟨congrArg (fun n => AV.lit (.int .i64 n)) (by omega), ?_⟩ | refine ⟨congrArg (fun l => some (Row.row 1 l)) (by simp [int1, num, tru]), ?_⟩), (by repeat' first | exact trivial | refine ⟨rfl, ?_⟩ | refine ⟨congrArg (fun n => AV.lit (.int .i64 n)) (by omega), ?_⟩ | refine ⟨congrArg (fun l => some (Row.row 1 l)) (by simp [int1, num, tru]), ?_⟩)⟩)
  · obtain rfl : k = f.blocks.length := by omega
    refine go 1000 Tryd.func19 ?_
    repeat' first | (refine Br.f ?_ ?_; focus (simp; done)) | refine Len.map ?_ | refine Len.nil ?_ | refine Len.cons ?_ | refine Br.t rfl ?_ | refine Br.f rfl ?_ | refine Fit.au ?_ | refine Cv.au ?_ | refine Need.ne ?_ | refine Need.au ?_ | refine Pick.map (by assumption) ?_ | refine Pick.mapI (by omega) (by assumption) ?_ | refine PickN.mk _ (by assumption) ?_ | refine PickN.mk _ rfl ?_ | refine PickN.au ?_ | refine App.au rfl ?_ | refine App.au (own_map (fun _ => rfl) _) ?_ | refine Both.mk ?_ ?_ | exact True.intro
    rfl
end Go.Proofs.YtdgibhndjdgllaaDoor

/- nils.Facts.Sure, by contracts. -/
namespace Go.Proofs.YtdgibhndjdgllaaDoor
open Go.Ax
set_option maxRecDepth 10000
set_option linter.unusedVariables false
set_option maxHeartbeats 0

theorem Or_nil2_spec (s : List W) (hs : s.length ≤ 1000000) : FnSpec Tryd.prog 36 [sets s, .lit (.slice none 0 0)] (fun r => r = .osl 1 ((orW s []).map u1)) := (Or36_spec s [] hs (by simp)).args (.cons (Le.refl _) (.cons Le.none .nil))
theorem Sure18_arr (f : Fun) (h : NilW f) (L : List Bool) (hL : ∀ k : Nat, k < f.blocks.length → L[k]? = some true) {T F : List (List W)} (hs : SolP (nilsP f) T F) (k x : Nat) (hk : k < f.blocks.length) (v : Int) (gx : f.regs[x]? = some v) (hv : v ≠ 3) (a : Int) : FnSpec Tryd.prog 18 [factA f L F, num k, num a, num x] (fun r => r = tru false) := by
  have hlF : F.length = f.blocks.length := hs.lenF.trans (succsF_len f)
  have hblk := h.blocks
  have hreg := h.reg
  obtain ⟨hx, -⟩ := List.getElem?_eq_some_iff.1 gx
  have hK := known47_yes f L F k (by omega) (by omega) (hL k hk)
  refine spec_of 1000 Tryd.func18 rfl rfl ?_
  repeat' first | refine Call.eq hK rfl ?_ | (refine Br.f ?_ ?_; focus (first | (simp; done) | (simp; omega))) | refine Pick.map gx ?_ | (refine Br.t ?_ ?_; focus (simpa using hv)) | refine Len.map ?_ | refine Len.nil ?_ | refine Len.cons ?_ | refine Br.t rfl ?_ | refine Br.f rfl ?_ | refine Fit.au ?_ | refine Cv.au ?_ | refine Need.ne ?_ | refine Need.au ?_ | refine Pick.map (by assumption) ?_ | refine Pick.mapI (by omega) (by assumption) ?_ | refine PickN.mk _ (by assumption) ?_ | refine PickN.mk _ rfl ?_ | refine PickN.au ?_ | refine App.au rfl ?_ | refine App.au (own_map (fun _ => rfl) _) ?_ | refine Both.mk ?_ ?_ | exact True.intro
  rfl
theorem Sure18_spec (f : Fun) (h : NilW f) (L : List Bool) (hL : ∀ k : Nat, k < f.blocks.length → L[k]? = some true) {T F : List (List W)} (hs : SolP (nilsP f) T F) (k x a : Nat) (bk : List Ins) (gk : f.blocks[k]? = some bk) (gx : f.regs[x]? = some 3) (ha : a ≤ bk.length) (hrx : 0 ≤ (newF f).root x ∧ (newF f).root x < f.regs.length) : FnSpec Tryd.prog 18 [factA f L F, num k, num a, num x] (fun r => r = tru (sureB f x k a)) := by
  have hlF : F.length = f.blocks.length := hs.lenF.trans (succsF_len f)
  have hblk := h.blocks
  have hreg := h.reg
  have hwn := wn_le h.regs
  obtain ⟨hx, -⟩ := List.getElem?_eq_some_iff.1 gx
  obtain ⟨hk, hke⟩ := List.getElem?_eq_some_iff.1 gk
  have hbm : bk ∈ f.blocks := hke ▸ List.getElem_mem hk
  have hlen := h.len bk hbm
  have hib := h.ins bk hbm
  have hfi := (h.fit.2.2 bk hbm).2
  have hK := known47_yes f L F k (by omega) (by omega) (hL k hk)
  have hB := born48_spec f L F hreg x
  have hR := Root_spec (newF f) x (by rw [newF_len]; omega)
  obtain ⟨q, hq⟩ := Int.eq_ofNat_of_zero_le hrx.1
  rw [hq] at hR
  obtain ⟨s0, gF, hFm⟩ := getK (l := F) (k := k) (by omega)
  have e0 : F.getD k [] = s0 := by rw [List.getD_eq_getElem?_getD, gF]; rfl
  have ebk : f.blocks.getD k [] = bk := by rw [List.getD_eq_getElem?_getD, gk]; rfl
  have hl0 : s0.length = wn f.regs.length := by rw [← e0]; exact hs.widF k (by show k < (succsF f).length; rw [succsF_len]; exact hk)
  have hO := Or_nil2_spec s0 (by omega)
  have hol := orn_len s0
  have hat := nil_at h.toNilOK hs hk a q (by omega)
  rw [e0, ebk] at hat
  have hsu : sureB f x k a = (decide (bornP f x) || nowB f k q a) := by unfold sureB; rw [hq]
  refine spec_of 1000 Tryd.func18 rfl rfl ?_
  by_cases hb : bornP f x
  · rw [decide_eq_true hb] at hB hsu
    repeat' first | refine Call.eq hK rfl ?_ | refine Call.eq hB rfl ?_ | (refine Br.f ?_ ?_; focus (first | (simp; done) | (simp; omega))) | refine Pick.map gx ?_ | refine Pick.map gk ?_ | refine Len.map ?_ | refine Len.nil ?_ | refine Len.cons ?_ | refine Br.t rfl ?_ | refine Br.f rfl ?_ | refine Fit.au ?_ | refine Cv.au ?_ | refine Need.ne ?_ | refine Need.au ?_ | refine Pick.map (by assumption) ?_ | refine Pick.mapI (by omega) (by assumption) ?_ | refine PickN.mk _ (by assumption) ?_ | refine PickN.mk _ rfl ?_ | refine PickN.au ?_ | refine App.au rfl ?_ | refine App.au (own_map (fun _ => rfl) _) ?_ | refine Both.mk ?_ ?_ | exact True.intro
    rw [hsu]; rfl
  · rw [decide_eq_false hb] at hB hsu
    repeat' first | refine Call.eq hK rfl ?_ | refine Call.eq hB rfl ?_ | (refine Br.f ?_ ?_; focus (first | (simp; done) | (simp; omega))) | refine Pick.map gx ?_ | refine Pick.map gk ?_ | refine Pick.map gF ?_ | refine Call.eq hO rfl ?_ | refine Len.map ?_ | refine Len.nil ?_ | refine Len.cons ?_ | refine Br.t rfl ?_ | refine Br.f rfl ?_ | refine Fit.au ?_ | refine Cv.au ?_ | refine Need.ne ?_ | refine Need.au ?_ | refine Pick.map (by assumption) ?_ | refine Pick.mapI (by omega) (by assumption) ?_ | refine PickN.mk _ (by assumption) ?_ | refine PickN.mk _ rfl ?_ | refine PickN.au ?_ | refine App.au rfl ?_ | refine App.au (own_map (fun _ => rfl) _) ?_ | refine Both.mk ?_ ?_ | exact True.intro
    refine Ax.Sub.mk ((bk.take a).map Ins.cs) (by omega) (by omega) (by rw [List.length_map]; omega) (by simp [List.map_take]) ?_
    have hBl : (bk.take a).length = a := by rw [List.length_take]; omega
    obtain ⟨B, hB2⟩ : ∃ B, B = bk.take a := ⟨_, rfl⟩
    have hBm : ∀ i ∈ B, i ∈ bk := fun i hi => List.mem_of_mem_take (hB2 ▸ hi)
    rw [← hB2] at hBl hat ⊢
    repeat' first | refine Len.map ?_ | refine Len.nil ?_ | refine Len.cons ?_ | refine Br.t rfl ?_ | refine Br.f rfl ?_ | refine Fit.au ?_ | refine Cv.au ?_ | refine Need.ne ?_ | refine Need.au ?_ | refine Pick.map (by assumption) ?_ | refine Pick.mapI (by omega) (by assumption) ?_ | refine PickN.mk _ (by assumption) ?_ | refine PickN.mk _ rfl ?_ | refine PickN.au ?_ | refine App.au rfl ?_ | refine App.au (own_map (fun _ => rfl) _) ?_ | refine Both.mk ?_ ?_ | exact True.intro
    refine Stop.mk (loop_in (g := [(2, 0)]) (fun j : Nat => [(0, factA f L F), (3, num x), (10, .hw 2), (73, .sl false 9 (B.map Ins.cs)), (74, num B.length), (75, num j)]) (fun j => [(2, rowW (nilsW f (B.take j) (orW s0 [])))]) 3 (fun j => j ≤ B.length) (fun j => B.length - j) 0 (Nat.zero_le _) ⟨rfl, (by repeat' first | exact trivial | refine ⟨rfl, ?_⟩ | refine ⟨congrArg (fun n => AV.lit (.int .i64 n)) (by omega), ?_⟩ | refine ⟨congrArg (fun l => some (Row.row 1 l)) (by simp [int1, num, tru]), ?_⟩), (by repeat' first | exact trivial | refine ⟨rfl, ?_⟩ | refine ⟨congrArg (fun n => AV.lit (.int .i64 n)) (by omega), ?_⟩ | refine ⟨congrArg (fun l => some (Row.row 1 l)) (by simp [int1, num, tru]), ?_⟩)⟩ (fun j hj ih2 => ?_))
    by_cases hjl : j < B.length
    · obtain ⟨i, gi, hiB⟩ := getK (l := B) (k := j) hjl
      have him := hBm i hiB
      have hC := changes44_spec f i (hfi i him) hreg
      have hbn := hib i him
      have hcl := chg_len f i
      have hst1 := nilsW_take (f := f) (s := orW s0 []) gi
      have hl1 : (nilsW f (B.take j) (orW s0 [])).length = wn f.regs.length := (nilsW_len ..).trans (hol.trans hl0)
      have ih2' := @ih2 (j + 1)
      rw [hst1] at ih2'
      generalize nilsW f (B.take j) (orW s0 []) = g0 at *
      rw [← chg_fold] at ih2'
      refine go 1000 Tryd.func18 ?_
      repeat' first | refine Br.t (by simp; omega) ?_ | refine Draw.mk (ordL [9] [0, 1, 2, 3, 4, 5, 6, 7, 8, 11, 9, 10]) (by decide +kernel) ?_ | refine Pick.map gi ?_ | refine Call.eq hC rfl ?_ | refine Len.map ?_ | refine Len.nil ?_ | refine Len.cons ?_ | refine Br.t rfl ?_ | refine Br.f rfl ?_ | refine Fit.au ?_ | refine Cv.au ?_ | refine Need.ne ?_ | refine Need.au ?_ | refine Pick.map (by assumption) ?_ | refine Pick.mapI (by omega) (by assumption) ?_ | refine PickN.mk _ (by assumption) ?_ | refine PickN.mk _ rfl ?_ | refine PickN.au ?_ | refine App.au rfl ?_ | refine App.au (own_map (fun _ => rfl) _) ?_ | refine Both.mk ?_ ?_ | exact True.intro
      refine Stop.mk (loop_in (g := []) (fun c : Nat => [(88, .hw 4), (89, num (chgL f i).length), (90, num c), (0, factA f L F), (3, num x), (10, .hw 2), (73, .sl false 9 (B.map Ins.cs)), (74, num B.length), (75, num j)]) (fun c => [(4, .row 2 ((chgL f i).map chA)), (3, .var i.cs), (2, rowW (((chgL f i).take c).foldl chW g0))]) 5 (fun c => c ≤ (chgL f i).length) (fun c => (chgL f i).length - c) 0 (Nat.zero_le _) ⟨rfl, (by repeat' first | exact trivial | refine ⟨rfl, ?_⟩ | refine ⟨congrArg (fun n => AV.lit (.int .i64 n)) (by omega), ?_⟩ | refine ⟨congrArg (fun l => some (Row.row 1 l)) (by simp [int1, num, tru]), ?_⟩), (by repeat' first | exact trivial | refine ⟨rfl, ?_⟩ | refine ⟨congrArg (fun n => AV.lit (.int .i64 n)) (by omega), ?_⟩ | refine ⟨congrArg (fun l => some (Row.row 1 l)) (by simp [int1, num, tru]), ?_⟩)⟩ (fun c hc ih3 => ?_))
      by_cases hcc : c < (chgL f i).length
      · obtain ⟨⟨bo, z⟩, gc, hcm⟩ := getK (l := chgL f i) (k := c) hcc
        have hx := chg_pos hbn hcm
        obtain ⟨y, hy⟩ := Int.eq_ofNat_of_zero_le hx.1
        dsimp only at hx hy
        subst hy
        have hs1 := chg_take (s := g0) gc
        have hm1 : (((chgL f i).take c).foldl chW g0).length ≤ 1000000 := by rw [chgs_len, hl1]; omega
        have ih3' := @ih3 (c + 1)
        rw [hs1] at ih3'
        generalize ((chgL f i).take c).foldl chW g0 = g1 at *
        cases bo with
        | true =>
          refine go 1000 Tryd.func18 ?_
          repeat' first | refine Br.t (by simp; omega) ?_ | refine Need.mk ⟨by omega, by rw [List.length_map]; omega⟩ ?_ | refine PickN.map gc ?_ | refine Len.map ?_ | refine Len.nil ?_ | refine Len.cons ?_ | refine Br.t rfl ?_ | refine Br.f rfl ?_ | refine Fit.au ?_ | refine Cv.au ?_ | refine Need.ne ?_ | refine Need.au ?_ | refine Pick.map (by assumption) ?_ | refine Pick.mapI (by omega) (by assumption) ?_ | refine PickN.mk _ (by assumption) ?_ | refine PickN.mk _ rfl ?_ | refine PickN.au ?_ | refine App.au rfl ?_ | refine App.au (own_map (fun _ => rfl) _) ?_ | refine Both.mk ?_ ?_ | exact True.intro
          refine Dyn.mk _ _ rfl rfl rfl (putS_run g1 y _ _ _ hm1 (by omega) (fun e v => ?_) (fun v => ?_))
          · repeat' first | refine Len.map ?_ | refine Len.nil ?_ | refine Len.cons ?_ | refine Br.t rfl ?_ | refine Br.f rfl ?_ | refine Fit.au ?_ | refine Cv.au ?_ | refine Need.ne ?_ | refine Need.au ?_ | refine Pick.map (by assumption) ?_ | refine Pick.mapI (by omega) (by assumption) ?_ | refine PickN.mk _ (by assumption) ?_ | refine PickN.mk _ rfl ?_ | refine PickN.au ?_ | refine App.au rfl ?_ | refine App.au (own_map (fun _ => rfl) _) ?_ | refine Both.mk ?_ ?_ | exact True.intro
            rw [show chW g1 (true, (y : Int)) = g1 from e] at ih3'
            exact Stop.mk (ih3' (g := []) _ _ _ (by omega) (by omega) ⟨rfl, (by repeat' first | exact trivial | refine ⟨rfl, ?_⟩ | refine ⟨congrArg (fun n => AV.lit (.int .i64 n)) (by omega), ?_⟩ | refine ⟨congrArg (fun l => some (Row.row 1 l)) (by simp [int1, num, tru]), ?_⟩), (by repeat' first | exact trivial | refine ⟨rfl, ?_⟩ | refine ⟨congrArg (fun n => AV.lit (.int .i64 n)) (by omega), ?_⟩ | refine ⟨congrArg (fun l => some (Row.row 1 l)) (by simp [int1, num, tru]), ?_⟩)⟩)
          · repeat' first | refine Len.map ?_ | refine Len.nil ?_ | refine Len.cons ?_ | refine Br.t rfl ?_ | refine Br.f rfl ?_ | refine Fit.au ?_ | refine Cv.au ?_ | refine Need.ne ?_ | refine Need.au ?_ | refine Pick.map (by assumption) ?_ | refine Pick.mapI (by omega) (by assumption) ?_ | refine PickN.mk _ (by assumption) ?_ | refine PickN.mk _ rfl ?_ | refine PickN.au ?_ | refine App.au rfl ?_ | refine App.au (own_map (fun _ => rfl) _) ?_ | refine Both.mk ?_ ?_ | exact True.intro
            rw [show chW g1 (true, (y : Int)) = putW g1 y from rfl] at ih3'
            exact Stop.mk (ih3' (g := []) _ _ _ (by omega) (by omega) ⟨rfl, (by repeat' first | exact trivial | refine ⟨rfl, ?_⟩ | refine ⟨congrArg (fun n => AV.lit (.int .i64 n)) (by omega), ?_⟩ | refine ⟨congrArg (fun l => some (Row.row 1 l)) (by simp [int1, num, tru]), ?_⟩), (by repeat' first | exact trivial | refine ⟨rfl, ?_⟩ | refine ⟨congrArg (fun n => AV.lit (.int .i64 n)) (by omega), ?_⟩ | refine ⟨congrArg (fun l => some (Row.row 1 l)) (by simp [int1, num, tru]), ?_⟩)⟩)
        | false =>
          refine go 1000 Tryd.func18 ?_
          repeat' first | refine Br.t (by simp; omega) ?_ | refine Need.mk ⟨by omega, by rw [List.length_map]; omega⟩ ?_ | refine PickN.map gc ?_ | refine Len.map ?_ | refine Len.nil ?_ | refine Len.cons ?_ | refine Br.t rfl ?_ | refine Br.f rfl ?_ | refine Fit.au ?_ | refine Cv.au ?_ | refine Need.ne ?_ | refine Need.au ?_ | refine Pick.map (by assumption) ?_ | refine Pick.mapI (by omega) (by assumption) ?_ | refine PickN.mk _ (by assumption) ?_ | refine PickN.mk _ rfl ?_ | refine PickN.au ?_ | refine App.au rfl ?_ | refine App.au (own_map (fun _ => rfl) _) ?_ | refine Both.mk ?_ ?_ | exact True.intro
          refine Dyn.mk _ _ rfl rfl rfl (dropS_run g1 y _ _ _ hm1 (by omega) (fun e v => ?_) (fun v => ?_))
          · repeat' first | refine Len.map ?_ | refine Len.nil ?_ | refine Len.cons ?_ | refine Br.t rfl ?_ | refine Br.f rfl ?_ | refine Fit.au ?_ | refine Cv.au ?_ | refine Need.ne ?_ | refine Need.au ?_ | refine Pick.map (by assumption) ?_ | refine Pick.mapI (by omega) (by assumption) ?_ | refine PickN.mk _ (by assumption) ?_ | refine PickN.mk _ rfl ?_ | refine PickN.au ?_ | refine App.au rfl ?_ | refine App.au (own_map (fun _ => rfl) _) ?_ | refine Both.mk ?_ ?_ | exact True.intro
            rw [show chW g1 (false, (y : Int)) = g1 from e] at ih3'
            exact Stop.mk (ih3' (g := []) _ _ _ (by omega) (by omega) ⟨rfl, (by repeat' first | exact trivial | refine ⟨rfl, ?_⟩ | refine ⟨congrArg (fun n => AV.lit (.int .i64 n)) (by omega), ?_⟩ | refine ⟨congrArg (fun l => some (Row.row 1 l)) (by simp [int1, num, tru]), ?_⟩), (by repeat' first | exact trivial | refine ⟨rfl, ?_⟩ | refine ⟨congrArg (fun n => AV.lit (.int .i64 n)) (by omega), ?_⟩ | refine ⟨congrArg (fun l => some (Row.row 1 l)) (by simp [int1, num, tru]), ?_⟩)⟩)
          · repeat' first | refine Len.map ?_ | refine Len.nil ?_ | refine Len.cons ?_ | refine Br.t rfl ?_ | refine Br.f rfl ?_ | refine Fit.au ?_ | refine Cv.au ?_ | refine Need.ne ?_ | refine Need.au ?_ | refine Pick.map (by assumption) ?_ | refine Pick.mapI (by omega) (by assumption) ?_ | refine PickN.mk _ (by assumption) ?_ | refine PickN.mk _ rfl ?_ | refine PickN.au ?_ | refine App.au rfl ?_ | refine App.au (own_map (fun _ => rfl) _) ?_ | refine Both.mk ?_ ?_ | exact True.intro
            rw [show chW g1 (false, (y : Int)) = dropW g1 y from rfl] at ih3'
            exact Stop.mk (ih3' (g := []) _ _ _ (by omega) (by omega) ⟨rfl, (by repeat' first | exact trivial | refine ⟨rfl, ?_⟩ | refine ⟨congrArg (fun n => AV.lit (.int .i64 n)) (by omega), ?_⟩ | refine ⟨congrArg (fun l => some (Row.row 1 l)) (by simp [int1, num, tru]), ?_⟩), (by repeat' first | exact trivial | refine ⟨rfl, ?_⟩ | refine ⟨congrArg (fun n => AV.lit (.int .i64 n)) (by omega), ?_⟩ | refine ⟨congrArg (fun l => some (Row.row 1 l)) (by simp [int1, num, tru]), ?_⟩)⟩)
      · obtain rfl : c = (chgL f i).length := by omega
        rw [List.take_length]
        refine go 1000 Tryd.func18 ?_
        repeat' first | refine Br.f (by simp) ?_ | refine Len.map ?_ | refine Len.nil ?_ | refine Len.cons ?_ | refine Br.t rfl ?_ | refine Br.f rfl ?_ | refine Fit.au ?_ | refine Cv.au ?_ | refine Need.ne ?_ | refine Need.au ?_ | refine Pick.map (by assumption) ?_ | refine Pick.mapI (by omega) (by assumption) ?_ | refine PickN.mk _ (by assumption) ?_ | refine PickN.mk _ rfl ?_ | refine PickN.au ?_ | refine App.au rfl ?_ | refine App.au (own_map (fun _ => rfl) _) ?_ | refine Both.mk ?_ ?_ | exact True.intro
        exact Stop.mk (ih2' (g := []) _ _ _ (by omega) (by omega) ⟨rfl, (by repeat' first | exact trivial | refine ⟨rfl, ?_⟩ | refine ⟨congrArg (fun n => AV.lit (.int .i64 n)) (by omega), ?_⟩ | refine ⟨congrArg (fun l => some (Row.row 1 l)) (by simp [int1, num, tru]), ?_⟩), (by repeat' first | exact trivial | refine ⟨rfl, ?_⟩ | refine ⟨congrArg (fun n => AV.lit (.int .i64 n)) (by omega), ?_⟩ | refine ⟨congrArg (fun l => some (Row.row 1 l)) (by simp [int1, num, tru]), ?_⟩)⟩)
    · obtain rfl : j = B.length := by omega
      rw [List.take_length]
      have hH := Has11_spec (nilsW f B (orW s0 [])) q (by rw [nilsW_len, hol, hl0]; omega) (by omega)
      refine go 1000 Tryd.func18 ?_
      repeat' first | refine Br.f (by simp) ?_ | refine Call.eq hR rfl ?_ | refine Look.yes (View.mk _ (fzw _) ?_) | refine CallV.eq hH rfl (Free.lit _) ?_ | refine Len.map ?_ | refine Len.nil ?_ | refine Len.cons ?_ | refine Br.t rfl ?_ | refine Br.f rfl ?_ | refine Fit.au ?_ | refine Cv.au ?_ | refine Need.ne ?_ | refine Need.au ?_ | refine Pick.map (by assumption) ?_ | refine Pick.mapI (by omega) (by assumption) ?_ | refine PickN.mk _ (by assumption) ?_ | refine PickN.mk _ rfl ?_ | refine PickN.au ?_ | refine App.au rfl ?_ | refine App.au (own_map (fun _ => rfl) _) ?_ | refine Both.mk ?_ ?_ | exact True.intro
      rw [hsu, Bool.false_or]
      exact congrArg tru (Bool.eq_iff_iff.2 (hat.trans nowB_iff.symm))
end Go.Proofs.YtdgibhndjdgllaaDoor

/- Few blocks with names, in which nothing is wrong; what is so of them. -/
namespace Go.Proofs.YtdgibhndjdgllaaDoor
open Go.Ax
set_option maxRecDepth 10000
set_option linter.unusedVariables false
set_option maxHeartbeats 0

theorem few15_spec (p : Pro) (hp : p.fits) (hl : p.light) : FnSpec Tryd.prog 15 [proA p] (fun r => ∃ v, r = tru v ∧ (v = true → p.few 80 ∧ properP p ∧ ∀ f ∈ p.funcs, f.blocks.length ≤ 12)) := by
  have hpl := hp.1
  refine spec_of 1000 Tryd.func15 rfl rfl ?_
  repeat' first | refine Len.map ?_ | refine Len.nil ?_ | refine Len.cons ?_ | refine Br.t rfl ?_ | refine Br.f rfl ?_ | refine Fit.au ?_ | refine Cv.au ?_ | refine Need.ne ?_ | refine Need.au ?_ | refine Pick.map (by assumption) ?_ | refine Pick.mapI (by omega) (by assumption) ?_ | refine PickN.mk _ (by assumption) ?_ | refine PickN.mk _ rfl ?_ | refine PickN.au ?_ | refine App.au rfl ?_ | refine App.au (own_map (fun _ => rfl) _) ?_ | refine Both.mk ?_ ?_ | exact True.intro
  refine Call.of (Few_spec p 80 (by decide) hp hl) ?_
  rintro r ⟨b, rfl, hb⟩
  refine ⟨rfl, ?_⟩
  cases b with
  | false =>
    repeat' first | refine Len.map ?_ | refine Len.nil ?_ | refine Len.cons ?_ | refine Br.t rfl ?_ | refine Br.f rfl ?_ | refine Fit.au ?_ | refine Cv.au ?_ | refine Need.ne ?_ | refine Need.au ?_ | refine Pick.map (by assumption) ?_ | refine Pick.mapI (by omega) (by assumption) ?_ | refine PickN.mk _ (by assumption) ?_ | refine PickN.mk _ rfl ?_ | refine PickN.au ?_ | refine App.au rfl ?_ | refine App.au (own_map (fun _ => rfl) _) ?_ | refine Both.mk ?_ ?_ | exact True.intro
    exact ⟨false, rfl, fun h => by cases h⟩
  | true =>
    have hb1 := hb rfl
    repeat' first | refine Len.map ?_ | refine Len.nil ?_ | refine Len.cons ?_ | refine Br.t rfl ?_ | refine Br.f rfl ?_ | refine Fit.au ?_ | refine Cv.au ?_ | refine Need.ne ?_ | refine Need.au ?_ | refine Pick.map (by assumption) ?_ | refine Pick.mapI (by omega) (by assumption) ?_ | refine PickN.mk _ (by assumption) ?_ | refine PickN.mk _ rfl ?_ | refine PickN.au ?_ | refine App.au rfl ?_ | refine App.au (own_map (fun _ => rfl) _) ?_ | refine Both.mk ?_ ?_ | exact True.intro
    refine Call.of (Proper_spec p (hb1.slim (by decide) hp)) ?_
    rintro r ⟨v, rfl, hv⟩
    refine ⟨rfl, ?_⟩
    cases v with
    | false =>
      repeat' first | refine Len.map ?_ | refine Len.nil ?_ | refine Len.cons ?_ | refine Br.t rfl ?_ | refine Br.f rfl ?_ | refine Fit.au ?_ | refine Cv.au ?_ | refine Need.ne ?_ | refine Need.au ?_ | refine Pick.map (by assumption) ?_ | refine Pick.mapI (by omega) (by assumption) ?_ | refine PickN.mk _ (by assumption) ?_ | refine PickN.mk _ rfl ?_ | refine PickN.au ?_ | refine App.au rfl ?_ | refine App.au (own_map (fun _ => rfl) _) ?_ | refine Both.mk ?_ ?_ | exact True.intro
      exact ⟨false, rfl, fun h => by cases h⟩
    | true =>
      have hv1 := hv rfl
      repeat' first | refine Len.map ?_ | refine Len.nil ?_ | refine Len.cons ?_ | refine Br.t rfl ?_ | refine Br.f rfl ?_ | refine Fit.au ?_ | refine Cv.au ?_ | refine Need.ne ?_ | refine Need.au ?_ | refine Pick.map (by assumption) ?_ | refine Pick.mapI (by omega) (by assumption) ?_ | refine PickN.mk _ (by assumption) ?_ | refine PickN.mk _ rfl ?_ | refine PickN.au ?_ | refine App.au rfl ?_ | refine App.au (own_map (fun _ => rfl) _) ?_ | refine Both.mk ?_ ?_ | exact True.intro
      refine Stop.mk (loop_in (g := []) (fun n : Nat => [(1, .hp 0 0), (3, num n)]) (fun _ => [(0, .var p.cs)]) 1 (fun n => n ≤ p.funcs.length ∧ ∀ m y, m < n → p.funcs[m]? = some y → y.blocks.length ≤ 12) (fun n => p.funcs.length - n) 0 ⟨Nat.zero_le _, fun m _ hm => by omega⟩ ⟨rfl, (by repeat' first | exact trivial | refine ⟨rfl, ?_⟩ | refine ⟨congrArg (fun n => AV.lit (.int .i64 n)) (by omega), ?_⟩ | refine ⟨congrArg (fun l => some (Row.row 1 l)) (by simp [int1, num, tru]), ?_⟩), (by repeat' first | exact trivial | refine ⟨rfl, ?_⟩ | refine ⟨congrArg (fun n => AV.lit (.int .i64 n)) (by omega), ?_⟩ | refine ⟨congrArg (fun l => some (Row.row 1 l)) (by simp [int1, num, tru]), ?_⟩)⟩ (fun n hn ih => ?_))
      obtain ⟨hn1, hn2⟩ := hn
      by_cases hnl : n < p.funcs.length
      · obtain ⟨f, gf, hfm⟩ := getK (l := p.funcs) (k := n) hnl
        have hff := (hp.2.2 f hfm).1
        by_cases h12 : f.blocks.length ≤ 12
        · refine go 1000 Tryd.func15 ?_
          repeat' first | (refine Br.t ?_ ?_; focus (simp; omega)) | (refine Br.f ?_ ?_; focus (rw [decide_eq_false_iff_not]; omega)) | refine Pick.map gf ?_ | refine Len.map ?_ | refine Len.nil ?_ | refine Len.cons ?_ | refine Br.t rfl ?_ | refine Br.f rfl ?_ | refine Fit.au ?_ | refine Cv.au ?_ | refine Need.ne ?_ | refine Need.au ?_ | refine Pick.map (by assumption) ?_ | refine Pick.mapI (by omega) (by assumption) ?_ | refine PickN.mk _ (by assumption) ?_ | refine PickN.mk _ rfl ?_ | refine PickN.au ?_ | refine App.au rfl ?_ | refine App.au (own_map (fun _ => rfl) _) ?_ | refine Both.mk ?_ ?_ | exact True.intro
          refine Stop.mk (ih (n + 1) (g := []) _ _ _ ⟨by omega, fun m y hm hy => ?_⟩ (by omega) ⟨rfl, (by repeat' first | exact trivial | refine ⟨rfl, ?_⟩ | refine ⟨congrArg (fun n => AV.lit (.int .i64 n)) (by omega), ?_⟩ | refine ⟨congrArg (fun l => some (Row.row 1 l)) (by simp [int1, num, tru]), ?_⟩), (by repeat' first | exact trivial | refine ⟨rfl, ?_⟩ | refine ⟨congrArg (fun n => AV.lit (.int .i64 n)) (by omega), ?_⟩ | refine ⟨congrArg (fun l => some (Row.row 1 l)) (by simp [int1, num, tru]), ?_⟩)⟩)
          by_cases e : m = n
          · subst e; rw [gf] at hy; obtain rfl := Option.some.inj hy; exact h12
          · exact hn2 m y (by omega) hy
        · refine go 1000 Tryd.func15 ?_
          repeat' first | (refine Br.t ?_ ?_; focus (simp; omega)) | refine Pick.map gf ?_ | refine Len.map ?_ | refine Len.nil ?_ | refine Len.cons ?_ | refine Br.t rfl ?_ | refine Br.f rfl ?_ | refine Fit.au ?_ | refine Cv.au ?_ | refine Need.ne ?_ | refine Need.au ?_ | refine Pick.map (by assumption) ?_ | refine Pick.mapI (by omega) (by assumption) ?_ | refine PickN.mk _ (by assumption) ?_ | refine PickN.mk _ rfl ?_ | refine PickN.au ?_ | refine App.au rfl ?_ | refine App.au (own_map (fun _ => rfl) _) ?_ | refine Both.mk ?_ ?_ | exact True.intro
          exact ⟨false, rfl, fun h => by cases h⟩
      · obtain rfl : n = p.funcs.length := by omega
        refine go 1000 Tryd.func15 ?_
        repeat' first | (refine Br.f ?_ ?_; focus (simp; done)) | refine Len.map ?_ | refine Len.nil ?_ | refine Len.cons ?_ | refine Br.t rfl ?_ | refine Br.f rfl ?_ | refine Fit.au ?_ | refine Cv.au ?_ | refine Need.ne ?_ | refine Need.au ?_ | refine Pick.map (by assumption) ?_ | refine Pick.mapI (by omega) (by assumption) ?_ | refine PickN.mk _ (by assumption) ?_ | refine PickN.mk _ rfl ?_ | refine PickN.au ?_ | refine App.au rfl ?_ | refine App.au (own_map (fun _ => rfl) _) ?_ | refine Both.mk ?_ ?_ | exact True.intro
        refine ⟨true, rfl, fun _ => ⟨hb1, hv1, fun f hf => ?_⟩⟩
        obtain ⟨m, hm⟩ := List.getElem?_of_mem hf
        exact hn2 m f (List.getElem?_eq_some_iff.1 hm).1 hm
theorem sum_mem2 {l : List Nat} {x : Nat} (h : x ∈ l) : x ≤ l.sum := by
  induction l with
  | nil => cases h
  | cons a l ih =>
    rw [List.sum_cons]
    rcases List.mem_cons.1 h with rfl | h
    · omega
    · have := ih h; omega
theorem root_rng {p : Pro} {f : Fun} (hf : funP p f) (hp : properF f) {x : Int} (h0 : 0 ≤ x) (h1 : x < f.regs.length) : 0 ≤ (newF f).root x ∧ (newF f).root x < f.regs.length := by
  have hin : (newF f).inR x := ⟨h0, by rw [newF_len]; exact h1⟩
  obtain ⟨l, hl⟩ := chain_ends hf hp x hin
  have hc := hl.chain
  have hne : l ≠ [] := by cases hl <;> simp
  have hm : (newF f).root x ∈ l := by
    unfold Names.root
    rw [hc, List.getLastD_eq_getLast?, List.getLast?_eq_some_getLast hne]
    exact List.getLast_mem hne
  have h2 := (hl.mem hm).1
  unfold Names.inR at h2
  rw [newF_len] at h2
  exact h2
theorem uses_31 {i : Ins} (h : i.op = 31) (hr : right15 i = true) : i.a ∈ usesF i := by
  unfold usesF
  rw [if_pos hr]
  have h1 : (abF i.op || oneF i.op) = true := by rw [h]; decide +kernel
  rw [if_pos h1]
  simp
theorem nilR_of {p : Pro} (hp : p.fits) (hf : p.few 80) (hpr : properP p) {f : Fun} (hm : f ∈ p.funcs) (h12 : f.blocks.length ≤ 12) : NilR f := by
  obtain ⟨hpp, hall⟩ := hpr
  have hprF := hall f hm
  have hfun : funP p f := hpp.2.2.2 f hm
  obtain ⟨⟨hl, _, _⟩, hbs⟩ := hfun
  have hfew := hf.2.2.2 f hm
  have hone : ∀ b ∈ f.blocks, ∀ i ∈ b, ∃ k j, oneP p f k b j i := fun b hb i hi => by
    obtain ⟨k, hk⟩ := List.getElem?_of_mem hb
    obtain ⟨j, hj⟩ := List.getElem?_of_mem hi
    exact ⟨k, j, (hbs k b hk).2 j i hj⟩
  have hR := fun x => Root37_spec p f (hp.2.2 f hm) (by omega) hfew.1 (hpp.2.2.2 f hm) hprF x
  have hC := fun x => Chain37_all p f (hp.2.2 f hm) (by omega) hfew.1 (hpp.2.2.2 f hm) hprF x
  refine { blocks := by omega, regs := by have := hfew.1; omega, ins := fun b hb i hi => ?_, fit := hp.2.2 f hm, few := by omega, reg := hfew.1, len := fun b hb => ?_, arg := fun b h1 i h2 => ?_, root := hR, chain := hC, all_ := fun k hk => hprF.1 k hk }
  · obtain ⟨k, j, ho⟩ := hone b hb i hi
    refine ⟨by rw [def_eq]; exact ho.2.1.1, fun ha => ?_⟩
    have hr15 : right15 i = true := ho.1.1
    have hu := uses_31 ha.1 hr15
    exact root_rng (hpp.2.2.2 f hm) hprF (uses_pos hr15 _ hu) (ho.2.1.2.1 _ hu)
  · have h1 := hl.2.2.2.2.2
    have h2 : b.length ≤ f.count := sum_mem2 (List.mem_map.2 ⟨b, hb, rfl⟩)
    omega
  · obtain ⟨k, j, ho⟩ := hone b h1 i h2
    have h3 := hfew.2.2.2 b h1 i h2
    exact ⟨by omega, by rw [right_eq]; exact ho.1.1⟩
end Go.Proofs.YtdgibhndjdgllaaDoor

/- The chapter's example, by a contract. -/
namespace Go.Proofs.YtdgibhndjdgllaaDoor
open Go.Ax
set_option maxRecDepth 10000
set_option linter.unusedVariables false
set_option maxHeartbeats 0

def exN : Fun := ⟨⟨#[]⟩, 2, 1, [3, 3, 3], [[⟨31, 0, 1, 0, 0, 0, 0, 0, []⟩, ⟨23, 2, 1, 0, 0, 0, 0, 0, []⟩, ⟨43, 0, 0, 0, 0, 0, 0, 0, []⟩]]⟩
theorem exN_W : NilW exN := by
  refine { blocks := by decide, regs := by decide, ins := ?_, fit := ?_, few := by decide, reg := by decide, len := ?_ }
  · intro b hb i hi
    simp only [exN, List.mem_cons, List.not_mem_nil, or_false] at hb
    subst hb
    simp only [List.mem_cons, List.not_mem_nil, or_false] at hi
    rcases hi with rfl | rfl | rfl <;> (unfold NilB; decide +kernel)
  · refine ⟨by decide, by decide, fun b hb => ?_⟩
    simp only [exN, List.mem_cons, List.not_mem_nil, or_false] at hb
    subst hb
    exact ⟨by decide, fun i hi => by simp only [List.mem_cons, List.not_mem_nil, or_false] at hi; rcases hi with rfl | rfl | rfl <;> (unfold Ins.fits; decide)⟩
  · intro b hb
    simp only [exN, List.mem_cons, List.not_mem_nil, or_false] at hb
    subst hb; decide
theorem sure0 (f : Fun) (x a : Nat) : sureB f x 0 a = (decide (bornP f x) || decide (lastN f ((newF f).root x) ((f.blocks.getD 0 []).take a) = 1)) := by
  unfold sureB
  congr 1
  rw [Bool.eq_iff_iff, nowB_iff, decide_eq_true_iff]
  unfold AskP AskK
  simp
theorem exN_s1 : sureB exN ((2 : Nat) : Int) 0 2 = true := by rw [sure0]; decide +kernel
theorem exN_s2 : sureB exN ((1 : Nat) : Int) 0 0 = false := by rw [sure0]; decide +kernel
theorem exN_s3 : sureB exN ((1 : Nat) : Int) 0 1 = true := by rw [sure0]; decide +kernel
theorem exN_s4 : sureB exN ((0 : Nat) : Int) 0 2 = false := by rw [sure0]; decide +kernel
theorem fz_fact (f : Fun) (L : List Bool) (F : List (List W)) : AV.fzL (f.cs ++ [namesA (newF f), .osl 1 (L.map tb), .osl 1 (F.map oset)]) = factC f L F := by
  have h1 := fzLL_map (enc := tb) (enc2 := tb) (fun _ => rfl) L
  have h2 := fzLL_map fz_oset F
  show [_, _, _, _, _, _, AV.sl false 1 (AV.fzLL (L.map tb)), AV.sl false 1 (AV.fzLL (F.map oset))] = _
  rw [h1, h2]; rfl
theorem works16_spec : FnSpec Tryd.prog 16 [] (fun r => r = tru true) := by
  have hN := New17_spec exN exN_W
  refine spec_of 17 Tryd.func16 rfl rfl ?_
  repeat' first | refine Len.map ?_ | refine Len.nil ?_ | refine Len.cons ?_ | refine Br.t rfl ?_ | refine Br.f rfl ?_ | refine Fit.au ?_ | refine Cv.au ?_ | refine Need.ne ?_ | refine Need.au ?_ | refine Pick.map (by assumption) ?_ | refine Pick.mapI (by omega) (by assumption) ?_ | refine PickN.mk _ (by assumption) ?_ | refine PickN.mk _ rfl ?_ | refine PickN.au ?_ | refine App.au rfl ?_ | refine App.au (own_map (fun _ => rfl) _) ?_ | refine Both.mk ?_ ?_ | exact True.intro
  refine Stop.mk (run_frzV 3 rfl rfl rfl ?_)
  refine go 8 Tryd.func16 ?_
  refine Call.le (by repeat' first | exact Le.refl _ | exact Le.none | exact LeL.nil | refine LeL.cons ?_ ?_ | exact LeLL.nil | refine LeLL.cons ?_ ?_ | refine Le.agg ?_ | refine Le.sl ?_ | refine Le.pt ?_) (Call.of hN ?_)
  rintro r ⟨T, F, hs, rfl⟩
  refine ⟨rfl, ?_⟩
  have hm : ∀ k : Nat, k < exN.blocks.length → (marksF (succsF exN) (-1))[k]? = some true := fun k hk => by
    have h0 : k = 0 := by
      have : k < 1 := hk
      omega
    subst h0
    refine marksF_at.2 ⟨by rw [succsF_len]; decide, ?_⟩
    exact .zero (by intro e; have := congrArg List.length e; rw [succsF_len] at this; simp [exN] at this) (by decide)
  have h1 := Sure18_spec exN exN_W _ hm hs 0 2 2 _ rfl rfl (by decide) (by decide +kernel)
  have h2 := Sure18_spec exN exN_W _ hm hs 0 1 0 _ rfl rfl (by decide) (by decide +kernel)
  have h3 := Sure18_spec exN exN_W _ hm hs 0 1 1 _ rfl rfl (by decide) (by decide +kernel)
  have h4 := Sure18_spec exN exN_W _ hm hs 0 0 2 _ rfl rfl (by decide) (by decide +kernel)
  rw [exN_s1] at h1
  rw [exN_s2] at h2
  rw [exN_s3] at h3
  rw [exN_s4] at h4
  repeat' first | refine Len.map ?_ | refine Len.nil ?_ | refine Len.cons ?_ | refine Br.t rfl ?_ | refine Br.f rfl ?_ | refine Fit.au ?_ | refine Cv.au ?_ | refine Need.ne ?_ | refine Need.au ?_ | refine Pick.map (by assumption) ?_ | refine Pick.mapI (by omega) (by assumption) ?_ | refine PickN.mk _ (by assumption) ?_ | refine PickN.mk _ rfl ?_ | refine PickN.au ?_ | refine App.au rfl ?_ | refine App.au (own_map (fun _ => rfl) _) ?_ | refine Both.mk ?_ ?_ | exact True.intro
  refine Stop.mk (run_frzV 4 rfl rfl (fz_fact exN _ F) ?_)
  refine go 1000 Tryd.func16 ?_
  repeat' first | refine Call.eq h1 rfl ?_ | refine Call.eq h2 rfl ?_ | refine Call.eq h3 rfl ?_ | refine Call.eq h4 rfl ?_ | refine Len.map ?_ | refine Len.nil ?_ | refine Len.cons ?_ | refine Br.t rfl ?_ | refine Br.f rfl ?_ | refine Fit.au ?_ | refine Cv.au ?_ | refine Need.ne ?_ | refine Need.au ?_ | refine Pick.map (by assumption) ?_ | refine Pick.mapI (by omega) (by assumption) ?_ | refine PickN.mk _ (by assumption) ?_ | refine PickN.mk _ rfl ?_ | refine PickN.au ?_ | refine App.au rfl ?_ | refine App.au (own_map (fun _ => rfl) _) ?_ | refine Both.mk ?_ ?_ | exact True.intro
  rfl
end Go.Proofs.YtdgibhndjdgllaaDoor
