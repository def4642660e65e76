/- A tidy function, by a contract. -/
import Derived.Test.YtnfkdilmoppbpaaTFI
import Derived.Test.YtnfkdilmoppbpaaTFE
import Derived.WalkSpells
set_option linter.unusedVariables false
set_option linter.unusedSimpArgs false

namespace Go.Proofs.Ytnfkdilmoppbpaa
open Go.Ax
set_option maxRecDepth 10000
set_option linter.unusedVariables false

set_option maxHeartbeats 4000000 in
theorem Func41_spec (f : Fun) (hf : f.fits) (hn : f.blocks.length ≤ 100000) (hg : f.regs.length ≤ 1000000) (hb : ∀ b ∈ f.blocks, b.length ≤ 1000000 ∧ ∀ i ∈ b, i.args.length ≤ 1000000) : FnSpec Try.prog 41 [funA f] (fun r => r = .agg (tidyR f)) := by
  refine Func41_pre f hf hn hg rfl rfl ?_
  unfold a41
  have hml := mapF_len f
  refine run_frzV 3 rfl rfl (fz_preds _) ?_
  refine run_frzV 4 rfl rfl (fz_nums _) ?_
  refine Run.fr (g := []) (tm' := [(1, .hp 0 0), (2, .hp 1 0), (3, .hp 2 0), (4, .pt [lsts (predsF (succsF f))]), (5, .pt [ints (mapF f)])]) (hp' := [(0, .var f.cs), (1, .var zFun), (2, .var [.lit (.string f.name), num f.params, num f.ret, .osl 1 (f.regs.map int1), .lit (.slice none 0 0)])]) (nx' := 3) ?_ ⟨rfl, (by repeat' first | exact trivial | refine ⟨rfl, ?_⟩ | refine ⟨congrArg (fun n => AV.lit (.int .i64 n)) (by omega), ?_⟩ | refine ⟨congrArg (fun l => some (Row.row 1 l)) (by simp [int1, num, tru]), ?_⟩), (by repeat' first | exact trivial | refine ⟨rfl, ?_⟩ | refine ⟨congrArg (fun n => AV.lit (.int .i64 n)) (by omega), ?_⟩ | refine ⟨congrArg (fun l => some (Row.row 1 l)) (by simp [int1, num, tru]), ?_⟩)⟩
  have hpl := predsF_len (succsF f)
  rw [succsF_len] at hpl
  have hpp : ∀ l ∈ predsF (succsF f), l.length ≤ 1000000 ∧ ∀ x ∈ l, 0 ≤ x ∧ x < f.blocks.length := by
    intro l hl
    unfold predsF at hl
    obtain ⟨t, _, rfl⟩ := List.mem_map.1 hl
    have h1 := predOf_len (succsF f) t (succsF f).length
    rw [succsF_len] at h1 ⊢
    exact ⟨by omega, fun x hx => predOf_lt hx⟩
  unfold tidyR tidyF
  generalize predsF (succsF f) = p at *
  generalize mapF f = m at *
  refine go 15 Try.func41 ?_
  repeat' first | refine Call.eq (fits76_spec f p hf (by omega) (fun b h => (hb b h).1) hpl (fun l h => (hpp l h).1)) rfl ?_ | refine Len.map ?_ | refine Len.nil ?_ | refine Len.cons ?_ | refine Br.t rfl ?_ | refine Br.f rfl ?_ | refine Need.mk ⟨by first | omega | (simp; omega), by first | omega | (simp; done) | (simp; omega)⟩ ?_ | refine Pick.map (by assumption) ?_ | refine Pick.mapI (by omega) (by assumption) ?_ | refine PickN.mk _ (by assumption) ?_ | refine PickN.mk _ rfl ?_ | refine PickN.map (by first | assumption | (rw [Int.toNat_natCast]; assumption)) ?_ | refine App.mk rfl (by simp only [List.length_map, List.length_append, List.length_cons, List.length_nil]; omega) (by simp only [List.length_map, List.length_append, List.length_cons, List.length_nil]; omega) ?_ | refine App.mk (own_map (fun _ => rfl) _) (by simp only [List.length_map, List.length_append, List.length_cons, List.length_nil]; omega) (by simp only [List.length_map, List.length_append, List.length_cons, List.length_nil]; omega) ?_ | refine Both.mk ?_ ?_ | exact True.intro
  refine Br.mk (fun h => ?_) (fun h => ?_)
  · have h1 : fitsB f p = false := by simpa using h
    rw [h1]
    repeat' first | refine Len.map ?_ | refine Len.nil ?_ | refine Len.cons ?_ | refine Br.t rfl ?_ | refine Br.f rfl ?_ | refine Need.mk ⟨by first | omega | (simp; omega), by first | omega | (simp; done) | (simp; omega)⟩ ?_ | refine Pick.map (by assumption) ?_ | refine Pick.mapI (by omega) (by assumption) ?_ | refine PickN.mk _ (by assumption) ?_ | refine PickN.mk _ rfl ?_ | refine PickN.map (by first | assumption | (rw [Int.toNat_natCast]; assumption)) ?_ | refine App.mk rfl (by simp only [List.length_map, List.length_append, List.length_cons, List.length_nil]; omega) (by simp only [List.length_map, List.length_append, List.length_cons, List.length_nil]; omega) ?_ | refine App.mk (own_map (fun _ => rfl) _) (by simp only [List.length_map, List.length_append, List.length_cons, List.length_nil]; omega) (by simp only [List.length_map, List.length_append, List.length_cons, List.length_nil]; omega) ?_ | refine Both.mk ?_ ?_ | exact True.intro
    rfl
  · have hfit : fitsB f p = true := by simpa using h
    rw [hfit]
    have hfits : ∀ (k : Nat) (b : List Ins) (q : List Int), f.blocks[k]? = some b → p[k]? = some q → ∀ i ∈ b, (∀ t ∈ targetsF i, 0 ≤ t ∧ t < m.length) ∧ (i.op = 44 → i.args.length = q.length) := by
      intro k b q gb gq i hi
      unfold fitsB at hfit
      rw [List.all_eq_true] at hfit
      have h1 := hfit (b, q) (List.mem_of_getElem? (by rw [List.getElem?_zip_eq_some]; exact ⟨gb, gq⟩))
      rw [List.all_eq_true] at h1
      have h2 := h1 i hi
      unfold fitI at h2
      simp only [Bool.and_eq_true, Bool.not_eq_true', Bool.and_eq_false_iff, decide_eq_false_iff_not, ne_eq, Decidable.not_not, List.all_eq_true, decide_eq_true_eq] at h2
      refine ⟨fun t ht => ⟨targetsF_pos i t ht, by have := h2.2 t ht; omega⟩, fun ho => by have := h2.1; omega⟩
    repeat' first | refine Len.map ?_ | refine Len.nil ?_ | refine Len.cons ?_ | refine Br.t rfl ?_ | refine Br.f rfl ?_ | refine Need.mk ⟨by first | omega | (simp; omega), by first | omega | (simp; done) | (simp; omega)⟩ ?_ | refine Pick.map (by assumption) ?_ | refine Pick.mapI (by omega) (by assumption) ?_ | refine PickN.mk _ (by assumption) ?_ | refine PickN.mk _ rfl ?_ | refine PickN.map (by first | assumption | (rw [Int.toNat_natCast]; assumption)) ?_ | refine App.mk rfl (by simp only [List.length_map, List.length_append, List.length_cons, List.length_nil]; omega) (by simp only [List.length_map, List.length_append, List.length_cons, List.length_nil]; omega) ?_ | refine App.mk (own_map (fun _ => rfl) _) (by simp only [List.length_map, List.length_append, List.length_cons, List.length_nil]; omega) (by simp only [List.length_map, List.length_append, List.length_cons, List.length_nil]; omega) ?_ | refine Both.mk ?_ ?_ | exact True.intro
    refine Stop.mk (run_inlC rfl want_none rfl rfl rfl rfl rfl rfl rfl (goI 1000 Try.func77 ?_))
    repeat' first | refine Len.map ?_ | refine Len.nil ?_ | refine Len.cons ?_ | refine Br.t rfl ?_ | refine Br.f rfl ?_ | refine Need.mk ⟨by first | omega | (simp; omega), by first | omega | (simp; done) | (simp; omega)⟩ ?_ | refine Pick.map (by assumption) ?_ | refine Pick.mapI (by omega) (by assumption) ?_ | refine PickN.mk _ (by assumption) ?_ | refine PickN.mk _ rfl ?_ | refine PickN.map (by first | assumption | (rw [Int.toNat_natCast]; assumption)) ?_ | refine App.mk rfl (by simp only [List.length_map, List.length_append, List.length_cons, List.length_nil]; omega) (by simp only [List.length_map, List.length_append, List.length_cons, List.length_nil]; omega) ?_ | refine App.mk (own_map (fun _ => rfl) _) (by simp only [List.length_map, List.length_append, List.length_cons, List.length_nil]; omega) (by simp only [List.length_map, List.length_append, List.length_cons, List.length_nil]; omega) ?_ | refine Both.mk ?_ ?_ | exact True.intro
    refine go 1000 Try.func41 ?_
    repeat' first | refine Len.map ?_ | refine Len.nil ?_ | refine Len.cons ?_ | refine Br.t rfl ?_ | refine Br.f rfl ?_ | refine Need.mk ⟨by first | omega | (simp; omega), by first | omega | (simp; done) | (simp; omega)⟩ ?_ | refine Pick.map (by assumption) ?_ | refine Pick.mapI (by omega) (by assumption) ?_ | refine PickN.mk _ (by assumption) ?_ | refine PickN.mk _ rfl ?_ | refine PickN.map (by first | assumption | (rw [Int.toNat_natCast]; assumption)) ?_ | refine App.mk rfl (by simp only [List.length_map, List.length_append, List.length_cons, List.length_nil]; omega) (by simp only [List.length_map, List.length_append, List.length_cons, List.length_nil]; omega) ?_ | refine App.mk (own_map (fun _ => rfl) _) (by simp only [List.length_map, List.length_append, List.length_cons, List.length_nil]; omega) (by simp only [List.length_map, List.length_append, List.length_cons, List.length_nil]; omega) ?_ | refine Both.mk ?_ ?_ | exact True.intro
    refine Stop.mk (run_varLe 2 rfl (.cons (.refl _) (.cons (.refl _) (.cons (.refl _) (.cons (.refl _) (.cons (VLe.onil (sz := 1)) .nil))))) ?_)
    refine Run.fr (tm' := tTM p m) (hp' := [(0, .var f.cs), (1, .var zFun), (2, .var [.lit (.string f.name), num f.params, num f.ret, .osl 1 (f.regs.map int1), .osl 1 []]), (3, .var f.cs), (4, .var [ints m])]) (nx' := 5) (nt := 55) ?_ (g := []) ⟨rfl, (by repeat' first | exact trivial | refine ⟨rfl, ?_⟩ | refine ⟨congrArg (fun n => AV.lit (.int .i64 n)) (by omega), ?_⟩ | refine ⟨congrArg (fun l => some (Row.row 1 l)) (by simp [int1, num, tru]), ?_⟩), (by repeat' first | exact trivial | refine ⟨rfl, ?_⟩ | refine ⟨congrArg (fun n => AV.lit (.int .i64 n)) (by omega), ?_⟩ | refine ⟨congrArg (fun l => some (Row.row 1 l)) (by simp [int1, num, tru]), ?_⟩)⟩
    refine run_rangeC rfl rfl rfl rfl rfl rfl rfl (fun l D => ?_)
    refine Run.fr (tm' := [(0, uY l), (1, .hp 3 0), (2, .hp 4 0)]) (hp' := tH .ready (rangeSa Try.f41) (rangeBd Try.f41) f p m l D []) (nx' := 6) (nt := 27) ?_ (g := []) ⟨rfl, (by repeat' first | exact trivial | refine ⟨rfl, ?_⟩ | refine ⟨congrArg (fun n => AV.lit (.int .i64 n)) (by omega), ?_⟩ | refine ⟨congrArg (fun l => some (Row.row 1 l)) (by simp [int1, num, tru]), ?_⟩), (by repeat' first | exact trivial | refine ⟨rfl, ?_⟩ | refine ⟨congrArg (fun n => AV.lit (.int .i64 n)) (by omega), ?_⟩ | refine ⟨congrArg (fun l => some (Row.row 1 l)) (by simp [int1, num, tru]), ?_⟩)⟩
    refine goI 1000 Try.func101 ?_
    repeat' first | refine Len.map ?_ | refine Len.nil ?_ | refine Len.cons ?_ | refine Br.t rfl ?_ | refine Br.f rfl ?_ | refine Need.mk ⟨by first | omega | (simp; omega), by first | omega | (simp; done) | (simp; omega)⟩ ?_ | refine Pick.map (by assumption) ?_ | refine Pick.mapI (by omega) (by assumption) ?_ | refine PickN.mk _ (by assumption) ?_ | refine PickN.mk _ rfl ?_ | refine PickN.map (by first | assumption | (rw [Int.toNat_natCast]; assumption)) ?_ | refine App.mk rfl (by simp only [List.length_map, List.length_append, List.length_cons, List.length_nil]; omega) (by simp only [List.length_map, List.length_append, List.length_cons, List.length_nil]; omega) ?_ | refine App.mk (own_map (fun _ => rfl) _) (by simp only [List.length_map, List.length_append, List.length_cons, List.length_nil]; omega) (by simp only [List.length_map, List.length_append, List.length_cons, List.length_nil]; omega) ?_ | refine Both.mk ?_ ?_ | exact True.intro
    refine Stop.mk (loop_in (g := []) (fun k : Nat => [(0, uY l), (1, .hp 3 0), (2, .hp 4 0), (7, .sl false 1 (f.blocks.map blk)), (8, num f.blocks.length), (9, num k)]) (fun k => tH .ready (rangeSa Try.f41) (rangeBd Try.f41) f p m l D (tidyTo f p m k)) 6 (fun k => k ≤ f.blocks.length) (fun k => f.blocks.length - k) 0 (by omega) ⟨rfl, (by repeat' first | exact trivial | refine ⟨rfl, ?_⟩ | refine ⟨congrArg (fun n => AV.lit (.int .i64 n)) (by omega), ?_⟩ | refine ⟨congrArg (fun l => some (Row.row 1 l)) (by simp [int1, num, tru]), ?_⟩), (by repeat' first | exact trivial | refine ⟨rfl, ?_⟩ | refine ⟨congrArg (fun n => AV.lit (.int .i64 n)) (by omega), ?_⟩ | refine ⟨congrArg (fun l => some (Row.row 1 l)) (by simp [int1, num, tru]), ?_⟩)⟩ (fun k hk ih => ?_))
    refine goI 1000 Try.func101 ?_
    repeat' first | refine Len.map ?_ | refine Len.nil ?_ | refine Len.cons ?_ | refine Br.t rfl ?_ | refine Br.f rfl ?_ | refine Need.mk ⟨by first | omega | (simp; omega), by first | omega | (simp; done) | (simp; omega)⟩ ?_ | refine Pick.map (by assumption) ?_ | refine Pick.mapI (by omega) (by assumption) ?_ | refine PickN.mk _ (by assumption) ?_ | refine PickN.mk _ rfl ?_ | refine PickN.map (by first | assumption | (rw [Int.toNat_natCast]; assumption)) ?_ | refine App.mk rfl (by simp only [List.length_map, List.length_append, List.length_cons, List.length_nil]; omega) (by simp only [List.length_map, List.length_append, List.length_cons, List.length_nil]; omega) ?_ | refine App.mk (own_map (fun _ => rfl) _) (by simp only [List.length_map, List.length_append, List.length_cons, List.length_nil]; omega) (by simp only [List.length_map, List.length_append, List.length_cons, List.length_nil]; omega) ?_ | refine Both.mk ?_ ?_ | exact True.intro
    refine Br.d (fun h2 => ?_) (fun h2 => ?_)
    · obtain ⟨b, gb, gbm⟩ := getK (l := f.blocks) (k := k) (by omega)
      obtain ⟨q, gq, gqm⟩ := getK (l := p) (k := k) (by omega)
      obtain ⟨v, gv, -⟩ := getK (l := m) (k := k) (by omega)
      have hbb := hb b gbm
      have htl := tidyTo_len f p m k
      have hgb : f.blocks.getD k [] = b := by rw [List.getD_eq_getElem?_getD, gb]; rfl
      have hgq : p.getD k [] = q := by rw [List.getD_eq_getElem?_getD, gq]; rfl
      have hgv : m.getD k 0 = v := by rw [List.getD_eq_getElem?_getD, gv]; rfl
      have hnext : tidyTo f p m (k + 1) = tidyTo f p m k ++ if 0 ≤ v then [b.map fun i => movedF i q m] else [] := by
        show tidyTo f p m k ++ (if 0 ≤ m.getD k 0 then [(f.blocks.getD k []).map fun i => movedF i (p.getD k []) m] else []) = _
        rw [hgb, hgq, hgv]
      repeat' first | refine Pick.map gb ?_ | refine Pick.map gv ?_ | refine Len.map ?_ | refine Len.nil ?_ | refine Len.cons ?_ | refine Br.t rfl ?_ | refine Br.f rfl ?_ | refine Need.mk ⟨by first | omega | (simp; omega), by first | omega | (simp; done) | (simp; omega)⟩ ?_ | refine Pick.map (by assumption) ?_ | refine Pick.mapI (by omega) (by assumption) ?_ | refine PickN.mk _ (by assumption) ?_ | refine PickN.mk _ rfl ?_ | refine PickN.map (by first | assumption | (rw [Int.toNat_natCast]; assumption)) ?_ | refine App.mk rfl (by simp only [List.length_map, List.length_append, List.length_cons, List.length_nil]; omega) (by simp only [List.length_map, List.length_append, List.length_cons, List.length_nil]; omega) ?_ | refine App.mk (own_map (fun _ => rfl) _) (by simp only [List.length_map, List.length_append, List.length_cons, List.length_nil]; omega) (by simp only [List.length_map, List.length_append, List.length_cons, List.length_nil]; omega) ?_ | refine Both.mk ?_ ?_ | exact True.intro
      refine Br.d (fun h3 => ?_) (fun h3 => ?_)
      · rw [if_pos h3] at hnext
        repeat' first | refine Len.map ?_ | refine Len.nil ?_ | refine Len.cons ?_ | refine Br.t rfl ?_ | refine Br.f rfl ?_ | refine Need.mk ⟨by first | omega | (simp; omega), by first | omega | (simp; done) | (simp; omega)⟩ ?_ | refine Pick.map (by assumption) ?_ | refine Pick.mapI (by omega) (by assumption) ?_ | refine PickN.mk _ (by assumption) ?_ | refine PickN.mk _ rfl ?_ | refine PickN.map (by first | assumption | (rw [Int.toNat_natCast]; assumption)) ?_ | refine App.mk rfl (by simp only [List.length_map, List.length_append, List.length_cons, List.length_nil]; omega) (by simp only [List.length_map, List.length_append, List.length_cons, List.length_nil]; omega) ?_ | refine App.mk (own_map (fun _ => rfl) _) (by simp only [List.length_map, List.length_append, List.length_cons, List.length_nil]; omega) (by simp only [List.length_map, List.length_append, List.length_cons, List.length_nil]; omega) ?_ | refine Both.mk ?_ ?_ | exact True.intro
        refine Stop.mk (run_yieldC 5 rfl ⟨_, rfl, rfl, rfl⟩ rfl rfl rfl rfl rfl rfl rfl (Run.fr (tm' := (29, num k) :: (30, bsl b) :: tTM p m) (hp' := tH .ready (rangeSa Try.f41) (rangeBd Try.f41) f p m l D (tidyTo f p m k)) (nx' := 6) (round41 f p m l D (tidyTo f p m k) k b q gq (by omega) hbb.1 (fun i hi => ⟨hbb.2 i hi, hfits k b q gb gq i hi⟩) (fun x hx => by have := (hpp q gqm).2 x hx; omega) (by omega) fun hp nx hs => ?_) (g := []) ⟨rfl, (by repeat' first | exact trivial | refine ⟨rfl, ?_⟩ | refine ⟨congrArg (fun n => AV.lit (.int .i64 n)) (by omega), ?_⟩ | refine ⟨congrArg (fun l => some (Row.row 1 l)) (by simp [int1, num, tru]), ?_⟩), (by repeat' first | exact trivial | refine ⟨rfl, ?_⟩ | refine ⟨congrArg (fun n => AV.lit (.int .i64 n)) (by omega), ?_⟩ | refine ⟨congrArg (fun l => some (Row.row 1 l)) (by simp [int1, num, tru]), ?_⟩)⟩))
        refine Run.fr (g := []) (tm' := [(23, tru true), (19, tru true), (0, uY l), (1, .hp 3 0), (2, .hp 4 0), (7, .sl false 1 (f.blocks.map blk)), (8, num f.blocks.length), (9, num k)]) (hp' := tH .ready (rangeSa Try.f41) (rangeBd Try.f41) f p m l D (tidyTo f p m k ++ [b.map fun i => movedF i q m])) (nx' := 6) (nt := 27) ?_ ⟨rfl, (by repeat' first | exact trivial | refine ⟨rfl, ?_⟩), hs⟩
        refine goI 1000 Try.func101 ?_
        repeat' first | refine Len.map ?_ | refine Len.nil ?_ | refine Len.cons ?_ | refine Br.t rfl ?_ | refine Br.f rfl ?_ | refine Need.mk ⟨by first | omega | (simp; omega), by first | omega | (simp; done) | (simp; omega)⟩ ?_ | refine Pick.map (by assumption) ?_ | refine Pick.mapI (by omega) (by assumption) ?_ | refine PickN.mk _ (by assumption) ?_ | refine PickN.mk _ rfl ?_ | refine PickN.map (by first | assumption | (rw [Int.toNat_natCast]; assumption)) ?_ | refine App.mk rfl (by simp only [List.length_map, List.length_append, List.length_cons, List.length_nil]; omega) (by simp only [List.length_map, List.length_append, List.length_cons, List.length_nil]; omega) ?_ | refine App.mk (own_map (fun _ => rfl) _) (by simp only [List.length_map, List.length_append, List.length_cons, List.length_nil]; omega) (by simp only [List.length_map, List.length_append, List.length_cons, List.length_nil]; omega) ?_ | refine Both.mk ?_ ?_ | exact True.intro
        refine Stop.mk (ih (k + 1) (g := []) _ _ _ (by omega) (by omega) ?_)
        rw [hnext]
        exact ⟨rfl, (by repeat' first | exact trivial | refine ⟨rfl, ?_⟩ | refine ⟨congrArg (fun n => AV.lit (.int .i64 n)) (by omega), ?_⟩ | refine ⟨congrArg (fun l => some (Row.row 1 l)) (by simp [int1, num, tru]), ?_⟩), (by repeat' first | exact trivial | refine ⟨rfl, ?_⟩ | refine ⟨congrArg (fun n => AV.lit (.int .i64 n)) (by omega), ?_⟩ | refine ⟨congrArg (fun l => some (Row.row 1 l)) (by simp [int1, num, tru]), ?_⟩)⟩
      · rw [if_neg h3, List.append_nil] at hnext
        repeat' first | refine Len.map ?_ | refine Len.nil ?_ | refine Len.cons ?_ | refine Br.t rfl ?_ | refine Br.f rfl ?_ | refine Need.mk ⟨by first | omega | (simp; omega), by first | omega | (simp; done) | (simp; omega)⟩ ?_ | refine Pick.map (by assumption) ?_ | refine Pick.mapI (by omega) (by assumption) ?_ | refine PickN.mk _ (by assumption) ?_ | refine PickN.mk _ rfl ?_ | refine PickN.map (by first | assumption | (rw [Int.toNat_natCast]; assumption)) ?_ | refine App.mk rfl (by simp only [List.length_map, List.length_append, List.length_cons, List.length_nil]; omega) (by simp only [List.length_map, List.length_append, List.length_cons, List.length_nil]; omega) ?_ | refine App.mk (own_map (fun _ => rfl) _) (by simp only [List.length_map, List.length_append, List.length_cons, List.length_nil]; omega) (by simp only [List.length_map, List.length_append, List.length_cons, List.length_nil]; omega) ?_ | refine Both.mk ?_ ?_ | exact True.intro
        refine Stop.mk (ih (k + 1) (g := []) _ _ _ (by omega) (by omega) ?_)
        rw [hnext]
        exact ⟨rfl, (by repeat' first | exact trivial | refine ⟨rfl, ?_⟩ | refine ⟨congrArg (fun n => AV.lit (.int .i64 n)) (by omega), ?_⟩ | refine ⟨congrArg (fun l => some (Row.row 1 l)) (by simp [int1, num, tru]), ?_⟩), (by repeat' first | exact trivial | refine ⟨rfl, ?_⟩ | refine ⟨congrArg (fun n => AV.lit (.int .i64 n)) (by omega), ?_⟩ | refine ⟨congrArg (fun l => some (Row.row 1 l)) (by simp [int1, num, tru]), ?_⟩)⟩
    · repeat' first | refine Len.map ?_ | refine Len.nil ?_ | refine Len.cons ?_ | refine Br.t rfl ?_ | refine Br.f rfl ?_ | refine Need.mk ⟨by first | omega | (simp; omega), by first | omega | (simp; done) | (simp; omega)⟩ ?_ | refine Pick.map (by assumption) ?_ | refine Pick.mapI (by omega) (by assumption) ?_ | refine PickN.mk _ (by assumption) ?_ | refine PickN.mk _ rfl ?_ | refine PickN.map (by first | assumption | (rw [Int.toNat_natCast]; assumption)) ?_ | refine App.mk rfl (by simp only [List.length_map, List.length_append, List.length_cons, List.length_nil]; omega) (by simp only [List.length_map, List.length_append, List.length_cons, List.length_nil]; omega) ?_ | refine App.mk (own_map (fun _ => rfl) _) (by simp only [List.length_map, List.length_append, List.length_cons, List.length_nil]; omega) (by simp only [List.length_map, List.length_append, List.length_cons, List.length_nil]; omega) ?_ | refine Both.mk ?_ ?_ | exact True.intro
      rw [show k = f.blocks.length by omega]
      refine ⟨_, rfl, rfl, rfl, (by intro h; cases h), goD 1000 Try.func41 ?_⟩
      repeat' first | refine Len.map ?_ | refine Len.nil ?_ | refine Len.cons ?_ | refine Br.t rfl ?_ | refine Br.f rfl ?_ | refine Need.mk ⟨by first | omega | (simp; omega), by first | omega | (simp; done) | (simp; omega)⟩ ?_ | refine Pick.map (by assumption) ?_ | refine Pick.mapI (by omega) (by assumption) ?_ | refine PickN.mk _ (by assumption) ?_ | refine PickN.mk _ rfl ?_ | refine PickN.map (by first | assumption | (rw [Int.toNat_natCast]; assumption)) ?_ | refine App.mk rfl (by simp only [List.length_map, List.length_append, List.length_cons, List.length_nil]; omega) (by simp only [List.length_map, List.length_append, List.length_cons, List.length_nil]; omega) ?_ | refine App.mk (own_map (fun _ => rfl) _) (by simp only [List.length_map, List.length_append, List.length_cons, List.length_nil]; omega) (by simp only [List.length_map, List.length_append, List.length_cons, List.length_nil]; omega) ?_ | refine Both.mk ?_ ?_ | exact True.intro
      refine Stop.mk (run_unfold 2 3 rfl rfl (run_unfold 2 4 rfl rfl (goD 1000 Try.func41 ?_)))
      repeat' first | refine Len.map ?_ | refine Len.nil ?_ | refine Len.cons ?_ | refine Br.t rfl ?_ | refine Br.f rfl ?_ | refine Need.mk ⟨by first | omega | (simp; omega), by first | omega | (simp; done) | (simp; omega)⟩ ?_ | refine Pick.map (by assumption) ?_ | refine Pick.mapI (by omega) (by assumption) ?_ | refine PickN.mk _ (by assumption) ?_ | refine PickN.mk _ rfl ?_ | refine PickN.map (by first | assumption | (rw [Int.toNat_natCast]; assumption)) ?_ | refine App.mk rfl (by simp only [List.length_map, List.length_append, List.length_cons, List.length_nil]; omega) (by simp only [List.length_map, List.length_append, List.length_cons, List.length_nil]; omega) ?_ | refine App.mk (own_map (fun _ => rfl) _) (by simp only [List.length_map, List.length_append, List.length_cons, List.length_nil]; omega) (by simp only [List.length_map, List.length_append, List.length_cons, List.length_nil]; omega) ?_ | refine Both.mk ?_ ?_ | exact True.intro
      refine Need.mk rfl ?_
      show _ = _
      rfl
end Go.Proofs.Ytnfkdilmoppbpaa

/- A tidy program, by a contract. -/
namespace Go.Proofs.Ytnfkdilmoppbpaa
open Go.Ax
set_option maxRecDepth 10000
set_option linter.unusedVariables false

theorem CloneS_spec (l : List (Int × Int)) (hl : l.length ≤ 1000000) : FnSpec Try.prog 73 [.sl false 2 (l.map site)] (fun r => r = .osl 2 (l.map site)) := by
  refine FnSpec.weakV (spec_of 1000 Try.func73 rfl rfl ?_)
  repeat' first | refine Len.map ?_ | refine Len.nil ?_ | refine Len.cons ?_ | refine Br.t rfl ?_ | refine Br.f rfl ?_ | refine Need.mk ⟨by first | omega | (simp; omega), by first | omega | (simp; done) | (simp; omega)⟩ ?_ | refine Pick.map (by assumption) ?_ | refine Pick.mapI (by omega) (by assumption) ?_ | refine PickN.mk _ (by assumption) ?_ | refine PickN.mk _ rfl ?_ | refine PickN.map (by first | assumption | (rw [Int.toNat_natCast]; assumption)) ?_ | refine App.mk rfl (by simp only [List.length_map, List.length_append, List.length_cons, List.length_nil]; omega) (by simp only [List.length_map, List.length_append, List.length_cons, List.length_nil]; omega) ?_ | refine App.mk (own_map (fun _ => rfl) _) (by simp only [List.length_map, List.length_append, List.length_cons, List.length_nil]; omega) (by simp only [List.length_map, List.length_append, List.length_cons, List.length_nil]; omega) ?_ | refine Both.mk ?_ ?_ | exact True.intro
  refine NilT.mk fun b hb => ?_
  refine Br.mk (fun h => ?_) (fun h => ?_)
  · repeat' first | refine Len.map ?_ | refine Len.nil ?_ | refine Len.cons ?_ | refine Br.t rfl ?_ | refine Br.f rfl ?_ | refine Need.mk ⟨by first | omega | (simp; omega), by first | omega | (simp; done) | (simp; omega)⟩ ?_ | refine Pick.map (by assumption) ?_ | refine Pick.mapI (by omega) (by assumption) ?_ | refine PickN.mk _ (by assumption) ?_ | refine PickN.mk _ rfl ?_ | refine PickN.map (by first | assumption | (rw [Int.toNat_natCast]; assumption)) ?_ | refine App.mk rfl (by simp only [List.length_map, List.length_append, List.length_cons, List.length_nil]; omega) (by simp only [List.length_map, List.length_append, List.length_cons, List.length_nil]; omega) ?_ | refine App.mk (own_map (fun _ => rfl) _) (by simp only [List.length_map, List.length_append, List.length_cons, List.length_nil]; omega) (by simp only [List.length_map, List.length_append, List.length_cons, List.length_nil]; omega) ?_ | refine Both.mk ?_ ?_ | exact True.intro
    refine .inr ?_
    have : l = [] := by simpa using hb (by simpa using h)
    subst this
    exact OLe.onil
  · repeat' first | refine Len.map ?_ | refine Len.nil ?_ | refine Len.cons ?_ | refine Br.t rfl ?_ | refine Br.f rfl ?_ | refine Need.mk ⟨by first | omega | (simp; omega), by first | omega | (simp; done) | (simp; omega)⟩ ?_ | refine Pick.map (by assumption) ?_ | refine Pick.mapI (by omega) (by assumption) ?_ | refine PickN.mk _ (by assumption) ?_ | refine PickN.mk _ rfl ?_ | refine PickN.map (by first | assumption | (rw [Int.toNat_natCast]; assumption)) ?_ | refine App.mk rfl (by simp only [List.length_map, List.length_append, List.length_cons, List.length_nil]; omega) (by simp only [List.length_map, List.length_append, List.length_cons, List.length_nil]; omega) ?_ | refine App.mk (own_map (fun _ => rfl) _) (by simp only [List.length_map, List.length_append, List.length_cons, List.length_nil]; omega) (by simp only [List.length_map, List.length_append, List.length_cons, List.length_nil]; omega) ?_ | refine Both.mk ?_ ?_ | exact True.intro
    exact .inl rfl

theorem tidyR_or (f : Fun) : tidyR f = f.cs ∨ tidyR f = (tidyF f).ocs := by unfold tidyR; split <;> simp
def Pro.okT (p : Pro) : Prop := p.funcs.length ≤ 1000000 ∧ p.sites.length ≤ 1000000 ∧ ∀ f ∈ p.funcs, f.fits ∧ f.blocks.length ≤ 100000 ∧ f.regs.length ≤ 1000000 ∧ ∀ b ∈ f.blocks, b.length ≤ 1000000 ∧ ∀ i ∈ b, i.args.length ≤ 1000000
noncomputable def tidyP (p : Pro) : AV := .agg [.osl 5 (p.funcs.map tidyR), num p.main, .osl 2 (p.sites.map site)]

set_option maxHeartbeats 2000000 in
theorem Program38_spec (p : Pro) (hp : p.okT) : FnSpec Try.prog 38 [proA p] (fun r => r = tidyP p) := by
  obtain ⟨hp1, hp2, hp3⟩ := hp
  refine spec_of 1000 Try.func38 rfl rfl ?_
  repeat' first | refine Call.eq (CloneS_spec p.sites hp2) rfl ?_ | refine Len.map ?_ | refine Len.nil ?_ | refine Len.cons ?_ | refine Br.t rfl ?_ | refine Br.f rfl ?_ | refine Need.mk ⟨by first | omega | (simp; omega), by first | omega | (simp; done) | (simp; omega)⟩ ?_ | refine Pick.map (by assumption) ?_ | refine Pick.mapI (by omega) (by assumption) ?_ | refine PickN.mk _ (by assumption) ?_ | refine PickN.mk _ rfl ?_ | refine PickN.map (by first | assumption | (rw [Int.toNat_natCast]; assumption)) ?_ | refine App.mk rfl (by simp only [List.length_map, List.length_append, List.length_cons, List.length_nil]; omega) (by simp only [List.length_map, List.length_append, List.length_cons, List.length_nil]; omega) ?_ | refine App.mk (own_map (fun _ => rfl) _) (by simp only [List.length_map, List.length_append, List.length_cons, List.length_nil]; omega) (by simp only [List.length_map, List.length_append, List.length_cons, List.length_nil]; omega) ?_ | refine Both.mk ?_ ?_ | exact True.intro
  refine Stop.mk (run_varLe 2 rfl (.cons (VLe.onil (sz := 5)) (.cons (.refl _) (.cons (.refl _) .nil))) ?_)
  refine loop_in (g := []) (fun k : Nat => [(1, .hp 0 0), (2, .hp 1 0), (3, .hp 2 0), (13, .sl false 5 (p.funcs.map Fun.cs)), (14, num p.funcs.length), (15, num k)]) (fun k => [(0, .var p.cs), (1, .var [.lit (.slice none 0 0), num 0, .lit (.slice none 0 0)]), (2, .var [.osl 5 ((p.funcs.take k).map tidyR), num p.main, .osl 2 (p.sites.map site)])]) 3 (fun k => k ≤ p.funcs.length) (fun k => p.funcs.length - k) 0 (by omega) ⟨rfl, (by repeat' first | exact trivial | refine ⟨rfl, ?_⟩ | refine ⟨congrArg (fun n => AV.lit (.int .i64 n)) (by omega), ?_⟩ | refine ⟨congrArg (fun l => some (Row.row 1 l)) (by simp [int1, num, tru]), ?_⟩), (by repeat' first | exact trivial | refine ⟨rfl, ?_⟩ | refine ⟨congrArg (fun n => AV.lit (.int .i64 n)) (by omega), ?_⟩ | refine ⟨congrArg (fun l => some (Row.row 1 l)) (by simp [int1, num, tru]), ?_⟩)⟩ (fun k hk ih => ?_)
  refine go 1000 Try.func38 ?_
  repeat' first | refine Len.map ?_ | refine Len.nil ?_ | refine Len.cons ?_ | refine Br.t rfl ?_ | refine Br.f rfl ?_ | refine Need.mk ⟨by first | omega | (simp; omega), by first | omega | (simp; done) | (simp; omega)⟩ ?_ | refine Pick.map (by assumption) ?_ | refine Pick.mapI (by omega) (by assumption) ?_ | refine PickN.mk _ (by assumption) ?_ | refine PickN.mk _ rfl ?_ | refine PickN.map (by first | assumption | (rw [Int.toNat_natCast]; assumption)) ?_ | refine App.mk rfl (by simp only [List.length_map, List.length_append, List.length_cons, List.length_nil]; omega) (by simp only [List.length_map, List.length_append, List.length_cons, List.length_nil]; omega) ?_ | refine App.mk (own_map (fun _ => rfl) _) (by simp only [List.length_map, List.length_append, List.length_cons, List.length_nil]; omega) (by simp only [List.length_map, List.length_append, List.length_cons, List.length_nil]; omega) ?_ | refine Both.mk ?_ ?_ | exact True.intro
  refine Br.d (fun h2 => ?_) (fun h2 => ?_)
  · obtain ⟨f, gf, gm⟩ := getK (l := p.funcs) (k := k) (by omega)
    obtain ⟨hf, hbl, hrl, hb⟩ := hp3 f gm
    have hsp := Func41_spec f hf hbl hrl hb
    have hnext : (p.funcs.take (k + 1)).map tidyR = (p.funcs.take k).map tidyR ++ [tidyR f] := by rw [take_succ gf, List.map_append]; rfl
    have hcl : ((p.funcs.take k).map tidyR).length ≤ k := by rw [List.length_map, List.length_take]; omega
    generalize (p.funcs.take k).map tidyR = cur at *
    rcases tidyR_or f with h | h
    all_goals
      rw [h] at hsp hnext
      repeat' first | refine Draw.mk (.one 0 false (.alt 1 (ordL [2, 3, 4, 5, 7] [2, 3, 4, 5, 6, 7]) (.alt 2 (.alt 1 (ordL [3, 4, 5, 7] [3, 4, 5, 6, 7]) (.alt 3 (.alt 1 (ordL [4, 5, 7] [4, 5, 6, 7]) (.alt 4 (ordL [1, 5, 7] [1, 5, 6, 7]) .no)) .no)) .no))) (by decide +kernel) ?_ | refine Call.eq hsp rfl ?_ | refine Len.map ?_ | refine Len.nil ?_ | refine Len.cons ?_ | refine Br.t rfl ?_ | refine Br.f rfl ?_ | refine Need.mk ⟨by first | omega | (simp; omega), by first | omega | (simp; done) | (simp; omega)⟩ ?_ | refine Pick.map (by assumption) ?_ | refine Pick.mapI (by omega) (by assumption) ?_ | refine PickN.mk _ (by assumption) ?_ | refine PickN.mk _ rfl ?_ | refine PickN.map (by first | assumption | (rw [Int.toNat_natCast]; assumption)) ?_ | refine App.mk rfl (by simp only [List.length_map, List.length_append, List.length_cons, List.length_nil]; omega) (by simp only [List.length_map, List.length_append, List.length_cons, List.length_nil]; omega) ?_ | refine App.mk (own_map (fun _ => rfl) _) (by simp only [List.length_map, List.length_append, List.length_cons, List.length_nil]; omega) (by simp only [List.length_map, List.length_append, List.length_cons, List.length_nil]; omega) ?_ | refine Both.mk ?_ ?_ | exact True.intro
      all_goals
        refine Stop.mk (ih (k + 1) (g := []) _ _ _ (by omega) (by omega) ?_)
        rw [hnext]
        exact ⟨rfl, (by repeat' first | exact trivial | refine ⟨rfl, ?_⟩ | refine ⟨congrArg (fun n => AV.lit (.int .i64 n)) (by omega), ?_⟩ | refine ⟨congrArg (fun l => some (Row.row 1 l)) (by simp [int1, num, tru]), ?_⟩), (by repeat' first | exact trivial | refine ⟨rfl, ?_⟩ | refine ⟨congrArg (fun n => AV.lit (.int .i64 n)) (by omega), ?_⟩ | refine ⟨congrArg (fun l => some (Row.row 1 l)) (by simp [int1, num, tru]), ?_⟩)⟩
  · repeat' first | refine Len.map ?_ | refine Len.nil ?_ | refine Len.cons ?_ | refine Br.t rfl ?_ | refine Br.f rfl ?_ | refine Need.mk ⟨by first | omega | (simp; omega), by first | omega | (simp; done) | (simp; omega)⟩ ?_ | refine Pick.map (by assumption) ?_ | refine Pick.mapI (by omega) (by assumption) ?_ | refine PickN.mk _ (by assumption) ?_ | refine PickN.mk _ rfl ?_ | refine PickN.map (by first | assumption | (rw [Int.toNat_natCast]; assumption)) ?_ | refine App.mk rfl (by simp only [List.length_map, List.length_append, List.length_cons, List.length_nil]; omega) (by simp only [List.length_map, List.length_append, List.length_cons, List.length_nil]; omega) ?_ | refine App.mk (own_map (fun _ => rfl) _) (by simp only [List.length_map, List.length_append, List.length_cons, List.length_nil]; omega) (by simp only [List.length_map, List.length_append, List.length_cons, List.length_nil]; omega) ?_ | refine Both.mk ?_ ?_ | exact True.intro
    refine Stop.mk (run_unfold 2 0 rfl rfl (run_unfold 2 2 rfl rfl (go 1000 Try.func38 ?_)))
    repeat' first | refine Len.map ?_ | refine Len.nil ?_ | refine Len.cons ?_ | refine Br.t rfl ?_ | refine Br.f rfl ?_ | refine Need.mk ⟨by first | omega | (simp; omega), by first | omega | (simp; done) | (simp; omega)⟩ ?_ | refine Pick.map (by assumption) ?_ | refine Pick.mapI (by omega) (by assumption) ?_ | refine PickN.mk _ (by assumption) ?_ | refine PickN.mk _ rfl ?_ | refine PickN.map (by first | assumption | (rw [Int.toNat_natCast]; assumption)) ?_ | refine App.mk rfl (by simp only [List.length_map, List.length_append, List.length_cons, List.length_nil]; omega) (by simp only [List.length_map, List.length_append, List.length_cons, List.length_nil]; omega) ?_ | refine App.mk (own_map (fun _ => rfl) _) (by simp only [List.length_map, List.length_append, List.length_cons, List.length_nil]; omega) (by simp only [List.length_map, List.length_append, List.length_cons, List.length_nil]; omega) ?_ | refine Both.mk ?_ ?_ | exact True.intro
    rw [take_all (by omega)]
    rfl
end Go.Proofs.Ytnfkdilmoppbpaa

/- The chapter's example, by a contract. -/
namespace Go.Proofs.Ytnfkdilmoppbpaa
open Go.Ax
set_option maxRecDepth 10000
set_option linter.unusedVariables false

/-- The chapter's example. -/
def ex25 : Fun := ⟨⟨#[102]⟩, 0, 1, [1], [[⟨41, 0, 0, 0, 0, 2, 0, 0, []⟩], [⟨41, 0, 0, 0, 0, 2, 0, 0, []⟩], [⟨43, 0, 0, 0, 0, 0, 0, 0, []⟩]]⟩
theorem ex25_fits : ex25.fits := by
  refine ⟨by decide, by decide, fun b hb => ?_⟩
  simp only [ex25, List.mem_cons, List.not_mem_nil, or_false] at hb
  rcases hb with rfl | rfl | rfl <;> refine ⟨by decide, fun i hi => ?_⟩ <;> simp only [List.mem_cons, List.not_mem_nil, or_false] at hi <;> subst hi <;> (unfold Ins.fits; decide)
theorem ex25_ok : ∀ b ∈ ex25.blocks, b.length ≤ 1000000 ∧ ∀ i ∈ b, i.args.length ≤ 1000000 := by
  simp [ex25]
theorem ex25_succs : succsF ex25 = [[2], [2], []] := by kernel_rfl
theorem ex25_marks : marksF (succsF ex25) (-1) = [true, false, true] := by
  have hm : Marks (succsF ex25) (-1) [true, false, true] := by
    have hcl := succsF_closed ex25
    rw [ex25_succs] at hcl ⊢
    refine marks_of hcl ⟨rfl, fun t ht => ?_⟩ (fun _ _ => rfl) ?_
    · have h0 : Reaches [[2], [2], []] (-1) 0 := .zero (by simp) (by decide)
      match t, ht with
      | 0, _ => exact h0
      | 1, h => simp at h
      | 2, _ => exact .step (k := 0) h0 rfl (by simp) (by decide)
      | t + 3, h => simp at h
    · intro a r b t ha hb _ hl hne
      match a, ha with
      | 0, ha => cases ha; match b, hb with
        | 0, hb => cases hb; rfl
        | b + 1, hb => simp at hb
      | 1, ha => simp at hl
      | 2, ha => cases ha; simp at hb
      | a + 3, ha => simp at ha
  exact hm.eq.symm
theorem ex25_map : mapF ex25 = [0, -1, 1] := by unfold mapF; rw [ex25_marks]; rfl
theorem ex25_tidy : tidyR ex25 = [.lit (.string ⟨#[102]⟩), num 0, num 1, .osl 1 [int1 1], .osl 1 [oblk [⟨41, 0, 0, 0, 0, 1, 0, 0, []⟩], oblk [⟨43, 0, 0, 0, 0, 0, 0, 0, []⟩]]] := by
  unfold tidyR tidyF
  rw [ex25_map, ex25_succs]
  have h : fitsB ex25 (predsF [[2], [2], []]) = true := by kernel_rfl
  refine (if_pos h).trans ?_
  have e : tidyTo ex25 (predsF [[2], [2], []]) [0, -1, 1] ex25.blocks.length = [[⟨41, 0, 0, 0, 0, 1, 0, 0, []⟩], [⟨43, 0, 0, 0, 0, 0, 0, 0, []⟩]] := by kernel_rfl
  rw [e]
  rfl

theorem works37t : FnSpec Try.prog 37 [] (fun r => r = tru true) := by
  have hf := Func41_spec ex25 ex25_fits (by decide) (by decide) ex25_ok
  rw [ex25_tidy] at hf
  have hm := Map42_spec ex25 ex25_fits (by decide)
  rw [ex25_map] at hm
  refine spec_of 1000 Try.func37 rfl rfl ?_
  repeat' first | refine Len.map ?_ | refine Len.nil ?_ | refine Len.cons ?_ | refine Br.t rfl ?_ | refine Br.f rfl ?_ | refine Need.mk ⟨by first | omega | (simp; omega), by first | omega | (simp; done) | (simp; omega)⟩ ?_ | refine Pick.map (by assumption) ?_ | refine Pick.mapI (by omega) (by assumption) ?_ | refine PickN.mk _ (by assumption) ?_ | refine PickN.mk _ rfl ?_ | refine PickN.map (by first | assumption | (rw [Int.toNat_natCast]; assumption)) ?_ | refine App.mk rfl (by simp only [List.length_map, List.length_append, List.length_cons, List.length_nil]; omega) (by simp only [List.length_map, List.length_append, List.length_cons, List.length_nil]; omega) ?_ | refine App.mk (own_map (fun _ => rfl) _) (by simp only [List.length_map, List.length_append, List.length_cons, List.length_nil]; omega) (by simp only [List.length_map, List.length_append, List.length_cons, List.length_nil]; omega) ?_ | refine Both.mk ?_ ?_ | exact True.intro
  refine Stop.mk (run_frzV 5 rfl rfl rfl ?_)
  refine go 1000 Try.func37 ?_
  refine Call.le (by repeat' first | exact Le.refl _ | exact Le.none | exact LeL.nil | refine LeL.cons ?_ ?_ | exact LeLL.nil | refine LeLL.cons ?_ ?_ | refine Le.agg ?_ | refine Le.sl ?_ | refine Le.pt ?_) (Call.eq hf rfl ?_)
  repeat' first | refine Len.map ?_ | refine Len.nil ?_ | refine Len.cons ?_ | refine Br.t rfl ?_ | refine Br.f rfl ?_ | refine Need.mk ⟨by first | omega | (simp; omega), by first | omega | (simp; done) | (simp; omega)⟩ ?_ | refine Pick.map (by assumption) ?_ | refine Pick.mapI (by omega) (by assumption) ?_ | refine PickN.mk _ (by assumption) ?_ | refine PickN.mk _ rfl ?_ | refine PickN.map (by first | assumption | (rw [Int.toNat_natCast]; assumption)) ?_ | refine App.mk rfl (by simp only [List.length_map, List.length_append, List.length_cons, List.length_nil]; omega) (by simp only [List.length_map, List.length_append, List.length_cons, List.length_nil]; omega) ?_ | refine App.mk (own_map (fun _ => rfl) _) (by simp only [List.length_map, List.length_append, List.length_cons, List.length_nil]; omega) (by simp only [List.length_map, List.length_append, List.length_cons, List.length_nil]; omega) ?_ | refine Both.mk ?_ ?_ | exact True.intro
  refine Call.le (by repeat' first | exact Le.refl _ | exact Le.none | exact LeL.nil | refine LeL.cons ?_ ?_ | exact LeLL.nil | refine LeLL.cons ?_ ?_ | refine Le.agg ?_ | refine Le.sl ?_ | refine Le.pt ?_) (Call.eq hm rfl ?_)
  refine Look.yes (View.mk _ rfl (View.mk _ rfl ?_))
  refine CallV.eq (SameInts_spec [0, -1, 1] [0, -1, 1] (by decide)) rfl (Free.lit _) ?_
  repeat' first | refine Pick.mk _ (by decide) rfl ?_ | refine Len.map ?_ | refine Len.nil ?_ | refine Len.cons ?_ | refine Br.t rfl ?_ | refine Br.f rfl ?_ | refine Need.mk ⟨by first | omega | (simp; omega), by first | omega | (simp; done) | (simp; omega)⟩ ?_ | refine Pick.map (by assumption) ?_ | refine Pick.mapI (by omega) (by assumption) ?_ | refine PickN.mk _ (by assumption) ?_ | refine PickN.mk _ rfl ?_ | refine PickN.map (by first | assumption | (rw [Int.toNat_natCast]; assumption)) ?_ | refine App.mk rfl (by simp only [List.length_map, List.length_append, List.length_cons, List.length_nil]; omega) (by simp only [List.length_map, List.length_append, List.length_cons, List.length_nil]; omega) ?_ | refine App.mk (own_map (fun _ => rfl) _) (by simp only [List.length_map, List.length_append, List.length_cons, List.length_nil]; omega) (by simp only [List.length_map, List.length_append, List.length_cons, List.length_nil]; omega) ?_ | refine Both.mk ?_ ?_ | exact True.intro
  rfl
end Go.Proofs.Ytnfkdilmoppbpaa

/- The law TidyEnds as a function. -/
namespace Go.Proofs.Ytnfkdilmoppbpaa
open Go.Ax
set_option maxRecDepth 10000
set_option linter.unusedVariables false

theorem Pro.few.okT {p : Pro} (h : p.few 150) (hp : p.fits) : p.okT := by
  obtain ⟨h1, h2, h3, h4⟩ := h
  refine ⟨by omega, by omega, fun f hf => ?_⟩
  obtain ⟨g1, g2, _, g4⟩ := h4 f hf
  refine ⟨hp.2.2 f hf, by omega, by omega, fun b hb => ⟨?_, fun i hi => ?_⟩⟩
  · have := Fun.len_le hb
    have := p.count_fun hf
    omega
  · have := g4 b hb i hi
    omega

def Wrong.vs (w : Wrong) : List Value := [.int .i64 w.fn, .int .i64 w.block, .int .i64 w.at_, .int .i64 w.err]
theorem eq66 (a b : Wrong) : AggEq1 Try.prog 66 a.vs b.vs (decide (a = b)) := by
  refine ⟨Try.eqGuardType66, fun w => ?_⟩
  have u3 := Try.underlying3
  have a3 := Try.isAgg3
  have z3 := Try.sizeOf3
  have u64 := Try.underlying64
  have a64 := Try.isAgg64
  have z64 := Try.sizeOf64
  have hS : Try.prog.underlying 66 = some (.struct (Try.prog.fieldsOf 66)) := by kernel_rfl
  rw [show (10000 : Nat) = 9999 + 1 from rfl, run_equalIn_agg w 9999 66 _ _ hS Try.stoodInHeld66]
  simp only [Program.fieldsOf, Try.underlying66, Wrong.vs]
  go_simp
  obtain ⟨a1, a2, a3, a4⟩ := a
  obtain ⟨b1, b2, b3, b4⟩ := b
  simp only [Wrong.mk.injEq]
  by_cases h1 : a1 = b1 <;> by_cases h2 : a2 = b2 <;> by_cases h3 : a3 = b3 <;> by_cases h4 : a4 = b4 <;> simp [h1, h2, h3, h4]

theorem TidyEnds_spec (p : Pro) (hp : p.fits) (hl : p.light) : FnSpec Try.prog 9 [proA p] (fun r => r = tru true) := by
  refine spec_of 1000 Try.func9 rfl rfl ?_
  refine Call.of (Few_spec p 150 (by decide) hp hl) ?_
  rintro r ⟨b, rfl, hb⟩
  refine ⟨rfl, ?_⟩
  repeat' first | refine Len.map ?_ | refine Len.nil ?_ | refine Len.cons ?_ | refine Br.t rfl ?_ | refine Br.f rfl ?_ | refine Need.mk ⟨by first | omega | (simp; omega), by first | omega | (simp; done) | (simp; omega)⟩ ?_ | refine Pick.map (by assumption) ?_ | refine Pick.mapI (by omega) (by assumption) ?_ | refine PickN.mk _ (by assumption) ?_ | refine PickN.mk _ rfl ?_ | refine PickN.map (by first | assumption | (rw [Int.toNat_natCast]; assumption)) ?_ | refine App.mk rfl (by simp only [List.length_map, List.length_append, List.length_cons, List.length_nil]; omega) (by simp only [List.length_map, List.length_append, List.length_cons, List.length_nil]; omega) ?_ | refine App.mk (own_map (fun _ => rfl) _) (by simp only [List.length_map, List.length_append, List.length_cons, List.length_nil]; omega) (by simp only [List.length_map, List.length_append, List.length_cons, List.length_nil]; omega) ?_ | refine Both.mk ?_ ?_ | exact True.intro
  refine Br.mk (fun h => ?_) (fun h => ?_)
  · repeat' first | refine Call.eq works37t rfl ?_ | refine Len.map ?_ | refine Len.nil ?_ | refine Len.cons ?_ | refine Br.t rfl ?_ | refine Br.f rfl ?_ | refine Need.mk ⟨by first | omega | (simp; omega), by first | omega | (simp; done) | (simp; omega)⟩ ?_ | refine Pick.map (by assumption) ?_ | refine Pick.mapI (by omega) (by assumption) ?_ | refine PickN.mk _ (by assumption) ?_ | refine PickN.mk _ rfl ?_ | refine PickN.map (by first | assumption | (rw [Int.toNat_natCast]; assumption)) ?_ | refine App.mk rfl (by simp only [List.length_map, List.length_append, List.length_cons, List.length_nil]; omega) (by simp only [List.length_map, List.length_append, List.length_cons, List.length_nil]; omega) ?_ | refine App.mk (own_map (fun _ => rfl) _) (by simp only [List.length_map, List.length_append, List.length_cons, List.length_nil]; omega) (by simp only [List.length_map, List.length_append, List.length_cons, List.length_nil]; omega) ?_ | refine Both.mk ?_ ?_ | exact True.intro
    rfl
  have hb := hb (by simpa using h)
  have hs := hb.slim (by decide) hp
  have ho := hb.okT hp
  repeat' first | refine Call.eq (Check16_spec p hs) rfl ?_ | refine Call.eq (Program38_spec p ho) rfl ?_ | refine Draw.mk (ordL [1, 5] [0, 2, 1, 3, 4, 5, 6, 7]) (by decide +kernel) ?_ | refine Len.map ?_ | refine Len.nil ?_ | refine Len.cons ?_ | refine Br.t rfl ?_ | refine Br.f rfl ?_ | refine Need.mk ⟨by first | omega | (simp; omega), by first | omega | (simp; done) | (simp; omega)⟩ ?_ | refine Pick.map (by assumption) ?_ | refine Pick.mapI (by omega) (by assumption) ?_ | refine PickN.mk _ (by assumption) ?_ | refine PickN.mk _ rfl ?_ | refine PickN.map (by first | assumption | (rw [Int.toNat_natCast]; assumption)) ?_ | refine App.mk rfl (by simp only [List.length_map, List.length_append, List.length_cons, List.length_nil]; omega) (by simp only [List.length_map, List.length_append, List.length_cons, List.length_nil]; omega) ?_ | refine App.mk (own_map (fun _ => rfl) _) (by simp only [List.length_map, List.length_append, List.length_cons, List.length_nil]; omega) (by simp only [List.length_map, List.length_append, List.length_cons, List.length_nil]; omega) ?_ | refine Both.mk ?_ ?_ | exact True.intro
  refine AggEq.mk (checkE p).vs (checkE p).vs _ rfl rfl (eq66 _ _) ?_
  rw [decide_eq_true rfl]
  repeat' first | refine Call.eq works37t rfl ?_ | refine Len.map ?_ | refine Len.nil ?_ | refine Len.cons ?_ | refine Br.t rfl ?_ | refine Br.f rfl ?_ | refine Need.mk ⟨by first | omega | (simp; omega), by first | omega | (simp; done) | (simp; omega)⟩ ?_ | refine Pick.map (by assumption) ?_ | refine Pick.mapI (by omega) (by assumption) ?_ | refine PickN.mk _ (by assumption) ?_ | refine PickN.mk _ rfl ?_ | refine PickN.map (by first | assumption | (rw [Int.toNat_natCast]; assumption)) ?_ | refine App.mk rfl (by simp only [List.length_map, List.length_append, List.length_cons, List.length_nil]; omega) (by simp only [List.length_map, List.length_append, List.length_cons, List.length_nil]; omega) ?_ | refine App.mk (own_map (fun _ => rfl) _) (by simp only [List.length_map, List.length_append, List.length_cons, List.length_nil]; omega) (by simp only [List.length_map, List.length_append, List.length_cons, List.length_nil]; omega) ?_ | refine Both.mk ?_ ?_ | exact True.intro
  rfl
end Go.Proofs.Ytnfkdilmoppbpaa
