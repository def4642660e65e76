/- Going on from block to block (the document's way): what stays so. No program is in sight here. -/
import Derived.Test.YtdgibhndjdgllaaDoorG10
import Derived.Test.YtdgibhndjdgllaaDoorG13
import Derived.Test.YtdgibhndjdgllaaDoorG11
import Derived.Test.YtdgibhndjdgllaaDoorG08
set_option linter.unusedVariables false
set_option linter.unusedSimpArgs false

namespace Go.Proofs.YtdgibhndjdgllaaDoor
open Go.Ax
def missN (n : Nat) (l : List Int) : Nat := ((List.range n).filter fun (k : Nat) => !decide ((k : Int) ∈ l)).length
theorem filter_le {α : Type} {f g : α → Bool} : ∀ {l : List α}, (∀ x ∈ l, g x = true → f x = true) → (l.filter g).length ≤ (l.filter f).length
  | [], _ => by simp
  | a :: l, h => by
    have ih := filter_le (l := l) fun y hy => h y (List.mem_cons_of_mem a hy)
    cases hg : g a with
    | true => rw [List.filter_cons_of_pos hg, List.filter_cons_of_pos (h a (List.mem_cons_self ..) hg)]; simp; omega
    | false =>
      rw [List.filter_cons_of_neg (by simp [hg])]
      by_cases hf : f a = true
      · rw [List.filter_cons_of_pos hf]; simp; omega
      · rw [List.filter_cons_of_neg hf]; exact ih
theorem missN_le (n : Nat) (l : List Int) : missN n l ≤ n := by
  have := List.length_filter_le (fun (k : Nat) => !decide ((k : Int) ∈ l)) (List.range n)
  rw [List.length_range] at this; exact this
theorem missN_app {n : Nat} {l : List Int} {t : Int} (h0 : 0 ≤ t) (h1 : t.toNat < n) (hn : t ∉ l) : missN n (l ++ [t]) < missN n l := by
  unfold missN
  refine filter_lt (fun x hx h => ?_) ⟨t.toNat, List.mem_range.2 h1, ?_, ?_⟩
  · simp at h ⊢; exact h.1
  · simp; rw [Int.max_eq_left h0]; exact hn
  · simp; omega
/-- What stays so. -/
structure NeedI (f : Fun) (r : Int) (k : Nat) (l : List Int) (i : Nat) : Prop where
  all_ : ∀ j ∈ l, ReachN f r k j
  base : ∀ j ∈ (succsF f).getD k [], j ∈ l
  done : ∀ m j, m < i → l[m]? = some j → lookL (f.blocks.getD j.toNat []) r ≠ 1 ∧ (lookL (f.blocks.getD j.toNat []) r = 0 → ∀ t ∈ (succsF f).getD j.toNat [], t ∈ l)
  le : i ≤ l.length
  few : l.length + missN f.blocks.length l ≤ f.blocks.length + 2
theorem NeedI.start {f : Fun} {r : Int} {k : Nat} (hl : ((succsF f).getD k []).length ≤ 2) : NeedI f r k ((succsF f).getD k []) 0 :=
  ⟨fun j h => .base h, fun j h => h, fun m j h => by omega, Nat.zero_le _, by have := missN_le f.blocks.length ((succsF f).getD k []); omega⟩
theorem NeedI.app {f : Fun} {r : Int} {k : Nat} {l : List Int} {i : Nat} {t : Int} (h : NeedI f r k l i) (hr : ReachN f r k t) (hn : t ∉ l) : NeedI f r k (l ++ [t]) i := by
  have hrg := hr.rng
  have hm := missN_app hrg.1 hrg.2 hn
  have hf := h.few
  have hle := h.le
  refine ⟨fun j hj => ?_, fun j hj => List.mem_append_left _ (h.base j hj), fun m j hm hj => ?_, by rw [List.length_append]; simp; omega, by rw [List.length_append, List.length_singleton]; omega⟩
  · rcases List.mem_append.1 hj with h2 | h2
    · exact h.all_ j h2
    · rw [List.mem_singleton.1 h2]; exact hr
  · rw [List.getElem?_append_left (by omega)] at hj
    have := h.done m j hm hj
    exact ⟨this.1, fun e u hu => List.mem_append_left _ (this.2 e u hu)⟩
theorem NeedI.next {f : Fun} {r : Int} {k : Nat} {l : List Int} {i : Nat} {j : Int} (h : NeedI f r k l i) (hj : l[i]? = some j) (h1 : lookL (f.blocks.getD j.toNat []) r ≠ 1) (h2 : lookL (f.blocks.getD j.toNat []) r = 0 → ∀ t ∈ (succsF f).getD j.toNat [], t ∈ l) : NeedI f r k l (i + 1) := by
  obtain ⟨hi, -⟩ := List.getElem?_eq_some_iff.1 hj
  refine ⟨h.all_, h.base, fun m u hm hu => ?_, hi, h.few⟩
  by_cases e : m = i
  · subst e
    rw [hj] at hu
    obtain rfl := Option.some.inj hu
    exact ⟨h1, h2⟩
  · exact h.done m u (by omega) hu
theorem NeedI.yes {f : Fun} {r : Int} {k : Nat} {l : List Int} {i : Nat} {j : Int} (h : NeedI f r k l i) (hj : l[i]? = some j) (h1 : lookL (f.blocks.getD j.toNat []) r = 1) : NeedO f k r :=
  ⟨j, h.all_ j (List.mem_of_getElem? hj), h1⟩
theorem NeedI.no {f : Fun} {r : Int} {k : Nat} {l : List Int} (h : NeedI f r k l l.length) : ¬ NeedO f k r := by
  have hin : ∀ j, ReachN f r k j → j ∈ l := by
    intro j hj
    induction hj with
    | base h0 => exact h.base _ h0
    | step h0 h1 h2 ih =>
      obtain ⟨m, hm⟩ := List.getElem?_of_mem ih
      obtain ⟨hm2, -⟩ := List.getElem?_eq_some_iff.1 hm
      exact (h.done m _ hm2 hm).2 h1 _ h2
  rintro ⟨j, hj, h1⟩
  obtain ⟨m, hm⟩ := List.getElem?_of_mem (hin j hj)
  obtain ⟨hm2, -⟩ := List.getElem?_eq_some_iff.1 hm
  exact (h.done m j hm2 hm).1 h1
end Go.Proofs.YtdgibhndjdgllaaDoor

/- Which registers are needed (the document's), by a contract. -/
namespace Go.Proofs.YtdgibhndjdgllaaDoor
open Go.Ax
set_option maxRecDepth 10000
set_option linter.unusedVariables false
set_option maxHeartbeats 0

theorem Needed12_spec (f : Fun) (h : LiveR f) (k a : Nat) (r : Int) (bk : List Ins) (gk : f.blocks[k]? = some bk) (ha : a ≤ 1000000000) : FnSpec Tryd.prog 12 [funA f, num k, num a, num r] (fun v => ∃ b, v = tru b ∧ (b = true ↔ NeedP f k a r)) := by
  have hbl := h.blocks
  obtain ⟨hk, hke⟩ := List.getElem?_eq_some_iff.1 gk
  have hbm : bk ∈ f.blocks := hke ▸ List.getElem_mem hk
  have hkd : f.blocks.getD k [] = bk := by rw [List.getD_eq_getElem?_getD, gk]; rfl
  have hlook := look31_spec bk a r (h.len bk hbm) ha (fun i hi => (h.arg bk hbm i hi).2)
  have hS := Succs_spec f h.fit (by omega)
  have hsl := succsF_len f
  have hsm := succsF_small f
  obtain ⟨sk, gs, hsm0⟩ := getK (l := succsF f) (k := k) (by omega)
  have hsd : (succsF f).getD k [] = sk := by rw [List.getD_eq_getElem?_getD, gs]; rfl
  have hskl : sk.length ≤ 2 := hsm sk hsm0
  have hI := Ints_spec sk (by omega)
  have hP : NeedP f k a r ↔ lookL (bk.drop a) r = 1 ∨ (lookL (bk.drop a) r = 0 ∧ NeedO f k r) := by unfold NeedP; rw [hkd]
  rcases lookL_cases (bk.drop a) r with hw | hw | hw
  · rw [hw] at hlook
    refine spec_of 32 Tryd.func12 rfl rfl ?_
    repeat' first | refine Pick.map gk ?_ | refine Call.eq hlook rfl ?_ | refine Call.eq hS rfl ?_ | refine Len.map ?_ | refine Len.nil ?_ | refine Len.cons ?_ | refine Br.t rfl ?_ | refine Br.f rfl ?_ | refine Fit.au ?_ | refine Cv.au ?_ | refine Need.ne ?_ | refine Need.au ?_ | refine Pick.map (by assumption) ?_ | refine Pick.mapI (by omega) (by assumption) ?_ | refine PickN.mk _ (by assumption) ?_ | refine PickN.mk _ rfl ?_ | refine PickN.au ?_ | refine App.au rfl ?_ | refine App.au (own_map (fun _ => rfl) _) ?_ | refine Both.mk ?_ ?_ | exact True.intro
    refine Stop.mk ?_
    refine run_frzR 1 rfl (fzLL_map fz_olsts _) ?_
    refine go 1000 Tryd.func12 ?_
    repeat' first | refine Pick.map gs ?_ | refine Call.eq hI rfl ?_ | refine Len.map ?_ | refine Len.nil ?_ | refine Len.cons ?_ | refine Br.t rfl ?_ | refine Br.f rfl ?_ | refine Fit.au ?_ | refine Cv.au ?_ | refine Need.ne ?_ | refine Need.au ?_ | refine Pick.map (by assumption) ?_ | refine Pick.mapI (by omega) (by assumption) ?_ | refine PickN.mk _ (by assumption) ?_ | refine PickN.mk _ rfl ?_ | refine PickN.au ?_ | refine App.au rfl ?_ | refine App.au (own_map (fun _ => rfl) _) ?_ | refine Both.mk ?_ ?_ | exact True.intro
    have h0 : NeedI f r k sk 0 := hsd ▸ NeedI.start (r := r) (by rw [hsd]; exact hskl)
    refine Stop.mk (loop_in (g := []) (fun q : List Int × Nat => [(3, num r), (4, .hp 0 0), (10, lsts (succsF f)), (11, .hw 2), (12, num q.2)]) (fun q => [(2, .row 1 (q.1.map int1)), (0, .var f.cs)]) 3 (fun q => NeedI f r k q.1 q.2) (fun q => 2 * missN f.blocks.length q.1 + (q.1.length - q.2)) (sk, 0) h0 ⟨rfl, (by repeat' first | exact trivial | refine ⟨rfl, ?_⟩ | refine ⟨congrArg (fun n => AV.lit (.int .i64 n)) (by omega), ?_⟩ | refine ⟨congrArg (fun l => some (Row.row 1 l)) (by simp [int1, num, tru]), ?_⟩), (by repeat' first | exact trivial | refine ⟨rfl, ?_⟩ | refine ⟨congrArg (fun n => AV.lit (.int .i64 n)) (by omega), ?_⟩ | refine ⟨congrArg (fun l => some (Row.row 1 l)) (by simp [int1, num, tru]), ?_⟩)⟩ ?_)
    rintro ⟨l, i⟩ hq ih
    dsimp only at hq ih ⊢
    have hfew := hq.few
    have hle := hq.le
    by_cases hi : i < l.length
    · obtain ⟨j, gj, hjm⟩ := getK (l := l) (k := i) hi
      have hjr := hq.all_ j hjm
      have hrg := hjr.rng
      obtain ⟨bj, gb, hbjm⟩ := getK (l := f.blocks) (k := j.toNat) hrg.2
      obtain ⟨sj, gsj, hsjm⟩ := getK (l := succsF f) (k := j.toNat) (by omega)
      have hsjl := hsm sj hsjm
      have ebj : f.blocks.getD j.toNat [] = bj := by rw [List.getD_eq_getElem?_getD, gb]; rfl
      have esj : (succsF f).getD j.toNat [] = sj := by rw [List.getD_eq_getElem?_getD, gsj]; rfl
      have hlj := look31_spec bj 0 r (h.len bj hbjm) (by omega) (fun i hi => (h.arg bj hbjm i hi).2)
      rw [List.drop_zero] at hlj
      by_cases hw1 : lookL bj r = 1
      · rw [hw1] at hlj
        refine go 1000 Tryd.func12 ?_
        repeat' first | (refine Br.t ?_ ?_; focus (simp; omega)) | refine Draw.mk (ordL [9] [0, 1, 2, 3, 4, 5, 6, 7, 8, 9, 10]) (by decide +kernel) ?_ | refine Need.mk ⟨by omega, by rw [List.length_map]; omega⟩ ?_ | refine PickN.map gj ?_ | refine Pick.mapI (by omega) gb ?_ | refine Call.eq hlj rfl ?_ | refine Len.map ?_ | refine Len.nil ?_ | refine Len.cons ?_ | refine Br.t rfl ?_ | refine Br.f rfl ?_ | refine Fit.au ?_ | refine Cv.au ?_ | refine Need.ne ?_ | refine Need.au ?_ | refine Pick.map (by assumption) ?_ | refine Pick.mapI (by omega) (by assumption) ?_ | refine PickN.mk _ (by assumption) ?_ | refine PickN.mk _ rfl ?_ | refine PickN.au ?_ | refine App.au rfl ?_ | refine App.au (own_map (fun _ => rfl) _) ?_ | refine Both.mk ?_ ?_ | exact True.intro
        all_goals exact ⟨true, rfl, fun _ => hP.2 (.inr ⟨hw, hq.yes gj (by rw [ebj]; exact hw1)⟩), fun _ => rfl⟩
      · refine go 1000 Tryd.func12 ?_
        repeat' first | (refine Br.t ?_ ?_; focus (simp; omega)) | (refine Br.f ?_ ?_; focus (simp; omega)) | refine Draw.mk (ordL [9] [0, 1, 2, 3, 4, 5, 6, 7, 8, 9, 10]) (by decide +kernel) ?_ | refine Need.mk ⟨by omega, by rw [List.length_map]; omega⟩ ?_ | refine PickN.map gj ?_ | refine Pick.mapI (by omega) gb ?_ | refine Call.eq hlj rfl ?_ | refine Len.map ?_ | refine Len.nil ?_ | refine Len.cons ?_ | refine Br.t rfl ?_ | refine Br.f rfl ?_ | refine Fit.au ?_ | refine Cv.au ?_ | refine Need.ne ?_ | refine Need.au ?_ | refine Pick.map (by assumption) ?_ | refine Pick.mapI (by omega) (by assumption) ?_ | refine PickN.mk _ (by assumption) ?_ | refine PickN.mk _ rfl ?_ | refine PickN.au ?_ | refine App.au rfl ?_ | refine App.au (own_map (fun _ => rfl) _) ?_ | refine Both.mk ?_ ?_ | exact True.intro
        have hlb := lookL_cases bj r
        refine Stop.mk (loop_in (g := []) (fun q : List Int × Nat => [(3, num r), (4, .hp 0 0), (9, num (lookL bj r)), (10, lsts (succsF f)), (11, .hw 2), (12, num i), (13, num q.2)]) (fun q => [(2, .row 1 (q.1.map int1)), (0, .var f.cs)]) 3
          (fun q => NeedI f r k q.1 i ∧ q.1[i]? = some j ∧ q.2 ≤ sj.length ∧ (∀ m t, m < q.2 → sj[m]? = some t → t ∈ q.1) ∧ 2 * missN f.blocks.length q.1 + q.1.length ≤ 2 * missN f.blocks.length l + l.length) (fun q => sj.length - q.2) (l, 0) ⟨hq, gj, Nat.zero_le _, fun m t hm => by omega, Nat.le_refl _⟩ ⟨rfl, (by repeat' first | exact trivial | refine ⟨rfl, ?_⟩ | refine ⟨congrArg (fun n => AV.lit (.int .i64 n)) (by omega), ?_⟩ | refine ⟨congrArg (fun l => some (Row.row 1 l)) (by simp [int1, num, tru]), ?_⟩), (by repeat' first | exact trivial | refine ⟨rfl, ?_⟩ | refine ⟨congrArg (fun n => AV.lit (.int .i64 n)) (by omega), ?_⟩ | refine ⟨congrArg (fun l => some (Row.row 1 l)) (by simp [int1, num, tru]), ?_⟩)⟩ ?_)
        rintro ⟨l2, q⟩ hq2 ih2
        dsimp only at hq2 ih2 ⊢
        obtain ⟨hn2, gj2, hqs, hin, hmu⟩ := hq2
        have hfew2 := hn2.few
        obtain ⟨hi2, -⟩ := List.getElem?_eq_some_iff.1 gj2
        by_cases hgo : q < sj.length ∧ lookL bj r = 0
        · obtain ⟨hq3, hw0⟩ := hgo
          obtain ⟨t, gt, htm⟩ := getK (l := sj) (k := q) hq3
          have hH := HasInt_spec l2 t (by omega)
          have hrt : ReachN f r k t := .step hjr (by rw [ebj]; exact hw0) (by rw [esj]; exact htm)
          refine go 1000 Tryd.func12 ?_
          repeat' first | (refine Br.t ?_ ?_; focus (first | (simp; omega) | (simp [hw0]; done))) | refine Need.mk ⟨by omega, by rw [List.length_map]; omega⟩ ?_ | refine PickN.map gj2 ?_ | refine Pick.mapI (by omega) gsj ?_ | refine Pick.map gt ?_ | refine Look.yes ?_ | refine View.map (fun _ => rfl) ?_ | refine CallV.eq hH rfl (Free.lit _) ?_ | refine Len.map ?_ | refine Len.nil ?_ | refine Len.cons ?_ | refine Br.t rfl ?_ | refine Br.f rfl ?_ | refine Fit.au ?_ | refine Cv.au ?_ | refine Need.ne ?_ | refine Need.au ?_ | refine Pick.map (by assumption) ?_ | refine Pick.mapI (by omega) (by assumption) ?_ | refine PickN.mk _ (by assumption) ?_ | refine PickN.mk _ rfl ?_ | refine PickN.au ?_ | refine App.au rfl ?_ | refine App.au (own_map (fun _ => rfl) _) ?_ | refine Both.mk ?_ ?_ | exact True.intro
          have hin2 : ∀ l3 : List Int, (∀ u ∈ l2, u ∈ l3) → t ∈ l3 → ∀ m u, m < q + 1 → sj[m]? = some u → u ∈ l3 := fun l3 h1 h2 m u hm hu => by
            by_cases e : m = q
            · subst e
              rw [gt] at hu
              obtain rfl := Option.some.inj hu
              exact h2
            · exact h1 u (hin m u (by omega) hu)
          by_cases htl : t ∈ l2
          · refine Br.f (by simp [htl]) ?_
            repeat' first | refine Len.map ?_ | refine Len.nil ?_ | refine Len.cons ?_ | refine Br.t rfl ?_ | refine Br.f rfl ?_ | refine Fit.au ?_ | refine Cv.au ?_ | refine Need.ne ?_ | refine Need.au ?_ | refine Pick.map (by assumption) ?_ | refine Pick.mapI (by omega) (by assumption) ?_ | refine PickN.mk _ (by assumption) ?_ | refine PickN.mk _ rfl ?_ | refine PickN.au ?_ | refine App.au rfl ?_ | refine App.au (own_map (fun _ => rfl) _) ?_ | refine Both.mk ?_ ?_ | exact True.intro
            exact Stop.mk (ih2 (l2, q + 1) (g := []) _ _ _ ⟨hn2, gj2, by dsimp only; omega, hin2 l2 (fun _ h => h) htl, hmu⟩ (by dsimp only; omega) ⟨rfl, (by repeat' first | exact trivial | refine ⟨rfl, ?_⟩ | refine ⟨congrArg (fun n => AV.lit (.int .i64 n)) (by omega), ?_⟩ | refine ⟨congrArg (fun l => some (Row.row 1 l)) (by simp [int1, num, tru]), ?_⟩), (by repeat' first | exact trivial | refine ⟨rfl, ?_⟩ | refine ⟨congrArg (fun n => AV.lit (.int .i64 n)) (by omega), ?_⟩ | refine ⟨congrArg (fun l => some (Row.row 1 l)) (by simp [int1, num, tru]), ?_⟩)⟩)
          · have hm3 := missN_app hrt.rng.1 hrt.rng.2 htl
            refine Br.t (by simp [htl]) ?_
            repeat' first | refine Need.mk ⟨by omega, by rw [List.length_map]; omega⟩ ?_ | refine PickN.map gj2 ?_ | refine Pick.mapI (by omega) gsj ?_ | refine Pick.map gt ?_ | refine Len.map ?_ | refine Len.nil ?_ | refine Len.cons ?_ | refine Br.t rfl ?_ | refine Br.f rfl ?_ | refine Fit.au ?_ | refine Cv.au ?_ | refine Need.ne ?_ | refine Need.au ?_ | refine Pick.map (by assumption) ?_ | refine Pick.mapI (by omega) (by assumption) ?_ | refine PickN.mk _ (by assumption) ?_ | refine PickN.mk _ rfl ?_ | refine PickN.au ?_ | refine App.au rfl ?_ | refine App.au (own_map (fun _ => rfl) _) ?_ | refine Both.mk ?_ ?_ | exact True.intro
            exact Stop.mk (ih2 (l2 ++ [t], q + 1) (g := [(2, 4)]) _ _ _ ⟨hn2.app hrt htl, by rw [List.getElem?_append_left hi2]; exact gj2, by dsimp only; omega, hin2 _ (fun _ h => List.mem_append_left _ h) (List.mem_append_right _ (List.mem_singleton.2 rfl)), by dsimp only; rw [List.length_append, List.length_singleton]; omega⟩ (by dsimp only; omega) ⟨rfl, (by repeat' first | exact trivial | refine ⟨rfl, ?_⟩ | refine ⟨congrArg (fun n => AV.lit (.int .i64 n)) (by omega), ?_⟩ | refine ⟨congrArg (fun l => some (Row.row 1 l)) (by simp [int1, num, tru]), ?_⟩), (by repeat' first | exact trivial | refine ⟨rfl, ?_⟩ | refine ⟨congrArg (fun n => AV.lit (.int .i64 n)) (by omega), ?_⟩ | refine ⟨congrArg (fun l => some (Row.row 1 l)) (by simp [int1, num, tru]), ?_⟩)⟩)
        · refine go 1000 Tryd.func12 ?_
          have hnx : lookL (f.blocks.getD j.toNat []) r = 0 → ∀ u ∈ (succsF f).getD j.toNat [], u ∈ l2 := fun e u hu => by
            rw [ebj] at e
            rw [esj] at hu
            obtain ⟨m, hm⟩ := List.getElem?_of_mem hu
            obtain ⟨hm2, -⟩ := List.getElem?_eq_some_iff.1 hm
            exact hin m u (by have : ¬ q < sj.length := fun h => hgo ⟨h, e⟩; omega) hm
          have hI2 := hn2.next gj2 (by rw [ebj]; exact hw1) hnx
          by_cases hq3 : q < sj.length
          · have hw0 : ¬ lookL bj r = 0 := fun e => hgo ⟨hq3, e⟩
            repeat' first | (refine Br.t ?_ ?_; focus (simp; omega)) | (refine Br.f ?_ ?_; focus (simp [hw0]; done)) | refine Need.mk ⟨by omega, by rw [List.length_map]; omega⟩ ?_ | refine PickN.map gj2 ?_ | refine Pick.mapI (by omega) gsj ?_ | refine Len.map ?_ | refine Len.nil ?_ | refine Len.cons ?_ | refine Br.t rfl ?_ | refine Br.f rfl ?_ | refine Fit.au ?_ | refine Cv.au ?_ | refine Need.ne ?_ | refine Need.au ?_ | refine Pick.map (by assumption) ?_ | refine Pick.mapI (by omega) (by assumption) ?_ | refine PickN.mk _ (by assumption) ?_ | refine PickN.mk _ rfl ?_ | refine PickN.au ?_ | refine App.au rfl ?_ | refine App.au (own_map (fun _ => rfl) _) ?_ | refine Both.mk ?_ ?_ | exact True.intro
            exact Stop.mk (ih (l2, i + 1) (g := []) _ _ _ hI2 (by dsimp only; omega) ⟨rfl, (by repeat' first | exact trivial | refine ⟨rfl, ?_⟩ | refine ⟨congrArg (fun n => AV.lit (.int .i64 n)) (by omega), ?_⟩ | refine ⟨congrArg (fun l => some (Row.row 1 l)) (by simp [int1, num, tru]), ?_⟩), (by repeat' first | exact trivial | refine ⟨rfl, ?_⟩ | refine ⟨congrArg (fun n => AV.lit (.int .i64 n)) (by omega), ?_⟩ | refine ⟨congrArg (fun l => some (Row.row 1 l)) (by simp [int1, num, tru]), ?_⟩)⟩)
          · repeat' first | (refine Br.f ?_ ?_; focus (simp; omega)) | refine Need.mk ⟨by omega, by rw [List.length_map]; omega⟩ ?_ | refine PickN.map gj2 ?_ | refine Pick.mapI (by omega) gsj ?_ | refine Len.map ?_ | refine Len.nil ?_ | refine Len.cons ?_ | refine Br.t rfl ?_ | refine Br.f rfl ?_ | refine Fit.au ?_ | refine Cv.au ?_ | refine Need.ne ?_ | refine Need.au ?_ | refine Pick.map (by assumption) ?_ | refine Pick.mapI (by omega) (by assumption) ?_ | refine PickN.mk _ (by assumption) ?_ | refine PickN.mk _ rfl ?_ | refine PickN.au ?_ | refine App.au rfl ?_ | refine App.au (own_map (fun _ => rfl) _) ?_ | refine Both.mk ?_ ?_ | exact True.intro
            exact Stop.mk (ih (l2, i + 1) (g := []) _ _ _ hI2 (by dsimp only; omega) ⟨rfl, (by repeat' first | exact trivial | refine ⟨rfl, ?_⟩ | refine ⟨congrArg (fun n => AV.lit (.int .i64 n)) (by omega), ?_⟩ | refine ⟨congrArg (fun l => some (Row.row 1 l)) (by simp [int1, num, tru]), ?_⟩), (by repeat' first | exact trivial | refine ⟨rfl, ?_⟩ | refine ⟨congrArg (fun n => AV.lit (.int .i64 n)) (by omega), ?_⟩ | refine ⟨congrArg (fun l => some (Row.row 1 l)) (by simp [int1, num, tru]), ?_⟩)⟩)
    · have e : i = l.length := by omega
      subst e
      refine go 1000 Tryd.func12 ?_
      repeat' first | (refine Br.f ?_ ?_; focus (simp; done)) | refine Len.map ?_ | refine Len.nil ?_ | refine Len.cons ?_ | refine Br.t rfl ?_ | refine Br.f rfl ?_ | refine Fit.au ?_ | refine Cv.au ?_ | refine Need.ne ?_ | refine Need.au ?_ | refine Pick.map (by assumption) ?_ | refine Pick.mapI (by omega) (by assumption) ?_ | refine PickN.mk _ (by assumption) ?_ | refine PickN.mk _ rfl ?_ | refine PickN.au ?_ | refine App.au rfl ?_ | refine App.au (own_map (fun _ => rfl) _) ?_ | refine Both.mk ?_ ?_ | exact True.intro
      refine ⟨false, rfl, fun e => (by cases e), fun e => ?_⟩
      rcases hP.1 e with e | e
      · omega
      · exact absurd e.2 hq.no
  · rw [hw] at hlook
    refine spec_of 1000 Tryd.func12 rfl rfl ?_
    repeat' first | refine Pick.map gk ?_ | refine Call.eq hlook rfl ?_ | refine Len.map ?_ | refine Len.nil ?_ | refine Len.cons ?_ | refine Br.t rfl ?_ | refine Br.f rfl ?_ | refine Fit.au ?_ | refine Cv.au ?_ | refine Need.ne ?_ | refine Need.au ?_ | refine Pick.map (by assumption) ?_ | refine Pick.mapI (by omega) (by assumption) ?_ | refine PickN.mk _ (by assumption) ?_ | refine PickN.mk _ rfl ?_ | refine PickN.au ?_ | refine App.au rfl ?_ | refine App.au (own_map (fun _ => rfl) _) ?_ | refine Both.mk ?_ ?_ | exact True.intro
    exact ⟨true, rfl, by rw [hP, hw]; simp⟩
  · rw [hw] at hlook
    refine spec_of 1000 Tryd.func12 rfl rfl ?_
    repeat' first | refine Pick.map gk ?_ | refine Call.eq hlook rfl ?_ | refine Len.map ?_ | refine Len.nil ?_ | refine Len.cons ?_ | refine Br.t rfl ?_ | refine Br.f rfl ?_ | refine Fit.au ?_ | refine Cv.au ?_ | refine Need.ne ?_ | refine Need.au ?_ | refine Pick.map (by assumption) ?_ | refine Pick.mapI (by omega) (by assumption) ?_ | refine PickN.mk _ (by assumption) ?_ | refine PickN.mk _ rfl ?_ | refine PickN.au ?_ | refine App.au rfl ?_ | refine App.au (own_map (fun _ => rfl) _) ?_ | refine Both.mk ?_ ?_ | exact True.intro
    exact ⟨false, rfl, by rw [hP, hw]; simp⟩
end Go.Proofs.YtdgibhndjdgllaaDoor

/- What a name has, what an instruction reads, by contracts. -/
namespace Go.Proofs.YtdgibhndjdgllaaDoor
open Go.Ax
set_option maxRecDepth 10000
set_option linter.unusedVariables false

theorem has34_spec (f : Fun) (reg block at_ : Int) (hf : f.fits) (hn : f.blocks.length ≤ 1000000) : FnSpec Tryd.prog 113 [funA f, num reg, num block, num at_] (fun r => ∃ v, r = tru v ∧ (v = true ↔ HasP f reg block at_)) := by
  refine spec_of 1000 Tryd.func113 rfl rfl ?_
  repeat' first | refine Len.map ?_ | refine Len.nil ?_ | refine Len.cons ?_ | refine Br.t rfl ?_ | refine Br.f rfl ?_ | refine Fit.au ?_ | refine Cv.au ?_ | refine Need.ne ?_ | refine Need.au ?_ | refine Pick.map (by assumption) ?_ | refine Pick.mapI (by omega) (by assumption) ?_ | refine PickN.mk _ (by assumption) ?_ | refine PickN.mk _ rfl ?_ | refine PickN.au ?_ | refine App.au rfl ?_ | refine App.au (own_map (fun _ => rfl) _) ?_ | refine Both.mk ?_ ?_ | exact True.intro
  refine Br.d (fun h1 => ?_) (fun h1 => ?_)
  · repeat' first | refine Len.map ?_ | refine Len.nil ?_ | refine Len.cons ?_ | refine Br.t rfl ?_ | refine Br.f rfl ?_ | refine Fit.au ?_ | refine Cv.au ?_ | refine Need.ne ?_ | refine Need.au ?_ | refine Pick.map (by assumption) ?_ | refine Pick.mapI (by omega) (by assumption) ?_ | refine PickN.mk _ (by assumption) ?_ | refine PickN.mk _ rfl ?_ | refine PickN.au ?_ | refine App.au rfl ?_ | refine App.au (own_map (fun _ => rfl) _) ?_ | refine Both.mk ?_ ?_ | exact True.intro
    exact ⟨true, rfl, ⟨fun _ => .inl h1, fun _ => rfl⟩⟩
  repeat' first | refine Len.map ?_ | refine Len.nil ?_ | refine Len.cons ?_ | refine Br.t rfl ?_ | refine Br.f rfl ?_ | refine Fit.au ?_ | refine Cv.au ?_ | refine Need.ne ?_ | refine Need.au ?_ | refine Pick.map (by assumption) ?_ | refine Pick.mapI (by omega) (by assumption) ?_ | refine PickN.mk _ (by assumption) ?_ | refine PickN.mk _ rfl ?_ | refine PickN.au ?_ | refine App.au rfl ?_ | refine App.au (own_map (fun _ => rfl) _) ?_ | refine Both.mk ?_ ?_ | exact True.intro
  refine Call.of (Writer34_spec f reg hf hn) ?_
  rintro r ⟨k, i, v, rfl, hw⟩
  refine ⟨rfl, ?_⟩
  repeat' first | refine Len.map ?_ | refine Len.nil ?_ | refine Len.cons ?_ | refine Br.t rfl ?_ | refine Br.f rfl ?_ | refine Fit.au ?_ | refine Cv.au ?_ | refine Need.ne ?_ | refine Need.au ?_ | refine Pick.map (by assumption) ?_ | refine Pick.mapI (by omega) (by assumption) ?_ | refine PickN.mk _ (by assumption) ?_ | refine PickN.mk _ rfl ?_ | refine PickN.au ?_ | refine App.au rfl ?_ | refine App.au (own_map (fun _ => rfl) _) ?_ | refine Both.mk ?_ ?_ | exact True.intro
  refine Br.mk (fun h2 => ?_) (fun h2 => ?_)
  · have h2 : v = false := by simpa using h2
    subst h2
    repeat' first | refine Len.map ?_ | refine Len.nil ?_ | refine Len.cons ?_ | refine Br.t rfl ?_ | refine Br.f rfl ?_ | refine Fit.au ?_ | refine Cv.au ?_ | refine Need.ne ?_ | refine Need.au ?_ | refine Pick.map (by assumption) ?_ | refine Pick.mapI (by omega) (by assumption) ?_ | refine PickN.mk _ (by assumption) ?_ | refine PickN.mk _ rfl ?_ | refine PickN.au ?_ | refine App.au rfl ?_ | refine App.au (own_map (fun _ => rfl) _) ?_ | refine Both.mk ?_ ?_ | exact True.intro
    exact ⟨false, rfl, ⟨fun h => (by cases h), fun h => absurd h (HasP.no h1 hw)⟩⟩
  have h2 : v = true := by simpa using h2
  subst h2
  have e := HasP.of (block := block) (at_ := at_) h1 hw
  repeat' first | refine Len.map ?_ | refine Len.nil ?_ | refine Len.cons ?_ | refine Br.t rfl ?_ | refine Br.f rfl ?_ | refine Fit.au ?_ | refine Cv.au ?_ | refine Need.ne ?_ | refine Need.au ?_ | refine Pick.map (by assumption) ?_ | refine Pick.mapI (by omega) (by assumption) ?_ | refine PickN.mk _ (by assumption) ?_ | refine PickN.mk _ rfl ?_ | refine PickN.au ?_ | refine App.au rfl ?_ | refine App.au (own_map (fun _ => rfl) _) ?_ | refine Both.mk ?_ ?_ | exact True.intro
  refine Br.d (fun h3 => ?_) (fun h3 => ?_)
  · repeat' first | refine Len.map ?_ | refine Len.nil ?_ | refine Len.cons ?_ | refine Br.t rfl ?_ | refine Br.f rfl ?_ | refine Fit.au ?_ | refine Cv.au ?_ | refine Need.ne ?_ | refine Need.au ?_ | refine Pick.map (by assumption) ?_ | refine Pick.mapI (by omega) (by assumption) ?_ | refine PickN.mk _ (by assumption) ?_ | refine PickN.mk _ rfl ?_ | refine PickN.au ?_ | refine App.au rfl ?_ | refine App.au (own_map (fun _ => rfl) _) ?_ | refine Both.mk ?_ ?_ | exact True.intro
    refine ⟨_, rfl, ?_⟩
    rw [e]; simp [h3]
  · repeat' first | refine Len.map ?_ | refine Len.nil ?_ | refine Len.cons ?_ | refine Br.t rfl ?_ | refine Br.f rfl ?_ | refine Fit.au ?_ | refine Cv.au ?_ | refine Need.ne ?_ | refine Need.au ?_ | refine Pick.map (by assumption) ?_ | refine Pick.mapI (by omega) (by assumption) ?_ | refine PickN.mk _ (by assumption) ?_ | refine PickN.mk _ rfl ?_ | refine PickN.au ?_ | refine App.au rfl ?_ | refine App.au (own_map (fun _ => rfl) _) ?_ | refine Both.mk ?_ ?_ | exact True.intro
    refine Call.of (Dominates_spec f k block hf hn) ?_
    rintro r ⟨b, rfl, hb⟩
    refine ⟨rfl, ?_⟩
    repeat' first | refine Len.map ?_ | refine Len.nil ?_ | refine Len.cons ?_ | refine Br.t rfl ?_ | refine Br.f rfl ?_ | refine Fit.au ?_ | refine Cv.au ?_ | refine Need.ne ?_ | refine Need.au ?_ | refine Pick.map (by assumption) ?_ | refine Pick.mapI (by omega) (by assumption) ?_ | refine PickN.mk _ (by assumption) ?_ | refine PickN.mk _ rfl ?_ | refine PickN.au ?_ | refine App.au rfl ?_ | refine App.au (own_map (fun _ => rfl) _) ?_ | refine Both.mk ?_ ?_ | exact True.intro
    refine ⟨b, rfl, ?_⟩
    rw [e, hb]; simp [h3]

theorem reads34_spec (f : Fun) (k j : Nat) (b : List Ins) (i : Ins) (gb : f.blocks[k]? = some b) (gi : b[j]? = some i) (hf : f.fits) (hn : f.blocks.length ≤ 1000000) (ha : ∀ b ∈ f.blocks, ∀ i ∈ b, i.args.length ≤ 1000000) (hu : i.op = 44 → (usesF i).length ≤ (predOf (succsF f) k (succsF f).length).length) :
    FnSpec Tryd.prog 96 [funA f, num k, num j] (fun r => ∃ v, r = tru v ∧ (v = true → i.op ≠ 44 → ∀ u ∈ usesF i, HasP f u k j)) := by
  have gm := List.mem_of_getElem? gb
  have gim := List.mem_of_getElem? gi
  have hai := ha b gm i gim
  have hul := usesF_len i
  have hkn := (List.getElem?_eq_some_iff.1 gb).1
  have hjn := (List.getElem?_eq_some_iff.1 gi).1
  have hbn := hf.2.2 b gm
  have gp : (predsF (succsF f))[k]? = some (predOf (succsF f) k (succsF f).length) := by
    unfold predsF
    rw [List.getElem?_map, List.getElem?_range (by rw [succsF_len]; exact hkn)]; rfl
  refine spec_of 24 Tryd.func96 rfl rfl ?_
  repeat' first | refine Call.eq (Uses_spec i hai) rfl ?_ | refine Len.map ?_ | refine Len.nil ?_ | refine Len.cons ?_ | refine Br.t rfl ?_ | refine Br.f rfl ?_ | refine Fit.au ?_ | refine Cv.au ?_ | refine Need.ne ?_ | refine Need.au ?_ | refine Pick.map (by assumption) ?_ | refine Pick.mapI (by omega) (by assumption) ?_ | refine PickN.mk _ (by assumption) ?_ | refine PickN.mk _ rfl ?_ | refine PickN.au ?_ | refine App.au rfl ?_ | refine App.au (own_map (fun _ => rfl) _) ?_ | refine Both.mk ?_ ?_ | exact True.intro
  refine Stop.mk (go 4 Tryd.func96 ?_)
  repeat' first | refine Call.eq (Preds_spec f hf hn) rfl ?_ | refine Len.map ?_ | refine Len.nil ?_ | refine Len.cons ?_ | refine Br.t rfl ?_ | refine Br.f rfl ?_ | refine Fit.au ?_ | refine Cv.au ?_ | refine Need.ne ?_ | refine Need.au ?_ | refine Pick.map (by assumption) ?_ | refine Pick.mapI (by omega) (by assumption) ?_ | refine PickN.mk _ (by assumption) ?_ | refine PickN.mk _ rfl ?_ | refine PickN.au ?_ | refine App.au rfl ?_ | refine App.au (own_map (fun _ => rfl) _) ?_ | refine Both.mk ?_ ?_ | exact True.intro
  refine Stop.mk (run_frzR 3 rfl (fzLL_map fz_olsts _) ?_)
  refine go 1000 Tryd.func96 ?_
  repeat' first | refine Len.map ?_ | refine Len.nil ?_ | refine Len.cons ?_ | refine Br.t rfl ?_ | refine Br.f rfl ?_ | refine Fit.au ?_ | refine Cv.au ?_ | refine Need.ne ?_ | refine Need.au ?_ | refine Pick.map (by assumption) ?_ | refine Pick.mapI (by omega) (by assumption) ?_ | refine PickN.mk _ (by assumption) ?_ | refine PickN.mk _ rfl ?_ | refine PickN.au ?_ | refine App.au rfl ?_ | refine App.au (own_map (fun _ => rfl) _) ?_ | refine Both.mk ?_ ?_ | exact True.intro
  refine Stop.mk (loop_in (fun m : Nat => [(3, .hp 0 0), (1, num k), (2, num j), (7, .hp 1 0), (8, .hw 2), (9, ints (predOf (succsF f) k (succsF f).length)), (10, num m)]) (fun _ => [(0, .var f.cs), (1, .var i.cs), (2, .row 1 ((usesF i).map int1))]) 3 (fun m => m ≤ (usesF i).length ∧ (i.op ≠ 44 → ∀ u ∈ (usesF i).take m, HasP f u k j)) (fun m => (usesF i).length - m) 0 ⟨by omega, by simp⟩ (g := []) ⟨rfl, (by repeat' first | exact trivial | refine ⟨rfl, ?_⟩ | refine ⟨congrArg (fun n => AV.lit (.int .i64 n)) (by omega), ?_⟩ | refine ⟨congrArg (fun l => some (Row.row 1 l)) (by simp [int1, num, tru]), ?_⟩), (by repeat' first | exact trivial | refine ⟨rfl, ?_⟩ | refine ⟨congrArg (fun n => AV.lit (.int .i64 n)) (by omega), ?_⟩ | refine ⟨congrArg (fun l => some (Row.row 1 l)) (by simp [int1, num, tru]), ?_⟩)⟩ (fun m hm ih => ?_))
  obtain ⟨hm, hw⟩ := hm
  refine go 1000 Tryd.func96 ?_
  repeat' first | refine Len.map ?_ | refine Len.nil ?_ | refine Len.cons ?_ | refine Br.t rfl ?_ | refine Br.f rfl ?_ | refine Fit.au ?_ | refine Cv.au ?_ | refine Need.ne ?_ | refine Need.au ?_ | refine Pick.map (by assumption) ?_ | refine Pick.mapI (by omega) (by assumption) ?_ | refine PickN.mk _ (by assumption) ?_ | refine PickN.mk _ rfl ?_ | refine PickN.au ?_ | refine App.au rfl ?_ | refine App.au (own_map (fun _ => rfl) _) ?_ | refine Both.mk ?_ ?_ | exact True.intro
  refine Br.d (fun h2 => ?_) (fun h2 => ?_)
  · obtain ⟨u, gu, gum⟩ := getK (l := usesF i) (k := m) (by omega)
    repeat' first | refine Draw.mk (ordL [22, 37] [0, 1, 2, 3, 4, 5, 6, 7, 8, 9, 10, 11, 12, 13, 14, 15, 16, 17, 18, 19, 20, 21, 22, 23, 24, 25, 26, 27, 28, 29, 30, 31, 32, 33, 34, 35, 36, 37, 38, 39, 40]) (by decide +kernel) ?_ | refine Len.map ?_ | refine Len.nil ?_ | refine Len.cons ?_ | refine Br.t rfl ?_ | refine Br.f rfl ?_ | refine Fit.au ?_ | refine Cv.au ?_ | refine Need.ne ?_ | refine Need.au ?_ | refine Pick.map (by assumption) ?_ | refine Pick.mapI (by omega) (by assumption) ?_ | refine PickN.mk _ (by assumption) ?_ | refine PickN.mk _ rfl ?_ | refine PickN.au ?_ | refine App.au rfl ?_ | refine App.au (own_map (fun _ => rfl) _) ?_ | refine Both.mk ?_ ?_ | exact True.intro
    refine Br.d (fun h3 => ?_) (fun h3 => ?_)
    · obtain ⟨p, gpp, gpm⟩ := getK (l := predOf (succsF f) k (succsF f).length) (k := m) (by have := hu h3; omega)
      have hpl := predOf_lt gpm
      rw [succsF_len] at hpl
      obtain ⟨bp, gbp, gbm⟩ := getK (l := f.blocks) (k := p.toNat) (by omega)
      repeat' first | refine Len.map ?_ | refine Len.nil ?_ | refine Len.cons ?_ | refine Br.t rfl ?_ | refine Br.f rfl ?_ | refine Fit.au ?_ | refine Cv.au ?_ | refine Need.ne ?_ | refine Need.au ?_ | refine Pick.map (by assumption) ?_ | refine Pick.mapI (by omega) (by assumption) ?_ | refine PickN.mk _ (by assumption) ?_ | refine PickN.mk _ rfl ?_ | refine PickN.au ?_ | refine App.au rfl ?_ | refine App.au (own_map (fun _ => rfl) _) ?_ | refine Both.mk ?_ ?_ | exact True.intro
      refine Call.of (has34_spec f u p bp.length hf hn) ?_
      rintro r ⟨v, rfl, hv⟩
      refine ⟨rfl, ?_⟩
      repeat' first | refine Len.map ?_ | refine Len.nil ?_ | refine Len.cons ?_ | refine Br.t rfl ?_ | refine Br.f rfl ?_ | refine Fit.au ?_ | refine Cv.au ?_ | refine Need.ne ?_ | refine Need.au ?_ | refine Pick.map (by assumption) ?_ | refine Pick.mapI (by omega) (by assumption) ?_ | refine PickN.mk _ (by assumption) ?_ | refine PickN.mk _ rfl ?_ | refine PickN.au ?_ | refine App.au rfl ?_ | refine App.au (own_map (fun _ => rfl) _) ?_ | refine Both.mk ?_ ?_ | exact True.intro | refine Br.d (fun h => ?_) (fun h => ?_) | refine Br.nd (fun h => ?_) (fun h => ?_) | refine Br.mk (fun h => ?_) (fun h => ?_)
      all_goals first
        | exact ⟨false, rfl, fun h => (by cases h)⟩
        | exact absurd h3 (by assumption)
        | refine Stop.mk (ih (m + 1) (g := []) _ _ _ ⟨by omega, fun h => absurd h3 h⟩ (by omega) ⟨rfl, (by repeat' first | exact trivial | refine ⟨rfl, ?_⟩ | refine ⟨congrArg (fun n => AV.lit (.int .i64 n)) (by omega), ?_⟩ | refine ⟨congrArg (fun l => some (Row.row 1 l)) (by simp [int1, num, tru]), ?_⟩), (by repeat' first | exact trivial | refine ⟨rfl, ?_⟩ | refine ⟨congrArg (fun n => AV.lit (.int .i64 n)) (by omega), ?_⟩ | refine ⟨congrArg (fun l => some (Row.row 1 l)) (by simp [int1, num, tru]), ?_⟩)⟩)
    · repeat' first | refine Len.map ?_ | refine Len.nil ?_ | refine Len.cons ?_ | refine Br.t rfl ?_ | refine Br.f rfl ?_ | refine Fit.au ?_ | refine Cv.au ?_ | refine Need.ne ?_ | refine Need.au ?_ | refine Pick.map (by assumption) ?_ | refine Pick.mapI (by omega) (by assumption) ?_ | refine PickN.mk _ (by assumption) ?_ | refine PickN.mk _ rfl ?_ | refine PickN.au ?_ | refine App.au rfl ?_ | refine App.au (own_map (fun _ => rfl) _) ?_ | refine Both.mk ?_ ?_ | exact True.intro
      refine Br.nd (fun h4 => ?_) (fun h4 => absurd h4 h3)
      repeat' first | refine Len.map ?_ | refine Len.nil ?_ | refine Len.cons ?_ | refine Br.t rfl ?_ | refine Br.f rfl ?_ | refine Fit.au ?_ | refine Cv.au ?_ | refine Need.ne ?_ | refine Need.au ?_ | refine Pick.map (by assumption) ?_ | refine Pick.mapI (by omega) (by assumption) ?_ | refine PickN.mk _ (by assumption) ?_ | refine PickN.mk _ rfl ?_ | refine PickN.au ?_ | refine App.au rfl ?_ | refine App.au (own_map (fun _ => rfl) _) ?_ | refine Both.mk ?_ ?_ | exact True.intro
      refine Call.of (has34_spec f u k j hf hn) ?_
      rintro r ⟨v, rfl, hv⟩
      refine ⟨rfl, ?_⟩
      repeat' first | refine Len.map ?_ | refine Len.nil ?_ | refine Len.cons ?_ | refine Br.t rfl ?_ | refine Br.f rfl ?_ | refine Fit.au ?_ | refine Cv.au ?_ | refine Need.ne ?_ | refine Need.au ?_ | refine Pick.map (by assumption) ?_ | refine Pick.mapI (by omega) (by assumption) ?_ | refine PickN.mk _ (by assumption) ?_ | refine PickN.mk _ rfl ?_ | refine PickN.au ?_ | refine App.au rfl ?_ | refine App.au (own_map (fun _ => rfl) _) ?_ | refine Both.mk ?_ ?_ | exact True.intro | refine Br.d (fun h => ?_) (fun h => ?_) | refine Br.nd (fun h => ?_) (fun h => ?_) | refine Br.mk (fun h => ?_) (fun h => ?_)
      · exact ⟨false, rfl, fun h => (by cases h)⟩
      · refine Stop.mk (ih (m + 1) (g := []) _ _ _ ⟨by omega, fun h => all_take_succ gu (hw h) (hv.1 (by simpa using ‹(!v) = false›))⟩ (by omega) ⟨rfl, (by repeat' first | exact trivial | refine ⟨rfl, ?_⟩ | refine ⟨congrArg (fun n => AV.lit (.int .i64 n)) (by omega), ?_⟩ | refine ⟨congrArg (fun l => some (Row.row 1 l)) (by simp [int1, num, tru]), ?_⟩), (by repeat' first | exact trivial | refine ⟨rfl, ?_⟩ | refine ⟨congrArg (fun n => AV.lit (.int .i64 n)) (by omega), ?_⟩ | refine ⟨congrArg (fun l => some (Row.row 1 l)) (by simp [int1, num, tru]), ?_⟩)⟩)
  · repeat' first | refine Len.map ?_ | refine Len.nil ?_ | refine Len.cons ?_ | refine Br.t rfl ?_ | refine Br.f rfl ?_ | refine Fit.au ?_ | refine Cv.au ?_ | refine Need.ne ?_ | refine Need.au ?_ | refine Pick.map (by assumption) ?_ | refine Pick.mapI (by omega) (by assumption) ?_ | refine PickN.mk _ (by assumption) ?_ | refine PickN.mk _ rfl ?_ | refine PickN.au ?_ | refine App.au rfl ?_ | refine App.au (own_map (fun _ => rfl) _) ?_ | refine Both.mk ?_ ?_ | exact True.intro
    rw [take_all (by omega)] at hw
    exact ⟨true, rfl, fun _ => hw⟩
end Go.Proofs.YtdgibhndjdgllaaDoor

/- The check of programs: how many go to a block, how an instruction stands, by contracts. -/
namespace Go.Proofs.YtdgibhndjdgllaaDoor
open Go.Ax
set_option maxRecDepth 10000
set_option linter.unusedVariables false

theorem Preds16_spec (f : Fun) (block : Int) (hf : f.fits) : FnSpec Tryd.prog 111 [funA f, num block] (fun r => r = num (predCount f block)) := by
  have hf1 := hf.1
  refine spec_of 1000 Tryd.func111 rfl rfl ?_
  repeat' first | refine Len.map ?_ | refine Len.nil ?_ | refine Len.cons ?_ | refine Br.t rfl ?_ | refine Br.f rfl ?_ | refine Fit.au ?_ | refine Cv.au ?_ | refine Need.ne ?_ | refine Need.au ?_ | refine Pick.map (by assumption) ?_ | refine Pick.mapI (by omega) (by assumption) ?_ | refine PickN.mk _ (by assumption) ?_ | refine PickN.mk _ rfl ?_ | refine PickN.au ?_ | refine App.au rfl ?_ | refine App.au (own_map (fun _ => rfl) _) ?_ | refine Both.mk ?_ ?_ | exact True.intro
  refine Stop.mk (loop_in (fun k : Nat => [(2, .hp 0 0), (1, num block), (5, num ((f.blocks.take k).countP (goesTo block))), (6, num k)]) (fun k => [(0, .var f.cs)]) 1 (fun k => k ≤ f.blocks.length) (fun k => f.blocks.length - k) 0 (by omega) (g := []) ⟨rfl, (by repeat' first | exact trivial | refine ⟨rfl, ?_⟩ | refine ⟨congrArg (fun n => AV.lit (.int .i64 n)) (by omega), ?_⟩ | refine ⟨congrArg (fun l => some (Row.row 1 l)) (by simp [int1, num, tru]), ?_⟩), (by repeat' first | exact trivial | refine ⟨rfl, ?_⟩ | refine ⟨congrArg (fun n => AV.lit (.int .i64 n)) (by omega), ?_⟩ | refine ⟨congrArg (fun l => some (Row.row 1 l)) (by simp [int1, num, tru]), ?_⟩)⟩ (fun k hk ih => ?_))
  have hc := countP_take_le (l := f.blocks) (k := k) (p := goesTo block)
  refine go 1000 Tryd.func111 ?_
  repeat' first | refine Len.map ?_ | refine Len.nil ?_ | refine Len.cons ?_ | refine Br.t rfl ?_ | refine Br.f rfl ?_ | refine Fit.au ?_ | refine Cv.au ?_ | refine Need.ne ?_ | refine Need.au ?_ | refine Pick.map (by assumption) ?_ | refine Pick.mapI (by omega) (by assumption) ?_ | refine PickN.mk _ (by assumption) ?_ | refine PickN.mk _ rfl ?_ | refine PickN.au ?_ | refine App.au rfl ?_ | refine App.au (own_map (fun _ => rfl) _) ?_ | refine Both.mk ?_ ?_ | exact True.intro
  refine Br.d (fun h2 => ?_) (fun h2 => ?_)
  · obtain ⟨b, gb, gm⟩ := getK (l := f.blocks) (k := k) (by omega)
    obtain ⟨hb1, hb2⟩ := hf.2.2 b gm
    have e1 := countP_take_succ (p := goesTo block) gb
    repeat' first | refine Len.map ?_ | refine Len.nil ?_ | refine Len.cons ?_ | refine Br.t rfl ?_ | refine Br.f rfl ?_ | refine Fit.au ?_ | refine Cv.au ?_ | refine Need.ne ?_ | refine Need.au ?_ | refine Pick.map (by assumption) ?_ | refine Pick.mapI (by omega) (by assumption) ?_ | refine PickN.mk _ (by assumption) ?_ | refine PickN.mk _ rfl ?_ | refine PickN.au ?_ | refine App.au rfl ?_ | refine App.au (own_map (fun _ => rfl) _) ?_ | refine Both.mk ?_ ?_ | exact True.intro
    refine Br.d (fun h3 => ?_) (fun h3 => ?_)
    · obtain ⟨i, gi, gim⟩ := getK (l := b) (k := b.length - 1) (by omega)
      have gi' : b[((b.length : Int) - 1).toNat]? = some i := by rw [show ((b.length : Int) - 1).toNat = b.length - 1 by omega]; exact gi
      have hl := targetsF_len i
      have e2 : goesTo block b = decide (block ∈ targetsF i) := by unfold goesTo; rw [gi]
      repeat' first | refine Call.eq (Targets_spec i (hb2 i gim)) rfl ?_ | refine Look.yes ?_ | refine View.map (fun _ => rfl) ?_ | refine CallV.eq (HasInt_spec (targetsF i) _ (by omega)) rfl (Free.lit _) ?_ | refine Len.map ?_ | refine Len.nil ?_ | refine Len.cons ?_ | refine Br.t rfl ?_ | refine Br.f rfl ?_ | refine Fit.au ?_ | refine Cv.au ?_ | refine Need.ne ?_ | refine Need.au ?_ | refine Pick.map (by assumption) ?_ | refine Pick.mapI (by omega) (by assumption) ?_ | refine PickN.mk _ (by assumption) ?_ | refine PickN.mk _ rfl ?_ | refine PickN.au ?_ | refine App.au rfl ?_ | refine App.au (own_map (fun _ => rfl) _) ?_ | refine Both.mk ?_ ?_ | exact True.intro | refine Br.d (fun h => ?_) (fun h => ?_) | refine Br.nd (fun h => ?_) (fun h => ?_) | refine Br.mk (fun h => ?_) (fun h => ?_)
      all_goals
        rw [e2] at e1
        refine Stop.mk (ih (k + 1) (g := []) _ _ _ (by omega) (by omega) ?_)
        rw [e1]
      · rw [if_pos (by simpa using h), Int.natCast_add]
        exact ⟨rfl, (by repeat' first | exact trivial | refine ⟨rfl, ?_⟩ | refine ⟨congrArg (fun n => AV.lit (.int .i64 n)) (by omega), ?_⟩ | refine ⟨congrArg (fun l => some (Row.row 1 l)) (by simp [int1, num, tru]), ?_⟩), (by repeat' first | exact trivial | refine ⟨rfl, ?_⟩ | refine ⟨congrArg (fun n => AV.lit (.int .i64 n)) (by omega), ?_⟩ | refine ⟨congrArg (fun l => some (Row.row 1 l)) (by simp [int1, num, tru]), ?_⟩)⟩
      · rw [if_neg (by simpa using h), Nat.add_zero]
        exact ⟨rfl, (by repeat' first | exact trivial | refine ⟨rfl, ?_⟩ | refine ⟨congrArg (fun n => AV.lit (.int .i64 n)) (by omega), ?_⟩ | refine ⟨congrArg (fun l => some (Row.row 1 l)) (by simp [int1, num, tru]), ?_⟩), (by repeat' first | exact trivial | refine ⟨rfl, ?_⟩ | refine ⟨congrArg (fun n => AV.lit (.int .i64 n)) (by omega), ?_⟩ | refine ⟨congrArg (fun l => some (Row.row 1 l)) (by simp [int1, num, tru]), ?_⟩)⟩
    · repeat' first | refine Len.map ?_ | refine Len.nil ?_ | refine Len.cons ?_ | refine Br.t rfl ?_ | refine Br.f rfl ?_ | refine Fit.au ?_ | refine Cv.au ?_ | refine Need.ne ?_ | refine Need.au ?_ | refine Pick.map (by assumption) ?_ | refine Pick.mapI (by omega) (by assumption) ?_ | refine PickN.mk _ (by assumption) ?_ | refine PickN.mk _ rfl ?_ | refine PickN.au ?_ | refine App.au rfl ?_ | refine App.au (own_map (fun _ => rfl) _) ?_ | refine Both.mk ?_ ?_ | exact True.intro
      have e2 : goesTo block b = false := by unfold goesTo; rw [List.getElem?_eq_none (by omega)]
      rw [e2] at e1
      refine Stop.mk (ih (k + 1) (g := []) _ _ _ (by omega) (by omega) ?_)
      rw [e1]
      exact ⟨rfl, (by repeat' first | exact trivial | refine ⟨rfl, ?_⟩ | refine ⟨congrArg (fun n => AV.lit (.int .i64 n)) (by omega), ?_⟩ | refine ⟨congrArg (fun l => some (Row.row 1 l)) (by simp [int1, num, tru]), ?_⟩), (by repeat' first | exact trivial | refine ⟨rfl, ?_⟩ | refine ⟨congrArg (fun n => AV.lit (.int .i64 n)) (by omega), ?_⟩ | refine ⟨congrArg (fun l => some (Row.row 1 l)) (by simp [int1, num, tru]), ?_⟩)⟩
  · repeat' first | refine Len.map ?_ | refine Len.nil ?_ | refine Len.cons ?_ | refine Br.t rfl ?_ | refine Br.f rfl ?_ | refine Fit.au ?_ | refine Cv.au ?_ | refine Need.ne ?_ | refine Need.au ?_ | refine Pick.map (by assumption) ?_ | refine Pick.mapI (by omega) (by assumption) ?_ | refine PickN.mk _ (by assumption) ?_ | refine PickN.mk _ rfl ?_ | refine PickN.au ?_ | refine App.au rfl ?_ | refine App.au (own_map (fun _ => rfl) _) ?_ | refine Both.mk ?_ ?_ | exact True.intro
    show _ = _
    rw [take_all (by omega)]; rfl

theorem form_spec (b : List Ins) (j : Nat) (i : Ins) (gi : b[j]? = some i) (hb : b.length < 9223372036854775807) (hi : i.fits) : FnSpec Tryd.prog 86 [.sl false 9 (b.map Ins.cs), num j] (fun r => ∃ v, r = tru v ∧ (v = true ↔ formF b j i)) := by
  have hj := (List.getElem?_eq_some_iff.1 gi).1
  refine spec_of 1000 Tryd.func86 rfl rfl ?_
  repeat' first | refine Call.eq (Right15_spec i hi) rfl ?_ | refine Call.eq (Ends_spec _) rfl ?_ | refine Len.map ?_ | refine Len.nil ?_ | refine Len.cons ?_ | refine Br.t rfl ?_ | refine Br.f rfl ?_ | refine Fit.au ?_ | refine Cv.au ?_ | refine Need.ne ?_ | refine Need.au ?_ | refine Pick.map (by assumption) ?_ | refine Pick.mapI (by omega) (by assumption) ?_ | refine PickN.mk _ (by assumption) ?_ | refine PickN.mk _ rfl ?_ | refine PickN.au ?_ | refine App.au rfl ?_ | refine App.au (own_map (fun _ => rfl) _) ?_ | refine Both.mk ?_ ?_ | exact True.intro | refine Br.d (fun h => ?_) (fun h => ?_) | refine Br.nd (fun h => ?_) (fun h => ?_) | refine Br.mk (fun h => ?_) (fun h => ?_)
  · refine ⟨false, rfl, ⟨fun h => (by cases h), fun h' => ?_⟩⟩
    have := h'.1; simp_all
  · refine ⟨false, rfl, ⟨fun h => (by cases h), fun h' => ?_⟩⟩
    exfalso
    have h1 := h'.2.1
    cases he : endsF i.op <;> simp_all <;> omega
  have hr : right15 i = true := by simpa using ‹(!right15 i) = false›
  have he : endsF i.op = true ↔ j + 1 = b.length := by
    have h1 : endsF i.op = decide ((j : Int) = b.length - 1) := by simpa using h
    rw [h1]; simp; omega
  refine Stop.mk (loop_in (fun m : Nat => [(0, .sl false 9 (b.map Ins.cs)), (1, num j), (5, .hp 0 0), (6, num m)]) (fun _ => [(0, .var i.cs)]) 1 (fun m => m ≤ j ∧ (i.op = 44 → ∀ x ∈ b.take m, x.op = 44)) (fun m => j - m) 0 ⟨by omega, by simp⟩ (g := []) ⟨rfl, (by repeat' first | exact trivial | refine ⟨rfl, ?_⟩ | refine ⟨congrArg (fun n => AV.lit (.int .i64 n)) (by omega), ?_⟩ | refine ⟨congrArg (fun l => some (Row.row 1 l)) (by simp [int1, num, tru]), ?_⟩), (by repeat' first | exact trivial | refine ⟨rfl, ?_⟩ | refine ⟨congrArg (fun n => AV.lit (.int .i64 n)) (by omega), ?_⟩ | refine ⟨congrArg (fun l => some (Row.row 1 l)) (by simp [int1, num, tru]), ?_⟩)⟩ (fun m hm ih => ?_))
  obtain ⟨hm, hw⟩ := hm
  refine go 1000 Tryd.func86 ?_
  repeat' first | refine Len.map ?_ | refine Len.nil ?_ | refine Len.cons ?_ | refine Br.t rfl ?_ | refine Br.f rfl ?_ | refine Fit.au ?_ | refine Cv.au ?_ | refine Need.ne ?_ | refine Need.au ?_ | refine Pick.map (by assumption) ?_ | refine Pick.mapI (by omega) (by assumption) ?_ | refine PickN.mk _ (by assumption) ?_ | refine PickN.mk _ rfl ?_ | refine PickN.au ?_ | refine App.au rfl ?_ | refine App.au (own_map (fun _ => rfl) _) ?_ | refine Both.mk ?_ ?_ | exact True.intro
  refine Br.d (fun h2 => ?_) (fun h2 => ?_)
  · repeat' first | refine Len.map ?_ | refine Len.nil ?_ | refine Len.cons ?_ | refine Br.t rfl ?_ | refine Br.f rfl ?_ | refine Fit.au ?_ | refine Cv.au ?_ | refine Need.ne ?_ | refine Need.au ?_ | refine Pick.map (by assumption) ?_ | refine Pick.mapI (by omega) (by assumption) ?_ | refine PickN.mk _ (by assumption) ?_ | refine PickN.mk _ rfl ?_ | refine PickN.au ?_ | refine App.au rfl ?_ | refine App.au (own_map (fun _ => rfl) _) ?_ | refine Both.mk ?_ ?_ | exact True.intro
    refine Br.d (fun h3 => ?_) (fun h3 => ?_)
    · obtain ⟨x, gx, gxm⟩ := getK (l := b) (k := m) (by omega)
      repeat' first | refine Len.map ?_ | refine Len.nil ?_ | refine Len.cons ?_ | refine Br.t rfl ?_ | refine Br.f rfl ?_ | refine Fit.au ?_ | refine Cv.au ?_ | refine Need.ne ?_ | refine Need.au ?_ | refine Pick.map (by assumption) ?_ | refine Pick.mapI (by omega) (by assumption) ?_ | refine PickN.mk _ (by assumption) ?_ | refine PickN.mk _ rfl ?_ | refine PickN.au ?_ | refine App.au rfl ?_ | refine App.au (own_map (fun _ => rfl) _) ?_ | refine Both.mk ?_ ?_ | exact True.intro
      refine Br.nd (fun h4 => ?_) (fun h4 => ?_)
      · repeat' first | refine Len.map ?_ | refine Len.nil ?_ | refine Len.cons ?_ | refine Br.t rfl ?_ | refine Br.f rfl ?_ | refine Fit.au ?_ | refine Cv.au ?_ | refine Need.ne ?_ | refine Need.au ?_ | refine Pick.map (by assumption) ?_ | refine Pick.mapI (by omega) (by assumption) ?_ | refine PickN.mk _ (by assumption) ?_ | refine PickN.mk _ rfl ?_ | refine PickN.au ?_ | refine App.au rfl ?_ | refine App.au (own_map (fun _ => rfl) _) ?_ | refine Both.mk ?_ ?_ | exact True.intro
        refine ⟨false, rfl, ⟨fun h => (by cases h), fun h' => ?_⟩⟩
        exact absurd (h'.2.2 h3 x (List.mem_of_getElem? (i := m) (by rw [List.getElem?_take_of_lt (by omega)]; exact gx))) h4
      · repeat' first | refine Len.map ?_ | refine Len.nil ?_ | refine Len.cons ?_ | refine Br.t rfl ?_ | refine Br.f rfl ?_ | refine Fit.au ?_ | refine Cv.au ?_ | refine Need.ne ?_ | refine Need.au ?_ | refine Pick.map (by assumption) ?_ | refine Pick.mapI (by omega) (by assumption) ?_ | refine PickN.mk _ (by assumption) ?_ | refine PickN.mk _ rfl ?_ | refine PickN.au ?_ | refine App.au rfl ?_ | refine App.au (own_map (fun _ => rfl) _) ?_ | refine Both.mk ?_ ?_ | exact True.intro
        refine Stop.mk (ih (m + 1) (g := []) _ _ _ ⟨by omega, fun h => all_take_succ gx (hw h) h4⟩ (by omega) ⟨rfl, (by repeat' first | exact trivial | refine ⟨rfl, ?_⟩ | refine ⟨congrArg (fun n => AV.lit (.int .i64 n)) (by omega), ?_⟩ | refine ⟨congrArg (fun l => some (Row.row 1 l)) (by simp [int1, num, tru]), ?_⟩), (by repeat' first | exact trivial | refine ⟨rfl, ?_⟩ | refine ⟨congrArg (fun n => AV.lit (.int .i64 n)) (by omega), ?_⟩ | refine ⟨congrArg (fun l => some (Row.row 1 l)) (by simp [int1, num, tru]), ?_⟩)⟩)
    · repeat' first | refine Len.map ?_ | refine Len.nil ?_ | refine Len.cons ?_ | refine Br.t rfl ?_ | refine Br.f rfl ?_ | refine Fit.au ?_ | refine Cv.au ?_ | refine Need.ne ?_ | refine Need.au ?_ | refine Pick.map (by assumption) ?_ | refine Pick.mapI (by omega) (by assumption) ?_ | refine PickN.mk _ (by assumption) ?_ | refine PickN.mk _ rfl ?_ | refine PickN.au ?_ | refine App.au rfl ?_ | refine App.au (own_map (fun _ => rfl) _) ?_ | refine Both.mk ?_ ?_ | exact True.intro
      exact ⟨true, rfl, ⟨fun _ => ⟨hr, he, fun h => absurd h h3⟩, fun _ => rfl⟩⟩
  · repeat' first | refine Len.map ?_ | refine Len.nil ?_ | refine Len.cons ?_ | refine Br.t rfl ?_ | refine Br.f rfl ?_ | refine Fit.au ?_ | refine Cv.au ?_ | refine Need.ne ?_ | refine Need.au ?_ | refine Pick.map (by assumption) ?_ | refine Pick.mapI (by omega) (by assumption) ?_ | refine PickN.mk _ (by assumption) ?_ | refine PickN.mk _ rfl ?_ | refine PickN.au ?_ | refine App.au rfl ?_ | refine App.au (own_map (fun _ => rfl) _) ?_ | refine Both.mk ?_ ?_ | exact True.intro
    have : m = j := by omega
    subst this
    exact ⟨true, rfl, ⟨fun _ => ⟨hr, he, hw⟩, fun _ => rfl⟩⟩

theorem all_spec (f : Fun) (regs kinds : List Int) (hr : regs.length < 1000000) (hk : kinds.length < 1000000) (hb : ∀ r ∈ regs, 0 ≤ r ∧ r < f.regs.length) : FnSpec Tryd.prog 88 [funA f, ints regs, ints kinds] (fun r => r = tru (decide (regs.map (fun r => f.regs.getD r.toNat 0) = kinds))) := by
  refine spec_of 1000 Tryd.func88 rfl rfl ?_
  repeat' first | refine Len.map ?_ | refine Len.nil ?_ | refine Len.cons ?_ | refine Br.t rfl ?_ | refine Br.f rfl ?_ | refine Fit.au ?_ | refine Cv.au ?_ | refine Need.ne ?_ | refine Need.au ?_ | refine Pick.map (by assumption) ?_ | refine Pick.mapI (by omega) (by assumption) ?_ | refine PickN.mk _ (by assumption) ?_ | refine PickN.mk _ rfl ?_ | refine PickN.au ?_ | refine App.au rfl ?_ | refine App.au (own_map (fun _ => rfl) _) ?_ | refine Both.mk ?_ ?_ | exact True.intro
  refine Br.nd (fun h1 => ?_) (fun h1 => ?_)
  · repeat' first | refine Len.map ?_ | refine Len.nil ?_ | refine Len.cons ?_ | refine Br.t rfl ?_ | refine Br.f rfl ?_ | refine Fit.au ?_ | refine Cv.au ?_ | refine Need.ne ?_ | refine Need.au ?_ | refine Pick.map (by assumption) ?_ | refine Pick.mapI (by omega) (by assumption) ?_ | refine PickN.mk _ (by assumption) ?_ | refine PickN.mk _ rfl ?_ | refine PickN.au ?_ | refine App.au rfl ?_ | refine App.au (own_map (fun _ => rfl) _) ?_ | refine Both.mk ?_ ?_ | exact True.intro
    have : ¬ regs.map (fun r => f.regs.getD r.toNat 0) = kinds := fun e => h1 (by rw [← e, List.length_map])
    rw [decide_eq_false this]; rfl
  repeat' first | refine Len.map ?_ | refine Len.nil ?_ | refine Len.cons ?_ | refine Br.t rfl ?_ | refine Br.f rfl ?_ | refine Fit.au ?_ | refine Cv.au ?_ | refine Need.ne ?_ | refine Need.au ?_ | refine Pick.map (by assumption) ?_ | refine Pick.mapI (by omega) (by assumption) ?_ | refine PickN.mk _ (by assumption) ?_ | refine PickN.mk _ rfl ?_ | refine PickN.au ?_ | refine App.au rfl ?_ | refine App.au (own_map (fun _ => rfl) _) ?_ | refine Both.mk ?_ ?_ | exact True.intro
  refine Stop.mk (loop_in (fun m : Nat => [(1, ints regs), (2, ints kinds), (3, .hp 0 0), (7, num m)]) (fun _ => [(0, .var f.cs)]) 1 (fun m => m ≤ regs.length ∧ (regs.take m).map (fun r => f.regs.getD r.toNat 0) = kinds.take m) (fun m => regs.length - m) 0 ⟨by omega, by simp⟩ (g := []) ⟨rfl, (by repeat' first | exact trivial | refine ⟨rfl, ?_⟩ | refine ⟨congrArg (fun n => AV.lit (.int .i64 n)) (by omega), ?_⟩ | refine ⟨congrArg (fun l => some (Row.row 1 l)) (by simp [int1, num, tru]), ?_⟩), (by repeat' first | exact trivial | refine ⟨rfl, ?_⟩ | refine ⟨congrArg (fun n => AV.lit (.int .i64 n)) (by omega), ?_⟩ | refine ⟨congrArg (fun l => some (Row.row 1 l)) (by simp [int1, num, tru]), ?_⟩)⟩ (fun m hm ih => ?_))
  obtain ⟨hm, hw⟩ := hm
  refine go 1000 Tryd.func88 ?_
  repeat' first | refine Len.map ?_ | refine Len.nil ?_ | refine Len.cons ?_ | refine Br.t rfl ?_ | refine Br.f rfl ?_ | refine Fit.au ?_ | refine Cv.au ?_ | refine Need.ne ?_ | refine Need.au ?_ | refine Pick.map (by assumption) ?_ | refine Pick.mapI (by omega) (by assumption) ?_ | refine PickN.mk _ (by assumption) ?_ | refine PickN.mk _ rfl ?_ | refine PickN.au ?_ | refine App.au rfl ?_ | refine App.au (own_map (fun _ => rfl) _) ?_ | refine Both.mk ?_ ?_ | exact True.intro
  refine Br.d (fun h2 => ?_) (fun h2 => ?_)
  · obtain ⟨x, gx, gxm⟩ := getK (l := regs) (k := m) (by omega)
    obtain ⟨y, gy, gym⟩ := getK (l := kinds) (k := m) (by omega)
    have hx := hb x gxm
    obtain ⟨z, gz, gzm⟩ := getK (l := f.regs) (k := x.toNat) (by omega)
    have ez : f.regs.getD x.toNat 0 = z := by rw [List.getD_eq_getElem?_getD, gz]; rfl
    repeat' first | refine Draw.mk (ordL [] [0, 1, 2, 3, 4, 5, 6, 7, 8, 9, 10, 11, 12]) (by decide +kernel) ?_ | refine Len.map ?_ | refine Len.nil ?_ | refine Len.cons ?_ | refine Br.t rfl ?_ | refine Br.f rfl ?_ | refine Fit.au ?_ | refine Cv.au ?_ | refine Need.ne ?_ | refine Need.au ?_ | refine Pick.map (by assumption) ?_ | refine Pick.mapI (by omega) (by assumption) ?_ | refine PickN.mk _ (by assumption) ?_ | refine PickN.mk _ rfl ?_ | refine PickN.au ?_ | refine App.au rfl ?_ | refine App.au (own_map (fun _ => rfl) _) ?_ | refine Both.mk ?_ ?_ | exact True.intro
    refine Br.nd (fun h4 => ?_) (fun h4 => ?_)
    · repeat' first | refine Len.map ?_ | refine Len.nil ?_ | refine Len.cons ?_ | refine Br.t rfl ?_ | refine Br.f rfl ?_ | refine Fit.au ?_ | refine Cv.au ?_ | refine Need.ne ?_ | refine Need.au ?_ | refine Pick.map (by assumption) ?_ | refine Pick.mapI (by omega) (by assumption) ?_ | refine PickN.mk _ (by assumption) ?_ | refine PickN.mk _ rfl ?_ | refine PickN.au ?_ | refine App.au rfl ?_ | refine App.au (own_map (fun _ => rfl) _) ?_ | refine Both.mk ?_ ?_ | exact True.intro
      have : ¬ regs.map (fun r => f.regs.getD r.toNat 0) = kinds := fun e => by
        have h5 : (regs.map (fun r => f.regs.getD r.toNat 0))[m]? = kinds[m]? := by rw [e]
        rw [List.getElem?_map, gx, gy] at h5
        simp only [Option.map_some, Option.some.injEq] at h5
        exact h4 (by rw [← ez]; exact h5)
      rw [decide_eq_false this]; rfl
    · repeat' first | refine Len.map ?_ | refine Len.nil ?_ | refine Len.cons ?_ | refine Br.t rfl ?_ | refine Br.f rfl ?_ | refine Fit.au ?_ | refine Cv.au ?_ | refine Need.ne ?_ | refine Need.au ?_ | refine Pick.map (by assumption) ?_ | refine Pick.mapI (by omega) (by assumption) ?_ | refine PickN.mk _ (by assumption) ?_ | refine PickN.mk _ rfl ?_ | refine PickN.au ?_ | refine App.au rfl ?_ | refine App.au (own_map (fun _ => rfl) _) ?_ | refine Both.mk ?_ ?_ | exact True.intro
      refine Stop.mk (ih (m + 1) (g := []) _ _ _ ⟨by omega, ?_⟩ (by omega) ⟨rfl, (by repeat' first | exact trivial | refine ⟨rfl, ?_⟩ | refine ⟨congrArg (fun n => AV.lit (.int .i64 n)) (by omega), ?_⟩ | refine ⟨congrArg (fun l => some (Row.row 1 l)) (by simp [int1, num, tru]), ?_⟩), (by repeat' first | exact trivial | refine ⟨rfl, ?_⟩ | refine ⟨congrArg (fun n => AV.lit (.int .i64 n)) (by omega), ?_⟩ | refine ⟨congrArg (fun l => some (Row.row 1 l)) (by simp [int1, num, tru]), ?_⟩)⟩)
      rw [take_succ gx, take_succ gy, List.map_append, hw]
      simp only [List.map_cons, List.map_nil]
      rw [ez, h4]
  · repeat' first | refine Len.map ?_ | refine Len.nil ?_ | refine Len.cons ?_ | refine Br.t rfl ?_ | refine Br.f rfl ?_ | refine Fit.au ?_ | refine Cv.au ?_ | refine Need.ne ?_ | refine Need.au ?_ | refine Pick.map (by assumption) ?_ | refine Pick.mapI (by omega) (by assumption) ?_ | refine PickN.mk _ (by assumption) ?_ | refine PickN.mk _ rfl ?_ | refine PickN.au ?_ | refine App.au rfl ?_ | refine App.au (own_map (fun _ => rfl) _) ?_ | refine Both.mk ?_ ?_ | exact True.intro
    rw [take_all (by omega), take_all (by omega)] at hw
    rw [decide_eq_true hw]; rfl
end Go.Proofs.YtdgibhndjdgllaaDoor

/- The check of programs: whether all is there that is named, by a contract. -/
namespace Go.Proofs.YtdgibhndjdgllaaDoor
open Go.Ax
set_option maxRecDepth 10000
set_option linter.unusedVariables false

theorem there_spec (p : Pro) (f : Fun) (block : Int) (i : Ins) (hp : p.fits) (hf : f.fits) (hi : i.args.length ≤ 1000000) (hr : right15 i = true) : FnSpec Tryd.prog 87 [proA p, funA f, num block, insA i] (fun r => ∃ v, r = tru v ∧ (v = true ↔ thereP p f block i)) := by
  have hif : i.fits := by unfold Ins.fits; omega
  have hp1 := hp.1
  have hp2 := hp.2.1
  have hf1 := hf.1
  have hf2 := hf.2.1
  have hul := usesF_len i
  have htl := targetsF_len i
  have hsp := site_pos hr
  refine spec_of 1000 Tryd.func87 rfl rfl ?_
  repeat' first | refine Draw.mk (ordL [1] [0, 2, 3, 4, 1, 5]) (by decide +kernel) ?_ | refine Draw.mk (ordL [1, 3] [0, 2, 1, 3, 4, 5]) (by decide +kernel) ?_ | refine Draw.mk (ordL [] [0, 1, 2, 3, 4, 5, 6, 7]) (by decide +kernel) ?_ | refine Draw.mk (ordL [] [0, 1, 2, 3, 4, 5, 6, 7, 8, 9, 10, 11, 12, 13, 14]) (by decide +kernel) ?_ | refine Draw.mk (ordL [16] [0, 1, 2, 3, 4, 5, 6, 7, 8, 9, 10, 11, 12, 13, 14, 15, 16, 17, 18, 19]) (by decide +kernel) ?_ | refine Draw.mk (ordL [9] [0, 1, 2, 3, 4, 5, 6, 7, 8, 9, 10, 11, 12]) (by decide +kernel) ?_ | refine Call.eq (Def15_spec i hif) rfl ?_ | refine Len.map ?_ | refine Len.nil ?_ | refine Len.cons ?_ | refine Br.t rfl ?_ | refine Br.f rfl ?_ | refine Fit.au ?_ | refine Cv.au ?_ | refine Need.ne ?_ | refine Need.au ?_ | refine Pick.map (by assumption) ?_ | refine Pick.mapI (by omega) (by assumption) ?_ | refine PickN.mk _ (by assumption) ?_ | refine PickN.mk _ rfl ?_ | refine PickN.au ?_ | refine App.au rfl ?_ | refine App.au (own_map (fun _ => rfl) _) ?_ | refine Both.mk ?_ ?_ | exact True.intro
  refine Br.d (fun h1 => ?_) (fun h1 => ?_)
  · repeat' first | refine Len.map ?_ | refine Len.nil ?_ | refine Len.cons ?_ | refine Br.t rfl ?_ | refine Br.f rfl ?_ | refine Fit.au ?_ | refine Cv.au ?_ | refine Need.ne ?_ | refine Need.au ?_ | refine Pick.map (by assumption) ?_ | refine Pick.mapI (by omega) (by assumption) ?_ | refine PickN.mk _ (by assumption) ?_ | refine PickN.mk _ rfl ?_ | refine PickN.au ?_ | refine App.au rfl ?_ | refine App.au (own_map (fun _ => rfl) _) ?_ | refine Both.mk ?_ ?_ | exact True.intro
    refine ⟨false, rfl, ⟨fun h => (by cases h), fun h' => ?_⟩⟩
    have := h'.1; omega
  repeat' first | refine Draw.mk (ordL [1] [0, 2, 3, 4, 1, 5]) (by decide +kernel) ?_ | refine Draw.mk (ordL [1, 3] [0, 2, 1, 3, 4, 5]) (by decide +kernel) ?_ | refine Draw.mk (ordL [] [0, 1, 2, 3, 4, 5, 6, 7]) (by decide +kernel) ?_ | refine Draw.mk (ordL [] [0, 1, 2, 3, 4, 5, 6, 7, 8, 9, 10, 11, 12, 13, 14]) (by decide +kernel) ?_ | refine Draw.mk (ordL [16] [0, 1, 2, 3, 4, 5, 6, 7, 8, 9, 10, 11, 12, 13, 14, 15, 16, 17, 18, 19]) (by decide +kernel) ?_ | refine Draw.mk (ordL [9] [0, 1, 2, 3, 4, 5, 6, 7, 8, 9, 10, 11, 12]) (by decide +kernel) ?_ | refine Call.eq (Uses_spec i hi) rfl ?_ | refine Call.eq (Targets_spec i hif) rfl ?_ | refine Len.map ?_ | refine Len.nil ?_ | refine Len.cons ?_ | refine Br.t rfl ?_ | refine Br.f rfl ?_ | refine Fit.au ?_ | refine Cv.au ?_ | refine Need.ne ?_ | refine Need.au ?_ | refine Pick.map (by assumption) ?_ | refine Pick.mapI (by omega) (by assumption) ?_ | refine PickN.mk _ (by assumption) ?_ | refine PickN.mk _ rfl ?_ | refine PickN.au ?_ | refine App.au rfl ?_ | refine App.au (own_map (fun _ => rfl) _) ?_ | refine Both.mk ?_ ?_ | exact True.intro
  refine Stop.mk (loop_in (fun m : Nat => [(4, .hp 0 0), (5, .hp 1 0), (7, .hp 2 0), (2, num block), (9, .hw 3), (10, .hw 4), (11, num m)]) (fun _ => [(0, .var p.cs), (1, .var f.cs), (2, .var i.cs), (3, .row 1 ((usesF i).map int1)), (4, .row 1 ((targetsF i).map int1))]) 5 (fun m => m ≤ (usesF i).length ∧ ∀ u ∈ (usesF i).take m, u < f.regs.length) (fun m => (usesF i).length - m) 0 ⟨by omega, by simp⟩ (g := []) ⟨rfl, (by repeat' first | exact trivial | refine ⟨rfl, ?_⟩ | refine ⟨congrArg (fun n => AV.lit (.int .i64 n)) (by omega), ?_⟩ | refine ⟨congrArg (fun l => some (Row.row 1 l)) (by simp [int1, num, tru]), ?_⟩), (by repeat' first | exact trivial | refine ⟨rfl, ?_⟩ | refine ⟨congrArg (fun n => AV.lit (.int .i64 n)) (by omega), ?_⟩ | refine ⟨congrArg (fun l => some (Row.row 1 l)) (by simp [int1, num, tru]), ?_⟩)⟩ (fun m hm ih => ?_))
  obtain ⟨hm, hw⟩ := hm
  refine go 1000 Tryd.func87 ?_
  repeat' first | refine Len.map ?_ | refine Len.nil ?_ | refine Len.cons ?_ | refine Br.t rfl ?_ | refine Br.f rfl ?_ | refine Fit.au ?_ | refine Cv.au ?_ | refine Need.ne ?_ | refine Need.au ?_ | refine Pick.map (by assumption) ?_ | refine Pick.mapI (by omega) (by assumption) ?_ | refine PickN.mk _ (by assumption) ?_ | refine PickN.mk _ rfl ?_ | refine PickN.au ?_ | refine App.au rfl ?_ | refine App.au (own_map (fun _ => rfl) _) ?_ | refine Both.mk ?_ ?_ | exact True.intro
  refine Br.d (fun h2 => ?_) (fun h2 => ?_)
  · obtain ⟨u, gu, gum⟩ := getK (l := usesF i) (k := m) (by omega)
    repeat' first | refine Draw.mk (ordL [1] [0, 2, 3, 4, 1, 5]) (by decide +kernel) ?_ | refine Draw.mk (ordL [1, 3] [0, 2, 1, 3, 4, 5]) (by decide +kernel) ?_ | refine Draw.mk (ordL [] [0, 1, 2, 3, 4, 5, 6, 7]) (by decide +kernel) ?_ | refine Draw.mk (ordL [] [0, 1, 2, 3, 4, 5, 6, 7, 8, 9, 10, 11, 12, 13, 14]) (by decide +kernel) ?_ | refine Draw.mk (ordL [16] [0, 1, 2, 3, 4, 5, 6, 7, 8, 9, 10, 11, 12, 13, 14, 15, 16, 17, 18, 19]) (by decide +kernel) ?_ | refine Draw.mk (ordL [9] [0, 1, 2, 3, 4, 5, 6, 7, 8, 9, 10, 11, 12]) (by decide +kernel) ?_ | refine Len.map ?_ | refine Len.nil ?_ | refine Len.cons ?_ | refine Br.t rfl ?_ | refine Br.f rfl ?_ | refine Fit.au ?_ | refine Cv.au ?_ | refine Need.ne ?_ | refine Need.au ?_ | refine Pick.map (by assumption) ?_ | refine Pick.mapI (by omega) (by assumption) ?_ | refine PickN.mk _ (by assumption) ?_ | refine PickN.mk _ rfl ?_ | refine PickN.au ?_ | refine App.au rfl ?_ | refine App.au (own_map (fun _ => rfl) _) ?_ | refine Both.mk ?_ ?_ | exact True.intro
    refine Br.d (fun h3 => ?_) (fun h3 => ?_)
    · repeat' first | refine Len.map ?_ | refine Len.nil ?_ | refine Len.cons ?_ | refine Br.t rfl ?_ | refine Br.f rfl ?_ | refine Fit.au ?_ | refine Cv.au ?_ | refine Need.ne ?_ | refine Need.au ?_ | refine Pick.map (by assumption) ?_ | refine Pick.mapI (by omega) (by assumption) ?_ | refine PickN.mk _ (by assumption) ?_ | refine PickN.mk _ rfl ?_ | refine PickN.au ?_ | refine App.au rfl ?_ | refine App.au (own_map (fun _ => rfl) _) ?_ | refine Both.mk ?_ ?_ | exact True.intro
      refine ⟨false, rfl, ⟨fun h => (by cases h), fun h' => ?_⟩⟩
      have := h'.2.1 u gum; omega
    · repeat' first | refine Len.map ?_ | refine Len.nil ?_ | refine Len.cons ?_ | refine Br.t rfl ?_ | refine Br.f rfl ?_ | refine Fit.au ?_ | refine Cv.au ?_ | refine Need.ne ?_ | refine Need.au ?_ | refine Pick.map (by assumption) ?_ | refine Pick.mapI (by omega) (by assumption) ?_ | refine PickN.mk _ (by assumption) ?_ | refine PickN.mk _ rfl ?_ | refine PickN.au ?_ | refine App.au rfl ?_ | refine App.au (own_map (fun _ => rfl) _) ?_ | refine Both.mk ?_ ?_ | exact True.intro
      refine Stop.mk (ih (m + 1) (g := []) _ _ _ ⟨by omega, all_take_succ gu hw (by omega)⟩ (by omega) ⟨rfl, (by repeat' first | exact trivial | refine ⟨rfl, ?_⟩ | refine ⟨congrArg (fun n => AV.lit (.int .i64 n)) (by omega), ?_⟩ | refine ⟨congrArg (fun l => some (Row.row 1 l)) (by simp [int1, num, tru]), ?_⟩), (by repeat' first | exact trivial | refine ⟨rfl, ?_⟩ | refine ⟨congrArg (fun n => AV.lit (.int .i64 n)) (by omega), ?_⟩ | refine ⟨congrArg (fun l => some (Row.row 1 l)) (by simp [int1, num, tru]), ?_⟩)⟩)
  rw [take_all (by omega)] at hw
  clear ih
  repeat' first | refine Len.map ?_ | refine Len.nil ?_ | refine Len.cons ?_ | refine Br.t rfl ?_ | refine Br.f rfl ?_ | refine Fit.au ?_ | refine Cv.au ?_ | refine Need.ne ?_ | refine Need.au ?_ | refine Pick.map (by assumption) ?_ | refine Pick.mapI (by omega) (by assumption) ?_ | refine PickN.mk _ (by assumption) ?_ | refine PickN.mk _ rfl ?_ | refine PickN.au ?_ | refine App.au rfl ?_ | refine App.au (own_map (fun _ => rfl) _) ?_ | refine Both.mk ?_ ?_ | exact True.intro
  refine Stop.mk (loop_in (fun m : Nat => [(4, .hp 0 0), (5, .hp 1 0), (7, .hp 2 0), (2, num block), (10, .hw 4), (12, num m)]) (fun _ => [(0, .var p.cs), (1, .var f.cs), (2, .var i.cs), (4, .row 1 ((targetsF i).map int1))]) 5 (fun m => m ≤ (targetsF i).length ∧ ∀ t ∈ (targetsF i).take m, t ≠ 0 ∧ t < f.blocks.length) (fun m => (targetsF i).length - m) 0 ⟨by omega, by simp⟩ (g := []) ⟨rfl, (by repeat' first | exact trivial | refine ⟨rfl, ?_⟩ | refine ⟨congrArg (fun n => AV.lit (.int .i64 n)) (by omega), ?_⟩ | refine ⟨congrArg (fun l => some (Row.row 1 l)) (by simp [int1, num, tru]), ?_⟩), (by repeat' first | exact trivial | refine ⟨rfl, ?_⟩ | refine ⟨congrArg (fun n => AV.lit (.int .i64 n)) (by omega), ?_⟩ | refine ⟨congrArg (fun l => some (Row.row 1 l)) (by simp [int1, num, tru]), ?_⟩)⟩ (fun m hm ih => ?_))
  obtain ⟨hm, hw2⟩ := hm
  refine go 1000 Tryd.func87 ?_
  repeat' first | refine Len.map ?_ | refine Len.nil ?_ | refine Len.cons ?_ | refine Br.t rfl ?_ | refine Br.f rfl ?_ | refine Fit.au ?_ | refine Cv.au ?_ | refine Need.ne ?_ | refine Need.au ?_ | refine Pick.map (by assumption) ?_ | refine Pick.mapI (by omega) (by assumption) ?_ | refine PickN.mk _ (by assumption) ?_ | refine PickN.mk _ rfl ?_ | refine PickN.au ?_ | refine App.au rfl ?_ | refine App.au (own_map (fun _ => rfl) _) ?_ | refine Both.mk ?_ ?_ | exact True.intro
  refine Br.d (fun h2 => ?_) (fun h2 => ?_)
  · obtain ⟨t, gt, gtm⟩ := getK (l := targetsF i) (k := m) (by omega)
    repeat' first | refine Draw.mk (ordL [1] [0, 2, 3, 4, 1, 5]) (by decide +kernel) ?_ | refine Draw.mk (ordL [1, 3] [0, 2, 1, 3, 4, 5]) (by decide +kernel) ?_ | refine Draw.mk (ordL [] [0, 1, 2, 3, 4, 5, 6, 7]) (by decide +kernel) ?_ | refine Draw.mk (ordL [] [0, 1, 2, 3, 4, 5, 6, 7, 8, 9, 10, 11, 12, 13, 14]) (by decide +kernel) ?_ | refine Draw.mk (ordL [16] [0, 1, 2, 3, 4, 5, 6, 7, 8, 9, 10, 11, 12, 13, 14, 15, 16, 17, 18, 19]) (by decide +kernel) ?_ | refine Draw.mk (ordL [9] [0, 1, 2, 3, 4, 5, 6, 7, 8, 9, 10, 11, 12]) (by decide +kernel) ?_ | refine Len.map ?_ | refine Len.nil ?_ | refine Len.cons ?_ | refine Br.t rfl ?_ | refine Br.f rfl ?_ | refine Fit.au ?_ | refine Cv.au ?_ | refine Need.ne ?_ | refine Need.au ?_ | refine Pick.map (by assumption) ?_ | refine Pick.mapI (by omega) (by assumption) ?_ | refine PickN.mk _ (by assumption) ?_ | refine PickN.mk _ rfl ?_ | refine PickN.au ?_ | refine App.au rfl ?_ | refine App.au (own_map (fun _ => rfl) _) ?_ | refine Both.mk ?_ ?_ | exact True.intro | refine Br.d (fun h => ?_) (fun h => ?_) | refine Br.nd (fun h => ?_) (fun h => ?_) | refine Br.mk (fun h => ?_) (fun h => ?_)
    · refine ⟨false, rfl, ⟨fun h => (by cases h), fun h' => ?_⟩⟩
      have := h'.2.2.1 t gtm; omega
    · refine ⟨false, rfl, ⟨fun h => (by cases h), fun h' => ?_⟩⟩
      have := h'.2.2.1 t gtm; omega
    · refine Stop.mk (ih (m + 1) (g := []) _ _ _ ⟨by omega, all_take_succ gt hw2 (by omega)⟩ (by omega) ⟨rfl, (by repeat' first | exact trivial | refine ⟨rfl, ?_⟩ | refine ⟨congrArg (fun n => AV.lit (.int .i64 n)) (by omega), ?_⟩ | refine ⟨congrArg (fun l => some (Row.row 1 l)) (by simp [int1, num, tru]), ?_⟩), (by repeat' first | exact trivial | refine ⟨rfl, ?_⟩ | refine ⟨congrArg (fun n => AV.lit (.int .i64 n)) (by omega), ?_⟩ | refine ⟨congrArg (fun l => some (Row.row 1 l)) (by simp [int1, num, tru]), ?_⟩)⟩)
  rw [take_all (by omega)] at hw2
  clear ih
  repeat' first | refine Call.eq (Check_spec _) rfl ?_ | refine Len.map ?_ | refine Len.nil ?_ | refine Len.cons ?_ | refine Br.t rfl ?_ | refine Br.f rfl ?_ | refine Fit.au ?_ | refine Cv.au ?_ | refine Need.ne ?_ | refine Need.au ?_ | refine Pick.map (by assumption) ?_ | refine Pick.mapI (by omega) (by assumption) ?_ | refine PickN.mk _ (by assumption) ?_ | refine PickN.mk _ rfl ?_ | refine PickN.au ?_ | refine App.au rfl ?_ | refine App.au (own_map (fun _ => rfl) _) ?_ | refine Both.mk ?_ ?_ | exact True.intro
  have hc0 : checkF i.op = true → i.op ≠ 39 ∧ i.op ≠ 44 := by unfold checkF; simp; omega
  refine Br.mk (fun hc => ?_) (fun hc => ?_)
  · obtain ⟨n1, n2⟩ := hc0 hc
    repeat' first | refine Draw.mk (ordL [1] [0, 2, 3, 4, 1, 5]) (by decide +kernel) ?_ | refine Draw.mk (ordL [1, 3] [0, 2, 1, 3, 4, 5]) (by decide +kernel) ?_ | refine Draw.mk (ordL [] [0, 1, 2, 3, 4, 5, 6, 7]) (by decide +kernel) ?_ | refine Draw.mk (ordL [] [0, 1, 2, 3, 4, 5, 6, 7, 8, 9, 10, 11, 12, 13, 14]) (by decide +kernel) ?_ | refine Draw.mk (ordL [16] [0, 1, 2, 3, 4, 5, 6, 7, 8, 9, 10, 11, 12, 13, 14, 15, 16, 17, 18, 19]) (by decide +kernel) ?_ | refine Draw.mk (ordL [9] [0, 1, 2, 3, 4, 5, 6, 7, 8, 9, 10, 11, 12]) (by decide +kernel) ?_ | refine Len.map ?_ | refine Len.nil ?_ | refine Len.cons ?_ | refine Br.t rfl ?_ | refine Br.f rfl ?_ | refine Fit.au ?_ | refine Cv.au ?_ | refine Need.ne ?_ | refine Need.au ?_ | refine Pick.map (by assumption) ?_ | refine Pick.mapI (by omega) (by assumption) ?_ | refine PickN.mk _ (by assumption) ?_ | refine PickN.mk _ rfl ?_ | refine PickN.au ?_ | refine App.au rfl ?_ | refine App.au (own_map (fun _ => rfl) _) ?_ | refine Both.mk ?_ ?_ | exact True.intro
    refine Br.d (fun h3 => ?_) (fun h3 => ?_)
    · obtain ⟨s, gs, gsm⟩ := getK (l := p.sites) (k := i.site.toNat) (by omega)
      have es : p.sites.getD i.site.toNat (0, 0) = s := by rw [List.getD_eq_getElem?_getD, gs]; rfl
      repeat' first | refine Call.eq (Trap_spec _) rfl ?_ | refine Len.map ?_ | refine Len.nil ?_ | refine Len.cons ?_ | refine Br.t rfl ?_ | refine Br.f rfl ?_ | refine Fit.au ?_ | refine Cv.au ?_ | refine Need.ne ?_ | refine Need.au ?_ | refine Pick.map (by assumption) ?_ | refine Pick.mapI (by omega) (by assumption) ?_ | refine PickN.mk _ (by assumption) ?_ | refine PickN.mk _ rfl ?_ | refine PickN.au ?_ | refine App.au rfl ?_ | refine App.au (own_map (fun _ => rfl) _) ?_ | refine Both.mk ?_ ?_ | exact True.intro
      refine ⟨_, rfl, ?_⟩
      rw [decide_eq_true_iff]
      exact ⟨fun h => ⟨by omega, hw, hw2, fun _ => ⟨h3, by rw [es]; exact h⟩, fun h => absurd h n1, fun h => absurd h n2⟩, fun h' => by have := (h'.2.2.2.1 hc).2; rw [es] at this; exact this⟩
    · repeat' first | refine Len.map ?_ | refine Len.nil ?_ | refine Len.cons ?_ | refine Br.t rfl ?_ | refine Br.f rfl ?_ | refine Fit.au ?_ | refine Cv.au ?_ | refine Need.ne ?_ | refine Need.au ?_ | refine Pick.map (by assumption) ?_ | refine Pick.mapI (by omega) (by assumption) ?_ | refine PickN.mk _ (by assumption) ?_ | refine PickN.mk _ rfl ?_ | refine PickN.au ?_ | refine App.au rfl ?_ | refine App.au (own_map (fun _ => rfl) _) ?_ | refine Both.mk ?_ ?_ | exact True.intro
      refine ⟨false, rfl, ⟨fun h => (by cases h), fun h' => ?_⟩⟩
      have := (h'.2.2.2.1 hc).1; omega
  · repeat' first | refine Len.map ?_ | refine Len.nil ?_ | refine Len.cons ?_ | refine Br.t rfl ?_ | refine Br.f rfl ?_ | refine Fit.au ?_ | refine Cv.au ?_ | refine Need.ne ?_ | refine Need.au ?_ | refine Pick.map (by assumption) ?_ | refine Pick.mapI (by omega) (by assumption) ?_ | refine PickN.mk _ (by assumption) ?_ | refine PickN.mk _ rfl ?_ | refine PickN.au ?_ | refine App.au rfl ?_ | refine App.au (own_map (fun _ => rfl) _) ?_ | refine Both.mk ?_ ?_ | exact True.intro
    refine Br.d (fun h3 => ?_) (fun h3 => ?_)
    · repeat' first | refine Len.map ?_ | refine Len.nil ?_ | refine Len.cons ?_ | refine Br.t rfl ?_ | refine Br.f rfl ?_ | refine Fit.au ?_ | refine Cv.au ?_ | refine Need.ne ?_ | refine Need.au ?_ | refine Pick.map (by assumption) ?_ | refine Pick.mapI (by omega) (by assumption) ?_ | refine PickN.mk _ (by assumption) ?_ | refine PickN.mk _ rfl ?_ | refine PickN.au ?_ | refine App.au rfl ?_ | refine App.au (own_map (fun _ => rfl) _) ?_ | refine Both.mk ?_ ?_ | exact True.intro
      refine ⟨_, rfl, ?_⟩
      rw [decide_eq_true_iff]
      exact ⟨fun h => ⟨by omega, hw, hw2, fun h => (by rw [hc] at h; cases h), fun _ => h, fun h => by omega⟩, fun h' => h'.2.2.2.2.1 h3⟩
    · repeat' first | refine Draw.mk (ordL [1] [0, 2, 3, 4, 1, 5]) (by decide +kernel) ?_ | refine Draw.mk (ordL [1, 3] [0, 2, 1, 3, 4, 5]) (by decide +kernel) ?_ | refine Draw.mk (ordL [] [0, 1, 2, 3, 4, 5, 6, 7]) (by decide +kernel) ?_ | refine Draw.mk (ordL [] [0, 1, 2, 3, 4, 5, 6, 7, 8, 9, 10, 11, 12, 13, 14]) (by decide +kernel) ?_ | refine Draw.mk (ordL [16] [0, 1, 2, 3, 4, 5, 6, 7, 8, 9, 10, 11, 12, 13, 14, 15, 16, 17, 18, 19]) (by decide +kernel) ?_ | refine Draw.mk (ordL [9] [0, 1, 2, 3, 4, 5, 6, 7, 8, 9, 10, 11, 12]) (by decide +kernel) ?_ | refine Call.eq (Preds16_spec f block hf) rfl ?_ | refine Len.map ?_ | refine Len.nil ?_ | refine Len.cons ?_ | refine Br.t rfl ?_ | refine Br.f rfl ?_ | refine Fit.au ?_ | refine Cv.au ?_ | refine Need.ne ?_ | refine Need.au ?_ | refine Pick.map (by assumption) ?_ | refine Pick.mapI (by omega) (by assumption) ?_ | refine PickN.mk _ (by assumption) ?_ | refine PickN.mk _ rfl ?_ | refine PickN.au ?_ | refine App.au rfl ?_ | refine App.au (own_map (fun _ => rfl) _) ?_ | refine Both.mk ?_ ?_ | exact True.intro | refine Br.d (fun h => ?_) (fun h => ?_) | refine Br.nd (fun h => ?_) (fun h => ?_) | refine Br.mk (fun h => ?_) (fun h => ?_)
      · refine ⟨true, rfl, ⟨fun _ => ⟨by omega, hw, hw2, fun h => (by rw [hc] at h; cases h), fun h => absurd h h3, fun h => absurd h (by assumption)⟩, fun _ => rfl⟩⟩
      · refine ⟨_, rfl, ?_⟩
        rw [decide_eq_true_iff]
        exact ⟨fun h => ⟨by omega, hw, hw2, fun h => (by rw [hc] at h; cases h), fun h => absurd h h3, fun _ => h⟩, fun h' => h'.2.2.2.2.2 (by assumption)⟩
end Go.Proofs.YtdgibhndjdgllaaDoor

/- The check of programs: the kinds that an instruction reads and writes, by contracts. -/
namespace Go.Proofs.YtdgibhndjdgllaaDoor
open Go.Ax
set_option maxRecDepth 10000
set_option linter.unusedVariables false

theorem Pick_getD {α : Type} {enc : α → List AV} {l : List α} {n : Int} {k : List AV → Prop} (d : α) (h0 : 0 ≤ n) (h : n < l.length) (hk : k (enc (l.getD n.toNat d))) : Pick (l.map enc) n k :=
  Pick.mapI (e := l.getD n.toNat d) h0 (by rw [List.getD_eq_getElem?_getD, List.getElem?_eq_getElem (by omega)]; rfl) hk

theorem writes16_spec (p : Pro) (f : Fun) (block : Int) (i : Ins) (hp : p.fits) (hf : f.fits) (hr : right15 i = true) (ht : thereP p f block i) : FnSpec Tryd.prog 90 [proA p, funA f, insA i] (fun r => r = num (kindF p f i)) := by
  have hd : i.op = 23 ∨ i.op = 44 → i.dst < f.regs.length := fun h => by
    have := ht.1
    rw [right_def hr (by unfold writesF; simp; omega)] at this
    exact this
  have hn : i.op = 39 → i.n < p.funcs.length := ht.2.2.2.2.1
  have hn0 := right_n hr
  obtain ⟨hd0, _⟩ := right_pos hr
  refine spec_of 1000 Tryd.func90 rfl rfl ?_
  repeat' first | refine Pick_getD 0 (by omega) (by omega) ?_ | refine Pick_getD fun0 (by omega) (by omega) ?_ | refine Len.map ?_ | refine Len.nil ?_ | refine Len.cons ?_ | refine Br.t rfl ?_ | refine Br.f rfl ?_ | refine Fit.au ?_ | refine Cv.au ?_ | refine Need.ne ?_ | refine Need.au ?_ | refine Pick.map (by assumption) ?_ | refine Pick.mapI (by omega) (by assumption) ?_ | refine PickN.mk _ (by assumption) ?_ | refine PickN.mk _ rfl ?_ | refine PickN.au ?_ | refine App.au rfl ?_ | refine App.au (own_map (fun _ => rfl) _) ?_ | refine Both.mk ?_ ?_ | exact True.intro | refine Br.d (fun h => ?_) (fun h => ?_) | refine Br.nd (fun h => ?_) (fun h => ?_) | refine Br.mk (fun h => ?_) (fun h => ?_)
  all_goals first
    | (exfalso; omega)
    | (show _ = _
       unfold kindF
       repeat' first | rw [if_pos (by omega)] | rw [if_neg (by omega)]
       rfl)

end Go.Proofs.YtdgibhndjdgllaaDoor

/- The check of programs: the kinds that an instruction reads, by a contract. -/
namespace Go.Proofs.YtdgibhndjdgllaaDoor
open Go.Ax
set_option maxRecDepth 10000
set_option linter.unusedVariables false

set_option maxHeartbeats 2000000 in
theorem reads16_spec (p : Pro) (f : Fun) (block : Int) (i : Ins) (hp : p.fits) (hf : f.fits) (hi : i.args.length ≤ 1000000) (hr : right15 i = true) (ht : thereP p f block i) : FnSpec Tryd.prog 89 [proA p, funA f, insA i] (fun r => r = .osl 1 ((kindsF p f i).map int1) ∨ r = .sl false 1 ((kindsF p f i).map int1)) := by
  have hd : i.op = 23 ∨ i.op = 44 → i.dst < f.regs.length := fun h => by
    have := ht.1
    rw [right_def hr (by unfold writesF; simp; omega)] at this
    exact this
  have ha : i.op = 3 ∨ i.op = 4 → i.a < f.regs.length := fun h => ht.2.1 _ (uses_a hr (by unfold abF twoF; simp; omega))
  have hn : i.op = 39 → i.n < p.funcs.length := ht.2.2.2.2.1
  have hn0 := right_n hr
  have hul := usesF_len i
  obtain ⟨hd0, ha0, _⟩ := right_pos hr
  refine spec_of 1000 Tryd.func89 rfl rfl ?_
  repeat' first | refine Call.eq (Uses_spec i hi) rfl ?_ | refine Pick_getD 0 (by omega) (by omega) ?_ | refine Pick_getD fun0 (by omega) (by omega) ?_ | refine Draw.mk (ordL [12] [0, 1, 2, 3, 4, 5, 6, 7, 8, 9, 10, 11, 12, 13]) (by decide +kernel) ?_ | refine Len.map ?_ | refine Len.nil ?_ | refine Len.cons ?_ | refine Br.t rfl ?_ | refine Br.f rfl ?_ | refine Fit.au ?_ | refine Cv.au ?_ | refine Need.ne ?_ | refine Need.au ?_ | refine Pick.map (by assumption) ?_ | refine Pick.mapI (by omega) (by assumption) ?_ | refine PickN.mk _ (by assumption) ?_ | refine PickN.mk _ rfl ?_ | refine PickN.au ?_ | refine App.au rfl ?_ | refine App.au (own_map (fun _ => rfl) _) ?_ | refine Both.mk ?_ ?_ | exact True.intro | (refine Br.d (fun h => ?_) (fun h => ?_) <;> try (exfalso; omega)) | (refine Br.nd (fun h => ?_) (fun h => ?_) <;> try (exfalso; omega)) | (refine Br.mk (fun h => ?_) (fun h => ?_) <;> try (exfalso; omega))
  all_goals first
    | (refine .inl ?_
       show _ = _
       unfold kindsF
       repeat' first | rw [if_pos (by omega)] | rw [if_neg (by omega)]
       rfl)
    | (refine Ax.Sub.mk _ (by omega) (by omega) (by simp only [List.length_map]; omega) rfl ?_
       refine .inr ?_
       show AV.sl false 1 _ = _
       unfold kindsF
       repeat' first | rw [if_pos (by omega)] | rw [if_neg (by omega)]
       simp [List.map_take])
    | skip
  all_goals
    refine Stop.mk (loop_in (fun m : Nat => [(4, .hp 1 0), (5, .hp 2 0), (7, .hw 3), (9, .hw 4), (10, num m)]) (fun m => [(1, .var f.cs), (2, .var i.cs), (3, .row 1 ((usesF i).map int1)), (4, .row 1 ((List.replicate m (if i.op = 44 then f.regs.getD i.dst.toNat 0 else 1)).map int1))]) 5 (fun m => m ≤ (usesF i).length) (fun m => (usesF i).length - m) 0 (by omega) (g := []) ⟨rfl, (by repeat' first | exact trivial | refine ⟨rfl, ?_⟩ | refine ⟨congrArg (fun n => AV.lit (.int .i64 n)) (by omega), ?_⟩ | refine ⟨congrArg (fun l => some (Row.row 1 l)) (by simp [int1, num, tru]), ?_⟩), (by repeat' first | exact trivial | refine ⟨rfl, ?_⟩ | refine ⟨congrArg (fun n => AV.lit (.int .i64 n)) (by omega), ?_⟩ | refine ⟨congrArg (fun l => some (Row.row 1 l)) (by simp [int1, num, tru]), ?_⟩)⟩ (fun m hm ih => ?_))
    refine go 1000 Tryd.func89 ?_
    repeat' first | refine Len.map ?_ | refine Len.nil ?_ | refine Len.cons ?_ | refine Br.t rfl ?_ | refine Br.f rfl ?_ | refine Fit.au ?_ | refine Cv.au ?_ | refine Need.ne ?_ | refine Need.au ?_ | refine Pick.map (by assumption) ?_ | refine Pick.mapI (by omega) (by assumption) ?_ | refine PickN.mk _ (by assumption) ?_ | refine PickN.mk _ rfl ?_ | refine PickN.au ?_ | refine App.au rfl ?_ | refine App.au (own_map (fun _ => rfl) _) ?_ | refine Both.mk ?_ ?_ | exact True.intro
    refine Br.d (fun h2 => ?_) (fun h2 => ?_)
    · obtain ⟨u, gu, gum⟩ := getK (l := usesF i) (k := m) (by omega)
      have hlr : (List.replicate m (if i.op = 44 then f.regs.getD i.dst.toNat 0 else 1)).length = m := List.length_replicate
      repeat' first | refine Len.map ?_ | refine Len.nil ?_ | refine Len.cons ?_ | refine Br.t rfl ?_ | refine Br.f rfl ?_ | refine Fit.au ?_ | refine Cv.au ?_ | refine Need.ne ?_ | refine Need.au ?_ | refine Pick.map (by assumption) ?_ | refine Pick.mapI (by omega) (by assumption) ?_ | refine PickN.mk _ (by assumption) ?_ | refine PickN.mk _ rfl ?_ | refine PickN.au ?_ | refine App.au rfl ?_ | refine App.au (own_map (fun _ => rfl) _) ?_ | refine Both.mk ?_ ?_ | exact True.intro
      refine Br.d (fun h3 => ?_) (fun h3 => ?_)
      · repeat' first | refine Pick_getD 0 (by omega) (by omega) ?_ | refine Len.map ?_ | refine Len.nil ?_ | refine Len.cons ?_ | refine Br.t rfl ?_ | refine Br.f rfl ?_ | refine Fit.au ?_ | refine Cv.au ?_ | refine Need.ne ?_ | refine Need.au ?_ | refine Pick.map (by assumption) ?_ | refine Pick.mapI (by omega) (by assumption) ?_ | refine PickN.mk _ (by assumption) ?_ | refine PickN.mk _ rfl ?_ | refine PickN.au ?_ | refine App.au rfl ?_ | refine App.au (own_map (fun _ => rfl) _) ?_ | refine Both.mk ?_ ?_ | exact True.intro
        refine Stop.mk (ih (m + 1) (g := [(4, 6)]) _ _ _ (by omega) (by omega) ?_)
        rw [List.replicate_succ', List.map_append, if_pos h3]
        exact ⟨rfl, (by repeat' first | exact trivial | refine ⟨rfl, ?_⟩ | refine ⟨congrArg (fun n => AV.lit (.int .i64 n)) (by omega), ?_⟩ | refine ⟨congrArg (fun l => some (Row.row 1 l)) (by simp [int1, num, tru]), ?_⟩), (by repeat' first | exact trivial | refine ⟨rfl, ?_⟩ | refine ⟨congrArg (fun n => AV.lit (.int .i64 n)) (by omega), ?_⟩ | refine ⟨congrArg (fun l => some (Row.row 1 l)) (by simp [int1, num, tru]), ?_⟩)⟩
      · repeat' first | refine Len.map ?_ | refine Len.nil ?_ | refine Len.cons ?_ | refine Br.t rfl ?_ | refine Br.f rfl ?_ | refine Fit.au ?_ | refine Cv.au ?_ | refine Need.ne ?_ | refine Need.au ?_ | refine Pick.map (by assumption) ?_ | refine Pick.mapI (by omega) (by assumption) ?_ | refine PickN.mk _ (by assumption) ?_ | refine PickN.mk _ rfl ?_ | refine PickN.au ?_ | refine App.au rfl ?_ | refine App.au (own_map (fun _ => rfl) _) ?_ | refine Both.mk ?_ ?_ | exact True.intro
        refine Stop.mk (ih (m + 1) (g := [(4, 6)]) _ _ _ (by omega) (by omega) ?_)
        rw [List.replicate_succ', List.map_append, if_neg h3]
        exact ⟨rfl, (by repeat' first | exact trivial | refine ⟨rfl, ?_⟩ | refine ⟨congrArg (fun n => AV.lit (.int .i64 n)) (by omega), ?_⟩ | refine ⟨congrArg (fun l => some (Row.row 1 l)) (by simp [int1, num, tru]), ?_⟩), (by repeat' first | exact trivial | refine ⟨rfl, ?_⟩ | refine ⟨congrArg (fun n => AV.lit (.int .i64 n)) (by omega), ?_⟩ | refine ⟨congrArg (fun l => some (Row.row 1 l)) (by simp [int1, num, tru]), ?_⟩)⟩
    · repeat' first | refine Len.map ?_ | refine Len.nil ?_ | refine Len.cons ?_ | refine Br.t rfl ?_ | refine Br.f rfl ?_ | refine Fit.au ?_ | refine Cv.au ?_ | refine Need.ne ?_ | refine Need.au ?_ | refine Pick.map (by assumption) ?_ | refine Pick.mapI (by omega) (by assumption) ?_ | refine PickN.mk _ (by assumption) ?_ | refine PickN.mk _ rfl ?_ | refine PickN.au ?_ | refine App.au rfl ?_ | refine App.au (own_map (fun _ => rfl) _) ?_ | refine Both.mk ?_ ?_ | exact True.intro
      have : m = (usesF i).length := by omega
      subst this
      refine .inl ?_
      show _ = _
      unfold kindsF
      generalize (if i.op = 44 then f.regs.getD i.dst.toNat 0 else 1) = c
      repeat' first | rw [if_pos (by omega)] | rw [if_neg (by omega)]
      rfl
end Go.Proofs.YtdgibhndjdgllaaDoor

/- The check of programs: kinds, a function itself, by contracts. -/
namespace Go.Proofs.YtdgibhndjdgllaaDoor
open Go.Ax
set_option maxRecDepth 10000
set_option linter.unusedVariables false

theorem kinds_spec (l : List Int) (hl : l.length < 9223372036854775807) : FnSpec Tryd.prog 85 [ints l] (fun r => r = tru (decide (∀ x ∈ l, 1 ≤ x ∧ x ≤ 3))) := by
  refine spec_of 1000 Tryd.func85 rfl rfl ?_
  repeat' first | refine Len.map ?_ | refine Len.nil ?_ | refine Len.cons ?_ | refine Br.t rfl ?_ | refine Br.f rfl ?_ | refine Fit.au ?_ | refine Cv.au ?_ | refine Need.ne ?_ | refine Need.au ?_ | refine Pick.map (by assumption) ?_ | refine Pick.mapI (by omega) (by assumption) ?_ | refine PickN.mk _ (by assumption) ?_ | refine PickN.mk _ rfl ?_ | refine PickN.au ?_ | refine App.au rfl ?_ | refine App.au (own_map (fun _ => rfl) _) ?_ | refine Both.mk ?_ ?_ | exact True.intro
  refine Stop.mk (loop_in (fun m : Nat => [(0, ints l), (3, num m)]) (fun _ => []) 0 (fun m => m ≤ l.length ∧ ∀ x ∈ l.take m, 1 ≤ x ∧ x ≤ 3) (fun m => l.length - m) 0 ⟨by omega, by simp⟩ (g := []) ⟨rfl, (by repeat' first | exact trivial | refine ⟨rfl, ?_⟩ | refine ⟨congrArg (fun n => AV.lit (.int .i64 n)) (by omega), ?_⟩ | refine ⟨congrArg (fun l => some (Row.row 1 l)) (by simp [int1, num, tru]), ?_⟩), (by repeat' first | exact trivial | refine ⟨rfl, ?_⟩ | refine ⟨congrArg (fun n => AV.lit (.int .i64 n)) (by omega), ?_⟩ | refine ⟨congrArg (fun l => some (Row.row 1 l)) (by simp [int1, num, tru]), ?_⟩)⟩ (fun m hm ih => ?_))
  obtain ⟨hm, hw⟩ := hm
  refine go 1000 Tryd.func85 ?_
  repeat' first | refine Len.map ?_ | refine Len.nil ?_ | refine Len.cons ?_ | refine Br.t rfl ?_ | refine Br.f rfl ?_ | refine Fit.au ?_ | refine Cv.au ?_ | refine Need.ne ?_ | refine Need.au ?_ | refine Pick.map (by assumption) ?_ | refine Pick.mapI (by omega) (by assumption) ?_ | refine PickN.mk _ (by assumption) ?_ | refine PickN.mk _ rfl ?_ | refine PickN.au ?_ | refine App.au rfl ?_ | refine App.au (own_map (fun _ => rfl) _) ?_ | refine Both.mk ?_ ?_ | exact True.intro
  refine Br.d (fun h2 => ?_) (fun h2 => ?_)
  · obtain ⟨x, gx, gxm⟩ := getK (l := l) (k := m) (by omega)
    have bad : ¬ (1 ≤ x ∧ x ≤ 3) → decide (∀ x ∈ l, 1 ≤ x ∧ x ≤ 3) = false := fun h => decide_eq_false fun h' => h (h' x gxm)
    repeat' first | refine Len.map ?_ | refine Len.nil ?_ | refine Len.cons ?_ | refine Br.t rfl ?_ | refine Br.f rfl ?_ | refine Fit.au ?_ | refine Cv.au ?_ | refine Need.ne ?_ | refine Need.au ?_ | refine Pick.map (by assumption) ?_ | refine Pick.mapI (by omega) (by assumption) ?_ | refine PickN.mk _ (by assumption) ?_ | refine PickN.mk _ rfl ?_ | refine PickN.au ?_ | refine App.au rfl ?_ | refine App.au (own_map (fun _ => rfl) _) ?_ | refine Both.mk ?_ ?_ | exact True.intro | refine Br.d (fun h => ?_) (fun h => ?_) | refine Br.nd (fun h => ?_) (fun h => ?_) | refine Br.mk (fun h => ?_) (fun h => ?_)
    · rw [bad (by omega)]; rfl
    · rw [bad (by omega)]; rfl
    · refine Stop.mk (ih (m + 1) (g := []) _ _ _ ⟨by omega, all_take_succ gx hw (by omega)⟩ (by omega) ⟨rfl, (by repeat' first | exact trivial | refine ⟨rfl, ?_⟩ | refine ⟨congrArg (fun n => AV.lit (.int .i64 n)) (by omega), ?_⟩ | refine ⟨congrArg (fun l => some (Row.row 1 l)) (by simp [int1, num, tru]), ?_⟩), (by repeat' first | exact trivial | refine ⟨rfl, ?_⟩ | refine ⟨congrArg (fun n => AV.lit (.int .i64 n)) (by omega), ?_⟩ | refine ⟨congrArg (fun l => some (Row.row 1 l)) (by simp [int1, num, tru]), ?_⟩)⟩)
  · repeat' first | refine Len.map ?_ | refine Len.nil ?_ | refine Len.cons ?_ | refine Br.t rfl ?_ | refine Br.f rfl ?_ | refine Fit.au ?_ | refine Cv.au ?_ | refine Need.ne ?_ | refine Need.au ?_ | refine Pick.map (by assumption) ?_ | refine Pick.mapI (by omega) (by assumption) ?_ | refine PickN.mk _ (by assumption) ?_ | refine PickN.mk _ rfl ?_ | refine PickN.au ?_ | refine App.au rfl ?_ | refine App.au (own_map (fun _ => rfl) _) ?_ | refine Both.mk ?_ ?_ | exact True.intro
    rw [take_all (by omega)] at hw
    rw [decide_eq_true hw]; rfl
end Go.Proofs.YtdgibhndjdgllaaDoor

/- The check of programs: one instruction, by a contract. -/
namespace Go.Proofs.YtdgibhndjdgllaaDoor
open Go.Ax
set_option maxRecDepth 10000
set_option linter.unusedVariables false

theorem one16_spec (p : Pro) (f : Fun) (k j : Nat) (b : List Ins) (i : Ins) (gb : f.blocks[k]? = some b) (gi : b[j]? = some i) (hp : p.fits) (hf : f.fits) (hi : i.args.length < 100000) (hg : ∀ g ∈ p.funcs, g.regs.length < 1000000) :
    FnSpec Tryd.prog 58 [proA p, funA f, num k, num j] (fun r => r = num (oneE p f k b j i)) := by
  have gm := List.mem_of_getElem? gb
  have gim := List.mem_of_getElem? gi
  have hkn := (List.getElem?_eq_some_iff.1 gb).1
  have hjn := (List.getElem?_eq_some_iff.1 gi).1
  obtain ⟨hb1, hb2⟩ := hf.2.2 b gm
  have hif := hb2 i gim
  refine spec_of 1000 Tryd.func58 rfl rfl ?_
  repeat' first | refine Len.map ?_ | refine Len.nil ?_ | refine Len.cons ?_ | refine Br.t rfl ?_ | refine Br.f rfl ?_ | refine Fit.au ?_ | refine Cv.au ?_ | refine Need.ne ?_ | refine Need.au ?_ | refine Pick.map (by assumption) ?_ | refine Pick.mapI (by omega) (by assumption) ?_ | refine PickN.mk _ (by assumption) ?_ | refine PickN.mk _ rfl ?_ | refine PickN.au ?_ | refine App.au rfl ?_ | refine App.au (own_map (fun _ => rfl) _) ?_ | refine Both.mk ?_ ?_ | exact True.intro
  refine Call.of (form_spec b j i gi hb1 hif) ?_
  rintro r ⟨v, rfl, hv⟩
  refine ⟨rfl, ?_⟩
  repeat' first | refine Len.map ?_ | refine Len.nil ?_ | refine Len.cons ?_ | refine Br.t rfl ?_ | refine Br.f rfl ?_ | refine Fit.au ?_ | refine Cv.au ?_ | refine Need.ne ?_ | refine Need.au ?_ | refine Pick.map (by assumption) ?_ | refine Pick.mapI (by omega) (by assumption) ?_ | refine PickN.mk _ (by assumption) ?_ | refine PickN.mk _ rfl ?_ | refine PickN.au ?_ | refine App.au rfl ?_ | refine App.au (own_map (fun _ => rfl) _) ?_ | refine Both.mk ?_ ?_ | exact True.intro
  refine Br.mk (fun h1 => ?_) (fun h1 => ?_)
  · repeat' first | refine Len.map ?_ | refine Len.nil ?_ | refine Len.cons ?_ | refine Br.t rfl ?_ | refine Br.f rfl ?_ | refine Fit.au ?_ | refine Cv.au ?_ | refine Need.ne ?_ | refine Need.au ?_ | refine Pick.map (by assumption) ?_ | refine Pick.mapI (by omega) (by assumption) ?_ | refine PickN.mk _ (by assumption) ?_ | refine PickN.mk _ rfl ?_ | refine PickN.au ?_ | refine App.au rfl ?_ | refine App.au (own_map (fun _ => rfl) _) ?_ | refine Both.mk ?_ ?_ | exact True.intro
    have e : oneE p f k b j i = 5 := if_neg fun h => by have := hv.2 h; simp_all
    rw [e]; rfl
  have hform := hv.1 (by simpa using h1)
  have hr := hform.1
  repeat' first | refine Len.map ?_ | refine Len.nil ?_ | refine Len.cons ?_ | refine Br.t rfl ?_ | refine Br.f rfl ?_ | refine Fit.au ?_ | refine Cv.au ?_ | refine Need.ne ?_ | refine Need.au ?_ | refine Pick.map (by assumption) ?_ | refine Pick.mapI (by omega) (by assumption) ?_ | refine PickN.mk _ (by assumption) ?_ | refine PickN.mk _ rfl ?_ | refine PickN.au ?_ | refine App.au rfl ?_ | refine App.au (own_map (fun _ => rfl) _) ?_ | refine Both.mk ?_ ?_ | exact True.intro
  refine Call.of (there_spec p f k i hp hf (by omega) hr) ?_
  rintro r ⟨v2, rfl, hv2⟩
  refine ⟨rfl, ?_⟩
  repeat' first | refine Len.map ?_ | refine Len.nil ?_ | refine Len.cons ?_ | refine Br.t rfl ?_ | refine Br.f rfl ?_ | refine Fit.au ?_ | refine Cv.au ?_ | refine Need.ne ?_ | refine Need.au ?_ | refine Pick.map (by assumption) ?_ | refine Pick.mapI (by omega) (by assumption) ?_ | refine PickN.mk _ (by assumption) ?_ | refine PickN.mk _ rfl ?_ | refine PickN.au ?_ | refine App.au rfl ?_ | refine App.au (own_map (fun _ => rfl) _) ?_ | refine Both.mk ?_ ?_ | exact True.intro
  refine Br.mk (fun h2 => ?_) (fun h2 => ?_)
  · repeat' first | refine Len.map ?_ | refine Len.nil ?_ | refine Len.cons ?_ | refine Br.t rfl ?_ | refine Br.f rfl ?_ | refine Fit.au ?_ | refine Cv.au ?_ | refine Need.ne ?_ | refine Need.au ?_ | refine Pick.map (by assumption) ?_ | refine Pick.mapI (by omega) (by assumption) ?_ | refine PickN.mk _ (by assumption) ?_ | refine PickN.mk _ rfl ?_ | refine PickN.au ?_ | refine App.au rfl ?_ | refine App.au (own_map (fun _ => rfl) _) ?_ | refine Both.mk ?_ ?_ | exact True.intro
    have e : oneE p f k b j i = 2 := by unfold oneE; rw [if_pos hform, if_neg fun h => by have := hv2.2 h; simp_all]
    rw [e]; rfl
  have hth := hv2.1 (by simpa using h2)
  have hul := usesF_len i
  have hkl := kindsF_len (f := f) hi hg
  have hup := uses_pos hr
  have hub : ∀ u ∈ usesF i, 0 ≤ u ∧ u < f.regs.length := fun u hu => ⟨hup u hu, hth.2.1 u hu⟩
  repeat' first | refine Draw.mk (ordL [2, 6, 7, 12, 23] [0, 1, 3, 4, 5, 2, 6, 7, 8, 9, 10, 11, 12, 13, 14, 15, 16, 17, 18, 19, 20, 21, 22, 23, 24, 25, 26]) (by decide +kernel) ?_ | refine Call.eq (Uses_spec i (by omega)) rfl ?_ | refine Len.map ?_ | refine Len.nil ?_ | refine Len.cons ?_ | refine Br.t rfl ?_ | refine Br.f rfl ?_ | refine Fit.au ?_ | refine Cv.au ?_ | refine Need.ne ?_ | refine Need.au ?_ | refine Pick.map (by assumption) ?_ | refine Pick.mapI (by omega) (by assumption) ?_ | refine PickN.mk _ (by assumption) ?_ | refine PickN.mk _ rfl ?_ | refine PickN.au ?_ | refine App.au rfl ?_ | refine App.au (own_map (fun _ => rfl) _) ?_ | refine Both.mk ?_ ?_ | exact True.intro
  refine Call.of (reads16_spec p f k i hp hf (by omega) hr hth) ?_
  have hall := all_spec f (usesF i) (kindsF p f i) (by omega) hkl hub
  have hw : writesF i.op = true → 0 ≤ i.dst ∧ i.dst < f.regs.length := fun h => by
    have h1 := hth.1
    rw [right_def hr h] at h1
    exact ⟨(right_pos hr).1, h1⟩
  have bad : ¬ typeP p f i → oneE p f k b j i = 11 := fun h => by unfold oneE; rw [if_pos hform, if_pos hth, if_neg h]
  have good : typeP p f i → oneE p f k b j i = 0 := fun h => by unfold oneE; rw [if_pos hform, if_pos hth, if_pos h]
  rintro r (rfl | rfl)
  all_goals
    refine ⟨rfl, ?_⟩
    repeat' first | refine Draw.mk (ordL [2, 6, 7, 12, 23] [0, 1, 3, 4, 5, 2, 6, 7, 8, 9, 10, 11, 12, 13, 14, 15, 16, 17, 18, 19, 20, 21, 22, 23, 24, 25, 26]) (by decide +kernel) ?_ | refine Look.yes ?_ | refine View.map (fun _ => rfl) ?_ | refine CallV.eq hall rfl (Free.lit _) ?_ | refine Len.map ?_ | refine Len.nil ?_ | refine Len.cons ?_ | refine Br.t rfl ?_ | refine Br.f rfl ?_ | refine Fit.au ?_ | refine Cv.au ?_ | refine Need.ne ?_ | refine Need.au ?_ | refine Pick.map (by assumption) ?_ | refine Pick.mapI (by omega) (by assumption) ?_ | refine PickN.mk _ (by assumption) ?_ | refine PickN.mk _ rfl ?_ | refine PickN.au ?_ | refine App.au rfl ?_ | refine App.au (own_map (fun _ => rfl) _) ?_ | refine Both.mk ?_ ?_ | exact True.intro
    refine Br.nd (fun h3 => ?_) (fun h3 => ?_)
    · repeat' first | refine Len.map ?_ | refine Len.nil ?_ | refine Len.cons ?_ | refine Br.t rfl ?_ | refine Br.f rfl ?_ | refine Fit.au ?_ | refine Cv.au ?_ | refine Need.ne ?_ | refine Need.au ?_ | refine Pick.map (by assumption) ?_ | refine Pick.mapI (by omega) (by assumption) ?_ | refine PickN.mk _ (by assumption) ?_ | refine PickN.mk _ rfl ?_ | refine PickN.au ?_ | refine App.au rfl ?_ | refine App.au (own_map (fun _ => rfl) _) ?_ | refine Both.mk ?_ ?_ | exact True.intro
      rw [bad fun h => h3 h.1]; rfl
    · repeat' first | refine Call.eq (Writes_spec _) rfl ?_ | refine Len.map ?_ | refine Len.nil ?_ | refine Len.cons ?_ | refine Br.t rfl ?_ | refine Br.f rfl ?_ | refine Fit.au ?_ | refine Cv.au ?_ | refine Need.ne ?_ | refine Need.au ?_ | refine Pick.map (by assumption) ?_ | refine Pick.mapI (by omega) (by assumption) ?_ | refine PickN.mk _ (by assumption) ?_ | refine PickN.mk _ rfl ?_ | refine PickN.au ?_ | refine App.au rfl ?_ | refine App.au (own_map (fun _ => rfl) _) ?_ | refine Both.mk ?_ ?_ | exact True.intro
      refine Br.mk (fun h4 => ?_) (fun h4 => ?_)
      · obtain ⟨w1, w2⟩ := hw h4
        repeat' first | refine Pick_getD 0 (by omega) (by omega) ?_ | refine Call.eq (writes16_spec p f k i hp hf hr hth) rfl ?_ | refine Len.map ?_ | refine Len.nil ?_ | refine Len.cons ?_ | refine Br.t rfl ?_ | refine Br.f rfl ?_ | refine Fit.au ?_ | refine Cv.au ?_ | refine Need.ne ?_ | refine Need.au ?_ | refine Pick.map (by assumption) ?_ | refine Pick.mapI (by omega) (by assumption) ?_ | refine PickN.mk _ (by assumption) ?_ | refine PickN.mk _ rfl ?_ | refine PickN.au ?_ | refine App.au rfl ?_ | refine App.au (own_map (fun _ => rfl) _) ?_ | refine Both.mk ?_ ?_ | exact True.intro
        refine Br.nd (fun h5 => ?_) (fun h5 => ?_)
        · repeat' first | refine Len.map ?_ | refine Len.nil ?_ | refine Len.cons ?_ | refine Br.t rfl ?_ | refine Br.f rfl ?_ | refine Fit.au ?_ | refine Cv.au ?_ | refine Need.ne ?_ | refine Need.au ?_ | refine Pick.map (by assumption) ?_ | refine Pick.mapI (by omega) (by assumption) ?_ | refine PickN.mk _ (by assumption) ?_ | refine PickN.mk _ rfl ?_ | refine PickN.au ?_ | refine App.au rfl ?_ | refine App.au (own_map (fun _ => rfl) _) ?_ | refine Both.mk ?_ ?_ | exact True.intro
          rw [bad fun h => h5 (h.2 h4)]; rfl
        · repeat' first | refine Len.map ?_ | refine Len.nil ?_ | refine Len.cons ?_ | refine Br.t rfl ?_ | refine Br.f rfl ?_ | refine Fit.au ?_ | refine Cv.au ?_ | refine Need.ne ?_ | refine Need.au ?_ | refine Pick.map (by assumption) ?_ | refine Pick.mapI (by omega) (by assumption) ?_ | refine PickN.mk _ (by assumption) ?_ | refine PickN.mk _ rfl ?_ | refine PickN.au ?_ | refine App.au rfl ?_ | refine App.au (own_map (fun _ => rfl) _) ?_ | refine Both.mk ?_ ?_ | exact True.intro
          rw [good ⟨h3, fun _ => h5⟩]; rfl
      · repeat' first | refine Len.map ?_ | refine Len.nil ?_ | refine Len.cons ?_ | refine Br.t rfl ?_ | refine Br.f rfl ?_ | refine Fit.au ?_ | refine Cv.au ?_ | refine Need.ne ?_ | refine Need.au ?_ | refine Pick.map (by assumption) ?_ | refine Pick.mapI (by omega) (by assumption) ?_ | refine PickN.mk _ (by assumption) ?_ | refine PickN.mk _ rfl ?_ | refine PickN.au ?_ | refine App.au rfl ?_ | refine App.au (own_map (fun _ => rfl) _) ?_ | refine Both.mk ?_ ?_ | exact True.intro
        rw [good ⟨h3, fun h => by rw [h4] at h; cases h⟩]; rfl
end Go.Proofs.YtdgibhndjdgllaaDoor
