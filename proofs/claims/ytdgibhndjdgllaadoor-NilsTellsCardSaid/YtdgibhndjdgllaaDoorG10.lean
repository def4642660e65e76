/- The flow's greatest solution is what going back from block to block tells. No program is in sight here. -/
import Derived.Test.YtdgibhndjdgllaaDoorG09
import Derived.Test.YtdgibhndjdgllaaDoorG08
import Derived.Test.YtdgibhndjdgllaaDoorG06
import Derived.Test.YtdgibhndjdgllaaDoorG04
set_option linter.unusedVariables false
set_option linter.unusedSimpArgs false

namespace Go.Proofs.YtdgibhndjdgllaaDoor
open Go.Ax
def predK (f : Fun) (k : Nat) : List Int := (predsF (succsF f)).getD k []
def lastB (f : Fun) (q : Int) (j : Int) : Int := lastN f q (f.blocks.getD j.toNat [])
/-- Whence one comes while nothing is done with a root. -/
inductive BackN (f : Fun) (q : Int) (k : Nat) : Int → Prop
  | base {j : Int} : j ∈ predK f k → BackN f q k j
  | step {j t : Int} : BackN f q k j → lastB f q j = 0 → t ∈ predK f j.toNat → BackN f q k t
/-- Some way comes from where it is written, or from the beginning. -/
def BadK (f : Fun) (k : Nat) (q : Int) : Prop := ∃ j, BackN f q k j ∧ (lastB f q j = 2 ∨ (lastB f q j = 0 ∧ j = 0))
/-- It is asked for on each way to a block. -/
def AskK (f : Fun) (k : Nat) (q : Int) : Prop := k ≠ 0 ∧ ¬ BadK f k q
def AskP (f : Fun) (k a : Nat) (q : Int) : Prop := lastN f q ((f.blocks.getD k []).take a) = 1 ∨ (lastN f q ((f.blocks.getD k []).take a) = 0 ∧ AskK f k q)
theorem pred_rng {f : Fun} {k : Nat} {j : Int} (h : j ∈ predK f k) : 0 ≤ j ∧ j.toNat < f.blocks.length := by
  unfold predK at h
  by_cases hk : k < (succsF f).length
  · rw [← predsD_eq, mem_predsD hk] at h
    obtain ⟨a, ha, rfl, _⟩ := h
    rw [succsF_len] at ha
    omega
  · rw [List.getD_eq_getElem?_getD, List.getElem?_eq_none (by unfold predsF; rw [List.length_map, List.length_range]; omega)] at h; cases h
theorem BackN.rng {f : Fun} {q : Int} {k : Nat} {j : Int} (h : BackN f q k j) : 0 ≤ j ∧ j.toNat < f.blocks.length := by
  cases h with
  | base h => exact pred_rng h
  | step _ _ h => exact pred_rng h
theorem BackN.behind {f : Fun} {q : Int} {s : Nat} {j : Int} (h : BackN f q s j) {k : Nat} (hs : (s : Int) ∈ predK f k) (h0 : lastB f q s = 0) : BackN f q k j := by
  induction h with
  | base h => exact .step (.base hs) h0 h
  | step _ h1 h2 ih => exact .step ih h1 h2
/-- What is bad ahead of a block is bad at one of those ahead of it. -/
theorem badK_iff {f : Fun} {k : Nat} {q : Int} : BadK f k q ↔ ∃ s ∈ predK f k, lastB f q s = 2 ∨ (lastB f q s = 0 ∧ (s = 0 ∨ BadK f s.toNat q)) := by
  constructor
  · rintro ⟨j, hj, h1⟩
    have key : ∀ j, BackN f q k j → (lastB f q j = 2 ∨ (lastB f q j = 0 ∧ (j = 0 ∨ BadK f j.toNat q))) → ∃ s ∈ predK f k, lastB f q s = 2 ∨ (lastB f q s = 0 ∧ (s = 0 ∨ BadK f s.toNat q)) := by
      intro j hj
      induction hj with
      | @base j h => exact fun h2 => ⟨j, h, h2⟩
      | @step j t h0 h1 h2 ih =>
        intro h3
        refine ih (.inr ⟨h1, .inr ?_⟩)
        have hr := pred_rng h2
        rcases h3 with h3 | ⟨h3, h4 | ⟨u, hu, h5⟩⟩
        · exact ⟨t, .base h2, .inl h3⟩
        · exact ⟨t, .base h2, .inr ⟨h3, h4⟩⟩
        · exact ⟨u, hu.behind (by rw [Int.toNat_of_nonneg hr.1]; exact h2) (by rw [Int.toNat_of_nonneg hr.1]; exact h3), h5⟩
    exact key j hj (h1.imp id fun h => ⟨h.1, .inl h.2⟩)
  · rintro ⟨s, hs, h | ⟨h, h2 | ⟨j, hj, h1⟩⟩⟩
    · exact ⟨s, .base hs, .inl h⟩
    · exact ⟨s, .base hs, .inr ⟨h, h2⟩⟩
    · have := pred_rng hs
      exact ⟨j, hj.behind (by rw [Int.toNat_of_nonneg this.1]; exact hs) (by rw [Int.toNat_of_nonneg this.1]; exact h), h1⟩
theorem stepB_nil (f : Fun) (t : Nat → Nat → Bool) (k i : Nat) : stepB (nilsP f) t k i = (decide (k ≠ 0 ∧ i < f.regs.length) && (predK f k).all fun a => t a.toNat i) := by
  have hb : ∀ row, beginB (nilsP f) k row i = decide (k ≠ 0 ∧ i < f.regs.length) := fun row => by
    unfold beginB meetB noneB nilsP
    dsimp only
    rw [hasW_new]
    by_cases h : k = 0
    · simp [h]
    · simp [h]
  have e : aheadAt (nilsP f) k = predK f k := by
    unfold aheadAt aheadL predK nilsP
    dsimp only
    rw [if_neg (by simp), predsD_eq]
  show fromB (nilsP f) k (aheadAt (nilsP f) k) t i = _
  rw [e]
  unfold fromB
  rw [hb]
  have key : ∀ (l : List Int) (o : Bool), l.foldl (fun o a => meetB (nilsP f) o (t a.toNat i)) o = (o && l.all fun a => t a.toNat i) := by
    intro l
    induction l with
    | nil => intro o; simp
    | cons a l ih =>
      intro o
      rw [List.foldl_cons, ih, List.all_cons, ← Bool.and_assoc]; rfl
  rw [key]
theorem toB_nil {f : Fun} (h : NilOK f) {k : Nat} (hk : k < f.blocks.length) (b : Bool) (i : Nat) (hi : i < f.regs.length) :
    toB (nilsP f) k b i = (decide (lastB f i k = 1) || (decide (lastB f i k = 0) && b)) := by
  have hm : f.blocks.getD k [] ∈ f.blocks := getD_mem hk
  have e1 : (nilsP f).gen.getD k [] = nilsW f (f.blocks.getD k []) (newW f.regs.length) := by
    show (f.blocks.map _).getD k [] = _
    rw [List.getD_eq_getElem?_getD, List.getD_eq_getElem?_getD, List.getElem?_map, List.getElem?_eq_getElem hk]; rfl
  have e2 : (nilsP f).kill.getD k [] = lessW (fullW f.regs.length) (nilsW f (f.blocks.getD k []) (fullW f.regs.length)) := by
    show (f.blocks.map _).getD k [] = _
    rw [List.getD_eq_getElem?_getD, List.getD_eq_getElem?_getD, List.getElem?_map, List.getElem?_eq_getElem hk]; rfl
  unfold toB
  rw [e1, e2, hasW_less, hasW_nils (h.ins _ hm) (newW_len _), hasW_nils (h.ins _ hm) (fullW_len _), hasW_new, hasW_full]
  unfold lastB
  rw [Int.toNat_natCast]
  clear e1 e2 hm
  generalize f.blocks.getD k [] = bk
  rcases lastN_cases f i bk with e | e | e <;> simp [e, hi]
theorem toB_nil_out {f : Fun} (h : NilOK f) {k : Nat} (hk : k < f.blocks.length) (b : Bool) (i : Nat) (hi : ¬ i < f.regs.length) (hb : b = false) : toB (nilsP f) k b i = false := by
  have hm : f.blocks.getD k [] ∈ f.blocks := getD_mem hk
  have e1 : (nilsP f).gen.getD k [] = nilsW f (f.blocks.getD k []) (newW f.regs.length) := by
    show (f.blocks.map _).getD k [] = _
    rw [List.getD_eq_getElem?_getD, List.getD_eq_getElem?_getD, List.getElem?_map, List.getElem?_eq_getElem hk]; rfl
  unfold toB
  rw [e1, hasW_nils (h.ins _ hm) (newW_len _), hasW_new, hb]
  have : ¬ lastN f i (f.blocks.getD k []) = 1 := fun e => by
    obtain ⟨x, hx, ha, hr⟩ := last_one e
    have := ((h.ins _ hm x hx).2 ha).2
    omega
  clear e1 hm
  generalize f.blocks.getD k [] = bk at *
  simp [this]
open Classical in
/-- What is asked for where each block begins, and where it ends. -/
theorem nil_sol {f : Fun} (h : NilOK f) {T F : List (List W)} (hs : SolP (nilsP f) T F) {k : Nat} (hk : k < f.blocks.length) (r : Nat) :
    hasW (F.getD k []) r = true ↔ r < f.regs.length ∧ AskK f k r := by
  have e0 : (nilsP f).edges.length = f.blocks.length := succsF_len f
  have hF : ∀ k i, k < f.blocks.length → bitsOf F k i = (decide (k ≠ 0 ∧ i < f.regs.length) && (predK f k).all fun a => bitsOf T a.toNat i) := fun k i hk => by
    rw [hs.from_ k i (by rw [e0]; exact hk), stepB_nil]
  by_cases hr : r < f.regs.length
  · have hT : ∀ k, k < f.blocks.length → bitsOf T k r = (decide (lastB f r k = 1) || (decide (lastB f r k = 0) && bitsOf F k r)) := fun k hk => by
      rw [hs.sol.eq k r (by rw [e0]; exact hk), toB_nil h hk _ _ hr, hs.from_ k r (by rw [e0]; exact hk)]
    have no : ∀ j : Int, 0 ≤ j ∧ j.toNat < f.blocks.length → (lastB f r j = 2 ∨ (lastB f r j = 0 ∧ (j = 0 ∨ bitsOf F j.toNat r = false))) → bitsOf T j.toNat r = false := fun j hj hb => by
      rw [hT _ hj.2, Int.toNat_of_nonneg hj.1]
      rcases hb with hb | ⟨hb, hb2⟩
      · simp [hb]
      · have : bitsOf F j.toNat r = false := by
          rcases hb2 with rfl | hb2
          · rw [hF _ _ hj.2]; simp
          · exact hb2
        simp [hb, this]
    have lo : ∀ k (j : Int), BackN f r k j → bitsOf T j.toNat r = false → k < f.blocks.length → bitsOf F k r = false := by
      intro k j hj
      induction hj with
      | @base j hj =>
        intro hb hk
        rw [hF _ _ hk]
        have : (predK f k).all (fun a => bitsOf T a.toNat r) = false := List.all_eq_false.2 ⟨j, hj, by simp [hb]⟩
        simp [this]
      | @step j t h0 h1 h2 ih =>
        intro hb hk
        refine ih (no j h0.rng (.inr ⟨h1, .inr ?_⟩)) hk
        rw [hF _ _ h0.rng.2]
        have : (predK f j.toNat).all (fun a => bitsOf T a.toNat r) = false := List.all_eq_false.2 ⟨t, h2, by simp [hb]⟩
        simp [this]
    have solN : SolB (nilsP f) fun k i => decide (i < f.regs.length ∧ (lastB f i k = 1 ∨ (lastB f i k = 0 ∧ AskK f k i))) := by
      refine ⟨fun k i hk => ?_, fun k i hk hi => ?_⟩
      · rw [e0] at hk
        by_cases hi : i < f.regs.length
        · rw [toB_nil h hk _ _ hi, stepB_nil, Bool.eq_iff_iff]
          simp only [decide_eq_true_eq, Bool.or_eq_true, Bool.and_eq_true, List.all_eq_true, hi, true_and, and_true]
          unfold AskK
          constructor
          · rintro (h1 | ⟨h1, h2, h3⟩)
            · exact .inl h1
            · refine .inr ⟨h1, h2, fun a ha => ?_⟩
              have har := pred_rng ha
              rw [Int.toNat_of_nonneg har.1]
              rcases lastN_cases f i (f.blocks.getD a.toNat []) with e | e | e
              · refine .inr ⟨e, fun ea => ?_, fun hb => h3 (badK_iff.2 ⟨a, ha, .inr ⟨e, .inr hb⟩⟩)⟩
                exact h3 (badK_iff.2 ⟨a, ha, .inr ⟨e, .inl (by omega)⟩⟩)
              · exact .inl e
              · exact absurd (badK_iff.2 ⟨a, ha, .inl e⟩) h3
          · rintro (h1 | ⟨h1, h2, h3⟩)
            · exact .inl h1
            · refine .inr ⟨h1, h2, fun hb => ?_⟩
              obtain ⟨s, hs, h4⟩ := badK_iff.1 hb
              have hsr := pred_rng hs
              have h5 := h3 s hs
              rw [Int.toNat_of_nonneg hsr.1] at h5
              rcases h4 with h4 | ⟨h4, h6⟩
              · rcases h5 with h5 | ⟨h5, _⟩ <;> omega
              · rcases h5 with h5 | ⟨_, h7, h8⟩
                · omega
                · rcases h6 with h6 | h6
                  · omega
                  · exact h8 h6
        · rw [toB_nil_out h hk _ _ hi (by rw [stepB_nil]; simp [hi])]
          simp [hi]
      · exact (of_decide_eq_true hi).1
    have hi : ∀ k, k < f.blocks.length → (lastB f r k = 1 ∨ (lastB f r k = 0 ∧ AskK f k r)) → bitsOf T k r = true := fun k hk hb => by
      have h2 : leB (nilsP f) (bitsOf T k r) (decide (r < f.regs.length ∧ (lastB f r k = 1 ∨ (lastB f r k = 0 ∧ AskK f k r)))) := hs.near _ solN k r (by rw [e0]; exact hk)
      unfold leB at h2
      rw [if_pos (by simp [nilsP])] at h2
      exact h2 (decide_eq_true ⟨hr, hb⟩)
    show bitsOf F k r = true ↔ _
    constructor
    · intro hb
      refine ⟨hr, ?_, ?_⟩
      · rintro rfl
        rw [hF _ _ hk] at hb; simp at hb
      · rintro ⟨j, hj, hbad⟩
        have := lo k j hj (no j hj.rng (hbad.imp id fun h => ⟨h.1, .inl h.2⟩)) hk
        rw [this] at hb; cases hb
    · rintro ⟨_, h0, hnb⟩
      rw [hF _ _ hk]
      simp only [ne_eq, h0, not_false_eq_true, hr, and_self, decide_true, Bool.true_and, List.all_eq_true]
      intro a ha
      have har := pred_rng ha
      refine hi _ har.2 ?_
      rw [Int.toNat_of_nonneg har.1]
      rcases lastN_cases f r (f.blocks.getD a.toNat []) with e | e | e
      · refine .inr ⟨e, fun ea => hnb (badK_iff.2 ⟨a, ha, .inr ⟨e, .inl (by omega)⟩⟩), fun hb => hnb (badK_iff.2 ⟨a, ha, .inr ⟨e, .inr hb⟩⟩)⟩
      · exact .inl e
      · exact absurd (badK_iff.2 ⟨a, ha, .inl e⟩) hnb
  · show bitsOf F k r = true ↔ _
    rw [hF _ _ hk]
    simp [hr]
/-- What is asked for ahead of an instruction. -/
theorem nil_at {f : Fun} (h : NilOK f) {T F : List (List W)} (hs : SolP (nilsP f) T F) {k : Nat} (hk : k < f.blocks.length) (a r : Nat) (hr : r < f.regs.length) :
    hasW (nilsW f ((f.blocks.getD k []).take a) (orW (F.getD k []) [])) r = true ↔ AskP f k a r := by
  have hm : f.blocks.getD k [] ∈ f.blocks := getD_mem hk
  have hl : (F.getD k []).length = wn f.regs.length := hs.widF k (by show k < (succsF f).length; rw [succsF_len]; exact hk)
  rw [hasW_nils (fun i hi => h.ins _ hm i (List.mem_of_mem_take hi)) (by rw [orn_len, hl]), hasW_orn, Bool.or_eq_true, Bool.and_eq_true, decide_eq_true_eq, decide_eq_true_eq, nil_sol h hs hk r]
  unfold AskP
  constructor
  · rintro (e | ⟨e, e2⟩)
    · exact .inl e
    · exact .inr ⟨e, e2.2⟩
  · rintro (e | ⟨e, e2⟩)
    · exact .inl e
    · exact .inr ⟨e, hr, e2⟩
end Go.Proofs.YtdgibhndjdgllaaDoor

/- Going on from block to block (the document's way): what stays so. No program is in sight here. -/
namespace Go.Proofs.YtdgibhndjdgllaaDoor
open Go.Ax
def missN (n : Nat) (l : List Int) : Nat := ((List.range n).filter fun (k : Nat) => !decide ((k : Int) ∈ l)).length
theorem missN_le (n : Nat) (l : List Int) : missN n l ≤ n := by
  have := List.length_filter_le (fun (k : Nat) => !decide ((k : Int) ∈ l)) (List.range n)
  rw [List.length_range] at this; exact this
theorem missN_app {n : Nat} {l : List Int} {t : Int} (h0 : 0 ≤ t) (h1 : t.toNat < n) (hn : t ∉ l) : missN n (l ++ [t]) < missN n l := by
  unfold missN
  refine filter_lt (fun x hx h => ?_) ⟨t.toNat, List.mem_range.2 h1, ?_, ?_⟩
  · simp at h ⊢; exact h.1
  · simp; rw [Int.max_eq_left h0]; exact hn
  · simp; omega
/-- What stays so. -/
structure NeedI (f : Fun) (r : Int) (k : Nat) (l : List Int) (i : Nat) : Prop where
  all_ : ∀ j ∈ l, ReachN f r k j
  base : ∀ j ∈ (succsF f).getD k [], j ∈ l
  done : ∀ m j, m < i → l[m]? = some j → lookL (f.blocks.getD j.toNat []) r ≠ 1 ∧ (lookL (f.blocks.getD j.toNat []) r = 0 → ∀ t ∈ (succsF f).getD j.toNat [], t ∈ l)
  le : i ≤ l.length
  few : l.length + missN f.blocks.length l ≤ f.blocks.length + 2
theorem NeedI.start {f : Fun} {r : Int} {k : Nat} (hl : ((succsF f).getD k []).length ≤ 2) : NeedI f r k ((succsF f).getD k []) 0 :=
  ⟨fun j h => .base h, fun j h => h, fun m j h => by omega, Nat.zero_le _, by have := missN_le f.blocks.length ((succsF f).getD k []); omega⟩
theorem NeedI.app {f : Fun} {r : Int} {k : Nat} {l : List Int} {i : Nat} {t : Int} (h : NeedI f r k l i) (hr : ReachN f r k t) (hn : t ∉ l) : NeedI f r k (l ++ [t]) i := by
  have hrg := hr.rng
  have hm := missN_app hrg.1 hrg.2 hn
  have hf := h.few
  have hle := h.le
  refine ⟨fun j hj => ?_, fun j hj => List.mem_append_left _ (h.base j hj), fun m j hm hj => ?_, by rw [List.length_append]; simp; omega, by rw [List.length_append, List.length_singleton]; omega⟩
  · rcases List.mem_append.1 hj with h2 | h2
    · exact h.all_ j h2
    · rw [List.mem_singleton.1 h2]; exact hr
  · rw [List.getElem?_append_left (by omega)] at hj
    have := h.done m j hm hj
    exact ⟨this.1, fun e u hu => List.mem_append_left _ (this.2 e u hu)⟩
theorem NeedI.next {f : Fun} {r : Int} {k : Nat} {l : List Int} {i : Nat} {j : Int} (h : NeedI f r k l i) (hj : l[i]? = some j) (h1 : lookL (f.blocks.getD j.toNat []) r ≠ 1) (h2 : lookL (f.blocks.getD j.toNat []) r = 0 → ∀ t ∈ (succsF f).getD j.toNat [], t ∈ l) : NeedI f r k l (i + 1) := by
  obtain ⟨hi, -⟩ := List.getElem?_eq_some_iff.1 hj
  refine ⟨h.all_, h.base, fun m u hm hu => ?_, hi, h.few⟩
  by_cases e : m = i
  · subst e
    rw [hj] at hu
    obtain rfl := Option.some.inj hu
    exact ⟨h1, h2⟩
  · exact h.done m u (by omega) hu
theorem NeedI.yes {f : Fun} {r : Int} {k : Nat} {l : List Int} {i : Nat} {j : Int} (h : NeedI f r k l i) (hj : l[i]? = some j) (h1 : lookL (f.blocks.getD j.toNat []) r = 1) : NeedO f k r :=
  ⟨j, h.all_ j (List.mem_of_getElem? hj), h1⟩
theorem NeedI.no {f : Fun} {r : Int} {k : Nat} {l : List Int} (h : NeedI f r k l l.length) : ¬ NeedO f k r := by
  have hin : ∀ j, ReachN f r k j → j ∈ l := by
    intro j hj
    induction hj with
    | base h0 => exact h.base _ h0
    | step h0 h1 h2 ih =>
      obtain ⟨m, hm⟩ := List.getElem?_of_mem ih
      obtain ⟨hm2, -⟩ := List.getElem?_eq_some_iff.1 hm
      exact (h.done m _ hm2 hm).2 h1 _ h2
  rintro ⟨j, hj, h1⟩
  obtain ⟨m, hm⟩ := List.getElem?_of_mem (hin j hj)
  obtain ⟨hm2, -⟩ := List.getElem?_eq_some_iff.1 hm
  exact (h.done m j hm2 hm).1 h1
end Go.Proofs.YtdgibhndjdgllaaDoor

/- Going back from block to block (the document's way): what stays so. No program is in sight here. -/
namespace Go.Proofs.YtdgibhndjdgllaaDoor
open Go.Ax
def badJ (f : Fun) (q j : Int) : Prop := lastB f q j = 2 ∨ (lastB f q j = 0 ∧ j = 0)
instance (f : Fun) (q j : Int) : Decidable (badJ f q j) := by unfold badJ; infer_instance
/-- What stays so. -/
structure AskI (f : Fun) (q : Int) (k : Nat) (l : List Int) (i : Nat) : Prop where
  all_ : ∀ j ∈ l, BackN f q k j
  base : ∀ j ∈ predK f k, j ∈ l
  done : ∀ m j, m < i → l[m]? = some j → ¬ badJ f q j ∧ (lastB f q j = 0 → ∀ t ∈ predK f j.toNat, t ∈ l)
  le : i ≤ l.length
  few : l.length + missN f.blocks.length l ≤ 2 * f.blocks.length
theorem predK_len (f : Fun) (k : Nat) : (predK f k).length ≤ f.blocks.length := by
  unfold predK
  by_cases hk : k < (succsF f).length
  · have : (predsF (succsF f)).getD k [] = predOf (succsF f) k (succsF f).length := by
      unfold predsF
      rw [List.getD_eq_getElem?_getD, List.getElem?_map, List.getElem?_range hk]; rfl
    rw [this]
    have h := predOf_len (succsF f) k (succsF f).length
    rw [succsF_len] at h
    rw [succsF_len]; exact h
  · rw [List.getD_eq_getElem?_getD, List.getElem?_eq_none (by unfold predsF; rw [List.length_map, List.length_range]; omega)]; simp
theorem AskI.start {f : Fun} {q : Int} {k : Nat} : AskI f q k (predK f k) 0 :=
  ⟨fun j h => .base h, fun j h => h, fun m j h => by omega, Nat.zero_le _, by have := missN_le f.blocks.length (predK f k); have := predK_len f k; omega⟩
theorem AskI.app {f : Fun} {q : Int} {k : Nat} {l : List Int} {i : Nat} {t : Int} (h : AskI f q k l i) (hr : BackN f q k t) (hn : t ∉ l) : AskI f q k (l ++ [t]) i := by
  have hrg := hr.rng
  have hm := missN_app hrg.1 hrg.2 hn
  have hf := h.few
  have hle := h.le
  refine ⟨fun j hj => ?_, fun j hj => List.mem_append_left _ (h.base j hj), fun m j hm hj => ?_, by rw [List.length_append]; simp; omega, by rw [List.length_append, List.length_singleton]; omega⟩
  · rcases List.mem_append.1 hj with h2 | h2
    · exact h.all_ j h2
    · rw [List.mem_singleton.1 h2]; exact hr
  · rw [List.getElem?_append_left (by omega)] at hj
    have := h.done m j hm hj
    exact ⟨this.1, fun e u hu => List.mem_append_left _ (this.2 e u hu)⟩
theorem AskI.next {f : Fun} {q : Int} {k : Nat} {l : List Int} {i : Nat} {j : Int} (h : AskI f q k l i) (hj : l[i]? = some j) (h1 : ¬ badJ f q j) (h2 : lastB f q j = 0 → ∀ t ∈ predK f j.toNat, t ∈ l) : AskI f q k l (i + 1) := by
  obtain ⟨hi, -⟩ := List.getElem?_eq_some_iff.1 hj
  refine ⟨h.all_, h.base, fun m u hm hu => ?_, hi, h.few⟩
  by_cases e : m = i
  · subst e
    rw [hj] at hu
    obtain rfl := Option.some.inj hu
    exact ⟨h1, h2⟩
  · exact h.done m u (by omega) hu
theorem AskI.bad {f : Fun} {q : Int} {k : Nat} {l : List Int} {i : Nat} {j : Int} (h : AskI f q k l i) (hj : l[i]? = some j) (h1 : badJ f q j) : BadK f k q :=
  ⟨j, h.all_ j (List.mem_of_getElem? hj), h1⟩
theorem AskI.end_ {f : Fun} {q : Int} {k : Nat} {l : List Int} (h : AskI f q k l l.length) : ¬ BadK f k q := by
  have hin : ∀ j, BackN f q k j → j ∈ l := by
    intro j hj
    induction hj with
    | base h0 => exact h.base _ h0
    | step h0 h1 h2 ih =>
      obtain ⟨m, hm⟩ := List.getElem?_of_mem ih
      obtain ⟨hm2, -⟩ := List.getElem?_eq_some_iff.1 hm
      exact (h.done m _ hm2 hm).2 h1 _ h2
  rintro ⟨j, hj, h1⟩
  obtain ⟨m, hm⟩ := List.getElem?_of_mem (hin j hj)
  obtain ⟨hm2, -⟩ := List.getElem?_eq_some_iff.1 hm
  exact (h.done m j hm2 hm).1 h1
/-- How a name's array is there from its writing on. -/
def bornB (f : Fun) (x : Int) : Prop := ((newF f).of x).is = true ∧ (((newF f).of x).i.op = 28 ∨ (((newF f).of x).i.op = 45 ∧ ((newF f).of x).i.m = 21))
instance (f : Fun) (x : Int) : Decidable (bornB f x) := by unfold bornB; infer_instance
def bornP (f : Fun) (x : Int) : Prop := ∃ y ∈ (newF f).chain x, bornB f y
instance (f : Fun) (x : Int) : Decidable (bornP f x) := by unfold bornP; infer_instance
/-- Ahead of the next instruction. -/
theorem askP_succ {f : Fun} {k a : Nat} {b : List Ins} {i : Ins} {q : Int} (hb : f.blocks.getD k [] = b) (hi : b[a]? = some i) : AskP f k (a + 1) q ↔ (askB f i ∧ rootI f i = q) ∨ (defF i ≠ q ∧ AskP f k a q) := by
  unfold AskP
  rw [hb, lastN_take hi]
  unfold lastS
  by_cases h1 : askB f i ∧ rootI f i = q
  · simp [h1]
  · by_cases h2 : defF i = q
    · simp [h1, h2]
    · simp [h1, h2]
end Go.Proofs.YtdgibhndjdgllaaDoor

/- What an instruction changes of facts, by a contract. -/
namespace Go.Proofs.YtdgibhndjdgllaaDoor
open Go.Ax
set_option maxRecDepth 10000
set_option linter.unusedVariables false
set_option maxHeartbeats 0

def chgL (f : Fun) (i : Ins) : List (Bool × Int) := (if 0 ≤ defF i ∧ defF i < f.regs.length then [(false, defF i)] else []) ++ (if askB f i then [(true, rootI f i)] else [])
def chA (c : Bool × Int) : List AV := [.fn (bif c.1 then 61 else 65) [], num c.2]
theorem changes44_spec (f : Fun) (i : Ins) (hi : i.fits) (hr : f.regs.length ≤ 100) : FnSpec Tryd.prog 44 [funA f, namesA (newF f), insA i] (fun r => r = .osl 2 ((chgL f i).map chA)) := by
  have hD := Def_spec i hi
  have hR := Right_spec i hi
  have hl : (newF f).ws.length ≤ 1000 := by rw [newF_len]; omega
  have hO := Root_spec (newF f) i.a hl
  refine FnSpec.weakV ?_
  unfold chgL
  by_cases hd : 0 ≤ defF i ∧ defF i < f.regs.length
  · rw [if_pos hd]
    by_cases ha : i.op = 31
    · by_cases hri : rightF i = true
      · rw [if_pos (show askB f i from ⟨ha, hri⟩)]
        refine spec_of 1000 Tryd.func44 rfl rfl ?_
        repeat' first | (refine Br.t ?_ ?_; focus (first | (simp; omega) | (simp; done) | (simpa using ha) | exact hri)) | refine Call.eq hD rfl ?_ | refine Call.eq hR rfl ?_ | refine Call.eq hO rfl ?_ | refine Len.map ?_ | refine Len.nil ?_ | refine Len.cons ?_ | refine Br.t rfl ?_ | refine Br.f rfl ?_ | refine Fit.au ?_ | refine Cv.au ?_ | refine Need.ne ?_ | refine Need.au ?_ | refine Pick.map (by assumption) ?_ | refine Pick.mapI (by omega) (by assumption) ?_ | refine PickN.mk _ (by assumption) ?_ | refine PickN.mk _ rfl ?_ | refine PickN.au ?_ | refine App.au rfl ?_ | refine App.au (own_map (fun _ => rfl) _) ?_ | refine Both.mk ?_ ?_ | exact True.intro
        exact .inl rfl
      · rw [if_neg (fun e : askB f i => hri e.2)]
        refine spec_of 1000 Tryd.func44 rfl rfl ?_
        repeat' first | (refine Br.t ?_ ?_; focus (first | (simp; omega) | (simp; done) | (simpa using ha))) | (refine Br.f ?_ ?_; focus (first | (simp; done) | simpa using hri)) | refine Call.eq hD rfl ?_ | refine Call.eq hR rfl ?_ | refine Len.map ?_ | refine Len.nil ?_ | refine Len.cons ?_ | refine Br.t rfl ?_ | refine Br.f rfl ?_ | refine Fit.au ?_ | refine Cv.au ?_ | refine Need.ne ?_ | refine Need.au ?_ | refine Pick.map (by assumption) ?_ | refine Pick.mapI (by omega) (by assumption) ?_ | refine PickN.mk _ (by assumption) ?_ | refine PickN.mk _ rfl ?_ | refine PickN.au ?_ | refine App.au rfl ?_ | refine App.au (own_map (fun _ => rfl) _) ?_ | refine Both.mk ?_ ?_ | exact True.intro
        exact .inl rfl
    · rw [if_neg (fun e : askB f i => ha e.1)]
      refine spec_of 1000 Tryd.func44 rfl rfl ?_
      repeat' first | (refine Br.t ?_ ?_; focus (simp; omega)) | (refine Br.f ?_ ?_; focus (first | (simp; done) | simpa using ha)) | refine Call.eq hD rfl ?_ | refine Call.eq hR rfl ?_ | refine Len.map ?_ | refine Len.nil ?_ | refine Len.cons ?_ | refine Br.t rfl ?_ | refine Br.f rfl ?_ | refine Fit.au ?_ | refine Cv.au ?_ | refine Need.ne ?_ | refine Need.au ?_ | refine Pick.map (by assumption) ?_ | refine Pick.mapI (by omega) (by assumption) ?_ | refine PickN.mk _ (by assumption) ?_ | refine PickN.mk _ rfl ?_ | refine PickN.au ?_ | refine App.au rfl ?_ | refine App.au (own_map (fun _ => rfl) _) ?_ | refine Both.mk ?_ ?_ | exact True.intro
      exact .inl rfl
  · rw [if_neg hd]
    by_cases h0 : 0 ≤ defF i
    · have h1 : ¬ defF i < f.regs.length := fun e => hd ⟨h0, e⟩
      by_cases ha : i.op = 31
      · by_cases hri : rightF i = true
        · rw [if_pos (show askB f i from ⟨ha, hri⟩)]
          refine spec_of 1000 Tryd.func44 rfl rfl ?_
          repeat' first | (refine Br.t ?_ ?_; focus (first | (simp; done) | (simpa using h0) | (simpa using ha) | exact hri)) | (refine Br.f ?_ ?_; focus (first | (simp; done) | simpa using h1)) | refine Call.eq hD rfl ?_ | refine Call.eq hR rfl ?_ | refine Call.eq hO rfl ?_ | refine Len.map ?_ | refine Len.nil ?_ | refine Len.cons ?_ | refine Br.t rfl ?_ | refine Br.f rfl ?_ | refine Fit.au ?_ | refine Cv.au ?_ | refine Need.ne ?_ | refine Need.au ?_ | refine Pick.map (by assumption) ?_ | refine Pick.mapI (by omega) (by assumption) ?_ | refine PickN.mk _ (by assumption) ?_ | refine PickN.mk _ rfl ?_ | refine PickN.au ?_ | refine App.au rfl ?_ | refine App.au (own_map (fun _ => rfl) _) ?_ | refine Both.mk ?_ ?_ | exact True.intro
          exact .inl rfl
        · rw [if_neg (fun e : askB f i => hri e.2)]
          refine spec_of 1000 Tryd.func44 rfl rfl ?_
          repeat' first | (refine Br.t ?_ ?_; focus (first | (simp; done) | (simpa using h0) | (simpa using ha))) | (refine Br.f ?_ ?_; focus (first | (simp; done) | (simpa using h1) | (simpa using hri))) | refine Call.eq hD rfl ?_ | refine Call.eq hR rfl ?_ | refine Len.map ?_ | refine Len.nil ?_ | refine Len.cons ?_ | refine Br.t rfl ?_ | refine Br.f rfl ?_ | refine Fit.au ?_ | refine Cv.au ?_ | refine Need.ne ?_ | refine Need.au ?_ | refine Pick.map (by assumption) ?_ | refine Pick.mapI (by omega) (by assumption) ?_ | refine PickN.mk _ (by assumption) ?_ | refine PickN.mk _ rfl ?_ | refine PickN.au ?_ | refine App.au rfl ?_ | refine App.au (own_map (fun _ => rfl) _) ?_ | refine Both.mk ?_ ?_ | exact True.intro
          exact .inr OLe.onil
      · rw [if_neg (fun e : askB f i => ha e.1)]
        refine spec_of 1000 Tryd.func44 rfl rfl ?_
        repeat' first | (refine Br.t ?_ ?_; focus (first | (simp; done) | simpa using h0)) | (refine Br.f ?_ ?_; focus (first | (simp; done) | (simpa using h1) | (simpa using ha))) | refine Call.eq hD rfl ?_ | refine Call.eq hR rfl ?_ | refine Len.map ?_ | refine Len.nil ?_ | refine Len.cons ?_ | refine Br.t rfl ?_ | refine Br.f rfl ?_ | refine Fit.au ?_ | refine Cv.au ?_ | refine Need.ne ?_ | refine Need.au ?_ | refine Pick.map (by assumption) ?_ | refine Pick.mapI (by omega) (by assumption) ?_ | refine PickN.mk _ (by assumption) ?_ | refine PickN.mk _ rfl ?_ | refine PickN.au ?_ | refine App.au rfl ?_ | refine App.au (own_map (fun _ => rfl) _) ?_ | refine Both.mk ?_ ?_ | exact True.intro
        exact .inr OLe.onil
    · by_cases ha : i.op = 31
      · by_cases hri : rightF i = true
        · rw [if_pos (show askB f i from ⟨ha, hri⟩)]
          refine spec_of 1000 Tryd.func44 rfl rfl ?_
          repeat' first | (refine Br.t ?_ ?_; focus (first | (simp; done) | (simpa using ha) | exact hri)) | (refine Br.f ?_ ?_; focus (first | (simp; done) | simpa using h0)) | refine Call.eq hD rfl ?_ | refine Call.eq hR rfl ?_ | refine Call.eq hO rfl ?_ | refine Len.map ?_ | refine Len.nil ?_ | refine Len.cons ?_ | refine Br.t rfl ?_ | refine Br.f rfl ?_ | refine Fit.au ?_ | refine Cv.au ?_ | refine Need.ne ?_ | refine Need.au ?_ | refine Pick.map (by assumption) ?_ | refine Pick.mapI (by omega) (by assumption) ?_ | refine PickN.mk _ (by assumption) ?_ | refine PickN.mk _ rfl ?_ | refine PickN.au ?_ | refine App.au rfl ?_ | refine App.au (own_map (fun _ => rfl) _) ?_ | refine Both.mk ?_ ?_ | exact True.intro
          exact .inl rfl
        · rw [if_neg (fun e : askB f i => hri e.2)]
          refine spec_of 1000 Tryd.func44 rfl rfl ?_
          repeat' first | (refine Br.t ?_ ?_; focus (first | (simp; done) | simpa using ha)) | (refine Br.f ?_ ?_; focus (first | (simp; done) | (simpa using h0) | (simpa using hri))) | refine Call.eq hD rfl ?_ | refine Call.eq hR rfl ?_ | refine Len.map ?_ | refine Len.nil ?_ | refine Len.cons ?_ | refine Br.t rfl ?_ | refine Br.f rfl ?_ | refine Fit.au ?_ | refine Cv.au ?_ | refine Need.ne ?_ | refine Need.au ?_ | refine Pick.map (by assumption) ?_ | refine Pick.mapI (by omega) (by assumption) ?_ | refine PickN.mk _ (by assumption) ?_ | refine PickN.mk _ rfl ?_ | refine PickN.au ?_ | refine App.au rfl ?_ | refine App.au (own_map (fun _ => rfl) _) ?_ | refine Both.mk ?_ ?_ | exact True.intro
          exact .inr OLe.onil
      · rw [if_neg (fun e : askB f i => ha e.1)]
        refine spec_of 1000 Tryd.func44 rfl rfl ?_
        repeat' first | (refine Br.f ?_ ?_; focus (first | (simp; done) | (simpa using h0) | (simpa using ha))) | refine Call.eq hD rfl ?_ | refine Call.eq hR rfl ?_ | refine Len.map ?_ | refine Len.nil ?_ | refine Len.cons ?_ | refine Br.t rfl ?_ | refine Br.f rfl ?_ | refine Fit.au ?_ | refine Cv.au ?_ | refine Need.ne ?_ | refine Need.au ?_ | refine Pick.map (by assumption) ?_ | refine Pick.mapI (by omega) (by assumption) ?_ | refine PickN.mk _ (by assumption) ?_ | refine PickN.mk _ rfl ?_ | refine PickN.au ?_ | refine App.au rfl ?_ | refine App.au (own_map (fun _ => rfl) _) ?_ | refine Both.mk ?_ ?_ | exact True.intro
        exact .inr OLe.onil
end Go.Proofs.YtdgibhndjdgllaaDoor
