/- The rim of each block. No program is in sight here. -/
import Derived.Test.YtnfkdilmoppbpaaPG17
import Derived.Test.YtnfkdilmoppbpaaPG08
set_option linter.unusedVariables false
set_option linter.unusedSimpArgs false

namespace Go.Proofs.Ytnfkdilmoppbpaa
open Go.Ax

/-- A block is in another one's rim. -/
def rimP (s : List (List Int)) (a k : Nat) : Prop := Rc s k ∧ (∃ p, Ed s p k ∧ DomN s a p) ∧ (a = k ∨ ¬ DomN s a k)
noncomputable def rimB (s : List (List Int)) (a k : Nat) : Bool := @decide (rimP s a k) (Classical.propDecidable _)
theorem rimB_iff {s : List (List Int)} {a k : Nat} : rimB s a k = true ↔ rimP s a k := by unfold rimB; exact @decide_eq_true_iff _ (Classical.propDecidable _)
noncomputable def rimTo (s : List (List Int)) (a k : Nat) : List Int := ((List.range k).filter (rimB s a)).map fun j : Nat => (j : Int)
theorem rimTo_succ {s : List (List Int)} {a k : Nat} : rimTo s a (k + 1) = rimTo s a k ++ if rimB s a k = true then [(k : Int)] else [] := by
  unfold rimTo
  rw [List.range_succ, List.filter_append, List.map_append]
  congr 1
  by_cases h : rimB s a k = true <;> simp [h]
theorem rimTo_lt {s : List (List Int)} {a k : Nat} {x : Int} (h : x ∈ rimTo s a k) : 0 ≤ x ∧ x < k := by
  unfold rimTo at h
  obtain ⟨j, hj, rfl⟩ := List.mem_map.1 h
  have := List.mem_range.1 (List.mem_filter.1 hj).1
  omega
theorem rimTo_len {s : List (List Int)} {a k : Nat} : (rimTo s a k).length ≤ k := by
  unfold rimTo
  rw [List.length_map]
  have := List.length_filter_le (rimB s a) (List.range k)
  rw [List.length_range] at this; exact this
noncomputable def rimMid (s : List (List Int)) (n k : Nat) (M : Nat → Bool) : List (List Int) := (List.range n).map fun a => rimTo s a k ++ if M a = true then [(k : Int)] else []
theorem rimMid_len (s : List (List Int)) (n k : Nat) (M : Nat → Bool) : (rimMid s n k M).length = n := by unfold rimMid; simp
theorem rimMid_at {s : List (List Int)} {n k : Nat} {M : Nat → Bool} {a : Nat} (h : a < n) : (rimMid s n k M)[a]? = some (rimTo s a k ++ if M a = true then [(k : Int)] else []) := by
  unfold rimMid
  rw [List.getElem?_map, List.getElem?_range h]; rfl
theorem rimMid_has {s : List (List Int)} {k : Nat} {M : Nat → Bool} {a : Nat} : (k : Int) ∈ (rimTo s a k ++ if M a = true then [(k : Int)] else []) ↔ M a = true := by
  rw [List.mem_append]
  constructor
  · rintro (h | h)
    · have := rimTo_lt h; omega
    · split at h
      · assumption
      · cases h
  · intro h; right; rw [if_pos h]; simp
theorem rimMid_set {s : List (List Int)} {n k : Nat} {M : Nat → Bool} {a : Nat} (h : a < n) (hM : M a ≠ true) : (rimMid s n k M).set a ((rimTo s a k ++ if M a = true then [(k : Int)] else []) ++ [(k : Int)]) = rimMid s n k (fun x => M x || decide (x = a)) := by
  apply List.ext_getElem?
  intro x
  rw [List.getElem?_set, rimMid_len]
  by_cases e : a = x
  · subst e
    rw [if_pos rfl, if_pos h, rimMid_at h, if_neg hM]
    simp
  · rw [if_neg e]
    by_cases hx : x < n
    · rw [rimMid_at hx, rimMid_at hx]
      have : decide (x = a) = false := decide_eq_false fun e2 => e e2.symm
      simp only [this, Bool.or_false]
    · rw [List.getElem?_eq_none (by rw [rimMid_len]; omega), List.getElem?_eq_none (by rw [rimMid_len]; omega)]
theorem rimMid_same {s : List (List Int)} {n k : Nat} {M : Nat → Bool} {a : Nat} (hM : M a = true) : rimMid s n k M = rimMid s n k (fun x => M x || decide (x = a)) := by
  congr 1
  funext x
  by_cases e : x = a
  · subst e; simp [hM]
  · simp [e]
theorem rimMid_end {s : List (List Int)} {n k : Nat} {M : Nat → Bool} (h : ∀ a, M a = rimB s a k) : rimMid s n k M = rimMid s n (k + 1) (fun _ => false) := by
  unfold rimMid
  congr 1
  funext a
  rw [rimTo_succ, h a]; simp
theorem rimMid_zero {s : List (List Int)} {n : Nat} : rimMid s n 0 (fun _ => false) = List.replicate n [] := by
  unfold rimMid rimTo
  apply List.ext_getElem?
  intro x
  rw [List.getElem?_map, List.getElem?_replicate]
  by_cases hx : x < n
  · rw [List.getElem?_range hx, if_pos hx]; rfl
  · rw [List.getElem?_eq_none (by simp; omega), if_neg hx]; rfl
theorem rimMid_all {s : List (List Int)} {n k : Nat} : rimMid s n k (fun _ => false) = (List.range n).map fun a => rimTo s a k := by
  unfold rimMid; simp

section
variable {s : List (List Int)} {l : List Int}
/-- Going up from a block that goes to another one. -/
structure Walk (s : List (List Int)) (l : List Int) (k p : Nat) (M0 : Nat → Bool) (at_ : Int) (M : Nat → Bool) : Prop where
  on : at_ = -1 ∨ ∃ t : Nat, at_ = t ∧ Rc s t ∧ Anc l t p ∧ (k ≠ 0 → Anc l (par l k) t)
  k0 : at_ = -1 → k = 0
  set : ∀ a, M a = true ↔ M0 a = true ∨ (Anc l a p ∧ ¬ ∃ t : Nat, at_ = t ∧ Anc l a t)
theorem Walk.start {k p : Nat} {M : Nat → Bool} (hp : Rc s p) (hk : k ≠ 0 → Anc l (par l k) p) : Walk s l k p M (p : Int) M :=
  ⟨.inr ⟨p, rfl, hp, .self, hk⟩, fun h => by omega, fun a => ⟨.inl, fun h => h.elim id fun h2 => absurd ⟨p, rfl, h2.1⟩ h2.2⟩⟩
theorem TreeP.anc_lt (T : TreeP s l) : ∃ pl : Nat → Nat, (∀ x, x ≠ 0 → Rc s x → pl (par l x) < pl x) ∧ ∀ a x, Rc s x → Anc l a x → pl a ≤ pl x := by
  obtain ⟨pl, h⟩ := T.pl
  refine ⟨pl, h, fun a x hx ha => ?_⟩
  induction ha with
  | self => exact Nat.le_refl _
  | @up x hne _ ih =>
    have := ih (T.up x hne hx).2
    have := h x hne hx
    omega
theorem Walk.step {k p t : Nat} {M0 M : Nat → Bool} {y z : Int} (T : TreeP s l) (h : Walk s l k p M0 (t : Int) M) (hk : Rc s k) (gk : l[k]? = some y) (hne : (t : Int) ≠ y) (gt : l[t]? = some z) : Walk s l k p M0 z (fun x => M x || decide (x = t)) := by
  obtain ⟨pl, hpl, hanc⟩ := T.anc_lt
  obtain ⟨t', e, htR, htp, htk⟩ := h.on.resolve_left (by omega)
  obtain rfl : t' = t := by omega
  have hky : k ≠ 0 → y = (par l k : Int) := fun h0 => by
    have := (T.up k h0 hk).1
    rw [gk] at this; exact Option.some.inj this
  by_cases h0 : t' = 0
  · subst h0
    have hk0 : k = 0 := Classical.byContradiction fun h1 => hne (by
      have := (htk h1).zero rfl
      rw [hky h1, this])
    have hz : z = -1 := by
      have := T.out 0 (by have := (List.getElem?_eq_some_iff.1 gt).1; rw [T.len] at this; exact this) (.inl rfl)
      rw [gt] at this; exact Option.some.inj this
    subst hz
    refine ⟨.inl rfl, fun _ => hk0, fun a => ?_⟩
    rw [Bool.or_eq_true, decide_eq_true_iff, h.set a]
    constructor
    · rintro ((h1 | ⟨h1, -⟩) | rfl)
      · exact .inl h1
      · exact .inr ⟨h1, fun ⟨t, h2, _⟩ => by omega⟩
      · exact .inr ⟨htp, fun ⟨t, h2, _⟩ => by omega⟩
    · rintro (h1 | ⟨h1, -⟩)
      · exact .inl (.inl h1)
      · by_cases e0 : a = 0
        · exact .inr e0
        · exact .inl (.inr ⟨h1, fun ⟨t, h2, h3⟩ => e0 ((h3.zero (by omega)).trans (by omega))⟩)
  · obtain ⟨g1, g2⟩ := T.up t' h0 htR
    have hz : z = (par l t' : Int) := by rw [gt] at g1; exact Option.some.inj g1
    subst hz
    refine ⟨.inr ⟨_, rfl, g2, (Anc.up h0 .self).trans htp, fun h1 => ?_⟩, fun h1 => by omega, fun a => ?_⟩
    · exact ((htk h1).more fun e2 => hne (by rw [hky h1, e2])).2
    · rw [Bool.or_eq_true, decide_eq_true_iff, h.set a]
      constructor
      · rintro ((h1 | ⟨h1, h2⟩) | rfl)
        · exact .inl h1
        · exact .inr ⟨h1, fun ⟨t, h3, h4⟩ => h2 ⟨t', rfl, .up h0 (by rw [show par l t' = t by omega]; exact h4)⟩⟩
        · refine .inr ⟨htp, fun ⟨t, h3, h4⟩ => ?_⟩
          have e2 : t = par l a := by omega
          subst e2
          have := hanc _ _ g2 h4
          have := hpl a h0 htR
          omega
      · rintro (h1 | ⟨h1, h2⟩)
        · exact .inl (.inl h1)
        · by_cases e0 : a = t'
          · exact .inr e0
          · refine .inl (.inr ⟨h1, fun ⟨t, h3, h4⟩ => h2 ⟨par l t', rfl, ?_⟩⟩)
            obtain rfl : t = t' := by omega
            exact (h4.more e0).2
theorem Walk.done {k p : Nat} {M0 M : Nat → Bool} {at_ y : Int} (T : TreeP s l) (h : Walk s l k p M0 at_ M) (hk : Rc s k) (hkl : k < s.length) (gk : l[k]? = some y) (hs : at_ = -1 ∨ at_ = y) (a : Nat) : M a = true ↔ M0 a = true ∨ (Anc l a p ∧ ¬ (k ≠ 0 ∧ Anc l a (par l k))) := by
  rw [h.set a]
  have key : (∃ t : Nat, at_ = t ∧ Anc l a t) ↔ (k ≠ 0 ∧ Anc l a (par l k)) := by
    by_cases h0 : k = 0
    · have hy : y = -1 := by
        have := T.out k hkl (.inl h0)
        rw [gk] at this; exact Option.some.inj this
      constructor
      · rintro ⟨t, h1, -⟩; omega
      · rintro ⟨h1, -⟩; exact absurd h0 h1
    · have hy : y = (par l k : Int) := by
        have := (T.up k h0 hk).1
        rw [gk] at this; exact Option.some.inj this
      have ha : at_ = (par l k : Int) := by
        rcases hs with h1 | h1
        · exact absurd (h.k0 h1) h0
        · omega
      constructor
      · rintro ⟨t, h1, h2⟩
        obtain rfl : t = par l k := by omega
        exact ⟨h0, h2⟩
      · rintro ⟨-, h2⟩; exact ⟨_, ha, h2⟩
  rw [key]
/-- Of the first ones that go to a block. -/
def PreM (s : List (List Int)) (l : List Int) (k : Nat) (r : List Int) (M : Nat → Bool) : Prop := ∀ a, M a = true ↔ ∃ p : Nat, (p : Int) ∈ r ∧ Rc s p ∧ Anc l a p ∧ ¬ (k ≠ 0 ∧ Anc l a (par l k))
theorem PreM.start {k : Nat} : PreM s l k [] (fun _ => false) := fun a => ⟨(fun h => by cases h), fun ⟨p, h, _⟩ => by cases h⟩
theorem PreM.skip {k p : Nat} {r : List Int} {M : Nat → Bool} (h : PreM s l k r M) (hp : ¬ Rc s p) : PreM s l k (r ++ [(p : Int)]) M := fun a => by
  rw [h a]
  constructor
  · rintro ⟨q, h1, h2⟩; exact ⟨q, List.mem_append_left _ h1, h2⟩
  · rintro ⟨q, h1, h2⟩
    rcases List.mem_append.1 h1 with h1 | h1
    · exact ⟨q, h1, h2⟩
    · obtain rfl : q = p := by have := List.mem_singleton.1 h1; omega
      exact absurd h2.1 hp
theorem PreM.next {k p : Nat} {r : List Int} {M0 M : Nat → Bool} (h : PreM s l k r M0) (hp : Rc s p) (hM : ∀ a, M a = true ↔ M0 a = true ∨ (Anc l a p ∧ ¬ (k ≠ 0 ∧ Anc l a (par l k)))) : PreM s l k (r ++ [(p : Int)]) M := fun a => by
  rw [hM a, h a]
  constructor
  · rintro (⟨q, h1, h2⟩ | h1)
    · exact ⟨q, List.mem_append_left _ h1, h2⟩
    · exact ⟨p, by simp, hp, h1⟩
  · rintro ⟨q, h1, h2, h3⟩
    rcases List.mem_append.1 h1 with h1 | h1
    · exact .inl ⟨q, h1, h2, h3⟩
    · obtain rfl : q = p := by have := List.mem_singleton.1 h1; omega
      exact .inr h3
theorem PreM.all {k : Nat} {M : Nat → Bool} (T : TreeP s l) (hk : Rc s k) (h : PreM s l k (predOf s k s.length) M) (a : Nat) : M a = rimB s a k := by
  rw [Bool.eq_iff_iff, h a, rimB_iff]
  constructor
  · rintro ⟨p, h1, h2, h3, h4⟩
    refine ⟨hk, ⟨p, mem_predOf.1 h1, (T.dom a p h2).1 h3⟩, ?_⟩
    by_cases e : a = k
    · exact .inl e
    · right
      intro h5
      exact h4 ((T.dom a k hk).2 h5 |>.more e)
  · rintro ⟨-, ⟨p, h1, h2⟩, h3⟩
    have hp : Rc s p := h2.2.1
    refine ⟨p, mem_predOf.2 h1, hp, (T.dom a p hp).2 h2, fun ⟨h4, h5⟩ => ?_⟩
    rcases h3 with rfl | h3
    · obtain ⟨pl, hpl, hanc⟩ := T.anc_lt
      have := hanc _ _ (T.up a h4 hk).2 h5
      have := hpl a h4 hk
      omega
    · exact h3 ((T.dom a k hk).1 (.up h4 h5))
theorem rimTo_none {k a : Nat} (h : ¬ Rc s k) : rimB s a k = false := by
  rw [Bool.eq_false_iff]
  intro h2
  exact h (rimB_iff.1 h2).1
end
end Go.Proofs.Ytnfkdilmoppbpaa

/- The rim of each block, as the program reckons it, by a contract. -/
namespace Go.Proofs.Ytnfkdilmoppbpaa
open Go.Ax
set_option maxRecDepth 10000
set_option linter.unusedVariables false

theorem run_unf {P : Program} {f : Nat} {Q : Post} {todo : List Item} {tm : TM} {hp hp' : HP} {nx nt : Nat} (id : Nat) (h : unf1 id hp = some hp') (k : Run P f Q todo ⟨tm, hp', nx, nt⟩) : Run P f Q todo ⟨tm, hp, nx, nt⟩ := by
  intro S0 B w0 I a w hlo hr
  exact k S0 B w0 I a w hlo (Rel.unf hr h)
theorem Index97_spec (l : List Int) (x : Int) (hl : l.length ≤ 1000000000) : FnSpec Try.prog 97 [ints l, num x] (fun r => ∃ n : Int, r = num n ∧ (0 ≤ n ↔ x ∈ l)) := by
  refine spec_of 1000 Try.func97 rfl rfl ?_
  repeat' first | refine Len.map ?_ | refine Len.nil ?_ | refine Len.cons ?_ | refine Br.t rfl ?_ | refine Br.f rfl ?_ | refine Fit.au ?_ | refine Need.au ?_ | refine Pick.map (by assumption) ?_ | refine Pick.mapI (by omega) (by assumption) ?_ | refine PickN.mk _ (by assumption) ?_ | refine PickN.mk _ rfl ?_ | refine PickN.au ?_ | refine App.au rfl ?_ | refine App.au (own_map (fun _ => rfl) _) ?_ | refine Both.mk ?_ ?_ | exact True.intro
  refine Stop.mk (loop_in (g := []) (fun k : Nat => [(0, ints l), (1, num x), (7, num l.length), (8, num k)]) (fun k => []) 0 (fun k => k ≤ l.length ∧ x ∉ l.take k) (fun k => l.length - k) 0 ⟨by omega, by simp⟩ ⟨rfl, (by repeat' first | exact trivial | refine ⟨rfl, ?_⟩ | refine ⟨congrArg (fun n => AV.lit (.int .i64 n)) (by omega), ?_⟩ | refine ⟨congrArg (fun l => some (Row.row 1 l)) (by simp [int1, num, tru]), ?_⟩), (by repeat' first | exact trivial | refine ⟨rfl, ?_⟩ | refine ⟨congrArg (fun n => AV.lit (.int .i64 n)) (by omega), ?_⟩ | refine ⟨congrArg (fun l => some (Row.row 1 l)) (by simp [int1, num, tru]), ?_⟩)⟩ (fun k hk ih => ?_))
  obtain ⟨hk, hno⟩ := hk
  refine go 1000 Try.func97 ?_
  repeat' first | refine Len.map ?_ | refine Len.nil ?_ | refine Len.cons ?_ | refine Br.t rfl ?_ | refine Br.f rfl ?_ | refine Fit.au ?_ | refine Need.au ?_ | refine Pick.map (by assumption) ?_ | refine Pick.mapI (by omega) (by assumption) ?_ | refine PickN.mk _ (by assumption) ?_ | refine PickN.mk _ rfl ?_ | refine PickN.au ?_ | refine App.au rfl ?_ | refine App.au (own_map (fun _ => rfl) _) ?_ | refine Both.mk ?_ ?_ | exact True.intro
  refine Br.d (fun h2 => ?_) (fun h2 => ?_)
  · obtain ⟨y, gy, gym⟩ := getK (l := l) (k := k) (by omega)
    repeat' first | refine Pick.map gy ?_ | refine Len.map ?_ | refine Len.nil ?_ | refine Len.cons ?_ | refine Br.t rfl ?_ | refine Br.f rfl ?_ | refine Fit.au ?_ | refine Need.au ?_ | refine Pick.map (by assumption) ?_ | refine Pick.mapI (by omega) (by assumption) ?_ | refine PickN.mk _ (by assumption) ?_ | refine PickN.mk _ rfl ?_ | refine PickN.au ?_ | refine App.au rfl ?_ | refine App.au (own_map (fun _ => rfl) _) ?_ | refine Both.mk ?_ ?_ | exact True.intro
    refine Br.d (fun h3 => ?_) (fun h3 => ?_)
    · repeat' first | refine Len.map ?_ | refine Len.nil ?_ | refine Len.cons ?_ | refine Br.t rfl ?_ | refine Br.f rfl ?_ | refine Fit.au ?_ | refine Need.au ?_ | refine Pick.map (by assumption) ?_ | refine Pick.mapI (by omega) (by assumption) ?_ | refine PickN.mk _ (by assumption) ?_ | refine PickN.mk _ rfl ?_ | refine PickN.au ?_ | refine App.au rfl ?_ | refine App.au (own_map (fun _ => rfl) _) ?_ | refine Both.mk ?_ ?_ | exact True.intro
      exact ⟨k, rfl, fun _ => by rw [h3]; exact gym, fun _ => by omega⟩
    · repeat' first | refine Len.map ?_ | refine Len.nil ?_ | refine Len.cons ?_ | refine Br.t rfl ?_ | refine Br.f rfl ?_ | refine Fit.au ?_ | refine Need.au ?_ | refine Pick.map (by assumption) ?_ | refine Pick.mapI (by omega) (by assumption) ?_ | refine PickN.mk _ (by assumption) ?_ | refine PickN.mk _ rfl ?_ | refine PickN.au ?_ | refine App.au rfl ?_ | refine App.au (own_map (fun _ => rfl) _) ?_ | refine Both.mk ?_ ?_ | exact True.intro
      refine Stop.mk (ih (k + 1) (g := []) _ _ _ ⟨by omega, ?_⟩ (by omega) ⟨rfl, (by repeat' first | exact trivial | refine ⟨rfl, ?_⟩ | refine ⟨congrArg (fun n => AV.lit (.int .i64 n)) (by omega), ?_⟩ | refine ⟨congrArg (fun l => some (Row.row 1 l)) (by simp [int1, num, tru]), ?_⟩), (by repeat' first | exact trivial | refine ⟨rfl, ?_⟩ | refine ⟨congrArg (fun n => AV.lit (.int .i64 n)) (by omega), ?_⟩ | refine ⟨congrArg (fun l => some (Row.row 1 l)) (by simp [int1, num, tru]), ?_⟩)⟩)
      rw [take_succ gy, List.mem_append]
      rintro (h4 | h4)
      · exact hno h4
      · exact h3 (List.mem_singleton.1 h4)
  · rw [take_all (by omega)] at hno
    repeat' first | refine Len.map ?_ | refine Len.nil ?_ | refine Len.cons ?_ | refine Br.t rfl ?_ | refine Br.f rfl ?_ | refine Fit.au ?_ | refine Need.au ?_ | refine Pick.map (by assumption) ?_ | refine Pick.mapI (by omega) (by assumption) ?_ | refine PickN.mk _ (by assumption) ?_ | refine PickN.mk _ rfl ?_ | refine PickN.au ?_ | refine App.au rfl ?_ | refine App.au (own_map (fun _ => rfl) _) ?_ | refine Both.mk ?_ ?_ | exact True.intro
    exact ⟨-1, rfl, (fun h => absurd h (by decide)), fun h => absurd h hno⟩
theorem Contains70_spec (l : List Int) (x : Int) (hl : l.length ≤ 1000000000) : FnSpec Try.prog 70 [ints l, num x] (fun r => r = tru (decide (x ∈ l))) := by
  refine spec_of 1000 Try.func70 rfl rfl ?_
  repeat' first | refine Len.map ?_ | refine Len.nil ?_ | refine Len.cons ?_ | refine Br.t rfl ?_ | refine Br.f rfl ?_ | refine Fit.au ?_ | refine Need.au ?_ | refine Pick.map (by assumption) ?_ | refine Pick.mapI (by omega) (by assumption) ?_ | refine PickN.mk _ (by assumption) ?_ | refine PickN.mk _ rfl ?_ | refine PickN.au ?_ | refine App.au rfl ?_ | refine App.au (own_map (fun _ => rfl) _) ?_ | refine Both.mk ?_ ?_ | exact True.intro
  refine Call.of (Index97_spec l x hl) ?_
  rintro r ⟨n, rfl, hn⟩
  refine ⟨rfl, ?_⟩
  repeat' first | refine Len.map ?_ | refine Len.nil ?_ | refine Len.cons ?_ | refine Br.t rfl ?_ | refine Br.f rfl ?_ | refine Fit.au ?_ | refine Need.au ?_ | refine Pick.map (by assumption) ?_ | refine Pick.mapI (by omega) (by assumption) ?_ | refine PickN.mk _ (by assumption) ?_ | refine PickN.mk _ rfl ?_ | refine PickN.au ?_ | refine App.au rfl ?_ | refine App.au (own_map (fun _ => rfl) _) ?_ | refine Both.mk ?_ ?_ | exact True.intro
  have : decide (0 ≤ n) = decide (x ∈ l) := by rw [Bool.eq_iff_iff, decide_eq_true_iff, decide_eq_true_iff]; exact hn
  rw [← this]
  rfl
theorem set_olst2 {ls : List (List Int)} {n : Nat} {a : List Int} {x : Int} : (ls.map olst).set n [.osl 1 (a.map int1 ++ [[num x]])] = (ls.set n (a ++ [x])).map olst := by
  rw [List.map_set]
  congr 1
  unfold olst
  rw [List.map_append]; rfl

set_option maxHeartbeats 4000000 in
theorem Rims34_spec (f : Fun) (hf : f.fits) (hn : f.blocks.length ≤ 1000000) : FnSpec Try.prog 34 [funA f] (fun r => r = .osl 1 (((List.range f.blocks.length).map fun a => rimTo (succsF f) a f.blocks.length).map olst)) := by
  have hcl := succsF_closed f
  have hsl := succsF_len f
  have hT := Tree67_spec f hf hn
  have hP := Preds68_spec f hf hn
  have hR := Reach69_spec f hf hn
  refine spec_of 5 Try.func34 rfl rfl ?_
  repeat' first | refine Len.map ?_ | refine Len.nil ?_ | refine Len.cons ?_ | refine Br.t rfl ?_ | refine Br.f rfl ?_ | refine Fit.au ?_ | refine Need.au ?_ | refine Pick.map (by assumption) ?_ | refine Pick.mapI (by omega) (by assumption) ?_ | refine PickN.mk _ (by assumption) ?_ | refine PickN.mk _ rfl ?_ | refine PickN.au ?_ | refine App.au rfl ?_ | refine App.au (own_map (fun _ => rfl) _) ?_ | refine Both.mk ?_ ?_ | exact True.intro
  refine Stop.mk ?_
  apply join (fun l : List Int => [(1, .hp 0 0), (3, .hw 1), (4, .hw 2), (5, .hw 3)]) (fun l => [(0, .var f.cs), (1, .row 1 (l.map int1)), (2, .row 1 ((predsF (succsF f)).map olst)), (3, .row 1 ((marksF (succsF f) (-1)).map tb))]) 4 (fun l => TreeP (succsF f) l)
  · intro jn
    refine go 2 Try.func34 ?_
    repeat' first | refine Draw.mk (ordL [1, 3, 5] [0, 2, 4, 1, 3, 5, 6, 7, 8]) (by decide +kernel) ?_ | (refine Call.of hT ?_; rintro r ⟨l, rfl, hl⟩; refine ⟨rfl, ?_⟩) | refine Call.eq hP rfl ?_ | refine Call.eq hR rfl ?_ | refine Len.map ?_ | refine Len.nil ?_ | refine Len.cons ?_ | refine Br.t rfl ?_ | refine Br.f rfl ?_ | refine Fit.au ?_ | refine Need.au ?_ | refine Pick.map (by assumption) ?_ | refine Pick.mapI (by omega) (by assumption) ?_ | refine PickN.mk _ (by assumption) ?_ | refine PickN.mk _ rfl ?_ | refine PickN.au ?_ | refine App.au rfl ?_ | refine App.au (own_map (fun _ => rfl) _) ?_ | refine Both.mk ?_ ?_ | exact True.intro
    all_goals exact Stop.mk (jn l (g := []) _ _ _ ⟨rfl, (by repeat' first | exact trivial | refine ⟨rfl, ?_⟩ | refine ⟨congrArg (fun n => AV.lit (.int .i64 n)) (by omega), ?_⟩ | refine ⟨congrArg (fun l => some (Row.row 1 l)) (by simp [int1, num, tru]), ?_⟩), (by repeat' first | exact trivial | refine ⟨rfl, ?_⟩ | refine ⟨congrArg (fun n => AV.lit (.int .i64 n)) (by omega), ?_⟩ | refine ⟨congrArg (fun l => some (Row.row 1 l)) (by simp [int1, num, tru]), ?_⟩)⟩ hl)
  rintro l T
  refine run_frzR 1 rfl (fzi _) ?_
  refine run_frzR 2 rfl (fzLL_map fz_olsts _) ?_
  refine run_frzR 3 rfl (fzLL_map (enc2 := tb) (fun _ => rfl) _) ?_
  have hpl := predsF_len (succsF f)
  have hpg : ∀ c : Nat, c < (succsF f).length → (predsF (succsF f))[c]? = some (predOf (succsF f) c (succsF f).length) := fun c hc => by
    unfold predsF
    rw [List.getElem?_map, List.getElem?_range hc]; rfl
  have hpol := fun c : Nat => predOf_len (succsF f) c (succsF f).length
  have hml := marksF_len (succsF f) (-1)
  have hma := fun c : Nat => marksF_at (s := succsF f) (x := -1) (k := c)
  generalize succsF f = s at *
  generalize predsF s = P at *
  generalize marksF s (-1) = m at *
  rw [← hsl]
  refine Run.fr (g := []) (tm' := [(1, .hp 0 0), (3, ints l), (4, lsts P), (5, .sl false 1 (m.map tb))]) (hp' := [(0, .var f.cs)]) (nx' := 1) ?_ ⟨rfl, (by repeat' first | exact trivial | refine ⟨rfl, ?_⟩ | refine ⟨congrArg (fun n => AV.lit (.int .i64 n)) (by omega), ?_⟩ | refine ⟨congrArg (fun l => some (Row.row 1 l)) (by simp [int1, num, tru]), ?_⟩), (by repeat' first | exact trivial | refine ⟨rfl, ?_⟩ | refine ⟨congrArg (fun n => AV.lit (.int .i64 n)) (by omega), ?_⟩ | refine ⟨congrArg (fun l => some (Row.row 1 l)) (by simp [int1, num, tru]), ?_⟩)⟩
  refine go 1000 Try.func34 ?_
  repeat' first | refine MkS.mk _ rfl rfl (by omega) (by omega) ?_ | refine Len.map ?_ | refine Len.nil ?_ | refine Len.cons ?_ | refine Br.t rfl ?_ | refine Br.f rfl ?_ | refine Fit.au ?_ | refine Need.au ?_ | refine Pick.map (by assumption) ?_ | refine Pick.mapI (by omega) (by assumption) ?_ | refine PickN.mk _ (by assumption) ?_ | refine PickN.mk _ rfl ?_ | refine PickN.au ?_ | refine App.au rfl ?_ | refine App.au (own_map (fun _ => rfl) _) ?_ | refine Both.mk ?_ ?_ | exact True.intro
  refine Stop.mk (run_rowO 1 rfl (zero_olst _) ?_)
  rw [← hsl, ← rimMid_zero (s := s)]
  refine loop_in (g := []) (fun k : Nat => [(3, ints l), (4, lsts P), (5, .sl false 1 (m.map tb)), (6, .hw 1), (22, .sl false 1 (m.map tb)), (23, num m.length), (24, num k)]) (fun k => [(1, .row 1 ((rimMid s s.length k (fun _ => false)).map olst))]) 2 (fun k => k ≤ s.length) (fun k => s.length - k) 0 (by omega) ⟨rfl, (by repeat' first | exact trivial | refine ⟨rfl, ?_⟩ | refine ⟨congrArg (fun n => AV.lit (.int .i64 n)) (by omega), ?_⟩ | refine ⟨congrArg (fun l => some (Row.row 1 l)) (by simp [int1, num, tru]), ?_⟩), (by repeat' first | exact trivial | refine ⟨rfl, ?_⟩ | refine ⟨congrArg (fun n => AV.lit (.int .i64 n)) (by omega), ?_⟩ | refine ⟨congrArg (fun l => some (Row.row 1 l)) (by simp [int1, num, tru]), ?_⟩)⟩ (fun k hk ih => ?_)
  refine go 1000 Try.func34 ?_
  repeat' first | refine Len.map ?_ | refine Len.nil ?_ | refine Len.cons ?_ | refine Br.t rfl ?_ | refine Br.f rfl ?_ | refine Fit.au ?_ | refine Need.au ?_ | refine Pick.map (by assumption) ?_ | refine Pick.mapI (by omega) (by assumption) ?_ | refine PickN.mk _ (by assumption) ?_ | refine PickN.mk _ rfl ?_ | refine PickN.au ?_ | refine App.au rfl ?_ | refine App.au (own_map (fun _ => rfl) _) ?_ | refine Both.mk ?_ ?_ | exact True.intro
  refine Br.d (fun h2 => ?_) (fun h2 => ?_)
  rotate_left
  · repeat' first | refine Len.map ?_ | refine Len.nil ?_ | refine Len.cons ?_ | refine Br.t rfl ?_ | refine Br.f rfl ?_ | refine Fit.au ?_ | refine Need.au ?_ | refine Pick.map (by assumption) ?_ | refine Pick.mapI (by omega) (by assumption) ?_ | refine PickN.mk _ (by assumption) ?_ | refine PickN.mk _ rfl ?_ | refine PickN.au ?_ | refine App.au rfl ?_ | refine App.au (own_map (fun _ => rfl) _) ?_ | refine Both.mk ?_ ?_ | exact True.intro
    rw [show k = s.length by omega, rimMid_all]
    rfl
  obtain ⟨b, gb, -⟩ := getK (l := m) (k := k) (by omega)
  repeat' first | refine Pick.map gb ?_ | refine Len.map ?_ | refine Len.nil ?_ | refine Len.cons ?_ | refine Br.t rfl ?_ | refine Br.f rfl ?_ | refine Fit.au ?_ | refine Need.au ?_ | refine Pick.map (by assumption) ?_ | refine Pick.mapI (by omega) (by assumption) ?_ | refine PickN.mk _ (by assumption) ?_ | refine PickN.mk _ rfl ?_ | refine PickN.au ?_ | refine App.au rfl ?_ | refine App.au (own_map (fun _ => rfl) _) ?_ | refine Both.mk ?_ ?_ | exact True.intro
  refine Br.mk (fun h3 => ?_) (fun h3 => ?_)
  · have hkR : ¬ Rc s k := fun h => by
      have := (hma k).2 ⟨by omega, h⟩
      rw [gb] at this
      simp_all
    have hend := rimMid_end (s := s) (n := s.length) (k := k) (M := fun _ => false) fun a => (rimTo_none hkR).symm
    repeat' first | refine Len.map ?_ | refine Len.nil ?_ | refine Len.cons ?_ | refine Br.t rfl ?_ | refine Br.f rfl ?_ | refine Fit.au ?_ | refine Need.au ?_ | refine Pick.map (by assumption) ?_ | refine Pick.mapI (by omega) (by assumption) ?_ | refine PickN.mk _ (by assumption) ?_ | refine PickN.mk _ rfl ?_ | refine PickN.au ?_ | refine App.au rfl ?_ | refine App.au (own_map (fun _ => rfl) _) ?_ | refine Both.mk ?_ ?_ | exact True.intro
    refine Stop.mk (ih (k + 1) (g := []) _ _ _ (by omega) (by omega) ?_)
    rw [← hend]
    exact ⟨rfl, (by repeat' first | exact trivial | refine ⟨rfl, ?_⟩ | refine ⟨congrArg (fun n => AV.lit (.int .i64 n)) (by omega), ?_⟩ | refine ⟨congrArg (fun l => some (Row.row 1 l)) (by simp [int1, num, tru]), ?_⟩), (by repeat' first | exact trivial | refine ⟨rfl, ?_⟩ | refine ⟨congrArg (fun n => AV.lit (.int .i64 n)) (by omega), ?_⟩ | refine ⟨congrArg (fun l => some (Row.row 1 l)) (by simp [int1, num, tru]), ?_⟩)⟩
  have hkR : Rc s k := ((hma k).1 (by rw [gb]; simpa using h3)).2
  have gr := hpg k (by omega)
  have hrn := fun (x : Int) (h : x ∈ predOf s k s.length) => predOf_nn h
  have hrl := hpol k
  have hall := fun M (h : PreM s l k (predOf s k s.length) M) => rimMid_end (s := s) (n := s.length) (k := k) (h.all T hkR)
  obtain ⟨y, gy, -⟩ := getK (l := l) (k := k) (by have := T.len; omega)
  generalize predOf s k s.length = r at *
  have hy : ∀ p, Rc s p → Ed s p k → (k ≠ 0 → Anc l (par l k) p) := fun p hp he h0 =>
    (T.dom _ p hp).2 (((T.dom _ k hkR).1 (.up h0 .self)).pred hp he fun e => by
      obtain ⟨pl, h1, -⟩ := T.anc_lt
      have := h1 k h0 hkR
      rw [e] at this; omega)
  obtain ⟨plw, hplw, -⟩ := T.anc_lt
  repeat' first | refine Pick.map gr ?_ | refine Len.map ?_ | refine Len.nil ?_ | refine Len.cons ?_ | refine Br.t rfl ?_ | refine Br.f rfl ?_ | refine Fit.au ?_ | refine Need.au ?_ | refine Pick.map (by assumption) ?_ | refine Pick.mapI (by omega) (by assumption) ?_ | refine PickN.mk _ (by assumption) ?_ | refine PickN.mk _ rfl ?_ | refine PickN.au ?_ | refine App.au rfl ?_ | refine App.au (own_map (fun _ => rfl) _) ?_ | refine Both.mk ?_ ?_ | exact True.intro
  refine Stop.mk (loop_in (g := []) (fun p : Nat × (Nat → Bool) => [(3, ints l), (4, lsts P), (5, .sl false 1 (m.map tb)), (6, .hw 1), (22, .sl false 1 (m.map tb)), (23, num m.length), (24, num k), (7, num k), (34, ints r), (35, num r.length), (36, num p.1)]) (fun p => [(1, .row 1 ((rimMid s s.length k p.2).map olst))]) 2 (fun p => p.1 ≤ r.length ∧ PreM s l k (r.take p.1) p.2) (fun p => r.length - p.1) (0, fun _ => false) ⟨by simp only; omega, .start⟩ ⟨rfl, (by repeat' first | exact trivial | refine ⟨rfl, ?_⟩ | refine ⟨congrArg (fun n => AV.lit (.int .i64 n)) (by omega), ?_⟩ | refine ⟨congrArg (fun l => some (Row.row 1 l)) (by simp [int1, num, tru]), ?_⟩), (by repeat' first | exact trivial | refine ⟨rfl, ?_⟩ | refine ⟨congrArg (fun n => AV.lit (.int .i64 n)) (by omega), ?_⟩ | refine ⟨congrArg (fun l => some (Row.row 1 l)) (by simp [int1, num, tru]), ?_⟩)⟩ (fun p hp ih2 => ?_))
  obtain ⟨j, M⟩ := p
  obtain ⟨hj, hM⟩ := hp
  dsimp only at hj hM ih2 ⊢
  refine go 1000 Try.func34 ?_
  repeat' first | refine Len.map ?_ | refine Len.nil ?_ | refine Len.cons ?_ | refine Br.t rfl ?_ | refine Br.f rfl ?_ | refine Fit.au ?_ | refine Need.au ?_ | refine Pick.map (by assumption) ?_ | refine Pick.mapI (by omega) (by assumption) ?_ | refine PickN.mk _ (by assumption) ?_ | refine PickN.mk _ rfl ?_ | refine PickN.au ?_ | refine App.au rfl ?_ | refine App.au (own_map (fun _ => rfl) _) ?_ | refine Both.mk ?_ ?_ | exact True.intro
  refine Br.d (fun h4 => ?_) (fun h4 => ?_)
  rotate_left
  · rw [take_all (by omega)] at hM
    have hend := hall M hM
    repeat' first | refine Len.map ?_ | refine Len.nil ?_ | refine Len.cons ?_ | refine Br.t rfl ?_ | refine Br.f rfl ?_ | refine Fit.au ?_ | refine Need.au ?_ | refine Pick.map (by assumption) ?_ | refine Pick.mapI (by omega) (by assumption) ?_ | refine PickN.mk _ (by assumption) ?_ | refine PickN.mk _ rfl ?_ | refine PickN.au ?_ | refine App.au rfl ?_ | refine App.au (own_map (fun _ => rfl) _) ?_ | refine Both.mk ?_ ?_ | exact True.intro
    refine Stop.mk (ih (k + 1) (g := []) _ _ _ (by omega) (by omega) ?_)
    rw [← hend]
    exact ⟨rfl, (by repeat' first | exact trivial | refine ⟨rfl, ?_⟩ | refine ⟨congrArg (fun n => AV.lit (.int .i64 n)) (by omega), ?_⟩ | refine ⟨congrArg (fun l => some (Row.row 1 l)) (by simp [int1, num, tru]), ?_⟩), (by repeat' first | exact trivial | refine ⟨rfl, ?_⟩ | refine ⟨congrArg (fun n => AV.lit (.int .i64 n)) (by omega), ?_⟩ | refine ⟨congrArg (fun l => some (Row.row 1 l)) (by simp [int1, num, tru]), ?_⟩)⟩
  obtain ⟨y', gp, gpm⟩ := getK (l := r) (k := j) (by omega)
  obtain ⟨p, rfl, hpE⟩ := hrn y' gpm
  have hpk : p < s.length := by
    obtain ⟨q, gq, -⟩ := hpE
    exact (List.getElem?_eq_some_iff.1 gq).1
  obtain ⟨bp, gbp, -⟩ := getK (l := m) (k := p) (by omega)
  have htk := take_succ gp
  repeat' first | refine Pick.map gp ?_ | refine Len.map ?_ | refine Len.nil ?_ | refine Len.cons ?_ | refine Br.t rfl ?_ | refine Br.f rfl ?_ | refine Fit.au ?_ | refine Need.au ?_ | refine Pick.map (by assumption) ?_ | refine Pick.mapI (by omega) (by assumption) ?_ | refine PickN.mk _ (by assumption) ?_ | refine PickN.mk _ rfl ?_ | refine PickN.au ?_ | refine App.au rfl ?_ | refine App.au (own_map (fun _ => rfl) _) ?_ | refine Both.mk ?_ ?_ | exact True.intro
  by_cases hpR : Rc s p
  · have hbp : bp = true := by
      have := (hma p).2 ⟨hpk, hpR⟩
      rw [gbp] at this; exact Option.some.inj this
    subst hbp
    refine Stop.mk (loop_in (g := []) (fun q : Int × (Nat → Bool) => [(3, ints l), (4, lsts P), (5, .sl false 1 (m.map tb)), (6, .hw 1), (22, .sl false 1 (m.map tb)), (23, num m.length), (24, num k), (7, num k), (34, ints r), (35, num r.length), (36, num j), (10, num p), (11, num q.1)]) (fun q => [(1, .row 1 ((rimMid s s.length k q.2).map olst))]) 2 (fun q => Walk s l k p M q.1 q.2) (fun q => if q.1 < 0 then 0 else plw q.1.toNat + 1) ((p : Int), M) (.start hpR (hy p hpR hpE)) ⟨rfl, (by repeat' first | exact trivial | refine ⟨rfl, ?_⟩ | refine ⟨congrArg (fun n => AV.lit (.int .i64 n)) (by omega), ?_⟩ | refine ⟨congrArg (fun l => some (Row.row 1 l)) (by simp [int1, num, tru]), ?_⟩), (by repeat' first | exact trivial | refine ⟨rfl, ?_⟩ | refine ⟨congrArg (fun n => AV.lit (.int .i64 n)) (by omega), ?_⟩ | refine ⟨congrArg (fun l => some (Row.row 1 l)) (by simp [int1, num, tru]), ?_⟩)⟩ (fun q hW ih3 => ?_))
    obtain ⟨at_, M'⟩ := q
    dsimp only at hW ih3 ⊢
    have hdone := fun hs => hM.next hpR fun a => hW.done T hkR (by omega) gy hs a
    refine go 1000 Try.func34 ?_
    repeat' first | refine Pick.map gbp ?_ | refine Len.map ?_ | refine Len.nil ?_ | refine Len.cons ?_ | refine Br.t rfl ?_ | refine Br.f rfl ?_ | refine Fit.au ?_ | refine Need.au ?_ | refine Pick.map (by assumption) ?_ | refine Pick.mapI (by omega) (by assumption) ?_ | refine PickN.mk _ (by assumption) ?_ | refine PickN.mk _ rfl ?_ | refine PickN.au ?_ | refine App.au rfl ?_ | refine App.au (own_map (fun _ => rfl) _) ?_ | refine Both.mk ?_ ?_ | exact True.intro
    refine Br.d (fun h5 => ?_) (fun h5 => ?_)
    · obtain ⟨t, rfl, htR, htp, htk2⟩ := hW.on.resolve_left (by omega)
      have hts := Rc_lt hcl htR
      obtain ⟨z, gz, -⟩ := getK (l := l) (k := t) (by have := T.len; omega)
      repeat' first | refine Pick.map gy ?_ | refine Len.map ?_ | refine Len.nil ?_ | refine Len.cons ?_ | refine Br.t rfl ?_ | refine Br.f rfl ?_ | refine Fit.au ?_ | refine Need.au ?_ | refine Pick.map (by assumption) ?_ | refine Pick.mapI (by omega) (by assumption) ?_ | refine PickN.mk _ (by assumption) ?_ | refine PickN.mk _ rfl ?_ | refine PickN.au ?_ | refine App.au rfl ?_ | refine App.au (own_map (fun _ => rfl) _) ?_ | refine Both.mk ?_ ?_ | exact True.intro
      refine Br.nd (fun h6 => ?_) (fun h6 => ?_)
      · have hstep := hW.step T hkR gy h6 gz
        have hrow := rimMid_at (s := s) (n := s.length) (k := k) (M := M') hts
        have hmlen := rimMid_len s s.length k M'
        have hnew := rimMid_set (s := s) (n := s.length) (k := k) (M := M') hts
        have hsame := rimMid_same (s := s) (n := s.length) (k := k) (M := M') (a := t)
        have hhas := rimMid_has (s := s) (k := k) (M := M') (a := t)
        have hlen : (rimTo s t k ++ if M' t = true then [(k : Int)] else []).length ≤ 1000001 := by
          have := @rimTo_len s t k
          rw [List.length_append]
          split <;> simp <;> omega
        have hz : z = -1 ∨ ∃ t2 : Nat, z = (t2 : Int) := by
          rcases hstep.on with h7 | ⟨t2, h7, -⟩
          · exact .inl h7
          · exact .inr ⟨t2, h7⟩
        have hmu : (if z < 0 then 0 else plw z.toNat + 1) < (if (t : Int) < 0 then 0 else plw (t : Int).toNat + 1) := by
          have e1 : ¬ ((t : Int) < 0) := by omega
          rw [if_neg e1]
          split
          · omega
          · have ht0 : t ≠ 0 := fun e => by
              subst e
              have := T.out 0 hts (.inl rfl)
              rw [gz] at this
              have := Option.some.inj this
              omega
            have h8 := (T.up t ht0 htR).1
            rw [gz] at h8
            have h9 := Option.some.inj h8
            have := hplw t ht0 htR
            rw [h9]
            simp only [Int.toNat_natCast]
            omega
        generalize (rimTo s t k ++ if M' t = true then [(k : Int)] else []) = row at *
        have hid0 : ((rimMid s s.length k M').map olst).set t [.osl 1 (row.map int1)] = (rimMid s s.length k M').map olst := by
          apply List.ext_getElem?
          intro x
          rw [List.getElem?_set]
          split
          · rename_i e; subst e
            rw [if_pos (by rw [List.length_map, hmlen]; exact hts), List.getElem?_map, hrow]; rfl
          · rfl
        repeat' first | refine PickN.map hrow ?_ | refine Len.map ?_ | refine Len.nil ?_ | refine Len.cons ?_ | refine Br.t rfl ?_ | refine Br.f rfl ?_ | refine Fit.au ?_ | refine Need.au ?_ | refine Pick.map (by assumption) ?_ | refine Pick.mapI (by omega) (by assumption) ?_ | refine PickN.mk _ (by assumption) ?_ | refine PickN.mk _ rfl ?_ | refine PickN.au ?_ | refine App.au rfl ?_ | refine App.au (own_map (fun _ => rfl) _) ?_ | refine Both.mk ?_ ?_ | exact True.intro
        refine Look.stop (Stop.mk ?_)
        refine run_inlC rfl want_none rfl rfl rfl rfl rfl rfl rfl (goI 1000 Try.func70 ?_)
        repeat' first | refine Len.map ?_ | refine Len.nil ?_ | refine Len.cons ?_ | refine Br.t rfl ?_ | refine Br.f rfl ?_ | refine Fit.au ?_ | refine Need.au ?_ | refine Pick.map (by assumption) ?_ | refine Pick.mapI (by omega) (by assumption) ?_ | refine PickN.mk _ (by assumption) ?_ | refine PickN.mk _ rfl ?_ | refine PickN.au ?_ | refine App.au rfl ?_ | refine App.au (own_map (fun _ => rfl) _) ?_ | refine Both.mk ?_ ?_ | exact True.intro
        refine Look.stop (Stop.mk ?_)
        refine run_inlC rfl want_none rfl rfl rfl rfl rfl rfl rfl (goI 1000 Try.func97 ?_)
        repeat' first | refine Len.map ?_ | refine Len.nil ?_ | refine Len.cons ?_ | refine Br.t rfl ?_ | refine Br.f rfl ?_ | refine Fit.au ?_ | refine Need.au ?_ | refine Pick.map (by assumption) ?_ | refine Pick.mapI (by omega) (by assumption) ?_ | refine PickN.mk _ (by assumption) ?_ | refine PickN.mk _ rfl ?_ | refine PickN.au ?_ | refine App.au rfl ?_ | refine App.au (own_map (fun _ => rfl) _) ?_ | refine Both.mk ?_ ?_ | exact True.intro
        refine Stop.mk (loop_in (g := []) (fun q : Nat => [(0, .hw 2), (1, num k), (7, num row.length), (8, num q)]) (fun q => [(2, .row 1 (row.map int1)), (1, .foc 1 ((rimMid s s.length k M').map olst) [.osl 1 (row.map int1)] t 0 2)]) 3 (fun q => q ≤ row.length ∧ (k : Int) ∉ row.take q) (fun q => row.length - q) 0 ⟨by omega, by simp⟩ ⟨rfl, (by repeat' first | exact trivial | refine ⟨rfl, ?_⟩ | refine ⟨congrArg (fun n => AV.lit (.int .i64 n)) (by omega), ?_⟩ | refine ⟨congrArg (fun l => some (Row.row 1 l)) (by simp [int1, num, tru]), ?_⟩), (by repeat' first | exact trivial | refine ⟨rfl, ?_⟩ | refine ⟨congrArg (fun n => AV.lit (.int .i64 n)) (by omega), ?_⟩ | refine ⟨congrArg (fun l => some (Row.row 1 l)) (by simp [int1, num, tru]), ?_⟩)⟩ (fun q hq ih4 => ?_))
        obtain ⟨hq1, hq2⟩ := hq
        refine goI 1000 Try.func97 ?_
        repeat' first | refine Len.map ?_ | refine Len.nil ?_ | refine Len.cons ?_ | refine Br.t rfl ?_ | refine Br.f rfl ?_ | refine Fit.au ?_ | refine Need.au ?_ | refine Pick.map (by assumption) ?_ | refine Pick.mapI (by omega) (by assumption) ?_ | refine PickN.mk _ (by assumption) ?_ | refine PickN.mk _ rfl ?_ | refine PickN.au ?_ | refine App.au rfl ?_ | refine App.au (own_map (fun _ => rfl) _) ?_ | refine Both.mk ?_ ?_ | exact True.intro
        refine Br.d (fun h7 => ?_) (fun h7 => ?_)
        · obtain ⟨x, gx, gxm⟩ := getK (l := row) (k := q) (by omega)
          repeat' first | refine Pick.map gx ?_ | refine Len.map ?_ | refine Len.nil ?_ | refine Len.cons ?_ | refine Br.t rfl ?_ | refine Br.f rfl ?_ | refine Fit.au ?_ | refine Need.au ?_ | refine Pick.map (by assumption) ?_ | refine Pick.mapI (by omega) (by assumption) ?_ | refine PickN.mk _ (by assumption) ?_ | refine PickN.mk _ rfl ?_ | refine PickN.au ?_ | refine App.au rfl ?_ | refine App.au (own_map (fun _ => rfl) _) ?_ | refine Both.mk ?_ ?_ | exact True.intro
          refine Br.d (fun h8 => ?_) (fun h8 => ?_)
          · have hMt : M' t = true := hhas.1 (by rw [h8]; exact gxm)
            repeat' first | refine Len.map ?_ | refine Len.nil ?_ | refine Len.cons ?_ | refine Br.t rfl ?_ | refine Br.f rfl ?_ | refine Fit.au ?_ | refine Need.au ?_ | refine Pick.map (by assumption) ?_ | refine Pick.mapI (by omega) (by assumption) ?_ | refine PickN.mk _ (by assumption) ?_ | refine PickN.mk _ rfl ?_ | refine PickN.au ?_ | refine App.au rfl ?_ | refine App.au (own_map (fun _ => rfl) _) ?_ | refine Both.mk ?_ ?_ | exact True.intro
            refine goI 1000 Try.func70 ?_
            repeat' first | refine Len.map ?_ | refine Len.nil ?_ | refine Len.cons ?_ | refine Br.t rfl ?_ | refine Br.f rfl ?_ | refine Fit.au ?_ | refine Need.au ?_ | refine Pick.map (by assumption) ?_ | refine Pick.mapI (by omega) (by assumption) ?_ | refine PickN.mk _ (by assumption) ?_ | refine PickN.mk _ rfl ?_ | refine PickN.au ?_ | refine App.au rfl ?_ | refine App.au (own_map (fun _ => rfl) _) ?_ | refine Both.mk ?_ ?_ | exact True.intro
            refine run_unf 1 (hp' := [(1, .row 1 ((rimMid s s.length k M').map olst))]) (by show some [(1, Row.row 1 (((rimMid s s.length k M').map olst).set t [AV.osl 1 (row.map int1)]))] = _; rw [hid0]) ?_
            refine go 1000 Try.func34 ?_
            repeat' first | refine Pick.map gz ?_ | (refine Br.f ?_ ?_; focus (simp; omega)) | refine Len.map ?_ | refine Len.nil ?_ | refine Len.cons ?_ | refine Br.t rfl ?_ | refine Br.f rfl ?_ | refine Fit.au ?_ | refine Need.au ?_ | refine Pick.map (by assumption) ?_ | refine Pick.mapI (by omega) (by assumption) ?_ | refine PickN.mk _ (by assumption) ?_ | refine PickN.mk _ rfl ?_ | refine PickN.au ?_ | refine App.au rfl ?_ | refine App.au (own_map (fun _ => rfl) _) ?_ | refine Both.mk ?_ ?_ | exact True.intro
            refine Stop.mk (ih3 (z, fun x => M' x || decide (x = t)) (g := []) _ _ _ hstep hmu ?_)
            dsimp only
            rw [← hsame hMt]
            exact ⟨rfl, (by repeat' first | exact trivial | refine ⟨rfl, ?_⟩ | refine ⟨congrArg (fun n => AV.lit (.int .i64 n)) (by omega), ?_⟩ | refine ⟨congrArg (fun l => some (Row.row 1 l)) (by simp [int1, num, tru]), ?_⟩), (by repeat' first | exact trivial | refine ⟨rfl, ?_⟩ | refine ⟨congrArg (fun n => AV.lit (.int .i64 n)) (by omega), ?_⟩ | refine ⟨congrArg (fun l => some (Row.row 1 l)) (by simp [int1, num, tru]), ?_⟩)⟩
          · repeat' first | refine Len.map ?_ | refine Len.nil ?_ | refine Len.cons ?_ | refine Br.t rfl ?_ | refine Br.f rfl ?_ | refine Fit.au ?_ | refine Need.au ?_ | refine Pick.map (by assumption) ?_ | refine Pick.mapI (by omega) (by assumption) ?_ | refine PickN.mk _ (by assumption) ?_ | refine PickN.mk _ rfl ?_ | refine PickN.au ?_ | refine App.au rfl ?_ | refine App.au (own_map (fun _ => rfl) _) ?_ | refine Both.mk ?_ ?_ | exact True.intro
            refine Stop.mk (ih4 (q + 1) (g := []) _ _ _ ⟨by omega, ?_⟩ (by omega) ⟨rfl, (by repeat' first | exact trivial | refine ⟨rfl, ?_⟩ | refine ⟨congrArg (fun n => AV.lit (.int .i64 n)) (by omega), ?_⟩ | refine ⟨congrArg (fun l => some (Row.row 1 l)) (by simp [int1, num, tru]), ?_⟩), (by repeat' first | exact trivial | refine ⟨rfl, ?_⟩ | refine ⟨congrArg (fun n => AV.lit (.int .i64 n)) (by omega), ?_⟩ | refine ⟨congrArg (fun l => some (Row.row 1 l)) (by simp [int1, num, tru]), ?_⟩)⟩)
            rw [take_succ gx, List.mem_append]
            rintro (h9 | h9)
            · exact hq2 h9
            · exact h8 (List.mem_singleton.1 h9)
        · rw [take_all (by omega)] at hq2
          have hMt : M' t ≠ true := fun h => hq2 (hhas.2 h)
          have hnw := hnew hMt
          repeat' first | refine Len.map ?_ | refine Len.nil ?_ | refine Len.cons ?_ | refine Br.t rfl ?_ | refine Br.f rfl ?_ | refine Fit.au ?_ | refine Need.au ?_ | refine Pick.map (by assumption) ?_ | refine Pick.mapI (by omega) (by assumption) ?_ | refine PickN.mk _ (by assumption) ?_ | refine PickN.mk _ rfl ?_ | refine PickN.au ?_ | refine App.au rfl ?_ | refine App.au (own_map (fun _ => rfl) _) ?_ | refine Both.mk ?_ ?_ | exact True.intro
          refine goI 1000 Try.func70 ?_
          repeat' first | refine Len.map ?_ | refine Len.nil ?_ | refine Len.cons ?_ | refine Br.t rfl ?_ | refine Br.f rfl ?_ | refine Fit.au ?_ | refine Need.au ?_ | refine Pick.map (by assumption) ?_ | refine Pick.mapI (by omega) (by assumption) ?_ | refine PickN.mk _ (by assumption) ?_ | refine PickN.mk _ rfl ?_ | refine PickN.au ?_ | refine App.au rfl ?_ | refine App.au (own_map (fun _ => rfl) _) ?_ | refine Both.mk ?_ ?_ | exact True.intro
          refine run_unf 1 (hp' := [(1, .row 1 ((rimMid s s.length k M').map olst))]) (by show some [(1, Row.row 1 (((rimMid s s.length k M').map olst).set t [AV.osl 1 (row.map int1)]))] = _; rw [hid0]) ?_
          refine go 1000 Try.func34 ?_
          repeat' first | refine PickN.map hrow ?_ | refine Len.map ?_ | refine Len.nil ?_ | refine Len.cons ?_ | refine Br.t rfl ?_ | refine Br.f rfl ?_ | refine Fit.au ?_ | refine Need.au ?_ | refine Pick.map (by assumption) ?_ | refine Pick.mapI (by omega) (by assumption) ?_ | refine PickN.mk _ (by assumption) ?_ | refine PickN.mk _ rfl ?_ | refine PickN.au ?_ | refine App.au rfl ?_ | refine App.au (own_map (fun _ => rfl) _) ?_ | refine Both.mk ?_ ?_ | exact True.intro
          refine Need.mk rfl ?_
          repeat' first | refine Pick.map gz ?_ | refine Len.map ?_ | refine Len.nil ?_ | refine Len.cons ?_ | refine Br.t rfl ?_ | refine Br.f rfl ?_ | refine Fit.au ?_ | refine Need.au ?_ | refine Pick.map (by assumption) ?_ | refine Pick.mapI (by omega) (by assumption) ?_ | refine PickN.mk _ (by assumption) ?_ | refine PickN.mk _ rfl ?_ | refine PickN.au ?_ | refine App.au rfl ?_ | refine App.au (own_map (fun _ => rfl) _) ?_ | refine Both.mk ?_ ?_ | exact True.intro
          refine Stop.mk (ih3 (z, fun x => M' x || decide (x = t)) (g := []) _ _ _ hstep hmu ?_)
          dsimp only
          rw [← hnw, ← set_olst2]
          exact ⟨rfl, (by repeat' first | exact trivial | refine ⟨rfl, ?_⟩ | refine ⟨congrArg (fun n => AV.lit (.int .i64 n)) (by omega), ?_⟩ | refine ⟨congrArg (fun l => some (Row.row 1 l)) (by simp [int1, num, tru]), ?_⟩), (by repeat' first | exact trivial | refine ⟨rfl, ?_⟩ | refine ⟨congrArg (fun n => AV.lit (.int .i64 n)) (by omega), ?_⟩ | refine ⟨congrArg (fun l => some (Row.row 1 l)) (by simp [int1, num, tru]), ?_⟩)⟩
      · have hPM := hdone (.inr (by omega))
        rw [← htk] at hPM
        repeat' first | refine Len.map ?_ | refine Len.nil ?_ | refine Len.cons ?_ | refine Br.t rfl ?_ | refine Br.f rfl ?_ | refine Fit.au ?_ | refine Need.au ?_ | refine Pick.map (by assumption) ?_ | refine Pick.mapI (by omega) (by assumption) ?_ | refine PickN.mk _ (by assumption) ?_ | refine PickN.mk _ rfl ?_ | refine PickN.au ?_ | refine App.au rfl ?_ | refine App.au (own_map (fun _ => rfl) _) ?_ | refine Both.mk ?_ ?_ | exact True.intro
        exact Stop.mk (ih2 (j + 1, M') (g := []) _ _ _ ⟨by simp only; omega, hPM⟩ (by simp only; omega) ⟨rfl, (by repeat' first | exact trivial | refine ⟨rfl, ?_⟩ | refine ⟨congrArg (fun n => AV.lit (.int .i64 n)) (by omega), ?_⟩ | refine ⟨congrArg (fun l => some (Row.row 1 l)) (by simp [int1, num, tru]), ?_⟩), (by repeat' first | exact trivial | refine ⟨rfl, ?_⟩ | refine ⟨congrArg (fun n => AV.lit (.int .i64 n)) (by omega), ?_⟩ | refine ⟨congrArg (fun l => some (Row.row 1 l)) (by simp [int1, num, tru]), ?_⟩)⟩)
    · have hPM := hdone (.inl (by rcases hW.on with h6 | ⟨t, h6, -⟩ <;> omega))
      rw [← htk] at hPM
      repeat' first | refine Len.map ?_ | refine Len.nil ?_ | refine Len.cons ?_ | refine Br.t rfl ?_ | refine Br.f rfl ?_ | refine Fit.au ?_ | refine Need.au ?_ | refine Pick.map (by assumption) ?_ | refine Pick.mapI (by omega) (by assumption) ?_ | refine PickN.mk _ (by assumption) ?_ | refine PickN.mk _ rfl ?_ | refine PickN.au ?_ | refine App.au rfl ?_ | refine App.au (own_map (fun _ => rfl) _) ?_ | refine Both.mk ?_ ?_ | exact True.intro
      exact Stop.mk (ih2 (j + 1, M') (g := []) _ _ _ ⟨by simp only; omega, hPM⟩ (by simp only; omega) ⟨rfl, (by repeat' first | exact trivial | refine ⟨rfl, ?_⟩ | refine ⟨congrArg (fun n => AV.lit (.int .i64 n)) (by omega), ?_⟩ | refine ⟨congrArg (fun l => some (Row.row 1 l)) (by simp [int1, num, tru]), ?_⟩), (by repeat' first | exact trivial | refine ⟨rfl, ?_⟩ | refine ⟨congrArg (fun n => AV.lit (.int .i64 n)) (by omega), ?_⟩ | refine ⟨congrArg (fun l => some (Row.row 1 l)) (by simp [int1, num, tru]), ?_⟩)⟩)
  · have hbp : bp = false := by
      cases bp with
      | false => rfl
      | true => exact absurd ((hma p).1 gbp).2 hpR
    subst hbp
    refine Stop.mk (run_loop (go 1000 Try.func34 ?_))
    repeat' first | refine Pick.map gbp ?_ | refine Len.map ?_ | refine Len.nil ?_ | refine Len.cons ?_ | refine Br.t rfl ?_ | refine Br.f rfl ?_ | refine Fit.au ?_ | refine Need.au ?_ | refine Pick.map (by assumption) ?_ | refine Pick.mapI (by omega) (by assumption) ?_ | refine PickN.mk _ (by assumption) ?_ | refine PickN.mk _ rfl ?_ | refine PickN.au ?_ | refine App.au rfl ?_ | refine App.au (own_map (fun _ => rfl) _) ?_ | refine Both.mk ?_ ?_ | exact True.intro
    refine Stop.mk (ih2 (j + 1, M) (g := []) _ _ _ ⟨by simp only; omega, ?_⟩ (by simp only; omega) ⟨rfl, (by repeat' first | exact trivial | refine ⟨rfl, ?_⟩ | refine ⟨congrArg (fun n => AV.lit (.int .i64 n)) (by omega), ?_⟩ | refine ⟨congrArg (fun l => some (Row.row 1 l)) (by simp [int1, num, tru]), ?_⟩), (by repeat' first | exact trivial | refine ⟨rfl, ?_⟩ | refine ⟨congrArg (fun n => AV.lit (.int .i64 n)) (by omega), ?_⟩ | refine ⟨congrArg (fun l => some (Row.row 1 l)) (by simp [int1, num, tru]), ?_⟩)⟩)
    simp only
    rw [htk]
    exact hM.skip hpR
end Go.Proofs.Ytnfkdilmoppbpaa

/- The document's rim, and what the law of rims looks at, by contracts. -/
namespace Go.Proofs.Ytnfkdilmoppbpaa
open Go.Ax
set_option maxRecDepth 10000
set_option linter.unusedVariables false

theorem SameLists_spec (a b : List (List Int)) (ha : a.length ≤ 1000000000) (hal : ∀ l ∈ a, l.length ≤ 1000000000) : FnSpec Try.prog 66 [lsts a, lsts b] (fun r => r = tru (decide (a = b))) := by
  refine spec_of 1000 Try.func66 rfl rfl ?_
  repeat' first | refine Len.map ?_ | refine Len.nil ?_ | refine Len.cons ?_ | refine Br.t rfl ?_ | refine Br.f rfl ?_ | refine Fit.au ?_ | refine Need.au ?_ | refine Pick.map (by assumption) ?_ | refine Pick.mapI (by omega) (by assumption) ?_ | refine PickN.mk _ (by assumption) ?_ | refine PickN.mk _ rfl ?_ | refine PickN.au ?_ | refine App.au rfl ?_ | refine App.au (own_map (fun _ => rfl) _) ?_ | refine Both.mk ?_ ?_ | exact True.intro
  refine Br.nd (fun h => ?_) (fun h => ?_)
  · repeat' first | refine Len.map ?_ | refine Len.nil ?_ | refine Len.cons ?_ | refine Br.t rfl ?_ | refine Br.f rfl ?_ | refine Fit.au ?_ | refine Need.au ?_ | refine Pick.map (by assumption) ?_ | refine Pick.mapI (by omega) (by assumption) ?_ | refine PickN.mk _ (by assumption) ?_ | refine PickN.mk _ rfl ?_ | refine PickN.au ?_ | refine App.au rfl ?_ | refine App.au (own_map (fun _ => rfl) _) ?_ | refine Both.mk ?_ ?_ | exact True.intro
    have : a ≠ b := fun e => h (by rw [e])
    show _ = _
    simp [asRes, tru, this]
  repeat' first | refine Len.map ?_ | refine Len.nil ?_ | refine Len.cons ?_ | refine Br.t rfl ?_ | refine Br.f rfl ?_ | refine Fit.au ?_ | refine Need.au ?_ | refine Pick.map (by assumption) ?_ | refine Pick.mapI (by omega) (by assumption) ?_ | refine PickN.mk _ (by assumption) ?_ | refine PickN.mk _ rfl ?_ | refine PickN.au ?_ | refine App.au rfl ?_ | refine App.au (own_map (fun _ => rfl) _) ?_ | refine Both.mk ?_ ?_ | exact True.intro
  refine Stop.mk (loop_in (g := []) (fun k : Nat => [(0, lsts a), (1, lsts b), (5, num k)]) (fun k => []) 0 (fun k => k ≤ a.length ∧ a.take k = b.take k) (fun k => a.length - k) 0 ⟨by omega, rfl⟩ ⟨rfl, (by repeat' first | exact trivial | refine ⟨rfl, ?_⟩ | refine ⟨congrArg (fun n => AV.lit (.int .i64 n)) (by omega), ?_⟩ | refine ⟨congrArg (fun l => some (Row.row 1 l)) (by simp [int1, num, tru]), ?_⟩), (by repeat' first | exact trivial | refine ⟨rfl, ?_⟩ | refine ⟨congrArg (fun n => AV.lit (.int .i64 n)) (by omega), ?_⟩ | refine ⟨congrArg (fun l => some (Row.row 1 l)) (by simp [int1, num, tru]), ?_⟩)⟩ (fun k hk ih => ?_))
  obtain ⟨hk, heq⟩ := hk
  refine go 1000 Try.func66 ?_
  repeat' first | refine Len.map ?_ | refine Len.nil ?_ | refine Len.cons ?_ | refine Br.t rfl ?_ | refine Br.f rfl ?_ | refine Fit.au ?_ | refine Need.au ?_ | refine Pick.map (by assumption) ?_ | refine Pick.mapI (by omega) (by assumption) ?_ | refine PickN.mk _ (by assumption) ?_ | refine PickN.mk _ rfl ?_ | refine PickN.au ?_ | refine App.au rfl ?_ | refine App.au (own_map (fun _ => rfl) _) ?_ | refine Both.mk ?_ ?_ | exact True.intro
  refine Br.d (fun h2 => ?_) (fun h2 => ?_)
  · obtain ⟨x, gx, gxm⟩ := getK (l := a) (k := k) (by omega)
    obtain ⟨y, gy, -⟩ := getK (l := b) (k := k) (by omega)
    repeat' first | refine Draw.mk (ordL [8] [0, 1, 2, 3, 4, 5, 6, 7, 8, 9]) (by decide +kernel) ?_ | refine Pick.map gx ?_ | refine Pick.map gy ?_ | refine Call.eq (SameInts_spec x y (by have := hal x gxm; omega)) rfl ?_ | refine Len.map ?_ | refine Len.nil ?_ | refine Len.cons ?_ | refine Br.t rfl ?_ | refine Br.f rfl ?_ | refine Fit.au ?_ | refine Need.au ?_ | refine Pick.map (by assumption) ?_ | refine Pick.mapI (by omega) (by assumption) ?_ | refine PickN.mk _ (by assumption) ?_ | refine PickN.mk _ rfl ?_ | refine PickN.au ?_ | refine App.au rfl ?_ | refine App.au (own_map (fun _ => rfl) _) ?_ | refine Both.mk ?_ ?_ | exact True.intro
    refine Br.nd (fun h3 => ?_) (fun h3 => ?_)
    · repeat' first | refine Len.map ?_ | refine Len.nil ?_ | refine Len.cons ?_ | refine Br.t rfl ?_ | refine Br.f rfl ?_ | refine Fit.au ?_ | refine Need.au ?_ | refine Pick.map (by assumption) ?_ | refine Pick.mapI (by omega) (by assumption) ?_ | refine PickN.mk _ (by assumption) ?_ | refine PickN.mk _ rfl ?_ | refine PickN.au ?_ | refine App.au rfl ?_ | refine App.au (own_map (fun _ => rfl) _) ?_ | refine Both.mk ?_ ?_ | exact True.intro
      have : a ≠ b := fun e => h3 (by subst e; rw [gx] at gy; exact Option.some.inj gy)
      show _ = _
      simp [asRes, tru, this]
    · repeat' first | refine Len.map ?_ | refine Len.nil ?_ | refine Len.cons ?_ | refine Br.t rfl ?_ | refine Br.f rfl ?_ | refine Fit.au ?_ | refine Need.au ?_ | refine Pick.map (by assumption) ?_ | refine Pick.mapI (by omega) (by assumption) ?_ | refine PickN.mk _ (by assumption) ?_ | refine PickN.mk _ rfl ?_ | refine PickN.au ?_ | refine App.au rfl ?_ | refine App.au (own_map (fun _ => rfl) _) ?_ | refine Both.mk ?_ ?_ | exact True.intro
      refine Stop.mk (ih (k + 1) (g := []) _ _ _ ⟨by omega, ?_⟩ (by omega) ⟨rfl, (by repeat' first | exact trivial | refine ⟨rfl, ?_⟩ | refine ⟨congrArg (fun n => AV.lit (.int .i64 n)) (by omega), ?_⟩ | refine ⟨congrArg (fun l => some (Row.row 1 l)) (by simp [int1, num, tru]), ?_⟩), (by repeat' first | exact trivial | refine ⟨rfl, ?_⟩ | refine ⟨congrArg (fun n => AV.lit (.int .i64 n)) (by omega), ?_⟩ | refine ⟨congrArg (fun l => some (Row.row 1 l)) (by simp [int1, num, tru]), ?_⟩)⟩)
      rw [take_succ gx, take_succ gy, heq, h3]
  · have : a = b := by
      rw [take_all (by omega), take_all (by omega)] at heq
      exact heq
    repeat' first | refine Len.map ?_ | refine Len.nil ?_ | refine Len.cons ?_ | refine Br.t rfl ?_ | refine Br.f rfl ?_ | refine Fit.au ?_ | refine Need.au ?_ | refine Pick.map (by assumption) ?_ | refine Pick.mapI (by omega) (by assumption) ?_ | refine PickN.mk _ (by assumption) ?_ | refine PickN.mk _ rfl ?_ | refine PickN.au ?_ | refine App.au rfl ?_ | refine App.au (own_map (fun _ => rfl) _) ?_ | refine Both.mk ?_ ?_ | exact True.intro
    show _ = _
    simp [asRes, tru, this]

theorem Few65_spec (f : Fun) (hf : f.fits) (hl : f.blocks.length ≤ 1000 → f.count ≤ 100000000000000000) : FnSpec Try.prog 65 [funA f] (fun r => ∃ v, r = tru v ∧ (v = true → f.blocks.length ≤ 40 ∧ f.count ≤ 300)) := by
  have hf1 := hf.1
  refine spec_of 1000 Try.func65 rfl rfl ?_
  repeat' first | refine Len.map ?_ | refine Len.nil ?_ | refine Len.cons ?_ | refine Br.t rfl ?_ | refine Br.f rfl ?_ | refine Fit.au ?_ | refine Need.au ?_ | refine Pick.map (by assumption) ?_ | refine Pick.mapI (by omega) (by assumption) ?_ | refine PickN.mk _ (by assumption) ?_ | refine PickN.mk _ rfl ?_ | refine PickN.au ?_ | refine App.au rfl ?_ | refine App.au (own_map (fun _ => rfl) _) ?_ | refine Both.mk ?_ ?_ | exact True.intro
  refine Stop.mk (loop_in (g := []) (fun p : Nat × Int => [(1, .hp 0 0), (3, num p.2), (4, num p.1)]) (fun p => [(0, .var f.cs)]) 1 (fun p => p.1 ≤ f.blocks.length ∧ (f.blocks.length ≤ 40 → p.2 = (((f.blocks.map List.length).take p.1).sum : Nat))) (fun p => f.blocks.length - p.1) (0, 0) ⟨by simp only; omega, fun _ => rfl⟩ ⟨rfl, (by repeat' first | exact trivial | refine ⟨rfl, ?_⟩ | refine ⟨congrArg (fun n => AV.lit (.int .i64 n)) (by omega), ?_⟩ | refine ⟨congrArg (fun l => some (Row.row 1 l)) (by simp [int1, num, tru]), ?_⟩), (by repeat' first | exact trivial | refine ⟨rfl, ?_⟩ | refine ⟨congrArg (fun n => AV.lit (.int .i64 n)) (by omega), ?_⟩ | refine ⟨congrArg (fun l => some (Row.row 1 l)) (by simp [int1, num, tru]), ?_⟩)⟩ (fun p hp ih => ?_))
  obtain ⟨k, v⟩ := p
  obtain ⟨hk, hv⟩ := hp
  dsimp only at hk hv ih ⊢
  refine go 1000 Try.func65 ?_
  repeat' first | refine Len.map ?_ | refine Len.nil ?_ | refine Len.cons ?_ | refine Br.t rfl ?_ | refine Br.f rfl ?_ | refine Fit.au ?_ | refine Need.au ?_ | refine Pick.map (by assumption) ?_ | refine Pick.mapI (by omega) (by assumption) ?_ | refine PickN.mk _ (by assumption) ?_ | refine PickN.mk _ rfl ?_ | refine PickN.au ?_ | refine App.au rfl ?_ | refine App.au (own_map (fun _ => rfl) _) ?_ | refine Both.mk ?_ ?_ | exact True.intro
  refine Br.d (fun h2 => ?_) (fun h2 => ?_)
  · obtain ⟨b, gb, gbm⟩ := getK (l := f.blocks) (k := k) (by omega)
    have hsum := sum_take_succ (l := f.blocks.map List.length) (k := k) (n := b.length) (by rw [List.getElem?_map, gb]; rfl)
    have hle : ((f.blocks.map List.length).take (k + 1)).sum ≤ f.count := sum_take_le
    by_cases h40 : f.blocks.length ≤ 40
    · have hc := hl (by omega)
      have hv2 := hv h40
      repeat' first | refine Pick.map gb ?_ | refine Len.map ?_ | refine Len.nil ?_ | refine Len.cons ?_ | refine Br.t rfl ?_ | refine Br.f rfl ?_ | refine Fit.au ?_ | refine Need.au ?_ | refine Pick.map (by assumption) ?_ | refine Pick.mapI (by omega) (by assumption) ?_ | refine PickN.mk _ (by assumption) ?_ | refine PickN.mk _ rfl ?_ | refine PickN.au ?_ | refine App.au rfl ?_ | refine App.au (own_map (fun _ => rfl) _) ?_ | refine Both.mk ?_ ?_ | exact True.intro
      exact Stop.mk (ih (k + 1, v + b.length) (g := []) _ _ _ ⟨by simp only; omega, fun _ => by simp only; omega⟩ (by simp only; omega) ⟨rfl, (by repeat' first | exact trivial | refine ⟨rfl, ?_⟩ | refine ⟨congrArg (fun n => AV.lit (.int .i64 n)) (by omega), ?_⟩ | refine ⟨congrArg (fun l => some (Row.row 1 l)) (by simp [int1, num, tru]), ?_⟩), (by repeat' first | exact trivial | refine ⟨rfl, ?_⟩ | refine ⟨congrArg (fun n => AV.lit (.int .i64 n)) (by omega), ?_⟩ | refine ⟨congrArg (fun l => some (Row.row 1 l)) (by simp [int1, num, tru]), ?_⟩)⟩)
    · repeat' first | refine Pick.map gb ?_ | refine Len.map ?_ | refine Len.nil ?_ | refine Len.cons ?_ | refine Br.t rfl ?_ | refine Br.f rfl ?_ | refine Fit.au ?_ | refine Need.au ?_ | refine Pick.map (by assumption) ?_ | refine Pick.mapI (by omega) (by assumption) ?_ | refine PickN.mk _ (by assumption) ?_ | refine PickN.mk _ rfl ?_ | refine PickN.au ?_ | refine App.au rfl ?_ | refine App.au (own_map (fun _ => rfl) _) ?_ | refine Both.mk ?_ ?_ | exact True.intro
      refine Fit.wr ?_
      repeat' first | refine Len.map ?_ | refine Len.nil ?_ | refine Len.cons ?_ | refine Br.t rfl ?_ | refine Br.f rfl ?_ | refine Fit.au ?_ | refine Need.au ?_ | refine Pick.map (by assumption) ?_ | refine Pick.mapI (by omega) (by assumption) ?_ | refine PickN.mk _ (by assumption) ?_ | refine PickN.mk _ rfl ?_ | refine PickN.au ?_ | refine App.au rfl ?_ | refine App.au (own_map (fun _ => rfl) _) ?_ | refine Both.mk ?_ ?_ | exact True.intro
      exact Stop.mk (ih (k + 1, IntKind.i64.wrap (v + b.length)) (g := []) _ _ _ ⟨by simp only; omega, fun h => absurd h h40⟩ (by simp only; omega) ⟨rfl, (by repeat' first | exact trivial | refine ⟨rfl, ?_⟩ | refine ⟨congrArg (fun n => AV.lit (.int .i64 n)) (by omega), ?_⟩ | refine ⟨congrArg (fun l => some (Row.row 1 l)) (by simp [int1, num, tru]), ?_⟩), (by repeat' first | exact trivial | refine ⟨rfl, ?_⟩ | refine ⟨congrArg (fun n => AV.lit (.int .i64 n)) (by omega), ?_⟩ | refine ⟨congrArg (fun l => some (Row.row 1 l)) (by simp [int1, num, tru]), ?_⟩)⟩)
  · repeat' first | refine Len.map ?_ | refine Len.nil ?_ | refine Len.cons ?_ | refine Br.t rfl ?_ | refine Br.f rfl ?_ | refine Fit.au ?_ | refine Need.au ?_ | refine Pick.map (by assumption) ?_ | refine Pick.mapI (by omega) (by assumption) ?_ | refine PickN.mk _ (by assumption) ?_ | refine PickN.mk _ rfl ?_ | refine PickN.au ?_ | refine App.au rfl ?_ | refine App.au (own_map (fun _ => rfl) _) ?_ | refine Both.mk ?_ ?_ | exact True.intro
    refine Br.d (fun h3 => ?_) (fun h3 => ?_)
    · have h40 : f.blocks.length ≤ 40 := by omega
      have hv2 := hv h40
      rw [take_all (by rw [List.length_map]; omega)] at hv2
      repeat' first | refine Len.map ?_ | refine Len.nil ?_ | refine Len.cons ?_ | refine Br.t rfl ?_ | refine Br.f rfl ?_ | refine Fit.au ?_ | refine Need.au ?_ | refine Pick.map (by assumption) ?_ | refine Pick.mapI (by omega) (by assumption) ?_ | refine PickN.mk _ (by assumption) ?_ | refine PickN.mk _ rfl ?_ | refine PickN.au ?_ | refine App.au rfl ?_ | refine App.au (own_map (fun _ => rfl) _) ?_ | refine Both.mk ?_ ?_ | exact True.intro
      refine ⟨_, rfl, fun h => ⟨h40, ?_⟩⟩
      have : v ≤ 300 := by simpa using h
      have hc : v = (f.count : Nat) := hv2
      omega
    · repeat' first | refine Len.map ?_ | refine Len.nil ?_ | refine Len.cons ?_ | refine Br.t rfl ?_ | refine Br.f rfl ?_ | refine Fit.au ?_ | refine Need.au ?_ | refine Pick.map (by assumption) ?_ | refine Pick.mapI (by omega) (by assumption) ?_ | refine PickN.mk _ (by assumption) ?_ | refine PickN.mk _ rfl ?_ | refine PickN.au ?_ | refine App.au rfl ?_ | refine App.au (own_map (fun _ => rfl) _) ?_ | refine Both.mk ?_ ?_ | exact True.intro
      exact ⟨false, rfl, fun h => by cases h⟩
theorem few32_spec (f : Fun) (hf : f.fits) (hl : f.blocks.length ≤ 1000 → f.count ≤ 100000000000000000) : FnSpec Try.prog 32 [funA f] (fun r => ∃ v, r = tru v ∧ (v = true → f.blocks.length ≤ 12)) := by
  have hf1 := hf.1
  refine spec_of 1000 Try.func32 rfl rfl ?_
  repeat' first | refine Len.map ?_ | refine Len.nil ?_ | refine Len.cons ?_ | refine Br.t rfl ?_ | refine Br.f rfl ?_ | refine Fit.au ?_ | refine Need.au ?_ | refine Pick.map (by assumption) ?_ | refine Pick.mapI (by omega) (by assumption) ?_ | refine PickN.mk _ (by assumption) ?_ | refine PickN.mk _ rfl ?_ | refine PickN.au ?_ | refine App.au rfl ?_ | refine App.au (own_map (fun _ => rfl) _) ?_ | refine Both.mk ?_ ?_ | exact True.intro
  refine Call.of (Few65_spec f hf hl) ?_
  rintro r ⟨v, rfl, hv⟩
  refine ⟨rfl, ?_⟩
  repeat' first | refine Len.map ?_ | refine Len.nil ?_ | refine Len.cons ?_ | refine Br.t rfl ?_ | refine Br.f rfl ?_ | refine Fit.au ?_ | refine Need.au ?_ | refine Pick.map (by assumption) ?_ | refine Pick.mapI (by omega) (by assumption) ?_ | refine PickN.mk _ (by assumption) ?_ | refine PickN.mk _ rfl ?_ | refine PickN.au ?_ | refine App.au rfl ?_ | refine App.au (own_map (fun _ => rfl) _) ?_ | refine Both.mk ?_ ?_ | exact True.intro
  refine Br.mk (fun h => ?_) (fun h => ?_)
  · subst h
    repeat' first | refine Len.map ?_ | refine Len.nil ?_ | refine Len.cons ?_ | refine Br.t rfl ?_ | refine Br.f rfl ?_ | refine Fit.au ?_ | refine Need.au ?_ | refine Pick.map (by assumption) ?_ | refine Pick.mapI (by omega) (by assumption) ?_ | refine PickN.mk _ (by assumption) ?_ | refine PickN.mk _ rfl ?_ | refine PickN.au ?_ | refine App.au rfl ?_ | refine App.au (own_map (fun _ => rfl) _) ?_ | refine Both.mk ?_ ?_ | exact True.intro
    exact ⟨_, rfl, fun h => by have : (f.blocks.length : Int) ≤ 12 := by simpa using h
                               omega⟩
  · subst h
    repeat' first | refine Len.map ?_ | refine Len.nil ?_ | refine Len.cons ?_ | refine Br.t rfl ?_ | refine Br.f rfl ?_ | refine Fit.au ?_ | refine Need.au ?_ | refine Pick.map (by assumption) ?_ | refine Pick.mapI (by omega) (by assumption) ?_ | refine PickN.mk _ (by assumption) ?_ | refine PickN.mk _ rfl ?_ | refine PickN.au ?_ | refine App.au rfl ?_ | refine App.au (own_map (fun _ => rfl) _) ?_ | refine Both.mk ?_ ?_ | exact True.intro
    exact ⟨false, rfl, fun h => by cases h⟩

set_option maxHeartbeats 2000000 in
theorem Rim35_spec (f : Fun) (a : Nat) (hf : f.fits) (hn : f.blocks.length ≤ 1000000) : FnSpec Try.prog 35 [funA f, num a] (fun r => r = .osl 1 ((rimTo (succsF f) a f.blocks.length).map int1)) := by
  have hsl := succsF_len f
  have hP := Preds_spec f hf hn
  have hR := Reach_spec f hf hn
  have hD := fun (b : Int) => Dominates_spec f a b hf hn
  have hpl := predsF_len (succsF f)
  have hpg : ∀ c : Nat, c < (succsF f).length → (predsF (succsF f))[c]? = some (predOf (succsF f) c (succsF f).length) := fun c hc => by
    unfold predsF
    rw [List.getElem?_map, List.getElem?_range hc]; rfl
  have hpol := fun c : Nat => predOf_len (succsF f) c (succsF f).length
  refine spec_of 1000 Try.func35 rfl rfl ?_
  repeat' first | refine Call.eq hP rfl ?_ | refine Len.map ?_ | refine Len.nil ?_ | refine Len.cons ?_ | refine Br.t rfl ?_ | refine Br.f rfl ?_ | refine Fit.au ?_ | refine Need.au ?_ | refine Pick.map (by assumption) ?_ | refine Pick.mapI (by omega) (by assumption) ?_ | refine PickN.mk _ (by assumption) ?_ | refine PickN.mk _ rfl ?_ | refine PickN.au ?_ | refine App.au rfl ?_ | refine App.au (own_map (fun _ => rfl) _) ?_ | refine Both.mk ?_ ?_ | exact True.intro
  refine Call.of hR ?_
  rintro r ⟨m, rfl, hm⟩
  refine ⟨rfl, ?_⟩
  repeat' first | refine Len.map ?_ | refine Len.nil ?_ | refine Len.cons ?_ | refine Br.t rfl ?_ | refine Br.f rfl ?_ | refine Fit.au ?_ | refine Need.au ?_ | refine Pick.map (by assumption) ?_ | refine Pick.mapI (by omega) (by assumption) ?_ | refine PickN.mk _ (by assumption) ?_ | refine PickN.mk _ rfl ?_ | refine PickN.au ?_ | refine App.au rfl ?_ | refine App.au (own_map (fun _ => rfl) _) ?_ | refine Both.mk ?_ ?_ | exact True.intro
  have hml := hm.1
  have hma := fun c : Nat => hm.2 c
  refine Stop.mk (run_frzR 2 rfl (fzLL_map fz_olsts _) ?_)
  refine run_frzR 3 rfl (fzLL_map (enc2 := tb) (fun _ => rfl) _) ?_
  generalize succsF f = s at *
  generalize predsF s = P at *
  refine loop_in (g := []) (fun b : Nat => [(1, num a), (2, .hp 0 0), (5, .hw 1), (6, lsts P), (7, .sl false 1 (m.map tb)), (8, num b)]) (fun b => [(0, .var f.cs), (1, .row 1 ((rimTo s a b).map int1))]) 2 (fun b => b ≤ f.blocks.length) (fun b => f.blocks.length - b) 0 (by omega) ⟨rfl, (by repeat' first | exact trivial | refine ⟨rfl, ?_⟩ | refine ⟨congrArg (fun n => AV.lit (.int .i64 n)) (by omega), ?_⟩ | refine ⟨congrArg (fun l => some (Row.row 1 l)) (by simp [int1, num, tru]), ?_⟩), (by repeat' first | exact trivial | refine ⟨rfl, ?_⟩ | refine ⟨congrArg (fun n => AV.lit (.int .i64 n)) (by omega), ?_⟩ | refine ⟨congrArg (fun l => some (Row.row 1 l)) (by simp [int1, num, tru]), ?_⟩)⟩ (fun b hb ih => ?_)
  have htl := @rimTo_len s a b
  refine go 1000 Try.func35 ?_
  repeat' first | refine Len.map ?_ | refine Len.nil ?_ | refine Len.cons ?_ | refine Br.t rfl ?_ | refine Br.f rfl ?_ | refine Fit.au ?_ | refine Need.au ?_ | refine Pick.map (by assumption) ?_ | refine Pick.mapI (by omega) (by assumption) ?_ | refine PickN.mk _ (by assumption) ?_ | refine PickN.mk _ rfl ?_ | refine PickN.au ?_ | refine App.au rfl ?_ | refine App.au (own_map (fun _ => rfl) _) ?_ | refine Both.mk ?_ ?_ | exact True.intro
  refine Br.d (fun h2 => ?_) (fun h2 => ?_)
  rotate_left
  · repeat' first | refine Len.map ?_ | refine Len.nil ?_ | refine Len.cons ?_ | refine Br.t rfl ?_ | refine Br.f rfl ?_ | refine Fit.au ?_ | refine Need.au ?_ | refine Pick.map (by assumption) ?_ | refine Pick.mapI (by omega) (by assumption) ?_ | refine PickN.mk _ (by assumption) ?_ | refine PickN.mk _ rfl ?_ | refine PickN.au ?_ | refine App.au rfl ?_ | refine App.au (own_map (fun _ => rfl) _) ?_ | refine Both.mk ?_ ?_ | exact True.intro
    rw [show b = f.blocks.length by omega]
    rfl
  have gr := hpg b (by omega)
  have hrn := fun (x : Int) (h : x ∈ predOf s b s.length) => predOf_nn h
  have hrl := hpol b
  have hedge : ∀ p : Nat, (p : Int) ∈ predOf s b s.length ↔ Ed s p b := fun p => mem_predOf
  obtain ⟨mb, gm, -⟩ := getK (l := m) (k := b) (by omega)
  have hmb : mb = true ↔ Rc s b := by
    have := hma b
    rw [gm] at this
    exact ⟨fun h => this.1 (by rw [h]), fun h => by have := this.2 h; exact Option.some.inj this⟩
  have hnext := @rimTo_succ s a b
  generalize predOf s b s.length = r at *
  generalize rimTo s a b = cur at *
  repeat' first | refine Len.map ?_ | refine Len.nil ?_ | refine Len.cons ?_ | refine Br.t rfl ?_ | refine Br.f rfl ?_ | refine Fit.au ?_ | refine Need.au ?_ | refine Pick.map (by assumption) ?_ | refine Pick.mapI (by omega) (by assumption) ?_ | refine PickN.mk _ (by assumption) ?_ | refine PickN.mk _ rfl ?_ | refine PickN.au ?_ | refine App.au rfl ?_ | refine App.au (own_map (fun _ => rfl) _) ?_ | refine Both.mk ?_ ?_ | exact True.intro
  refine Stop.mk (loop_in (g := []) (fun q : Nat × Bool => [(1, num a), (2, .hp 0 0), (5, .hw 1), (6, lsts P), (7, .sl false 1 (m.map tb)), (8, num b), (9, tru q.2), (10, num q.1)]) (fun q => [(0, .var f.cs), (1, .row 1 (cur.map int1))]) 2 (fun q => q.1 ≤ r.length ∧ (q.2 = true ↔ ∃ p : Nat, (p : Int) ∈ r.take q.1 ∧ DomN s a p)) (fun q => r.length - q.1) (0, false) ⟨by simp only; omega, by simp⟩ ⟨rfl, (by repeat' first | exact trivial | refine ⟨rfl, ?_⟩ | refine ⟨congrArg (fun n => AV.lit (.int .i64 n)) (by omega), ?_⟩ | refine ⟨congrArg (fun l => some (Row.row 1 l)) (by simp [int1, num, tru]), ?_⟩), (by repeat' first | exact trivial | refine ⟨rfl, ?_⟩ | refine ⟨congrArg (fun n => AV.lit (.int .i64 n)) (by omega), ?_⟩ | refine ⟨congrArg (fun l => some (Row.row 1 l)) (by simp [int1, num, tru]), ?_⟩)⟩ (fun q hq ih2 => ?_))
  obtain ⟨j, e⟩ := q
  obtain ⟨hj, he⟩ := hq
  dsimp only at hj he ih2 ⊢
  refine go 1000 Try.func35 ?_
  repeat' first | refine Pick.map gr ?_ | refine Len.map ?_ | refine Len.nil ?_ | refine Len.cons ?_ | refine Br.t rfl ?_ | refine Br.f rfl ?_ | refine Fit.au ?_ | refine Need.au ?_ | refine Pick.map (by assumption) ?_ | refine Pick.mapI (by omega) (by assumption) ?_ | refine PickN.mk _ (by assumption) ?_ | refine PickN.mk _ rfl ?_ | refine PickN.au ?_ | refine App.au rfl ?_ | refine App.au (own_map (fun _ => rfl) _) ?_ | refine Both.mk ?_ ?_ | exact True.intro
  refine Br.d (fun h3 => ?_) (fun h3 => ?_)
  · obtain ⟨y', gp, gpm⟩ := getK (l := r) (k := j) (by omega)
    obtain ⟨p, rfl, hpE⟩ := hrn y' gpm
    have htk := take_succ gp
    have hmem : ∀ q : Nat, (q : Int) ∈ r.take (j + 1) ↔ (q : Int) ∈ r.take j ∨ q = p := fun q => by
      rw [htk, List.mem_append, List.mem_singleton]
      constructor
      · rintro (h | h)
        · exact .inl h
        · exact .inr (by omega)
      · rintro (h | h)
        · exact .inl h
        · exact .inr (by omega)
    repeat' first | refine Draw.mk (ordL [11] [0, 1, 2, 3, 4, 5, 6, 7, 8, 9, 10, 11, 12, 13]) (by decide +kernel) ?_ | refine Pick.map gr ?_ | refine Pick.map gp ?_ | refine Len.map ?_ | refine Len.nil ?_ | refine Len.cons ?_ | refine Br.t rfl ?_ | refine Br.f rfl ?_ | refine Fit.au ?_ | refine Need.au ?_ | refine Pick.map (by assumption) ?_ | refine Pick.mapI (by omega) (by assumption) ?_ | refine PickN.mk _ (by assumption) ?_ | refine PickN.mk _ rfl ?_ | refine PickN.au ?_ | refine App.au rfl ?_ | refine App.au (own_map (fun _ => rfl) _) ?_ | refine Both.mk ?_ ?_ | exact True.intro
    refine Br.mk (fun h4 => ?_) (fun h4 => ?_)
    · subst h4
      repeat' first | refine Len.map ?_ | refine Len.nil ?_ | refine Len.cons ?_ | refine Br.t rfl ?_ | refine Br.f rfl ?_ | refine Fit.au ?_ | refine Need.au ?_ | refine Pick.map (by assumption) ?_ | refine Pick.mapI (by omega) (by assumption) ?_ | refine PickN.mk _ (by assumption) ?_ | refine PickN.mk _ rfl ?_ | refine PickN.au ?_ | refine App.au rfl ?_ | refine App.au (own_map (fun _ => rfl) _) ?_ | refine Both.mk ?_ ?_ | exact True.intro
      refine Stop.mk (ih2 (j + 1, true) (g := []) _ _ _ ⟨by simp only; omega, ?_⟩ (by simp only; omega) ⟨rfl, (by repeat' first | exact trivial | refine ⟨rfl, ?_⟩ | refine ⟨congrArg (fun n => AV.lit (.int .i64 n)) (by omega), ?_⟩ | refine ⟨congrArg (fun l => some (Row.row 1 l)) (by simp [int1, num, tru]), ?_⟩), (by repeat' first | exact trivial | refine ⟨rfl, ?_⟩ | refine ⟨congrArg (fun n => AV.lit (.int .i64 n)) (by omega), ?_⟩ | refine ⟨congrArg (fun l => some (Row.row 1 l)) (by simp [int1, num, tru]), ?_⟩)⟩)
      obtain ⟨q, h5, h6⟩ := he.1 rfl
      exact ⟨fun _ => ⟨q, (hmem q).2 (.inl h5), h6⟩, fun _ => rfl⟩
    · subst h4
      repeat' first | refine Draw.mk (ordL [11] [0, 1, 2, 3, 4, 5, 6, 7, 8, 9, 10, 11, 12, 13]) (by decide +kernel) ?_ | refine Pick.map gr ?_ | refine Pick.map gp ?_ | refine Len.map ?_ | refine Len.nil ?_ | refine Len.cons ?_ | refine Br.t rfl ?_ | refine Br.f rfl ?_ | refine Fit.au ?_ | refine Need.au ?_ | refine Pick.map (by assumption) ?_ | refine Pick.mapI (by omega) (by assumption) ?_ | refine PickN.mk _ (by assumption) ?_ | refine PickN.mk _ rfl ?_ | refine PickN.au ?_ | refine App.au rfl ?_ | refine App.au (own_map (fun _ => rfl) _) ?_ | refine Both.mk ?_ ?_ | exact True.intro
      refine Call.of (hD p) ?_
      rintro r2 ⟨v, rfl, hv⟩
      refine ⟨rfl, ?_⟩
      repeat' first | refine Len.map ?_ | refine Len.nil ?_ | refine Len.cons ?_ | refine Br.t rfl ?_ | refine Br.f rfl ?_ | refine Fit.au ?_ | refine Need.au ?_ | refine Pick.map (by assumption) ?_ | refine Pick.mapI (by omega) (by assumption) ?_ | refine PickN.mk _ (by assumption) ?_ | refine PickN.mk _ rfl ?_ | refine PickN.au ?_ | refine App.au rfl ?_ | refine App.au (own_map (fun _ => rfl) _) ?_ | refine Both.mk ?_ ?_ | exact True.intro
      refine Stop.mk (ih2 (j + 1, v) (g := []) _ _ _ ⟨by simp only; omega, ?_⟩ (by simp only; omega) ⟨rfl, (by repeat' first | exact trivial | refine ⟨rfl, ?_⟩ | refine ⟨congrArg (fun n => AV.lit (.int .i64 n)) (by omega), ?_⟩ | refine ⟨congrArg (fun l => some (Row.row 1 l)) (by simp [int1, num, tru]), ?_⟩), (by repeat' first | exact trivial | refine ⟨rfl, ?_⟩ | refine ⟨congrArg (fun n => AV.lit (.int .i64 n)) (by omega), ?_⟩ | refine ⟨congrArg (fun l => some (Row.row 1 l)) (by simp [int1, num, tru]), ?_⟩)⟩)
      simp only
      rw [hv]
      constructor
      · intro h; exact ⟨p, (hmem p).2 (.inr rfl), h⟩
      · rintro ⟨q, h5, h6⟩
        rcases (hmem q).1 h5 with h7 | rfl
        · have := he.2 ⟨q, h7, h6⟩; cases this
        · exact h6
  · rw [take_all (by omega)] at he
    have hrim : rimB s a b = true ↔ mb = true ∧ e = true ∧ (a = b ∨ ¬ DomN s a b) := by
      rw [rimB_iff, hmb, he]
      unfold rimP
      constructor
      · rintro ⟨h4, ⟨p, h5, h6⟩, h7⟩; exact ⟨h4, ⟨p, (hedge p).2 h5, h6⟩, h7⟩
      · rintro ⟨h4, ⟨p, h5, h6⟩, h7⟩; exact ⟨h4, ⟨p, (hedge p).1 h5, h6⟩, h7⟩
    have hout : rimB s a b ≠ true → rimTo s a (b + 1) = cur := fun h => by rw [hnext, if_neg h, List.append_nil]
    have hin : rimB s a b = true → rimTo s a (b + 1) = cur ++ [(b : Int)] := fun h => by rw [hnext, if_pos h]
    repeat' first | refine Pick.map gm ?_ | refine Len.map ?_ | refine Len.nil ?_ | refine Len.cons ?_ | refine Br.t rfl ?_ | refine Br.f rfl ?_ | refine Fit.au ?_ | refine Need.au ?_ | refine Pick.map (by assumption) ?_ | refine Pick.mapI (by omega) (by assumption) ?_ | refine PickN.mk _ (by assumption) ?_ | refine PickN.mk _ rfl ?_ | refine PickN.au ?_ | refine App.au rfl ?_ | refine App.au (own_map (fun _ => rfl) _) ?_ | refine Both.mk ?_ ?_ | exact True.intro
    refine Br.mk (fun h4 => ?_) (fun h4 => ?_)
    · repeat' first | refine Len.map ?_ | refine Len.nil ?_ | refine Len.cons ?_ | refine Br.t rfl ?_ | refine Br.f rfl ?_ | refine Fit.au ?_ | refine Need.au ?_ | refine Pick.map (by assumption) ?_ | refine Pick.mapI (by omega) (by assumption) ?_ | refine PickN.mk _ (by assumption) ?_ | refine PickN.mk _ rfl ?_ | refine PickN.au ?_ | refine App.au rfl ?_ | refine App.au (own_map (fun _ => rfl) _) ?_ | refine Both.mk ?_ ?_ | exact True.intro
      refine Br.mk (fun h5 => ?_) (fun h5 => ?_)
      · repeat' first | refine Len.map ?_ | refine Len.nil ?_ | refine Len.cons ?_ | refine Br.t rfl ?_ | refine Br.f rfl ?_ | refine Fit.au ?_ | refine Need.au ?_ | refine Pick.map (by assumption) ?_ | refine Pick.mapI (by omega) (by assumption) ?_ | refine PickN.mk _ (by assumption) ?_ | refine PickN.mk _ rfl ?_ | refine PickN.au ?_ | refine App.au rfl ?_ | refine App.au (own_map (fun _ => rfl) _) ?_ | refine Both.mk ?_ ?_ | exact True.intro
        refine Br.d (fun h6 => ?_) (fun h6 => ?_)
        · have h7 := hin (hrim.2 ⟨h4, h5, .inl (by omega)⟩)
          repeat' first | refine Len.map ?_ | refine Len.nil ?_ | refine Len.cons ?_ | refine Br.t rfl ?_ | refine Br.f rfl ?_ | refine Fit.au ?_ | refine Need.au ?_ | refine Pick.map (by assumption) ?_ | refine Pick.mapI (by omega) (by assumption) ?_ | refine PickN.mk _ (by assumption) ?_ | refine PickN.mk _ rfl ?_ | refine PickN.au ?_ | refine App.au rfl ?_ | refine App.au (own_map (fun _ => rfl) _) ?_ | refine Both.mk ?_ ?_ | exact True.intro
          refine Stop.mk (ih (b + 1) (g := [(1, 3)]) _ _ _ (by omega) (by omega) ?_)
          rw [h7, List.map_append]
          exact ⟨rfl, (by repeat' first | exact trivial | refine ⟨rfl, ?_⟩ | refine ⟨congrArg (fun n => AV.lit (.int .i64 n)) (by omega), ?_⟩ | refine ⟨congrArg (fun l => some (Row.row 1 l)) (by simp [int1, num, tru]), ?_⟩), (by repeat' first | exact trivial | refine ⟨rfl, ?_⟩ | refine ⟨congrArg (fun n => AV.lit (.int .i64 n)) (by omega), ?_⟩ | refine ⟨congrArg (fun l => some (Row.row 1 l)) (by simp [int1, num, tru]), ?_⟩)⟩
        · repeat' first | refine Len.map ?_ | refine Len.nil ?_ | refine Len.cons ?_ | refine Br.t rfl ?_ | refine Br.f rfl ?_ | refine Fit.au ?_ | refine Need.au ?_ | refine Pick.map (by assumption) ?_ | refine Pick.mapI (by omega) (by assumption) ?_ | refine PickN.mk _ (by assumption) ?_ | refine PickN.mk _ rfl ?_ | refine PickN.au ?_ | refine App.au rfl ?_ | refine App.au (own_map (fun _ => rfl) _) ?_ | refine Both.mk ?_ ?_ | exact True.intro
          refine Call.of (hD b) ?_
          rintro r2 ⟨v, rfl, hv⟩
          refine ⟨rfl, ?_⟩
          repeat' first | refine Len.map ?_ | refine Len.nil ?_ | refine Len.cons ?_ | refine Br.t rfl ?_ | refine Br.f rfl ?_ | refine Fit.au ?_ | refine Need.au ?_ | refine Pick.map (by assumption) ?_ | refine Pick.mapI (by omega) (by assumption) ?_ | refine PickN.mk _ (by assumption) ?_ | refine PickN.mk _ rfl ?_ | refine PickN.au ?_ | refine App.au rfl ?_ | refine App.au (own_map (fun _ => rfl) _) ?_ | refine Both.mk ?_ ?_ | exact True.intro
          refine Br.mk (fun h7 => ?_) (fun h7 => ?_)
          · have h8 := hin (hrim.2 ⟨h4, h5, .inr fun h => by have := hv.2 h; simp_all⟩)
            repeat' first | refine Len.map ?_ | refine Len.nil ?_ | refine Len.cons ?_ | refine Br.t rfl ?_ | refine Br.f rfl ?_ | refine Fit.au ?_ | refine Need.au ?_ | refine Pick.map (by assumption) ?_ | refine Pick.mapI (by omega) (by assumption) ?_ | refine PickN.mk _ (by assumption) ?_ | refine PickN.mk _ rfl ?_ | refine PickN.au ?_ | refine App.au rfl ?_ | refine App.au (own_map (fun _ => rfl) _) ?_ | refine Both.mk ?_ ?_ | exact True.intro
            refine Stop.mk (ih (b + 1) (g := [(1, 3)]) _ _ _ (by omega) (by omega) ?_)
            rw [h8, List.map_append]
            exact ⟨rfl, (by repeat' first | exact trivial | refine ⟨rfl, ?_⟩ | refine ⟨congrArg (fun n => AV.lit (.int .i64 n)) (by omega), ?_⟩ | refine ⟨congrArg (fun l => some (Row.row 1 l)) (by simp [int1, num, tru]), ?_⟩), (by repeat' first | exact trivial | refine ⟨rfl, ?_⟩ | refine ⟨congrArg (fun n => AV.lit (.int .i64 n)) (by omega), ?_⟩ | refine ⟨congrArg (fun l => some (Row.row 1 l)) (by simp [int1, num, tru]), ?_⟩)⟩
          · have h8 := hout fun h => by
              rcases (hrim.1 h).2.2 with h9 | h9
              · exact h6 (by omega)
              · exact h9 (hv.1 (by simpa using h7))
            repeat' first | refine Len.map ?_ | refine Len.nil ?_ | refine Len.cons ?_ | refine Br.t rfl ?_ | refine Br.f rfl ?_ | refine Fit.au ?_ | refine Need.au ?_ | refine Pick.map (by assumption) ?_ | refine Pick.mapI (by omega) (by assumption) ?_ | refine PickN.mk _ (by assumption) ?_ | refine PickN.mk _ rfl ?_ | refine PickN.au ?_ | refine App.au rfl ?_ | refine App.au (own_map (fun _ => rfl) _) ?_ | refine Both.mk ?_ ?_ | exact True.intro
            refine Stop.mk (ih (b + 1) (g := []) _ _ _ (by omega) (by omega) ?_)
            rw [h8]
            exact ⟨rfl, (by repeat' first | exact trivial | refine ⟨rfl, ?_⟩ | refine ⟨congrArg (fun n => AV.lit (.int .i64 n)) (by omega), ?_⟩ | refine ⟨congrArg (fun l => some (Row.row 1 l)) (by simp [int1, num, tru]), ?_⟩), (by repeat' first | exact trivial | refine ⟨rfl, ?_⟩ | refine ⟨congrArg (fun n => AV.lit (.int .i64 n)) (by omega), ?_⟩ | refine ⟨congrArg (fun l => some (Row.row 1 l)) (by simp [int1, num, tru]), ?_⟩)⟩
      · have h6 := hout fun h => by rw [(hrim.1 h).2.1] at h5; cases h5
        repeat' first | refine Len.map ?_ | refine Len.nil ?_ | refine Len.cons ?_ | refine Br.t rfl ?_ | refine Br.f rfl ?_ | refine Fit.au ?_ | refine Need.au ?_ | refine Pick.map (by assumption) ?_ | refine Pick.mapI (by omega) (by assumption) ?_ | refine PickN.mk _ (by assumption) ?_ | refine PickN.mk _ rfl ?_ | refine PickN.au ?_ | refine App.au rfl ?_ | refine App.au (own_map (fun _ => rfl) _) ?_ | refine Both.mk ?_ ?_ | exact True.intro
        refine Stop.mk (ih (b + 1) (g := []) _ _ _ (by omega) (by omega) ?_)
        rw [h6]
        exact ⟨rfl, (by repeat' first | exact trivial | refine ⟨rfl, ?_⟩ | refine ⟨congrArg (fun n => AV.lit (.int .i64 n)) (by omega), ?_⟩ | refine ⟨congrArg (fun l => some (Row.row 1 l)) (by simp [int1, num, tru]), ?_⟩), (by repeat' first | exact trivial | refine ⟨rfl, ?_⟩ | refine ⟨congrArg (fun n => AV.lit (.int .i64 n)) (by omega), ?_⟩ | refine ⟨congrArg (fun l => some (Row.row 1 l)) (by simp [int1, num, tru]), ?_⟩)⟩
    · have h6 := hout fun h => by rw [(hrim.1 h).1] at h4; cases h4
      repeat' first | refine Len.map ?_ | refine Len.nil ?_ | refine Len.cons ?_ | refine Br.t rfl ?_ | refine Br.f rfl ?_ | refine Fit.au ?_ | refine Need.au ?_ | refine Pick.map (by assumption) ?_ | refine Pick.mapI (by omega) (by assumption) ?_ | refine PickN.mk _ (by assumption) ?_ | refine PickN.mk _ rfl ?_ | refine PickN.au ?_ | refine App.au rfl ?_ | refine App.au (own_map (fun _ => rfl) _) ?_ | refine Both.mk ?_ ?_ | exact True.intro
      refine Stop.mk (ih (b + 1) (g := []) _ _ _ (by omega) (by omega) ?_)
      rw [h6]
      exact ⟨rfl, (by repeat' first | exact trivial | refine ⟨rfl, ?_⟩ | refine ⟨congrArg (fun n => AV.lit (.int .i64 n)) (by omega), ?_⟩ | refine ⟨congrArg (fun l => some (Row.row 1 l)) (by simp [int1, num, tru]), ?_⟩), (by repeat' first | exact trivial | refine ⟨rfl, ?_⟩ | refine ⟨congrArg (fun n => AV.lit (.int .i64 n)) (by omega), ?_⟩ | refine ⟨congrArg (fun l => some (Row.row 1 l)) (by simp [int1, num, tru]), ?_⟩)⟩
end Go.Proofs.Ytnfkdilmoppbpaa

/- The example of the chapter on rims. No program is in sight here. -/
namespace Go.Proofs.Ytnfkdilmoppbpaa
open Go.Ax

def s29 : List (List Int) := [[1, 2], [3], [3], []]
theorem R29_0 {x : Int} (h : x ≠ 0) : Reaches s29 x 0 := .zero (by simp [s29]) h
theorem R29_1 {x : Int} (h : x ≠ 0) (h1 : (1 : Int) ≠ x) : Reaches s29 x 1 := .step (k := 0) (R29_0 h) rfl (by simp) h1
theorem R29_2 {x : Int} (h : x ≠ 0) (h1 : (2 : Int) ≠ x) : Reaches s29 x 2 := .step (k := 0) (R29_0 h) rfl (by simp) h1
theorem R29_3 {x : Int} (h : x ≠ 0) (h3 : (3 : Int) ≠ x) : Reaches s29 x 3 := by
  by_cases h1 : (1 : Int) = x
  · exact .step (k := 2) (R29_2 h (by omega)) rfl (by simp) h3
  · exact .step (k := 1) (R29_1 h h1) rfl (by simp) h3
theorem not_self {s : List (List Int)} {x t : Int} (h : Reaches s x t) : t ≠ x := by
  cases h with
  | zero _ h => exact fun e => h e.symm
  | step _ _ _ h => exact h
theorem not_zero {s : List (List Int)} {t : Int} (h : Reaches s 0 t) : False := by
  induction h with
  | zero _ h => exact h rfl
  | step _ _ _ _ ih => exact ih
theorem rim29 (a k : Nat) : rimB s29 a k = decide ((a = 1 ∨ a = 2) ∧ k = 3) := by
  rw [Bool.eq_iff_iff, rimB_iff, decide_eq_true_iff]
  have d0 : ∀ x : Nat, Rc s29 x → DomN s29 0 x := fun x hx => ⟨R29_0 (by decide), hx, fun h => not_zero h⟩
  constructor
  · rintro ⟨hk, ⟨p, ⟨r, gr, hm⟩, hd⟩, hs⟩
    match p, gr with
    | 0, gr =>
      have ha : a = 0 := Classical.byContradiction fun h => hd.2.2 (R29_0 (by omega))
      subst ha
      cases gr
      rcases hs with h | h
      · simp at hm; omega
      · exact absurd (d0 k hk) h
    | 1, gr =>
      cases gr
      have hk3 : k = 3 := by simp at hm; omega
      have ha : a = 0 ∨ a = 1 := Classical.byContradiction fun h => hd.2.2 (R29_1 (by omega) (by omega))
      rcases ha with rfl | rfl
      · rcases hs with h | h
        · omega
        · exact absurd (d0 k hk) h
      · exact ⟨.inl rfl, hk3⟩
    | 2, gr =>
      cases gr
      have hk3 : k = 3 := by simp at hm; omega
      have ha : a = 0 ∨ a = 2 := Classical.byContradiction fun h => hd.2.2 (R29_2 (by omega) (by omega))
      rcases ha with rfl | rfl
      · rcases hs with h | h
        · omega
        · exact absurd (d0 k hk) h
      · exact ⟨.inr rfl, hk3⟩
    | 3, gr => cases gr; cases hm
    | p + 4, gr => cases gr
  · rintro ⟨h, rfl⟩
    have r3 : Rc s29 3 := R29_3 (by decide) (by decide)
    rcases h with rfl | rfl
    · exact ⟨r3, ⟨1, ⟨[3], rfl, by simp⟩, R29_1 (by decide) (by decide), R29_1 (by decide) (by decide), fun h => not_self h rfl⟩, .inr fun h => h.2.2 (R29_3 (by decide) (by decide))⟩
    · exact ⟨r3, ⟨2, ⟨[3], rfl, by simp⟩, R29_2 (by decide) (by decide), R29_2 (by decide) (by decide), fun h => not_self h rfl⟩, .inr fun h => h.2.2 (R29_3 (by decide) (by decide))⟩
theorem rims29 : ((List.range 4).map fun a => rimTo s29 a 4) = [[], [3], [3], []] := by
  have h : ∀ a, rimTo s29 a 4 = if a = 1 ∨ a = 2 then [3] else [] := fun a => by
    rw [rimTo_succ, rimTo_succ, rimTo_succ, rimTo_succ, rim29, rim29, rim29, rim29]
    by_cases ha : a = 1 ∨ a = 2 <;> simp [ha, rimTo]
  show [rimTo s29 0 4, rimTo s29 1 4, rimTo s29 2 4, rimTo s29 3 4] = _
  rw [h, h, h, h]; rfl
end Go.Proofs.Ytnfkdilmoppbpaa

/- The law RimTells as a function. -/
namespace Go.Proofs.Ytnfkdilmoppbpaa
open Go.Ax
set_option maxRecDepth 10000
set_option linter.unusedVariables false

def ex29 : Fun := ⟨⟨#[]⟩, 0, 0, [], [[⟨42, 0, 0, 0, 0, 1, 2, 0, []⟩], [⟨41, 0, 0, 0, 0, 3, 0, 0, []⟩], [⟨41, 0, 0, 0, 0, 3, 0, 0, []⟩], [⟨43, 0, 0, 0, 0, 0, 0, 0, []⟩]]⟩
theorem ex29_succs : succsF ex29 = s29 := by kernel_rfl
theorem ex29_fits : ex29.fits := by
  refine ⟨by decide, by decide, ?_⟩
  simp [ex29, Ins.fits]
theorem works33 : FnSpec Try.prog 33 [] (fun r => r = tru true) := by
  have hR := Rims34_spec ex29 ex29_fits (by decide)
  rw [ex29_succs] at hR
  have e1 : ((List.range ex29.blocks.length).map fun a => rimTo s29 a ex29.blocks.length) = [[], [3], [3], []] := rims29
  rw [e1] at hR
  have hS := SameLists_spec [[], [3], [3], []] [[], [3], [3], []] (by decide) (by simp)
  rw [decide_eq_true rfl] at hS
  refine spec_of 10 Try.func33 rfl rfl ?_
  repeat' first | refine Len.map ?_ | refine Len.nil ?_ | refine Len.cons ?_ | refine Br.t rfl ?_ | refine Br.f rfl ?_ | refine Fit.au ?_ | refine Need.au ?_ | refine Pick.map (by assumption) ?_ | refine Pick.mapI (by omega) (by assumption) ?_ | refine PickN.mk _ (by assumption) ?_ | refine PickN.mk _ rfl ?_ | refine PickN.au ?_ | refine App.au rfl ?_ | refine App.au (own_map (fun _ => rfl) _) ?_ | refine Both.mk ?_ ?_ | exact True.intro
  refine Stop.mk (run_frzR 0 rfl rfl ?_)
  refine go 13 Try.func33 ?_
  repeat' first | refine Len.map ?_ | refine Len.nil ?_ | refine Len.cons ?_ | refine Br.t rfl ?_ | refine Br.f rfl ?_ | refine Fit.au ?_ | refine Need.au ?_ | refine Pick.map (by assumption) ?_ | refine Pick.mapI (by omega) (by assumption) ?_ | refine PickN.mk _ (by assumption) ?_ | refine PickN.mk _ rfl ?_ | refine PickN.au ?_ | refine App.au rfl ?_ | refine App.au (own_map (fun _ => rfl) _) ?_ | refine Both.mk ?_ ?_ | exact True.intro
  refine Stop.mk (run_frzV 4 rfl rfl rfl ?_)
  refine go 1000 Try.func33 ?_
  repeat' first | refine Call.le (by repeat' first | exact Le.refl _ | exact Le.none | exact LeL.nil | refine LeL.cons ?_ ?_ | exact LeLL.nil | refine LeLL.cons ?_ ?_ | refine Le.agg ?_ | refine Le.sl ?_ | refine Le.pt ?_) (Call.eq hR rfl ?_) | refine Len.map ?_ | refine Len.nil ?_ | refine Len.cons ?_ | refine Br.t rfl ?_ | refine Br.f rfl ?_ | refine Fit.au ?_ | refine Need.au ?_ | refine Pick.map (by assumption) ?_ | refine Pick.mapI (by omega) (by assumption) ?_ | refine PickN.mk _ (by assumption) ?_ | refine PickN.mk _ rfl ?_ | refine PickN.au ?_ | refine App.au rfl ?_ | refine App.au (own_map (fun _ => rfl) _) ?_ | refine Both.mk ?_ ?_ | exact True.intro
  refine Look.yes (View.mk _ (fzLL_map fz_olsts _) (View.mk (([[], [3], [3], []] : List (List Int)).map lst) rfl ?_))
  refine CallV.eq hS rfl (Free.lit _) ?_
  repeat' first | refine Len.map ?_ | refine Len.nil ?_ | refine Len.cons ?_ | refine Br.t rfl ?_ | refine Br.f rfl ?_ | refine Fit.au ?_ | refine Need.au ?_ | refine Pick.map (by assumption) ?_ | refine Pick.mapI (by omega) (by assumption) ?_ | refine PickN.mk _ (by assumption) ?_ | refine PickN.mk _ rfl ?_ | refine PickN.au ?_ | refine App.au rfl ?_ | refine App.au (own_map (fun _ => rfl) _) ?_ | refine Both.mk ?_ ?_ | exact True.intro
  rfl
theorem RimTells_spec (f : Fun) (hf : f.fits) (hl : f.blocks.length ≤ 1000 → f.count ≤ 100000000000000000) : FnSpec Try.prog 6 [funA f] (fun r => r = tru true) := by
  refine spec_of 1000 Try.func6 rfl rfl ?_
  repeat' first | refine Len.map ?_ | refine Len.nil ?_ | refine Len.cons ?_ | refine Br.t rfl ?_ | refine Br.f rfl ?_ | refine Fit.au ?_ | refine Need.au ?_ | refine Pick.map (by assumption) ?_ | refine Pick.mapI (by omega) (by assumption) ?_ | refine PickN.mk _ (by assumption) ?_ | refine PickN.mk _ rfl ?_ | refine PickN.au ?_ | refine App.au rfl ?_ | refine App.au (own_map (fun _ => rfl) _) ?_ | refine Both.mk ?_ ?_ | exact True.intro
  refine Call.of (few32_spec f hf hl) ?_
  rintro r ⟨v, rfl, hv⟩
  refine ⟨rfl, ?_⟩
  repeat' first | refine Len.map ?_ | refine Len.nil ?_ | refine Len.cons ?_ | refine Br.t rfl ?_ | refine Br.f rfl ?_ | refine Fit.au ?_ | refine Need.au ?_ | refine Pick.map (by assumption) ?_ | refine Pick.mapI (by omega) (by assumption) ?_ | refine PickN.mk _ (by assumption) ?_ | refine PickN.mk _ rfl ?_ | refine PickN.au ?_ | refine App.au rfl ?_ | refine App.au (own_map (fun _ => rfl) _) ?_ | refine Both.mk ?_ ?_ | exact True.intro
  refine Br.mk (fun h => ?_) (fun h => ?_)
  · repeat' first | refine Call.eq works33 rfl ?_ | refine Len.map ?_ | refine Len.nil ?_ | refine Len.cons ?_ | refine Br.t rfl ?_ | refine Br.f rfl ?_ | refine Fit.au ?_ | refine Need.au ?_ | refine Pick.map (by assumption) ?_ | refine Pick.mapI (by omega) (by assumption) ?_ | refine PickN.mk _ (by assumption) ?_ | refine PickN.mk _ rfl ?_ | refine PickN.au ?_ | refine App.au rfl ?_ | refine App.au (own_map (fun _ => rfl) _) ?_ | refine Both.mk ?_ ?_ | exact True.intro
    rfl
  have hn := hv (by simpa using h)
  have hR := Rims34_spec f hf (by omega)
  have hr := fun a : Nat => Rim35_spec f a hf (by omega)
  have hlen : ((List.range f.blocks.length).map fun a => rimTo (succsF f) a f.blocks.length).length = f.blocks.length := by simp
  have hat : ∀ a : Nat, a < f.blocks.length → ((List.range f.blocks.length).map fun a => rimTo (succsF f) a f.blocks.length)[a]? = some (rimTo (succsF f) a f.blocks.length) := fun a ha => by rw [List.getElem?_map, List.getElem?_range ha]; rfl
  have hrl : ∀ a, (rimTo (succsF f) a f.blocks.length).length ≤ 12 := fun a => by have := @rimTo_len (succsF f) a f.blocks.length; omega
  generalize ((List.range f.blocks.length).map fun a => rimTo (succsF f) a f.blocks.length) = ls at *
  repeat' first | refine Call.eq hR rfl ?_ | (refine Br.f ?_ ?_; focus (simp [hlen]; done)) | refine Len.map ?_ | refine Len.nil ?_ | refine Len.cons ?_ | refine Br.t rfl ?_ | refine Br.f rfl ?_ | refine Fit.au ?_ | refine Need.au ?_ | refine Pick.map (by assumption) ?_ | refine Pick.mapI (by omega) (by assumption) ?_ | refine PickN.mk _ (by assumption) ?_ | refine PickN.mk _ rfl ?_ | refine PickN.au ?_ | refine App.au rfl ?_ | refine App.au (own_map (fun _ => rfl) _) ?_ | refine Both.mk ?_ ?_ | exact True.intro
  refine Stop.mk (run_frzR 1 rfl (fzLL_map fz_olsts _) ?_)
  refine Run.fr (g := []) (tm' := [(1, .hp 0 0), (3, lsts ls), (4, num 0)]) (hp' := [(0, .var f.cs)]) (nx' := 1) ?_ ⟨rfl, (by repeat' first | exact trivial | refine ⟨rfl, ?_⟩ | refine ⟨congrArg (fun n => AV.lit (.int .i64 n)) (by omega), ?_⟩ | refine ⟨congrArg (fun l => some (Row.row 1 l)) (by simp [int1, num, tru]), ?_⟩), (by repeat' first | exact trivial | refine ⟨rfl, ?_⟩ | refine ⟨congrArg (fun n => AV.lit (.int .i64 n)) (by omega), ?_⟩ | refine ⟨congrArg (fun l => some (Row.row 1 l)) (by simp [int1, num, tru]), ?_⟩)⟩
  refine loop_in (g := []) (fun a : Nat => [(1, .hp 0 0), (3, lsts ls), (4, num a)]) (fun a => [(0, .var f.cs)]) 1 (fun a => a ≤ f.blocks.length) (fun a => f.blocks.length - a) 0 (by omega) ⟨rfl, (by repeat' first | exact trivial | refine ⟨rfl, ?_⟩ | refine ⟨congrArg (fun n => AV.lit (.int .i64 n)) (by omega), ?_⟩ | refine ⟨congrArg (fun l => some (Row.row 1 l)) (by simp [int1, num, tru]), ?_⟩), (by repeat' first | exact trivial | refine ⟨rfl, ?_⟩ | refine ⟨congrArg (fun n => AV.lit (.int .i64 n)) (by omega), ?_⟩ | refine ⟨congrArg (fun l => some (Row.row 1 l)) (by simp [int1, num, tru]), ?_⟩)⟩ (fun a ha ih => ?_)
  refine go 1000 Try.func6 ?_
  repeat' first | refine Len.map ?_ | refine Len.nil ?_ | refine Len.cons ?_ | refine Br.t rfl ?_ | refine Br.f rfl ?_ | refine Fit.au ?_ | refine Need.au ?_ | refine Pick.map (by assumption) ?_ | refine Pick.mapI (by omega) (by assumption) ?_ | refine PickN.mk _ (by assumption) ?_ | refine PickN.mk _ rfl ?_ | refine PickN.au ?_ | refine App.au rfl ?_ | refine App.au (own_map (fun _ => rfl) _) ?_ | refine Both.mk ?_ ?_ | exact True.intro
  refine Br.d (fun h2 => ?_) (fun h2 => ?_)
  · have ga := hat a (by omega)
    have hra := hr a
    have hrla := hrl a
    generalize rimTo (succsF f) a f.blocks.length = row at *
    have hS := SameInts_spec row row (by omega)
    rw [decide_eq_true rfl] at hS
    repeat' first | refine Draw.mk (ordL [6, 7] [0, 1, 2, 3, 4, 5, 6, 7, 8]) (by decide +kernel) ?_ | refine Pick.map ga ?_ | refine Call.eq hra rfl ?_ | refine Look.yes (View.mk _ (fzi _) ?_) | refine CallV.eq hS rfl (Free.lit _) ?_ | refine Len.map ?_ | refine Len.nil ?_ | refine Len.cons ?_ | refine Br.t rfl ?_ | refine Br.f rfl ?_ | refine Fit.au ?_ | refine Need.au ?_ | refine Pick.map (by assumption) ?_ | refine Pick.mapI (by omega) (by assumption) ?_ | refine PickN.mk _ (by assumption) ?_ | refine PickN.mk _ rfl ?_ | refine PickN.au ?_ | refine App.au rfl ?_ | refine App.au (own_map (fun _ => rfl) _) ?_ | refine Both.mk ?_ ?_ | exact True.intro
    all_goals exact Stop.mk (ih (a + 1) (g := []) _ _ _ (by omega) (by omega) ⟨rfl, (by repeat' first | exact trivial | refine ⟨rfl, ?_⟩ | refine ⟨congrArg (fun n => AV.lit (.int .i64 n)) (by omega), ?_⟩ | refine ⟨congrArg (fun l => some (Row.row 1 l)) (by simp [int1, num, tru]), ?_⟩), (by repeat' first | exact trivial | refine ⟨rfl, ?_⟩ | refine ⟨congrArg (fun n => AV.lit (.int .i64 n)) (by omega), ?_⟩ | refine ⟨congrArg (fun l => some (Row.row 1 l)) (by simp [int1, num, tru]), ?_⟩)⟩)
  · repeat' first | refine Call.eq works33 rfl ?_ | refine Len.map ?_ | refine Len.nil ?_ | refine Len.cons ?_ | refine Br.t rfl ?_ | refine Br.f rfl ?_ | refine Fit.au ?_ | refine Need.au ?_ | refine Pick.map (by assumption) ?_ | refine Pick.mapI (by omega) (by assumption) ?_ | refine PickN.mk _ (by assumption) ?_ | refine PickN.mk _ rfl ?_ | refine PickN.au ?_ | refine App.au rfl ?_ | refine App.au (own_map (fun _ => rfl) _) ?_ | refine Both.mk ?_ ?_ | exact True.intro
    rfl
end Go.Proofs.Ytnfkdilmoppbpaa
