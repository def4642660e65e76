/- Loops: who lies in one, and that they nest. No program is in sight here. -/
import Derived.Test.YtjjijklonnhdeaaG11
import Derived.Test.YtjjijklonnhdeaaG10
import Derived.Test.YtjjijklonnhdeaaG04
import Derived.Test.YtjjijklonnhdeaaG08
import Derived.Test.YtjjijklonnhdeaaG03
import Derived.Test.YtjjijklonnhdeaaG09
import Derived.Shelf.Sort.Plain
import Derived.Shelf.Slices.In.SortNone
import Derived.Test.YtjjijklonnhdeaaProg
import Derived.KernelRfl
set_option linter.unusedVariables false
set_option linter.unusedSimpArgs false

namespace Go.Proofs.Ytjjijklonnhdeaa
open Go.Ax

theorem DomN.self {s : List (List Int)} {h : Nat} (hr : Rc s h) : DomN s h h := ⟨hr, hr, fun h2 => not_self h2 rfl⟩
theorem DomN.anti {s : List (List Int)} {x y : Nat} (h1 : DomN s x y) (h2 : DomN s y x) : x = y := by
  apply Classical.byContradiction
  intro hne
  have key : ∀ t : Int, Reaches s (-1) t → Reaches s (x : Int) t ∧ Reaches s (y : Int) t := by
    intro t ht
    induction ht with
    | zero h0 _ =>
      have hx : x ≠ 0 := fun e => by
        subst e
        exact h2.2.2 (.zero h0 (by omega))
      have hy : y ≠ 0 := fun e => by
        subst e
        exact h1.2.2 (.zero h0 (by omega))
      exact ⟨.zero h0 (by omega), .zero h0 (by omega)⟩
    | @step k t l hk gl hm hn ih =>
      have hx : t ≠ (x : Int) := fun e => h2.2.2 (by rw [← e]; exact .step ih.2 gl hm (by omega))
      have hy : t ≠ (y : Int) := fun e => h1.2.2 (by rw [← e]; exact .step ih.1 gl hm (by omega))
      exact ⟨.step ih.1 gl hm hx, .step ih.2 gl hm hy⟩
  exact not_self (key _ h1.1).1 rfl
/-- A way from a block by blocks that it dominates. -/
inductive PathD (s : List (List Int)) (x : Nat) : Nat → Prop
  | self : PathD s x x
  | step {p z : Nat} : PathD s x p → Rc s p → Ed s p z → DomN s x z → PathD s x z
theorem DomN.path {s : List (List Int)} (hs : Closed s) {x z : Nat} (h : DomN s x z) : PathD s x z := by
  have key : ∀ t : Int, Reaches s (-1) t → ∀ z : Nat, t = (z : Int) → DomN s x z → PathD s x z := by
    intro t ht
    induction ht with
    | zero h0 _ =>
      intro z e hd
      have hx : x = z := Classical.byContradiction fun hne => hd.2.2 (by rw [show (z : Int) = 0 by omega]; exact .zero h0 (by omega))
      subst hx; exact .self
    | @step k t l hk gl hm hn ih =>
      intro z e hd
      by_cases hx : x = z
      · subst hx; exact .self
      · have he : Ed s k z := ⟨l, gl, by rw [← e]; exact hm⟩
        exact .step (ih k rfl (hd.pred hk he hx)) hk he hd
  exact key _ h.2.1 z rfl h
theorem PathD.avoid {s : List (List Int)} {x y z : Nat} (h : PathD s x z) (hy : ¬ DomN s x y) (hr : Reaches s (y : Int) (x : Int)) : Reaches s (y : Int) (z : Int) := by
  induction h with
  | self => exact hr
  | @step p z hp _ he hd ih =>
    obtain ⟨l, gl, hm⟩ := he
    refine .step ih gl hm fun e => hy ?_
    have : z = y := by omega
    subst this; exact hd
theorem DomN.comp {s : List (List Int)} (hs : Closed s) {x y z : Nat} (hx : DomN s x z) (hy : DomN s y z) : DomN s x y ∨ DomN s y x := by
  by_cases h : DomN s x y
  · exact .inl h
  · right
    refine ⟨hy.1, hx.1, fun h2 => hy.2.2 ((hx.path hs).avoid h h2)⟩

/-- Who lies in the loop of a head. -/
inductive InL (s : List (List Int)) (h : Nat) : Nat → Prop
  | head : InL s h h
  | latch {p : Nat} : Ed s p h → DomN s h p → InL s h p
  | pred {x p : Nat} : InL s h x → x ≠ h → Ed s p x → Rc s p → InL s h p
theorem InL.dom {s : List (List Int)} {h x : Nat} (hr : Rc s h) (hx : InL s h x) : DomN s h x := by
  induction hx with
  | head => exact .self hr
  | latch _ hd => exact hd
  | pred _ hne he hp ih => exact ih.pred hp he fun e => hne e.symm
theorem PathD.inL {s : List (List Int)} {x y z : Nat} (h : PathD s x z) (hy : ¬ DomN s x y) (hz : InL s y z) : InL s y x := by
  induction h with
  | self => exact hz
  | @step p z hp hr he hd ih =>
    refine ih (.pred hz (fun e => hy ?_) he hr)
    rw [← e]; exact hd
theorem InL.meet {s : List (List Int)} (hs : Closed s) {x y z : Nat} (hx : Rc s x) (hy : Rc s y) (hne : x ≠ y) (h1 : InL s x z) (h2 : InL s y z) : InL s x y ∨ InL s y x := by
  rcases (h1.dom hx).comp hs (h2.dom hy) with h | h
  · left
    exact ((h2.dom hy).path hs).inL (fun h3 => hne (h.anti h3)) h1
  · right
    exact ((h1.dom hx).path hs).inL (fun h3 => hne (h3.anti h)) h2
theorem InL.not_both {s : List (List Int)} {x y : Nat} (hx : Rc s x) (hy : Rc s y) (hne : x ≠ y) (h1 : InL s x y) (h2 : InL s y x) : False := hne ((h1.dom hx).anti (h2.dom hy))
theorem InL.sub {s : List (List Int)} {x y : Nat} (hx : Rc s x) (hy : Rc s y) (hne : x ≠ y) (h : InL s y x) {z : Nat} (hz : InL s x z) : InL s y z := by
  induction hz with
  | head => exact h
  | latch he hd => exact .pred h hne he hd.2.1
  | @pred u p hu hne2 he hp ih =>
    refine .pred ih (fun e => ?_) he hp
    subst e
    exact InL.not_both hx hy hne hu h
/-- Who comes into a loop comes by its head. -/
theorem InL.enter {s : List (List Int)} {h x p : Nat} (hx : InL s h x) (he : Ed s p x) (hp : Rc s p) (hno : ¬ InL s h p) : x = h := Classical.byContradiction fun hne => hno (.pred hx hne he hp)
end Go.Proofs.Ytjjijklonnhdeaa

/- A loop's blocks, as they are gathered and put into order. No program is in sight here. -/
namespace Go.Proofs.Ytjjijklonnhdeaa
open Go.Ax

/-- Two lists in order, each number once, with the same numbers, are the same. -/
theorem sorted_ext : ∀ {a b : List Int}, a.Pairwise (· < ·) → b.Pairwise (· < ·) → (∀ x, x ∈ a ↔ x ∈ b) → a = b
  | [], [], _, _, _ => rfl
  | [], y :: b, _, _, h => absurd ((h y).2 (List.mem_cons_self ..)) (by simp)
  | x :: a, [], _, _, h => absurd ((h x).1 (List.mem_cons_self ..)) (by simp)
  | x :: a, y :: b, ha, hb, h => by
    obtain ⟨ha1, ha2⟩ := List.pairwise_cons.1 ha
    obtain ⟨hb1, hb2⟩ := List.pairwise_cons.1 hb
    have e : x = y := by
      rcases List.mem_cons.1 ((h x).1 (List.mem_cons_self ..)) with e | e
      · exact e
      · rcases List.mem_cons.1 ((h y).2 (List.mem_cons_self ..)) with e2 | e2
        · exact e2.symm
        · have := ha1 y e2
          have := hb1 x e
          omega
    subst e
    congr 1
    refine sorted_ext ha2 hb2 fun z => ⟨fun hz => ?_, fun hz => ?_⟩
    · rcases List.mem_cons.1 ((h z).1 (List.mem_cons_of_mem _ hz)) with e | e
      · subst e; have := ha1 z hz; omega
      · exact e
    · rcases List.mem_cons.1 ((h z).2 (List.mem_cons_of_mem _ hz)) with e | e
      · subst e; have := hb1 z hz; omega
      · exact e
theorem mergeSort_lt {l : List Int} (h : l.Nodup) : (l.mergeSort fun x y => decide (x ≤ y)).Pairwise (· < ·) := by
  have h1 := List.pairwise_mergeSort (le := fun x y : Int => decide (x ≤ y)) (fun a b c hab hbc => by simp at *; omega) (fun a b => by simp; omega) l
  have h2 : (l.mergeSort fun x y => decide (x ≤ y)).Nodup := (List.mergeSort_perm l _).nodup_iff.2 h
  refine (h1.and h2).imp fun hxy => ?_
  have := hxy.1
  simp at this
  have := hxy.2
  omega
theorem mergeSort_mem {l : List Int} {x : Int} : x ∈ (l.mergeSort fun x y => decide (x ≤ y)) ↔ x ∈ l := (List.mergeSort_perm l _).mem_iff
noncomputable def filtN (n : Nat) (p : Nat → Prop) : List Int := ((List.range n).filter fun k => @decide (p k) (Classical.propDecidable _)).map fun k : Nat => (k : Int)
theorem filtN_mem {n : Nat} {p : Nat → Prop} {x : Int} : x ∈ filtN n p ↔ 0 ≤ x ∧ x < n ∧ p x.toNat := by
  unfold filtN
  rw [List.mem_map]
  constructor
  · rintro ⟨k, hk, rfl⟩
    obtain ⟨h1, h2⟩ := List.mem_filter.1 hk
    have := List.mem_range.1 h1
    exact ⟨by omega, by omega, (@decide_eq_true_iff _ (Classical.propDecidable _)).1 h2⟩
  · rintro ⟨h1, h2, h3⟩
    exact ⟨x.toNat, List.mem_filter.2 ⟨List.mem_range.2 (by omega), (@decide_eq_true_iff _ (Classical.propDecidable _)).2 h3⟩, by omega⟩
theorem filtN_lt (n : Nat) (p : Nat → Prop) : (filtN n p).Pairwise (· < ·) := by
  unfold filtN
  refine List.Pairwise.map _ (R := (· < ·)) (fun a b h => by omega) ?_
  exact List.Pairwise.filter _ List.pairwise_lt_range
theorem filtN_len (n : Nat) (p : Nat → Prop) : (filtN n p).length ≤ n := by
  unfold filtN
  rw [List.length_map]
  have := List.length_filter_le (fun k => @decide (p k) (Classical.propDecidable _)) (List.range n)
  rw [List.length_range] at this; exact this
theorem mergeSort_filt {n : Nat} {p : Nat → Prop} {l : List Int} (h : l.Nodup) (hm : ∀ x, x ∈ l ↔ 0 ≤ x ∧ x < n ∧ p x.toNat) : (l.mergeSort fun x y => decide (x ≤ y)) = filtN n p :=
  sorted_ext (mergeSort_lt h) (filtN_lt n p) fun x => by rw [mergeSort_mem, hm, filtN_mem]

section
variable {s : List (List Int)} {h : Nat}
/-- What going up from a block comes to. -/
structure Up (s : List (List Int)) (h : Nat) (l : List Int) (k : Nat) (l' : List Int) : Prop where
  sub : ∀ x ∈ l, x ∈ l'
  nodup : l'.Nodup
  sound : ∀ x ∈ l', x ∈ l ∨ (0 ≤ x ∧ Rc s x.toNat ∧ InL s h x.toNat)
  here : Rc s k → (k : Int) ∈ l'
  shut : ∀ x : Nat, (x : Int) ∈ l' → (x : Int) ∉ l → ∀ p, Ed s p x → Rc s p → (p : Int) ∈ l'
/-- The same, within its loop: of the first ones that go to it. -/
structure UpM (s : List (List Int)) (h : Nat) (l : List Int) (k : Nat) (r : List Int) (l' : List Int) : Prop where
  sub : ∀ x ∈ l ++ [(k : Int)], x ∈ l'
  nodup : l'.Nodup
  sound : ∀ x ∈ l', x ∈ l ++ [(k : Int)] ∨ (0 ≤ x ∧ Rc s x.toNat ∧ InL s h x.toNat)
  done : ∀ p : Nat, (p : Int) ∈ r → Rc s p → (p : Int) ∈ l'
  shut : ∀ x : Nat, (x : Int) ∈ l' → (x : Int) ∉ l ++ [(k : Int)] → ∀ p, Ed s p x → Rc s p → (p : Int) ∈ l'
theorem Up.stays {l : List Int} {k : Nat} (hn : l.Nodup) (hk : ¬ Rc s k ∨ (k : Int) ∈ l) : Up s h l k l :=
  ⟨fun _ h => h, hn, fun _ h => .inl h, fun hr => hk.resolve_left fun h => h hr, fun x h1 h2 => absurd h1 h2⟩
theorem UpM.start {l : List Int} {k : Nat} (hn : l.Nodup) (hk : (k : Int) ∉ l) : UpM s h l k [] (l ++ [(k : Int)]) := by
  refine ⟨fun _ h => h, ?_, fun _ h => .inl h, (fun p hp => by cases hp), fun x h1 h2 => absurd h1 h2⟩
  rw [List.nodup_append]
  refine ⟨hn, by simp, fun x hx y hy e => ?_⟩
  rw [List.mem_singleton.1 hy] at e
  subst e; exact hk hx
theorem UpM.next {l l1 l2 : List Int} {k p : Nat} {r : List Int} (hM : UpM s h l k r l1) (hU : Up s h l1 p l2) : UpM s h l k (r ++ [(p : Int)]) l2 := by
  refine ⟨fun x hx => hU.sub x (hM.sub x hx), hU.nodup, fun x hx => ?_, fun q hq hr => ?_, fun x hx hno q he hr => ?_⟩
  · rcases hU.sound x hx with h1 | h1
    · exact hM.sound x h1
    · exact .inr h1
  · rcases List.mem_append.1 hq with hq | hq
    · exact hU.sub _ (hM.done q hq hr)
    · obtain rfl : q = p := by have := List.mem_singleton.1 hq; omega
      exact hU.here hr
  · by_cases h1 : (x : Int) ∈ l1
    · exact hU.sub _ (hM.shut x h1 hno q he hr)
    · exact hU.shut x hx h1 q he hr
theorem UpM.end {l l' : List Int} {k : Nat} (hk : Rc s k) (hI : InL s h k) (hM : UpM s h l k (predOf s k s.length) l') : Up s h l k l' := by
  refine ⟨fun x hx => hM.sub x (List.mem_append_left _ hx), hM.nodup, fun x hx => ?_, fun _ => hM.sub _ (by simp), fun x hx hno p he hr => ?_⟩
  · rcases hM.sound x hx with h1 | h1
    · rcases List.mem_append.1 h1 with h1 | h1
      · exact .inl h1
      · obtain rfl : x = (k : Int) := List.mem_singleton.1 h1
        exact .inr ⟨by omega, hk, hI⟩
    · exact .inr h1
  · by_cases e : x = k
    · subst e
      exact hM.done p (mem_predOf.2 he) hr
    · refine hM.shut x hx (fun h1 => ?_) p he hr
      rcases List.mem_append.1 h1 with h1 | h1
      · exact hno h1
      · have := List.mem_singleton.1 h1; omega
/-- Of a head, and of the first ones of its latches. -/
structure UpL (s : List (List Int)) (h : Nat) (r : List Int) (l : List Int) : Prop where
  head : (h : Int) ∈ l
  nodup : l.Nodup
  sound : ∀ x ∈ l, 0 ≤ x ∧ Rc s x.toNat ∧ InL s h x.toNat
  done : ∀ p : Nat, (p : Int) ∈ r → Rc s p → (p : Int) ∈ l
  shut : ∀ x : Nat, (x : Int) ∈ l → x ≠ h → ∀ p, Ed s p x → Rc s p → (p : Int) ∈ l
theorem UpL.start (hr : Rc s h) : UpL s h [] [(h : Int)] :=
  ⟨by simp, by simp, fun x hx => by rw [List.mem_singleton.1 hx]; exact ⟨by omega, hr, .head⟩, fun p hp => (by cases hp), fun x hx hne => absurd (List.mem_singleton.1 hx) (by omega)⟩
theorem UpL.next {l l' : List Int} {p : Nat} {r : List Int} (hL : UpL s h r l) (hU : Up s h l p l') : UpL s h (r ++ [(p : Int)]) l' := by
  refine ⟨hU.sub _ hL.head, hU.nodup, fun x hx => ?_, fun q hq hr => ?_, fun x hx hne q he hr => ?_⟩
  · rcases hU.sound x hx with h1 | h1
    · exact hL.sound x h1
    · exact h1
  · rcases List.mem_append.1 hq with hq | hq
    · exact hU.sub _ (hL.done q hq hr)
    · obtain rfl : q = p := by have := List.mem_singleton.1 hq; omega
      exact hU.here hr
  · by_cases h1 : (x : Int) ∈ l
    · exact hU.sub _ (hL.shut x h1 hne q he hr)
    · exact hU.shut x hx h1 q he hr
/-- Of all latches: these are the loop's blocks. -/
theorem UpL.mem {l r : List Int} (hs : Closed s) (hL : UpL s h r l) (hr : ∀ p : Nat, (p : Int) ∈ r ↔ Ed s p h ∧ DomN s h p) (x : Int) : x ∈ l ↔ 0 ≤ x ∧ x < s.length ∧ (Rc s x.toNat ∧ InL s h x.toNat) := by
  constructor
  · intro hx
    obtain ⟨h1, h2, h3⟩ := hL.sound x hx
    have := Rc_lt hs h2
    exact ⟨h1, by omega, h2, h3⟩
  · rintro ⟨h1, _, h2, h3⟩
    have key : ∀ y : Nat, InL s h y → (y : Int) ∈ l := by
      intro y hy
      induction hy with
      | head => exact hL.head
      | latch he hd => exact hL.done _ ((hr _).2 ⟨he, hd⟩) hd.2.1
      | pred _ hne he hp ih => exact hL.shut _ ih hne _ he hp
    have := key _ h3
    rw [show ((x.toNat : Nat) : Int) = x by omega] at this
    exact this
end
end Go.Proofs.Ytjjijklonnhdeaa

/- Where ways meet first, there is the rim, again and again. No program is in sight here. -/
namespace Go.Proofs.Ytjjijklonnhdeaa
open Go.Ax

/-- The rim of some blocks, again and again. -/
inductive AllP (rims : List (List Int)) (l : List Int) : Nat → Prop
  | one {k t : Nat} {r : List Int} : (k : Int) ∈ l → rims[k]? = some r → (t : Int) ∈ r → t < rims.length → AllP rims l t
  | more {k t : Nat} {r : List Int} : AllP rims l k → rims[k]? = some r → (t : Int) ∈ r → t < rims.length → AllP rims l t
/-- A way by blocks of a kind. -/
inductive Pth (s : List (List Int)) (A : Nat → Prop) (a : Nat) : Nat → Prop
  | one : A a → Pth s A a a
  | step {c d : Nat} : Pth s A a c → Ed s c d → A d → Pth s A a d
theorem Pth.rc {s : List (List Int)} (hs : Closed s) {A : Nat → Prop} {a c : Nat} (ha : Rc s a) (h : Pth s A a c) : Rc s c := by
  induction h with
  | one => exact ha
  | step _ he _ ih =>
    obtain ⟨l, gl, hm⟩ := he
    exact .step ih gl hm (by have := hs _ (List.mem_of_getElem? gl) _ hm; omega)
theorem Pth.avoid {s : List (List Int)} {A : Nat → Prop} {a c y : Nat} (h : Pth s A a c) (hy : ¬ A y) (hr : Reaches s (y : Int) (a : Int)) : Reaches s (y : Int) (c : Int) := by
  induction h with
  | one => exact hr
  | @step c d _ he hA ih =>
    obtain ⟨l, gl, hm⟩ := he
    refine .step ih gl hm fun e => hy ?_
    have : d = y := by omega
    subst this; exact hA
section
variable {s rims : List (List Int)} {l : List Int}
/-- Some block of a way dominates where it has come to: its first one, or one of the rim. -/
theorem Pth.last (hs : Closed s) (hl : rims.length = s.length) (hrim : ∀ a k : Nat, Rc s a → rimP s a k → ∃ r, rims[a]? = some r ∧ (k : Int) ∈ r) {A : Nat → Prop} {x c : Nat} (hx : Rc s x) (hxl : (x : Int) ∈ l) (h : Pth s A x c) :
    ∃ y, A y ∧ Rc s y ∧ DomN s y c ∧ Pth s A y c ∧ (y = x ∨ AllP rims l y) := by
  induction h with
  | one hA => exact ⟨x, hA, hx, .self hx, .one hA, .inl rfl⟩
  | @step c d hp he hA ih =>
    obtain ⟨y, h1, h2, h3, h4, h5⟩ := ih
    have hd : Rc s d := (Pth.step hp he hA).rc hs hx
    by_cases hdom : DomN s y d
    · exact ⟨y, h1, h2, hdom, .step h4 he hA, h5⟩
    · obtain ⟨r, gr, hm⟩ := hrim y d h2 ⟨hd, ⟨c, he, h3⟩, .inr hdom⟩
      have hdl := Rc_lt hs hd
      refine ⟨d, hA, hd, .self hd, .one hA, .inr ?_⟩
      rcases h5 with rfl | h5
      · exact .one hxl gr hm (by omega)
      · exact .more h5 gr hm (by omega)
theorem joins_rim (hs : Closed s) (hl : rims.length = s.length) (hrim : ∀ a k : Nat, Rc s a → rimP s a k → ∃ r, rims[a]? = some r ∧ (k : Int) ∈ r) {A B : Nat → Prop} {x y c d z : Nat} (hx : Rc s x) (hy : Rc s y) (hxl : (x : Int) ∈ l) (hyl : (y : Int) ∈ l)
    (hp : Pth s A x c) (hc : Ed s c z) (hq : Pth s B y d) (hd : Ed s d z) (hAB : ∀ n, A n → ¬ B n) : AllP rims l z := by
  have hcR := hp.rc hs hx
  have hdR := hq.rc hs hy
  have hz : Rc s z := by
    obtain ⟨r, gr, hm⟩ := hc
    exact .step hcR gr hm (by have := hs _ (List.mem_of_getElem? gr) _ hm; omega)
  have hzl := Rc_lt hs hz
  -- one way: the rim, or a block of it that dominates the meeting place
  have one : ∀ {A : Nat → Prop} {x c : Nat}, Rc s x → (x : Int) ∈ l → Pth s A x c → Ed s c z → AllP rims l z ∨ ∃ w, A w ∧ Rc s w ∧ w ≠ z ∧ DomN s w z ∧ Pth s A w c := by
    intro A x c hx hxl hp hc
    obtain ⟨w, h1, h2, h3, h4, h5⟩ := hp.last hs hl hrim hx hxl
    by_cases hk : w = z ∨ ¬ DomN s w z
    · left
      obtain ⟨r, gr, hm⟩ := hrim w z h2 ⟨hz, ⟨c, hc, h3⟩, hk⟩
      rcases h5 with rfl | h5
      · exact .one hxl gr hm (by omega)
      · exact .more h5 gr hm (by omega)
    · right
      have h6 : w ≠ z ∧ DomN s w z := by
        constructor
        · exact fun e => hk (.inl e)
        · exact Classical.byContradiction fun e => hk (.inr e)
      exact ⟨w, h1, h2, h6.1, h6.2, h4⟩
  rcases one hx hxl hp hc with h | ⟨u, u1, u2, u3, u4, u5⟩
  · exact h
  rcases one hy hyl hq hd with h | ⟨v, v1, v2, v3, v4, v5⟩
  · exact h
  exfalso
  have huv : u ≠ v := fun e => hAB u u1 (e ▸ v1)
  -- who stands above goes by the other one
  have two : ∀ {A : Nat → Prop} {u v c : Nat}, Pth s A u c → Ed s c z → ¬ A v → v ≠ z → Rc s u → Rc s v → DomN s u v → u ≠ v → DomN s v z → False := by
    intro A u v c hp hc hv hvz hu hvR huv hne hvd
    have h1 : Reaches s (v : Int) (u : Int) := Classical.byContradiction fun h => hne (huv.anti ⟨hvR, hu, h⟩)
    have h2 := hp.avoid hv h1
    obtain ⟨r, gr, hm⟩ := hc
    exact hvd.2.2 (.step h2 gr hm (by omega))
  rcases u4.comp hs v4 with h | h
  · exact two u5 hc (fun h1 => hAB v h1 v1) v3 u2 v2 h huv v4
  · exact two v5 hd (fun h1 => hAB u u1 h1) u3 v2 u2 h (fun e => huv e.symm) u4
end
end Go.Proofs.Ytjjijklonnhdeaa

/- The rim of some blocks, again and again, as it is gathered. No program is in sight here. -/
namespace Go.Proofs.Ytjjijklonnhdeaa
open Go.Ax
noncomputable def allF (rims : List (List Int)) (l : List Int) : List Int := filtN rims.length (AllP rims l)
section
variable {rims : List (List Int)} {l : List Int}
theorem AllP.lt {t : Nat} (h : AllP rims l t) : t < rims.length := by cases h <;> assumption
theorem mget_ones : ∀ (m : List Int) (t : Int), mget (m.map fun x => (x, (1 : Int))) t = if t ∈ m then some 1 else none
  | [], t => rfl
  | x :: m, t => by
    simp only [List.map_cons, mget, mget_ones m t, List.mem_cons]
    by_cases h : t = x
    · simp [h]
    · simp [h]
/-- What has been met, and what waits. But of block c only the first j have been looked at. -/
structure AllI (rims : List (List Int)) (l m w : List Int) (c : Int) (pre : List Int) : Prop where
  nodup : m.Nodup
  is : ∀ t ∈ m, ∃ k : Nat, t = k ∧ AllP rims l k
  src : ∀ x ∈ w, x ∈ l ∨ x ∈ m
  cl : ∀ (k t : Nat) (r : List Int), ((k : Int) ∈ l ∨ (k : Int) ∈ m) → rims[k]? = some r → (t : Int) ∈ r → t < rims.length → (t : Int) ∈ m ∨ (k : Int) ∈ w ∨ ((k : Int) = c ∧ (t : Int) ∉ pre)
theorem AllI.len {m w : List Int} {c : Int} {pre : List Int} (h : AllI rims l m w c pre) : m.length ≤ rims.length :=
  nodup_lenI h.nodup fun x hx => by obtain ⟨k, rfl, hk⟩ := h.is x hx; have := hk.lt; exact ⟨by omega, by omega⟩
theorem AllI.start : AllI rims l [] l (-1) [] := ⟨List.nodup_nil, by simp, fun _ h => .inl h, fun k t r h _ _ _ => .inr (.inl (by simpa using h))⟩
theorem AllI.pop {m w : List Int} {x : Int} (h : AllI rims l m (w ++ [x]) (-1) []) : AllI rims l m w x [] :=
  ⟨h.nodup, h.is, fun y hy => h.src y (List.mem_append_left _ hy), fun k t r h1 h2 h3 h4 => by
    rcases h.cl k t r h1 h2 h3 h4 with h5 | h5 | h5
    · exact .inl h5
    · rcases List.mem_append.1 h5 with h6 | h6
      · exact .inr (.inl h6)
      · exact .inr (.inr ⟨List.mem_singleton.1 h6, by simp⟩)
    · omega⟩
theorem AllI.off {m w : List Int} {x : Int} (h : AllI rims l m w x []) (hx : x < 0 ∨ rims.length ≤ x) : AllI rims l m w (-1) [] :=
  ⟨h.nodup, h.is, h.src, fun k t r h1 h2 h3 h4 => by
    rcases h.cl k t r h1 h2 h3 h4 with h5 | h5 | h5
    · exact .inl h5
    · exact .inr (.inl h5)
    · have := (List.getElem?_eq_some_iff.1 h2).1
      omega⟩
theorem AllI.done {m w r : List Int} {x : Nat} (h : AllI rims l m w x r) (hr : rims[x]? = some r) : AllI rims l m w (-1) [] :=
  ⟨h.nodup, h.is, h.src, fun k t r2 h1 h2 h3 h4 => by
    rcases h.cl k t r2 h1 h2 h3 h4 with h5 | h5 | h5
    · exact .inl h5
    · exact .inr (.inl h5)
    · obtain rfl : k = x := by omega
      rw [hr] at h2; cases h2
      exact absurd h3 h5.2⟩
theorem AllI.skip {m w pre : List Int} {x y : Int} (h : AllI rims l m w x pre) (hy : y ∈ m ∨ y < 0 ∨ rims.length ≤ y) : AllI rims l m w x (pre ++ [y]) :=
  ⟨h.nodup, h.is, h.src, fun k t r2 h1 h2 h3 h4 => by
    rcases h.cl k t r2 h1 h2 h3 h4 with h5 | h5 | h5
    · exact .inl h5
    · exact .inr (.inl h5)
    · by_cases e : (t : Int) = y
      · rcases hy with hy | hy | hy
        · exact .inl (e ▸ hy)
        · omega
        · omega
      · exact .inr (.inr ⟨h5.1, fun h6 => (List.mem_append.1 h6).elim h5.2 fun h7 => e (List.mem_singleton.1 h7)⟩)⟩
theorem AllI.add {m w pre r : List Int} {x y : Nat} (h : AllI rims l m w x pre) (hx : (x : Int) ∈ l ∨ (x : Int) ∈ m) (hr : rims[x]? = some r) (hyr : (y : Int) ∈ r) (hyl : y < rims.length) (hy : (y : Int) ∉ m) :
    AllI rims l (m ++ [(y : Int)]) (w ++ [(y : Int)]) x (pre ++ [(y : Int)]) := by
  have hP : AllP rims l y := by
    rcases hx with hx | hx
    · exact .one hx hr hyr hyl
    · obtain ⟨k, e, hk⟩ := h.is _ hx
      obtain rfl : x = k := by omega
      exact .more hk hr hyr hyl
  refine ⟨?_, fun t ht => ?_, fun z hz => ?_, fun k t r2 h1 h2 h3 h4 => ?_⟩
  · rw [List.nodup_append]
    exact ⟨h.nodup, by simp, fun a ha b hb => by rw [List.mem_singleton.1 hb]; intro e; exact hy (e ▸ ha)⟩
  · rcases List.mem_append.1 ht with ht | ht
    · exact h.is t ht
    · exact ⟨y, List.mem_singleton.1 ht, hP⟩
  · rcases List.mem_append.1 hz with hz | hz
    · exact (h.src z hz).imp id fun h => List.mem_append_left _ h
    · exact .inr (List.mem_append_right _ hz)
  · by_cases e : (t : Int) = y
    · exact .inl (List.mem_append_right _ (List.mem_singleton.2 e))
    · have key : ((k : Int) ∈ l ∨ (k : Int) ∈ m) ∨ (k : Int) = y := by
        rcases h1 with h1 | h1
        · exact .inl (.inl h1)
        · rcases List.mem_append.1 h1 with h1 | h1
          · exact .inl (.inr h1)
          · exact .inr (List.mem_singleton.1 h1)
      rcases key with h1 | h1
      · rcases h.cl k t r2 h1 h2 h3 h4 with h5 | h5 | h5
        · exact .inl (List.mem_append_left _ h5)
        · exact .inr (.inl (List.mem_append_left _ h5))
        · exact .inr (.inr ⟨h5.1, fun h6 => (List.mem_append.1 h6).elim h5.2 fun h7 => e (List.mem_singleton.1 h7)⟩)
      · exact .inr (.inl (List.mem_append_right _ (List.mem_singleton.2 h1)))
theorem AllI.mem {m : List Int} (h : AllI rims l m [] (-1) []) : ∀ x, x ∈ m ↔ 0 ≤ x ∧ x < rims.length ∧ AllP rims l x.toNat := fun x => by
  have key : ∀ t : Nat, AllP rims l t → (t : Int) ∈ m := fun t ht => by
    induction ht with
    | one h1 h2 h3 h4 =>
      rcases h.cl _ _ _ (.inl h1) h2 h3 h4 with h5 | h5 | h5
      · exact h5
      · cases h5
      · omega
    | more _ h2 h3 h4 ih =>
      rcases h.cl _ _ _ (.inr ih) h2 h3 h4 with h5 | h5 | h5
      · exact h5
      · cases h5
      · omega
  constructor
  · intro hx
    obtain ⟨k, rfl, hk⟩ := h.is x hx
    have := hk.lt
    exact ⟨by omega, by omega, by rw [Int.toNat_natCast]; exact hk⟩
  · rintro ⟨h1, h2, h3⟩
    have := key _ h3
    rwa [Int.toNat_of_nonneg h1] at this
theorem AllI.end_ {m z : List Int} (h : AllI rims l m [] (-1) []) (hz : z.Perm m) : (z.mergeSort fun x y => decide (x ≤ y)) = allF rims l :=
  mergeSort_filt (hz.nodup_iff.2 h.nodup) fun x => by rw [hz.mem_iff]; exact h.mem x

/-- Nothing that may come is missing. -/
def Cl (rims : List (List Int)) (l out : List Int) : Prop := ∀ (k t : Nat) (r : List Int), ((k : Int) ∈ l ∨ (k : Int) ∈ out) → rims[k]? = some r → (t : Int) ∈ r → t < rims.length → (t : Int) ∈ out
/-- A round of the document's: what comes of the blocks from, and of one more block's first ones. -/
structure RndI (rims : List (List Int)) (l out0 out from_ pre : List Int) : Prop where
  nodup : out.Nodup
  is : ∀ t ∈ out, ∃ k : Nat, t = k ∧ AllP rims l k
  sub : ∀ x ∈ out0, x ∈ out
  grow : out = out0 ∨ out0.length < out.length
  same : Cl rims l out0 → out = out0
  done : ∀ (k t : Nat) (r : List Int), (k : Int) ∈ from_ → rims[k]? = some r → (t : Int) ∈ r → t < rims.length → (t : Int) ∈ out
  pre_ : ∀ t : Nat, (t : Int) ∈ pre → t < rims.length → (t : Int) ∈ out
theorem RndI.len {out0 out fr pre : List Int} (h : RndI rims l out0 out fr pre) : out.length ≤ rims.length :=
  nodup_lenI h.nodup fun x hx => by obtain ⟨k, rfl, hk⟩ := h.is x hx; have := hk.lt; exact ⟨by omega, by omega⟩
theorem RndI.start {out : List Int} (h1 : out.Nodup) (h2 : ∀ t ∈ out, ∃ k : Nat, t = k ∧ AllP rims l k) : RndI rims l out out [] [] :=
  ⟨h1, h2, fun _ h => h, .inl rfl, fun _ => rfl, by simp, by simp⟩
theorem RndI.off {out0 out fr : List Int} {x : Int} (h : RndI rims l out0 out fr []) (hx : x < 0 ∨ rims.length ≤ x) : RndI rims l out0 out (fr ++ [x]) [] :=
  { h with
    done := fun k t r h1 h2 h3 h4 => by
      rcases List.mem_append.1 h1 with h1 | h1
      · exact h.done k t r h1 h2 h3 h4
      · have := (List.getElem?_eq_some_iff.1 h2).1
        have := List.mem_singleton.1 h1
        omega }
theorem RndI.next {out0 out fr r : List Int} {x : Nat} (h : RndI rims l out0 out fr r) (hr : rims[x]? = some r) : RndI rims l out0 out (fr ++ [(x : Int)]) [] :=
  { h with
    done := fun k t r2 h1 h2 h3 h4 => by
      rcases List.mem_append.1 h1 with h1 | h1
      · exact h.done k t r2 h1 h2 h3 h4
      · have := List.mem_singleton.1 h1
        obtain rfl : k = x := by omega
        rw [hr] at h2; cases h2
        exact h.pre_ t h3 h4
    pre_ := by simp }
theorem RndI.skip {out0 out fr pre : List Int} {y : Int} (h : RndI rims l out0 out fr pre) (hy : y ∈ out ∨ y < 0 ∨ rims.length ≤ y) : RndI rims l out0 out fr (pre ++ [y]) :=
  { h with
    pre_ := fun t h1 h2 => by
      rcases List.mem_append.1 h1 with h1 | h1
      · exact h.pre_ t h1 h2
      · have := List.mem_singleton.1 h1
        rcases hy with hy | hy | hy
        · rw [this]; exact hy
        · omega
        · omega }
theorem RndI.add {out0 out fr pre r : List Int} {x y : Nat} (h : RndI rims l out0 out fr pre) (hx : (x : Int) ∈ l ∨ (x : Int) ∈ out0) (hr : rims[x]? = some r) (hyr : (y : Int) ∈ r) (hyl : y < rims.length) (hy : (y : Int) ∉ out) :
    RndI rims l out0 (out ++ [(y : Int)]) fr (pre ++ [(y : Int)]) := by
  have hP : AllP rims l y := by
    rcases hx with hx | hx
    · exact .one hx hr hyr hyl
    · obtain ⟨k, e, hk⟩ := h.is _ (h.sub _ hx)
      obtain rfl : x = k := by omega
      exact .more hk hr hyr hyl
  refine ⟨?_, fun t ht => ?_, fun z hz => List.mem_append_left _ (h.sub z hz), .inr ?_, fun hc => ?_, fun k t r2 h1 h2 h3 h4 => List.mem_append_left _ (h.done k t r2 h1 h2 h3 h4), fun t h1 h2 => ?_⟩
  · rw [List.nodup_append]
    exact ⟨h.nodup, by simp, fun a ha b hb => by rw [List.mem_singleton.1 hb]; intro e; exact hy (e ▸ ha)⟩
  · rcases List.mem_append.1 ht with ht | ht
    · exact h.is t ht
    · exact ⟨y, List.mem_singleton.1 ht, hP⟩
  · rw [List.length_append, List.length_singleton]
    rcases h.grow with e | e
    · rw [e]; omega
    · omega
  · exact absurd (h.sub _ (hc x y r hx hr hyr hyl)) hy
  · rcases List.mem_append.1 h1 with h1 | h1
    · exact List.mem_append_left _ (h.pre_ t h1 h2)
    · exact List.mem_append_right _ h1
/-- After each round nothing is missing, or there are more. -/
theorem RndI.round {out0 out : List Int} {i : Nat} (h : RndI rims l out0 out (l ++ out0) []) (h0 : Cl rims l out0 ∨ i ≤ out0.length) : Cl rims l out ∨ i + 1 ≤ out.length := by
  rcases h.grow with e | e
  · subst e
    exact .inl fun k t r h1 => h.done k t r (List.mem_append.2 h1)
  · rcases h0 with h0 | h0
    · have := h.same h0
      rw [this] at e; omega
    · exact .inr (by omega)
theorem Cl.mem {out : List Int} (h : Cl rims l out) (his : ∀ t ∈ out, ∃ k : Nat, t = k ∧ AllP rims l k) : ∀ x, x ∈ out ↔ x ∈ allF rims l := fun x => by
  have key : ∀ t : Nat, AllP rims l t → (t : Int) ∈ out := fun t ht => by
    induction ht with
    | one h1 h2 h3 h4 => exact h _ _ _ (.inl h1) h2 h3 h4
    | more _ h2 h3 h4 ih => exact h _ _ _ (.inr ih) h2 h3 h4
  unfold allF
  rw [filtN_mem]
  constructor
  · intro hx
    obtain ⟨k, rfl, hk⟩ := his x hx
    have := hk.lt
    exact ⟨by omega, by omega, by rw [Int.toNat_natCast]; exact hk⟩
  · rintro ⟨h1, h2, h3⟩
    have := key _ h3
    rwa [Int.toNat_of_nonneg h1] at this
end
/-- One more number, where it belongs. -/
theorem ins_sorted {out : List Int} {x : Int} {k : Nat} (h : out.Pairwise (· < ·)) (h1 : ∀ y ∈ out.take k, y < x) (h2 : ∀ y ∈ out.drop k, x < y) : ((out.take k ++ [x]) ++ out.drop k).Pairwise (· < ·) := by
  rw [← List.take_append_drop k out] at h
  obtain ⟨p1, p2, p3⟩ := List.pairwise_append.1 h
  refine List.pairwise_append.2 ⟨List.pairwise_append.2 ⟨p1, by simp, fun a ha b hb => by rw [List.mem_singleton.1 hb]; exact h1 a ha⟩, p2, fun a ha b hb => ?_⟩
  rcases List.mem_append.1 ha with ha | ha
  · exact p3 a ha b hb
  · rw [List.mem_singleton.1 ha]; exact h2 b hb
theorem drop_gt {out : List Int} {x y : Int} {k : Nat} (h : out.Pairwise (· < ·)) (hk : out[k]? = some y) (hy : x ≤ y) (hx : x ∉ out) : ∀ z ∈ out.drop k, x < z := by
  have e : out.drop k = y :: out.drop (k + 1) := by
    obtain ⟨hk2, rfl⟩ := List.getElem?_eq_some_iff.1 hk
    exact List.drop_eq_getElem_cons hk2
  have hs : (out.drop k).Pairwise (· < ·) := h.sublist (List.drop_sublist _ _)
  rw [e] at hs ⊢
  have hym : y ∈ out := List.mem_of_getElem? hk
  have hne : x ≠ y := fun e => hx (e ▸ hym)
  intro z hz
  rcases List.mem_cons.1 hz with rfl | hz
  · omega
  · have := (List.pairwise_cons.1 hs).1 z hz
    omega
theorem ins_mem {out : List Int} {x : Int} {k : Nat} (y : Int) : y ∈ (out.take k ++ [x]) ++ out.drop k ↔ y ∈ out ∨ y = x := by
  have : y ∈ out ↔ y ∈ out.take k ∨ y ∈ out.drop k := by conv => lhs; rw [← List.take_append_drop k out, List.mem_append]
  rw [this]
  simp only [List.mem_append, List.mem_singleton]
  constructor
  · rintro ((h | h) | h)
    · exact .inl (.inl h)
    · exact .inr h
    · exact .inl (.inr h)
  · rintro ((h | h) | h)
    · exact .inl (.inl h)
    · exact .inr h
    · exact .inl (.inr h)
end Go.Proofs.Ytjjijklonnhdeaa

/- Numbers put into order, each once: by a contract. -/
namespace Go.Proofs.Ytjjijklonnhdeaa
open Go.Ax
set_option maxRecDepth 10000
set_option linter.unusedVariables false

theorem fzn (l : List Int) : AV.fzLL (l.map int1) = l.map int1 := fzLL_map (enc2 := int1) (fun _ => rfl) l
theorem Sorted18_spec (l : List Int) (hl : l.length ≤ 1000000) : FnSpec Try.prog 18 [ints l] (fun r => ∃ q : List Int, r = .osl 1 (q.map int1) ∧ q.Pairwise (· < ·) ∧ ∀ x, x ∈ q ↔ x ∈ l) := by
  refine spec_of 1000 Try.func18 rfl rfl ?_
  repeat' first | refine Len.map ?_ | refine Len.nil ?_ | refine Len.cons ?_ | refine Br.t rfl ?_ | refine Br.f rfl ?_ | refine Fit.au ?_ | refine Cv.au ?_ | refine Need.ne ?_ | refine Need.au ?_ | refine Pick.map (by assumption) ?_ | refine Pick.mapI (by omega) (by assumption) ?_ | refine PickN.mk _ (by assumption) ?_ | refine PickN.mk _ rfl ?_ | refine PickN.au ?_ | refine App.au rfl ?_ | refine App.au (own_map (fun _ => rfl) _) ?_ | refine Both.mk ?_ ?_ | exact True.intro
  refine Stop.mk (loop_in (g := []) (fun p : Nat × List Int => [(0, ints l), (3, .hw 0), (4, num p.1)]) (fun p => [(0, .row 1 (p.2.map int1))]) 1 (fun p => p.1 ≤ l.length ∧ p.2.length ≤ p.1 ∧ p.2.Pairwise (· < ·) ∧ ∀ x, x ∈ p.2 ↔ x ∈ l.take p.1) (fun p => l.length - p.1) (0, []) ⟨by simp only; omega, by simp, by simp, by simp⟩ ⟨rfl, (by repeat' first | exact trivial | refine ⟨rfl, ?_⟩ | refine ⟨congrArg (fun n => AV.lit (.int .i64 n)) (by omega), ?_⟩ | refine ⟨congrArg (fun l => some (Row.row 1 l)) (by simp [int1, num, tru]), ?_⟩), (by repeat' first | exact trivial | refine ⟨rfl, ?_⟩ | refine ⟨congrArg (fun n => AV.lit (.int .i64 n)) (by omega), ?_⟩ | refine ⟨congrArg (fun l => some (Row.row 1 l)) (by simp [int1, num, tru]), ?_⟩)⟩ (fun p hp ih => ?_))
  obtain ⟨i, out⟩ := p
  obtain ⟨hi, ho, hs, hm⟩ := hp
  dsimp only at hi ho hs hm ih ⊢
  refine go 1000 Try.func18 ?_
  repeat' first | refine Len.map ?_ | refine Len.nil ?_ | refine Len.cons ?_ | refine Br.t rfl ?_ | refine Br.f rfl ?_ | refine Fit.au ?_ | refine Cv.au ?_ | refine Need.ne ?_ | refine Need.au ?_ | refine Pick.map (by assumption) ?_ | refine Pick.mapI (by omega) (by assumption) ?_ | refine PickN.mk _ (by assumption) ?_ | refine PickN.mk _ rfl ?_ | refine PickN.au ?_ | refine App.au rfl ?_ | refine App.au (own_map (fun _ => rfl) _) ?_ | refine Both.mk ?_ ?_ | exact True.intro
  refine Br.d (fun h2 => ?_) (fun h2 => ?_)
  · obtain ⟨x, gx, gxm⟩ := getK (l := l) (k := i) (by omega)
    have htk := take_succ gx
    have hH := HasInt_spec out x (by omega)
    repeat' first | refine Pick.map gx ?_ | (refine Look.yes (View.mk _ (fzn _) ?_); refine CallV.eq hH rfl (Free.lit _) ?_) | refine Len.map ?_ | refine Len.nil ?_ | refine Len.cons ?_ | refine Br.t rfl ?_ | refine Br.f rfl ?_ | refine Fit.au ?_ | refine Cv.au ?_ | refine Need.ne ?_ | refine Need.au ?_ | refine Pick.map (by assumption) ?_ | refine Pick.mapI (by omega) (by assumption) ?_ | refine PickN.mk _ (by assumption) ?_ | refine PickN.mk _ rfl ?_ | refine PickN.au ?_ | refine App.au rfl ?_ | refine App.au (own_map (fun _ => rfl) _) ?_ | refine Both.mk ?_ ?_ | exact True.intro
    refine Br.d (fun h3 => ?_) (fun h3 => ?_)
    · repeat' first | refine Len.map ?_ | refine Len.nil ?_ | refine Len.cons ?_ | refine Br.t rfl ?_ | refine Br.f rfl ?_ | refine Fit.au ?_ | refine Cv.au ?_ | refine Need.ne ?_ | refine Need.au ?_ | refine Pick.map (by assumption) ?_ | refine Pick.mapI (by omega) (by assumption) ?_ | refine PickN.mk _ (by assumption) ?_ | refine PickN.mk _ rfl ?_ | refine PickN.au ?_ | refine App.au rfl ?_ | refine App.au (own_map (fun _ => rfl) _) ?_ | refine Both.mk ?_ ?_ | exact True.intro
      refine Stop.mk (ih (i + 1, out) (g := []) _ _ _ ⟨by simp only; omega, by simp only; omega, hs, fun y => ?_⟩ (by simp only; omega) ⟨rfl, (by repeat' first | exact trivial | refine ⟨rfl, ?_⟩ | refine ⟨congrArg (fun n => AV.lit (.int .i64 n)) (by omega), ?_⟩ | refine ⟨congrArg (fun l => some (Row.row 1 l)) (by simp [int1, num, tru]), ?_⟩), (by repeat' first | exact trivial | refine ⟨rfl, ?_⟩ | refine ⟨congrArg (fun n => AV.lit (.int .i64 n)) (by omega), ?_⟩ | refine ⟨congrArg (fun l => some (Row.row 1 l)) (by simp [int1, num, tru]), ?_⟩)⟩)
      rw [htk, List.mem_append, List.mem_singleton, ← hm]
      exact ⟨.inl, fun h => h.elim id fun e => e ▸ h3⟩
    repeat' first | refine Len.map ?_ | refine Len.nil ?_ | refine Len.cons ?_ | refine Br.t rfl ?_ | refine Br.f rfl ?_ | refine Fit.au ?_ | refine Cv.au ?_ | refine Need.ne ?_ | refine Need.au ?_ | refine Pick.map (by assumption) ?_ | refine Pick.mapI (by omega) (by assumption) ?_ | refine PickN.mk _ (by assumption) ?_ | refine PickN.mk _ rfl ?_ | refine PickN.au ?_ | refine App.au rfl ?_ | refine App.au (own_map (fun _ => rfl) _) ?_ | refine Both.mk ?_ ?_ | exact True.intro
    refine Stop.mk (run_frzR 0 rfl (fzn _) ?_)
    refine loop_in (g := [(0, 1)]) (fun k : Nat => [(0, ints l), (3, ints out), (4, num i), (5, .hw 0), (6, num k)]) (fun k => [(0, .row 1 ((out.take k).map int1))]) 1 (fun k => k ≤ out.length ∧ ∀ y ∈ out.take k, y < x) (fun k => out.length - k) 0 ⟨by omega, by simp⟩ ⟨rfl, (by repeat' first | exact trivial | refine ⟨rfl, ?_⟩ | refine ⟨congrArg (fun n => AV.lit (.int .i64 n)) (by omega), ?_⟩ | refine ⟨congrArg (fun l => some (Row.row 1 l)) (by simp [int1, num, tru]), ?_⟩), (by repeat' first | exact trivial | refine ⟨rfl, ?_⟩ | refine ⟨congrArg (fun n => AV.lit (.int .i64 n)) (by omega), ?_⟩ | refine ⟨congrArg (fun l => some (Row.row 1 l)) (by simp [int1, num, tru]), ?_⟩)⟩ (fun k hk ih2 => ?_)
    obtain ⟨hk, hlt⟩ := hk
    have hlk : (out.take k).length = k := by rw [List.length_take]; omega
    have hld : (out.drop (out.take k).length).length ≤ out.length := by rw [List.length_drop]; omega
    have hfin : (∀ z ∈ out.drop k, x < z) → i + 1 ≤ l.length ∧ ((out.take k ++ [x]) ++ out.drop k).length ≤ i + 1 ∧ ((out.take k ++ [x]) ++ out.drop k).Pairwise (· < ·) ∧ ∀ y, y ∈ (out.take k ++ [x]) ++ out.drop k ↔ y ∈ l.take (i + 1) := fun hgt => by
      refine ⟨by omega, ?_, ins_sorted hs hlt hgt, fun y => ?_⟩
      · rw [List.length_append, List.length_append, hlk, List.length_drop, List.length_singleton]; omega
      · rw [ins_mem, htk, List.mem_append, List.mem_singleton, hm]
    refine go 1000 Try.func18 ?_
    repeat' first | refine Draw.mk (ordL [] [0, 1, 2, 3, 4, 5, 6, 7, 8, 9, 10, 11, 12, 13, 14]) (by decide +kernel) ?_ | refine Len.map ?_ | refine Len.nil ?_ | refine Len.cons ?_ | refine Br.t rfl ?_ | refine Br.f rfl ?_ | refine Fit.au ?_ | refine Cv.au ?_ | refine Need.ne ?_ | refine Need.au ?_ | refine Pick.map (by assumption) ?_ | refine Pick.mapI (by omega) (by assumption) ?_ | refine PickN.mk _ (by assumption) ?_ | refine PickN.mk _ rfl ?_ | refine PickN.au ?_ | refine App.au rfl ?_ | refine App.au (own_map (fun _ => rfl) _) ?_ | refine Both.mk ?_ ?_ | exact True.intro
    refine Br.d (fun h4 => ?_) (fun h4 => ?_)
    · obtain ⟨y, gy, gym⟩ := getK (l := out) (k := k) (by omega)
      have htk2 := take_succ gy
      repeat' first | refine Pick.map gy ?_ | refine Pick.map gx ?_ | refine Len.map ?_ | refine Len.nil ?_ | refine Len.cons ?_ | refine Br.t rfl ?_ | refine Br.f rfl ?_ | refine Fit.au ?_ | refine Cv.au ?_ | refine Need.ne ?_ | refine Need.au ?_ | refine Pick.map (by assumption) ?_ | refine Pick.mapI (by omega) (by assumption) ?_ | refine PickN.mk _ (by assumption) ?_ | refine PickN.mk _ rfl ?_ | refine PickN.au ?_ | refine App.au rfl ?_ | refine App.au (own_map (fun _ => rfl) _) ?_ | refine Both.mk ?_ ?_ | exact True.intro
      refine Br.d (fun h5 => ?_) (fun h5 => ?_)
      · repeat' first | refine Pick.map gy ?_ | refine Len.map ?_ | refine Len.nil ?_ | refine Len.cons ?_ | refine Br.t rfl ?_ | refine Br.f rfl ?_ | refine Fit.au ?_ | refine Cv.au ?_ | refine Need.ne ?_ | refine Need.au ?_ | refine Pick.map (by assumption) ?_ | refine Pick.mapI (by omega) (by assumption) ?_ | refine PickN.mk _ (by assumption) ?_ | refine PickN.mk _ rfl ?_ | refine PickN.au ?_ | refine App.au rfl ?_ | refine App.au (own_map (fun _ => rfl) _) ?_ | refine Both.mk ?_ ?_ | exact True.intro
        refine Stop.mk (ih2 (k + 1) (g := [(0, 2)]) _ _ _ ⟨by omega, fun z hz => ?_⟩ (by omega) ?_)
        · rw [htk2] at hz
          rcases List.mem_append.1 hz with hz | hz
          · exact hlt z hz
          · rw [List.mem_singleton.1 hz]; exact h5
        · rw [htk2, List.map_append]
          exact ⟨rfl, (by repeat' first | exact trivial | refine ⟨rfl, ?_⟩ | refine ⟨congrArg (fun n => AV.lit (.int .i64 n)) (by omega), ?_⟩ | refine ⟨congrArg (fun l => some (Row.row 1 l)) (by simp [int1, num, tru]), ?_⟩), (by repeat' first | exact trivial | refine ⟨rfl, ?_⟩ | refine ⟨congrArg (fun n => AV.lit (.int .i64 n)) (by omega), ?_⟩ | refine ⟨congrArg (fun l => some (Row.row 1 l)) (by simp [int1, num, tru]), ?_⟩)⟩
      · repeat' first | refine Pick.map gx ?_ | refine SubFrom.map (by omega) ?_ | refine Len.map ?_ | refine Len.nil ?_ | refine Len.cons ?_ | refine Br.t rfl ?_ | refine Br.f rfl ?_ | refine Fit.au ?_ | refine Cv.au ?_ | refine Need.ne ?_ | refine Need.au ?_ | refine Pick.map (by assumption) ?_ | refine Pick.mapI (by omega) (by assumption) ?_ | refine PickN.mk _ (by assumption) ?_ | refine PickN.mk _ rfl ?_ | refine PickN.au ?_ | refine App.au rfl ?_ | refine App.au (own_map (fun _ => rfl) _) ?_ | refine Both.mk ?_ ?_ | exact True.intro
        repeat' first | refine SubFrom.map (by omega) ?_ | refine Len.map ?_ | refine Len.nil ?_ | refine Len.cons ?_ | refine Br.t rfl ?_ | refine Br.f rfl ?_ | refine Fit.au ?_ | refine Cv.au ?_ | refine Need.ne ?_ | refine Need.au ?_ | refine Pick.map (by assumption) ?_ | refine Pick.mapI (by omega) (by assumption) ?_ | refine PickN.mk _ (by assumption) ?_ | refine PickN.mk _ rfl ?_ | refine PickN.au ?_ | refine App.au rfl ?_ | refine App.au (own_map (fun _ => rfl) _) ?_ | refine Both.mk ?_ ?_ | exact True.intro
        refine Stop.mk (ih (i + 1, (out.take k ++ [x]) ++ out.drop k) (g := [(0, 3)]) _ _ _ (hfin ?_) (by simp only; omega) ?_)
        · exact drop_gt hs gy (by omega) h3
        · rw [hlk]
          rw [List.map_append, List.map_append]
          exact ⟨rfl, (by repeat' first | exact trivial | refine ⟨rfl, ?_⟩ | refine ⟨congrArg (fun n => AV.lit (.int .i64 n)) (by omega), ?_⟩ | refine ⟨congrArg (fun l => some (Row.row 1 l)) (by simp [int1, num, tru]), ?_⟩), (by repeat' first | exact trivial | refine ⟨rfl, ?_⟩ | refine ⟨congrArg (fun n => AV.lit (.int .i64 n)) (by omega), ?_⟩ | refine ⟨congrArg (fun l => some (Row.row 1 l)) (by simp [int1, num, tru]), ?_⟩)⟩
    · repeat' first | refine Pick.map gx ?_ | refine SubFrom.map (by omega) ?_ | refine Len.map ?_ | refine Len.nil ?_ | refine Len.cons ?_ | refine Br.t rfl ?_ | refine Br.f rfl ?_ | refine Fit.au ?_ | refine Cv.au ?_ | refine Need.ne ?_ | refine Need.au ?_ | refine Pick.map (by assumption) ?_ | refine Pick.mapI (by omega) (by assumption) ?_ | refine PickN.mk _ (by assumption) ?_ | refine PickN.mk _ rfl ?_ | refine PickN.au ?_ | refine App.au rfl ?_ | refine App.au (own_map (fun _ => rfl) _) ?_ | refine Both.mk ?_ ?_ | exact True.intro
      repeat' first | refine SubFrom.map (by omega) ?_ | refine Len.map ?_ | refine Len.nil ?_ | refine Len.cons ?_ | refine Br.t rfl ?_ | refine Br.f rfl ?_ | refine Fit.au ?_ | refine Cv.au ?_ | refine Need.ne ?_ | refine Need.au ?_ | refine Pick.map (by assumption) ?_ | refine Pick.mapI (by omega) (by assumption) ?_ | refine PickN.mk _ (by assumption) ?_ | refine PickN.mk _ rfl ?_ | refine PickN.au ?_ | refine App.au rfl ?_ | refine App.au (own_map (fun _ => rfl) _) ?_ | refine Both.mk ?_ ?_ | exact True.intro
      refine Stop.mk (ih (i + 1, (out.take k ++ [x]) ++ out.drop k) (g := [(0, 3)]) _ _ _ (hfin ?_) (by simp only; omega) ?_)
      · rw [List.drop_of_length_le (by omega)]; simp
      · rw [hlk]
        rw [List.map_append, List.map_append]
        exact ⟨rfl, (by repeat' first | exact trivial | refine ⟨rfl, ?_⟩ | refine ⟨congrArg (fun n => AV.lit (.int .i64 n)) (by omega), ?_⟩ | refine ⟨congrArg (fun l => some (Row.row 1 l)) (by simp [int1, num, tru]), ?_⟩), (by repeat' first | exact trivial | refine ⟨rfl, ?_⟩ | refine ⟨congrArg (fun n => AV.lit (.int .i64 n)) (by omega), ?_⟩ | refine ⟨congrArg (fun l => some (Row.row 1 l)) (by simp [int1, num, tru]), ?_⟩)⟩
  · obtain rfl : i = l.length := by omega
    repeat' first | refine Len.map ?_ | refine Len.nil ?_ | refine Len.cons ?_ | refine Br.t rfl ?_ | refine Br.f rfl ?_ | refine Fit.au ?_ | refine Cv.au ?_ | refine Need.ne ?_ | refine Need.au ?_ | refine Pick.map (by assumption) ?_ | refine Pick.mapI (by omega) (by assumption) ?_ | refine PickN.mk _ (by assumption) ?_ | refine PickN.mk _ rfl ?_ | refine PickN.au ?_ | refine App.au rfl ?_ | refine App.au (own_map (fun _ => rfl) _) ?_ | refine Both.mk ?_ ?_ | exact True.intro
    refine ⟨out, rfl, hs, fun x => ?_⟩
    rw [hm, List.take_length]
end Go.Proofs.Ytjjijklonnhdeaa

/- The rim of some blocks, again and again, by the document: by contracts. -/
namespace Go.Proofs.Ytjjijklonnhdeaa
open Go.Ax
set_option maxRecDepth 10000
set_option linter.unusedVariables false

theorem stays_ints (l : List Int) : (l.map int1).flatten.all AV.stays = true := by
  induction l with
  | nil => rfl
  | cons a l ih => rw [List.map_cons, List.flatten_cons, List.all_append, ih]; rfl
theorem All8_spec (rims : List (List Int)) (l : List Int) (hn : rims.length ≤ 1000000) (hl : l.length ≤ 1000000) (hr : ∀ r ∈ rims, r.length ≤ 1000000) : FnSpec Try.prog 8 [lsts rims, ints l] (fun r => r = .osl 1 ((allF rims l).map int1)) := by
  have hI := Ints_spec l hl
  refine spec_of 1000 Try.func8 rfl rfl ?_
  repeat' first | refine Len.map ?_ | refine Len.nil ?_ | refine Len.cons ?_ | refine Br.t rfl ?_ | refine Br.f rfl ?_ | refine Fit.au ?_ | refine Cv.au ?_ | refine Need.ne ?_ | refine Need.au ?_ | refine Pick.map (by assumption) ?_ | refine Pick.mapI (by omega) (by assumption) ?_ | refine PickN.mk _ (by assumption) ?_ | refine PickN.mk _ rfl ?_ | refine PickN.au ?_ | refine App.au rfl ?_ | refine App.au (own_map (fun _ => rfl) _) ?_ | refine Both.mk ?_ ?_ | exact True.intro
  refine Stop.mk (loop_in (g := []) (fun p : Nat × List Int => [(0, lsts rims), (1, ints l), (5, .hw 0), (6, num p.1)]) (fun p => [(0, .row 1 (p.2.map int1))]) 1 (fun p => p.1 ≤ rims.length + 1 ∧ p.2.Nodup ∧ (∀ t ∈ p.2, ∃ k : Nat, t = k ∧ AllP rims l k) ∧ (Cl rims l p.2 ∨ p.1 ≤ p.2.length)) (fun p => rims.length + 1 - p.1) (0, []) ⟨by simp only; omega, by simp, by simp, .inr (by simp)⟩ ⟨rfl, (by repeat' first | exact trivial | refine ⟨rfl, ?_⟩ | refine ⟨congrArg (fun n => AV.lit (.int .i64 n)) (by omega), ?_⟩ | refine ⟨congrArg (fun l => some (Row.row 1 l)) (by simp [int1, num, tru]), ?_⟩), (by repeat' first | exact trivial | refine ⟨rfl, ?_⟩ | refine ⟨congrArg (fun n => AV.lit (.int .i64 n)) (by omega), ?_⟩ | refine ⟨congrArg (fun l => some (Row.row 1 l)) (by simp [int1, num, tru]), ?_⟩)⟩ (fun p hp ih => ?_))
  obtain ⟨i, out0⟩ := p
  obtain ⟨hi, hnd, his, hcl⟩ := hp
  dsimp only at hi hnd his hcl ih ⊢
  have hR0 := RndI.start hnd his
  have hol := hR0.len
  refine go 17 Try.func8 ?_
  repeat' first | refine Len.map ?_ | refine Len.nil ?_ | refine Len.cons ?_ | refine Br.t rfl ?_ | refine Br.f rfl ?_ | refine Fit.au ?_ | refine Cv.au ?_ | refine Need.ne ?_ | refine Need.au ?_ | refine Pick.map (by assumption) ?_ | refine Pick.mapI (by omega) (by assumption) ?_ | refine PickN.mk _ (by assumption) ?_ | refine PickN.mk _ rfl ?_ | refine PickN.au ?_ | refine App.au rfl ?_ | refine App.au (own_map (fun _ => rfl) _) ?_ | refine Both.mk ?_ ?_ | exact True.intro
  refine Br.d (fun h2 => ?_) (fun h2 => ?_)
  rotate_left
  · have hC : Cl rims l out0 := by
      rcases hcl with h | h
      · exact h
      · omega
    have hS := Sorted18_spec out0 (by omega)
    repeat' first | refine Len.map ?_ | refine Len.nil ?_ | refine Len.cons ?_ | refine Br.t rfl ?_ | refine Br.f rfl ?_ | refine Fit.au ?_ | refine Cv.au ?_ | refine Need.ne ?_ | refine Need.au ?_ | refine Pick.map (by assumption) ?_ | refine Pick.mapI (by omega) (by assumption) ?_ | refine PickN.mk _ (by assumption) ?_ | refine PickN.mk _ rfl ?_ | refine PickN.au ?_ | refine App.au rfl ?_ | refine App.au (own_map (fun _ => rfl) _) ?_ | refine Both.mk ?_ ?_ | exact True.intro
    refine Look.stop (Stop.mk (run_frzR 0 rfl (fzn _) ?_))
    refine go 1000 Try.func8 ?_
    repeat' first | (refine Call.of hS ?_; rintro r ⟨q, rfl, hq, hqm⟩; refine ⟨rfl, ?_⟩) | refine Len.map ?_ | refine Len.nil ?_ | refine Len.cons ?_ | refine Br.t rfl ?_ | refine Br.f rfl ?_ | refine Fit.au ?_ | refine Cv.au ?_ | refine Need.ne ?_ | refine Need.au ?_ | refine Pick.map (by assumption) ?_ | refine Pick.mapI (by omega) (by assumption) ?_ | refine PickN.mk _ (by assumption) ?_ | refine PickN.mk _ rfl ?_ | refine PickN.au ?_ | refine App.au rfl ?_ | refine App.au (own_map (fun _ => rfl) _) ?_ | refine Both.mk ?_ ?_ | exact True.intro
    obtain rfl : q = allF rims l := sorted_ext hq (filtN_lt ..) fun x => (hqm x).trans (hC.mem his x)
    rfl
  repeat' first | refine Call.eq hI rfl ?_ | refine Len.map ?_ | refine Len.nil ?_ | refine Len.cons ?_ | refine Br.t rfl ?_ | refine Br.f rfl ?_ | refine Fit.au ?_ | refine Cv.au ?_ | refine Need.ne ?_ | refine Need.au ?_ | refine Pick.map (by assumption) ?_ | refine Pick.mapI (by omega) (by assumption) ?_ | refine PickN.mk _ (by assumption) ?_ | refine PickN.mk _ rfl ?_ | refine PickN.au ?_ | refine App.au rfl ?_ | refine App.au (own_map (fun _ => rfl) _) ?_ | refine Both.mk ?_ ?_ | exact True.intro
  refine Stop.mk (run_op rfl want_none rfl (ok_append (sz := 1) (xs := l.map int1) (ys := out0.map int1) rfl ty23 rfl ty3 ty23 rfl rfl (first_hw rfl) (src_keep rfl (stays_ints out0)) (own_map (fun _ => rfl) out0) (by simp only [List.length_map]; omega) (by simp only [List.length_map]; omega)) ?_)
  refine go 4 Try.func8 ?_
  repeat' first | refine Len.map ?_ | refine Len.nil ?_ | refine Len.cons ?_ | refine Br.t rfl ?_ | refine Br.f rfl ?_ | refine Fit.au ?_ | refine Cv.au ?_ | refine Need.ne ?_ | refine Need.au ?_ | refine Pick.map (by assumption) ?_ | refine Pick.mapI (by omega) (by assumption) ?_ | refine PickN.mk _ (by assumption) ?_ | refine PickN.mk _ rfl ?_ | refine PickN.au ?_ | refine App.au rfl ?_ | refine App.au (own_map (fun _ => rfl) _) ?_ | refine Both.mk ?_ ?_ | exact True.intro
  refine Stop.mk (run_frzR 2 rfl (show AV.fzLL (l.map int1 ++ out0.map int1) = (l ++ out0).map int1 by rw [← List.map_append]; exact fzn _) ?_)
  have hfl : (l ++ out0).length = l.length + out0.length := List.length_append
  have hfm : ∀ x : Int, x ∈ l ++ out0 → x ∈ l ∨ x ∈ out0 := fun x => List.mem_append.1
  have hround : ∀ out : List Int, RndI rims l out0 out (l ++ out0) [] → Cl rims l out ∨ i + 1 ≤ out.length := fun out h => h.round hcl
  generalize l ++ out0 = fr at *
  refine go 1000 Try.func8 ?_
  repeat' first | refine Len.map ?_ | refine Len.nil ?_ | refine Len.cons ?_ | refine Br.t rfl ?_ | refine Br.f rfl ?_ | refine Fit.au ?_ | refine Cv.au ?_ | refine Need.ne ?_ | refine Need.au ?_ | refine Pick.map (by assumption) ?_ | refine Pick.mapI (by omega) (by assumption) ?_ | refine PickN.mk _ (by assumption) ?_ | refine PickN.mk _ rfl ?_ | refine PickN.au ?_ | refine App.au rfl ?_ | refine App.au (own_map (fun _ => rfl) _) ?_ | refine Both.mk ?_ ?_ | exact True.intro
  refine Stop.mk (loop_in (g := []) (fun p : Nat × List Int => [(0, lsts rims), (1, ints l), (5, .hw 0), (6, num i), (7, ints fr), (8, num p.1)]) (fun p => [(0, .row 1 (p.2.map int1))]) 1 (fun p => p.1 ≤ fr.length ∧ RndI rims l out0 p.2 (fr.take p.1) []) (fun p => fr.length - p.1) (0, out0) ⟨by simp only; omega, hR0⟩ ⟨rfl, (by repeat' first | exact trivial | refine ⟨rfl, ?_⟩ | refine ⟨congrArg (fun n => AV.lit (.int .i64 n)) (by omega), ?_⟩ | refine ⟨congrArg (fun l => some (Row.row 1 l)) (by simp [int1, num, tru]), ?_⟩), (by repeat' first | exact trivial | refine ⟨rfl, ?_⟩ | refine ⟨congrArg (fun n => AV.lit (.int .i64 n)) (by omega), ?_⟩ | refine ⟨congrArg (fun l => some (Row.row 1 l)) (by simp [int1, num, tru]), ?_⟩)⟩ (fun p hp ih2 => ?_))
  obtain ⟨k, out⟩ := p
  obtain ⟨hk, hR⟩ := hp
  dsimp only at hk hR ih2 ⊢
  have hlo := hR.len
  refine go 1000 Try.func8 ?_
  repeat' first | refine Len.map ?_ | refine Len.nil ?_ | refine Len.cons ?_ | refine Br.t rfl ?_ | refine Br.f rfl ?_ | refine Fit.au ?_ | refine Cv.au ?_ | refine Need.ne ?_ | refine Need.au ?_ | refine Pick.map (by assumption) ?_ | refine Pick.mapI (by omega) (by assumption) ?_ | refine PickN.mk _ (by assumption) ?_ | refine PickN.mk _ rfl ?_ | refine PickN.au ?_ | refine App.au rfl ?_ | refine App.au (own_map (fun _ => rfl) _) ?_ | refine Both.mk ?_ ?_ | exact True.intro
  refine Br.d (fun h3 => ?_) (fun h3 => ?_)
  rotate_left
  · have hend := hround out (by rw [take_all (by omega)] at hR; exact hR)
    repeat' first | refine Len.map ?_ | refine Len.nil ?_ | refine Len.cons ?_ | refine Br.t rfl ?_ | refine Br.f rfl ?_ | refine Fit.au ?_ | refine Cv.au ?_ | refine Need.ne ?_ | refine Need.au ?_ | refine Pick.map (by assumption) ?_ | refine Pick.mapI (by omega) (by assumption) ?_ | refine PickN.mk _ (by assumption) ?_ | refine PickN.mk _ rfl ?_ | refine PickN.au ?_ | refine App.au rfl ?_ | refine App.au (own_map (fun _ => rfl) _) ?_ | refine Both.mk ?_ ?_ | exact True.intro
    exact Stop.mk (ih (i + 1, out) (g := []) _ _ _ ⟨by simp only; omega, hR.nodup, hR.is, hend⟩ (by simp only; omega) ⟨rfl, (by repeat' first | exact trivial | refine ⟨rfl, ?_⟩ | refine ⟨congrArg (fun n => AV.lit (.int .i64 n)) (by omega), ?_⟩ | refine ⟨congrArg (fun l => some (Row.row 1 l)) (by simp [int1, num, tru]), ?_⟩), (by repeat' first | exact trivial | refine ⟨rfl, ?_⟩ | refine ⟨congrArg (fun n => AV.lit (.int .i64 n)) (by omega), ?_⟩ | refine ⟨congrArg (fun l => some (Row.row 1 l)) (by simp [int1, num, tru]), ?_⟩)⟩)
  obtain ⟨x, gx, gxm⟩ := getK (l := fr) (k := k) (by omega)
  have htk := take_succ gx
  have off : x < 0 ∨ (rims.length : Int) ≤ x → RndI rims l out0 out (fr.take (k + 1)) [] := fun h => by rw [htk]; exact hR.off h
  repeat' first | refine Pick.map gx ?_ | refine Len.map ?_ | refine Len.nil ?_ | refine Len.cons ?_ | refine Br.t rfl ?_ | refine Br.f rfl ?_ | refine Fit.au ?_ | refine Cv.au ?_ | refine Need.ne ?_ | refine Need.au ?_ | refine Pick.map (by assumption) ?_ | refine Pick.mapI (by omega) (by assumption) ?_ | refine PickN.mk _ (by assumption) ?_ | refine PickN.mk _ rfl ?_ | refine PickN.au ?_ | refine App.au rfl ?_ | refine App.au (own_map (fun _ => rfl) _) ?_ | refine Both.mk ?_ ?_ | exact True.intro
  refine Br.d (fun h4 => ?_) (fun h4 => ?_)
  · repeat' first | refine Len.map ?_ | refine Len.nil ?_ | refine Len.cons ?_ | refine Br.t rfl ?_ | refine Br.f rfl ?_ | refine Fit.au ?_ | refine Cv.au ?_ | refine Need.ne ?_ | refine Need.au ?_ | refine Pick.map (by assumption) ?_ | refine Pick.mapI (by omega) (by assumption) ?_ | refine PickN.mk _ (by assumption) ?_ | refine PickN.mk _ rfl ?_ | refine PickN.au ?_ | refine App.au rfl ?_ | refine App.au (own_map (fun _ => rfl) _) ?_ | refine Both.mk ?_ ?_ | exact True.intro
    exact Stop.mk (ih2 (k + 1, out) (g := []) _ _ _ ⟨by simp only; omega, off (.inl h4)⟩ (by simp only; omega) ⟨rfl, (by repeat' first | exact trivial | refine ⟨rfl, ?_⟩ | refine ⟨congrArg (fun n => AV.lit (.int .i64 n)) (by omega), ?_⟩ | refine ⟨congrArg (fun l => some (Row.row 1 l)) (by simp [int1, num, tru]), ?_⟩), (by repeat' first | exact trivial | refine ⟨rfl, ?_⟩ | refine ⟨congrArg (fun n => AV.lit (.int .i64 n)) (by omega), ?_⟩ | refine ⟨congrArg (fun l => some (Row.row 1 l)) (by simp [int1, num, tru]), ?_⟩)⟩)
  repeat' first | refine Pick.map gx ?_ | refine Len.map ?_ | refine Len.nil ?_ | refine Len.cons ?_ | refine Br.t rfl ?_ | refine Br.f rfl ?_ | refine Fit.au ?_ | refine Cv.au ?_ | refine Need.ne ?_ | refine Need.au ?_ | refine Pick.map (by assumption) ?_ | refine Pick.mapI (by omega) (by assumption) ?_ | refine PickN.mk _ (by assumption) ?_ | refine PickN.mk _ rfl ?_ | refine PickN.au ?_ | refine App.au rfl ?_ | refine App.au (own_map (fun _ => rfl) _) ?_ | refine Both.mk ?_ ?_ | exact True.intro
  refine Br.d (fun h5 => ?_) (fun h5 => ?_)
  · repeat' first | refine Len.map ?_ | refine Len.nil ?_ | refine Len.cons ?_ | refine Br.t rfl ?_ | refine Br.f rfl ?_ | refine Fit.au ?_ | refine Cv.au ?_ | refine Need.ne ?_ | refine Need.au ?_ | refine Pick.map (by assumption) ?_ | refine Pick.mapI (by omega) (by assumption) ?_ | refine PickN.mk _ (by assumption) ?_ | refine PickN.mk _ rfl ?_ | refine PickN.au ?_ | refine App.au rfl ?_ | refine App.au (own_map (fun _ => rfl) _) ?_ | refine Both.mk ?_ ?_ | exact True.intro
    exact Stop.mk (ih2 (k + 1, out) (g := []) _ _ _ ⟨by simp only; omega, off (.inr (by omega))⟩ (by simp only; omega) ⟨rfl, (by repeat' first | exact trivial | refine ⟨rfl, ?_⟩ | refine ⟨congrArg (fun n => AV.lit (.int .i64 n)) (by omega), ?_⟩ | refine ⟨congrArg (fun l => some (Row.row 1 l)) (by simp [int1, num, tru]), ?_⟩), (by repeat' first | exact trivial | refine ⟨rfl, ?_⟩ | refine ⟨congrArg (fun n => AV.lit (.int .i64 n)) (by omega), ?_⟩ | refine ⟨congrArg (fun l => some (Row.row 1 l)) (by simp [int1, num, tru]), ?_⟩)⟩)
  obtain ⟨x, rfl⟩ : ∃ n : Nat, x = n := ⟨x.toNat, by omega⟩
  obtain ⟨r, gr, grm⟩ := getK (l := rims) (k := x) (by omega)
  have hrl := hr r grm
  have hxs := hfm _ gxm
  repeat' first | refine Pick.map gx ?_ | refine Pick.map gr ?_ | refine Len.map ?_ | refine Len.nil ?_ | refine Len.cons ?_ | refine Br.t rfl ?_ | refine Br.f rfl ?_ | refine Fit.au ?_ | refine Cv.au ?_ | refine Need.ne ?_ | refine Need.au ?_ | refine Pick.map (by assumption) ?_ | refine Pick.mapI (by omega) (by assumption) ?_ | refine PickN.mk _ (by assumption) ?_ | refine PickN.mk _ rfl ?_ | refine PickN.au ?_ | refine App.au rfl ?_ | refine App.au (own_map (fun _ => rfl) _) ?_ | refine Both.mk ?_ ?_ | exact True.intro
  refine Stop.mk (loop_in (g := []) (fun p : Nat × List Int => [(0, lsts rims), (1, ints l), (5, .hw 0), (6, num i), (7, ints fr), (8, num k), (9, ints r), (10, num p.1)]) (fun p => [(0, .row 1 (p.2.map int1))]) 1 (fun p => p.1 ≤ r.length ∧ RndI rims l out0 p.2 (fr.take k) (r.take p.1)) (fun p => r.length - p.1) (0, out) ⟨by simp only; omega, hR⟩ ⟨rfl, (by repeat' first | exact trivial | refine ⟨rfl, ?_⟩ | refine ⟨congrArg (fun n => AV.lit (.int .i64 n)) (by omega), ?_⟩ | refine ⟨congrArg (fun l => some (Row.row 1 l)) (by simp [int1, num, tru]), ?_⟩), (by repeat' first | exact trivial | refine ⟨rfl, ?_⟩ | refine ⟨congrArg (fun n => AV.lit (.int .i64 n)) (by omega), ?_⟩ | refine ⟨congrArg (fun l => some (Row.row 1 l)) (by simp [int1, num, tru]), ?_⟩)⟩ (fun p hp ih3 => ?_))
  obtain ⟨j, ou⟩ := p
  obtain ⟨hj, hS⟩ := hp
  dsimp only at hj hS ih3 ⊢
  have hlo2 := hS.len
  refine go 1000 Try.func8 ?_
  repeat' first | refine Len.map ?_ | refine Len.nil ?_ | refine Len.cons ?_ | refine Br.t rfl ?_ | refine Br.f rfl ?_ | refine Fit.au ?_ | refine Cv.au ?_ | refine Need.ne ?_ | refine Need.au ?_ | refine Pick.map (by assumption) ?_ | refine Pick.mapI (by omega) (by assumption) ?_ | refine PickN.mk _ (by assumption) ?_ | refine PickN.mk _ rfl ?_ | refine PickN.au ?_ | refine App.au rfl ?_ | refine App.au (own_map (fun _ => rfl) _) ?_ | refine Both.mk ?_ ?_ | exact True.intro
  refine Br.d (fun h6 => ?_) (fun h6 => ?_)
  rotate_left
  · rw [take_all (l := r) (by omega)] at hS
    repeat' first | refine Len.map ?_ | refine Len.nil ?_ | refine Len.cons ?_ | refine Br.t rfl ?_ | refine Br.f rfl ?_ | refine Fit.au ?_ | refine Cv.au ?_ | refine Need.ne ?_ | refine Need.au ?_ | refine Pick.map (by assumption) ?_ | refine Pick.mapI (by omega) (by assumption) ?_ | refine PickN.mk _ (by assumption) ?_ | refine PickN.mk _ rfl ?_ | refine PickN.au ?_ | refine App.au rfl ?_ | refine App.au (own_map (fun _ => rfl) _) ?_ | refine Both.mk ?_ ?_ | exact True.intro
    refine Stop.mk (ih2 (k + 1, ou) (g := []) _ _ _ ⟨by simp only; omega, ?_⟩ (by simp only; omega) ⟨rfl, (by repeat' first | exact trivial | refine ⟨rfl, ?_⟩ | refine ⟨congrArg (fun n => AV.lit (.int .i64 n)) (by omega), ?_⟩ | refine ⟨congrArg (fun l => some (Row.row 1 l)) (by simp [int1, num, tru]), ?_⟩), (by repeat' first | exact trivial | refine ⟨rfl, ?_⟩ | refine ⟨congrArg (fun n => AV.lit (.int .i64 n)) (by omega), ?_⟩ | refine ⟨congrArg (fun l => some (Row.row 1 l)) (by simp [int1, num, tru]), ?_⟩)⟩)
    dsimp only
    rw [htk]
    exact hS.next gr
  obtain ⟨y, gy, gym⟩ := getK (l := r) (k := j) (by omega)
  have htj := take_succ gy
  have skip : y ∈ ou ∨ y < 0 ∨ (rims.length : Int) ≤ y → RndI rims l out0 ou (fr.take k) (r.take (j + 1)) := fun h => by rw [htj]; exact hS.skip h
  have hH := HasInt_spec ou y (by omega)
  repeat' first | refine Pick.map gy ?_ | refine Len.map ?_ | refine Len.nil ?_ | refine Len.cons ?_ | refine Br.t rfl ?_ | refine Br.f rfl ?_ | refine Fit.au ?_ | refine Cv.au ?_ | refine Need.ne ?_ | refine Need.au ?_ | refine Pick.map (by assumption) ?_ | refine Pick.mapI (by omega) (by assumption) ?_ | refine PickN.mk _ (by assumption) ?_ | refine PickN.mk _ rfl ?_ | refine PickN.au ?_ | refine App.au rfl ?_ | refine App.au (own_map (fun _ => rfl) _) ?_ | refine Both.mk ?_ ?_ | exact True.intro
  refine Br.d (fun h7 => ?_) (fun h7 => ?_)
  rotate_left
  · repeat' first | refine Len.map ?_ | refine Len.nil ?_ | refine Len.cons ?_ | refine Br.t rfl ?_ | refine Br.f rfl ?_ | refine Fit.au ?_ | refine Cv.au ?_ | refine Need.ne ?_ | refine Need.au ?_ | refine Pick.map (by assumption) ?_ | refine Pick.mapI (by omega) (by assumption) ?_ | refine PickN.mk _ (by assumption) ?_ | refine PickN.mk _ rfl ?_ | refine PickN.au ?_ | refine App.au rfl ?_ | refine App.au (own_map (fun _ => rfl) _) ?_ | refine Both.mk ?_ ?_ | exact True.intro
    exact Stop.mk (ih3 (j + 1, ou) (g := []) _ _ _ ⟨by simp only; omega, skip (.inr (.inl (by omega)))⟩ (by simp only; omega) ⟨rfl, (by repeat' first | exact trivial | refine ⟨rfl, ?_⟩ | refine ⟨congrArg (fun n => AV.lit (.int .i64 n)) (by omega), ?_⟩ | refine ⟨congrArg (fun l => some (Row.row 1 l)) (by simp [int1, num, tru]), ?_⟩), (by repeat' first | exact trivial | refine ⟨rfl, ?_⟩ | refine ⟨congrArg (fun n => AV.lit (.int .i64 n)) (by omega), ?_⟩ | refine ⟨congrArg (fun l => some (Row.row 1 l)) (by simp [int1, num, tru]), ?_⟩)⟩)
  repeat' first | refine Pick.map gy ?_ | refine Len.map ?_ | refine Len.nil ?_ | refine Len.cons ?_ | refine Br.t rfl ?_ | refine Br.f rfl ?_ | refine Fit.au ?_ | refine Cv.au ?_ | refine Need.ne ?_ | refine Need.au ?_ | refine Pick.map (by assumption) ?_ | refine Pick.mapI (by omega) (by assumption) ?_ | refine PickN.mk _ (by assumption) ?_ | refine PickN.mk _ rfl ?_ | refine PickN.au ?_ | refine App.au rfl ?_ | refine App.au (own_map (fun _ => rfl) _) ?_ | refine Both.mk ?_ ?_ | exact True.intro
  refine Br.d (fun h8 => ?_) (fun h8 => ?_)
  rotate_left
  · repeat' first | refine Len.map ?_ | refine Len.nil ?_ | refine Len.cons ?_ | refine Br.t rfl ?_ | refine Br.f rfl ?_ | refine Fit.au ?_ | refine Cv.au ?_ | refine Need.ne ?_ | refine Need.au ?_ | refine Pick.map (by assumption) ?_ | refine Pick.mapI (by omega) (by assumption) ?_ | refine PickN.mk _ (by assumption) ?_ | refine PickN.mk _ rfl ?_ | refine PickN.au ?_ | refine App.au rfl ?_ | refine App.au (own_map (fun _ => rfl) _) ?_ | refine Both.mk ?_ ?_ | exact True.intro
    exact Stop.mk (ih3 (j + 1, ou) (g := []) _ _ _ ⟨by simp only; omega, skip (.inr (.inr (by omega)))⟩ (by simp only; omega) ⟨rfl, (by repeat' first | exact trivial | refine ⟨rfl, ?_⟩ | refine ⟨congrArg (fun n => AV.lit (.int .i64 n)) (by omega), ?_⟩ | refine ⟨congrArg (fun l => some (Row.row 1 l)) (by simp [int1, num, tru]), ?_⟩), (by repeat' first | exact trivial | refine ⟨rfl, ?_⟩ | refine ⟨congrArg (fun n => AV.lit (.int .i64 n)) (by omega), ?_⟩ | refine ⟨congrArg (fun l => some (Row.row 1 l)) (by simp [int1, num, tru]), ?_⟩)⟩)
  repeat' first | refine Pick.map gy ?_ | (refine Look.yes (View.mk _ (fzn _) ?_); refine CallV.eq hH rfl (Free.lit _) ?_) | refine Len.map ?_ | refine Len.nil ?_ | refine Len.cons ?_ | refine Br.t rfl ?_ | refine Br.f rfl ?_ | refine Fit.au ?_ | refine Cv.au ?_ | refine Need.ne ?_ | refine Need.au ?_ | refine Pick.map (by assumption) ?_ | refine Pick.mapI (by omega) (by assumption) ?_ | refine PickN.mk _ (by assumption) ?_ | refine PickN.mk _ rfl ?_ | refine PickN.au ?_ | refine App.au rfl ?_ | refine App.au (own_map (fun _ => rfl) _) ?_ | refine Both.mk ?_ ?_ | exact True.intro
  refine Br.nd (fun h9 => ?_) (fun h9 => ?_)
  · obtain ⟨y, rfl⟩ : ∃ n : Nat, y = n := ⟨y.toNat, by omega⟩
    have hadd := hS.add hxs gr gym (by omega) h9
    rw [← htj] at hadd
    repeat' first | refine Pick.map gy ?_ | refine Len.map ?_ | refine Len.nil ?_ | refine Len.cons ?_ | refine Br.t rfl ?_ | refine Br.f rfl ?_ | refine Fit.au ?_ | refine Cv.au ?_ | refine Need.ne ?_ | refine Need.au ?_ | refine Pick.map (by assumption) ?_ | refine Pick.mapI (by omega) (by assumption) ?_ | refine PickN.mk _ (by assumption) ?_ | refine PickN.mk _ rfl ?_ | refine PickN.au ?_ | refine App.au rfl ?_ | refine App.au (own_map (fun _ => rfl) _) ?_ | refine Both.mk ?_ ?_ | exact True.intro
    refine Stop.mk (ih3 (j + 1, ou ++ [(y : Int)]) (g := [(0, 2)]) _ _ _ ⟨by simp only; omega, hadd⟩ (by simp only; omega) ?_)
    dsimp only
    rw [List.map_append]
    exact ⟨rfl, (by repeat' first | exact trivial | refine ⟨rfl, ?_⟩ | refine ⟨congrArg (fun n => AV.lit (.int .i64 n)) (by omega), ?_⟩ | refine ⟨congrArg (fun l => some (Row.row 1 l)) (by simp [int1, num, tru]), ?_⟩), (by repeat' first | exact trivial | refine ⟨rfl, ?_⟩ | refine ⟨congrArg (fun n => AV.lit (.int .i64 n)) (by omega), ?_⟩ | refine ⟨congrArg (fun l => some (Row.row 1 l)) (by simp [int1, num, tru]), ?_⟩)⟩
  · repeat' first | refine Len.map ?_ | refine Len.nil ?_ | refine Len.cons ?_ | refine Br.t rfl ?_ | refine Br.f rfl ?_ | refine Fit.au ?_ | refine Cv.au ?_ | refine Need.ne ?_ | refine Need.au ?_ | refine Pick.map (by assumption) ?_ | refine Pick.mapI (by omega) (by assumption) ?_ | refine PickN.mk _ (by assumption) ?_ | refine PickN.mk _ rfl ?_ | refine PickN.au ?_ | refine App.au rfl ?_ | refine App.au (own_map (fun _ => rfl) _) ?_ | refine Both.mk ?_ ?_ | exact True.intro
    exact Stop.mk (ih3 (j + 1, ou) (g := []) _ _ _ ⟨by simp only; omega, skip (.inl h9)⟩ (by simp only; omega) ⟨rfl, (by repeat' first | exact trivial | refine ⟨rfl, ?_⟩ | refine ⟨congrArg (fun n => AV.lit (.int .i64 n)) (by omega), ?_⟩ | refine ⟨congrArg (fun l => some (Row.row 1 l)) (by simp [int1, num, tru]), ?_⟩), (by repeat' first | exact trivial | refine ⟨rfl, ?_⟩ | refine ⟨congrArg (fun n => AV.lit (.int .i64 n)) (by omega), ?_⟩ | refine ⟨congrArg (fun l => some (Row.row 1 l)) (by simp [int1, num, tru]), ?_⟩)⟩)
end Go.Proofs.Ytjjijklonnhdeaa

/- The library's sort of numbers, by the shelf's contract, laid at this program in plain words by the shelf's tools. -/
namespace Go.Proofs
open Go.Shelf
def Try.lays189_ren : Go.Shelf.Ren := ⟨fun | 189 => 16 | 125 => 28 | 257 => 27 | 128 => 45 | 129 => 46 | 294 => 36 | 295 => 37 | 296 => 38 | 297 => 39 | 298 => 40 | 299 => 41 | 216 => 42 | 300 => 43 | 301 => 44 | 328 => 53 | 329 => 54 | 330 => 55 | 331 => 56 | 332 => 57 | 215 => 58 | 343 => 67 | n => n, fun | 28 => 23 | 3 => 3 | 46 => 50 | 0 => 0 | 51 => 64 | 53 => 66 | 4 => 4 | 183 => 56 | 182 => 55 | 131 => 61 | 5 => 5 | 9 => 9 | 218 => 70 | 222 => 74 | 228 => 78 | 229 => 79 | n => n, fun | n => n⟩
theorem Try.lays189 : Go.Proofs.Lays.n189 Try.prog Try.lays189_ren := {
  mixed := by kernel_rfl
  f125 := Try.func28.trans (congrArg some (by kernel_rfl))
  f128 := Try.func45.trans (congrArg some (by kernel_rfl))
  f129 := Try.func46.trans (congrArg some (by kernel_rfl))
  f189 := Try.func16.trans (congrArg some (by kernel_rfl))
  f215 := Try.func58.trans (congrArg some (by kernel_rfl))
  f216 := Try.func42.trans (congrArg some (by kernel_rfl))
  f257 := Try.func27.trans (congrArg some (by kernel_rfl))
  f294 := Try.func36.trans (congrArg some (by kernel_rfl))
  f295 := Try.func37.trans (congrArg some (by kernel_rfl))
  f296 := Try.func38.trans (congrArg some (by kernel_rfl))
  f297 := Try.func39.trans (congrArg some (by kernel_rfl))
  f298 := Try.func40.trans (congrArg some (by kernel_rfl))
  f299 := Try.func41.trans (congrArg some (by kernel_rfl))
  f300 := Try.func43.trans (congrArg some (by kernel_rfl))
  f301 := Try.func44.trans (congrArg some (by kernel_rfl))
  f328 := Try.func53.trans (congrArg some (by kernel_rfl))
  f329 := Try.func54.trans (congrArg some (by kernel_rfl))
  f330 := Try.func55.trans (congrArg some (by kernel_rfl))
  f331 := Try.func56.trans (congrArg some (by kernel_rfl))
  f332 := Try.func57.trans (congrArg some (by kernel_rfl))
  f343 := Try.func67.trans (congrArg some (by kernel_rfl))
  t0 := Try.underlying0
  a0 := Try.isAgg0
  z0 := Try.sizeOf0
  v0 := Try.zeroValue0
  t3 := Try.underlying3
  a3 := Try.isAgg3
  z3 := Try.sizeOf3
  v3 := Try.zeroValue3
  t4 := Try.underlying4
  a4 := Try.isAgg4
  z4 := Try.sizeOf4
  v4 := Try.zeroValue4
  t5 := Try.underlying5
  a5 := Try.isAgg5
  z5 := Try.sizeOf5
  v5 := Try.zeroValue5
  t9 := Try.underlying9
  a9 := Try.isAgg9
  z9 := Try.sizeOf9
  v9 := Try.zeroValue9
  t28 := Try.underlying23
  a28 := Try.isAgg23
  z28 := Try.sizeOf23
  v28 := Try.zeroValue23
  t46 := Try.underlying50
  a46 := Try.isAgg50
  z46 := Try.sizeOf50
  v46 := Try.zeroValue50
  t51 := Try.underlying64
  a51 := Try.isAgg64
  z51 := Try.sizeOf64
  v51 := Try.zeroValue64
  t53 := Try.underlying66
  a53 := Try.isAgg66
  z53 := Try.sizeOf66
  v53 := Try.zeroValue66
  t131 := Try.underlying61
  a131 := Try.isAgg61
  z131 := Try.sizeOf61
  v131 := Try.zeroValue61
  t182 := Try.underlying55
  a182 := Try.isAgg55
  z182 := Try.sizeOf55
  v182 := Try.zeroValue55
  t183 := Try.underlying56
  a183 := Try.isAgg56
  z183 := Try.sizeOf56
  v183 := Try.zeroValue56
  t218 := Try.underlying70
  a218 := Try.isAgg70
  z218 := Try.sizeOf70
  v218 := Try.zeroValue70
  t222 := Try.underlying74
  a222 := Try.isAgg74
  z222 := Try.sizeOf74
  v222 := Try.zeroValue74
  t228 := Try.underlying78
  a228 := Try.isAgg78
  z228 := Try.sizeOf78
  v228 := Try.zeroValue78
  t229 := Try.underlying79
  a229 := Try.isAgg79
  z229 := Try.sizeOf79
  v229 := Try.zeroValue79 }
open Go.Sort Go.RowKit in
theorem Try.slices_Sort_int (blk off cap : Nat) (zs : List Int) (w : World) (hH : Holds (Value.int .i64) w blk off zs.toArray) (hblk : blk < w.heap.size) (hsz : zs.length < 4611686018427387904) :
    Calls Try.prog 16 #[.slice (some ⟨blk, off, none⟩) zs.length cap] w fun e w' =>
      e = .returned (.tuple #[]) ∧ ∃ n os, w' = grow (putRow (Value.int .i64) (Sort.ahead w n) blk off (zs.mergeSort fun x y => decide (x ≤ y)).toArray) os := Any.slices_Sort_int Try.lays189 blk off cap zs w hH hblk hsz
open Go.RowKit Go.Sort in
/-- .. and plain. (LAID: no walk: one application.) -/
theorem Try.slices_Sort_int_none (p : Option Addr) (cap : Nat) (w : World) :
    Calls Try.prog 16 #[.slice p 0 cap] w fun e w' => e = .returned (.tuple #[]) ∧ w' = w := Any.slices_Sort_int_none Try.lays189 p cap w
end Go.Proofs
namespace Go.Proofs.Ytjjijklonnhdeaa
open Go.Ax
theorem sorts16 : Sorts Try.prog 16 := ⟨⟨_, _, Try.func16, rfl, rfl⟩, fun blk off cap zs w hH hb hl => Try.slices_Sort_int blk off cap zs w hH hb hl, Try.slices_Sort_int_none⟩
end Go.Proofs.Ytjjijklonnhdeaa

/- The rim of some blocks, again and again, by the program: by contracts. -/
namespace Go.Proofs.Ytjjijklonnhdeaa
open Go.Ax
set_option maxRecDepth 10000
set_option linter.unusedVariables false

def ones (m : List Int) : List (Int × Int) := m.map fun x => (x, (1 : Int))
theorem ones_app (m : List Int) (y : Int) : ones (m ++ [y]) = ones m ++ [(y, 1)] := by simp [ones]
theorem ones_fst : ∀ (m : List Int), (ones m).map Prod.fst = m
  | [] => rfl
  | x :: m => congrArg (x :: ·) (ones_fst m)
theorem perm_erase {α : Type} : ∀ (l : List α) (j : Nat) (x : α), l[j]? = some x → l.Perm (x :: l.eraseIdx j)
  | [], j, x, h => by simp at h
  | a :: l, 0, x, h => by
    simp only [List.getElem?_cons_zero, Option.some.injEq] at h
    subst h; exact List.Perm.refl _
  | a :: l, j + 1, x, h => by
    simp only [List.getElem?_cons_succ] at h
    exact ((perm_erase l j x h).cons a).trans (List.Perm.swap ..)
theorem perm_next {left : List (Int × Int)} {out m : List Int} {j : Nat} {q : Int × Int} (h : (left.map Prod.fst ++ out).Perm m) (hj : left[j]? = some q) : ((left.eraseIdx j).map Prod.fst ++ (out ++ [q.1])).Perm m := by
  have h1 := (perm_erase left j q hj).map Prod.fst
  rw [List.map_cons] at h1
  refine List.Perm.trans ?_ h
  refine List.Perm.trans ?_ (h1.append_right out).symm
  rw [← List.append_assoc]
  refine List.perm_append_comm.trans ?_
  exact List.Perm.refl _
set_option maxHeartbeats 4000000 in
theorem All7_spec (rims : List (List Int)) (l : List Int) (hn : rims.length ≤ 1000000) (hl : l.length ≤ 1000000) (hr : ∀ r ∈ rims, r.length ≤ 1000000) : FnSpec Try.prog 7 [lsts rims, ints l] (fun r => r = .osl 1 ((allF rims l).map int1)) := by
  have hC := Clone_spec l hl
  refine spec_of 1000 Try.func7 rfl rfl ?_
  repeat' first | refine Len.map ?_ | refine Len.nil ?_ | refine Len.cons ?_ | refine Br.t rfl ?_ | refine Br.f rfl ?_ | refine Fit.au ?_ | refine Cv.au ?_ | refine Need.ne ?_ | refine Need.au ?_ | refine Pick.map (by assumption) ?_ | refine Pick.mapI (by omega) (by assumption) ?_ | refine PickN.mk _ (by assumption) ?_ | refine PickN.mk _ rfl ?_ | refine PickN.au ?_ | refine App.au rfl ?_ | refine App.au (own_map (fun _ => rfl) _) ?_ | refine Both.mk ?_ ?_ | exact True.intro
  refine Stop.mk (run_op rfl want_none rfl (ok_makeMapO rfl) ?_)
  refine go 1000 Try.func7 ?_
  repeat' first | refine Call.eq hC rfl ?_ | refine Len.map ?_ | refine Len.nil ?_ | refine Len.cons ?_ | refine Br.t rfl ?_ | refine Br.f rfl ?_ | refine Fit.au ?_ | refine Cv.au ?_ | refine Need.ne ?_ | refine Need.au ?_ | refine Pick.map (by assumption) ?_ | refine Pick.mapI (by omega) (by assumption) ?_ | refine PickN.mk _ (by assumption) ?_ | refine PickN.mk _ rfl ?_ | refine PickN.au ?_ | refine App.au rfl ?_ | refine App.au (own_map (fun _ => rfl) _) ?_ | refine Both.mk ?_ ?_ | exact True.intro
  refine Stop.mk (loop_in (g := []) (fun p : List Int × List Int => [(0, lsts rims), (1, ints l), (5, .hm 0), (6, .hw 1)]) (fun p => [(0, .mpr (ones p.1)), (1, .row 1 (p.2.map int1))]) 2 (fun p => AllI rims l p.1 p.2 (-1) [] ∧ p.2.length + 2 * (rims.length - p.1.length) ≤ l.length + 2 * rims.length) (fun p => p.2.length + 2 * (rims.length - p.1.length)) ([], l) ⟨.start, by simp⟩ ⟨rfl, (by repeat' first | exact trivial | refine ⟨rfl, ?_⟩ | refine ⟨congrArg (fun n => AV.lit (.int .i64 n)) (by omega), ?_⟩ | refine ⟨congrArg (fun l => some (Row.row 1 l)) (by simp [int1, num, tru]), ?_⟩), (by repeat' first | exact trivial | refine ⟨rfl, ?_⟩ | refine ⟨congrArg (fun n => AV.lit (.int .i64 n)) (by omega), ?_⟩ | refine ⟨congrArg (fun l => some (Row.row 1 l)) (by simp [int1, num, tru]), ?_⟩)⟩ (fun p hp ih => ?_))
  obtain ⟨m, w⟩ := p
  obtain ⟨hA, hsz⟩ := hp
  dsimp only at hA hsz ih ⊢
  have hml := hA.len
  refine go 1000 Try.func7 ?_
  repeat' first | refine Len.map ?_ | refine Len.nil ?_ | refine Len.cons ?_ | refine Br.t rfl ?_ | refine Br.f rfl ?_ | refine Fit.au ?_ | refine Cv.au ?_ | refine Need.ne ?_ | refine Need.au ?_ | refine Pick.map (by assumption) ?_ | refine Pick.mapI (by omega) (by assumption) ?_ | refine PickN.mk _ (by assumption) ?_ | refine PickN.mk _ rfl ?_ | refine PickN.au ?_ | refine App.au rfl ?_ | refine App.au (own_map (fun _ => rfl) _) ?_ | refine Both.mk ?_ ?_ | exact True.intro
  refine Br.d (fun h2 => ?_) (fun h2 => ?_)
  rotate_left
  · obtain rfl : w = [] := List.eq_nil_of_length_eq_zero (by omega)
    repeat' first | refine Len.map ?_ | refine Len.nil ?_ | refine Len.cons ?_ | refine Br.t rfl ?_ | refine Br.f rfl ?_ | refine Fit.au ?_ | refine Cv.au ?_ | refine Need.ne ?_ | refine Need.au ?_ | refine Pick.map (by assumption) ?_ | refine Pick.mapI (by omega) (by assumption) ?_ | refine PickN.mk _ (by assumption) ?_ | refine PickN.mk _ rfl ?_ | refine PickN.au ?_ | refine App.au rfl ?_ | refine App.au (own_map (fun _ => rfl) _) ?_ | refine Both.mk ?_ ?_ | exact True.intro
    refine Stop.mk (run_nilT 10 1 rfl ?_)
    refine run_op rfl want_none rfl (ok_rangeO rfl ty42 rfl rfl rfl) ?_
    refine go 1000 Try.func7 ?_
    repeat' first | refine Len.map ?_ | refine Len.nil ?_ | refine Len.cons ?_ | refine Br.t rfl ?_ | refine Br.f rfl ?_ | refine Fit.au ?_ | refine Cv.au ?_ | refine Need.ne ?_ | refine Need.au ?_ | refine Pick.map (by assumption) ?_ | refine Pick.mapI (by omega) (by assumption) ?_ | refine PickN.mk _ (by assumption) ?_ | refine PickN.mk _ rfl ?_ | refine PickN.au ?_ | refine App.au rfl ?_ | refine App.au (own_map (fun _ => rfl) _) ?_ | refine Both.mk ?_ ?_ | exact True.intro
    refine Stop.mk (loop_in (g := [(0, 3), (1, 2)]) (fun p : List (Int × Int) × Option (Int × Int) × List Int => [(10, .hw 1), (68, .hp 0 0)]) (fun p => [(0, .itr p.1 p.2.1), (1, .row 1 (p.2.2.map int1))]) 2 (fun p => (p.1.map Prod.fst ++ p.2.2).Perm m) (fun p => p.1.length) (ones m, none, []) (by simp only [List.append_nil, ones_fst]; exact List.Perm.refl _) ⟨rfl, (by repeat' first | exact trivial | refine ⟨rfl, ?_⟩ | refine ⟨congrArg (fun n => AV.lit (.int .i64 n)) (by omega), ?_⟩ | refine ⟨congrArg (fun l => some (Row.row 1 l)) (by simp [int1, num, tru]), ?_⟩), (by repeat' first | exact trivial | refine ⟨rfl, ?_⟩ | refine ⟨congrArg (fun n => AV.lit (.int .i64 n)) (by omega), ?_⟩ | refine ⟨congrArg (fun l => some (Row.row 1 l)) (by simp [int1, num, tru]), ?_⟩)⟩ (fun p hp ih2 => ?_))
    obtain ⟨left, cur, out⟩ := p
    dsimp only at hp ih2 ⊢
    have hpl := hp.length_eq
    rw [List.length_append] at hpl
    refine go 1000 Try.func7 ?_
    repeat' first | refine Len.map ?_ | refine Len.nil ?_ | refine Len.cons ?_ | refine Br.t rfl ?_ | refine Br.f rfl ?_ | refine Fit.au ?_ | refine Cv.au ?_ | refine Need.ne ?_ | refine Need.au ?_ | refine Pick.map (by assumption) ?_ | refine Pick.mapI (by omega) (by assumption) ?_ | refine PickN.mk _ (by assumption) ?_ | refine PickN.mk _ rfl ?_ | refine PickN.au ?_ | refine App.au rfl ?_ | refine App.au (own_map (fun _ => rfl) _) ?_ | refine Both.mk ?_ ?_ | exact True.intro
    refine Stop.mk (run_nextO rfl rfl rfl rfl (fun h => ?_) (fun j q hj => ?_))
    · subst h
      have hsort := hA.end_ (z := out) hp
      refine go 1000 Try.func7 ?_
      repeat' first | refine Len.map ?_ | refine Len.nil ?_ | refine Len.cons ?_ | refine Br.t rfl ?_ | refine Br.f rfl ?_ | refine Fit.au ?_ | refine Cv.au ?_ | refine Need.ne ?_ | refine Need.au ?_ | refine Pick.map (by assumption) ?_ | refine Pick.mapI (by omega) (by assumption) ?_ | refine PickN.mk _ (by assumption) ?_ | refine PickN.mk _ rfl ?_ | refine PickN.au ?_ | refine App.au rfl ?_ | refine App.au (own_map (fun _ => rfl) _) ?_ | refine Both.mk ?_ ?_ | exact True.intro
      refine Look.stop (Stop.mk ?_)
      refine run_sort (zs := out) 1 rfl want_none rfl rfl rfl (by omega) sorts16 ?_
      rw [hsort]
      refine go 1000 Try.func7 ?_
      repeat' first | refine Len.map ?_ | refine Len.nil ?_ | refine Len.cons ?_ | refine Br.t rfl ?_ | refine Br.f rfl ?_ | refine Fit.au ?_ | refine Cv.au ?_ | refine Need.ne ?_ | refine Need.au ?_ | refine Pick.map (by assumption) ?_ | refine Pick.mapI (by omega) (by assumption) ?_ | refine PickN.mk _ (by assumption) ?_ | refine PickN.mk _ rfl ?_ | refine PickN.au ?_ | refine App.au rfl ?_ | refine App.au (own_map (fun _ => rfl) _) ?_ | refine Both.mk ?_ ?_ | exact True.intro
      rfl
    · have hnx := perm_next hp hj
      have hlt := (List.getElem?_eq_some_iff.1 hj).1
      refine go 1000 Try.func7 ?_
      repeat' first | refine Len.map ?_ | refine Len.nil ?_ | refine Len.cons ?_ | refine Br.t rfl ?_ | refine Br.f rfl ?_ | refine Fit.au ?_ | refine Cv.au ?_ | refine Need.ne ?_ | refine Need.au ?_ | refine Pick.map (by assumption) ?_ | refine Pick.mapI (by omega) (by assumption) ?_ | refine PickN.mk _ (by assumption) ?_ | refine PickN.mk _ rfl ?_ | refine PickN.au ?_ | refine App.au rfl ?_ | refine App.au (own_map (fun _ => rfl) _) ?_ | refine Both.mk ?_ ?_ | exact True.intro
      refine Stop.mk (run_op rfl want_none rfl (ok_entryO rfl rfl rfl) ?_)
      refine go 1000 Try.func7 ?_
      repeat' first | refine Len.map ?_ | refine Len.nil ?_ | refine Len.cons ?_ | refine Br.t rfl ?_ | refine Br.f rfl ?_ | refine Fit.au ?_ | refine Cv.au ?_ | refine Need.ne ?_ | refine Need.au ?_ | refine Pick.map (by assumption) ?_ | refine Pick.mapI (by omega) (by assumption) ?_ | refine PickN.mk _ (by assumption) ?_ | refine PickN.mk _ rfl ?_ | refine PickN.au ?_ | refine App.au rfl ?_ | refine App.au (own_map (fun _ => rfl) _) ?_ | refine Both.mk ?_ ?_ | exact True.intro
      refine Stop.mk (ih2 (left.eraseIdx j, some q, out ++ [q.1]) (g := [(1, 3)]) _ _ _ hnx (by simp only; rw [List.length_eraseIdx_of_lt hlt]; omega) ?_)
      dsimp only
      rw [List.map_append]
      exact ⟨rfl, (by repeat' first | exact trivial | refine ⟨rfl, ?_⟩ | refine ⟨congrArg (fun n => AV.lit (.int .i64 n)) (by omega), ?_⟩ | refine ⟨congrArg (fun l => some (Row.row 1 l)) (by simp [int1, num, tru]), ?_⟩), (by repeat' first | exact trivial | refine ⟨rfl, ?_⟩ | refine ⟨congrArg (fun n => AV.lit (.int .i64 n)) (by omega), ?_⟩ | refine ⟨congrArg (fun l => some (Row.row 1 l)) (by simp [int1, num, tru]), ?_⟩)⟩
  obtain ⟨w, x, rfl⟩ : ∃ (w' : List Int) (x : Int), w = w' ++ [x] := by
    rcases List.eq_nil_or_concat w with h | ⟨w', x, h⟩
    · subst h; simp at h2
    · exact ⟨w', x, by rw [h, List.concat_eq_append]⟩
  have hwl : (w ++ [x]).length = w.length + 1 := by simp
  have gx : (w ++ [x])[(((w ++ [x]).length : Int) - 1).toNat]? = some x := by
    rw [show (((w ++ [x]).length : Int) - 1).toNat = w.length by omega]; simp
  have hA1 := hA.pop
  repeat' first | refine PickN.map gx ?_ | refine Len.map ?_ | refine Len.nil ?_ | refine Len.cons ?_ | refine Br.t rfl ?_ | refine Br.f rfl ?_ | refine Fit.au ?_ | refine Cv.au ?_ | refine Need.ne ?_ | refine Need.au ?_ | refine Pick.map (by assumption) ?_ | refine Pick.mapI (by omega) (by assumption) ?_ | refine PickN.mk _ (by assumption) ?_ | refine PickN.mk _ rfl ?_ | refine PickN.au ?_ | refine App.au rfl ?_ | refine App.au (own_map (fun _ => rfl) _) ?_ | refine Both.mk ?_ ?_ | exact True.intro
  refine Stop.mk (run_op rfl want_none rfl (ok_sub0 (m := ((w ++ [x]).length : Int) - 1) rfl ty23 rfl ty3 rfl rfl rfl (by omega) (by rw [List.length_map]; omega)) ?_)
  rw [show ((w ++ [x]).map int1).take (((w ++ [x]).length : Int) - 1).toNat = w.map int1 by
    rw [show (((w ++ [x]).length : Int) - 1).toNat = (w.map int1).length by rw [List.length_map]; omega, List.map_append, List.take_left]]
  refine go 1000 Try.func7 ?_
  repeat' first | refine Len.map ?_ | refine Len.nil ?_ | refine Len.cons ?_ | refine Br.t rfl ?_ | refine Br.f rfl ?_ | refine Fit.au ?_ | refine Cv.au ?_ | refine Need.ne ?_ | refine Need.au ?_ | refine Pick.map (by assumption) ?_ | refine Pick.mapI (by omega) (by assumption) ?_ | refine PickN.mk _ (by assumption) ?_ | refine PickN.mk _ rfl ?_ | refine PickN.au ?_ | refine App.au rfl ?_ | refine App.au (own_map (fun _ => rfl) _) ?_ | refine Both.mk ?_ ?_ | exact True.intro
  refine Br.d (fun h4 => ?_) (fun h4 => ?_)
  · repeat' first | refine Len.map ?_ | refine Len.nil ?_ | refine Len.cons ?_ | refine Br.t rfl ?_ | refine Br.f rfl ?_ | refine Fit.au ?_ | refine Cv.au ?_ | refine Need.ne ?_ | refine Need.au ?_ | refine Pick.map (by assumption) ?_ | refine Pick.mapI (by omega) (by assumption) ?_ | refine PickN.mk _ (by assumption) ?_ | refine PickN.mk _ rfl ?_ | refine PickN.au ?_ | refine App.au rfl ?_ | refine App.au (own_map (fun _ => rfl) _) ?_ | refine Both.mk ?_ ?_ | exact True.intro
    exact Stop.mk (ih (m, w) (g := [(1, 2)]) _ _ _ ⟨hA1.off (.inl h4), by simp only; omega⟩ (by simp only; omega) ⟨rfl, (by repeat' first | exact trivial | refine ⟨rfl, ?_⟩ | refine ⟨congrArg (fun n => AV.lit (.int .i64 n)) (by omega), ?_⟩ | refine ⟨congrArg (fun l => some (Row.row 1 l)) (by simp [int1, num, tru]), ?_⟩), (by repeat' first | exact trivial | refine ⟨rfl, ?_⟩ | refine ⟨congrArg (fun n => AV.lit (.int .i64 n)) (by omega), ?_⟩ | refine ⟨congrArg (fun l => some (Row.row 1 l)) (by simp [int1, num, tru]), ?_⟩)⟩)
  repeat' first | refine Len.map ?_ | refine Len.nil ?_ | refine Len.cons ?_ | refine Br.t rfl ?_ | refine Br.f rfl ?_ | refine Fit.au ?_ | refine Cv.au ?_ | refine Need.ne ?_ | refine Need.au ?_ | refine Pick.map (by assumption) ?_ | refine Pick.mapI (by omega) (by assumption) ?_ | refine PickN.mk _ (by assumption) ?_ | refine PickN.mk _ rfl ?_ | refine PickN.au ?_ | refine App.au rfl ?_ | refine App.au (own_map (fun _ => rfl) _) ?_ | refine Both.mk ?_ ?_ | exact True.intro
  refine Br.d (fun h5 => ?_) (fun h5 => ?_)
  · repeat' first | refine Len.map ?_ | refine Len.nil ?_ | refine Len.cons ?_ | refine Br.t rfl ?_ | refine Br.f rfl ?_ | refine Fit.au ?_ | refine Cv.au ?_ | refine Need.ne ?_ | refine Need.au ?_ | refine Pick.map (by assumption) ?_ | refine Pick.mapI (by omega) (by assumption) ?_ | refine PickN.mk _ (by assumption) ?_ | refine PickN.mk _ rfl ?_ | refine PickN.au ?_ | refine App.au rfl ?_ | refine App.au (own_map (fun _ => rfl) _) ?_ | refine Both.mk ?_ ?_ | exact True.intro
    exact Stop.mk (ih (m, w) (g := [(1, 2)]) _ _ _ ⟨hA1.off (.inr (by omega)), by simp only; omega⟩ (by simp only; omega) ⟨rfl, (by repeat' first | exact trivial | refine ⟨rfl, ?_⟩ | refine ⟨congrArg (fun n => AV.lit (.int .i64 n)) (by omega), ?_⟩ | refine ⟨congrArg (fun l => some (Row.row 1 l)) (by simp [int1, num, tru]), ?_⟩), (by repeat' first | exact trivial | refine ⟨rfl, ?_⟩ | refine ⟨congrArg (fun n => AV.lit (.int .i64 n)) (by omega), ?_⟩ | refine ⟨congrArg (fun l => some (Row.row 1 l)) (by simp [int1, num, tru]), ?_⟩)⟩)
  obtain ⟨x, rfl⟩ : ∃ n : Nat, x = n := ⟨x.toNat, by omega⟩
  obtain ⟨r, gr, grm⟩ := getK (l := rims) (k := x) (by omega)
  have hrl := hr r grm
  have hxs := hA.src x (by simp)
  repeat' first | refine Pick.map gr ?_ | refine Len.map ?_ | refine Len.nil ?_ | refine Len.cons ?_ | refine Br.t rfl ?_ | refine Br.f rfl ?_ | refine Fit.au ?_ | refine Cv.au ?_ | refine Need.ne ?_ | refine Need.au ?_ | refine Pick.map (by assumption) ?_ | refine Pick.mapI (by omega) (by assumption) ?_ | refine PickN.mk _ (by assumption) ?_ | refine PickN.mk _ rfl ?_ | refine PickN.au ?_ | refine App.au rfl ?_ | refine App.au (own_map (fun _ => rfl) _) ?_ | refine Both.mk ?_ ?_ | exact True.intro
  refine Stop.mk (loop_in (g := [(1, 2)]) (fun p : Nat × List Int × List Int => [(0, lsts rims), (1, ints l), (5, .hm 0), (6, .hw 1), (40, ints r), (41, num r.length), (42, num p.1)]) (fun p => [(0, .mpr (ones p.2.1)), (1, .row 1 (p.2.2.map int1))]) 2 (fun p => p.1 ≤ r.length ∧ AllI rims l p.2.1 p.2.2 x (r.take p.1) ∧ ((x : Int) ∈ l ∨ (x : Int) ∈ p.2.1) ∧ p.2.2.length + 2 * (rims.length - p.2.1.length) ≤ w.length + 2 * (rims.length - m.length)) (fun p => r.length - p.1) (0, m, w) ⟨by simp only; omega, hA1, hxs, Nat.le_refl _⟩ ⟨rfl, (by repeat' first | exact trivial | refine ⟨rfl, ?_⟩ | refine ⟨congrArg (fun n => AV.lit (.int .i64 n)) (by omega), ?_⟩ | refine ⟨congrArg (fun l => some (Row.row 1 l)) (by simp [int1, num, tru]), ?_⟩), (by repeat' first | exact trivial | refine ⟨rfl, ?_⟩ | refine ⟨congrArg (fun n => AV.lit (.int .i64 n)) (by omega), ?_⟩ | refine ⟨congrArg (fun l => some (Row.row 1 l)) (by simp [int1, num, tru]), ?_⟩)⟩ (fun p hp ih2 => ?_))
  obtain ⟨j, m2, w2⟩ := p
  obtain ⟨hj, hB, hx2, hsz2⟩ := hp
  dsimp only at hj hB hx2 hsz2 ih2 ⊢
  have hml2 := hB.len
  refine go 1000 Try.func7 ?_
  repeat' first | refine Len.map ?_ | refine Len.nil ?_ | refine Len.cons ?_ | refine Br.t rfl ?_ | refine Br.f rfl ?_ | refine Fit.au ?_ | refine Cv.au ?_ | refine Need.ne ?_ | refine Need.au ?_ | refine Pick.map (by assumption) ?_ | refine Pick.mapI (by omega) (by assumption) ?_ | refine PickN.mk _ (by assumption) ?_ | refine PickN.mk _ rfl ?_ | refine PickN.au ?_ | refine App.au rfl ?_ | refine App.au (own_map (fun _ => rfl) _) ?_ | refine Both.mk ?_ ?_ | exact True.intro
  refine Br.d (fun h6 => ?_) (fun h6 => ?_)
  rotate_left
  · rw [take_all (l := r) (by omega)] at hB
    repeat' first | refine Len.map ?_ | refine Len.nil ?_ | refine Len.cons ?_ | refine Br.t rfl ?_ | refine Br.f rfl ?_ | refine Fit.au ?_ | refine Cv.au ?_ | refine Need.ne ?_ | refine Need.au ?_ | refine Pick.map (by assumption) ?_ | refine Pick.mapI (by omega) (by assumption) ?_ | refine PickN.mk _ (by assumption) ?_ | refine PickN.mk _ rfl ?_ | refine PickN.au ?_ | refine App.au rfl ?_ | refine App.au (own_map (fun _ => rfl) _) ?_ | refine Both.mk ?_ ?_ | exact True.intro
    exact Stop.mk (ih (m2, w2) (g := []) _ _ _ ⟨hB.done gr, by simp only; omega⟩ (by simp only; omega) ⟨rfl, (by repeat' first | exact trivial | refine ⟨rfl, ?_⟩ | refine ⟨congrArg (fun n => AV.lit (.int .i64 n)) (by omega), ?_⟩ | refine ⟨congrArg (fun l => some (Row.row 1 l)) (by simp [int1, num, tru]), ?_⟩), (by repeat' first | exact trivial | refine ⟨rfl, ?_⟩ | refine ⟨congrArg (fun n => AV.lit (.int .i64 n)) (by omega), ?_⟩ | refine ⟨congrArg (fun l => some (Row.row 1 l)) (by simp [int1, num, tru]), ?_⟩)⟩)
  obtain ⟨y, gy, gym⟩ := getK (l := r) (k := j) (by omega)
  have htj := take_succ gy
  have skip : y ∈ m2 ∨ y < 0 ∨ (rims.length : Int) ≤ y → AllI rims l m2 w2 x (r.take (j + 1)) := fun h => by rw [htj]; exact hB.skip h
  have hmg := mget_ones m2 y
  repeat' first | refine Pick.map gy ?_ | refine Len.map ?_ | refine Len.nil ?_ | refine Len.cons ?_ | refine Br.t rfl ?_ | refine Br.f rfl ?_ | refine Fit.au ?_ | refine Cv.au ?_ | refine Need.ne ?_ | refine Need.au ?_ | refine Pick.map (by assumption) ?_ | refine Pick.mapI (by omega) (by assumption) ?_ | refine PickN.mk _ (by assumption) ?_ | refine PickN.mk _ rfl ?_ | refine PickN.au ?_ | refine App.au rfl ?_ | refine App.au (own_map (fun _ => rfl) _) ?_ | refine Both.mk ?_ ?_ | exact True.intro
  refine Stop.mk (run_op rfl want_none rfl (Reads.ok (rd_lookupO rfl ty42 rfl ty3 rfl (by kernel_rfl) rfl rfl rfl)) ?_)
  by_cases hym : y ∈ m2
  · rw [if_pos hym] at hmg
    rw [show mget (ones m2) y = some 1 from hmg]
    refine go 1000 Try.func7 ?_
    repeat' first | refine Len.map ?_ | refine Len.nil ?_ | refine Len.cons ?_ | refine Br.t rfl ?_ | refine Br.f rfl ?_ | refine Fit.au ?_ | refine Cv.au ?_ | refine Need.ne ?_ | refine Need.au ?_ | refine Pick.map (by assumption) ?_ | refine Pick.mapI (by omega) (by assumption) ?_ | refine PickN.mk _ (by assumption) ?_ | refine PickN.mk _ rfl ?_ | refine PickN.au ?_ | refine App.au rfl ?_ | refine App.au (own_map (fun _ => rfl) _) ?_ | refine Both.mk ?_ ?_ | exact True.intro
    exact Stop.mk (ih2 (j + 1, m2, w2) (g := []) _ _ _ ⟨by simp only; omega, skip (.inl hym), hx2, hsz2⟩ (by simp only; omega) ⟨rfl, (by repeat' first | exact trivial | refine ⟨rfl, ?_⟩ | refine ⟨congrArg (fun n => AV.lit (.int .i64 n)) (by omega), ?_⟩ | refine ⟨congrArg (fun l => some (Row.row 1 l)) (by simp [int1, num, tru]), ?_⟩), (by repeat' first | exact trivial | refine ⟨rfl, ?_⟩ | refine ⟨congrArg (fun n => AV.lit (.int .i64 n)) (by omega), ?_⟩ | refine ⟨congrArg (fun l => some (Row.row 1 l)) (by simp [int1, num, tru]), ?_⟩)⟩)
  rw [if_neg hym] at hmg
  rw [show mget (ones m2) y = none from hmg]
  refine go 1000 Try.func7 ?_
  repeat' first | refine Len.map ?_ | refine Len.nil ?_ | refine Len.cons ?_ | refine Br.t rfl ?_ | refine Br.f rfl ?_ | refine Fit.au ?_ | refine Cv.au ?_ | refine Need.ne ?_ | refine Need.au ?_ | refine Pick.map (by assumption) ?_ | refine Pick.mapI (by omega) (by assumption) ?_ | refine PickN.mk _ (by assumption) ?_ | refine PickN.mk _ rfl ?_ | refine PickN.au ?_ | refine App.au rfl ?_ | refine App.au (own_map (fun _ => rfl) _) ?_ | refine Both.mk ?_ ?_ | exact True.intro
  refine Br.d (fun h7 => ?_) (fun h7 => ?_)
  rotate_left
  · repeat' first | refine Len.map ?_ | refine Len.nil ?_ | refine Len.cons ?_ | refine Br.t rfl ?_ | refine Br.f rfl ?_ | refine Fit.au ?_ | refine Cv.au ?_ | refine Need.ne ?_ | refine Need.au ?_ | refine Pick.map (by assumption) ?_ | refine Pick.mapI (by omega) (by assumption) ?_ | refine PickN.mk _ (by assumption) ?_ | refine PickN.mk _ rfl ?_ | refine PickN.au ?_ | refine App.au rfl ?_ | refine App.au (own_map (fun _ => rfl) _) ?_ | refine Both.mk ?_ ?_ | exact True.intro
    exact Stop.mk (ih2 (j + 1, m2, w2) (g := []) _ _ _ ⟨by simp only; omega, skip (.inr (.inl (by omega))), hx2, hsz2⟩ (by simp only; omega) ⟨rfl, (by repeat' first | exact trivial | refine ⟨rfl, ?_⟩ | refine ⟨congrArg (fun n => AV.lit (.int .i64 n)) (by omega), ?_⟩ | refine ⟨congrArg (fun l => some (Row.row 1 l)) (by simp [int1, num, tru]), ?_⟩), (by repeat' first | exact trivial | refine ⟨rfl, ?_⟩ | refine ⟨congrArg (fun n => AV.lit (.int .i64 n)) (by omega), ?_⟩ | refine ⟨congrArg (fun l => some (Row.row 1 l)) (by simp [int1, num, tru]), ?_⟩)⟩)
  repeat' first | refine Len.map ?_ | refine Len.nil ?_ | refine Len.cons ?_ | refine Br.t rfl ?_ | refine Br.f rfl ?_ | refine Fit.au ?_ | refine Cv.au ?_ | refine Need.ne ?_ | refine Need.au ?_ | refine Pick.map (by assumption) ?_ | refine Pick.mapI (by omega) (by assumption) ?_ | refine PickN.mk _ (by assumption) ?_ | refine PickN.mk _ rfl ?_ | refine PickN.au ?_ | refine App.au rfl ?_ | refine App.au (own_map (fun _ => rfl) _) ?_ | refine Both.mk ?_ ?_ | exact True.intro
  refine Br.d (fun h8 => ?_) (fun h8 => ?_)
  rotate_left
  · repeat' first | refine Len.map ?_ | refine Len.nil ?_ | refine Len.cons ?_ | refine Br.t rfl ?_ | refine Br.f rfl ?_ | refine Fit.au ?_ | refine Cv.au ?_ | refine Need.ne ?_ | refine Need.au ?_ | refine Pick.map (by assumption) ?_ | refine Pick.mapI (by omega) (by assumption) ?_ | refine PickN.mk _ (by assumption) ?_ | refine PickN.mk _ rfl ?_ | refine PickN.au ?_ | refine App.au rfl ?_ | refine App.au (own_map (fun _ => rfl) _) ?_ | refine Both.mk ?_ ?_ | exact True.intro
    exact Stop.mk (ih2 (j + 1, m2, w2) (g := []) _ _ _ ⟨by simp only; omega, skip (.inr (.inr (by omega))), hx2, hsz2⟩ (by simp only; omega) ⟨rfl, (by repeat' first | exact trivial | refine ⟨rfl, ?_⟩ | refine ⟨congrArg (fun n => AV.lit (.int .i64 n)) (by omega), ?_⟩ | refine ⟨congrArg (fun l => some (Row.row 1 l)) (by simp [int1, num, tru]), ?_⟩), (by repeat' first | exact trivial | refine ⟨rfl, ?_⟩ | refine ⟨congrArg (fun n => AV.lit (.int .i64 n)) (by omega), ?_⟩ | refine ⟨congrArg (fun l => some (Row.row 1 l)) (by simp [int1, num, tru]), ?_⟩)⟩)
  obtain ⟨y, rfl⟩ : ∃ n : Nat, y = n := ⟨y.toNat, by omega⟩
  have hadd := hB.add hx2 gr gym (by omega) hym
  rw [← htj] at hadd
  have hml3 := hadd.len
  rw [List.length_append, List.length_singleton] at hml3
  repeat' first | refine Len.map ?_ | refine Len.nil ?_ | refine Len.cons ?_ | refine Br.t rfl ?_ | refine Br.f rfl ?_ | refine Fit.au ?_ | refine Cv.au ?_ | refine Need.ne ?_ | refine Need.au ?_ | refine Pick.map (by assumption) ?_ | refine Pick.mapI (by omega) (by assumption) ?_ | refine PickN.mk _ (by assumption) ?_ | refine PickN.mk _ rfl ?_ | refine PickN.au ?_ | refine App.au rfl ?_ | refine App.au (own_map (fun _ => rfl) _) ?_ | refine Both.mk ?_ ?_ | exact True.intro
  refine Stop.mk (run_do rfl want_none (do_updO rfl ty42 rfl ty3 rfl rfl rfl rfl rfl hmg) ?_)
  refine go 1000 Try.func7 ?_
  repeat' first | refine Len.map ?_ | refine Len.nil ?_ | refine Len.cons ?_ | refine Br.t rfl ?_ | refine Br.f rfl ?_ | refine Fit.au ?_ | refine Cv.au ?_ | refine Need.ne ?_ | refine Need.au ?_ | refine Pick.map (by assumption) ?_ | refine Pick.mapI (by omega) (by assumption) ?_ | refine PickN.mk _ (by assumption) ?_ | refine PickN.mk _ rfl ?_ | refine PickN.au ?_ | refine App.au rfl ?_ | refine App.au (own_map (fun _ => rfl) _) ?_ | refine Both.mk ?_ ?_ | exact True.intro
  refine Stop.mk (ih2 (j + 1, m2 ++ [(y : Int)], w2 ++ [(y : Int)]) (g := [(1, 3)]) _ _ _ ⟨by simp only; omega, hadd, hx2.imp id fun h => List.mem_append_left _ h, ?_⟩ (by simp only; omega) ?_)
  · dsimp only
    rw [List.length_append, List.length_append, List.length_singleton]
    omega
  · dsimp only
    rw [List.map_append, ones_app]
    exact ⟨rfl, (by repeat' first | exact trivial | refine ⟨rfl, ?_⟩ | refine ⟨congrArg (fun n => AV.lit (.int .i64 n)) (by omega), ?_⟩ | refine ⟨congrArg (fun l => some (Row.row 1 l)) (by simp [int1, num, tru]), ?_⟩), (by repeat' first | exact trivial | refine ⟨rfl, ?_⟩ | refine ⟨congrArg (fun n => AV.lit (.int .i64 n)) (by omega), ?_⟩ | refine ⟨congrArg (fun l => some (Row.row 1 l)) (by simp [int1, num, tru]), ?_⟩)⟩
end Go.Proofs.Ytjjijklonnhdeaa
