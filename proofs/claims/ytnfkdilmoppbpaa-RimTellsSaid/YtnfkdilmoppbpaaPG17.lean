/- Going through blocks, each once, by a contract. -/
import Derived.Test.YtnfkdilmoppbpaaPG08
import Derived.Test.YtnfkdilmoppbpaaPG03
import Derived.Test.YtnfkdilmoppbpaaPTy2
import Derived.Test.YtnfkdilmoppbpaaPG05
set_option linter.unusedVariables false
set_option linter.unusedSimpArgs false

namespace Go.Proofs.Ytnfkdilmoppbpaa
open Go.Ax
set_option maxRecDepth 10000
set_option linter.unusedVariables false

def dH (s : List (List Int)) (x : Int) (l : List Bool) : HP := [(0, .var [.sl false 1 (s.map lst)]), (1, .var [num x]), (2, .var [.fn 121 []]), (6, .row 1 (l.map tb)), (4, .var [.hw 6]), (5, .var [.fn 138 [.hp 1 0, .hp 4 0, .hp 0 0, .hp 5 0, .hp 2 0]])]
def dT (k : Int) : TM := [(0, num k), (1, .hp 1 0), (2, .hp 4 0), (3, .hp 0 0), (4, .hp 5 0), (5, .hp 2 0)]

theorem into_run (s : List (List Int)) (x : Int) (hs : Closed s) (hsm : ∀ l ∈ s, l.length ≤ 2) (hn : s.length ≤ 1000000) : ∀ (n k : Nat) (l : List Bool), l.length = s.length → k < s.length → ((k : Int) ≠ x → Reaches s x k) → falses l ≤ n →
    ∀ {K : AV → HP → Nat → Prop}, (∀ l', Into s x l k l' → K (asRes []) (dH s x l') 7) → Run Try.prog 138 (Post.inl 7 K) [.code Try.f138.body.get!] ⟨dT k, dH s x l, 7, 37⟩ := by
  intro n
  induction n using Nat.strongRecOn with
  | _ n ihn =>
    intro k l hl hk hr hf K hK
    obtain ⟨b, gl, -⟩ := getK (l := l) (k := k) (by omega)
    obtain ⟨r, gr, hrm⟩ := getK (l := s) (k := k) (by omega)
    have hr2 := hsm r hrm
    refine goI 1000 Try.func138 ?_
    repeat' first | refine Pick.map gl ?_ | refine Len.map ?_ | refine Len.nil ?_ | refine Len.cons ?_ | refine Br.t rfl ?_ | refine Br.f rfl ?_ | refine Fit.au ?_ | refine Need.au ?_ | refine Pick.map (by assumption) ?_ | refine Pick.mapI (by omega) (by assumption) ?_ | refine PickN.mk _ (by assumption) ?_ | refine PickN.mk _ rfl ?_ | refine PickN.au ?_ | refine App.au rfl ?_ | refine App.au (own_map (fun _ => rfl) _) ?_ | refine Both.mk ?_ ?_ | exact True.intro | refine Br.d (fun h => ?_) (fun h => ?_) | refine Br.nd (fun h => ?_) (fun h => ?_) | refine Br.mk (fun h => ?_) (fun h => ?_)
    · exact hK l (.stays fun hne => absurd ‹(k : Int) = x› hne)
    · have hb : b = true := by assumption
      subst hb
      exact hK l (.stays fun _ => by simpa using gl)
    · have hkx : (k : Int) ≠ x := by assumption
      have hb : b = false := by simp_all
      subst hb
      have hm := falses_set gl
      have hrk := hr hkx
      repeat' first | refine PickN.map gl ?_ | refine Pick.map gr ?_ | refine Len.map ?_ | refine Len.nil ?_ | refine Len.cons ?_ | refine Br.t rfl ?_ | refine Br.f rfl ?_ | refine Fit.au ?_ | refine Need.au ?_ | refine Pick.map (by assumption) ?_ | refine Pick.mapI (by omega) (by assumption) ?_ | refine PickN.mk _ (by assumption) ?_ | refine PickN.mk _ rfl ?_ | refine PickN.au ?_ | refine App.au rfl ?_ | refine App.au (own_map (fun _ => rfl) _) ?_ | refine Both.mk ?_ ?_ | exact True.intro
      have el : (l.map tb).set k [AV.lit (Value.bool true)] = (l.set k true).map tb := by rw [List.map_set]; rfl
      refine Stop.mk (loop_in (g := []) (fun p : Nat × List Bool => [(24, ints r), (25, num r.length), (26, num p.1), (0, num k), (1, .hp 1 0), (2, .hp 4 0), (3, .hp 0 0), (4, .hp 5 0), (5, .hp 2 0)]) (fun p => dH s x p.2) 7 (fun p => p.1 ≤ r.length ∧ Mid s x l k p.1 p.2) (fun p => r.length - p.1) (0, l.set k true) ⟨by omega, .start hrk⟩ ?_ (fun p hp ih => ?_))
      · dsimp only [dH]
        rw [← el]
        exact ⟨rfl, (by repeat' first | exact trivial | refine ⟨rfl, ?_⟩ | refine ⟨congrArg (fun n => AV.lit (.int .i64 n)) (by omega), ?_⟩ | refine ⟨congrArg (fun l => some (Row.row 1 l)) (by simp [int1, num, tru]), ?_⟩), (by repeat' first | exact trivial | refine ⟨rfl, ?_⟩ | refine ⟨congrArg (fun n => AV.lit (.int .i64 n)) (by omega), ?_⟩ | refine ⟨congrArg (fun l => some (Row.row 1 l)) (by simp [int1, num, tru]), ?_⟩)⟩
      obtain ⟨j, l1⟩ := p
      obtain ⟨hj, hmid⟩ := hp
      dsimp only at hj hmid ih ⊢
      have hl1 : l1.length = s.length := by rw [hmid.grows.1, List.length_set, hl]
      have hm1 := hmid.grows.falses
      refine goI 1000 Try.func138 ?_
      repeat' first | refine Len.map ?_ | refine Len.nil ?_ | refine Len.cons ?_ | refine Br.t rfl ?_ | refine Br.f rfl ?_ | refine Fit.au ?_ | refine Need.au ?_ | refine Pick.map (by assumption) ?_ | refine Pick.mapI (by omega) (by assumption) ?_ | refine PickN.mk _ (by assumption) ?_ | refine PickN.mk _ rfl ?_ | refine PickN.au ?_ | refine App.au rfl ?_ | refine App.au (own_map (fun _ => rfl) _) ?_ | refine Both.mk ?_ ?_ | exact True.intro
      refine Br.d (fun h2 => ?_) (fun h2 => ?_)
      · obtain ⟨t, gt, gtm⟩ := getK (l := r) (k := j) (by omega)
        have htp := hs r hrm t gtm
        obtain ⟨u, rfl⟩ : ∃ u : Nat, t = (u : Int) := ⟨t.toNat, by omega⟩
        repeat' first | refine Pick.map gt ?_ | refine Len.map ?_ | refine Len.nil ?_ | refine Len.cons ?_ | refine Br.t rfl ?_ | refine Br.f rfl ?_ | refine Fit.au ?_ | refine Need.au ?_ | refine Pick.map (by assumption) ?_ | refine Pick.mapI (by omega) (by assumption) ?_ | refine PickN.mk _ (by assumption) ?_ | refine PickN.mk _ rfl ?_ | refine PickN.au ?_ | refine App.au rfl ?_ | refine App.au (own_map (fun _ => rfl) _) ?_ | refine Both.mk ?_ ?_ | exact True.intro
        refine Dyn.mk _ _ rfl rfl rfl (Run.fr (tm' := dT u) (hp' := dH s x l1) (nx' := 7) (ihn (falses l1) (by omega) u l1 hl1 (by omega) (fun hne => .step hrk gr gtm hne) (Nat.le_refl _) fun l2 hi => ?_) (g := []) ⟨rfl, (by repeat' first | exact trivial | refine ⟨rfl, ?_⟩ | refine ⟨congrArg (fun n => AV.lit (.int .i64 n)) (by omega), ?_⟩ | refine ⟨congrArg (fun l => some (Row.row 1 l)) (by simp [int1, num, tru]), ?_⟩), (by repeat' first | exact trivial | refine ⟨rfl, ?_⟩ | refine ⟨congrArg (fun n => AV.lit (.int .i64 n)) (by omega), ?_⟩ | refine ⟨congrArg (fun l => some (Row.row 1 l)) (by simp [int1, num, tru]), ?_⟩)⟩)
        repeat' first | refine Len.map ?_ | refine Len.nil ?_ | refine Len.cons ?_ | refine Br.t rfl ?_ | refine Br.f rfl ?_ | refine Fit.au ?_ | refine Need.au ?_ | refine Pick.map (by assumption) ?_ | refine Pick.mapI (by omega) (by assumption) ?_ | refine PickN.mk _ (by assumption) ?_ | refine PickN.mk _ rfl ?_ | refine PickN.au ?_ | refine App.au rfl ?_ | refine App.au (own_map (fun _ => rfl) _) ?_ | refine Both.mk ?_ ?_ | exact True.intro
        refine Stop.mk (ih (j + 1, l2) (g := []) _ _ _ ⟨by simp only; omega, hmid.next gr gt hi⟩ (by simp only; omega) ?_)
        dsimp only [dH]
        exact ⟨rfl, (by repeat' first | exact trivial | refine ⟨rfl, ?_⟩ | refine ⟨congrArg (fun n => AV.lit (.int .i64 n)) (by omega), ?_⟩ | refine ⟨congrArg (fun l => some (Row.row 1 l)) (by simp [int1, num, tru]), ?_⟩), (by repeat' first | exact trivial | refine ⟨rfl, ?_⟩ | refine ⟨congrArg (fun n => AV.lit (.int .i64 n)) (by omega), ?_⟩ | refine ⟨congrArg (fun l => some (Row.row 1 l)) (by simp [int1, num, tru]), ?_⟩)⟩
      · repeat' first | refine Len.map ?_ | refine Len.nil ?_ | refine Len.cons ?_ | refine Br.t rfl ?_ | refine Br.f rfl ?_ | refine Fit.au ?_ | refine Need.au ?_ | refine Pick.map (by assumption) ?_ | refine Pick.mapI (by omega) (by assumption) ?_ | refine PickN.mk _ (by assumption) ?_ | refine PickN.mk _ rfl ?_ | refine PickN.au ?_ | refine App.au rfl ?_ | refine App.au (own_map (fun _ => rfl) _) ?_ | refine Both.mk ?_ ?_ | exact True.intro
        refine Dyn.mk _ _ rfl rfl rfl (Run.fr (tm' := [(0, num k)]) (hp' := dH s x l1) (nx' := 7) (goI 1000 Try.func121 ?_) (g := []) ⟨rfl, (by repeat' first | exact trivial | refine ⟨rfl, ?_⟩ | refine ⟨congrArg (fun n => AV.lit (.int .i64 n)) (by omega), ?_⟩ | refine ⟨congrArg (fun l => some (Row.row 1 l)) (by simp [int1, num, tru]), ?_⟩), (by repeat' first | exact trivial | refine ⟨rfl, ?_⟩ | refine ⟨congrArg (fun n => AV.lit (.int .i64 n)) (by omega), ?_⟩ | refine ⟨congrArg (fun l => some (Row.row 1 l)) (by simp [int1, num, tru]), ?_⟩)⟩)
        repeat' first | refine Len.map ?_ | refine Len.nil ?_ | refine Len.cons ?_ | refine Br.t rfl ?_ | refine Br.f rfl ?_ | refine Fit.au ?_ | refine Need.au ?_ | refine Pick.map (by assumption) ?_ | refine Pick.mapI (by omega) (by assumption) ?_ | refine PickN.mk _ (by assumption) ?_ | refine PickN.mk _ rfl ?_ | refine PickN.au ?_ | refine App.au rfl ?_ | refine App.au (own_map (fun _ => rfl) _) ?_ | refine Both.mk ?_ ?_ | exact True.intro
        exact hK l1 (hmid.end gr (by omega) (by omega))

theorem through_run (s : List (List Int)) (x : Int) (hs : Closed s) (hsm : ∀ l ∈ s, l.length ≤ 2) (hn : s.length ≤ 1000000) {K : AV → HP → Nat → Prop} (hK : ∀ l, Marks s x l → K (.hw 6) (dH s x l) 7) :
    Run Try.prog 118 (Post.inl 0 K) [.code Try.f118.body.get!] ⟨[(0, .sl false 1 (s.map lst)), (1, num x), (2, .fn 121 [])], [], 0, 19⟩ := by
  refine goI 24 Try.func118 ?_
  repeat' first | refine MkS.mk s.length rfl rfl (by omega) (by omega) ?_ | refine Len.map ?_ | refine Len.nil ?_ | refine Len.cons ?_ | refine Br.t rfl ?_ | refine Br.f rfl ?_ | refine Fit.au ?_ | refine Need.au ?_ | refine Pick.map (by assumption) ?_ | refine Pick.mapI (by omega) (by assumption) ?_ | refine PickN.mk _ (by assumption) ?_ | refine PickN.mk _ rfl ?_ | refine PickN.au ?_ | refine App.au rfl ?_ | refine App.au (own_map (fun _ => rfl) _) ?_ | refine Both.mk ?_ ?_ | exact True.intro
  refine Stop.mk (run_unfold 4 0 rfl rfl ?_)
  have er : (List.replicate s.length (List.map AV.lit [Value.bool false])) = (List.replicate s.length false).map tb := by rw [List.map_replicate]; rfl
  refine Run.fr (g := []) (tm' := [(7, .hp 4 0), (8, .hp 5 0), (3, .hp 0 0)]) (hp' := dH s x (List.replicate s.length false)) (nx' := 7) ?_ ?_
  rotate_left
  · dsimp only [dH]
    rw [← er]
    exact ⟨rfl, (by repeat' first | exact trivial | refine ⟨rfl, ?_⟩ | refine ⟨congrArg (fun n => AV.lit (.int .i64 n)) (by omega), ?_⟩ | refine ⟨congrArg (fun l => some (Row.row 1 l)) (by simp [int1, num, tru]), ?_⟩), (by repeat' first | exact trivial | refine ⟨rfl, ?_⟩ | refine ⟨congrArg (fun n => AV.lit (.int .i64 n)) (by omega), ?_⟩ | refine ⟨congrArg (fun l => some (Row.row 1 l)) (by simp [int1, num, tru]), ?_⟩)⟩
  refine goI 1000 Try.func118 ?_
  repeat' first | refine Len.map ?_ | refine Len.nil ?_ | refine Len.cons ?_ | refine Br.t rfl ?_ | refine Br.f rfl ?_ | refine Fit.au ?_ | refine Need.au ?_ | refine Pick.map (by assumption) ?_ | refine Pick.mapI (by omega) (by assumption) ?_ | refine PickN.mk _ (by assumption) ?_ | refine PickN.mk _ rfl ?_ | refine PickN.au ?_ | refine App.au rfl ?_ | refine App.au (own_map (fun _ => rfl) _) ?_ | refine Both.mk ?_ ?_ | exact True.intro | refine Br.d (fun h => ?_) (fun h => ?_) | refine Br.nd (fun h => ?_) (fun h => ?_) | refine Br.mk (fun h => ?_) (fun h => ?_)
  · have hpos : 0 < s.length := by omega
    repeat' first | refine Len.map ?_ | refine Len.nil ?_ | refine Len.cons ?_ | refine Br.t rfl ?_ | refine Br.f rfl ?_ | refine Fit.au ?_ | refine Need.au ?_ | refine Pick.map (by assumption) ?_ | refine Pick.mapI (by omega) (by assumption) ?_ | refine PickN.mk _ (by assumption) ?_ | refine PickN.mk _ rfl ?_ | refine PickN.au ?_ | refine App.au rfl ?_ | refine App.au (own_map (fun _ => rfl) _) ?_ | refine Both.mk ?_ ?_ | exact True.intro
    refine Dyn.mk _ _ rfl rfl rfl (Run.fr (tm' := dT 0) (hp' := dH s x (List.replicate s.length false)) (nx' := 7) (into_run s x hs hsm hn _ 0 _ (by simp) hpos (fun hne => .zero (fun e => by subst e; exact absurd hpos (by decide)) (fun e => hne e.symm)) (Nat.le_refl _) fun l2 hi => ?_) (g := []) ⟨rfl, (by repeat' first | exact trivial | refine ⟨rfl, ?_⟩ | refine ⟨congrArg (fun n => AV.lit (.int .i64 n)) (by omega), ?_⟩ | refine ⟨congrArg (fun l => some (Row.row 1 l)) (by simp [int1, num, tru]), ?_⟩), (by repeat' first | exact trivial | refine ⟨rfl, ?_⟩ | refine ⟨congrArg (fun n => AV.lit (.int .i64 n)) (by omega), ?_⟩ | refine ⟨congrArg (fun l => some (Row.row 1 l)) (by simp [int1, num, tru]), ?_⟩)⟩)
    repeat' first | refine Len.map ?_ | refine Len.nil ?_ | refine Len.cons ?_ | refine Br.t rfl ?_ | refine Br.f rfl ?_ | refine Fit.au ?_ | refine Need.au ?_ | refine Pick.map (by assumption) ?_ | refine Pick.mapI (by omega) (by assumption) ?_ | refine PickN.mk _ (by assumption) ?_ | refine PickN.mk _ rfl ?_ | refine PickN.au ?_ | refine App.au rfl ?_ | refine App.au (own_map (fun _ => rfl) _) ?_ | refine Both.mk ?_ ?_ | exact True.intro
    exact hK l2 (hi.marks hs)
  · have e0 : s = [] := by cases s with | nil => rfl | cons a s => simp at *
    subst e0
    repeat' first | refine Len.map ?_ | refine Len.nil ?_ | refine Len.cons ?_ | refine Br.t rfl ?_ | refine Br.f rfl ?_ | refine Fit.au ?_ | refine Need.au ?_ | refine Pick.map (by assumption) ?_ | refine Pick.mapI (by omega) (by assumption) ?_ | refine PickN.mk _ (by assumption) ?_ | refine PickN.mk _ rfl ?_ | refine PickN.au ?_ | refine App.au rfl ?_ | refine App.au (own_map (fun _ => rfl) _) ?_ | refine Both.mk ?_ ?_ | exact True.intro
    exact hK [] marks_nil
end Go.Proofs.Ytnfkdilmoppbpaa

/- Chains of next dominators, reckoned again and again: what stays so. No program is in sight here. -/
namespace Go.Proofs.Ytnfkdilmoppbpaa
open Go.Ax

def par (l : List Int) (x : Nat) : Nat := (l.getD x 0).toNat
/-- Who stands above a block, or is it. -/
inductive Anc (l : List Int) (a : Nat) : Nat → Prop
  | self : Anc l a a
  | up {x : Nat} : x ≠ 0 → Anc l a (par l x) → Anc l a x
theorem Anc.trans {l : List Int} {a b x : Nat} (h : Anc l a b) (g : Anc l b x) : Anc l a x := by
  induction g with
  | self => exact h
  | up hx _ ih => exact .up hx ih
theorem Anc.zero {l : List Int} {a x : Nat} (h : Anc l a x) (hx : x = 0) : a = x := by
  cases h with
  | self => rfl
  | up h _ => exact absurd hx h
theorem Anc.comp {l : List Int} {a b x : Nat} (h : Anc l a x) (g : Anc l b x) : Anc l a b ∨ Anc l b a := by
  induction h with
  | self => exact .inr g
  | up hx h1 ih =>
    cases g with
    | self => exact .inl (.up hx h1)
    | up _ g1 => exact ih g1
theorem Anc.more {l : List Int} {a x : Nat} (h : Anc l a x) (hne : a ≠ x) : x ≠ 0 ∧ Anc l a (par l x) := by
  cases h with
  | self => exact absurd rfl hne
  | up h1 h2 => exact ⟨h1, h2⟩

def Rc (s : List (List Int)) (a : Nat) : Prop := Reaches s (-1) (a : Int)
def Ed (s : List (List Int)) (p k : Nat) : Prop := ∃ r, s[p]? = some r ∧ (k : Int) ∈ r
/-- Places of blocks in an order: each block but the first one comes behind one that goes to it. -/
structure Rpo (s : List (List Int)) (pl : Nat → Nat) (m : Nat) : Prop where
  zero : pl 0 = 0
  inj : ∀ a b, Rc s a → Rc s b → pl a = pl b → a = b
  lt : ∀ a, Rc s a → pl a < m
  pred : ∀ k, k ≠ 0 → Rc s k → ∃ p, Rc s p ∧ Ed s p k ∧ pl p < pl k
/-- A way by blocks that do not come ahead of its first one. -/
inductive Way (s : List (List Int)) (pl : Nat → Nat) (a : Nat) : Nat → Prop
  | self : Way s pl a a
  | step {p k : Nat} : Way s pl a p → Ed s p k → pl a ≤ pl k → Way s pl a k
theorem Way.trans {s : List (List Int)} {pl : Nat → Nat} {a c x : Nat} (h : Way s pl a c) (g : Way s pl c x) (hp : pl a ≤ pl c) : Way s pl a x := by
  induction g with
  | self => exact h
  | step _ he hk ih => exact .step ih he (Nat.le_trans hp hk)
theorem Way.avoid {s : List (List Int)} {pl : Nat → Nat} {c x d : Nat} (h : Way s pl c x) (hd : pl d < pl c) (hr : Reaches s (d : Int) (c : Int)) : Reaches s (d : Int) (x : Int) := by
  induction h with
  | self => exact hr
  | @step p k _ he hk ih =>
    obtain ⟨r, gr, hm⟩ := he
    refine .step ih gr hm fun e => ?_
    have : k = d := by omega
    subst this; omega
def DomN (s : List (List Int)) (d x : Nat) : Prop := Dom s (d : Int) (x : Int)
theorem DomN.pred {s : List (List Int)} {d p c : Nat} (h : DomN s d c) (hp : Rc s p) (he : Ed s p c) (hne : d ≠ c) : DomN s d p := by
  obtain ⟨h1, h2, h3⟩ := h
  obtain ⟨r, gr, hm⟩ := he
  exact ⟨h1, hp, fun h4 => h3 (.step h4 gr hm fun e => hne (by omega))⟩

/-- What stays so. -/
structure Wf (s : List (List Int)) (pl : Nat → Nat) (l : List Int) (dn : Nat → Prop) (pos : Nat) : Prop where
  r : ∀ x, dn x → Rc s x
  z : dn 0
  up : ∀ x, x ≠ 0 → dn x → dn (par l x) ∧ pl (par l x) < pl x
  down : ∀ k j, dn k → Rc s j → pl j < pl k → dn j
  way : ∀ x a, dn x → Anc l a x → Way s pl a x
  dom : ∀ d x, dn x → DomN s d x → Anc l d x
  mono : ∀ k, k ≠ 0 → dn k → ∀ a, (∀ p, dn p → Ed s p k → Anc l a p) → Anc l a (par l k)
  near : ∀ k, k ≠ 0 → dn k → (pl k < pos ∨ pos ≤ pl (par l k)) → ∀ p, Ed s p k → Rc s p → pl p < pl k → Anc l (par l k) p
theorem Wf.anc {s : List (List Int)} {pl : Nat → Nat} {l : List Int} {dn : Nat → Prop} {pos : Nat} (h : Wf s pl l dn pos) {a x : Nat} (ha : Anc l a x) (hx : dn x) : dn a ∧ pl a ≤ pl x ∧ (a ≠ x → pl a < pl x) := by
  induction ha with
  | self => exact ⟨hx, Nat.le_refl _, fun h => absurd rfl h⟩
  | up hne _ ih =>
    obtain ⟨h1, h2⟩ := h.up _ hne hx
    obtain ⟨h3, h4, -⟩ := ih h1
    exact ⟨h3, by omega, fun _ => by omega⟩
theorem par_set_self {l : List Int} {c N : Nat} (hc : c < l.length) : par (l.set c (N : Int)) c = N := by
  unfold par
  rw [List.getD_eq_getElem?_getD, List.getElem?_set]
  simp [hc]
theorem par_set_ne {l : List Int} {c N x : Nat} (hx : x ≠ c) : par (l.set c (N : Int)) x = par l x := by
  unfold par
  rw [List.getD_eq_getElem?_getD, List.getElem?_set, if_neg (fun e => hx e.symm), ← List.getD_eq_getElem?_getD]

section
variable {s : List (List Int)} {pl : Nat → Nat} {m : Nat} {l : List Int} {dn : Nat → Prop} {pos c N : Nat}
/-- A block gets a next dominator. -/
structure Chg (s : List (List Int)) (pl : Nat → Nat) (l : List Int) (dn : Nat → Prop) (pos c N : Nat) : Prop where
  w : Wf s pl l dn pos
  c0 : c ≠ 0
  cR : Rc s c
  cpos : pl c = pos
  prev : ∀ j, Rc s j → pl j < pl c → dn j
  meet : ∀ a, Anc l a N ↔ ∀ p, dn p → Ed s p c → Anc l a p
  len : c < l.length
theorem Chg.n (h : Chg s pl l dn pos c N) (O : Rpo s pl m) : dn N ∧ pl N < pl c := by
  obtain ⟨p, h1, h2, h3⟩ := O.pred c h.c0 h.cR
  have hp := h.prev p h1 h3
  obtain ⟨h4, h5, -⟩ := h.w.anc ((h.meet N).1 .self p hp h2) hp
  exact ⟨h4, by omega⟩
theorem Chg.low (h : Chg s pl l dn pos c N) {x : Nat} (hx : dn x) (hl : pl x < pl c) : ¬ Anc l c x := fun ha => by
  have := (h.w.anc ha hx).2.1; omega
/-- A chain that does not meet the block stays. -/
theorem Chg.same (h : Chg s pl l dn pos c N) {a x : Nat} (hc : ¬ Anc l c x) (ha : Anc l a x) : Anc (l.set c (N : Int)) a x := by
  induction ha with
  | self => exact .self
  | @up x hx h1 ih =>
    have hne : x ≠ c := fun e => hc (e ▸ .self)
    exact .up hx (by rw [par_set_ne hne]; exact ih fun h2 => hc (.up hx h2))
theorem Chg.nn (h : Chg s pl l dn pos c N) (O : Rpo s pl m) {a : Nat} (ha : Anc l a N) : Anc (l.set c (N : Int)) a c := by
  obtain ⟨h1, h2⟩ := h.n O
  refine .up h.c0 ?_
  rw [par_set_self h.len]
  exact h.same (h.low h1 h2) ha
/-- The part of a chain below the block stays. -/
theorem Chg.keep (h : Chg s pl l dn pos c N) (O : Rpo s pl m) {a x : Nat} (hc : dn c) (hx : dn x) (ha : Anc l a x) (hca : Anc l c a) : Anc (l.set c (N : Int)) a x := by
  induction ha with
  | self => exact .self
  | @up x hxz h1 ih =>
    by_cases e : x = c
    · subst e
      have g1 := h.w.anc (.up hxz h1) hx
      have g2 := h.w.anc hca g1.1
      have : a = x := by
        apply Classical.byContradiction; intro hne
        have := g1.2.2 hne; omega
      subst this; exact .self
    · exact .up hxz (by rw [par_set_ne e]; exact ih (h.w.up _ hxz hx).1)
theorem Chg.high (h : Chg s pl l dn pos c N) {a x : Nat} (hx : dn x) (ha : Anc l a x) (hp : pl c < pl a) : Anc (l.set c (N : Int)) a x := by
  induction ha with
  | self => exact .self
  | @up x hxz h1 ih =>
    have h2 := h.w.up _ hxz hx
    have h3 := (h.w.anc h1 h2.1).2.1
    have e : x ≠ c := fun e => by subst e; omega
    exact .up hxz (by rw [par_set_ne e]; exact ih h2.1)
theorem Chg.back (h : Chg s pl l dn pos c N) (O : Rpo s pl m) {a x : Nat} (hx : dn x) (ha : Anc (l.set c (N : Int)) a x) : (¬ Anc l c x ∧ Anc l a x) ∨ (Anc l c x ∧ ((Anc l a x ∧ Anc l c a) ∨ Anc l a N)) := by
  obtain ⟨hn1, hn2⟩ := h.n O
  induction ha with
  | self =>
    by_cases e : Anc l c a
    · exact .inr ⟨e, .inl ⟨.self, e⟩⟩
    · exact .inl ⟨e, .self⟩
  | @up x hxz h1 ih =>
    by_cases e : x = c
    · subst e
      rw [par_set_self h.len] at ih
      rcases ih hn1 with ⟨-, h2⟩ | ⟨h2, -⟩
      · exact .inr ⟨.self, .inr h2⟩
      · exact absurd h2 (h.low hn1 hn2)
    · rw [par_set_ne e] at ih
      rcases ih (h.w.up _ hxz hx).1 with ⟨h2, h3⟩ | ⟨h2, ⟨h3, h4⟩ | h3⟩
      · refine .inl ⟨fun h4 => h2 (h4.more (fun e2 => e e2.symm)).2, .up hxz h3⟩
      · exact .inr ⟨.up hxz h2, .inl ⟨.up hxz h3, h4⟩⟩
      · exact .inr ⟨.up hxz h2, .inr h3⟩
theorem Chg.backc (h : Chg s pl l dn pos c N) (O : Rpo s pl m) {a : Nat} (ha : Anc (l.set c (N : Int)) a c) : a = c ∨ Anc l a N := by
  obtain ⟨hn1, hn2⟩ := h.n O
  by_cases e : a = c
  · exact .inl e
  · right
    have h1 := (ha.more e).2
    rw [par_set_self h.len] at h1
    rcases h.back O hn1 h1 with ⟨-, h2⟩ | ⟨h2, -⟩
    · exact h2
    · exact absurd h2 (h.low hn1 hn2)
theorem Chg.above (h : Chg s pl l dn pos c N) (hc : dn c) : Anc l N (par l c) := h.w.mono c h.c0 hc N fun p hp he => (h.meet N).1 .self p hp he
theorem Chg.less (h : Chg s pl l dn pos c N) (O : Rpo s pl m) {a x : Nat} (hx : dn x) (ha : Anc (l.set c (N : Int)) a x) : Anc l a x := by
  rcases h.back O hx ha with ⟨-, h2⟩ | ⟨h2, ⟨h3, -⟩ | h3⟩
  · exact h2
  · exact h3
  · have hc := (h.w.anc h2 hx).1
    exact (h3.trans (.up h.c0 (h.above hc))).trans h2
theorem Chg.domc (h : Chg s pl l dn pos c N) (O : Rpo s pl m) {d : Nat} (hd : DomN s d c) : Anc (l.set c (N : Int)) d c := by
  by_cases e : d = c
  · subst e; exact .self
  · exact h.nn O ((h.meet d).2 fun p hp he => h.w.dom d p hp (hd.pred (h.w.r p hp) he e))
theorem Chg.wf (h : Chg s pl l dn pos c N) (O : Rpo s pl m) : Wf s pl (l.set c (N : Int)) (fun x => dn x ∨ x = c) (pos + 1) := by
  obtain ⟨hn1, hn2⟩ := h.n O
  have hcp := h.cpos
  refine ⟨?_, .inl h.w.z, ?_, ?_, ?_, ?_, ?_, ?_⟩
  · rintro x (hx | rfl)
    · exact h.w.r x hx
    · exact h.cR
  · intro x hx0 hx
    by_cases e : x = c
    · subst e; rw [par_set_self h.len]; exact ⟨.inl hn1, hn2⟩
    · rw [par_set_ne e]
      have := h.w.up x hx0 (hx.resolve_right e)
      exact ⟨.inl this.1, this.2⟩
  · rintro k j (hk | rfl) hj hl
    · exact .inl (h.w.down k j hk hj hl)
    · exact .inl (h.prev j hj hl)
  · intro x a hx ha
    have wc : Anc l a N → Way s pl a c := fun h1 => by
      obtain ⟨p, p1, p2, p3⟩ := O.pred c h.c0 h.cR
      have hp := h.prev p p1 p3
      have h2 := (h.meet a).1 h1 p hp p2
      have h3 := (h.w.anc h2 hp).2.1
      exact .step (h.w.way p a hp h2) p2 (by omega)
    by_cases e : x = c
    · subst e
      rcases h.backc O ha with rfl | h1
      · exact .self
      · exact wc h1
    · have hx := hx.resolve_right e
      rcases h.back O hx ha with ⟨-, h2⟩ | ⟨h2, ⟨h3, -⟩ | h3⟩
      · exact h.w.way x a hx h2
      · exact h.w.way x a hx h3
      · have := (h.w.anc h3 hn1).2.1
        exact (wc h3).trans (h.w.way x c hx h2) (by omega)
  · intro d x hx hd
    by_cases e : x = c
    · subst e; exact h.domc O hd
    · have hx := hx.resolve_right e
      have h1 := h.w.dom d x hx hd
      by_cases e2 : Anc l c x
      · have hc := (h.w.anc e2 hx).1
        rcases h1.comp e2 with h3 | h3
        · by_cases e3 : d = c
          · rw [e3]; exact h.keep O hc hx e2 .self
          · have h4 := (h.w.anc h3 hc).2.2 e3
            refine (h.domc O ⟨hd.1, h.cR, fun h5 => hd.2.2 ((h.w.way x c hx e2).avoid h4 h5)⟩).trans (h.keep O hc hx e2 .self)
        · exact h.keep O hc hx h1 h3
      · exact h.same e2 h1
  · intro k hk0 hk a ha
    by_cases e : k = c
    · subst e
      rw [par_set_self h.len]
      exact h.same (h.low hn1 hn2) ((h.meet a).2 fun p hp he => h.less O hp (ha p (.inl hp) he))
    · have hk := hk.resolve_right e
      rw [par_set_ne e]
      have h1 := h.w.mono k hk0 hk a fun p hp he => h.less O hp (ha p (.inl hp) he)
      obtain ⟨ht, htl⟩ := h.w.up k hk0 hk
      by_cases e2 : Anc l c (par l k)
      · obtain ⟨hc, hcl, -⟩ := h.w.anc e2 ht
        obtain ⟨p, p1, p2, p3⟩ := O.pred k hk0 (h.w.r k hk)
        have hp := h.w.down k p hk p1 p3
        have h2 := h.w.near k hk0 hk (.inr (by omega)) p p2 p1 p3
        rcases h.back O hp (ha p (.inl hp) p2) with ⟨h3, -⟩ | ⟨-, ⟨-, h4⟩ | h3⟩
        · exact absurd (e2.trans h2) h3
        · exact h.keep O hc ht h1 h4
        · exact (h.nn O h3).trans (h.keep O hc ht e2 .self)
      · exact h.same e2 h1
  · intro k hk0 hk hpk p he hpR hpl
    by_cases e : k = c
    · subst e
      have hp := h.prev p hpR hpl
      rw [par_set_self h.len]
      exact h.same (h.low hp hpl) ((h.meet N).1 .self p hp he)
    · have hk := hk.resolve_right e
      rw [par_set_ne e] at hpk ⊢
      have hkp : pl k ≠ pl c := fun e2 => e (O.inj k c (h.w.r k hk) h.cR e2)
      have hp := h.w.down k p hk hpR hpl
      rcases hpk with h1 | h1
      · exact h.same (h.low hp (by omega)) (h.w.near k hk0 hk (.inl (by omega)) p he hpR hpl)
      · exact h.high hp (h.w.near k hk0 hk (.inr (by omega)) p he hpR hpl) (by omega)
end
theorem Wf.start {s : List (List Int)} {pl : Nat → Nat} {l : List Int} {m : Nat} (O : Rpo s pl m) (h0 : s ≠ []) : Wf s pl l (fun x => x = 0) 1 := by
  refine ⟨?_, rfl, ?_, ?_, ?_, ?_, ?_, ?_⟩
  · rintro x rfl; exact .zero h0 (by decide)
  · intro x hx h; exact absurd h hx
  · rintro k j rfl _ hl
    rw [O.zero] at hl; omega
  · rintro x a rfl ha
    have := ha.zero rfl
    subst this; exact .self
  · rintro d x rfl hd
    by_cases e : d = 0
    · subst e; exact .self
    · exact absurd (.zero h0 (by omega)) hd.2.2
  · intro k hk h; exact absurd h hk
  · intro k hk h; exact absurd h hk
/-- A new round. -/
theorem Wf.round {s : List (List Int)} {pl : Nat → Nat} {l : List Int} {dn : Nat → Prop} {m : Nat} (O : Rpo s pl m) (h : Wf s pl l dn m) : Wf s pl l dn 1 :=
  ⟨h.r, h.z, h.up, h.down, h.way, h.dom, h.mono, fun k hk0 hk _ => h.near k hk0 hk (.inl (O.lt k (h.r k hk)))⟩
theorem Rc_of {s : List (List Int)} (hs : Closed s) {x t : Int} (h : Reaches s x t) : Reaches s (-1) t := by
  induction h with
  | zero h1 _ => exact .zero h1 (by decide)
  | step hk gr hm _ ih => exact .step ih gr hm (by have := hs _ (List.mem_of_getElem? gr) _ hm; omega)
/-- Where nothing changes more, the chains are the dominators. -/
theorem Wf.end {s : List (List Int)} {pl : Nat → Nat} {l : List Int} {dn : Nat → Prop} {pos : Nat} (hs : Closed s) (h : Wf s pl l dn pos) (hall : ∀ x, Rc s x → dn x) (hfix : ∀ k, k ≠ 0 → Rc s k → ∀ a p, Rc s p → Ed s p k → Anc l a (par l k) → Anc l a p) {a x : Nat} (hx : Rc s x) : Anc l a x ↔ DomN s a x := by
  constructor
  · intro ha
    have hd := (h.anc ha (hall x hx)).1
    refine ⟨h.r a hd, hx, fun hr => ?_⟩
    have key : ∀ t : Int, Reaches s (a : Int) t → ∀ x : Nat, t = (x : Int) → Rc s x → ¬ Anc l a x := by
      intro t ht
      induction ht with
      | zero h1 h2 =>
        intro x e _ ha
        have hx0 : x = 0 := by omega
        have := ha.zero hx0
        subst this; omega
      | @step k t r hk gr hm hne ih =>
        intro x e hxR ha
        have hax : a ≠ x := fun e2 => hne (by omega)
        obtain ⟨hx0, h2⟩ := ha.more hax
        have hkR : Rc s k := Rc_of hs hk
        refine ih k rfl hkR (hfix x hx0 hxR a k hkR ⟨r, gr, by rw [← e]; exact hm⟩ h2)
    exact key _ hr x rfl hx ha
  · exact fun hd => h.dom a x (hall x hx) hd
end Go.Proofs.Ytnfkdilmoppbpaa

/- Rounds in which next dominators are reckoned, until nothing changes. No program is in sight here. -/
namespace Go.Proofs.Ytnfkdilmoppbpaa
open Go.Ax

def dnOf (ds : List Bool) (x : Nat) : Prop := ds[x]? = some true
instance (ds : List Bool) (x : Nat) : Decidable (dnOf ds x) := by unfold dnOf; infer_instance
theorem dnOf_set {ds : List Bool} {c : Nat} (hc : c < ds.length) : dnOf (ds.set c true) = fun x => dnOf ds x ∨ x = c := by
  funext x
  apply propext
  unfold dnOf
  rw [List.getElem?_set]
  by_cases e : c = x
  · subst e; simp [hc]
  · rw [if_neg e]
    constructor
    · exact .inl
    · rintro (h | h)
      · exact h
      · exact absurd h.symm e
theorem mem_predOf {s : List (List Int)} {p k : Nat} : (p : Int) ∈ predOf s k s.length ↔ Ed s p k := by
  unfold predOf Ed
  constructor
  · intro h
    obtain ⟨j, hj, e⟩ := List.mem_map.1 h
    obtain rfl : j = p := by omega
    obtain ⟨h1, h2⟩ := List.mem_filter.1 hj
    have hl := List.mem_range.1 h1
    refine ⟨s[j], List.getElem?_eq_getElem hl, ?_⟩
    have := of_decide_eq_true h2
    rw [List.getElem?_eq_getElem hl] at this
    exact this
  · rintro ⟨r, gr, hm⟩
    refine List.mem_map.2 ⟨p, List.mem_filter.2 ⟨List.mem_range.2 (List.getElem?_eq_some_iff.1 gr).1, decide_eq_true ?_⟩, rfl⟩
    rw [gr]; exact hm
theorem predOf_nn {s : List (List Int)} {k : Nat} {x : Int} (h : x ∈ predOf s k s.length) : ∃ p : Nat, x = p ∧ Ed s p k := by
  have := predOf_lt h
  exact ⟨x.toNat, by omega, mem_predOf.1 (by rw [show ((x.toNat : Nat) : Int) = x by omega]; exact h)⟩

def muTo (g : Nat → Nat) : Nat → Nat
  | 0 => 0
  | n + 1 => muTo g n + g n
theorem muTo_le {g h : Nat → Nat} : ∀ {n : Nat}, (∀ x, x < n → g x ≤ h x) → muTo g n ≤ muTo h n
  | 0, _ => Nat.le_refl _
  | n + 1, k => Nat.add_le_add (muTo_le fun x hx => k x (by omega)) (k n (by omega))
theorem muTo_lt {g h : Nat → Nat} : ∀ {n : Nat}, (∀ x, x < n → g x ≤ h x) → ∀ {c : Nat}, c < n → g c < h c → muTo g n < muTo h n
  | n + 1, k, c, hc, hl => by
    have h1 := muTo_le (g := g) (h := h) (n := n) fun x hx => k x (by omega)
    have h2 := k n (by omega)
    show muTo g n + g n < muTo h n + h n
    by_cases e : c = n
    · subst e; omega
    · have := muTo_lt (n := n) (fun x hx => k x (by omega)) (c := c) (by omega) hl
      omega
def mu (pl : Nat → Nat) (m n : Nat) (l : List Int) (ds : List Bool) : Nat := muTo (fun x => if dnOf ds x then pl (par l x) else m) n

/-- The last one who stands above all done ones of some. -/
def Met (l : List Int) (ds : List Bool) (r : List Int) (nx : Int) : Prop :=
  (nx = -1 ∧ ∀ p : Nat, (p : Int) ∈ r → ¬ dnOf ds p) ∨ ∃ N : Nat, nx = N ∧ dnOf ds N ∧ ∀ a, Anc l a N ↔ ∀ p : Nat, (p : Int) ∈ r → dnOf ds p → Anc l a p
theorem Met.start {l : List Int} {ds : List Bool} : Met l ds [] (-1) := .inl ⟨rfl, fun p h => by cases h⟩
theorem Met.skip {l : List Int} {ds : List Bool} {r : List Int} {nx : Int} {p : Nat} (h : Met l ds r nx) (hp : ¬ dnOf ds p) : Met l ds (r ++ [(p : Int)]) nx := by
  rcases h with ⟨h1, h2⟩ | ⟨N, h1, h2, h3⟩
  · refine .inl ⟨h1, fun q hq => ?_⟩
    rcases List.mem_append.1 hq with hq | hq
    · exact h2 q hq
    · have : q = p := by have := List.mem_singleton.1 hq; omega
      subst this; exact hp
  · refine .inr ⟨N, h1, h2, fun a => (h3 a).trans ⟨fun h4 q hq hd => ?_, fun h4 q hq hd => h4 q (List.mem_append_left _ hq) hd⟩⟩
    rcases List.mem_append.1 hq with hq | hq
    · exact h4 q hq hd
    · have : q = p := by have := List.mem_singleton.1 hq; omega
      subst this; exact absurd hd hp
theorem Met.first {l : List Int} {ds : List Bool} {r : List Int} {nx : Int} {p : Nat} (h : Met l ds r nx) (hn : nx < 0) (hp : dnOf ds p) : Met l ds (r ++ [(p : Int)]) (p : Int) := by
  rcases h with ⟨h1, h2⟩ | ⟨N, h1, h2, h3⟩
  · refine .inr ⟨p, rfl, hp, fun a => ⟨fun h4 q hq hd => ?_, fun h4 => h4 p (by simp) hp⟩⟩
    rcases List.mem_append.1 hq with hq | hq
    · exact absurd hd (h2 q hq)
    · have : q = p := by have := List.mem_singleton.1 hq; omega
      subst this; exact h4
  · omega
theorem Met.more {l : List Int} {ds : List Bool} {r : List Int} {nx : Int} {p M N : Nat} (h : Met l ds r nx) (hn : nx = (N : Int)) (hp : dnOf ds p) (hM : dnOf ds M) (hm : ∀ a, Anc l a M ↔ Anc l a N ∧ Anc l a p) : Met l ds (r ++ [(p : Int)]) (M : Int) := by
  rcases h with ⟨h1, h2⟩ | ⟨N2, h1, h2, h3⟩
  · omega
  · obtain rfl : N2 = N := by omega
    refine .inr ⟨M, rfl, hM, fun a => ?_⟩
    rw [hm a, h3 a]
    constructor
    · rintro ⟨h4, h5⟩ q hq hd
      rcases List.mem_append.1 hq with hq | hq
      · exact h4 q hq hd
      · have : q = p := by have := List.mem_singleton.1 hq; omega
        subst this; exact h5
    · intro h4
      exact ⟨fun q hq hd => h4 q (List.mem_append_left _ hq) hd, h4 p (by simp) hp⟩

/-- A round, so far. -/
structure Rnd (s : List (List Int)) (pl : Nat → Nat) (m : Nat) (l0 : List Int) (ds0 : List Bool) (l : List Int) (ds : List Bool) (ch : Bool) (i : Nat) : Prop where
  w : Wf s pl l (dnOf ds) i
  ln : l.length = s.length
  dl : ds.length = s.length
  neg : ∀ x, x < s.length → (x = 0 ∨ ¬ dnOf ds x) → l[x]? = some (-1)
  pos : ∀ x, x ≠ 0 → dnOf ds x → l[x]? = some (par l x : Int)
  prev : ∀ j, Rc s j → pl j < i → dnOf ds j
  le : mu pl m s.length l ds ≤ mu pl m s.length l0 ds0
  lt : ch = true → mu pl m s.length l ds < mu pl m s.length l0 ds0
  eq : ch = false → l = l0 ∧ ds = ds0 ∧ ∀ k, k ≠ 0 → Rc s k → pl k < i → ∀ a p, dnOf ds p → Ed s p k → Anc l a (par l k) → Anc l a p
theorem Rc_lt {s : List (List Int)} (hs : Closed s) {x : Nat} (h : Rc s x) : x < s.length := by
  unfold Rc at h
  generalize ht : (x : Int) = t at h
  cases h with
  | zero h1 _ =>
    have := List.length_pos_iff.2 h1
    omega
  | step _ gr hm _ =>
    have := hs _ (List.mem_of_getElem? gr) _ hm
    omega
theorem Rnd.step {s : List (List Int)} {pl : Nat → Nat} {m : Nat} {l0 l : List Int} {ds0 ds : List Bool} {ch : Bool} {i c : Nat} {nx x : Int} (hs : Closed s) (O : Rpo s pl m) (h : Rnd s pl m l0 ds0 l ds ch i) (hc0 : c ≠ 0) (hcR : Rc s c) (hci : pl c = i) (hm : Met l ds (predOf s c s.length) nx) (gx : l[c]? = some x) :
    Rnd s pl m l0 ds0 (l.set c nx) (ds.set c true) (ch || decide (nx ≠ x)) (i + 1) := by
  have hcl := Rc_lt hs hcR
  obtain ⟨p, p1, p2, p3⟩ := O.pred c hc0 hcR
  have hpd : dnOf ds p := h.prev p p1 (by omega)
  obtain ⟨N, rfl, hN, hmeet⟩ := hm.resolve_left fun h2 => h2.2 p (mem_predOf.2 p2) hpd
  have hset := dnOf_set (ds := ds) (c := c) (by rw [h.dl]; exact hcl)
  have C : Chg s pl l (dnOf ds) i c N := ⟨h.w, hc0, hcR, hci, fun j hj hl => h.prev j hj (by omega), fun a => (hmeet a).trans ⟨fun h2 q hq he => h2 q (mem_predOf.2 he) hq, fun h2 q hq hd => h2 q hd (mem_predOf.1 hq)⟩, by rw [h.ln]; exact hcl⟩
  obtain ⟨-, hNl⟩ := C.n O
  have hcm := O.lt c hcR
  have hps : par (l.set c (N : Int)) c = N := par_set_self C.len
  have hd : ∀ y, dnOf (ds.set c true) y ↔ dnOf ds y ∨ y = c := fun y => by rw [hset]
  -- how much is left
  have hle : ∀ y, y < s.length → (if dnOf (ds.set c true) y then pl (par (l.set c (N : Int)) y) else m) ≤ (if dnOf ds y then pl (par l y) else m) := by
    intro y _
    by_cases e : y = c
    · subst e
      rw [if_pos ((hd y).2 (.inr rfl)), hps]
      by_cases hdy : dnOf ds y
      · rw [if_pos hdy]
        have := (h.w.anc (C.above hdy) (h.w.up y hc0 hdy).1).2.1
        exact this
      · rw [if_neg hdy]; omega
    · rw [par_set_ne e]
      by_cases hdy : dnOf ds y
      · rw [if_pos hdy, if_pos ((hd y).2 (.inl hdy))]; exact Nat.le_refl _
      · rw [if_neg hdy, if_neg (fun h2 => ((hd y).1 h2).elim hdy e)]; exact Nat.le_refl _
  have hmle : mu pl m s.length (l.set c (N : Int)) (ds.set c true) ≤ mu pl m s.length l ds := muTo_le hle
  have hxN : (dnOf ds c ∧ x = (par l c : Int)) ∨ (¬ dnOf ds c ∧ x = -1) := by
    by_cases hdc : dnOf ds c
    · have := h.pos c hc0 hdc
      rw [gx] at this
      exact .inl ⟨hdc, Option.some.inj this⟩
    · have := h.neg c hcl (.inr hdc)
      rw [gx] at this
      exact .inr ⟨hdc, Option.some.inj this⟩
  have hmlt : (N : Int) ≠ x → mu pl m s.length (l.set c (N : Int)) (ds.set c true) < mu pl m s.length l ds := fun hne => by
    refine muTo_lt hle hcl ?_
    rw [if_pos ((hd c).2 (.inr rfl)), hps]
    rcases hxN with ⟨h1, h2⟩ | ⟨h1, h2⟩
    · rw [if_pos h1]
      exact (h.w.anc (C.above h1) (h.w.up c hc0 h1).1).2.2 (by omega)
    · rw [if_neg h1]; omega
  refine ⟨?_, by rw [List.length_set]; exact h.ln, by rw [List.length_set]; exact h.dl, ?_, ?_, ?_, ?_, ?_, ?_⟩
  · rw [hset]; exact C.wf O
  · intro y hy hy2
    have hyc : y ≠ c := by
      rintro rfl
      rcases hy2 with h2 | h2
      · exact hc0 h2
      · exact h2 ((hd y).2 (.inr rfl))
    rw [List.getElem?_set, if_neg (fun e => hyc e.symm)]
    exact h.neg y hy (hy2.imp id fun h2 h3 => h2 ((hd y).2 (.inl h3)))
  · intro y hy hy2
    by_cases e : y = c
    · subst e
      rw [hps, List.getElem?_set]
      simp [C.len]
    · rw [par_set_ne e, List.getElem?_set, if_neg (fun e2 => e e2.symm)]
      exact h.pos y hy (((hd y).1 hy2).resolve_right e)
  · intro j hj hl
    refine (hd j).2 ?_
    by_cases e : pl j < i
    · exact .inl (h.prev j hj e)
    · exact .inr (O.inj j c hj hcR (by omega))
  · exact Nat.le_trans hmle h.le
  · intro hch
    rw [Bool.or_eq_true] at hch
    rcases hch with h1 | h1
    · exact Nat.lt_of_le_of_lt hmle (h.lt h1)
    · exact Nat.lt_of_lt_of_le (hmlt (of_decide_eq_true h1)) h.le
  · intro hch
    rw [Bool.or_eq_false_iff] at hch
    obtain ⟨h1, h2, h3⟩ := h.eq hch.1
    have hx : (N : Int) = x := by simpa using hch.2
    have hdc : dnOf ds c ∧ x = (par l c : Int) := hxN.resolve_right fun h4 => by omega
    have e1 : l.set c (N : Int) = l := by
      apply List.ext_getElem?
      intro y
      rw [List.getElem?_set]
      split
      · rename_i e; subst e
        rw [if_pos C.len, gx, hx]
      · rfl
    have e2 : ds.set c true = ds := by
      apply List.ext_getElem?
      intro y
      rw [List.getElem?_set]
      split
      · rename_i e; subst e
        rw [if_pos (by rw [h.dl]; exact hcl)]; exact hdc.1.symm
      · rfl
    rw [e1, e2]
    refine ⟨h1, h2, fun k hk0 hk hkl a q hq he ha => ?_⟩
    by_cases e : pl k < i
    · exact h3 k hk0 hk e a q hq he ha
    · obtain rfl : k = c := O.inj k c hk hcR (by omega)
      have hpc : par l k = N := by omega
      rw [hpc] at ha
      exact (C.meet a).1 ha q hq he

/-- What the next dominators are. -/
structure TreeP (s : List (List Int)) (l : List Int) : Prop where
  len : l.length = s.length
  out : ∀ x, x < s.length → (x = 0 ∨ ¬ Rc s x) → l[x]? = some (-1)
  up : ∀ x, x ≠ 0 → Rc s x → l[x]? = some (par l x : Int) ∧ Rc s (par l x)
  dom : ∀ a x, Rc s x → (Anc l a x ↔ DomN s a x)
  pl : ∃ pl : Nat → Nat, ∀ x, x ≠ 0 → Rc s x → pl (par l x) < pl x
theorem Rnd.done {s : List (List Int)} {pl : Nat → Nat} {m : Nat} {l0 l : List Int} {ds0 ds : List Bool} {ch : Bool} (hs : Closed s) (O : Rpo s pl m) (h : Rnd s pl m l0 ds0 l ds ch m) (hc : ch = false) : TreeP s l := by
  obtain ⟨rfl, rfl, h3⟩ := h.eq hc
  have hall : ∀ x, Rc s x → dnOf ds x := fun x hx => h.prev x hx (O.lt x hx)
  refine ⟨h.ln, fun x hx h4 => h.neg x hx (h4.imp id fun h5 h6 => h5 (h.w.r x h6)), fun x hx hR => ⟨h.pos x hx (hall x hR), h.w.r _ (h.w.up x hx (hall x hR)).1⟩, fun a x hx => ?_, pl, fun x hx hR => (h.w.up x hx (hall x hR)).2⟩
  exact h.w.end hs hall (fun k hk0 hk a p hp he ha => h3 k hk0 hk (O.lt k hk) a p (hall p hp) he ha) hx

/-- The beginning of a round. -/
structure Hd (s : List (List Int)) (pl : Nat → Nat) (l : List Int) (ds : List Bool) : Prop where
  w : Wf s pl l (dnOf ds) 1
  ln : l.length = s.length
  dl : ds.length = s.length
  neg : ∀ x, x < s.length → (x = 0 ∨ ¬ dnOf ds x) → l[x]? = some (-1)
  pos : ∀ x, x ≠ 0 → dnOf ds x → l[x]? = some (par l x : Int)
theorem Hd.rnd {s : List (List Int)} {pl : Nat → Nat} {m : Nat} {l : List Int} {ds : List Bool} (O : Rpo s pl m) (h0 : s ≠ []) (h : Hd s pl l ds) : Rnd s pl m l ds l ds false 1 := by
  have hr0 : Rc s 0 := .zero h0 (by decide)
  have hz : ∀ k, Rc s k → pl k < 1 → k = 0 := fun k hk hl => O.inj k 0 hk hr0 (by rw [O.zero]; omega)
  exact ⟨h.w, h.ln, h.dl, h.neg, h.pos, fun j hj hl => by rw [hz j hj hl]; exact h.w.z, Nat.le_refl _, (fun h => by cases h), fun _ => ⟨rfl, rfl, fun k hk0 hk hl => absurd (hz k hk hl) hk0⟩⟩
theorem Rnd.hd {s : List (List Int)} {pl : Nat → Nat} {m : Nat} {l0 l : List Int} {ds0 ds : List Bool} {ch : Bool} (O : Rpo s pl m) (h : Rnd s pl m l0 ds0 l ds ch m) : Hd s pl l ds := ⟨h.w.round O, h.ln, h.dl, h.neg, h.pos⟩
theorem Hd.set {s : List (List Int)} {pl : Nat → Nat} {l : List Int} {ds : List Bool} (h : Hd s pl l ds) : ds.set 0 true = ds := by
  apply List.ext_getElem?
  intro y
  rw [List.getElem?_set]
  split
  · rename_i e; subst e
    have h2 : ds[0]? = some true := h.w.z
    rw [if_pos (List.getElem?_eq_some_iff.1 h2).1, h2]
  · rfl
theorem Hd.start {s : List (List Int)} {pl : Nat → Nat} {m : Nat} (O : Rpo s pl m) (h0 : s ≠ []) : Hd s pl (List.replicate s.length (-1)) ((List.replicate s.length false).set 0 true) := by
  have hl := List.length_pos_iff.2 h0
  have hd : dnOf ((List.replicate s.length false).set 0 true) = fun x => x = 0 := by
    rw [dnOf_set (by simpa using hl)]
    funext x
    apply propext
    unfold dnOf
    rw [List.getElem?_replicate]
    constructor
    · rintro (h | h)
      · split at h <;> simp at h
      · exact h
    · exact .inr
  refine ⟨by rw [hd]; exact .start O h0, by simp, by simp, fun x hx _ => by rw [List.getElem?_replicate, if_pos hx], fun x hx h2 => ?_⟩
  rw [hd] at h2
  exact absurd h2 hx
end Go.Proofs.Ytnfkdilmoppbpaa

/- The order in which blocks are left, each once. No program is in sight here. -/
namespace Go.Proofs.Ytnfkdilmoppbpaa
open Go.Ax

/-- What was left newly: each but the top ones has one that goes to it and is left later. -/
structure Lv (s : List (List Int)) (l l' : List Bool) (w : List Int) (top : Nat → Prop) : Prop where
  nodup : w.Nodup
  mem : ∀ x : Int, x ∈ w ↔ (0 ≤ x ∧ l'[x.toNat]? = some true ∧ l[x.toNat]? ≠ some true)
  pred : ∀ (i x : Nat), w[i]? = some (x : Int) → top x ∨ ∃ j p : Nat, i < j ∧ w[j]? = some (p : Int) ∧ Ed s p x
theorem Lv.start {s : List (List Int)} {l : List Bool} {top : Nat → Prop} : Lv s l l [] top :=
  ⟨by simp, fun x => ⟨(fun h => by cases h), fun h => absurd h.2.1 h.2.2⟩, fun i x h => by simp at h⟩
theorem Lv.next {s : List (List Int)} {l l1 l2 : List Bool} {w w2 : List Int} {k t : Nat} (h : Lv s l l1 w (Ed s k)) (h2 : Lv s l1 l2 w2 (fun x => x = t)) (he : Ed s k t) (g1 : Grows l l1) (g2 : Grows l1 l2) : Lv s l l2 (w ++ w2) (Ed s k) := by
  refine ⟨?_, fun x => ?_, fun i x gx => ?_⟩
  · rw [List.nodup_append]
    refine ⟨h.nodup, h2.nodup, fun x hx y hy e => ?_⟩
    subst e
    exact ((h2.mem x).1 hy).2.2 ((h.mem x).1 hx).2.1
  · rw [List.mem_append, h.mem, h2.mem]
    constructor
    · rintro (⟨a1, a2, a3⟩ | ⟨a1, a2, a3⟩)
      · exact ⟨a1, g2.2 _ a2, a3⟩
      · exact ⟨a1, a2, fun a4 => a3 (g1.2 _ a4)⟩
    · rintro ⟨a1, a2, a3⟩
      by_cases e : l1[x.toNat]? = some true
      · exact .inl ⟨a1, e, a3⟩
      · exact .inr ⟨a1, a2, e⟩
  · by_cases hi : i < w.length
    · rw [List.getElem?_append_left hi] at gx
      rcases h.pred i x gx with h3 | ⟨j, p, h3, h4, h5⟩
      · exact .inl h3
      · exact .inr ⟨j, p, h3, by rw [List.getElem?_append_left (List.getElem?_eq_some_iff.1 h4).1]; exact h4, h5⟩
    · rw [List.getElem?_append_right (by omega)] at gx
      rcases h2.pred _ x gx with h3 | ⟨j, p, h3, h4, h5⟩
      · subst h3; exact .inl he
      · exact .inr ⟨w.length + j, p, by omega, by rw [List.getElem?_append_right (by omega), show w.length + j - w.length = j by omega]; exact h4, h5⟩
theorem Lv.end {s : List (List Int)} {l l1 : List Bool} {w : List Int} {k : Nat} (h : Lv s (l.set k true) l1 w (Ed s k)) (hk : l[k]? = some false) (g : Grows (l.set k true) l1) : Lv s l l1 (w ++ [(k : Int)]) (fun x => x = k) := by
  have hkl := (List.getElem?_eq_some_iff.1 hk).1
  have hs : (l.set k true)[k]? = some true := by rw [List.getElem?_set]; simp [hkl]
  have hne : ∀ x : Nat, x ≠ k → (l.set k true)[x]? = l[x]? := fun x hx => by rw [List.getElem?_set, if_neg (fun e => hx e.symm)]
  refine ⟨?_, fun x => ?_, fun i x gx => ?_⟩
  · rw [List.nodup_append]
    refine ⟨h.nodup, by simp, fun x hx y hy e => ?_⟩
    subst e
    have := List.mem_singleton.1 hy
    subst this
    exact ((h.mem _).1 hx).2.2 (by simpa using hs)
  · rw [List.mem_append, h.mem, List.mem_singleton]
    constructor
    · rintro (⟨a1, a2, a3⟩ | rfl)
      · refine ⟨a1, a2, fun a4 => a3 ?_⟩
        by_cases e : x.toNat = k
        · rw [e]; exact hs
        · rw [hne _ e]; exact a4
      · exact ⟨by omega, by simpa using g.2 k hs, by simp [hk]⟩
    · rintro ⟨a1, a2, a3⟩
      by_cases e : x.toNat = k
      · right; omega
      · left; exact ⟨a1, a2, by rw [hne _ e]; exact a3⟩
  · by_cases hi : i < w.length
    · right
      rw [List.getElem?_append_left hi] at gx
      rcases h.pred i x gx with h3 | ⟨j, p, h3, h4, h5⟩
      · exact ⟨w.length, k, hi, by rw [List.getElem?_append_right (by omega)]; simp, h3⟩
      · exact ⟨j, p, h3, by rw [List.getElem?_append_left (List.getElem?_eq_some_iff.1 h4).1]; exact h4, h5⟩
    · left
      rw [List.getElem?_append_right (by omega)] at gx
      have := List.mem_singleton.1 (List.mem_of_getElem? gx)
      omega
/-- What was left was seen. -/
structure OB (l : List Bool) (o : List Int) : Prop where
  nodup : o.Nodup
  seen : ∀ x ∈ o, 0 ≤ x ∧ l[x.toNat]? = some true
theorem nodup_lenI {n : Nat} {o : List Int} (h : o.Nodup) (hb : ∀ x ∈ o, 0 ≤ x ∧ x < n) : o.length ≤ n := by
  have h1 : (o.map Int.toNat).Nodup := by
    refine List.Pairwise.map _ ?_ (List.Pairwise.and_mem.1 h)
    rintro x y ⟨hx, hy, hne⟩ e
    have := hb x hx
    have := hb y hy
    omega
  have h2 : o.map Int.toNat ⊆ List.range n := by
    intro x hx
    obtain ⟨y, hy, rfl⟩ := List.mem_map.1 hx
    have := hb y hy
    exact List.mem_range.2 (by omega)
  have := List.Nodup.length_le_of_subset h1 h2
  simpa using this
theorem OB.len {l : List Bool} {o : List Int} (h : OB l o) : o.length ≤ l.length :=
  nodup_lenI h.nodup fun x hx => by
    obtain ⟨h1, h2⟩ := h.seen x hx
    have := (List.getElem?_eq_some_iff.1 h2).1
    omega
theorem OB.app {s : List (List Int)} {l l' : List Bool} {o w : List Int} {top : Nat → Prop} (h : OB l o) (h2 : Lv s l l' w top) (g : Grows l l') : OB l' (o ++ w) := by
  refine ⟨?_, fun x hx => ?_⟩
  · rw [List.nodup_append]
    refine ⟨h.nodup, h2.nodup, fun x hx y hy e => ?_⟩
    subst e
    exact ((h2.mem x).1 hy).2.2 (h.seen x hx).2
  · rcases List.mem_append.1 hx with hx | hx
    · exact ⟨(h.seen x hx).1, g.2 _ (h.seen x hx).2⟩
    · exact ⟨((h2.mem x).1 hx).1, ((h2.mem x).1 hx).2.1⟩
theorem OB.nil {l : List Bool} : OB l [] := ⟨by simp, fun x hx => by cases hx⟩

/-- The order of reached blocks. -/
structure OrdP (s : List (List Int)) (o : List Int) : Prop where
  nodup : o.Nodup
  mem : ∀ x : Int, x ∈ o ↔ 0 ≤ x ∧ Reaches s (-1) x
  pred : ∀ (i x : Nat), o[i]? = some (x : Int) → x = 0 ∨ ∃ j p : Nat, j < i ∧ o[j]? = some (p : Int) ∧ Ed s p x
theorem Lv.ord {s : List (List Int)} {l' : List Bool} {w : List Int} (h : Lv s (List.replicate s.length false) l' w (fun x => x = 0)) (hm : Marks s (-1) l') : OrdP s w.reverse := by
  refine ⟨(by show List.Pairwise _ _; rw [List.pairwise_reverse]; exact List.Pairwise.imp (fun h => Ne.symm h) h.nodup), fun x => ?_, fun i x gx => ?_⟩
  · rw [List.mem_reverse, h.mem]
    constructor
    · rintro ⟨a1, a2, -⟩
      exact ⟨a1, by have := (hm.2 x.toNat).1 a2; rw [show ((x.toNat : Nat) : Int) = x by omega] at this; exact this⟩
    · rintro ⟨a1, a2⟩
      refine ⟨a1, (hm.2 x.toNat).2 (by rw [show ((x.toNat : Nat) : Int) = x by omega]; exact a2), fun a3 => ?_⟩
      rw [List.getElem?_replicate] at a3
      split at a3 <;> simp at a3
  · have hil := (List.getElem?_eq_some_iff.1 gx).1
    rw [List.length_reverse] at hil
    rw [List.getElem?_reverse hil] at gx
    rcases h.pred _ x gx with h3 | ⟨j, p, h3, h4, h5⟩
    · exact .inl h3
    · have hjl := (List.getElem?_eq_some_iff.1 h4).1
      refine .inr ⟨w.length - 1 - j, p, by omega, ?_, h5⟩
      rw [List.getElem?_reverse (by omega), show w.length - 1 - (w.length - 1 - j) = j by omega]
      exact h4
theorem OrdP.nil : OrdP [] [] := by
  refine ⟨by simp, fun x => ⟨(fun h => by cases h), fun h => ?_⟩, fun i x h => by simp at h⟩
  cases h.2 with
  | zero h3 _ => exact absurd rfl h3
  | step _ h => simp at h
theorem OrdP.idx {s : List (List Int)} {o : List Int} (h : OrdP s o) {i j : Nat} {x : Int} (h1 : o[i]? = some x) (h2 : o[j]? = some x) : i = j := by
  have a := List.getElem?_eq_some_iff.1 h1
  have b := List.getElem?_eq_some_iff.1 h2
  exact (List.getElem_inj h.nodup).1 (a.2.trans b.2.symm)
theorem OrdP.zero {s : List (List Int)} {o : List Int} (h : OrdP s o) (h0 : s ≠ []) : o[0]? = some 0 := by
  have : (0 : Int) ∈ o := (h.mem 0).2 ⟨by omega, .zero h0 (by decide)⟩
  have hl : 0 < o.length := List.length_pos_of_mem this
  have g : o[0]? = some o[0] := List.getElem?_eq_getElem hl
  have hx := (h.mem _).1 (List.mem_of_getElem? g)
  have g2 : o[0]? = some ((o[0].toNat : Nat) : Int) := by rw [g, show ((o[0].toNat : Nat) : Int) = o[0] by omega]
  rcases h.pred 0 _ g2 with h3 | ⟨j, p, h3, -⟩
  · rw [g2, h3]; rfl
  · omega
theorem OrdP.rpo {s : List (List Int)} {o : List Int} {pl : Nat → Nat} (h : OrdP s o) (h0 : s ≠ []) (hp : ∀ x, Rc s x → o[pl x]? = some (x : Int)) : Rpo s pl o.length := by
  have hr0 : Rc s 0 := .zero h0 (by decide)
  refine ⟨h.idx (hp 0 hr0) (h.zero h0), fun a b ha hb e => ?_, fun a ha => (List.getElem?_eq_some_iff.1 (hp a ha)).1, fun k hk hR => ?_⟩
  · have h1 := hp a ha
    have h2 := hp b hb
    rw [e] at h1
    rw [h1] at h2
    have := Option.some.inj h2
    omega
  · rcases h.pred _ k (hp k hR) with h3 | ⟨j, p, h3, h4, h5⟩
    · exact absurd h3 hk
    · have hpR : Rc s p := ((h.mem _).1 (List.mem_of_getElem? h4)).2
      exact ⟨p, hpR, h5, by rw [h.idx (hp p hpR) h4]; exact h3⟩
end Go.Proofs.Ytnfkdilmoppbpaa

/- The order in which blocks are left, by a contract. -/
namespace Go.Proofs.Ytnfkdilmoppbpaa
open Go.Ax
set_option maxRecDepth 10000
set_option linter.unusedVariables false

def dO (s : List (List Int)) (l : List Bool) (o : List Int) : HP := [(0, .var [.osl 1 (o.map int1)]), (1, .var [.sl false 1 (s.map lst)]), (2, .var [num (-1)]), (3, .var [.fn 119 [.hp 0 0]]), (7, .row 1 (l.map tb)), (5, .var [.hw 7]), (6, .var [.fn 138 [.hp 2 0, .hp 5 0, .hp 1 0, .hp 6 0, .hp 3 0]])]
def dTo (k : Int) : TM := [(0, num k), (1, .hp 2 0), (2, .hp 5 0), (3, .hp 1 0), (4, .hp 6 0), (5, .hp 3 0)]

theorem into_runO (s : List (List Int)) (hs : Closed s) (hsm : ∀ l ∈ s, l.length ≤ 2) (hn : s.length ≤ 1000000) : ∀ (n k : Nat) (l : List Bool) (o : List Int), l.length = s.length → k < s.length → Reaches s (-1) k → falses l ≤ n → OB l o →
    ∀ {K : AV → HP → Nat → Prop}, (∀ l' w, Into s (-1) l k l' → Lv s l l' w (fun x => x = k) → K (asRes []) (dO s l' (o ++ w)) 8) → Run Try.prog 138 (Post.inl 8 K) [.code Try.f138.body.get!] ⟨dTo k, dO s l o, 8, 37⟩ := by
  intro n
  induction n using Nat.strongRecOn with
  | _ n ihn =>
    intro k l o hl hk hr hf hob K hK
    obtain ⟨b, gl, -⟩ := getK (l := l) (k := k) (by omega)
    obtain ⟨r, gr, hrm⟩ := getK (l := s) (k := k) (by omega)
    have hr2 := hsm r hrm
    have hol := hob.len
    refine goI 1000 Try.func138 ?_
    repeat' first | refine Pick.map gl ?_ | refine Len.map ?_ | refine Len.nil ?_ | refine Len.cons ?_ | refine Br.t rfl ?_ | refine Br.f rfl ?_ | refine Fit.au ?_ | refine Need.au ?_ | refine Pick.map (by assumption) ?_ | refine Pick.mapI (by omega) (by assumption) ?_ | refine PickN.mk _ (by assumption) ?_ | refine PickN.mk _ rfl ?_ | refine PickN.au ?_ | refine App.au rfl ?_ | refine App.au (own_map (fun _ => rfl) _) ?_ | refine Both.mk ?_ ?_ | exact True.intro | refine Br.d (fun h => ?_) (fun h => ?_) | refine Br.nd (fun h => ?_) (fun h => ?_) | refine Br.mk (fun h => ?_) (fun h => ?_)
    · have hb : b = true := by assumption
      subst hb
      have := hK l [] (.stays fun _ => by simpa using gl) .start
      rw [List.append_nil] at this
      exact this
    · have hb : b = false := by simp_all
      subst hb
      have hm := falses_set gl
      repeat' first | refine PickN.map gl ?_ | refine Pick.map gr ?_ | refine Len.map ?_ | refine Len.nil ?_ | refine Len.cons ?_ | refine Br.t rfl ?_ | refine Br.f rfl ?_ | refine Fit.au ?_ | refine Need.au ?_ | refine Pick.map (by assumption) ?_ | refine Pick.mapI (by omega) (by assumption) ?_ | refine PickN.mk _ (by assumption) ?_ | refine PickN.mk _ rfl ?_ | refine PickN.au ?_ | refine App.au rfl ?_ | refine App.au (own_map (fun _ => rfl) _) ?_ | refine Both.mk ?_ ?_ | exact True.intro
      have el : (l.map tb).set k [AV.lit (Value.bool true)] = (l.set k true).map tb := by rw [List.map_set]; rfl
      refine Stop.mk (loop_in (g := []) (fun p : Nat × List Bool × List Int => [(24, ints r), (25, num r.length), (26, num p.1), (0, num k), (1, .hp 2 0), (2, .hp 5 0), (3, .hp 1 0), (4, .hp 6 0), (5, .hp 3 0)]) (fun p => dO s p.2.1 (o ++ p.2.2)) 8 (fun p => p.1 ≤ r.length ∧ Mid s (-1) l k p.1 p.2.1 ∧ Lv s (l.set k true) p.2.1 p.2.2 (Ed s k)) (fun p => r.length - p.1) (0, l.set k true, []) ⟨by omega, .start hr, .start⟩ ?_ (fun p hp ih => ?_))
      · dsimp only [dO]
        rw [← el, List.append_nil]
        exact ⟨rfl, (by repeat' first | exact trivial | refine ⟨rfl, ?_⟩ | refine ⟨congrArg (fun n => AV.lit (.int .i64 n)) (by omega), ?_⟩ | refine ⟨congrArg (fun l => some (Row.row 1 l)) (by simp [int1, num, tru]), ?_⟩), (by repeat' first | exact trivial | refine ⟨rfl, ?_⟩ | refine ⟨congrArg (fun n => AV.lit (.int .i64 n)) (by omega), ?_⟩ | refine ⟨congrArg (fun l => some (Row.row 1 l)) (by simp [int1, num, tru]), ?_⟩)⟩
      obtain ⟨j, l1, w⟩ := p
      obtain ⟨hj, hmid, hlv⟩ := hp
      dsimp only at hj hmid hlv ih ⊢
      have hl1 : l1.length = s.length := by rw [hmid.grows.1, List.length_set, hl]
      have hm1 := hmid.grows.falses
      have hob1 : OB l1 (o ++ w) := (OB.mk hob.nodup fun x hx => ⟨(hob.seen x hx).1, (Grows.set (l := l) (k := k)).2 _ (hob.seen x hx).2⟩ : OB (l.set k true) o).app hlv hmid.grows
      have hol1 := hob1.len
      refine goI 1000 Try.func138 ?_
      repeat' first | refine Len.map ?_ | refine Len.nil ?_ | refine Len.cons ?_ | refine Br.t rfl ?_ | refine Br.f rfl ?_ | refine Fit.au ?_ | refine Need.au ?_ | refine Pick.map (by assumption) ?_ | refine Pick.mapI (by omega) (by assumption) ?_ | refine PickN.mk _ (by assumption) ?_ | refine PickN.mk _ rfl ?_ | refine PickN.au ?_ | refine App.au rfl ?_ | refine App.au (own_map (fun _ => rfl) _) ?_ | refine Both.mk ?_ ?_ | exact True.intro
      refine Br.d (fun h2 => ?_) (fun h2 => ?_)
      · obtain ⟨t, gt, gtm⟩ := getK (l := r) (k := j) (by omega)
        have htp := hs r hrm t gtm
        obtain ⟨u, rfl⟩ : ∃ u : Nat, t = (u : Int) := ⟨t.toNat, by omega⟩
        repeat' first | refine Pick.map gt ?_ | refine Len.map ?_ | refine Len.nil ?_ | refine Len.cons ?_ | refine Br.t rfl ?_ | refine Br.f rfl ?_ | refine Fit.au ?_ | refine Need.au ?_ | refine Pick.map (by assumption) ?_ | refine Pick.mapI (by omega) (by assumption) ?_ | refine PickN.mk _ (by assumption) ?_ | refine PickN.mk _ rfl ?_ | refine PickN.au ?_ | refine App.au rfl ?_ | refine App.au (own_map (fun _ => rfl) _) ?_ | refine Both.mk ?_ ?_ | exact True.intro
        refine Dyn.mk _ _ rfl rfl rfl (Run.fr (tm' := dTo u) (hp' := dO s l1 (o ++ w)) (nx' := 8) (ihn (falses l1) (by omega) u l1 (o ++ w) hl1 (by omega) (.step hr gr gtm (by omega)) (Nat.le_refl _) hob1 fun l2 w2 hi hl2 => ?_) (g := []) ⟨rfl, (by repeat' first | exact trivial | refine ⟨rfl, ?_⟩ | refine ⟨congrArg (fun n => AV.lit (.int .i64 n)) (by omega), ?_⟩ | refine ⟨congrArg (fun l => some (Row.row 1 l)) (by simp [int1, num, tru]), ?_⟩), (by repeat' first | exact trivial | refine ⟨rfl, ?_⟩ | refine ⟨congrArg (fun n => AV.lit (.int .i64 n)) (by omega), ?_⟩ | refine ⟨congrArg (fun l => some (Row.row 1 l)) (by simp [int1, num, tru]), ?_⟩)⟩)
        repeat' first | refine Len.map ?_ | refine Len.nil ?_ | refine Len.cons ?_ | refine Br.t rfl ?_ | refine Br.f rfl ?_ | refine Fit.au ?_ | refine Need.au ?_ | refine Pick.map (by assumption) ?_ | refine Pick.mapI (by omega) (by assumption) ?_ | refine PickN.mk _ (by assumption) ?_ | refine PickN.mk _ rfl ?_ | refine PickN.au ?_ | refine App.au rfl ?_ | refine App.au (own_map (fun _ => rfl) _) ?_ | refine Both.mk ?_ ?_ | exact True.intro
        refine Stop.mk (ih (j + 1, l2, w ++ w2) (g := []) _ _ _ ⟨by simp only; omega, hmid.next gr gt hi, hlv.next hl2 ⟨r, gr, gtm⟩ hmid.grows hi.grows⟩ (by simp only; omega) ?_)
        dsimp only [dO]
        rw [← List.append_assoc]
        exact ⟨rfl, (by repeat' first | exact trivial | refine ⟨rfl, ?_⟩ | refine ⟨congrArg (fun n => AV.lit (.int .i64 n)) (by omega), ?_⟩ | refine ⟨congrArg (fun l => some (Row.row 1 l)) (by simp [int1, num, tru]), ?_⟩), (by repeat' first | exact trivial | refine ⟨rfl, ?_⟩ | refine ⟨congrArg (fun n => AV.lit (.int .i64 n)) (by omega), ?_⟩ | refine ⟨congrArg (fun l => some (Row.row 1 l)) (by simp [int1, num, tru]), ?_⟩)⟩
      · repeat' first | refine Len.map ?_ | refine Len.nil ?_ | refine Len.cons ?_ | refine Br.t rfl ?_ | refine Br.f rfl ?_ | refine Fit.au ?_ | refine Need.au ?_ | refine Pick.map (by assumption) ?_ | refine Pick.mapI (by omega) (by assumption) ?_ | refine PickN.mk _ (by assumption) ?_ | refine PickN.mk _ rfl ?_ | refine PickN.au ?_ | refine App.au rfl ?_ | refine App.au (own_map (fun _ => rfl) _) ?_ | refine Both.mk ?_ ?_ | exact True.intro
        have hend := hlv.end gl hmid.grows
        have hob2 := hob.app hend (Grows.set.trans hmid.grows)
        have hol2 := hob2.len
        rw [← List.append_assoc] at hol2
        simp only [List.length_append, List.length_cons, List.length_nil] at hol2
        refine Dyn.mk _ _ rfl rfl rfl (Run.fr (tm' := [(0, num k), (1, .hp 0 0)]) (hp' := dO s l1 (o ++ w)) (nx' := 8) (goI 7 Try.func119 ?_) (g := []) ⟨rfl, (by repeat' first | exact trivial | refine ⟨rfl, ?_⟩ | refine ⟨congrArg (fun n => AV.lit (.int .i64 n)) (by omega), ?_⟩ | refine ⟨congrArg (fun l => some (Row.row 1 l)) (by simp [int1, num, tru]), ?_⟩), (by repeat' first | exact trivial | refine ⟨rfl, ?_⟩ | refine ⟨congrArg (fun n => AV.lit (.int .i64 n)) (by omega), ?_⟩ | refine ⟨congrArg (fun l => some (Row.row 1 l)) (by simp [int1, num, tru]), ?_⟩)⟩)
        have hll : (o ++ w).length ≤ 1000000 := by simp only [List.length_append]; omega
        generalize hov : o ++ w = ov at *
        repeat' first | refine Len.map ?_ | refine Len.nil ?_ | refine Len.cons ?_ | refine Br.t rfl ?_ | refine Br.f rfl ?_ | refine Fit.au ?_ | refine Need.au ?_ | refine Pick.map (by assumption) ?_ | refine Pick.mapI (by omega) (by assumption) ?_ | refine PickN.mk _ (by assumption) ?_ | refine PickN.mk _ rfl ?_ | refine PickN.au ?_ | refine App.au rfl ?_ | refine App.au (own_map (fun _ => rfl) _) ?_ | refine Both.mk ?_ ?_ | exact True.intro
        have := hK l1 (w ++ [(k : Int)]) (hmid.end gr (by omega) (by omega)) hend
        rw [← List.append_assoc, hov] at this
        refine Stop.mk (Run.fr (g := []) (tm' := []) (hp' := dO s l1 (ov ++ [(k : Int)])) (nx' := 8) ?_ ?_)
        · refine goI 1000 Try.func119 ?_
          repeat' first | refine Len.map ?_ | refine Len.nil ?_ | refine Len.cons ?_ | refine Br.t rfl ?_ | refine Br.f rfl ?_ | refine Fit.au ?_ | refine Need.au ?_ | refine Pick.map (by assumption) ?_ | refine Pick.mapI (by omega) (by assumption) ?_ | refine PickN.mk _ (by assumption) ?_ | refine PickN.mk _ rfl ?_ | refine PickN.au ?_ | refine App.au rfl ?_ | refine App.au (own_map (fun _ => rfl) _) ?_ | refine Both.mk ?_ ?_ | exact True.intro
          exact this
        · unfold dO
          rw [List.map_append]
          exact ⟨rfl, (by repeat' first | exact trivial | refine ⟨rfl, ?_⟩ | refine ⟨congrArg (fun n => AV.lit (.int .i64 n)) (by omega), ?_⟩ | refine ⟨congrArg (fun l => some (Row.row 1 l)) (by simp [int1, num, tru]), ?_⟩), (by repeat' first | exact trivial | refine ⟨rfl, ?_⟩ | refine ⟨congrArg (fun n => AV.lit (.int .i64 n)) (by omega), ?_⟩ | refine ⟨congrArg (fun l => some (Row.row 1 l)) (by simp [int1, num, tru]), ?_⟩)⟩

theorem through_runO (s : List (List Int)) (hs : Closed s) (hsm : ∀ l ∈ s, l.length ≤ 2) (hn : s.length ≤ 1000000) {K : AV → HP → Nat → Prop} (hK : ∀ l w, w.length ≤ s.length → OrdP s w.reverse → K (.hw 7) (dO s l w) 8) :
    Run Try.prog 118 (Post.inl 1 K) [.code Try.f118.body.get!] ⟨[(0, .sl false 1 (s.map lst)), (1, num (-1)), (2, .fn 119 [.hp 0 0])], [(0, .var [.osl 1 []])], 1, 19⟩ := by
  refine goI 24 Try.func118 ?_
  repeat' first | refine MkS.mk s.length rfl rfl (by omega) (by omega) ?_ | refine Len.map ?_ | refine Len.nil ?_ | refine Len.cons ?_ | refine Br.t rfl ?_ | refine Br.f rfl ?_ | refine Fit.au ?_ | refine Need.au ?_ | refine Pick.map (by assumption) ?_ | refine Pick.mapI (by omega) (by assumption) ?_ | refine PickN.mk _ (by assumption) ?_ | refine PickN.mk _ rfl ?_ | refine PickN.au ?_ | refine App.au rfl ?_ | refine App.au (own_map (fun _ => rfl) _) ?_ | refine Both.mk ?_ ?_ | exact True.intro
  refine Stop.mk (run_unfold 5 0 rfl rfl ?_)
  have er : (List.replicate s.length (List.map AV.lit [Value.bool false])) = (List.replicate s.length false).map tb := by rw [List.map_replicate]; rfl
  refine Run.fr (g := []) (tm' := [(7, .hp 5 0), (8, .hp 6 0), (3, .hp 1 0)]) (hp' := dO s (List.replicate s.length false) []) (nx' := 8) ?_ ?_
  rotate_left
  · dsimp only [dO]
    rw [← er]
    exact ⟨rfl, (by repeat' first | exact trivial | refine ⟨rfl, ?_⟩ | refine ⟨congrArg (fun n => AV.lit (.int .i64 n)) (by omega), ?_⟩ | refine ⟨congrArg (fun l => some (Row.row 1 l)) (by simp [int1, num, tru]), ?_⟩), (by repeat' first | exact trivial | refine ⟨rfl, ?_⟩ | refine ⟨congrArg (fun n => AV.lit (.int .i64 n)) (by omega), ?_⟩ | refine ⟨congrArg (fun l => some (Row.row 1 l)) (by simp [int1, num, tru]), ?_⟩)⟩
  refine goI 1000 Try.func118 ?_
  repeat' first | refine Len.map ?_ | refine Len.nil ?_ | refine Len.cons ?_ | refine Br.t rfl ?_ | refine Br.f rfl ?_ | refine Fit.au ?_ | refine Need.au ?_ | refine Pick.map (by assumption) ?_ | refine Pick.mapI (by omega) (by assumption) ?_ | refine PickN.mk _ (by assumption) ?_ | refine PickN.mk _ rfl ?_ | refine PickN.au ?_ | refine App.au rfl ?_ | refine App.au (own_map (fun _ => rfl) _) ?_ | refine Both.mk ?_ ?_ | exact True.intro | refine Br.d (fun h => ?_) (fun h => ?_) | refine Br.nd (fun h => ?_) (fun h => ?_) | refine Br.mk (fun h => ?_) (fun h => ?_)
  · have hpos : 0 < s.length := by omega
    repeat' first | refine Len.map ?_ | refine Len.nil ?_ | refine Len.cons ?_ | refine Br.t rfl ?_ | refine Br.f rfl ?_ | refine Fit.au ?_ | refine Need.au ?_ | refine Pick.map (by assumption) ?_ | refine Pick.mapI (by omega) (by assumption) ?_ | refine PickN.mk _ (by assumption) ?_ | refine PickN.mk _ rfl ?_ | refine PickN.au ?_ | refine App.au rfl ?_ | refine App.au (own_map (fun _ => rfl) _) ?_ | refine Both.mk ?_ ?_ | exact True.intro
    refine Dyn.mk _ _ rfl rfl rfl (Run.fr (tm' := dTo 0) (hp' := dO s (List.replicate s.length false) []) (nx' := 8) (into_runO s hs hsm hn _ 0 _ [] (by simp) hpos (.zero (fun e => by subst e; exact absurd hpos (by decide)) (by decide)) (Nat.le_refl _) .nil fun l2 w hi hl2 => ?_) (g := []) ⟨rfl, (by repeat' first | exact trivial | refine ⟨rfl, ?_⟩ | refine ⟨congrArg (fun n => AV.lit (.int .i64 n)) (by omega), ?_⟩ | refine ⟨congrArg (fun l => some (Row.row 1 l)) (by simp [int1, num, tru]), ?_⟩), (by repeat' first | exact trivial | refine ⟨rfl, ?_⟩ | refine ⟨congrArg (fun n => AV.lit (.int .i64 n)) (by omega), ?_⟩ | refine ⟨congrArg (fun l => some (Row.row 1 l)) (by simp [int1, num, tru]), ?_⟩)⟩)
    repeat' first | refine Len.map ?_ | refine Len.nil ?_ | refine Len.cons ?_ | refine Br.t rfl ?_ | refine Br.f rfl ?_ | refine Fit.au ?_ | refine Need.au ?_ | refine Pick.map (by assumption) ?_ | refine Pick.mapI (by omega) (by assumption) ?_ | refine PickN.mk _ (by assumption) ?_ | refine PickN.mk _ rfl ?_ | refine PickN.au ?_ | refine App.au rfl ?_ | refine App.au (own_map (fun _ => rfl) _) ?_ | refine Both.mk ?_ ?_ | exact True.intro
    have hw : w.length ≤ s.length := by
      have := (OB.nil.app hl2 hi.grows).len
      rw [List.nil_append, hi.grows.1] at this
      simpa using this
    exact hK l2 w hw (hl2.ord (hi.marks hs))
  · have e0 : s = [] := by cases s with | nil => rfl | cons a s => simp at *
    subst e0
    repeat' first | refine Len.map ?_ | refine Len.nil ?_ | refine Len.cons ?_ | refine Br.t rfl ?_ | refine Br.f rfl ?_ | refine Fit.au ?_ | refine Need.au ?_ | refine Pick.map (by assumption) ?_ | refine Pick.mapI (by omega) (by assumption) ?_ | refine PickN.mk _ (by assumption) ?_ | refine PickN.mk _ rfl ?_ | refine PickN.au ?_ | refine App.au rfl ?_ | refine App.au (own_map (fun _ => rfl) _) ?_ | refine Both.mk ?_ ?_ | exact True.intro
    exact hK [] [] (by simp) .nil
end Go.Proofs.Ytnfkdilmoppbpaa

/- The order of reached blocks, by a contract. -/
namespace Go.Proofs.Ytnfkdilmoppbpaa
open Go.Ax
set_option maxRecDepth 10000
set_option linter.unusedVariables false

/-- A list whose first ones, and last ones, have changed places. -/
def swp (l : List Int) (i : Nat) : List Int := (List.range l.length).map fun x => if x < i ∨ l.length - i ≤ x then l.getD (l.length - 1 - x) 0 else l.getD x 0
theorem swp_len (l : List Int) (i : Nat) : (swp l i).length = l.length := by unfold swp; simp
theorem swp_at {l : List Int} {i x : Nat} (h : x < l.length) : (swp l i)[x]? = some (if x < i ∨ l.length - i ≤ x then l.getD (l.length - 1 - x) 0 else l.getD x 0) := by
  unfold swp
  rw [List.getElem?_map, List.getElem?_range h]; rfl
theorem swp_zero (l : List Int) : swp l 0 = l := by
  apply List.ext_getElem?
  intro x
  by_cases h : x < l.length
  · rw [swp_at h, if_neg (by omega), List.getD_eq_getElem?_getD, List.getElem?_eq_getElem h]; rfl
  · rw [List.getElem?_eq_none (by rw [swp_len]; omega), List.getElem?_eq_none (by omega)]
theorem swp_end {l : List Int} {i : Nat} (h : l.length - 1 ≤ i + i) : swp l i = l.reverse := by
  apply List.ext_getElem?
  intro x
  by_cases hx : x < l.length
  · rw [swp_at hx, List.getElem?_reverse hx]
    by_cases e : x < i ∨ l.length - i ≤ x
    · rw [if_pos e, List.getD_eq_getElem?_getD, List.getElem?_eq_getElem (by omega)]; rfl
    · rw [if_neg e, List.getD_eq_getElem?_getD, show l.length - 1 - x = x by omega, List.getElem?_eq_getElem hx]; rfl
  · rw [List.getElem?_eq_none (by rw [swp_len]; omega), List.getElem?_eq_none (by rw [List.length_reverse]; omega)]
theorem swp_succ {l : List Int} {i : Nat} {a b : Int} (h : i + i < l.length - 1) (ga : (swp l i)[i]? = some a) (gb : (swp l i)[l.length - 1 - i]? = some b) : ((swp l i).set i b).set (l.length - 1 - i) a = swp l (i + 1) := by
  rw [swp_at (by omega), if_neg (by omega)] at ga gb
  apply List.ext_getElem?
  intro x
  by_cases hx : x < l.length
  · rw [swp_at hx, List.getElem?_set, List.getElem?_set, List.length_set, swp_len]
    by_cases e1 : l.length - 1 - i = x
    · subst e1
      rw [if_pos rfl, if_pos (by omega), if_pos (by omega), ← ga, show l.length - 1 - (l.length - 1 - i) = i by omega]
    · rw [if_neg e1]
      by_cases e2 : i = x
      · subst e2
        rw [if_pos rfl, if_pos (by omega), if_pos (by omega), ← gb]
      · rw [if_neg e2, swp_at hx]
        by_cases e3 : x < i ∨ l.length - i ≤ x
        · rw [if_pos e3, if_pos (by omega)]
        · rw [if_neg e3, if_neg (by omega)]
  · rw [List.getElem?_eq_none (by rw [List.length_set, List.length_set, swp_len]; omega), List.getElem?_eq_none (by rw [swp_len]; omega)]

theorem Order93_spec (f : Fun) (hf : f.fits) (hn : f.blocks.length ≤ 1000000) : FnSpec Try.prog 93 [funA f] (fun r => ∃ o : List Int, r = .osl 1 (o.map int1) ∧ o.length ≤ f.blocks.length ∧ OrdP (succsF f) o) := by
  have hcl := succsF_closed f
  have hsm := succsF_small f
  have hsn : (succsF f).length ≤ 1000000 := by rw [succsF_len]; exact hn
  refine spec_of 1000 Try.func93 rfl rfl ?_
  repeat' first | refine Call.eq (Succs95_spec f hf hn) rfl ?_ | refine Len.map ?_ | refine Len.nil ?_ | refine Len.cons ?_ | refine Br.t rfl ?_ | refine Br.f rfl ?_ | refine Fit.au ?_ | refine Need.au ?_ | refine Pick.map (by assumption) ?_ | refine Pick.mapI (by omega) (by assumption) ?_ | refine PickN.mk _ (by assumption) ?_ | refine PickN.mk _ rfl ?_ | refine PickN.au ?_ | refine App.au rfl ?_ | refine App.au (own_map (fun _ => rfl) _) ?_ | refine Both.mk ?_ ?_ | exact True.intro
  refine Look.stop (Stop.mk ?_)
  refine run_frzR 2 rfl (fzLL_map fz_olsts _) ?_
  refine run_varLe 1 rfl (.cons (VLe.onil (sz := 1)) .nil) ?_
  have hsl := succsF_len f
  generalize succsF f = s at *
  refine Run.fr (g := [(0, 1)]) (tm' := [(5, .sl false 1 (s.map lst)), (3, .hp 0 0), (6, .fn 119 [.hp 0 0])]) (hp' := [(0, .var [.osl 1 []])]) (nx' := 1) ?_ ⟨rfl, (by repeat' first | exact trivial | refine ⟨rfl, ?_⟩ | refine ⟨congrArg (fun n => AV.lit (.int .i64 n)) (by omega), ?_⟩ | refine ⟨congrArg (fun l => some (Row.row 1 l)) (by simp [int1, num, tru]), ?_⟩), (by repeat' first | exact trivial | refine ⟨rfl, ?_⟩ | refine ⟨congrArg (fun n => AV.lit (.int .i64 n)) (by omega), ?_⟩ | refine ⟨congrArg (fun l => some (Row.row 1 l)) (by simp [int1, num, tru]), ?_⟩)⟩
  refine run_inlC rfl want_none rfl rfl rfl rfl rfl rfl rfl (through_runO _ hcl hsm hsn fun l w hwl how => ?_)
  refine Run.fr (g := []) (tm' := [(3, .hp 0 0)]) (hp' := [(0, .var [.osl 1 (w.map int1)])]) (nx' := 1) ?_ ⟨rfl, (by repeat' first | exact trivial | refine ⟨rfl, ?_⟩ | refine ⟨congrArg (fun n => AV.lit (.int .i64 n)) (by omega), ?_⟩ | refine ⟨congrArg (fun l => some (Row.row 1 l)) (by simp [int1, num, tru]), ?_⟩), (by repeat' first | exact trivial | refine ⟨rfl, ?_⟩ | refine ⟨congrArg (fun n => AV.lit (.int .i64 n)) (by omega), ?_⟩ | refine ⟨congrArg (fun l => some (Row.row 1 l)) (by simp [int1, num, tru]), ?_⟩)⟩
  refine run_unfold 0 0 rfl rfl ?_
  refine go 1000 Try.func93 ?_
  repeat' first | refine Len.map ?_ | refine Len.nil ?_ | refine Len.cons ?_ | refine Br.t rfl ?_ | refine Br.f rfl ?_ | refine Fit.au ?_ | refine Need.au ?_ | refine Pick.map (by assumption) ?_ | refine Pick.mapI (by omega) (by assumption) ?_ | refine PickN.mk _ (by assumption) ?_ | refine PickN.mk _ rfl ?_ | refine PickN.au ?_ | refine App.au rfl ?_ | refine App.au (own_map (fun _ => rfl) _) ?_ | refine Both.mk ?_ ?_ | exact True.intro
  refine Look.stop (Stop.mk ?_)
  refine run_inlC rfl want_none rfl rfl rfl rfl rfl rfl rfl (goI 1000 Try.func120 ?_)
  repeat' first | refine Len.map ?_ | refine Len.nil ?_ | refine Len.cons ?_ | refine Br.t rfl ?_ | refine Br.f rfl ?_ | refine Fit.au ?_ | refine Need.au ?_ | refine Pick.map (by assumption) ?_ | refine Pick.mapI (by omega) (by assumption) ?_ | refine PickN.mk _ (by assumption) ?_ | refine PickN.mk _ rfl ?_ | refine PickN.au ?_ | refine App.au rfl ?_ | refine App.au (own_map (fun _ => rfl) _) ?_ | refine Both.mk ?_ ?_ | exact True.intro
  refine Stop.mk (loop_in (g := []) (fun p : Nat × Int => [(0, .hw 1), (2, num p.1), (3, num p.2)]) (fun p => [(1, .row 1 ((swp w p.1).map int1)), (0, .var [.hw 1])]) 2 (fun p => p.2 = (w.length : Int) - 1 - p.1 ∧ (p.1 : Int) ≤ p.2 + 1) (fun p => w.length - p.1) (0, (w.length : Int) - 1) ⟨by simp only; omega, by simp only; omega⟩ ?_ (fun p hp ih => ?_))
  · dsimp only
    rw [swp_zero]
    exact ⟨rfl, (by repeat' first | exact trivial | refine ⟨rfl, ?_⟩ | refine ⟨congrArg (fun n => AV.lit (.int .i64 n)) (by omega), ?_⟩ | refine ⟨congrArg (fun l => some (Row.row 1 l)) (by simp [int1, num, tru]), ?_⟩), (by repeat' first | exact trivial | refine ⟨rfl, ?_⟩ | refine ⟨congrArg (fun n => AV.lit (.int .i64 n)) (by omega), ?_⟩ | refine ⟨congrArg (fun l => some (Row.row 1 l)) (by simp [int1, num, tru]), ?_⟩)⟩
  obtain ⟨i, e⟩ := p
  obtain ⟨he, hie⟩ := hp
  dsimp only at he hie ih ⊢
  have hsw := swp_len w i
  refine goI 1000 Try.func120 ?_
  repeat' first | refine Len.map ?_ | refine Len.nil ?_ | refine Len.cons ?_ | refine Br.t rfl ?_ | refine Br.f rfl ?_ | refine Fit.au ?_ | refine Need.au ?_ | refine Pick.map (by assumption) ?_ | refine Pick.mapI (by omega) (by assumption) ?_ | refine PickN.mk _ (by assumption) ?_ | refine PickN.mk _ rfl ?_ | refine PickN.au ?_ | refine App.au rfl ?_ | refine App.au (own_map (fun _ => rfl) _) ?_ | refine Both.mk ?_ ?_ | exact True.intro
  refine Br.d (fun h2 => ?_) (fun h2 => ?_)
  · obtain ⟨j, rfl⟩ : ∃ j : Nat, e = (j : Int) := ⟨e.toNat, by omega⟩
    obtain ⟨a, ga, -⟩ := getK (l := swp w i) (k := i) (by omega)
    obtain ⟨b, gb, -⟩ := getK (l := swp w i) (k := j) (by omega)
    have hj : j = w.length - 1 - i := by omega
    have hnx := swp_succ (l := w) (i := i) (by omega) ga (by rw [← hj]; exact gb)
    rw [← hj] at hnx
    have gb2 : (((swp w i).map int1).set i (int1 b))[j]? = some (int1 b) := by rw [List.getElem?_set, if_neg (by omega), List.getElem?_map, gb]; rfl
    repeat' first | refine Draw.mk (ordL [13, 15] [0, 1, 2, 3, 4, 5, 6, 7, 8, 9, 10, 11, 12, 13, 14, 15]) (by decide +kernel) ?_ | refine PickN.map ga ?_ | refine PickN.map gb ?_ | refine PickN.mk _ gb2 ?_ | refine Len.map ?_ | refine Len.nil ?_ | refine Len.cons ?_ | refine Br.t rfl ?_ | refine Br.f rfl ?_ | refine Fit.au ?_ | refine Need.au ?_ | refine Pick.map (by assumption) ?_ | refine Pick.mapI (by omega) (by assumption) ?_ | refine PickN.mk _ (by assumption) ?_ | refine PickN.mk _ rfl ?_ | refine PickN.au ?_ | refine App.au rfl ?_ | refine App.au (own_map (fun _ => rfl) _) ?_ | refine Both.mk ?_ ?_ | exact True.intro
    refine Stop.mk (ih (i + 1, (j : Int) - 1) (g := []) _ _ _ ⟨by simp only; omega, by simp only; omega⟩ (by simp only; omega) ?_)
    dsimp only
    rw [← hnx, List.map_set, List.map_set]
    exact ⟨rfl, (by repeat' first | exact trivial | refine ⟨rfl, ?_⟩ | refine ⟨congrArg (fun n => AV.lit (.int .i64 n)) (by omega), ?_⟩ | refine ⟨congrArg (fun l => some (Row.row 1 l)) (by simp [int1, num, tru]), ?_⟩), (by repeat' first | exact trivial | refine ⟨rfl, ?_⟩ | refine ⟨congrArg (fun n => AV.lit (.int .i64 n)) (by omega), ?_⟩ | refine ⟨congrArg (fun l => some (Row.row 1 l)) (by simp [int1, num, tru]), ?_⟩)⟩
  · repeat' first | refine Len.map ?_ | refine Len.nil ?_ | refine Len.cons ?_ | refine Br.t rfl ?_ | refine Br.f rfl ?_ | refine Fit.au ?_ | refine Need.au ?_ | refine Pick.map (by assumption) ?_ | refine Pick.mapI (by omega) (by assumption) ?_ | refine PickN.mk _ (by assumption) ?_ | refine PickN.mk _ rfl ?_ | refine PickN.au ?_ | refine App.au rfl ?_ | refine App.au (own_map (fun _ => rfl) _) ?_ | refine Both.mk ?_ ?_ | exact True.intro
    refine go 1000 Try.func93 ?_
    repeat' first | refine Len.map ?_ | refine Len.nil ?_ | refine Len.cons ?_ | refine Br.t rfl ?_ | refine Br.f rfl ?_ | refine Fit.au ?_ | refine Need.au ?_ | refine Pick.map (by assumption) ?_ | refine Pick.mapI (by omega) (by assumption) ?_ | refine PickN.mk _ (by assumption) ?_ | refine PickN.mk _ rfl ?_ | refine PickN.au ?_ | refine App.au rfl ?_ | refine App.au (own_map (fun _ => rfl) _) ?_ | refine Both.mk ?_ ?_ | exact True.intro
    refine ⟨swp w i, rfl, by rw [hsw]; omega, ?_⟩
    rw [swp_end (by omega)]
    exact how
end Go.Proofs.Ytnfkdilmoppbpaa

/- The last one that stands above two, by a contract. -/
namespace Go.Proofs.Ytnfkdilmoppbpaa
open Go.Ax
set_option maxRecDepth 10000
set_option linter.unusedVariables false

/-- Chains go up by places. -/
structure Tame (pl : Nat → Nat) (l pls : List Int) (dn : Nat → Prop) : Prop where
  up : ∀ x, x ≠ 0 → dn x → dn (par l x) ∧ pl (par l x) < pl x ∧ l[x]? = some (par l x : Int)
  at_ : ∀ x, dn x → pls[x]? = some (pl x : Int)
  inj : ∀ x y, dn x → dn y → pl x = pl y → x = y
  zero : pl 0 = 0
theorem Tame.anc {pl : Nat → Nat} {l pls : List Int} {dn : Nat → Prop} (h : Tame pl l pls dn) {a x : Nat} (ha : Anc l a x) (hx : dn x) : pl a ≤ pl x := by
  induction ha with
  | self => exact Nat.le_refl _
  | up hne _ ih =>
    obtain ⟨h1, h2, -⟩ := h.up _ hne hx
    have := ih h1
    omega
theorem Tame.climb {pl : Nat → Nat} {l pls : List Int} {dn : Nat → Prop} (h : Tame pl l pls dn) {a b x : Nat} (hb : dn b) (ha0 : a ≠ 0) (hl : pl b < pl a) : (Anc l x (par l a) ∧ Anc l x b) ↔ (Anc l x a ∧ Anc l x b) := by
  constructor
  · rintro ⟨h1, h2⟩; exact ⟨.up ha0 h1, h2⟩
  · rintro ⟨h1, h2⟩
    refine ⟨(h1.more fun e => ?_).2, h2⟩
    subst e
    have := h.anc h2 hb
    omega
theorem meet94_spec (pl : Nat → Nat) (l pls : List Int) (dn : Nat → Prop) (h : Tame pl l pls dn) (a b : Nat) (ha : dn a) (hb : dn b) : FnSpec Try.prog 94 [ints l, ints pls, num a, num b] (fun r => ∃ N : Nat, r = num N ∧ dn N ∧ ∀ x, Anc l x N ↔ Anc l x a ∧ Anc l x b) := by
  refine spec_of 1000 Try.func94 rfl rfl ?_
  repeat' first | refine Len.map ?_ | refine Len.nil ?_ | refine Len.cons ?_ | refine Br.t rfl ?_ | refine Br.f rfl ?_ | refine Fit.au ?_ | refine Need.au ?_ | refine Pick.map (by assumption) ?_ | refine Pick.mapI (by omega) (by assumption) ?_ | refine PickN.mk _ (by assumption) ?_ | refine PickN.mk _ rfl ?_ | refine PickN.au ?_ | refine App.au rfl ?_ | refine App.au (own_map (fun _ => rfl) _) ?_ | refine Both.mk ?_ ?_ | exact True.intro
  refine Stop.mk (loop_in (g := []) (fun p : Nat × Nat => [(0, ints l), (1, ints pls), (2, num p.1), (3, num p.2)]) (fun p => []) 0 (fun p => dn p.1 ∧ dn p.2 ∧ ∀ x, (Anc l x p.1 ∧ Anc l x p.2) ↔ (Anc l x a ∧ Anc l x b)) (fun p => pl p.1 + pl p.2) (a, b) ⟨ha, hb, fun x => .rfl⟩ ⟨rfl, (by repeat' first | exact trivial | refine ⟨rfl, ?_⟩ | refine ⟨congrArg (fun n => AV.lit (.int .i64 n)) (by omega), ?_⟩ | refine ⟨congrArg (fun l => some (Row.row 1 l)) (by simp [int1, num, tru]), ?_⟩), (by repeat' first | exact trivial | refine ⟨rfl, ?_⟩ | refine ⟨congrArg (fun n => AV.lit (.int .i64 n)) (by omega), ?_⟩ | refine ⟨congrArg (fun l => some (Row.row 1 l)) (by simp [int1, num, tru]), ?_⟩)⟩ (fun p hp ih => ?_))
  obtain ⟨c, d⟩ := p
  obtain ⟨hc, hd, hiff⟩ := hp
  dsimp only at hc hd hiff ih ⊢
  have gc := h.at_ c hc
  have gd := h.at_ d hd
  refine go 1000 Try.func94 ?_
  repeat' first | refine Len.map ?_ | refine Len.nil ?_ | refine Len.cons ?_ | refine Br.t rfl ?_ | refine Br.f rfl ?_ | refine Fit.au ?_ | refine Need.au ?_ | refine Pick.map (by assumption) ?_ | refine Pick.mapI (by omega) (by assumption) ?_ | refine PickN.mk _ (by assumption) ?_ | refine PickN.mk _ rfl ?_ | refine PickN.au ?_ | refine App.au rfl ?_ | refine App.au (own_map (fun _ => rfl) _) ?_ | refine Both.mk ?_ ?_ | exact True.intro
  refine Br.nd (fun h2 => ?_) (fun h2 => ?_)
  · have hne : c ≠ d := fun e => h2 (by rw [e])
    repeat' first | refine Draw.mk (ordL [] [0, 1, 2, 3, 4, 5, 6, 7, 8]) (by decide +kernel) ?_ | refine Pick.map gc ?_ | refine Pick.map gd ?_ | refine Len.map ?_ | refine Len.nil ?_ | refine Len.cons ?_ | refine Br.t rfl ?_ | refine Br.f rfl ?_ | refine Fit.au ?_ | refine Need.au ?_ | refine Pick.map (by assumption) ?_ | refine Pick.mapI (by omega) (by assumption) ?_ | refine PickN.mk _ (by assumption) ?_ | refine PickN.mk _ rfl ?_ | refine PickN.au ?_ | refine App.au rfl ?_ | refine App.au (own_map (fun _ => rfl) _) ?_ | refine Both.mk ?_ ?_ | exact True.intro
    refine Br.d (fun h3 => ?_) (fun h3 => ?_)
    · have hc0 : c ≠ 0 := fun e => by subst e; have := h.zero; omega
      obtain ⟨u1, u2, u3⟩ := h.up c hc0 hc
      repeat' first | refine Pick.map u3 ?_ | refine Len.map ?_ | refine Len.nil ?_ | refine Len.cons ?_ | refine Br.t rfl ?_ | refine Br.f rfl ?_ | refine Fit.au ?_ | refine Need.au ?_ | refine Pick.map (by assumption) ?_ | refine Pick.mapI (by omega) (by assumption) ?_ | refine PickN.mk _ (by assumption) ?_ | refine PickN.mk _ rfl ?_ | refine PickN.au ?_ | refine App.au rfl ?_ | refine App.au (own_map (fun _ => rfl) _) ?_ | refine Both.mk ?_ ?_ | exact True.intro
      exact Stop.mk (ih (par l c, d) (g := []) _ _ _ ⟨u1, hd, fun x => (h.climb hd hc0 (by omega)).trans (hiff x)⟩ (by simp only; omega) ⟨rfl, (by repeat' first | exact trivial | refine ⟨rfl, ?_⟩ | refine ⟨congrArg (fun n => AV.lit (.int .i64 n)) (by omega), ?_⟩ | refine ⟨congrArg (fun l => some (Row.row 1 l)) (by simp [int1, num, tru]), ?_⟩), (by repeat' first | exact trivial | refine ⟨rfl, ?_⟩ | refine ⟨congrArg (fun n => AV.lit (.int .i64 n)) (by omega), ?_⟩ | refine ⟨congrArg (fun l => some (Row.row 1 l)) (by simp [int1, num, tru]), ?_⟩)⟩)
    · have hlt : pl c < pl d := by
        have : pl c ≠ pl d := fun e => hne (h.inj c d hc hd e)
        omega
      have hd0 : d ≠ 0 := fun e => by subst e; have := h.zero; omega
      obtain ⟨u1, u2, u3⟩ := h.up d hd0 hd
      repeat' first | refine Pick.map u3 ?_ | refine Len.map ?_ | refine Len.nil ?_ | refine Len.cons ?_ | refine Br.t rfl ?_ | refine Br.f rfl ?_ | refine Fit.au ?_ | refine Need.au ?_ | refine Pick.map (by assumption) ?_ | refine Pick.mapI (by omega) (by assumption) ?_ | refine PickN.mk _ (by assumption) ?_ | refine PickN.mk _ rfl ?_ | refine PickN.au ?_ | refine App.au rfl ?_ | refine App.au (own_map (fun _ => rfl) _) ?_ | refine Both.mk ?_ ?_ | exact True.intro
      exact Stop.mk (ih (c, par l d) (g := []) _ _ _ ⟨hc, u1, fun x => (and_comm.trans ((h.climb hc hd0 hlt).trans and_comm)).trans (hiff x)⟩ (by simp only; omega) ⟨rfl, (by repeat' first | exact trivial | refine ⟨rfl, ?_⟩ | refine ⟨congrArg (fun n => AV.lit (.int .i64 n)) (by omega), ?_⟩ | refine ⟨congrArg (fun l => some (Row.row 1 l)) (by simp [int1, num, tru]), ?_⟩), (by repeat' first | exact trivial | refine ⟨rfl, ?_⟩ | refine ⟨congrArg (fun n => AV.lit (.int .i64 n)) (by omega), ?_⟩ | refine ⟨congrArg (fun l => some (Row.row 1 l)) (by simp [int1, num, tru]), ?_⟩)⟩)
  · have hcd : c = d := by omega
    subst hcd
    repeat' first | refine Len.map ?_ | refine Len.nil ?_ | refine Len.cons ?_ | refine Br.t rfl ?_ | refine Br.f rfl ?_ | refine Fit.au ?_ | refine Need.au ?_ | refine Pick.map (by assumption) ?_ | refine Pick.mapI (by omega) (by assumption) ?_ | refine PickN.mk _ (by assumption) ?_ | refine PickN.mk _ rfl ?_ | refine PickN.au ?_ | refine App.au rfl ?_ | refine App.au (own_map (fun _ => rfl) _) ?_ | refine Both.mk ?_ ?_ | exact True.intro
    exact ⟨c, rfl, hc, fun x => ⟨fun h3 => (hiff x).1 ⟨h3, h3⟩, fun h3 => ((hiff x).2 h3).1⟩⟩
end Go.Proofs.Ytnfkdilmoppbpaa

/- The next dominators, by a contract. -/
namespace Go.Proofs.Ytnfkdilmoppbpaa
open Go.Ax
set_option maxRecDepth 10000
set_option linter.unusedVariables false

theorem fzi (l : List Int) : AV.fzLL (l.map int1) = l.map int1 := fzLL_map (enc2 := int1) (fun _ => rfl) l
def iniL (n k : Nat) : List Int := List.replicate k (-1) ++ List.replicate (n - k) 0
theorem iniL_len {n k : Nat} (h : k ≤ n) : (iniL n k).length = n := by unfold iniL; simp; omega
theorem iniL_set {n k : Nat} (h : k < n) : (iniL n k).set k (-1) = iniL n (k + 1) := by
  unfold iniL
  rw [List.set_append_right _ _ (by simp), List.length_replicate, Nat.sub_self, show n - k = (n - (k + 1)) + 1 by omega, List.replicate_succ, List.set_cons_zero, List.replicate_succ', List.append_assoc]; rfl
theorem iniL_zero (n : Nat) : iniL n 0 = List.replicate n 0 := by unfold iniL; simp
theorem iniL_all (n : Nat) : iniL n n = List.replicate n (-1) := by unfold iniL; simp
def plF (n : Nat) (o : List Int) : Nat → List Int
  | 0 => List.replicate n (-1)
  | i + 1 => (plF n o i).set (o.getD i 0).toNat (i : Int)
theorem plF_len (n : Nat) (o : List Int) : ∀ i, (plF n o i).length = n
  | 0 => by simp [plF]
  | i + 1 => by simp only [plF]; rw [List.length_set, plF_len n o i]
theorem plF_at {n : Nat} {o : List Int} (hnd : o.Nodup) (hb : ∀ x ∈ o, 0 ≤ x ∧ x < n) : ∀ {i : Nat}, i ≤ o.length → ∀ {j : Nat} {x : Int}, j < i → o[j]? = some x → (plF n o i)[x.toNat]? = some (j : Int)
  | i + 1, hi, j, x, hj, gx => by
    have gi : o[i]? = some o[i] := List.getElem?_eq_getElem (by omega)
    have hgd : o.getD i 0 = o[i] := by rw [List.getD_eq_getElem?_getD, gi]; rfl
    have h1 := hb _ (List.mem_of_getElem? gi)
    have h2 := hb _ (List.mem_of_getElem? gx)
    simp only [plF]
    rw [hgd, List.getElem?_set, plF_len]
    by_cases e : j = i
    · subst e
      rw [gi] at gx
      have := Option.some.inj gx
      rw [if_pos (by rw [this]), if_pos (by omega)]
    · have hne : o[i] ≠ x := fun e2 => e (by
        have a := List.getElem?_eq_some_iff.1 gx
        exact (List.getElem_inj hnd).1 (a.2.trans e2.symm))
      rw [if_neg (by omega)]
      exact plF_at hnd hb (by omega) (by omega) gx
theorem plF_no {n : Nat} {o : List Int} (hb : ∀ x ∈ o, 0 ≤ x ∧ x < n) : ∀ {i : Nat}, i ≤ o.length → ∀ {x : Nat}, x < n → (x : Int) ∉ o → (plF n o i)[x]? = some (-1)
  | 0, _, x, hx, _ => by simp only [plF]; rw [List.getElem?_replicate, if_pos hx]
  | i + 1, hi, x, hx, hno => by
    have gi : o[i]? = some o[i] := List.getElem?_eq_getElem (by omega)
    have hgd : o.getD i 0 = o[i] := by rw [List.getD_eq_getElem?_getD, gi]; rfl
    have hm := List.mem_of_getElem? gi
    have h1 := hb _ hm
    simp only [plF]
    rw [hgd, List.getElem?_set, if_neg]
    · exact plF_no hb (by omega) hx hno
    · intro e
      apply hno
      rw [← e, show ((o[i].toNat : Nat) : Int) = o[i] by omega]
      exact hm

set_option maxHeartbeats 4000000 in
theorem Tree67_spec (f : Fun) (hf : f.fits) (hn : f.blocks.length ≤ 1000000) : FnSpec Try.prog 67 [funA f] (fun r => ∃ l : List Int, r = .osl 1 (l.map int1) ∧ TreeP (succsF f) l) := by
  have hcl := succsF_closed f
  have hsl := succsF_len f
  have hO := Order93_spec f hf hn
  have hP := Preds68_spec f hf hn
  refine spec_of 6 Try.func67 rfl rfl ?_
  repeat' first | refine Len.map ?_ | refine Len.nil ?_ | refine Len.cons ?_ | refine Br.t rfl ?_ | refine Br.f rfl ?_ | refine Fit.au ?_ | refine Need.au ?_ | refine Pick.map (by assumption) ?_ | refine Pick.mapI (by omega) (by assumption) ?_ | refine PickN.mk _ (by assumption) ?_ | refine PickN.mk _ rfl ?_ | refine PickN.au ?_ | refine App.au rfl ?_ | refine App.au (own_map (fun _ => rfl) _) ?_ | refine Both.mk ?_ ?_ | exact True.intro
  refine Stop.mk ?_
  apply join (fun o : List Int => [(1, .hp 0 0), (3, .hw 1), (4, .hw 2)]) (fun o => [(0, .var f.cs), (1, .row 1 (o.map int1)), (2, .row 1 ((predsF (succsF f)).map olst))]) 3 (fun o => o.length ≤ f.blocks.length ∧ OrdP (succsF f) o)
  · intro jn
    refine go 2 Try.func67 ?_
    repeat' first | refine Draw.mk (ordL [1, 3] [0, 2, 1, 3, 4, 5]) (by decide +kernel) ?_ | refine Draw.mk (.one 0 false (.one 1 false (.one 2 false (.one 4 false (.one 5 false (.one 6 false (.alt 3 (ordL [7] [8, 7, 9]) (.alt 7 (ordL [3] [3, 8, 9]) .no)))))))) (by decide +kernel) ?_ | (refine Call.of hO ?_; rintro r ⟨o, rfl, hol, hop⟩; refine ⟨rfl, ?_⟩) | refine Call.eq hP rfl ?_ | refine Len.map ?_ | refine Len.nil ?_ | refine Len.cons ?_ | refine Br.t rfl ?_ | refine Br.f rfl ?_ | refine Fit.au ?_ | refine Need.au ?_ | refine Pick.map (by assumption) ?_ | refine Pick.mapI (by omega) (by assumption) ?_ | refine PickN.mk _ (by assumption) ?_ | refine PickN.mk _ rfl ?_ | refine PickN.au ?_ | refine App.au rfl ?_ | refine App.au (own_map (fun _ => rfl) _) ?_ | refine Both.mk ?_ ?_ | exact True.intro
    all_goals exact Stop.mk (jn o (g := []) _ _ _ ⟨rfl, (by repeat' first | exact trivial | refine ⟨rfl, ?_⟩ | refine ⟨congrArg (fun n => AV.lit (.int .i64 n)) (by omega), ?_⟩ | refine ⟨congrArg (fun l => some (Row.row 1 l)) (by simp [int1, num, tru]), ?_⟩), (by repeat' first | exact trivial | refine ⟨rfl, ?_⟩ | refine ⟨congrArg (fun n => AV.lit (.int .i64 n)) (by omega), ?_⟩ | refine ⟨congrArg (fun l => some (Row.row 1 l)) (by simp [int1, num, tru]), ?_⟩)⟩ ⟨hol, hop⟩)
  rintro o ⟨hol, hop⟩
  refine run_frzR 1 rfl (fzi _) ?_
  refine run_frzR 2 rfl (fzLL_map fz_olsts _) ?_
  refine Run.fr (g := []) (tm' := [(1, .hp 0 0), (3, ints o), (4, lsts (predsF (succsF f)))]) (hp' := [(0, .var f.cs)]) (nx' := 1) ?_ ⟨rfl, (by repeat' first | exact trivial | refine ⟨rfl, ?_⟩ | refine ⟨congrArg (fun n => AV.lit (.int .i64 n)) (by omega), ?_⟩ | refine ⟨congrArg (fun l => some (Row.row 1 l)) (by simp [int1, num, tru]), ?_⟩), (by repeat' first | exact trivial | refine ⟨rfl, ?_⟩ | refine ⟨congrArg (fun n => AV.lit (.int .i64 n)) (by omega), ?_⟩ | refine ⟨congrArg (fun l => some (Row.row 1 l)) (by simp [int1, num, tru]), ?_⟩)⟩
  apply join (fun _ : Unit => [(1, .hp 0 0), (3, ints o), (4, lsts (predsF (succsF f))), (5, .hw 1), (6, .hw 2)]) (fun _ => [(0, .var f.cs), (1, .row 1 ((List.replicate f.blocks.length (0 : Int)).map int1)), (2, .row 1 ((List.replicate f.blocks.length (0 : Int)).map int1))]) 3 (fun _ => True)
  · intro jn
    rw [List.map_replicate] at jn
    refine go 2 Try.func67 ?_
    repeat' first | refine Draw.mk (ordL [1, 3] [0, 2, 1, 3, 4, 5]) (by decide +kernel) ?_ | refine Draw.mk (.one 0 false (.one 1 false (.one 2 false (.one 4 false (.one 5 false (.one 6 false (.alt 3 (ordL [7] [8, 7, 9]) (.alt 7 (ordL [3] [3, 8, 9]) .no)))))))) (by decide +kernel) ?_ | refine MkS.mk _ rfl rfl (by omega) (by omega) ?_ | refine Len.map ?_ | refine Len.nil ?_ | refine Len.cons ?_ | refine Br.t rfl ?_ | refine Br.f rfl ?_ | refine Fit.au ?_ | refine Need.au ?_ | refine Pick.map (by assumption) ?_ | refine Pick.mapI (by omega) (by assumption) ?_ | refine PickN.mk _ (by assumption) ?_ | refine PickN.mk _ rfl ?_ | refine PickN.au ?_ | refine App.au rfl ?_ | refine App.au (own_map (fun _ => rfl) _) ?_ | refine Both.mk ?_ ?_ | exact True.intro
    all_goals (refine Stop.mk ?_; first | (refine jn () (g := []) _ _ _ ⟨rfl, ?_, ?_⟩ trivial; all_goals (repeat' first | exact trivial | refine ⟨rfl, ?_⟩); done) | (refine jn () (g := [(1, 2), (2, 1)]) _ _ _ ⟨rfl, ?_, ?_⟩ trivial; all_goals (repeat' first | exact trivial | refine ⟨rfl, ?_⟩); done))
  intro _ _
  have hs' := hsl
  have hpl := predsF_len (succsF f)
  have hpg : ∀ c : Nat, c < (succsF f).length → (predsF (succsF f))[c]? = some (predOf (succsF f) c (succsF f).length) := fun c hc => by
    unfold predsF
    rw [List.getElem?_map, List.getElem?_range hc]; rfl
  have hpol := fun c : Nat => predOf_len (succsF f) c (succsF f).length
  have hob : ∀ x ∈ o, 0 ≤ x ∧ x < f.blocks.length := fun x hx => by
    have := (hop.mem x).1 hx
    have h2 := Rc_lt hcl (x := x.toNat) (by unfold Rc; rw [show ((x.toNat : Nat) : Int) = x by omega]; exact this.2)
    omega
  generalize succsF f = s at *
  generalize predsF s = P at *
  generalize f.blocks.length = n at *
  rw [← iniL_zero]
  have hz := iniL_len (n := n) (k := 0) (by omega)
  refine go 1000 Try.func67 ?_
  repeat' first | refine Len.map ?_ | refine Len.nil ?_ | refine Len.cons ?_ | refine Br.t rfl ?_ | refine Br.f rfl ?_ | refine Fit.au ?_ | refine Need.au ?_ | refine Pick.map (by assumption) ?_ | refine Pick.mapI (by omega) (by assumption) ?_ | refine PickN.mk _ (by assumption) ?_ | refine PickN.mk _ rfl ?_ | refine PickN.au ?_ | refine App.au rfl ?_ | refine App.au (own_map (fun _ => rfl) _) ?_ | refine Both.mk ?_ ?_ | exact True.intro
  refine Stop.mk (loop_in (g := []) (fun k : Nat => [(1, .hp 0 0), (3, ints o), (4, lsts P), (5, .hw 1), (6, .hw 2), (30, num (iniL n 0).length), (31, num k)]) (fun k => [(0, .var f.cs), (1, .row 1 ((iniL n k).map int1)), (2, .row 1 ((iniL n k).map int1))]) 3 (fun k => k ≤ n) (fun k => n - k) 0 (by omega) ⟨rfl, (by repeat' first | exact trivial | refine ⟨rfl, ?_⟩ | refine ⟨congrArg (fun n => AV.lit (.int .i64 n)) (by omega), ?_⟩ | refine ⟨congrArg (fun l => some (Row.row 1 l)) (by simp [int1, num, tru]), ?_⟩), (by repeat' first | exact trivial | refine ⟨rfl, ?_⟩ | refine ⟨congrArg (fun n => AV.lit (.int .i64 n)) (by omega), ?_⟩ | refine ⟨congrArg (fun l => some (Row.row 1 l)) (by simp [int1, num, tru]), ?_⟩)⟩ (fun k hk ih => ?_))
  have hil := iniL_len hk
  refine go 1000 Try.func67 ?_
  repeat' first | refine Len.map ?_ | refine Len.nil ?_ | refine Len.cons ?_ | refine Br.t rfl ?_ | refine Br.f rfl ?_ | refine Fit.au ?_ | refine Need.au ?_ | refine Pick.map (by assumption) ?_ | refine Pick.mapI (by omega) (by assumption) ?_ | refine PickN.mk _ (by assumption) ?_ | refine PickN.mk _ rfl ?_ | refine PickN.au ?_ | refine App.au rfl ?_ | refine App.au (own_map (fun _ => rfl) _) ?_ | refine Both.mk ?_ ?_ | exact True.intro
  refine Br.d (fun h2 => ?_) (fun h2 => ?_)
  · have hset := iniL_set (n := n) (k := k) (by omega)
    obtain ⟨v, gv, -⟩ := getK (l := iniL n k) (k := k) (by omega)
    repeat' first | refine PickN.map gv ?_ | refine Len.map ?_ | refine Len.nil ?_ | refine Len.cons ?_ | refine Br.t rfl ?_ | refine Br.f rfl ?_ | refine Fit.au ?_ | refine Need.au ?_ | refine Pick.map (by assumption) ?_ | refine Pick.mapI (by omega) (by assumption) ?_ | refine PickN.mk _ (by assumption) ?_ | refine PickN.mk _ rfl ?_ | refine PickN.au ?_ | refine App.au rfl ?_ | refine App.au (own_map (fun _ => rfl) _) ?_ | refine Both.mk ?_ ?_ | exact True.intro
    refine Stop.mk (ih (k + 1) (g := []) _ _ _ (by omega) (by omega) ?_)
    rw [← hset, List.map_set]
    exact ⟨rfl, (by repeat' first | exact trivial | refine ⟨rfl, ?_⟩ | refine ⟨congrArg (fun n => AV.lit (.int .i64 n)) (by omega), ?_⟩ | refine ⟨congrArg (fun l => some (Row.row 1 l)) (by simp [int1, num, tru]), ?_⟩), (by repeat' first | exact trivial | refine ⟨rfl, ?_⟩ | refine ⟨congrArg (fun n => AV.lit (.int .i64 n)) (by omega), ?_⟩ | refine ⟨congrArg (fun l => some (Row.row 1 l)) (by simp [int1, num, tru]), ?_⟩)⟩
  obtain rfl : k = n := by omega
  rw [iniL_all]
  clear ih hz hil h2
  repeat' first | refine Len.map ?_ | refine Len.nil ?_ | refine Len.cons ?_ | refine Br.t rfl ?_ | refine Br.f rfl ?_ | refine Fit.au ?_ | refine Need.au ?_ | refine Pick.map (by assumption) ?_ | refine Pick.mapI (by omega) (by assumption) ?_ | refine PickN.mk _ (by assumption) ?_ | refine PickN.mk _ rfl ?_ | refine PickN.au ?_ | refine App.au rfl ?_ | refine App.au (own_map (fun _ => rfl) _) ?_ | refine Both.mk ?_ ?_ | exact True.intro
  refine Stop.mk (loop_in (g := []) (fun i : Nat => [(1, .hp 0 0), (3, ints o), (4, lsts P), (5, .hw 1), (6, .hw 2), (41, ints o), (42, num o.length), (43, num i)]) (fun i => [(0, .var f.cs), (1, .row 1 ((List.replicate k (-1 : Int)).map int1)), (2, .row 1 ((plF k o i).map int1))]) 3 (fun i => i ≤ o.length) (fun i => o.length - i) 0 (by omega) ⟨rfl, (by repeat' first | exact trivial | refine ⟨rfl, ?_⟩ | refine ⟨congrArg (fun n => AV.lit (.int .i64 n)) (by omega), ?_⟩ | refine ⟨congrArg (fun l => some (Row.row 1 l)) (by simp [int1, num, tru]), ?_⟩), (by repeat' first | exact trivial | refine ⟨rfl, ?_⟩ | refine ⟨congrArg (fun n => AV.lit (.int .i64 n)) (by omega), ?_⟩ | refine ⟨congrArg (fun l => some (Row.row 1 l)) (by simp [int1, num, tru]), ?_⟩)⟩ (fun i hi ih => ?_))
  have hil := plF_len k o i
  refine go 1000 Try.func67 ?_
  repeat' first | refine Len.map ?_ | refine Len.nil ?_ | refine Len.cons ?_ | refine Br.t rfl ?_ | refine Br.f rfl ?_ | refine Fit.au ?_ | refine Need.au ?_ | refine Pick.map (by assumption) ?_ | refine Pick.mapI (by omega) (by assumption) ?_ | refine PickN.mk _ (by assumption) ?_ | refine PickN.mk _ rfl ?_ | refine PickN.au ?_ | refine App.au rfl ?_ | refine App.au (own_map (fun _ => rfl) _) ?_ | refine Both.mk ?_ ?_ | exact True.intro
  refine Br.d (fun h2 => ?_) (fun h2 => ?_)
  · obtain ⟨x, gx, gxm⟩ := getK (l := o) (k := i) (by omega)
    have hx := hob x gxm
    obtain ⟨c, rfl⟩ : ∃ c : Nat, x = (c : Int) := ⟨x.toNat, by omega⟩
    obtain ⟨v, gv, -⟩ := getK (l := plF k o i) (k := c) (by omega)
    have hset : plF k o (i + 1) = (plF k o i).set c (i : Int) := by
      show (plF k o i).set (o.getD i 0).toNat (i : Int) = _
      rw [List.getD_eq_getElem?_getD, gx]; rfl
    repeat' first | refine Pick.map gx ?_ | refine PickN.map gv ?_ | refine Len.map ?_ | refine Len.nil ?_ | refine Len.cons ?_ | refine Br.t rfl ?_ | refine Br.f rfl ?_ | refine Fit.au ?_ | refine Need.au ?_ | refine Pick.map (by assumption) ?_ | refine Pick.mapI (by omega) (by assumption) ?_ | refine PickN.mk _ (by assumption) ?_ | refine PickN.mk _ rfl ?_ | refine PickN.au ?_ | refine App.au rfl ?_ | refine App.au (own_map (fun _ => rfl) _) ?_ | refine Both.mk ?_ ?_ | exact True.intro
    refine Stop.mk (ih (i + 1) (g := []) _ _ _ (by omega) (by omega) ?_)
    rw [hset, List.map_set]
    exact ⟨rfl, (by repeat' first | exact trivial | refine ⟨rfl, ?_⟩ | refine ⟨congrArg (fun n => AV.lit (.int .i64 n)) (by omega), ?_⟩ | refine ⟨congrArg (fun l => some (Row.row 1 l)) (by simp [int1, num, tru]), ?_⟩), (by repeat' first | exact trivial | refine ⟨rfl, ?_⟩ | refine ⟨congrArg (fun n => AV.lit (.int .i64 n)) (by omega), ?_⟩ | refine ⟨congrArg (fun l => some (Row.row 1 l)) (by simp [int1, num, tru]), ?_⟩)⟩
  obtain rfl : i = o.length := by omega
  have hat : ∀ {j : Nat} {x : Int}, o[j]? = some x → (plF k o o.length)[x.toNat]? = some (j : Int) := fun {j x} gx => plF_at hop.nodup hob (Nat.le_refl _) (List.getElem?_eq_some_iff.1 gx).1 gx
  have hno : ∀ {x : Nat}, x < k → (x : Int) ∉ o → (plF k o o.length)[x]? = some (-1) := fun hx hm => plF_no hob (Nat.le_refl _) hx hm
  generalize plF k o o.length = pls at *
  clear ih h2
  repeat' first | refine MkS.mk k (by simp) (by simp) (by omega) (by omega) ?_ | refine Len.map ?_ | refine Len.nil ?_ | refine Len.cons ?_ | refine Br.t rfl ?_ | refine Br.f rfl ?_ | refine Fit.au ?_ | refine Need.au ?_ | refine Pick.map (by assumption) ?_ | refine Pick.mapI (by omega) (by assumption) ?_ | refine PickN.mk _ (by assumption) ?_ | refine PickN.mk _ rfl ?_ | refine PickN.au ?_ | refine App.au rfl ?_ | refine App.au (own_map (fun _ => rfl) _) ?_ | refine Both.mk ?_ ?_ | exact True.intro
  refine Stop.mk (run_frzR 2 rfl (fzi _) ?_)
  refine Run.fr (g := [(2, 3)]) (tm' := [(3, ints o), (4, lsts P), (5, .hw 1), (6, ints pls), (10, .hw 2)]) (hp' := [(1, .row 1 ((List.replicate k (-1 : Int)).map int1)), (2, .row 1 ((List.replicate k false).map tb))]) (nx' := 3) ?_ ?_
  rotate_left
  · rw [List.map_replicate (f := tb)]; exact ⟨rfl, (by repeat' first | exact trivial | refine ⟨rfl, ?_⟩ | refine ⟨congrArg (fun n => AV.lit (.int .i64 n)) (by omega), ?_⟩ | refine ⟨congrArg (fun l => some (Row.row 1 l)) (by simp [int1, num, tru]), ?_⟩), (by repeat' first | exact trivial | refine ⟨rfl, ?_⟩ | refine ⟨congrArg (fun n => AV.lit (.int .i64 n)) (by omega), ?_⟩ | refine ⟨congrArg (fun l => some (Row.row 1 l)) (by simp [int1, num, tru]), ?_⟩)⟩
  obtain ⟨pl, hpl1⟩ : ∃ pl : Nat → Nat, pl = fun x => (pls.getD x 0).toNat := ⟨_, rfl⟩
  have hplR : ∀ x, Rc s x → o[pl x]? = some (x : Int) ∧ pls[x]? = some (pl x : Int) := fun x hx => by
    obtain ⟨j, gj⟩ := List.getElem?_of_mem ((hop.mem x).2 ⟨by omega, hx⟩)
    have h1 : pls[x]? = some (j : Int) := hat gj
    have h2 : pl x = j := by rw [hpl1]; show (pls.getD x 0).toNat = j; rw [List.getD_eq_getElem?_getD, h1]; rfl
    rw [h2]; exact ⟨gj, h1⟩
  have O : s ≠ [] → Rpo s pl o.length := fun h0 => hop.rpo h0 fun x hx => (hplR x hx).1
  refine loop_in (g := []) (fun p : List Int × List Bool => [(3, ints o), (4, lsts P), (5, .hw 1), (6, ints pls), (10, .hw 2)]) (fun p => [(1, .row 1 (p.1.map int1)), (2, .row 1 (p.2.map tb))]) 3 (fun p => p.1.length = k ∧ p.2.length = k ∧ (s ≠ [] → Hd s pl p.1 (p.2.set 0 true))) (fun p => mu pl o.length s.length p.1 (p.2.set 0 true)) (List.replicate k (-1), List.replicate k false) ⟨by simp, by simp, fun h0 => by simp only; rw [← hs']; exact .start (O h0) h0⟩ ⟨rfl, (by repeat' first | exact trivial | refine ⟨rfl, ?_⟩ | refine ⟨congrArg (fun n => AV.lit (.int .i64 n)) (by omega), ?_⟩ | refine ⟨congrArg (fun l => some (Row.row 1 l)) (by simp [int1, num, tru]), ?_⟩), (by repeat' first | exact trivial | refine ⟨rfl, ?_⟩ | refine ⟨congrArg (fun n => AV.lit (.int .i64 n)) (by omega), ?_⟩ | refine ⟨congrArg (fun l => some (Row.row 1 l)) (by simp [int1, num, tru]), ?_⟩)⟩ (fun p hp ih => ?_)
  obtain ⟨l0, dsz⟩ := p
  obtain ⟨hl0, hdz, hHd⟩ := hp
  dsimp only at hl0 hdz hHd ih ⊢
  refine go 1000 Try.func67 ?_
  repeat' first | refine Len.map ?_ | refine Len.nil ?_ | refine Len.cons ?_ | refine Br.t rfl ?_ | refine Br.f rfl ?_ | refine Fit.au ?_ | refine Need.au ?_ | refine Pick.map (by assumption) ?_ | refine Pick.mapI (by omega) (by assumption) ?_ | refine PickN.mk _ (by assumption) ?_ | refine PickN.mk _ rfl ?_ | refine PickN.au ?_ | refine App.au rfl ?_ | refine App.au (own_map (fun _ => rfl) _) ?_ | refine Both.mk ?_ ?_ | exact True.intro
  refine Br.d (fun h2 => ?_) (fun h2 => ?_)
  rotate_left
  · have ho : o = [] := List.eq_nil_of_length_eq_zero (by omega)
    have h0 : s = [] := Classical.byContradiction fun h0 => by
      have := hop.zero h0
      rw [ho] at this; cases this
    subst h0
    have hk0 : k = 0 := by rw [← hs']; rfl
    repeat' first | refine Len.map ?_ | refine Len.nil ?_ | refine Len.cons ?_ | refine Br.t rfl ?_ | refine Br.f rfl ?_ | refine Fit.au ?_ | refine Need.au ?_ | refine Pick.map (by assumption) ?_ | refine Pick.mapI (by omega) (by assumption) ?_ | refine PickN.mk _ (by assumption) ?_ | refine PickN.mk _ rfl ?_ | refine PickN.au ?_ | refine App.au rfl ?_ | refine App.au (own_map (fun _ => rfl) _) ?_ | refine Both.mk ?_ ?_ | exact True.intro
    have hR : ∀ x, ¬ Rc [] x := fun x hx => by
      cases hx' : (x : Int) with
      | _ => have := Rc_lt (s := []) (fun l hl => by cases hl) hx; simp at this
    exact ⟨l0, rfl, by rw [hl0, hk0]; rfl, fun x hx => absurd hx (by simp), fun x _ hx => absurd hx (hR x), fun a x hx => absurd hx (hR x), fun _ => 0, fun x _ hx => absurd hx (hR x)⟩
  have h0 : s ≠ [] := fun e => by
    have g : o[0]? = some o[0] := List.getElem?_eq_getElem (by omega)
    have := hob _ (List.mem_of_getElem? g)
    rw [e] at hs'
    simp at hs'
    omega
  replace hHd := hHd h0
  replace O := O h0
  obtain ⟨v0, gv0, -⟩ := getK (l := dsz) (k := 0) (by have := List.length_pos_iff.2 h0; omega)
  have hds0 : (dsz.map tb).set 0 (tb true) = (dsz.set 0 true).map tb := by rw [List.map_set]
  repeat' first | refine PickN.map gv0 ?_ | refine SubFrom.map (a := 1) (by omega) ?_ | refine Len.map ?_ | refine Len.nil ?_ | refine Len.cons ?_ | refine Br.t rfl ?_ | refine Br.f rfl ?_ | refine Fit.au ?_ | refine Need.au ?_ | refine Pick.map (by assumption) ?_ | refine Pick.mapI (by omega) (by assumption) ?_ | refine PickN.mk _ (by assumption) ?_ | refine PickN.mk _ rfl ?_ | refine PickN.au ?_ | refine App.au rfl ?_ | refine App.au (own_map (fun _ => rfl) _) ?_ | refine Both.mk ?_ ?_ | exact True.intro
  have hdl : (o.drop 1).length = o.length - 1 := by rw [List.length_drop]
  have hdg : ∀ i, (o.drop 1)[i]? = o[i + 1]? := fun i => by rw [List.getElem?_drop, Nat.add_comm]
  generalize hds : dsz.set 0 true = ds0 at *
  refine Stop.mk (loop_in (g := []) (fun p : Nat × List Int × List Bool × Bool => [(3, ints o), (4, lsts P), (5, .hw 1), (6, ints pls), (10, .hw 2), (62, .sl false 1 ((o.drop 1).map int1)), (63, num (o.drop 1).length), (64, num p.1), (11, tru p.2.2.2)]) (fun p => [(1, .row 1 (p.2.1.map int1)), (2, .row 1 (p.2.2.1.map tb))]) 3 (fun p => p.1 ≤ o.length - 1 ∧ Rnd s pl o.length l0 ds0 p.2.1 p.2.2.1 p.2.2.2 (p.1 + 1)) (fun p => o.length - p.1) (0, l0, ds0, false) ⟨by simp only; omega, hHd.rnd O h0⟩ ?_ (fun p hp ih2 => ?_))
  · dsimp only
    rw [← hds, List.map_set]
    exact ⟨rfl, (by repeat' first | exact trivial | refine ⟨rfl, ?_⟩ | refine ⟨congrArg (fun n => AV.lit (.int .i64 n)) (by omega), ?_⟩ | refine ⟨congrArg (fun l => some (Row.row 1 l)) (by simp [int1, num, tru]), ?_⟩), (by repeat' first | exact trivial | refine ⟨rfl, ?_⟩ | refine ⟨congrArg (fun n => AV.lit (.int .i64 n)) (by omega), ?_⟩ | refine ⟨congrArg (fun l => some (Row.row 1 l)) (by simp [int1, num, tru]), ?_⟩)⟩
  obtain ⟨i, l, ds, ch⟩ := p
  obtain ⟨hi, hR⟩ := hp
  dsimp only at hi hR ih2 ⊢
  have hll := hR.ln
  have hdsl := hR.dl
  refine go 1000 Try.func67 ?_
  repeat' first | refine Len.map ?_ | refine Len.nil ?_ | refine Len.cons ?_ | refine Br.t rfl ?_ | refine Br.f rfl ?_ | refine Fit.au ?_ | refine Need.au ?_ | refine Pick.map (by assumption) ?_ | refine Pick.mapI (by omega) (by assumption) ?_ | refine PickN.mk _ (by assumption) ?_ | refine PickN.mk _ rfl ?_ | refine PickN.au ?_ | refine App.au rfl ?_ | refine App.au (own_map (fun _ => rfl) _) ?_ | refine Both.mk ?_ ?_ | exact True.intro
  refine Br.d (fun h3 => ?_) (fun h3 => ?_)
  rotate_left
  · have hR' : Rnd s pl o.length l0 ds0 l ds ch o.length := by
      have e : i + 1 = o.length := by omega
      rw [e] at hR; exact hR
    repeat' first | refine Len.map ?_ | refine Len.nil ?_ | refine Len.cons ?_ | refine Br.t rfl ?_ | refine Br.f rfl ?_ | refine Fit.au ?_ | refine Need.au ?_ | refine Pick.map (by assumption) ?_ | refine Pick.mapI (by omega) (by assumption) ?_ | refine PickN.mk _ (by assumption) ?_ | refine PickN.mk _ rfl ?_ | refine PickN.au ?_ | refine App.au rfl ?_ | refine App.au (own_map (fun _ => rfl) _) ?_ | refine Both.mk ?_ ?_ | exact True.intro
    refine Br.mk (fun h4 => ?_) (fun h4 => ?_)
    · repeat' first | refine Len.map ?_ | refine Len.nil ?_ | refine Len.cons ?_ | refine Br.t rfl ?_ | refine Br.f rfl ?_ | refine Fit.au ?_ | refine Need.au ?_ | refine Pick.map (by assumption) ?_ | refine Pick.mapI (by omega) (by assumption) ?_ | refine PickN.mk _ (by assumption) ?_ | refine PickN.mk _ rfl ?_ | refine PickN.au ?_ | refine App.au rfl ?_ | refine App.au (own_map (fun _ => rfl) _) ?_ | refine Both.mk ?_ ?_ | exact True.intro
      exact ⟨l, rfl, hR'.done hcl O (by simpa using h4)⟩
    · have hhd := hR'.hd O
      have hset := hhd.set
      repeat' first | refine Len.map ?_ | refine Len.nil ?_ | refine Len.cons ?_ | refine Br.t rfl ?_ | refine Br.f rfl ?_ | refine Fit.au ?_ | refine Need.au ?_ | refine Pick.map (by assumption) ?_ | refine Pick.mapI (by omega) (by assumption) ?_ | refine PickN.mk _ (by assumption) ?_ | refine PickN.mk _ rfl ?_ | refine PickN.au ?_ | refine App.au rfl ?_ | refine App.au (own_map (fun _ => rfl) _) ?_ | refine Both.mk ?_ ?_ | exact True.intro
      refine Stop.mk (ih (l, ds) (g := []) _ _ _ ⟨by rw [hll, hs'], by rw [hdsl, hs'], fun _ => by simp only; rw [hset]; exact hhd⟩ ?_ ⟨rfl, (by repeat' first | exact trivial | refine ⟨rfl, ?_⟩ | refine ⟨congrArg (fun n => AV.lit (.int .i64 n)) (by omega), ?_⟩ | refine ⟨congrArg (fun l => some (Row.row 1 l)) (by simp [int1, num, tru]), ?_⟩), (by repeat' first | exact trivial | refine ⟨rfl, ?_⟩ | refine ⟨congrArg (fun n => AV.lit (.int .i64 n)) (by omega), ?_⟩ | refine ⟨congrArg (fun l => some (Row.row 1 l)) (by simp [int1, num, tru]), ?_⟩)⟩)
      simp only
      rw [hset]
      exact hR'.lt (by simpa using h4)
  obtain ⟨x, gx0, -⟩ := getK (l := o.drop 1) (k := i) (by omega)
  have gx := gx0
  rw [hdg] at gx
  obtain ⟨hx0, hxR⟩ := (hop.mem x).1 (List.mem_of_getElem? gx)
  obtain ⟨c, rfl⟩ : ∃ c : Nat, x = (c : Int) := ⟨x.toNat, by omega⟩
  have hcR : Rc s c := hxR
  have hcl2 := Rc_lt hcl hcR
  have hcpl : pl c = i + 1 := hop.idx (hplR c hcR).1 gx
  have hc0 : c ≠ 0 := fun e => by
    subst e
    have := O.zero
    omega
  have gr := hpg c hcl2
  obtain ⟨y, gy, -⟩ := getK (l := l) (k := c) (by omega)
  obtain ⟨z, gz, -⟩ := getK (l := ds) (k := c) (by omega)
  have hrn := fun (x : Int) (h : x ∈ predOf s c s.length) => predOf_nn h
  have hrl := hpol c
  have hstep := fun nx (hm : Met l ds (predOf s c s.length) nx) => hR.step hcl O hc0 hcR hcpl hm gy
  generalize predOf s c s.length = r at *
  repeat' first | refine Pick.map gx0 ?_ | refine Pick.map gr ?_ | refine Len.map ?_ | refine Len.nil ?_ | refine Len.cons ?_ | refine Br.t rfl ?_ | refine Br.f rfl ?_ | refine Fit.au ?_ | refine Need.au ?_ | refine Pick.map (by assumption) ?_ | refine Pick.mapI (by omega) (by assumption) ?_ | refine PickN.mk _ (by assumption) ?_ | refine PickN.mk _ rfl ?_ | refine PickN.au ?_ | refine App.au rfl ?_ | refine App.au (own_map (fun _ => rfl) _) ?_ | refine Both.mk ?_ ?_ | exact True.intro
  refine Stop.mk (loop_in (g := []) (fun p : Nat × Int => [(3, ints o), (4, lsts P), (5, .hw 1), (6, ints pls), (10, .hw 2), (62, .sl false 1 ((o.drop 1).map int1)), (63, num (o.drop 1).length), (64, num i), (11, tru ch), (13, num c), (71, ints r), (72, num r.length), (73, num p.1), (14, num p.2)]) (fun p => [(1, .row 1 (l.map int1)), (2, .row 1 (ds.map tb))]) 3 (fun p => p.1 ≤ r.length ∧ Met l ds (r.take p.1) p.2) (fun p => r.length - p.1) (0, -1) ⟨by simp only; omega, .start⟩ ⟨rfl, (by repeat' first | exact trivial | refine ⟨rfl, ?_⟩ | refine ⟨congrArg (fun n => AV.lit (.int .i64 n)) (by omega), ?_⟩ | refine ⟨congrArg (fun l => some (Row.row 1 l)) (by simp [int1, num, tru]), ?_⟩), (by repeat' first | exact trivial | refine ⟨rfl, ?_⟩ | refine ⟨congrArg (fun n => AV.lit (.int .i64 n)) (by omega), ?_⟩ | refine ⟨congrArg (fun l => some (Row.row 1 l)) (by simp [int1, num, tru]), ?_⟩)⟩ (fun p hp ih3 => ?_))
  obtain ⟨j, nx⟩ := p
  obtain ⟨hj, hM⟩ := hp
  dsimp only at hj hM ih3 ⊢
  refine go 1000 Try.func67 ?_
  repeat' first | refine Len.map ?_ | refine Len.nil ?_ | refine Len.cons ?_ | refine Br.t rfl ?_ | refine Br.f rfl ?_ | refine Fit.au ?_ | refine Need.au ?_ | refine Pick.map (by assumption) ?_ | refine Pick.mapI (by omega) (by assumption) ?_ | refine PickN.mk _ (by assumption) ?_ | refine PickN.mk _ rfl ?_ | refine PickN.au ?_ | refine App.au rfl ?_ | refine App.au (own_map (fun _ => rfl) _) ?_ | refine Both.mk ?_ ?_ | exact True.intro
  refine Br.d (fun h4 => ?_) (fun h4 => ?_)
  · obtain ⟨y', gp, gpm⟩ := getK (l := r) (k := j) (by omega)
    obtain ⟨p, rfl, hpE⟩ := hrn y' gpm
    have hpk : p < k := by
      obtain ⟨q, gq, -⟩ := hpE
      have := (List.getElem?_eq_some_iff.1 gq).1
      omega
    obtain ⟨dp, gd, -⟩ := getK (l := ds) (k := p) (by omega)
    have htk := take_succ gp
    have hnext : ∀ nx', Met l ds (r.take j ++ [(p : Int)]) nx' → Met l ds (r.take (j + 1)) nx' := fun nx' h => by rw [htk]; exact h
    by_cases hpR : Rc s p
    · have gpl := (hplR p hpR).2
      repeat' first | refine Pick.map gp ?_ | refine Pick.map gpl ?_ | refine PickN.map gd ?_ | (refine Br.f ?_ ?_; focus (simp; omega)) | refine Len.map ?_ | refine Len.nil ?_ | refine Len.cons ?_ | refine Br.t rfl ?_ | refine Br.f rfl ?_ | refine Fit.au ?_ | refine Need.au ?_ | refine Pick.map (by assumption) ?_ | refine Pick.mapI (by omega) (by assumption) ?_ | refine PickN.mk _ (by assumption) ?_ | refine PickN.mk _ rfl ?_ | refine PickN.au ?_ | refine App.au rfl ?_ | refine App.au (own_map (fun _ => rfl) _) ?_ | refine Both.mk ?_ ?_ | exact True.intro
      refine Br.mk (fun h5 => ?_) (fun h5 => ?_)
      · have hdp : dp = false := by simpa using h5
        repeat' first | refine Len.map ?_ | refine Len.nil ?_ | refine Len.cons ?_ | refine Br.t rfl ?_ | refine Br.f rfl ?_ | refine Fit.au ?_ | refine Need.au ?_ | refine Pick.map (by assumption) ?_ | refine Pick.mapI (by omega) (by assumption) ?_ | refine PickN.mk _ (by assumption) ?_ | refine PickN.mk _ rfl ?_ | refine PickN.au ?_ | refine App.au rfl ?_ | refine App.au (own_map (fun _ => rfl) _) ?_ | refine Both.mk ?_ ?_ | exact True.intro
        refine Stop.mk (ih3 (j + 1, nx) (g := []) _ _ _ ⟨by simp only; omega, hnext _ (hM.skip fun h => ?_)⟩ (by simp only; omega) ⟨rfl, (by repeat' first | exact trivial | refine ⟨rfl, ?_⟩ | refine ⟨congrArg (fun n => AV.lit (.int .i64 n)) (by omega), ?_⟩ | refine ⟨congrArg (fun l => some (Row.row 1 l)) (by simp [int1, num, tru]), ?_⟩), (by repeat' first | exact trivial | refine ⟨rfl, ?_⟩ | refine ⟨congrArg (fun n => AV.lit (.int .i64 n)) (by omega), ?_⟩ | refine ⟨congrArg (fun l => some (Row.row 1 l)) (by simp [int1, num, tru]), ?_⟩)⟩)
        have h' : ds[p]? = some true := h
        rw [gd, hdp] at h'; cases h'
      · have hdp : dp = true := by simpa using h5
        have hdn : dnOf ds p := by rw [hdp] at gd; exact gd
        repeat' first | refine Len.map ?_ | refine Len.nil ?_ | refine Len.cons ?_ | refine Br.t rfl ?_ | refine Br.f rfl ?_ | refine Fit.au ?_ | refine Need.au ?_ | refine Pick.map (by assumption) ?_ | refine Pick.mapI (by omega) (by assumption) ?_ | refine PickN.mk _ (by assumption) ?_ | refine PickN.mk _ rfl ?_ | refine PickN.au ?_ | refine App.au rfl ?_ | refine App.au (own_map (fun _ => rfl) _) ?_ | refine Both.mk ?_ ?_ | exact True.intro
        refine Br.d (fun h6 => ?_) (fun h6 => ?_)
        · repeat' first | refine Len.map ?_ | refine Len.nil ?_ | refine Len.cons ?_ | refine Br.t rfl ?_ | refine Br.f rfl ?_ | refine Fit.au ?_ | refine Need.au ?_ | refine Pick.map (by assumption) ?_ | refine Pick.mapI (by omega) (by assumption) ?_ | refine PickN.mk _ (by assumption) ?_ | refine PickN.mk _ rfl ?_ | refine PickN.au ?_ | refine App.au rfl ?_ | refine App.au (own_map (fun _ => rfl) _) ?_ | refine Both.mk ?_ ?_ | exact True.intro
          exact Stop.mk (ih3 (j + 1, (p : Int)) (g := []) _ _ _ ⟨by simp only; omega, hnext _ (hM.first h6 hdn)⟩ (by simp only; omega) ⟨rfl, (by repeat' first | exact trivial | refine ⟨rfl, ?_⟩ | refine ⟨congrArg (fun n => AV.lit (.int .i64 n)) (by omega), ?_⟩ | refine ⟨congrArg (fun l => some (Row.row 1 l)) (by simp [int1, num, tru]), ?_⟩), (by repeat' first | exact trivial | refine ⟨rfl, ?_⟩ | refine ⟨congrArg (fun n => AV.lit (.int .i64 n)) (by omega), ?_⟩ | refine ⟨congrArg (fun l => some (Row.row 1 l)) (by simp [int1, num, tru]), ?_⟩)⟩)
        · rcases hM with ⟨h7, -⟩ | ⟨N, rfl, hN, hNa⟩
          · omega
          have hM : Met l ds (r.take j) (N : Int) := .inr ⟨N, rfl, hN, hNa⟩
          have hT : Tame pl l pls (dnOf ds) := ⟨fun x hx hd => ⟨(hR.w.up x hx hd).1, (hR.w.up x hx hd).2, hR.pos x hx hd⟩, fun x hd => (hplR x (hR.w.r x hd)).2, fun x y hx hy e => O.inj x y (hR.w.r x hx) (hR.w.r y hy) e, O.zero⟩
          have hmeet := meet94_spec pl l pls (dnOf ds) hT N p hN hdn
          repeat' first | refine Look.yes (View.mk _ (fzi _) ?_) | refine Len.map ?_ | refine Len.nil ?_ | refine Len.cons ?_ | refine Br.t rfl ?_ | refine Br.f rfl ?_ | refine Fit.au ?_ | refine Need.au ?_ | refine Pick.map (by assumption) ?_ | refine Pick.mapI (by omega) (by assumption) ?_ | refine PickN.mk _ (by assumption) ?_ | refine PickN.mk _ rfl ?_ | refine PickN.au ?_ | refine App.au rfl ?_ | refine App.au (own_map (fun _ => rfl) _) ?_ | refine Both.mk ?_ ?_ | exact True.intro
          refine CallV.of hmeet ?_
          rintro r2 ⟨M, rfl, hMd, hMa⟩
          refine ⟨rfl, Free.lit _, ?_⟩
          repeat' first | refine Len.map ?_ | refine Len.nil ?_ | refine Len.cons ?_ | refine Br.t rfl ?_ | refine Br.f rfl ?_ | refine Fit.au ?_ | refine Need.au ?_ | refine Pick.map (by assumption) ?_ | refine Pick.mapI (by omega) (by assumption) ?_ | refine PickN.mk _ (by assumption) ?_ | refine PickN.mk _ rfl ?_ | refine PickN.au ?_ | refine App.au rfl ?_ | refine App.au (own_map (fun _ => rfl) _) ?_ | refine Both.mk ?_ ?_ | exact True.intro
          exact Stop.mk (ih3 (j + 1, (M : Int)) (g := []) _ _ _ ⟨by simp only; omega, hnext _ (hM.more rfl hdn hMd hMa)⟩ (by simp only; omega) ⟨rfl, (by repeat' first | exact trivial | refine ⟨rfl, ?_⟩ | refine ⟨congrArg (fun n => AV.lit (.int .i64 n)) (by omega), ?_⟩ | refine ⟨congrArg (fun l => some (Row.row 1 l)) (by simp [int1, num, tru]), ?_⟩), (by repeat' first | exact trivial | refine ⟨rfl, ?_⟩ | refine ⟨congrArg (fun n => AV.lit (.int .i64 n)) (by omega), ?_⟩ | refine ⟨congrArg (fun l => some (Row.row 1 l)) (by simp [int1, num, tru]), ?_⟩)⟩)
    · have gpl : pls[p]? = some (-1) := hno hpk fun hm => hpR ((hop.mem _).1 hm).2
      repeat' first | refine Pick.map gp ?_ | refine Pick.map gpl ?_ | refine Len.map ?_ | refine Len.nil ?_ | refine Len.cons ?_ | refine Br.t rfl ?_ | refine Br.f rfl ?_ | refine Fit.au ?_ | refine Need.au ?_ | refine Pick.map (by assumption) ?_ | refine Pick.mapI (by omega) (by assumption) ?_ | refine PickN.mk _ (by assumption) ?_ | refine PickN.mk _ rfl ?_ | refine PickN.au ?_ | refine App.au rfl ?_ | refine App.au (own_map (fun _ => rfl) _) ?_ | refine Both.mk ?_ ?_ | exact True.intro
      exact Stop.mk (ih3 (j + 1, nx) (g := []) _ _ _ ⟨by simp only; omega, hnext _ (hM.skip fun h => hpR (hR.w.r p h))⟩ (by simp only; omega) ⟨rfl, (by repeat' first | exact trivial | refine ⟨rfl, ?_⟩ | refine ⟨congrArg (fun n => AV.lit (.int .i64 n)) (by omega), ?_⟩ | refine ⟨congrArg (fun l => some (Row.row 1 l)) (by simp [int1, num, tru]), ?_⟩), (by repeat' first | exact trivial | refine ⟨rfl, ?_⟩ | refine ⟨congrArg (fun n => AV.lit (.int .i64 n)) (by omega), ?_⟩ | refine ⟨congrArg (fun l => some (Row.row 1 l)) (by simp [int1, num, tru]), ?_⟩)⟩)
  · rw [take_all (by omega)] at hM
    have hst := hstep nx hM
    have hcd : (ch || decide (nx ≠ y)) = (ch || !decide (nx = y)) := by simp
    rw [hcd] at hst
    repeat' first | refine Len.map ?_ | refine Len.nil ?_ | refine Len.cons ?_ | refine Br.t rfl ?_ | refine Br.f rfl ?_ | refine Fit.au ?_ | refine Need.au ?_ | refine Pick.map (by assumption) ?_ | refine Pick.mapI (by omega) (by assumption) ?_ | refine PickN.mk _ (by assumption) ?_ | refine PickN.mk _ rfl ?_ | refine PickN.au ?_ | refine App.au rfl ?_ | refine App.au (own_map (fun _ => rfl) _) ?_ | refine Both.mk ?_ ?_ | exact True.intro
    refine Br.mk (fun h7 => ?_) (fun h7 => ?_)
    · subst h7
      repeat' first | refine Draw.mk (ordL [1, 3] [0, 2, 1, 3, 4, 5]) (by decide +kernel) ?_ | refine Draw.mk (.one 0 false (.one 1 false (.one 2 false (.one 4 false (.one 5 false (.one 6 false (.alt 3 (ordL [7] [8, 7, 9]) (.alt 7 (ordL [3] [3, 8, 9]) .no)))))))) (by decide +kernel) ?_ | refine PickN.map gy ?_ | refine PickN.map gz ?_ | refine Len.map ?_ | refine Len.nil ?_ | refine Len.cons ?_ | refine Br.t rfl ?_ | refine Br.f rfl ?_ | refine Fit.au ?_ | refine Need.au ?_ | refine Pick.map (by assumption) ?_ | refine Pick.mapI (by omega) (by assumption) ?_ | refine PickN.mk _ (by assumption) ?_ | refine PickN.mk _ rfl ?_ | refine PickN.au ?_ | refine App.au rfl ?_ | refine App.au (own_map (fun _ => rfl) _) ?_ | refine Both.mk ?_ ?_ | exact True.intro
      all_goals
        refine Stop.mk (ih2 (i + 1, l.set c nx, ds.set c true, true) (g := []) _ _ _ ⟨by simp only; omega, hst⟩ (by simp only; omega) ?_)
        dsimp only
        rw [List.map_set, List.map_set]
        exact ⟨rfl, (by repeat' first | exact trivial | refine ⟨rfl, ?_⟩ | refine ⟨congrArg (fun n => AV.lit (.int .i64 n)) (by omega), ?_⟩ | refine ⟨congrArg (fun l => some (Row.row 1 l)) (by simp [int1, num, tru]), ?_⟩), (by repeat' first | exact trivial | refine ⟨rfl, ?_⟩ | refine ⟨congrArg (fun n => AV.lit (.int .i64 n)) (by omega), ?_⟩ | refine ⟨congrArg (fun l => some (Row.row 1 l)) (by simp [int1, num, tru]), ?_⟩)⟩
    · subst h7
      repeat' first | refine Draw.mk (ordL [1, 3] [0, 2, 1, 3, 4, 5]) (by decide +kernel) ?_ | refine Draw.mk (.one 0 false (.one 1 false (.one 2 false (.one 4 false (.one 5 false (.one 6 false (.alt 3 (ordL [7] [8, 7, 9]) (.alt 7 (ordL [3] [3, 8, 9]) .no)))))))) (by decide +kernel) ?_ | refine PickN.map gy ?_ | refine PickN.map gz ?_ | refine Len.map ?_ | refine Len.nil ?_ | refine Len.cons ?_ | refine Br.t rfl ?_ | refine Br.f rfl ?_ | refine Fit.au ?_ | refine Need.au ?_ | refine Pick.map (by assumption) ?_ | refine Pick.mapI (by omega) (by assumption) ?_ | refine PickN.mk _ (by assumption) ?_ | refine PickN.mk _ rfl ?_ | refine PickN.au ?_ | refine App.au rfl ?_ | refine App.au (own_map (fun _ => rfl) _) ?_ | refine Both.mk ?_ ?_ | exact True.intro
      all_goals
        refine Stop.mk (ih2 (i + 1, l.set c nx, ds.set c true, !decide (nx = y)) (g := []) _ _ _ ⟨by simp only; omega, hst⟩ (by simp only; omega) ?_)
        dsimp only
        rw [List.map_set, List.map_set]
        exact ⟨rfl, (by repeat' first | exact trivial | refine ⟨rfl, ?_⟩ | refine ⟨congrArg (fun n => AV.lit (.int .i64 n)) (by omega), ?_⟩ | refine ⟨congrArg (fun l => some (Row.row 1 l)) (by simp [int1, num, tru]), ?_⟩), (by repeat' first | exact trivial | refine ⟨rfl, ?_⟩ | refine ⟨congrArg (fun n => AV.lit (.int .i64 n)) (by omega), ?_⟩ | refine ⟨congrArg (fun l => some (Row.row 1 l)) (by simp [int1, num, tru]), ?_⟩)⟩
end Go.Proofs.Ytnfkdilmoppbpaa

/- What is reached, and the new numbers, by contracts. -/
namespace Go.Proofs.Ytnfkdilmoppbpaa
open Go.Ax
set_option maxRecDepth 10000
set_option linter.unusedVariables false

theorem Without96_spec (f : Fun) (x : Int) (hf : f.fits) (hn : f.blocks.length ≤ 1000000) : FnSpec Try.prog 96 [funA f, num x] (fun r => r = .osl 1 ((marksF (succsF f) x).map tb)) := by
  have hcl := succsF_closed f
  have hsm := succsF_small f
  have hsn : (succsF f).length ≤ 1000000 := by rw [succsF_len]; exact hn
  refine spec_of 9 Try.func96 rfl rfl ?_
  repeat' first | refine Call.eq (Succs95_spec f hf hn) rfl ?_ | refine Len.map ?_ | refine Len.nil ?_ | refine Len.cons ?_ | refine Br.t rfl ?_ | refine Br.f rfl ?_ | refine Fit.au ?_ | refine Need.au ?_ | refine Pick.map (by assumption) ?_ | refine Pick.mapI (by omega) (by assumption) ?_ | refine PickN.mk _ (by assumption) ?_ | refine PickN.mk _ rfl ?_ | refine PickN.au ?_ | refine App.au rfl ?_ | refine App.au (own_map (fun _ => rfl) _) ?_ | refine Both.mk ?_ ?_ | exact True.intro
  refine Stop.mk (run_frzR 1 rfl (fzLL_map fz_olsts _) ?_)
  refine Run.fr (tm' := [(6, .sl false 1 ((succsF f).map lst)), (1, num x)]) (hp' := []) (nx' := 0) ?_ (g := []) ⟨rfl, (by repeat' first | exact trivial | refine ⟨rfl, ?_⟩ | refine ⟨congrArg (fun n => AV.lit (.int .i64 n)) (by omega), ?_⟩ | refine ⟨congrArg (fun l => some (Row.row 1 l)) (by simp [int1, num, tru]), ?_⟩), (by repeat' first | exact trivial | refine ⟨rfl, ?_⟩ | refine ⟨congrArg (fun n => AV.lit (.int .i64 n)) (by omega), ?_⟩ | refine ⟨congrArg (fun l => some (Row.row 1 l)) (by simp [int1, num, tru]), ?_⟩)⟩
  refine go 1000 Try.func96 ?_
  refine Look.stop (Stop.mk ?_)
  refine run_inlC rfl want_none rfl rfl rfl rfl rfl rfl rfl (through_run _ x hcl hsm hsn fun l hm => ?_)
  rw [← hm.eq]
  refine Run.fr (g := [(0, 6)]) (tm' := [(8, .hw 0)]) (hp' := [(0, .row 1 (l.map tb))]) (nx' := 1) ?_ ⟨rfl, (by repeat' first | exact trivial | refine ⟨rfl, ?_⟩ | refine ⟨congrArg (fun n => AV.lit (.int .i64 n)) (by omega), ?_⟩ | refine ⟨congrArg (fun l => some (Row.row 1 l)) (by simp [int1, num, tru]), ?_⟩), (by repeat' first | exact trivial | refine ⟨rfl, ?_⟩ | refine ⟨congrArg (fun n => AV.lit (.int .i64 n)) (by omega), ?_⟩ | refine ⟨congrArg (fun l => some (Row.row 1 l)) (by simp [int1, num, tru]), ?_⟩)⟩
  refine go 1000 Try.func96 ?_
  repeat' first | refine Len.map ?_ | refine Len.nil ?_ | refine Len.cons ?_ | refine Br.t rfl ?_ | refine Br.f rfl ?_ | refine Fit.au ?_ | refine Need.au ?_ | refine Pick.map (by assumption) ?_ | refine Pick.mapI (by omega) (by assumption) ?_ | refine PickN.mk _ (by assumption) ?_ | refine PickN.mk _ rfl ?_ | refine PickN.au ?_ | refine App.au rfl ?_ | refine App.au (own_map (fun _ => rfl) _) ?_ | refine Both.mk ?_ ?_ | exact True.intro
  rfl

theorem Reach69_spec (f : Fun) (hf : f.fits) (hn : f.blocks.length ≤ 1000000) : FnSpec Try.prog 69 [funA f] (fun r => r = .osl 1 ((marksF (succsF f) (-1)).map tb)) := by
  refine spec_of 1000 Try.func69 rfl rfl ?_
  repeat' first | refine Call.eq (Without96_spec f (-1) hf hn) rfl ?_ | refine Len.map ?_ | refine Len.nil ?_ | refine Len.cons ?_ | refine Br.t rfl ?_ | refine Br.f rfl ?_ | refine Fit.au ?_ | refine Need.au ?_ | refine Pick.map (by assumption) ?_ | refine Pick.mapI (by omega) (by assumption) ?_ | refine PickN.mk _ (by assumption) ?_ | refine PickN.mk _ rfl ?_ | refine PickN.au ?_ | refine App.au rfl ?_ | refine App.au (own_map (fun _ => rfl) _) ?_ | refine Both.mk ?_ ?_ | exact True.intro
  rfl

theorem Map42_spec (f : Fun) (hf : f.fits) (hn : f.blocks.length ≤ 1000000) : FnSpec Try.prog 42 [funA f] (fun r => r = .osl 1 ((mapF f).map int1)) := by
  have hl : (marksF (succsF f) (-1)).length = f.blocks.length := by rw [marksF_len, succsF_len]
  refine spec_of 1000 Try.func42 rfl rfl ?_
  repeat' first | refine MkS.mk _ rfl rfl (by omega) (by omega) ?_ | refine Call.eq (Reach69_spec f hf hn) rfl ?_ | refine Len.map ?_ | refine Len.nil ?_ | refine Len.cons ?_ | refine Br.t rfl ?_ | refine Br.f rfl ?_ | refine Fit.au ?_ | refine Need.au ?_ | refine Pick.map (by assumption) ?_ | refine Pick.mapI (by omega) (by assumption) ?_ | refine PickN.mk _ (by assumption) ?_ | refine PickN.mk _ rfl ?_ | refine PickN.au ?_ | refine App.au rfl ?_ | refine App.au (own_map (fun _ => rfl) _) ?_ | refine Both.mk ?_ ?_ | exact True.intro
  unfold mapF
  generalize marksF (succsF f) (-1) = l at *
  refine Stop.mk (loop_in (g := []) (fun k : Nat => [(1, .hp 0 0), (3, .hw 1), (4, num ((l.take k).count true : Nat)), (12, .hw 2), (13, num l.length), (14, num k)]) (fun k => [(0, .var f.cs), (1, .row 1 ((numK l k).map int1)), (2, .row 1 (l.map tb))]) 3 (fun k => k ≤ l.length) (fun k => l.length - k) 0 (by omega) ?_ (fun k hk ih => ?_))
  · rw [numK_zero, hl, List.map_replicate]; exact ⟨rfl, (by repeat' first | exact trivial | refine ⟨rfl, ?_⟩ | refine ⟨congrArg (fun n => AV.lit (.int .i64 n)) (by omega), ?_⟩ | refine ⟨congrArg (fun l => some (Row.row 1 l)) (by simp [int1, num, tru]), ?_⟩), (by repeat' first | exact trivial | refine ⟨rfl, ?_⟩ | refine ⟨congrArg (fun n => AV.lit (.int .i64 n)) (by omega), ?_⟩ | refine ⟨congrArg (fun l => some (Row.row 1 l)) (by simp [int1, num, tru]), ?_⟩)⟩
  refine go 1000 Try.func42 ?_
  repeat' first | refine Len.map ?_ | refine Len.nil ?_ | refine Len.cons ?_ | refine Br.t rfl ?_ | refine Br.f rfl ?_ | refine Fit.au ?_ | refine Need.au ?_ | refine Pick.map (by assumption) ?_ | refine Pick.mapI (by omega) (by assumption) ?_ | refine PickN.mk _ (by assumption) ?_ | refine PickN.mk _ rfl ?_ | refine PickN.au ?_ | refine App.au rfl ?_ | refine App.au (own_map (fun _ => rfl) _) ?_ | refine Both.mk ?_ ?_ | exact True.intro
  refine Br.d (fun h2 => ?_) (fun h2 => ?_)
  · obtain ⟨b, gb, -⟩ := getK (l := l) (k := k) (by omega)
    have hnl := numK_len l k (by omega)
    obtain ⟨v, gv, -⟩ := getK (l := numK l k) (k := k) (by omega)
    have hs := numK_succ gb
    have hc : (l.take k).count true ≤ k := by have := List.count_le_length (a := true) (l := l.take k); rw [List.length_take] at this; omega
    have hc2 : (l.take (k + 1)).count true = (l.take k).count true + if b = true then 1 else 0 := by rw [take_succ gb, List.count_append]; cases b <;> simp
    have gv3 : (((numK l k).map int1).set k (int1 (-1)))[k]? = some (int1 (-1)) := by rw [List.getElem?_set]; simp [hnl]; omega
    repeat' first | refine Pick.map gb ?_ | refine PickN.map gv ?_ | refine Len.map ?_ | refine Len.nil ?_ | refine Len.cons ?_ | refine Br.t rfl ?_ | refine Br.f rfl ?_ | refine Fit.au ?_ | refine Need.au ?_ | refine Pick.map (by assumption) ?_ | refine Pick.mapI (by omega) (by assumption) ?_ | refine PickN.mk _ (by assumption) ?_ | refine PickN.mk _ rfl ?_ | refine PickN.au ?_ | refine App.au rfl ?_ | refine App.au (own_map (fun _ => rfl) _) ?_ | refine Both.mk ?_ ?_ | exact True.intro
    refine Br.mk (fun h3 => ?_) (fun h3 => ?_)
    · repeat' first | refine PickN.mk _ gv3 ?_ | refine Len.map ?_ | refine Len.nil ?_ | refine Len.cons ?_ | refine Br.t rfl ?_ | refine Br.f rfl ?_ | refine Fit.au ?_ | refine Need.au ?_ | refine Pick.map (by assumption) ?_ | refine Pick.mapI (by omega) (by assumption) ?_ | refine PickN.mk _ (by assumption) ?_ | refine PickN.mk _ rfl ?_ | refine PickN.au ?_ | refine App.au rfl ?_ | refine App.au (own_map (fun _ => rfl) _) ?_ | refine Both.mk ?_ ?_ | exact True.intro
      rw [if_pos h3] at hs hc2
      refine Stop.mk (ih (k + 1) (g := []) _ _ _ (by omega) (by omega) ?_)
      rw [← hs, hc2, List.map_set, ← List.set_set (a := int1 (-1))]
      exact ⟨rfl, (by repeat' first | exact trivial | refine ⟨rfl, ?_⟩ | refine ⟨congrArg (fun n => AV.lit (.int .i64 n)) (by omega), ?_⟩ | refine ⟨congrArg (fun l => some (Row.row 1 l)) (by simp [int1, num, tru]), ?_⟩), (by repeat' first | exact trivial | refine ⟨rfl, ?_⟩ | refine ⟨congrArg (fun n => AV.lit (.int .i64 n)) (by omega), ?_⟩ | refine ⟨congrArg (fun l => some (Row.row 1 l)) (by simp [int1, num, tru]), ?_⟩)⟩
    · repeat' first | refine Len.map ?_ | refine Len.nil ?_ | refine Len.cons ?_ | refine Br.t rfl ?_ | refine Br.f rfl ?_ | refine Fit.au ?_ | refine Need.au ?_ | refine Pick.map (by assumption) ?_ | refine Pick.mapI (by omega) (by assumption) ?_ | refine PickN.mk _ (by assumption) ?_ | refine PickN.mk _ rfl ?_ | refine PickN.au ?_ | refine App.au rfl ?_ | refine App.au (own_map (fun _ => rfl) _) ?_ | refine Both.mk ?_ ?_ | exact True.intro
      rw [if_neg (by simp [h3])] at hs hc2
      refine Stop.mk (ih (k + 1) (g := []) _ _ _ (by omega) (by omega) ?_)
      rw [← hs, hc2, List.map_set]
      exact ⟨rfl, (by repeat' first | exact trivial | refine ⟨rfl, ?_⟩ | refine ⟨congrArg (fun n => AV.lit (.int .i64 n)) (by omega), ?_⟩ | refine ⟨congrArg (fun l => some (Row.row 1 l)) (by simp [int1, num, tru]), ?_⟩), (by repeat' first | exact trivial | refine ⟨rfl, ?_⟩ | refine ⟨congrArg (fun n => AV.lit (.int .i64 n)) (by omega), ?_⟩ | refine ⟨congrArg (fun l => some (Row.row 1 l)) (by simp [int1, num, tru]), ?_⟩)⟩
  · repeat' first | refine Len.map ?_ | refine Len.nil ?_ | refine Len.cons ?_ | refine Br.t rfl ?_ | refine Br.f rfl ?_ | refine Fit.au ?_ | refine Need.au ?_ | refine Pick.map (by assumption) ?_ | refine Pick.mapI (by omega) (by assumption) ?_ | refine PickN.mk _ (by assumption) ?_ | refine PickN.mk _ rfl ?_ | refine PickN.au ?_ | refine App.au rfl ?_ | refine App.au (own_map (fun _ => rfl) _) ?_ | refine Both.mk ?_ ?_ | exact True.intro
    rw [show k = l.length by omega, numK_all]
    rfl
end Go.Proofs.Ytnfkdilmoppbpaa
