/- Going through blocks, each once, by a contract. -/
import Derived.Test.YtjjijklonnhdeaaG05
import Derived.Test.YtjjijklonnhdeaaG03
import Derived.Test.YtjjijklonnhdeaaCTy2
set_option linter.unusedVariables false
set_option linter.unusedSimpArgs false

namespace Go.Proofs.Ytjjijklonnhdeaa
open Go.Ax
set_option maxRecDepth 10000
set_option linter.unusedVariables false

def dH (s : List (List Int)) (x : Int) (l : List Bool) : HP := [(0, .var [.sl false 1 (s.map lst)]), (1, .var [num x]), (2, .var [.fn 52 []]), (6, .row 1 (l.map tb)), (4, .var [.hw 6]), (5, .var [.fn 64 [.hp 1 0, .hp 4 0, .hp 0 0, .hp 5 0, .hp 2 0]])]
def dT (k : Int) : TM := [(0, num k), (1, .hp 1 0), (2, .hp 4 0), (3, .hp 0 0), (4, .hp 5 0), (5, .hp 2 0)]

theorem into_run (s : List (List Int)) (x : Int) (hs : Closed s) (hsm : ∀ l ∈ s, l.length ≤ 2) (hn : s.length ≤ 1000000) : ∀ (n k : Nat) (l : List Bool), l.length = s.length → k < s.length → ((k : Int) ≠ x → Reaches s x k) → falses l ≤ n →
    ∀ {K : AV → HP → Nat → Prop}, (∀ l', Into s x l k l' → K (asRes []) (dH s x l') 7) → Run Try.prog 64 (Post.inl 7 K) [.code Try.f64.body.get!] ⟨dT k, dH s x l, 7, 37⟩ := by
  intro n
  induction n using Nat.strongRecOn with
  | _ n ihn =>
    intro k l hl hk hr hf K hK
    obtain ⟨b, gl, -⟩ := getK (l := l) (k := k) (by omega)
    obtain ⟨r, gr, hrm⟩ := getK (l := s) (k := k) (by omega)
    have hr2 := hsm r hrm
    refine goI 1000 Try.func64 ?_
    repeat' first | refine Pick.map gl ?_ | refine Len.map ?_ | refine Len.nil ?_ | refine Len.cons ?_ | refine Br.t rfl ?_ | refine Br.f rfl ?_ | refine Fit.au ?_ | refine Cv.au ?_ | refine Need.ne ?_ | refine Need.au ?_ | refine Pick.map (by assumption) ?_ | refine Pick.mapI (by omega) (by assumption) ?_ | refine PickN.mk _ (by assumption) ?_ | refine PickN.mk _ rfl ?_ | refine PickN.au ?_ | refine App.au rfl ?_ | refine App.au (own_map (fun _ => rfl) _) ?_ | refine Both.mk ?_ ?_ | exact True.intro | refine Br.d (fun h => ?_) (fun h => ?_) | refine Br.nd (fun h => ?_) (fun h => ?_) | refine Br.mk (fun h => ?_) (fun h => ?_)
    · exact hK l (.stays fun hne => absurd ‹(k : Int) = x› hne)
    · have hb : b = true := by assumption
      subst hb
      exact hK l (.stays fun _ => by simpa using gl)
    · have hkx : (k : Int) ≠ x := by assumption
      have hb : b = false := by simp_all
      subst hb
      have hm := falses_set gl
      have hrk := hr hkx
      repeat' first | refine PickN.map gl ?_ | refine Pick.map gr ?_ | refine Len.map ?_ | refine Len.nil ?_ | refine Len.cons ?_ | refine Br.t rfl ?_ | refine Br.f rfl ?_ | refine Fit.au ?_ | refine Cv.au ?_ | refine Need.ne ?_ | refine Need.au ?_ | refine Pick.map (by assumption) ?_ | refine Pick.mapI (by omega) (by assumption) ?_ | refine PickN.mk _ (by assumption) ?_ | refine PickN.mk _ rfl ?_ | refine PickN.au ?_ | refine App.au rfl ?_ | refine App.au (own_map (fun _ => rfl) _) ?_ | refine Both.mk ?_ ?_ | exact True.intro
      have el : (l.map tb).set k [AV.lit (Value.bool true)] = (l.set k true).map tb := by rw [List.map_set]; rfl
      refine Stop.mk (loop_in (g := []) (fun p : Nat × List Bool => [(24, ints r), (25, num r.length), (26, num p.1), (0, num k), (1, .hp 1 0), (2, .hp 4 0), (3, .hp 0 0), (4, .hp 5 0), (5, .hp 2 0)]) (fun p => dH s x p.2) 7 (fun p => p.1 ≤ r.length ∧ Mid s x l k p.1 p.2) (fun p => r.length - p.1) (0, l.set k true) ⟨by omega, .start hrk⟩ ?_ (fun p hp ih => ?_))
      · dsimp only [dH]
        rw [← el]
        exact ⟨rfl, (by repeat' first | exact trivial | refine ⟨rfl, ?_⟩ | refine ⟨congrArg (fun n => AV.lit (.int .i64 n)) (by omega), ?_⟩ | refine ⟨congrArg (fun l => some (Row.row 1 l)) (by simp [int1, num, tru]), ?_⟩), (by repeat' first | exact trivial | refine ⟨rfl, ?_⟩ | refine ⟨congrArg (fun n => AV.lit (.int .i64 n)) (by omega), ?_⟩ | refine ⟨congrArg (fun l => some (Row.row 1 l)) (by simp [int1, num, tru]), ?_⟩)⟩
      obtain ⟨j, l1⟩ := p
      obtain ⟨hj, hmid⟩ := hp
      dsimp only at hj hmid ih ⊢
      have hl1 : l1.length = s.length := by rw [hmid.grows.1, List.length_set, hl]
      have hm1 := hmid.grows.falses
      refine goI 1000 Try.func64 ?_
      repeat' first | refine Len.map ?_ | refine Len.nil ?_ | refine Len.cons ?_ | refine Br.t rfl ?_ | refine Br.f rfl ?_ | refine Fit.au ?_ | refine Cv.au ?_ | refine Need.ne ?_ | refine Need.au ?_ | refine Pick.map (by assumption) ?_ | refine Pick.mapI (by omega) (by assumption) ?_ | refine PickN.mk _ (by assumption) ?_ | refine PickN.mk _ rfl ?_ | refine PickN.au ?_ | refine App.au rfl ?_ | refine App.au (own_map (fun _ => rfl) _) ?_ | refine Both.mk ?_ ?_ | exact True.intro
      refine Br.d (fun h2 => ?_) (fun h2 => ?_)
      · obtain ⟨t, gt, gtm⟩ := getK (l := r) (k := j) (by omega)
        have htp := hs r hrm t gtm
        obtain ⟨u, rfl⟩ : ∃ u : Nat, t = (u : Int) := ⟨t.toNat, by omega⟩
        repeat' first | refine Pick.map gt ?_ | refine Len.map ?_ | refine Len.nil ?_ | refine Len.cons ?_ | refine Br.t rfl ?_ | refine Br.f rfl ?_ | refine Fit.au ?_ | refine Cv.au ?_ | refine Need.ne ?_ | refine Need.au ?_ | refine Pick.map (by assumption) ?_ | refine Pick.mapI (by omega) (by assumption) ?_ | refine PickN.mk _ (by assumption) ?_ | refine PickN.mk _ rfl ?_ | refine PickN.au ?_ | refine App.au rfl ?_ | refine App.au (own_map (fun _ => rfl) _) ?_ | refine Both.mk ?_ ?_ | exact True.intro
        refine Dyn.mk _ _ rfl rfl rfl (Run.fr (tm' := dT u) (hp' := dH s x l1) (nx' := 7) (ihn (falses l1) (by omega) u l1 hl1 (by omega) (fun hne => .step hrk gr gtm hne) (Nat.le_refl _) fun l2 hi => ?_) (g := []) ⟨rfl, (by repeat' first | exact trivial | refine ⟨rfl, ?_⟩ | refine ⟨congrArg (fun n => AV.lit (.int .i64 n)) (by omega), ?_⟩ | refine ⟨congrArg (fun l => some (Row.row 1 l)) (by simp [int1, num, tru]), ?_⟩), (by repeat' first | exact trivial | refine ⟨rfl, ?_⟩ | refine ⟨congrArg (fun n => AV.lit (.int .i64 n)) (by omega), ?_⟩ | refine ⟨congrArg (fun l => some (Row.row 1 l)) (by simp [int1, num, tru]), ?_⟩)⟩)
        repeat' first | refine Len.map ?_ | refine Len.nil ?_ | refine Len.cons ?_ | refine Br.t rfl ?_ | refine Br.f rfl ?_ | refine Fit.au ?_ | refine Cv.au ?_ | refine Need.ne ?_ | refine Need.au ?_ | refine Pick.map (by assumption) ?_ | refine Pick.mapI (by omega) (by assumption) ?_ | refine PickN.mk _ (by assumption) ?_ | refine PickN.mk _ rfl ?_ | refine PickN.au ?_ | refine App.au rfl ?_ | refine App.au (own_map (fun _ => rfl) _) ?_ | refine Both.mk ?_ ?_ | exact True.intro
        refine Stop.mk (ih (j + 1, l2) (g := []) _ _ _ ⟨by simp only; omega, hmid.next gr gt hi⟩ (by simp only; omega) ?_)
        dsimp only [dH]
        exact ⟨rfl, (by repeat' first | exact trivial | refine ⟨rfl, ?_⟩ | refine ⟨congrArg (fun n => AV.lit (.int .i64 n)) (by omega), ?_⟩ | refine ⟨congrArg (fun l => some (Row.row 1 l)) (by simp [int1, num, tru]), ?_⟩), (by repeat' first | exact trivial | refine ⟨rfl, ?_⟩ | refine ⟨congrArg (fun n => AV.lit (.int .i64 n)) (by omega), ?_⟩ | refine ⟨congrArg (fun l => some (Row.row 1 l)) (by simp [int1, num, tru]), ?_⟩)⟩
      · repeat' first | refine Len.map ?_ | refine Len.nil ?_ | refine Len.cons ?_ | refine Br.t rfl ?_ | refine Br.f rfl ?_ | refine Fit.au ?_ | refine Cv.au ?_ | refine Need.ne ?_ | refine Need.au ?_ | refine Pick.map (by assumption) ?_ | refine Pick.mapI (by omega) (by assumption) ?_ | refine PickN.mk _ (by assumption) ?_ | refine PickN.mk _ rfl ?_ | refine PickN.au ?_ | refine App.au rfl ?_ | refine App.au (own_map (fun _ => rfl) _) ?_ | refine Both.mk ?_ ?_ | exact True.intro
        refine Dyn.mk _ _ rfl rfl rfl (Run.fr (tm' := [(0, num k)]) (hp' := dH s x l1) (nx' := 7) (goI 1000 Try.func52 ?_) (g := []) ⟨rfl, (by repeat' first | exact trivial | refine ⟨rfl, ?_⟩ | refine ⟨congrArg (fun n => AV.lit (.int .i64 n)) (by omega), ?_⟩ | refine ⟨congrArg (fun l => some (Row.row 1 l)) (by simp [int1, num, tru]), ?_⟩), (by repeat' first | exact trivial | refine ⟨rfl, ?_⟩ | refine ⟨congrArg (fun n => AV.lit (.int .i64 n)) (by omega), ?_⟩ | refine ⟨congrArg (fun l => some (Row.row 1 l)) (by simp [int1, num, tru]), ?_⟩)⟩)
        repeat' first | refine Len.map ?_ | refine Len.nil ?_ | refine Len.cons ?_ | refine Br.t rfl ?_ | refine Br.f rfl ?_ | refine Fit.au ?_ | refine Cv.au ?_ | refine Need.ne ?_ | refine Need.au ?_ | refine Pick.map (by assumption) ?_ | refine Pick.mapI (by omega) (by assumption) ?_ | refine PickN.mk _ (by assumption) ?_ | refine PickN.mk _ rfl ?_ | refine PickN.au ?_ | refine App.au rfl ?_ | refine App.au (own_map (fun _ => rfl) _) ?_ | refine Both.mk ?_ ?_ | exact True.intro
        exact hK l1 (hmid.end gr (by omega) (by omega))

theorem through_run (s : List (List Int)) (x : Int) (hs : Closed s) (hsm : ∀ l ∈ s, l.length ≤ 2) (hn : s.length ≤ 1000000) {K : AV → HP → Nat → Prop} (hK : ∀ l, Marks s x l → K (.hw 6) (dH s x l) 7) :
    Run Try.prog 48 (Post.inl 0 K) [.code Try.f48.body.get!] ⟨[(0, .sl false 1 (s.map lst)), (1, num x), (2, .fn 52 [])], [], 0, 19⟩ := by
  refine goI 24 Try.func48 ?_
  repeat' first | refine MkS.mk s.length rfl rfl (by omega) (by omega) ?_ | refine Len.map ?_ | refine Len.nil ?_ | refine Len.cons ?_ | refine Br.t rfl ?_ | refine Br.f rfl ?_ | refine Fit.au ?_ | refine Cv.au ?_ | refine Need.ne ?_ | refine Need.au ?_ | refine Pick.map (by assumption) ?_ | refine Pick.mapI (by omega) (by assumption) ?_ | refine PickN.mk _ (by assumption) ?_ | refine PickN.mk _ rfl ?_ | refine PickN.au ?_ | refine App.au rfl ?_ | refine App.au (own_map (fun _ => rfl) _) ?_ | refine Both.mk ?_ ?_ | exact True.intro
  refine Stop.mk (run_unfold 4 0 rfl rfl ?_)
  have er : (List.replicate s.length (List.map AV.lit [Value.bool false])) = (List.replicate s.length false).map tb := by rw [List.map_replicate]; rfl
  refine Run.fr (g := []) (tm' := [(7, .hp 4 0), (8, .hp 5 0), (3, .hp 0 0)]) (hp' := dH s x (List.replicate s.length false)) (nx' := 7) ?_ ?_
  rotate_left
  · dsimp only [dH]
    rw [← er]
    exact ⟨rfl, (by repeat' first | exact trivial | refine ⟨rfl, ?_⟩ | refine ⟨congrArg (fun n => AV.lit (.int .i64 n)) (by omega), ?_⟩ | refine ⟨congrArg (fun l => some (Row.row 1 l)) (by simp [int1, num, tru]), ?_⟩), (by repeat' first | exact trivial | refine ⟨rfl, ?_⟩ | refine ⟨congrArg (fun n => AV.lit (.int .i64 n)) (by omega), ?_⟩ | refine ⟨congrArg (fun l => some (Row.row 1 l)) (by simp [int1, num, tru]), ?_⟩)⟩
  refine goI 1000 Try.func48 ?_
  repeat' first | refine Len.map ?_ | refine Len.nil ?_ | refine Len.cons ?_ | refine Br.t rfl ?_ | refine Br.f rfl ?_ | refine Fit.au ?_ | refine Cv.au ?_ | refine Need.ne ?_ | refine Need.au ?_ | refine Pick.map (by assumption) ?_ | refine Pick.mapI (by omega) (by assumption) ?_ | refine PickN.mk _ (by assumption) ?_ | refine PickN.mk _ rfl ?_ | refine PickN.au ?_ | refine App.au rfl ?_ | refine App.au (own_map (fun _ => rfl) _) ?_ | refine Both.mk ?_ ?_ | exact True.intro | refine Br.d (fun h => ?_) (fun h => ?_) | refine Br.nd (fun h => ?_) (fun h => ?_) | refine Br.mk (fun h => ?_) (fun h => ?_)
  · have hpos : 0 < s.length := by omega
    repeat' first | refine Len.map ?_ | refine Len.nil ?_ | refine Len.cons ?_ | refine Br.t rfl ?_ | refine Br.f rfl ?_ | refine Fit.au ?_ | refine Cv.au ?_ | refine Need.ne ?_ | refine Need.au ?_ | refine Pick.map (by assumption) ?_ | refine Pick.mapI (by omega) (by assumption) ?_ | refine PickN.mk _ (by assumption) ?_ | refine PickN.mk _ rfl ?_ | refine PickN.au ?_ | refine App.au rfl ?_ | refine App.au (own_map (fun _ => rfl) _) ?_ | refine Both.mk ?_ ?_ | exact True.intro
    refine Dyn.mk _ _ rfl rfl rfl (Run.fr (tm' := dT 0) (hp' := dH s x (List.replicate s.length false)) (nx' := 7) (into_run s x hs hsm hn _ 0 _ (by simp) hpos (fun hne => .zero (fun e => by subst e; exact absurd hpos (by decide)) (fun e => hne e.symm)) (Nat.le_refl _) fun l2 hi => ?_) (g := []) ⟨rfl, (by repeat' first | exact trivial | refine ⟨rfl, ?_⟩ | refine ⟨congrArg (fun n => AV.lit (.int .i64 n)) (by omega), ?_⟩ | refine ⟨congrArg (fun l => some (Row.row 1 l)) (by simp [int1, num, tru]), ?_⟩), (by repeat' first | exact trivial | refine ⟨rfl, ?_⟩ | refine ⟨congrArg (fun n => AV.lit (.int .i64 n)) (by omega), ?_⟩ | refine ⟨congrArg (fun l => some (Row.row 1 l)) (by simp [int1, num, tru]), ?_⟩)⟩)
    repeat' first | refine Len.map ?_ | refine Len.nil ?_ | refine Len.cons ?_ | refine Br.t rfl ?_ | refine Br.f rfl ?_ | refine Fit.au ?_ | refine Cv.au ?_ | refine Need.ne ?_ | refine Need.au ?_ | refine Pick.map (by assumption) ?_ | refine Pick.mapI (by omega) (by assumption) ?_ | refine PickN.mk _ (by assumption) ?_ | refine PickN.mk _ rfl ?_ | refine PickN.au ?_ | refine App.au rfl ?_ | refine App.au (own_map (fun _ => rfl) _) ?_ | refine Both.mk ?_ ?_ | exact True.intro
    exact hK l2 (hi.marks hs)
  · have e0 : s = [] := by cases s with | nil => rfl | cons a s => simp at *
    subst e0
    repeat' first | refine Len.map ?_ | refine Len.nil ?_ | refine Len.cons ?_ | refine Br.t rfl ?_ | refine Br.f rfl ?_ | refine Fit.au ?_ | refine Cv.au ?_ | refine Need.ne ?_ | refine Need.au ?_ | refine Pick.map (by assumption) ?_ | refine Pick.mapI (by omega) (by assumption) ?_ | refine PickN.mk _ (by assumption) ?_ | refine PickN.mk _ rfl ?_ | refine PickN.au ?_ | refine App.au rfl ?_ | refine App.au (own_map (fun _ => rfl) _) ?_ | refine Both.mk ?_ ?_ | exact True.intro
    exact hK [] marks_nil
end Go.Proofs.Ytjjijklonnhdeaa

/- Small functions, by their contracts: lists and instructions the same, what an Op has. -/
namespace Go.Proofs.Ytjjijklonnhdeaa
open Go.Ax
set_option maxRecDepth 10000
set_option linter.unusedVariables false

theorem SameInts_spec (xs ys : List Int) (hl : xs.length ≤ 9223372036854775807) : FnSpec Try.prog 6 [ints xs, ints ys] (fun r => r = tru (decide (xs = ys))) := by
  refine spec_of 1000 Try.func6 rfl rfl ?_
  repeat' first | refine Len.map ?_ | refine Len.nil ?_ | refine Len.cons ?_ | refine Br.t rfl ?_ | refine Br.f rfl ?_ | refine Fit.au ?_ | refine Cv.au ?_ | refine Need.ne ?_ | refine Need.au ?_ | refine Pick.map (by assumption) ?_ | refine Pick.mapI (by omega) (by assumption) ?_ | refine PickN.mk _ (by assumption) ?_ | refine PickN.mk _ rfl ?_ | refine PickN.au ?_ | refine App.au rfl ?_ | refine App.au (own_map (fun _ => rfl) _) ?_ | refine Both.mk ?_ ?_ | exact True.intro | refine Br.d (fun h => ?_) (fun h => ?_) | refine Br.nd (fun h => ?_) (fun h => ?_) | refine Br.mk (fun h => ?_) (fun h => ?_)
  · have : xs ≠ ys := fun e => h (by rw [e])
    show _ = _
    simp [asRes, tru, this]
  · refine Stop.mk (loop_in (fun k : Nat => [(0, ints xs), (1, ints ys), (5, num k)]) (fun k => []) 0 (fun k => k ≤ xs.length ∧ xs.take k = ys.take k) (fun k => xs.length - k) 0 ⟨by omega, rfl⟩ (g := []) ⟨rfl, (by repeat' first | exact trivial | refine ⟨rfl, ?_⟩ | refine ⟨congrArg (fun n => AV.lit (.int .i64 n)) (by omega), ?_⟩ | refine ⟨congrArg (fun l => some (Row.row 1 l)) (by simp [int1, num, tru]), ?_⟩), (by repeat' first | exact trivial | refine ⟨rfl, ?_⟩ | refine ⟨congrArg (fun n => AV.lit (.int .i64 n)) (by omega), ?_⟩ | refine ⟨congrArg (fun l => some (Row.row 1 l)) (by simp [int1, num, tru]), ?_⟩)⟩ (fun k hk ih => ?_))
    obtain ⟨hk1, hk2⟩ := hk
    refine go 1000 Try.func6 ?_
    repeat' first | refine Len.map ?_ | refine Len.nil ?_ | refine Len.cons ?_ | refine Br.t rfl ?_ | refine Br.f rfl ?_ | refine Fit.au ?_ | refine Cv.au ?_ | refine Need.ne ?_ | refine Need.au ?_ | refine Pick.map (by assumption) ?_ | refine Pick.mapI (by omega) (by assumption) ?_ | refine PickN.mk _ (by assumption) ?_ | refine PickN.mk _ rfl ?_ | refine PickN.au ?_ | refine App.au rfl ?_ | refine App.au (own_map (fun _ => rfl) _) ?_ | refine Both.mk ?_ ?_ | exact True.intro
    refine Br.d (fun h2 => ?_) (fun h2 => ?_)
    · obtain ⟨x, gx, -⟩ := getK (l := xs) (k := k) (by omega)
      obtain ⟨y, gy, -⟩ := getK (l := ys) (k := k) (by omega)
      refine Draw.mk (sch 9 []) (by kernel_rfl) ?_
      refine Pick.map gx ?_
      refine Pick.map gy ?_
      refine Br.nd (fun h3 => ?_) (fun h3 => ?_)
      · have : xs ≠ ys := fun e => h3 (by subst e; rw [gx] at gy; exact Option.some.inj gy)
        show _ = _
        simp [asRes, tru, this]
      · repeat' first | refine Len.map ?_ | refine Len.nil ?_ | refine Len.cons ?_ | refine Br.t rfl ?_ | refine Br.f rfl ?_ | refine Fit.au ?_ | refine Cv.au ?_ | refine Need.ne ?_ | refine Need.au ?_ | refine Pick.map (by assumption) ?_ | refine Pick.mapI (by omega) (by assumption) ?_ | refine PickN.mk _ (by assumption) ?_ | refine PickN.mk _ rfl ?_ | refine PickN.au ?_ | refine App.au rfl ?_ | refine App.au (own_map (fun _ => rfl) _) ?_ | refine Both.mk ?_ ?_ | exact True.intro
        refine Stop.mk (ih (k + 1) _ _ _ ⟨by omega, ?_⟩ (by omega) (g := []) ⟨rfl, (by repeat' first | exact trivial | refine ⟨rfl, ?_⟩ | refine ⟨congrArg (fun n => AV.lit (.int .i64 n)) (by omega), ?_⟩ | refine ⟨congrArg (fun l => some (Row.row 1 l)) (by simp [int1, num, tru]), ?_⟩), (by repeat' first | exact trivial | refine ⟨rfl, ?_⟩ | refine ⟨congrArg (fun n => AV.lit (.int .i64 n)) (by omega), ?_⟩ | refine ⟨congrArg (fun l => some (Row.row 1 l)) (by simp [int1, num, tru]), ?_⟩)⟩)
        rw [take_succ gx, take_succ gy, hk2, h3]
    · repeat' first | refine Len.map ?_ | refine Len.nil ?_ | refine Len.cons ?_ | refine Br.t rfl ?_ | refine Br.f rfl ?_ | refine Fit.au ?_ | refine Cv.au ?_ | refine Need.ne ?_ | refine Need.au ?_ | refine Pick.map (by assumption) ?_ | refine Pick.mapI (by omega) (by assumption) ?_ | refine PickN.mk _ (by assumption) ?_ | refine PickN.mk _ rfl ?_ | refine PickN.au ?_ | refine App.au rfl ?_ | refine App.au (own_map (fun _ => rfl) _) ?_ | refine Both.mk ?_ ?_ | exact True.intro
      have e1 := take_all (l := xs) (k := k) (by omega)
      have e2 := take_all (l := ys) (k := k) (by omega)
      have : xs = ys := by rw [← e1, ← e2, hk2]
      show _ = _
      simp [asRes, tru, this]

end Go.Proofs.Ytjjijklonnhdeaa

/- What an Op has, and whether an instruction is right, by contracts. -/
namespace Go.Proofs.Ytjjijklonnhdeaa
open Go.Ax
set_option maxRecDepth 10000
set_option linter.unusedVariables false

theorem ty_ok {t : Nat} {i : TyI} (h : tys.find t = some i) : TyOK Try.prog t i := TyT.find_ok (HasT.ok (P := Try.prog)) h

theorem has_spec (op : Int) : FnSpec Try.prog 68 [num op] (fun r => r = num (hasF op)) := by
  refine spec_of 1000 Try.func68 rfl rfl ?_
  repeat' first | refine Len.map ?_ | refine Len.nil ?_ | refine Len.cons ?_ | refine Br.t rfl ?_ | refine Br.f rfl ?_ | refine Fit.au ?_ | refine Cv.au ?_ | refine Need.ne ?_ | refine Need.au ?_ | refine Pick.map (by assumption) ?_ | refine Pick.mapI (by omega) (by assumption) ?_ | refine PickN.mk _ (by assumption) ?_ | refine PickN.mk _ rfl ?_ | refine PickN.au ?_ | refine App.au rfl ?_ | refine App.au (own_map (fun _ => rfl) _) ?_ | refine Both.mk ?_ ?_ | exact True.intro | refine Br.d (fun h => ?_) (fun h => ?_) | refine Br.nd (fun h => ?_) (fun h => ?_) | refine Br.mk (fun h => ?_) (fun h => ?_)
  all_goals first
    | (refine Stop.mk ?_
       refine run_makeMap rfl rfl ?_
       repeat' refine runM_insert rfl (ty_ok rfl) rfl (ty_ok rfl) rfl rfl ?_
       refine runM_done ?_
       refine go 1000 Try.func68 ?_
       refine Stop.mk ?_
       refine run_op rfl want_none rfl (Reads.ok (rd_lookup rfl (ty_ok rfl) rfl (ty_ok rfl) rfl (by kernel_rfl) rfl rfl rfl)) ?_
       refine go 1000 Try.func68 ?_
       show _ = _
       unfold hasF; rw [if_neg (by omega), if_neg (by omega)]; rfl)
    | (show _ = _
       unfold hasF; first | (rw [if_pos (by omega)]; rfl) | (rw [if_neg (by omega), if_pos (by omega)]; rfl))

theorem tells_spec (m : Int) : FnSpec Try.prog 71 [num m] (fun r => r = tru (tellsF m)) := by
  refine spec_of 1000 Try.func71 rfl rfl ?_
  repeat' first | refine Len.map ?_ | refine Len.nil ?_ | refine Len.cons ?_ | refine Br.t rfl ?_ | refine Br.f rfl ?_ | refine Fit.au ?_ | refine Cv.au ?_ | refine Need.ne ?_ | refine Need.au ?_ | refine Pick.map (by assumption) ?_ | refine Pick.mapI (by omega) (by assumption) ?_ | refine PickN.mk _ (by assumption) ?_ | refine PickN.mk _ rfl ?_ | refine PickN.au ?_ | refine App.au rfl ?_ | refine App.au (own_map (fun _ => rfl) _) ?_ | refine Both.mk ?_ ?_ | exact True.intro | refine Br.d (fun h => ?_) (fun h => ?_) | refine Br.nd (fun h => ?_) (fun h => ?_) | refine Br.mk (fun h => ?_) (fun h => ?_)
  all_goals (show _ = _; simp_all [asRes, tellsF, tru]; try omega)

set_option maxHeartbeats 4000000 in
theorem fields_spec (i : Ins) (h : Int) : FnSpec Try.prog 69 [insA i, num h] (fun r => r = tru (fieldsF i h)) := by
  refine spec_of 1000 Try.func69 rfl rfl ?_
  repeat' first | refine Call.eq (tells_spec _) rfl ?_ | refine Len.map ?_ | refine Len.nil ?_ | refine Len.cons ?_ | refine Br.t rfl ?_ | refine Br.f rfl ?_ | refine Fit.au ?_ | refine Cv.au ?_ | refine Need.ne ?_ | refine Need.au ?_ | refine Pick.map (by assumption) ?_ | refine Pick.mapI (by omega) (by assumption) ?_ | refine PickN.mk _ (by assumption) ?_ | refine PickN.mk _ rfl ?_ | refine PickN.au ?_ | refine App.au rfl ?_ | refine App.au (own_map (fun _ => rfl) _) ?_ | refine Both.mk ?_ ?_ | exact True.intro | refine Br.d (fun h => ?_) (fun h => ?_) | refine Br.nd (fun h => ?_) (fun h => ?_) | refine Br.mk (fun h => ?_) (fun h => ?_)
  all_goals
    show _ = _
    have e : ∀ x y, IntKind.i64.wrap (((BitVec.ofInt IntKind.i64.bits x &&& BitVec.ofInt IntKind.i64.bits y).toNat : Nat) : Int) = band x y := fun _ _ => rfl
    simp only [e] at *
    clear e
    simp only [asRes, fieldsF, fieldsA, fieldsB, tru]
    simp_all
    try omega

theorem Min_spec (l : List Int) (h0 : l ≠ []) (hl : l.length < 9223372036854775807) : FnSpec Try.prog 70 [ints l] (fun r => ∃ m, r = num m ∧ m ∈ l ∧ ∀ x ∈ l, m ≤ x) := by
  have h1 : 0 < l.length := List.length_pos_iff.2 h0
  obtain ⟨m0, g0, gm⟩ := getK (l := l) (k := 0) h1
  refine spec_of 1000 Try.func70 rfl rfl ?_
  refine Len.map ?_
  refine Br.d (fun h => by omega) (fun h => ?_)
  refine Pick.map (n := 0) g0 ?_
  repeat' first | refine Len.map ?_ | refine Len.nil ?_ | refine Len.cons ?_ | refine Br.t rfl ?_ | refine Br.f rfl ?_ | refine Fit.au ?_ | refine Cv.au ?_ | refine Need.ne ?_ | refine Need.au ?_ | refine Pick.map (by assumption) ?_ | refine Pick.mapI (by omega) (by assumption) ?_ | refine PickN.mk _ (by assumption) ?_ | refine PickN.mk _ rfl ?_ | refine PickN.au ?_ | refine App.au rfl ?_ | refine App.au (own_map (fun _ => rfl) _) ?_ | refine Both.mk ?_ ?_ | exact True.intro
  refine Stop.mk (loop_in (fun p : Nat × Int => [(0, ints l), (3, num p.2), (4, num p.1)]) (fun _ => []) 0 (fun p => p.1 ≤ l.length ∧ p.2 ∈ l ∧ ∀ x ∈ l.take p.1, p.2 ≤ x) (fun p => l.length - p.1) (1, m0) ⟨by dsimp only; omega, gm, ?_⟩ (g := []) ⟨rfl, (by repeat' first | exact trivial | refine ⟨rfl, ?_⟩ | refine ⟨congrArg (fun n => AV.lit (.int .i64 n)) (by omega), ?_⟩ | refine ⟨congrArg (fun l => some (Row.row 1 l)) (by simp [int1, num, tru]), ?_⟩), (by repeat' first | exact trivial | refine ⟨rfl, ?_⟩ | refine ⟨congrArg (fun n => AV.lit (.int .i64 n)) (by omega), ?_⟩ | refine ⟨congrArg (fun l => some (Row.row 1 l)) (by simp [int1, num, tru]), ?_⟩)⟩ (fun p hp ih => ?_))
  · intro x hx
    cases l with
    | nil => exact absurd rfl h0
    | cons a l => simp at g0 hx; omega
  · obtain ⟨k, m⟩ := p
    obtain ⟨hk, hm, hx⟩ := hp
    dsimp only at hk hm hx ih
    refine go 1000 Try.func70 ?_
    repeat' first | refine Len.map ?_ | refine Len.nil ?_ | refine Len.cons ?_ | refine Br.t rfl ?_ | refine Br.f rfl ?_ | refine Fit.au ?_ | refine Cv.au ?_ | refine Need.ne ?_ | refine Need.au ?_ | refine Pick.map (by assumption) ?_ | refine Pick.mapI (by omega) (by assumption) ?_ | refine PickN.mk _ (by assumption) ?_ | refine PickN.mk _ rfl ?_ | refine PickN.au ?_ | refine App.au rfl ?_ | refine App.au (own_map (fun _ => rfl) _) ?_ | refine Both.mk ?_ ?_ | exact True.intro
    refine Br.d (fun h => ?_) (fun h => ?_)
    · obtain ⟨x, gx, gxm⟩ := getK (l := l) (k := k) (by omega)
      repeat' first | refine Len.map ?_ | refine Len.nil ?_ | refine Len.cons ?_ | refine Br.t rfl ?_ | refine Br.f rfl ?_ | refine Fit.au ?_ | refine Cv.au ?_ | refine Need.ne ?_ | refine Need.au ?_ | refine Pick.map (by assumption) ?_ | refine Pick.mapI (by omega) (by assumption) ?_ | refine PickN.mk _ (by assumption) ?_ | refine PickN.mk _ rfl ?_ | refine PickN.au ?_ | refine App.au rfl ?_ | refine App.au (own_map (fun _ => rfl) _) ?_ | refine Both.mk ?_ ?_ | exact True.intro
      refine Stop.mk (ih (k + 1, min m x) _ _ _ ⟨by dsimp only; omega, ?_, ?_⟩ (by dsimp only; omega) (g := []) ⟨rfl, (by repeat' first | exact trivial | refine ⟨rfl, ?_⟩ | refine ⟨congrArg (fun n => AV.lit (.int .i64 n)) (by omega), ?_⟩ | refine ⟨congrArg (fun l => some (Row.row 1 l)) (by simp [int1, num, tru]), ?_⟩), (by repeat' first | exact trivial | refine ⟨rfl, ?_⟩ | refine ⟨congrArg (fun n => AV.lit (.int .i64 n)) (by omega), ?_⟩ | refine ⟨congrArg (fun l => some (Row.row 1 l)) (by simp [int1, num, tru]), ?_⟩)⟩)
      · dsimp only
        rcases Int.le_total m x with hh | hh
        · rw [Int.min_eq_left hh]; exact hm
        · rw [Int.min_eq_right hh]; exact gxm
      · exact all_take_succ gx (fun y hy => by have := hx y hy; dsimp only; omega) (by dsimp only; omega)
    · rw [take_all (by omega)] at hx
      repeat' first | refine Len.map ?_ | refine Len.nil ?_ | refine Len.cons ?_ | refine Br.t rfl ?_ | refine Br.f rfl ?_ | refine Fit.au ?_ | refine Cv.au ?_ | refine Need.ne ?_ | refine Need.au ?_ | refine Pick.map (by assumption) ?_ | refine Pick.mapI (by omega) (by assumption) ?_ | refine PickN.mk _ (by assumption) ?_ | refine PickN.mk _ rfl ?_ | refine PickN.au ?_ | refine App.au rfl ?_ | refine App.au (own_map (fun _ => rfl) _) ?_ | refine Both.mk ?_ ?_ | exact True.intro
      exact ⟨m, rfl, hm, hx⟩

def fl (i : Ins) : List (Int × Int) := [(1, i.dst), (2, i.a), (4, i.b), (8, i.c), (256, i.site)]
def two (p : Int × Int) : List AV := [num p.1, num p.2]

theorem band_eq (x y : Int) : IntKind.i64.wrap (((BitVec.ofInt IntKind.i64.bits x &&& BitVec.ofInt IntKind.i64.bits y).toNat : Nat) : Int) = band x y := rfl

set_option maxHeartbeats 4000000 in
theorem Right_spec (i : Ins) (hi : i.fits) : FnSpec Try.prog 65 [insA i] (fun r => r = tru (rightF i)) := by
  refine spec_of 3000 Try.func65 rfl rfl ?_
  repeat' first | refine Call.eq (has_spec _) rfl ?_ | refine Call.eq (fields_spec i _) rfl ?_ | refine Len.map ?_ | refine Len.nil ?_ | refine Len.cons ?_ | refine Br.t rfl ?_ | refine Br.f rfl ?_ | refine Fit.au ?_ | refine Cv.au ?_ | refine Need.ne ?_ | refine Need.au ?_ | refine Pick.map (by assumption) ?_ | refine Pick.mapI (by omega) (by assumption) ?_ | refine PickN.mk _ (by assumption) ?_ | refine PickN.mk _ rfl ?_ | refine PickN.au ?_ | refine App.au rfl ?_ | refine App.au (own_map (fun _ => rfl) _) ?_ | refine Both.mk ?_ ?_ | exact True.intro
  refine Br.d (fun h0 => ?_) (fun h0 => ?_)
  · repeat' first | refine Len.map ?_ | refine Len.nil ?_ | refine Len.cons ?_ | refine Br.t rfl ?_ | refine Br.f rfl ?_ | refine Fit.au ?_ | refine Cv.au ?_ | refine Need.ne ?_ | refine Need.au ?_ | refine Pick.map (by assumption) ?_ | refine Pick.mapI (by omega) (by assumption) ?_ | refine PickN.mk _ (by assumption) ?_ | refine PickN.mk _ rfl ?_ | refine PickN.au ?_ | refine App.au rfl ?_ | refine App.au (own_map (fun _ => rfl) _) ?_ | refine Both.mk ?_ ?_ | exact True.intro
    show _ = _
    simp [asRes, rightF, h0, tru]
  repeat' first | refine Call.eq (has_spec _) rfl ?_ | refine Call.eq (fields_spec i _) rfl ?_ | refine Len.map ?_ | refine Len.nil ?_ | refine Len.cons ?_ | refine Br.t rfl ?_ | refine Br.f rfl ?_ | refine Fit.au ?_ | refine Cv.au ?_ | refine Need.ne ?_ | refine Need.au ?_ | refine Pick.map (by assumption) ?_ | refine Pick.mapI (by omega) (by assumption) ?_ | refine PickN.mk _ (by assumption) ?_ | refine PickN.mk _ rfl ?_ | refine PickN.au ?_ | refine App.au rfl ?_ | refine App.au (own_map (fun _ => rfl) _) ?_ | refine Both.mk ?_ ?_ | exact True.intro
  refine Br.mk (fun h1 => ?_) (fun h1 => ?_)
  · show _ = _
    simp at h1
    simp [asRes, rightF, h0, h1, tru]
  simp at h1
  repeat' first | refine Len.map ?_ | refine Len.nil ?_ | refine Len.cons ?_ | refine Br.t rfl ?_ | refine Br.f rfl ?_ | refine Fit.au ?_ | refine Cv.au ?_ | refine Need.ne ?_ | refine Need.au ?_ | refine Pick.map (by assumption) ?_ | refine Pick.mapI (by omega) (by assumption) ?_ | refine PickN.mk _ (by assumption) ?_ | refine PickN.mk _ rfl ?_ | refine PickN.au ?_ | refine App.au rfl ?_ | refine App.au (own_map (fun _ => rfl) _) ?_ | refine Both.mk ?_ ?_ | exact True.intro
  refine Stop.mk (loop_in (fun k : Nat => [(1, .hp 0 0), (3, num (hasF i.op)), (33, .hw 1), (34, num 5), (35, num k)]) (fun k => [(1, .row 2 ((fl i).map two)), (0, .var i.cs)]) 2 (fun k => k ≤ 5 ∧ ∀ p ∈ (fl i).take k, fitF (hasF i.op) p.1 p.2 = true) (fun k => 5 - k) 0 ⟨by omega, by simp⟩ (g := []) ⟨rfl, (by repeat' first | exact trivial | refine ⟨rfl, ?_⟩ | refine ⟨congrArg (fun n => AV.lit (.int .i64 n)) (by omega), ?_⟩ | refine ⟨congrArg (fun l => some (Row.row 1 l)) (by simp [int1, num, tru]), ?_⟩), (by repeat' first | exact trivial | refine ⟨rfl, ?_⟩ | refine ⟨congrArg (fun n => AV.lit (.int .i64 n)) (by omega), ?_⟩ | refine ⟨congrArg (fun l => some (Row.row 1 l)) (by simp [int1, num, tru]), ?_⟩)⟩ (fun k hk ih => ?_))
  obtain ⟨hk1, hk2⟩ := hk
  refine go 1000 Try.func65 ?_
  refine Br.d (fun h2 => ?_) (fun h2 => ?_)
  · obtain ⟨p, gp, gm⟩ := getK (l := fl i) (k := k) (by simp [fl]; omega)
    have gp2 : ((fl i).map two)[k]? = some (two p) := by simp [gp]
    refine Need.mk ⟨by omega, by simp [fl]; omega⟩ ?_
    refine PickN.mk _ gp2 ?_
    have bad : fitF (hasF i.op) p.1 p.2 = false → (asRes [tru false] : AV) = tru (rightF i) := fun hb => by
      have : rightF i = false := by
        simp only [fl, List.mem_cons, List.not_mem_nil, or_false] at gm
        rcases gm with rfl | rfl | rfl | rfl | rfl <;> simp [rightF, hb]
      rw [this]; rfl
    repeat' first | refine Len.map ?_ | refine Len.nil ?_ | refine Len.cons ?_ | refine Br.t rfl ?_ | refine Br.f rfl ?_ | refine Fit.au ?_ | refine Cv.au ?_ | refine Need.ne ?_ | refine Need.au ?_ | refine Pick.map (by assumption) ?_ | refine Pick.mapI (by omega) (by assumption) ?_ | refine PickN.mk _ (by assumption) ?_ | refine PickN.mk _ rfl ?_ | refine PickN.au ?_ | refine App.au rfl ?_ | refine App.au (own_map (fun _ => rfl) _) ?_ | refine Both.mk ?_ ?_ | exact True.intro | refine Br.d (fun h => ?_) (fun h => ?_) | refine Br.nd (fun h => ?_) (fun h => ?_) | refine Br.mk (fun h => ?_) (fun h => ?_)
    · show _ = _
      exact bad (by simp [fitF]; omega)
    · show _ = _
      exact bad (by simp only [band_eq] at *; simp [fitF]; omega)
    · refine Stop.mk (ih (k + 1) _ _ _ ⟨by omega, all_take_succ gp hk2 ?_⟩ (by omega) (g := []) ⟨rfl, (by repeat' first | exact trivial | refine ⟨rfl, ?_⟩ | refine ⟨congrArg (fun n => AV.lit (.int .i64 n)) (by omega), ?_⟩ | refine ⟨congrArg (fun l => some (Row.row 1 l)) (by simp [int1, num, tru]), ?_⟩), (by repeat' first | exact trivial | refine ⟨rfl, ?_⟩ | refine ⟨congrArg (fun n => AV.lit (.int .i64 n)) (by omega), ?_⟩ | refine ⟨congrArg (fun l => some (Row.row 1 l)) (by simp [int1, num, tru]), ?_⟩)⟩)
      simp only [band_eq] at *; simp [fitF]; omega
    · refine Stop.mk (ih (k + 1) _ _ _ ⟨by omega, all_take_succ gp hk2 ?_⟩ (by omega) (g := []) ⟨rfl, (by repeat' first | exact trivial | refine ⟨rfl, ?_⟩ | refine ⟨congrArg (fun n => AV.lit (.int .i64 n)) (by omega), ?_⟩ | refine ⟨congrArg (fun l => some (Row.row 1 l)) (by simp [int1, num, tru]), ?_⟩), (by repeat' first | exact trivial | refine ⟨rfl, ?_⟩ | refine ⟨congrArg (fun n => AV.lit (.int .i64 n)) (by omega), ?_⟩ | refine ⟨congrArg (fun l => some (Row.row 1 l)) (by simp [int1, num, tru]), ?_⟩)⟩)
      simp only [band_eq] at *; simp [fitF]; omega
  · rw [take_all (by simp [fl]; omega)] at hk2
    have hfit : (fitF (hasF i.op) 1 i.dst && fitF (hasF i.op) 2 i.a && fitF (hasF i.op) 4 i.b && fitF (hasF i.op) 8 i.c && fitF (hasF i.op) 256 i.site) = true := by
      simp only [fl, List.forall_mem_cons] at hk2
      simp [hk2]
    have hr : rightF i = argsF i (hasF i.op) := by
      unfold rightF; rw [hfit, h1]; simp [h0]
    have hargs : i.args.length ≠ 0 → i.args ≠ [] := fun h e => by rw [e] at h; exact h rfl
    have bad : ¬ ((band (hasF i.op) 512 = 0 → i.args.length = 0) ∧ (band (hasF i.op) 1024 ≠ 0 → i.args.length ≠ 0) ∧ (i.op = 39 → i.args.length ≤ 8)) → (asRes [tru false] : AV) = tru (rightF i) := fun hb => by
      have : argsF i (hasF i.op) = false := decide_eq_false fun h => hb h.1
      rw [hr, this]; rfl
    have good : ∀ b : Bool, ((band (hasF i.op) 512 = 0 → i.args.length = 0) ∧ (band (hasF i.op) 1024 ≠ 0 → i.args.length ≠ 0) ∧ (i.op = 39 → i.args.length ≤ 8)) → (b = true ↔ ∀ x ∈ i.args, 0 ≤ x) → (asRes [tru b] : AV) = tru (rightF i) := fun b h1 h2 => by
      rw [hr]
      show tru b = tru _
      congr 1
      rw [Bool.eq_iff_iff, h2]; unfold argsF; rw [decide_eq_true_iff]; exact ⟨fun h => ⟨h1, h⟩, fun h => h.2⟩
    have none : i.args.length = 0 → ∀ x ∈ i.args, 0 ≤ x := fun h => by rw [List.eq_nil_of_length_eq_zero h]; simp
    repeat' first | (refine Call.of (Min_spec i.args (hargs (by omega)) hi) ?_; rintro r ⟨m, rfl, hm, hx⟩; refine ⟨rfl, ?_⟩) | refine Len.map ?_ | refine Len.nil ?_ | refine Len.cons ?_ | refine Br.t rfl ?_ | refine Br.f rfl ?_ | refine Fit.au ?_ | refine Cv.au ?_ | refine Need.ne ?_ | refine Need.au ?_ | refine Pick.map (by assumption) ?_ | refine Pick.mapI (by omega) (by assumption) ?_ | refine PickN.mk _ (by assumption) ?_ | refine PickN.mk _ rfl ?_ | refine PickN.au ?_ | refine App.au rfl ?_ | refine App.au (own_map (fun _ => rfl) _) ?_ | refine Both.mk ?_ ?_ | exact True.intro | refine Br.d (fun h => ?_) (fun h => ?_) | refine Br.nd (fun h => ?_) (fun h => ?_) | refine Br.mk (fun h => ?_) (fun h => ?_)
    clear ih
    all_goals (show _ = _; try simp only [band_eq] at *)
    all_goals first
      | exact bad (by omega)
      | exact good _ (by omega) (by rename_i m hm hx; simp; exact ⟨fun h x hx' => by have := hx x hx'; omega, fun h => h m hm⟩)
      | exact good _ (by omega) (by simp; exact none (by omega))

end Go.Proofs.Ytjjijklonnhdeaa

/- Dominators, predecessors, writers, as the document's answer says them. No program is in sight here. -/
namespace Go.Proofs.Ytjjijklonnhdeaa
open Go.Ax
/-- One block dominates another: both are reached, the one not without the other. -/
def Dom (s : List (List Int)) (a b : Int) : Prop := Reaches s (-1) a ∧ Reaches s (-1) b ∧ ¬ Reaches s a b
def predOf (s : List (List Int)) (k : Nat) (n : Nat) : List Int := ((List.range n).filter (fun j => decide ((k : Int) ∈ s[j]?.getD []))).map (fun j : Nat => (j : Int))
def predsF (s : List (List Int)) : List (List Int) := (List.range s.length).map (fun k => predOf s k s.length)
theorem predOf_len (s : List (List Int)) (k n : Nat) : (predOf s k n).length ≤ n := by
  unfold predOf
  rw [List.length_map]
  have := List.length_filter_le (fun j => decide ((k : Int) ∈ s[j]?.getD [])) (List.range n)
  rw [List.length_range] at this; exact this
theorem predOf_lt {s : List (List Int)} {k n : Nat} {p : Int} (h : p ∈ predOf s k n) : 0 ≤ p ∧ p < n := by
  unfold predOf at h
  obtain ⟨j, hj, rfl⟩ := List.mem_map.1 h
  have := List.mem_range.1 (List.mem_filter.1 hj).1
  omega
theorem predOf_succ {s : List (List Int)} {k n : Nat} {l : List Int} (h : s[n]? = some l) : predOf s k (n + 1) = predOf s k n ++ if (k : Int) ∈ l then [(n : Int)] else [] := by
  unfold predOf
  rw [List.range_succ, List.filter_append, List.map_append]
  congr 1
  by_cases hk : (k : Int) ∈ l <;> simp [h, hk]
theorem predsF_len (s : List (List Int)) : (predsF s).length = s.length := by unfold predsF; simp
theorem predsF_take {s : List (List Int)} {k : Nat} (h : k < s.length) : (predsF s).take (k + 1) = (predsF s).take k ++ [predOf s k s.length] := by
  refine take_succ ?_
  unfold predsF
  rw [List.getElem?_map, List.getElem?_range h]; rfl
/-- Where a register is written first: block, place. -/
def WrittenAt (f : Fun) (reg : Int) (k at_ : Nat) : Prop := ∃ b i, f.blocks[k]? = some b ∧ b[at_]? = some i ∧ def15 i = reg
/-- The first writer. -/
def FirstAt (f : Fun) (reg : Int) (k at_ : Nat) : Prop := WrittenAt f reg k at_ ∧ ∀ k' a', WrittenAt f reg k' a' → k < k' ∨ (k = k' ∧ at_ ≤ a')
/-- What is told of a writer. -/
def WriterIs (f : Fun) (reg k at_ : Int) (is : Bool) : Prop :=
  (is = true → ∃ k' a' : Nat, k = k' ∧ at_ = a' ∧ 0 ≤ reg ∧ FirstAt f reg k' a') ∧ (is = false → k = 0 ∧ at_ = 0 ∧ (0 ≤ reg → ∀ k' a', ¬ WrittenAt f reg k' a'))
end Go.Proofs.Ytjjijklonnhdeaa

/- What a name has, what an instruction reads, as the document's answer says it. No program is in sight here. -/
namespace Go.Proofs.Ytjjijklonnhdeaa
open Go.Ax
theorem FirstAt.uniq {f : Fun} {reg : Int} {k a k' a' : Nat} (h : FirstAt f reg k a) (h' : FirstAt f reg k' a') : k = k' ∧ a = a' := by
  have h1 := h.2 _ _ h'.1
  have h2 := h'.2 _ _ h.1
  omega
/-- Has a register a value ahead of a place? -/
def HasP (f : Fun) (reg block at_ : Int) : Prop := reg < f.params ∨ (0 ≤ reg ∧ ∃ k i : Nat, FirstAt f reg k i ∧ (((k : Int) = block ∧ (i : Int) < at_) ∨ ((k : Int) ≠ block ∧ Dom (succsF f) k block)))
theorem HasP.of {f : Fun} {reg block at_ k i : Int} (hp : ¬ reg < f.params) (h : WriterIs f reg k i true) : HasP f reg block at_ ↔ ((k = block ∧ i < at_) ∨ (k ≠ block ∧ Dom (succsF f) k block)) := by
  obtain ⟨k1, a1, rfl, rfl, h0, h1⟩ := h.1 rfl
  constructor
  · rintro (h2 | ⟨_, k2, a2, h3, h4⟩)
    · exact absurd h2 hp
    · obtain ⟨rfl, rfl⟩ := h1.uniq h3
      exact h4
  · intro h2
    exact .inr ⟨h0, k1, a1, h1, h2⟩
theorem HasP.no {f : Fun} {reg block at_ k i : Int} (hp : ¬ reg < f.params) (h : WriterIs f reg k i false) : ¬ HasP f reg block at_ := by
  rintro (h2 | ⟨h0, k2, a2, h3, _⟩)
  · exact hp h2
  · exact (h.2 rfl).2.2 h0 _ _ h3.1
end Go.Proofs.Ytjjijklonnhdeaa

/- What a program is that nothing is wrong with, as the document's answer says it. No program is in sight here. -/
namespace Go.Proofs.Ytjjijklonnhdeaa
open Go.Ax
def goesTo (block : Int) (b : List Ins) : Bool := match b[b.length - 1]? with
  | some i => decide (block ∈ targetsF i)
  | none => false
def predCount (f : Fun) (block : Int) : Nat := f.blocks.countP (goesTo block)
theorem countP_take_succ {α : Type} {l : List α} {k : Nat} {x : α} {p : α → Bool} (h : l[k]? = some x) : (l.take (k + 1)).countP p = (l.take k).countP p + if p x = true then 1 else 0 := by
  rw [take_succ h, List.countP_append]; simp
theorem countP_take_le {α : Type} {l : List α} {k : Nat} {p : α → Bool} : (l.take k).countP p ≤ k := by
  have := List.countP_le_length (p := p) (l := l.take k)
  rw [List.length_take] at this; omega
/-- An instruction stands as it may. -/
def formF (b : List Ins) (j : Nat) (i : Ins) : Prop := right15 i = true ∧ (endsF i.op = true ↔ j + 1 = b.length) ∧ (i.op = 44 → ∀ x ∈ b.take j, x.op = 44)
theorem site_pos {i : Ins} (h : right15 i = true) : 0 ≤ i.site := by
  unfold right15 fitsF at h
  simp at h
  have := h.2.1.2.2.2.2
  unfold fits0 at this
  simp at this
  omega
/-- All is there that an instruction names. -/
def thereP (p : Pro) (f : Fun) (block : Int) (i : Ins) : Prop :=
  def15 i < f.regs.length ∧ (∀ u ∈ usesF i, u < f.regs.length) ∧ (∀ t ∈ targetsF i, t ≠ 0 ∧ t < f.blocks.length) ∧
  (checkF i.op = true → i.site < p.sites.length ∧ (p.sites.getD i.site.toNat (0, 0)).1 = trapF i.op) ∧ (i.op = 39 → i.n < p.funcs.length) ∧ (i.op = 44 → (i.args.length : Int) = predCount f block)
def fun0 : Fun := ⟨⟨#[]⟩, 0, 0, [], []⟩
theorem fits0_pos {h : Bool} {n : Int} (e : fits0 h n = true) : 0 ≤ n := by
  unfold fits0 at e; simp at e; omega
theorem right_pos {i : Ins} (h : right15 i = true) : 0 ≤ i.dst ∧ 0 ≤ i.a ∧ 0 ≤ i.b ∧ 0 ≤ i.c := by
  unfold right15 fitsF at h
  simp only [Bool.and_eq_true] at h
  obtain ⟨_, ⟨h1, h2, h3, h4, _⟩, _⟩ := h
  exact ⟨fits0_pos h1, fits0_pos h2, fits0_pos h3, fits0_pos h4⟩
theorem right_n {i : Ins} (h : right15 i = true) (e : i.op = 39) : 0 ≤ i.n := by
  unfold right15 tailF at h
  simp only [Bool.and_eq_true, e, if_true, decide_eq_true_eq] at h
  exact h.2.2.2.1
theorem right_def {i : Ins} (h : right15 i = true) (e : writesF i.op = true) : def15 i = i.dst := by unfold def15; rw [if_pos ⟨h, e⟩]
theorem uses_a {i : Ins} (h : right15 i = true) (e : (abF i.op || oneF i.op) = true) : i.a ∈ usesF i := by
  unfold usesF; rw [if_pos h, if_pos e]; simp
/-- The kinds that an instruction reads. -/
def kindsF (p : Pro) (f : Fun) (i : Ins) : List Int :=
  if i.op = 3 ∨ i.op = 4 then [f.regs.getD i.a.toNat 0, f.regs.getD i.a.toNat 0]
  else if i.op = 23 then [f.regs.getD i.dst.toNat 0]
  else if i.op = 25 ∨ i.op = 42 then [2]
  else if i.op = 26 ∨ i.op = 27 ∨ i.op = 31 then [3]
  else if i.op = 29 ∨ i.op = 32 then [3, 1]
  else if i.op = 30 then [3, 1, 1]
  else if i.op = 39 then (p.funcs.getD i.n.toNat fun0).regs.take (max 0 (min (p.funcs.getD i.n.toNat fun0).params (p.funcs.getD i.n.toNat fun0).regs.length)).toNat
  else if i.op = 43 then [f.ret]
  else if i.op = 45 ∧ i.m = 21 then [3]
  else if i.op = 45 ∧ i.m = 20 then [1, 3]
  else List.replicate (usesF i).length (if i.op = 44 then f.regs.getD i.dst.toNat 0 else 1)
/-- The kind that an instruction writes. -/
def kindF (p : Pro) (f : Fun) (i : Ins) : Int :=
  if i.op ≤ 8 ∨ i.op = 21 ∨ i.op = 25 ∨ i.op = 26 then 2
  else if i.op = 22 ∨ i.op = 28 ∨ (i.op = 45 ∧ i.m = 21) then 3
  else if i.op = 39 then (p.funcs.getD i.n.toNat fun0).ret
  else if i.op = 23 ∨ i.op = 44 then f.regs.getD i.dst.toNat 0
  else 1
end Go.Proofs.Ytjjijklonnhdeaa

/- Nothing is wrong with an instruction. No program is in sight here. -/
namespace Go.Proofs.Ytjjijklonnhdeaa
open Go.Ax
/-- Nothing is wrong with an instruction. -/
def oneP (p : Pro) (f : Fun) (k : Nat) (b : List Ins) (j : Nat) (i : Ins) : Prop :=
  formF b j i ∧ thereP p f k i ∧ (usesF i).map (fun r => f.regs.getD r.toNat 0) = kindsF p f i ∧ (writesF i.op = true → f.regs.getD i.dst.toNat 0 = kindF p f i)
theorem uses_pos {i : Ins} (h : right15 i = true) : ∀ u ∈ usesF i, 0 ≤ u := by
  obtain ⟨h1, h2, h3, h4⟩ := right_pos h
  have h5 : ∀ x ∈ i.args, 0 ≤ x := by
    unfold right15 at h
    simp only [Bool.and_eq_true, decide_eq_true_eq] at h
    exact h.2.2.1
  intro u hu
  unfold usesF at hu
  rw [if_pos h] at hu
  simp only [List.mem_append] at hu
  rcases hu with hu | hu | hu | hu
  · split at hu <;> simp at hu; omega
  · split at hu <;> simp at hu; omega
  · split at hu <;> simp at hu; omega
  · exact h5 u hu
theorem kindsF_len {p : Pro} {f : Fun} {i : Ins} (hi : i.args.length < 100000) (hg : ∀ g ∈ p.funcs, g.regs.length < 1000000) : (kindsF p f i).length < 1000000 := by
  have hu := usesF_len i
  have h1 : (p.funcs.getD i.n.toNat fun0).regs.length < 1000000 := by
    rw [List.getD_eq_getElem?_getD]
    cases hc : p.funcs[i.n.toNat]? with
    | none => simp [fun0]
    | some g => exact hg g (List.mem_of_getElem? hc)
  unfold kindsF
  repeat' split
  all_goals first
    | (simp; done)
    | (rw [List.length_take]; omega)
    | (rw [List.length_replicate]; omega)
end Go.Proofs.Ytjjijklonnhdeaa

/- What is wrong with a program, as the document's answer says it. No program is in sight here. -/
namespace Go.Proofs.Ytjjijklonnhdeaa
open Go.Ax
instance (b : List Ins) (j : Nat) (i : Ins) : Decidable (formF b j i) := by unfold formF; infer_instance
instance (p : Pro) (f : Fun) (k : Int) (i : Ins) : Decidable (thereP p f k i) := by unfold thereP; infer_instance
def typeP (p : Pro) (f : Fun) (i : Ins) : Prop := (usesF i).map (fun r => f.regs.getD r.toNat 0) = kindsF p f i ∧ (writesF i.op = true → f.regs.getD i.dst.toNat 0 = kindF p f i)
instance (p : Pro) (f : Fun) (i : Ins) : Decidable (typeP p f i) := by unfold typeP; infer_instance
/-- What is wrong with an instruction. -/
def oneE (p : Pro) (f : Fun) (k : Nat) (b : List Ins) (j : Nat) (i : Ins) : Int :=
  if formF b j i then (if thereP p f k i then (if typeP p f i then 0 else 11) else 2) else 5
theorem oneE_zero {p : Pro} {f : Fun} {k : Nat} {b : List Ins} {j : Nat} {i : Ins} : oneE p f k b j i = 0 ↔ oneP p f k b j i := by
  unfold oneE oneP
  constructor
  · intro h
    split at h
    · split at h
      · split at h
        · rename_i h1 h2 h3; exact ⟨h1, h2, h3.1, h3.2⟩
        · cases h
      · cases h
    · cases h
  · rintro ⟨h1, h2, h3, h4⟩
    rw [if_pos h1, if_pos h2, if_pos (show typeP p f i from ⟨h3, h4⟩)]
/-- Nothing is wrong with a function itself. -/
def longP (f : Fun) : Prop := 0 ≤ f.params ∧ f.params ≤ 8 ∧ f.params ≤ f.regs.length ∧ f.regs.length ≤ 65536 ∧ f.blocks.length ≤ 65536 ∧ f.count ≤ 262144
def kindP (f : Fun) : Prop := (∀ x ∈ f.regs, 1 ≤ x ∧ x ≤ 3) ∧ (1 ≤ f.ret ∧ f.ret ≤ 3)
instance (f : Fun) : Decidable (longP f) := by unfold longP; infer_instance
instance (f : Fun) : Decidable (kindP f) := by unfold kindP; infer_instance
def headP (f : Fun) : Prop := longP f ∧ kindP f ∧ f.blocks ≠ []
/-- What is wrong with a function itself. -/
def headE (f : Fun) : Int := if longP f then (if kindP f then (if f.blocks.length = 0 then 5 else 0) else 11) else 3
theorem headE_zero {f : Fun} : headE f = 0 ↔ headP f := by
  unfold headE headP
  constructor
  · intro h
    split at h
    · split at h
      · split at h
        · cases h
        · rename_i h1 h2 h3; exact ⟨h1, h2, fun e => h3 (by rw [e]; rfl)⟩
      · cases h
    · cases h
  · rintro ⟨h1, h2, h3⟩
    rw [if_pos h1, if_pos h2, if_neg (fun e => h3 (List.eq_nil_of_length_eq_zero e))]

structure Wrong where
  fn : Int
  block : Int
  at_ : Int
  err : Int
deriving DecidableEq
def Wrong.cs (w : Wrong) : List AV := [num w.fn, num w.block, num w.at_, num w.err]
def Wrong.no : Wrong := ⟨0, 0, 0, 0⟩

/-- The first one of some that tells something. -/
def firstN {α : Type} (g : Nat → Option α) (n : Nat) : Option α := (List.range n).findSome? g
theorem firstN_zero {α : Type} (g : Nat → Option α) : firstN g 0 = none := rfl
theorem firstN_succ {α : Type} (g : Nat → Option α) (n : Nat) : firstN g (n + 1) = (firstN g n).or (g n) := by
  unfold firstN; rw [List.range_succ, List.findSome?_append]; simp [List.findSome?]
  cases g n <;> rfl
theorem firstN_mono {α : Type} {g : Nat → Option α} {m n : Nat} {w : α} (h : firstN g m = some w) (hm : m ≤ n) : firstN g n = some w := by
  induction n with
  | zero => obtain rfl : m = 0 := by omega
            exact h
  | succ n ih =>
    by_cases e : m = n + 1
    · subst e; exact h
    · rw [firstN_succ, ih (by omega)]; rfl
theorem firstN_hit {α : Type} {g : Nat → Option α} {m n : Nat} {w : α} (h : firstN g m = none) (hg : g m = some w) (hm : m < n) : firstN g n = some w :=
  firstN_mono (m := m + 1) (by rw [firstN_succ, h, hg]; rfl) hm
theorem firstN_next {α : Type} {g : Nat → Option α} {m : Nat} (h : firstN g m = none) (hg : g m = none) : firstN g (m + 1) = none := by rw [firstN_succ, h, hg]; rfl
theorem firstN_none {α : Type} {g : Nat → Option α} {n : Nat} (h : firstN g n = none) : ∀ m, m < n → g m = none := by
  intro m hm
  cases e : g m with
  | none => rfl
  | some w =>
    cases e2 : firstN g m with
    | none => rw [firstN_hit e2 e hm] at h; cases h
    | some w2 => rw [firstN_mono e2 (by omega)] at h; cases h
theorem firstN_all {α : Type} {g : Nat → Option α} : ∀ {n : Nat}, (∀ m, m < n → g m = none) → firstN g n = none
  | 0, _ => rfl
  | n + 1, h => firstN_next (firstN_all fun m hm => h m (by omega)) (h n (by omega))

def insW (p : Pro) (f : Fun) (n k : Nat) (b : List Ins) (j : Nat) : Option Wrong := match b[j]? with
  | some i => if oneE p f k b j i = 0 then none else some ⟨n, k, j, oneE p f k b j i⟩
  | none => none
def blkE (p : Pro) (f : Fun) (n k : Nat) : Option Wrong := match f.blocks[k]? with
  | some b => if b.length = 0 then some ⟨n, k, -1, 5⟩ else firstN (insW p f n k b) b.length
  | none => none
def funE (p : Pro) (n : Nat) : Option Wrong := match p.funcs[n]? with
  | some f => if headE f = 0 then firstN (blkE p f n) f.blocks.length else some ⟨n, -1, -1, headE f⟩
  | none => none
/-- The main one is as it must be. -/
def mainP (p : Pro) : Prop := 0 ≤ p.main ∧ p.main < p.funcs.length ∧ (p.funcs.getD p.main.toNat fun0).params = 1 ∧ (p.funcs.getD p.main.toNat fun0).regs.length ≠ 0 ∧ (p.funcs.getD p.main.toNat fun0).regs.getD 0 0 = 3 ∧ (p.funcs.getD p.main.toNat fun0).ret = 1
instance (p : Pro) : Decidable (mainP p) := by unfold mainP; infer_instance
/-- What is wrong with a program. -/
def checkE (p : Pro) : Wrong :=
  if 200 < p.funcs.length ∨ 262144 < p.sites.length then ⟨-1, -1, -1, 3⟩
  else if mainP p then (firstN (funE p) p.funcs.length).getD Wrong.no
  else ⟨-1, -1, -1, 13⟩
theorem insW_some {p : Pro} {f : Fun} {n k : Nat} {b : List Ins} {j : Nat} {i : Ins} (gi : b[j]? = some i) (h : oneE p f k b j i ≠ 0) : insW p f n k b j = some ⟨n, k, j, oneE p f k b j i⟩ := by unfold insW; rw [gi]; exact if_neg h
theorem insW_none {p : Pro} {f : Fun} {n k : Nat} {b : List Ins} {j : Nat} {i : Ins} (gi : b[j]? = some i) (h : oneE p f k b j i = 0) : insW p f n k b j = none := by unfold insW; rw [gi]; exact if_pos h
theorem blkE_empty {p : Pro} {f : Fun} {n k : Nat} {b : List Ins} (gb : f.blocks[k]? = some b) (h : b.length = 0) : blkE p f n k = some ⟨n, k, -1, 5⟩ := by unfold blkE; rw [gb]; exact if_pos h
theorem blkE_first {p : Pro} {f : Fun} {n k : Nat} {b : List Ins} (gb : f.blocks[k]? = some b) (h : b.length ≠ 0) : blkE p f n k = firstN (insW p f n k b) b.length := by unfold blkE; rw [gb]; exact if_neg h
theorem funE_head {p : Pro} {n : Nat} {f : Fun} (gf : p.funcs[n]? = some f) (h : headE f ≠ 0) : funE p n = some ⟨n, -1, -1, headE f⟩ := by unfold funE; rw [gf]; exact if_neg h
theorem funE_first {p : Pro} {n : Nat} {f : Fun} (gf : p.funcs[n]? = some f) (h : headE f = 0) : funE p n = firstN (blkE p f n) f.blocks.length := by unfold funE; rw [gf]; exact if_pos h
theorem checkE_hit {p : Pro} {n : Nat} {w : Wrong} (h1 : p.funcs.length ≤ 200) (h2 : p.sites.length ≤ 262144) (hm : mainP p) (h : firstN (funE p) n = none) (hn : n < p.funcs.length) (hw : funE p n = some w) : checkE p = w := by
  unfold checkE; rw [if_neg (by omega), if_pos hm, firstN_hit h hw hn]; rfl
/-- Nothing is wrong with a function. -/
def funP (p : Pro) (f : Fun) : Prop := headP f ∧ ∀ (k : Nat) (b : List Ins), f.blocks[k]? = some b → b.length ≠ 0 ∧ ∀ (j : Nat) (i : Ins), b[j]? = some i → oneP p f k b j i
/-- Nothing is wrong with a program. -/
def proP (p : Pro) : Prop := p.funcs.length ≤ 200 ∧ p.sites.length ≤ 262144 ∧ mainP p ∧ ∀ f ∈ p.funcs, funP p f
theorem insW_err {p : Pro} {f : Fun} {n k : Nat} {b : List Ins} {j : Nat} {w : Wrong} (h : insW p f n k b j = some w) : w.err ≠ 0 := by
  unfold insW at h
  split at h
  · split at h
    · cases h
    · rename_i h1; cases h; exact h1
  · cases h
theorem firstN_some {α : Type} {g : Nat → Option α} {n : Nat} {w : α} (h : firstN g n = some w) : ∃ m, m < n ∧ g m = some w := by
  unfold firstN at h
  obtain ⟨m, hm, hg⟩ := List.exists_of_findSome?_eq_some h
  exact ⟨m, List.mem_range.1 hm, hg⟩
theorem blkE_err {p : Pro} {f : Fun} {n k : Nat} {w : Wrong} (h : blkE p f n k = some w) : w.err ≠ 0 := by
  unfold blkE at h
  split at h
  · split at h
    · cases h; exact (by decide : (5 : Int) ≠ 0)
    · obtain ⟨m, _, hm⟩ := firstN_some h; exact insW_err hm
  · cases h
theorem funE_err {p : Pro} {n : Nat} {w : Wrong} (h : funE p n = some w) : w.err ≠ 0 := by
  unfold funE at h
  split at h
  · split at h
    · obtain ⟨m, _, hm⟩ := firstN_some h; exact blkE_err hm
    · rename_i h1; cases h; exact h1
  · cases h
theorem blkE_none {p : Pro} {f : Fun} {n k : Nat} {b : List Ins} (gb : f.blocks[k]? = some b) : blkE p f n k = none ↔ b.length ≠ 0 ∧ ∀ (j : Nat) (i : Ins), b[j]? = some i → oneP p f k b j i := by
  by_cases hb : b.length = 0
  · rw [blkE_empty gb hb]
    exact ⟨fun h => (by cases h), fun h => absurd hb h.1⟩
  · rw [blkE_first gb hb]
    constructor
    · intro h
      refine ⟨hb, fun j i gi => ?_⟩
      have h1 := firstN_none h j (List.getElem?_eq_some_iff.1 gi).1
      rw [← oneE_zero]
      exact Classical.byContradiction fun h2 => by rw [insW_some gi h2] at h1; cases h1
    · intro h
      refine firstN_all fun j hj => ?_
      exact insW_none (List.getElem?_eq_getElem hj) (oneE_zero.2 (h.2 _ _ (List.getElem?_eq_getElem hj)))
theorem funE_none {p : Pro} {n : Nat} {f : Fun} (gf : p.funcs[n]? = some f) : funE p n = none ↔ funP p f := by
  by_cases hh : headE f = 0
  · rw [funE_first gf hh]
    constructor
    · intro h
      refine ⟨headE_zero.1 hh, fun k b gb => ?_⟩
      exact (blkE_none gb).1 (firstN_none h k (List.getElem?_eq_some_iff.1 gb).1)
    · intro h
      exact firstN_all fun k hk => (blkE_none (List.getElem?_eq_getElem hk)).2 (h.2 _ _ (List.getElem?_eq_getElem hk))
  · rw [funE_head gf hh]
    exact ⟨fun h => (by cases h), fun h => absurd (headE_zero.2 h.1) hh⟩
theorem checkE_zero {p : Pro} : (checkE p).err = 0 ↔ proP p := by
  unfold checkE proP
  by_cases h1 : 200 < p.funcs.length ∨ 262144 < p.sites.length
  · rw [if_pos h1]
    exact ⟨fun h => absurd h (by decide), fun h => by omega⟩
  rw [if_neg h1]
  by_cases h2 : mainP p
  · rw [if_pos h2]
    constructor
    · intro h
      refine ⟨by omega, by omega, h2, fun f hf => ?_⟩
      obtain ⟨n, hn, rfl⟩ := List.getElem_of_mem hf
      rw [← funE_none (List.getElem?_eq_getElem hn)]
      refine firstN_none (n := p.funcs.length) ?_ n hn
      cases e : firstN (funE p) p.funcs.length with
      | none => rfl
      | some w =>
        rw [e] at h
        obtain ⟨m, _, hm⟩ := firstN_some e
        exact absurd h (funE_err hm)
    · intro h
      rw [firstN_all (g := funE p) fun n hn => (funE_none (List.getElem?_eq_getElem hn)).2 (h.2.2.2 _ (List.getElem_mem hn))]
      rfl
  · rw [if_neg h2]
    exact ⟨fun h => absurd h (by decide), fun h => absurd h.2.2.1 h2⟩
/-- Small enough for the machine. -/
def Pro.slim (p : Pro) : Prop := p.fits ∧ ∀ f ∈ p.funcs, f.count ≤ 100000000000000000 ∧ f.regs.length < 1000000 ∧ ∀ b ∈ f.blocks, ∀ i ∈ b, i.args.length < 100000
theorem Pro.few.slim {p : Pro} {most : Int} (h : p.few most) (hm : most ≤ 100000) (hp : p.fits) : p.slim := by
  refine ⟨hp, fun f hf => ?_⟩
  have h1 := Pro.count_fun hf
  have h2 := h.2.2.1
  obtain ⟨h3, _, _, h4⟩ := h.2.2.2 f hf
  exact ⟨by omega, by omega, fun b hb i hi => by have := h4 b hb i hi; omega⟩
end Go.Proofs.Ytjjijklonnhdeaa

/- Who writes a name, as plain data. No program is in sight here. -/
namespace Go.Proofs.Ytjjijklonnhdeaa
open Go.Ax

structure Wr where
  i : Ins
  block : Int
  is : Bool
def Ins.none : Ins := ⟨0, 0, 0, 0, 0, 0, 0, 0, []⟩
def Wr0 : Wr := ⟨Ins.none, 0, false⟩
def Wr.cs (w : Wr) : List AV := [num w.i.op, num w.i.dst, num w.i.a, num w.i.b, num w.i.c, num w.i.n, num w.i.m, num w.i.site, ints w.i.args, num w.block, tru w.is]

structure Names where
  ws : List Wr
  params : Int
def Names.cs (n : Names) : List AV := [.sl false 11 (n.ws.map Wr.cs), num n.params]
def namesA (n : Names) : AV := .pt n.cs
def ownNames (n : Names) : AV := .opt [.osl 11 (n.ws.map Wr.cs), num n.params]

def setW (ws : List Wr) (k : Nat) (i : Ins) : List Wr := if 0 ≤ defF i ∧ defF i < ws.length ∧ (ws.getD (defF i).toNat Wr0).is = false then ws.set (defF i).toNat ⟨i, k, true⟩ else ws
def blkW (ws : List Wr) (k : Nat) (b : List Ins) : Nat → List Wr
  | 0 => ws
  | j + 1 => match b[j]? with
    | some i => setW (blkW ws k b j) k i
    | none => blkW ws k b j
def outW (f : Fun) : Nat → List Wr
  | 0 => List.replicate f.regs.length Wr0
  | k + 1 => match f.blocks[k]? with
    | some b => blkW (outW f k) k b b.length
    | none => outW f k
def newF (f : Fun) : Names := ⟨outW f f.blocks.length, f.params⟩

theorem setW_len (ws : List Wr) (k : Nat) (i : Ins) : (setW ws k i).length = ws.length := by unfold setW; split <;> simp
theorem blkW_len (ws : List Wr) (k : Nat) (b : List Ins) (j : Nat) : (blkW ws k b j).length = ws.length := by
  induction j with
  | zero => rfl
  | succ j ih => unfold blkW; split <;> simp [setW_len, ih]
theorem outW_len (f : Fun) (k : Nat) : (outW f k).length = f.regs.length := by
  induction k with
  | zero => simp [outW]
  | succ k ih => unfold outW; split <;> simp [blkW_len, ih]
theorem blkW_succ {ws : List Wr} {k j : Nat} {b : List Ins} {i : Ins} (h : b[j]? = some i) : blkW ws k b (j + 1) = setW (blkW ws k b j) k i := by simp only [blkW, h]
theorem outW_succ {f : Fun} {k : Nat} {b : List Ins} (h : f.blocks[k]? = some b) : outW f (k + 1) = blkW (outW f k) k b b.length := by simp only [outW, h]

def Names.of (n : Names) (x : Int) : Wr := if 0 ≤ x ∧ x < n.ws.length then n.ws.getD x.toNat Wr0 else Wr0
def Names.block (n : Names) (x : Int) : Int := if (n.of x).is = true then (n.of x).block else if 0 ≤ x ∧ x < n.params ∧ x < n.ws.length then 0 else -1
/-- The names from one on, as far as there is fuel. -/
def Names.up (n : Names) : Nat → Int → List Int
  | 0, x => [x]
  | k + 1, x => if (n.of x).is = true ∧ ((n.of x).i.op = 23 ∨ (n.of x).i.op = 45) then x :: n.up k (n.of x).i.a else [x]
def Names.chain (n : Names) (x : Int) : List Int := if 0 ≤ x ∧ x < n.ws.length then n.up n.ws.length x else []
def Names.root (n : Names) (x : Int) : Int := (n.chain x).getLastD x
def Names.const (n : Names) (x : Int) : Int × Bool := if (n.of (n.root x)).is = true ∧ (n.of (n.root x)).i.op = 20 then ((n.of (n.root x)).i.n, true) else (0, false)
theorem up_len (n : Names) : ∀ (k : Nat) (x : Int), (n.up k x).length ≤ k + 1
  | 0, x => by simp [Names.up]
  | k + 1, x => by
    unfold Names.up
    split
    · have := up_len n k (n.of x).i.a; simp; omega
    · simp
theorem chain_len (n : Names) (x : Int) : (n.chain x).length ≤ n.ws.length + 1 := by
  unfold Names.chain; split
  · exact up_len _ _ _
  · simp
theorem newF_len (f : Fun) : (newF f).ws.length = f.regs.length := outW_len _ _
end Go.Proofs.Ytjjijklonnhdeaa
