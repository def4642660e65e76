/- What is reached, and the new numbers, by contracts. -/
import Derived.Test.YtbmiffgfmlkdnaaG07
import Derived.Test.YtbmiffgfmlkdnaaG10
import Derived.Test.YtbmiffgfmlkdnaaG11
import Derived.Test.YtbmiffgfmlkdnaaG04
import Derived.Shelf.Sort.Plain
import Derived.Shelf.Slices.In.SortNone
import Derived.Test.YtbmiffgfmlkdnaaProg
import Derived.KernelRfl
import Derived.Test.YtbmiffgfmlkdnaaG05
set_option linter.unusedVariables false
set_option linter.unusedSimpArgs false

namespace Go.Proofs.Ytbmiffgfmlkdnaa
open Go.Ax
set_option maxRecDepth 10000
set_option linter.unusedVariables false

theorem Without96_spec (f : Fun) (x : Int) (hf : f.fits) (hn : f.blocks.length ≤ 1000000) : FnSpec Try.prog 42 [funA f, num x] (fun r => r = .osl 1 ((marksF (succsF f) x).map tb)) := by
  have hcl := succsF_closed f
  have hsm := succsF_small f
  have hsn : (succsF f).length ≤ 1000000 := by rw [succsF_len]; exact hn
  refine spec_of 9 Try.func42 rfl rfl ?_
  repeat' first | refine Call.eq (Succs95_spec f hf hn) rfl ?_ | refine Len.map ?_ | refine Len.nil ?_ | refine Len.cons ?_ | refine Br.t rfl ?_ | refine Br.f rfl ?_ | refine Fit.au ?_ | refine Cv.au ?_ | refine Need.ne ?_ | refine Need.au ?_ | refine Pick.map (by assumption) ?_ | refine Pick.mapI (by omega) (by assumption) ?_ | refine PickN.mk _ (by assumption) ?_ | refine PickN.mk _ rfl ?_ | refine PickN.au ?_ | refine App.au rfl ?_ | refine App.au (own_map (fun _ => rfl) _) ?_ | refine Both.mk ?_ ?_ | exact True.intro
  refine Stop.mk (run_frzR 1 rfl (fzLL_map fz_olsts _) ?_)
  refine Run.fr (tm' := [(6, .sl false 1 ((succsF f).map lst)), (1, num x)]) (hp' := []) (nx' := 0) ?_ (g := []) ⟨rfl, (by repeat' first | exact trivial | refine ⟨rfl, ?_⟩ | refine ⟨congrArg (fun n => AV.lit (.int .i64 n)) (by omega), ?_⟩ | refine ⟨congrArg (fun l => some (Row.row 1 l)) (by simp [int1, num, tru]), ?_⟩), (by repeat' first | exact trivial | refine ⟨rfl, ?_⟩ | refine ⟨congrArg (fun n => AV.lit (.int .i64 n)) (by omega), ?_⟩ | refine ⟨congrArg (fun l => some (Row.row 1 l)) (by simp [int1, num, tru]), ?_⟩)⟩
  refine go 1000 Try.func42 ?_
  refine Look.stop (Stop.mk ?_)
  refine run_inlC rfl want_none rfl rfl rfl rfl rfl rfl rfl (through_run _ x hcl hsm hsn fun l hm => ?_)
  rw [← hm.eq]
  refine Run.fr (g := [(0, 6)]) (tm' := [(8, .hw 0)]) (hp' := [(0, .row 1 (l.map tb))]) (nx' := 1) ?_ ⟨rfl, (by repeat' first | exact trivial | refine ⟨rfl, ?_⟩ | refine ⟨congrArg (fun n => AV.lit (.int .i64 n)) (by omega), ?_⟩ | refine ⟨congrArg (fun l => some (Row.row 1 l)) (by simp [int1, num, tru]), ?_⟩), (by repeat' first | exact trivial | refine ⟨rfl, ?_⟩ | refine ⟨congrArg (fun n => AV.lit (.int .i64 n)) (by omega), ?_⟩ | refine ⟨congrArg (fun l => some (Row.row 1 l)) (by simp [int1, num, tru]), ?_⟩)⟩
  refine go 1000 Try.func42 ?_
  repeat' first | refine Len.map ?_ | refine Len.nil ?_ | refine Len.cons ?_ | refine Br.t rfl ?_ | refine Br.f rfl ?_ | refine Fit.au ?_ | refine Cv.au ?_ | refine Need.ne ?_ | refine Need.au ?_ | refine Pick.map (by assumption) ?_ | refine Pick.mapI (by omega) (by assumption) ?_ | refine PickN.mk _ (by assumption) ?_ | refine PickN.mk _ rfl ?_ | refine PickN.au ?_ | refine App.au rfl ?_ | refine App.au (own_map (fun _ => rfl) _) ?_ | refine Both.mk ?_ ?_ | exact True.intro
  rfl

theorem Reach69_spec (f : Fun) (hf : f.fits) (hn : f.blocks.length ≤ 1000000) : FnSpec Try.prog 25 [funA f] (fun r => r = .osl 1 ((marksF (succsF f) (-1)).map tb)) := by
  refine spec_of 1000 Try.func25 rfl rfl ?_
  repeat' first | refine Call.eq (Without96_spec f (-1) hf hn) rfl ?_ | refine Len.map ?_ | refine Len.nil ?_ | refine Len.cons ?_ | refine Br.t rfl ?_ | refine Br.f rfl ?_ | refine Fit.au ?_ | refine Cv.au ?_ | refine Need.ne ?_ | refine Need.au ?_ | refine Pick.map (by assumption) ?_ | refine Pick.mapI (by omega) (by assumption) ?_ | refine PickN.mk _ (by assumption) ?_ | refine PickN.mk _ rfl ?_ | refine PickN.au ?_ | refine App.au rfl ?_ | refine App.au (own_map (fun _ => rfl) _) ?_ | refine Both.mk ?_ ?_ | exact True.intro
  rfl

end Go.Proofs.Ytbmiffgfmlkdnaa

/- The rim of each block, as the program reckons it, by a contract. -/
namespace Go.Proofs.Ytbmiffgfmlkdnaa
open Go.Ax
set_option maxRecDepth 10000
set_option linter.unusedVariables false

theorem run_unf {P : Program} {f : Nat} {Q : Post} {todo : List Item} {tm : TM} {hp hp' : HP} {nx nt : Nat} (id : Nat) (h : unf1 id hp = some hp') (k : Run P f Q todo ⟨tm, hp', nx, nt⟩) : Run P f Q todo ⟨tm, hp, nx, nt⟩ := by
  intro S0 B w0 I a w hlo hr
  exact k S0 B w0 I a w hlo (Rel.unf hr h)
theorem Index97_spec (l : List Int) (x : Int) (hl : l.length ≤ 1000000000) : FnSpec Try.prog 52 [ints l, num x] (fun r => ∃ n : Int, r = num n ∧ (0 ≤ n ↔ x ∈ l)) := by
  refine spec_of 1000 Try.func52 rfl rfl ?_
  repeat' first | refine Len.map ?_ | refine Len.nil ?_ | refine Len.cons ?_ | refine Br.t rfl ?_ | refine Br.f rfl ?_ | refine Fit.au ?_ | refine Cv.au ?_ | refine Need.ne ?_ | refine Need.au ?_ | refine Pick.map (by assumption) ?_ | refine Pick.mapI (by omega) (by assumption) ?_ | refine PickN.mk _ (by assumption) ?_ | refine PickN.mk _ rfl ?_ | refine PickN.au ?_ | refine App.au rfl ?_ | refine App.au (own_map (fun _ => rfl) _) ?_ | refine Both.mk ?_ ?_ | exact True.intro
  refine Stop.mk (loop_in (g := []) (fun k : Nat => [(0, ints l), (1, num x), (7, num l.length), (8, num k)]) (fun k => []) 0 (fun k => k ≤ l.length ∧ x ∉ l.take k) (fun k => l.length - k) 0 ⟨by omega, by simp⟩ ⟨rfl, (by repeat' first | exact trivial | refine ⟨rfl, ?_⟩ | refine ⟨congrArg (fun n => AV.lit (.int .i64 n)) (by omega), ?_⟩ | refine ⟨congrArg (fun l => some (Row.row 1 l)) (by simp [int1, num, tru]), ?_⟩), (by repeat' first | exact trivial | refine ⟨rfl, ?_⟩ | refine ⟨congrArg (fun n => AV.lit (.int .i64 n)) (by omega), ?_⟩ | refine ⟨congrArg (fun l => some (Row.row 1 l)) (by simp [int1, num, tru]), ?_⟩)⟩ (fun k hk ih => ?_))
  obtain ⟨hk, hno⟩ := hk
  refine go 1000 Try.func52 ?_
  repeat' first | refine Len.map ?_ | refine Len.nil ?_ | refine Len.cons ?_ | refine Br.t rfl ?_ | refine Br.f rfl ?_ | refine Fit.au ?_ | refine Cv.au ?_ | refine Need.ne ?_ | refine Need.au ?_ | refine Pick.map (by assumption) ?_ | refine Pick.mapI (by omega) (by assumption) ?_ | refine PickN.mk _ (by assumption) ?_ | refine PickN.mk _ rfl ?_ | refine PickN.au ?_ | refine App.au rfl ?_ | refine App.au (own_map (fun _ => rfl) _) ?_ | refine Both.mk ?_ ?_ | exact True.intro
  refine Br.d (fun h2 => ?_) (fun h2 => ?_)
  · obtain ⟨y, gy, gym⟩ := getK (l := l) (k := k) (by omega)
    repeat' first | refine Pick.map gy ?_ | refine Len.map ?_ | refine Len.nil ?_ | refine Len.cons ?_ | refine Br.t rfl ?_ | refine Br.f rfl ?_ | refine Fit.au ?_ | refine Cv.au ?_ | refine Need.ne ?_ | refine Need.au ?_ | refine Pick.map (by assumption) ?_ | refine Pick.mapI (by omega) (by assumption) ?_ | refine PickN.mk _ (by assumption) ?_ | refine PickN.mk _ rfl ?_ | refine PickN.au ?_ | refine App.au rfl ?_ | refine App.au (own_map (fun _ => rfl) _) ?_ | refine Both.mk ?_ ?_ | exact True.intro
    refine Br.d (fun h3 => ?_) (fun h3 => ?_)
    · repeat' first | refine Len.map ?_ | refine Len.nil ?_ | refine Len.cons ?_ | refine Br.t rfl ?_ | refine Br.f rfl ?_ | refine Fit.au ?_ | refine Cv.au ?_ | refine Need.ne ?_ | refine Need.au ?_ | refine Pick.map (by assumption) ?_ | refine Pick.mapI (by omega) (by assumption) ?_ | refine PickN.mk _ (by assumption) ?_ | refine PickN.mk _ rfl ?_ | refine PickN.au ?_ | refine App.au rfl ?_ | refine App.au (own_map (fun _ => rfl) _) ?_ | refine Both.mk ?_ ?_ | exact True.intro
      exact ⟨k, rfl, fun _ => by rw [h3]; exact gym, fun _ => by omega⟩
    · repeat' first | refine Len.map ?_ | refine Len.nil ?_ | refine Len.cons ?_ | refine Br.t rfl ?_ | refine Br.f rfl ?_ | refine Fit.au ?_ | refine Cv.au ?_ | refine Need.ne ?_ | refine Need.au ?_ | refine Pick.map (by assumption) ?_ | refine Pick.mapI (by omega) (by assumption) ?_ | refine PickN.mk _ (by assumption) ?_ | refine PickN.mk _ rfl ?_ | refine PickN.au ?_ | refine App.au rfl ?_ | refine App.au (own_map (fun _ => rfl) _) ?_ | refine Both.mk ?_ ?_ | exact True.intro
      refine Stop.mk (ih (k + 1) (g := []) _ _ _ ⟨by omega, ?_⟩ (by omega) ⟨rfl, (by repeat' first | exact trivial | refine ⟨rfl, ?_⟩ | refine ⟨congrArg (fun n => AV.lit (.int .i64 n)) (by omega), ?_⟩ | refine ⟨congrArg (fun l => some (Row.row 1 l)) (by simp [int1, num, tru]), ?_⟩), (by repeat' first | exact trivial | refine ⟨rfl, ?_⟩ | refine ⟨congrArg (fun n => AV.lit (.int .i64 n)) (by omega), ?_⟩ | refine ⟨congrArg (fun l => some (Row.row 1 l)) (by simp [int1, num, tru]), ?_⟩)⟩)
      rw [take_succ gy, List.mem_append]
      rintro (h4 | h4)
      · exact hno h4
      · exact h3 (List.mem_singleton.1 h4)
  · rw [take_all (by omega)] at hno
    repeat' first | refine Len.map ?_ | refine Len.nil ?_ | refine Len.cons ?_ | refine Br.t rfl ?_ | refine Br.f rfl ?_ | refine Fit.au ?_ | refine Cv.au ?_ | refine Need.ne ?_ | refine Need.au ?_ | refine Pick.map (by assumption) ?_ | refine Pick.mapI (by omega) (by assumption) ?_ | refine PickN.mk _ (by assumption) ?_ | refine PickN.mk _ rfl ?_ | refine PickN.au ?_ | refine App.au rfl ?_ | refine App.au (own_map (fun _ => rfl) _) ?_ | refine Both.mk ?_ ?_ | exact True.intro
    exact ⟨-1, rfl, (fun h => absurd h (by decide)), fun h => absurd h hno⟩
theorem Contains70_spec (l : List Int) (x : Int) (hl : l.length ≤ 1000000000) : FnSpec Try.prog 36 [ints l, num x] (fun r => r = tru (decide (x ∈ l))) := by
  refine spec_of 1000 Try.func36 rfl rfl ?_
  repeat' first | refine Len.map ?_ | refine Len.nil ?_ | refine Len.cons ?_ | refine Br.t rfl ?_ | refine Br.f rfl ?_ | refine Fit.au ?_ | refine Cv.au ?_ | refine Need.ne ?_ | refine Need.au ?_ | refine Pick.map (by assumption) ?_ | refine Pick.mapI (by omega) (by assumption) ?_ | refine PickN.mk _ (by assumption) ?_ | refine PickN.mk _ rfl ?_ | refine PickN.au ?_ | refine App.au rfl ?_ | refine App.au (own_map (fun _ => rfl) _) ?_ | refine Both.mk ?_ ?_ | exact True.intro
  refine Call.of (Index97_spec l x hl) ?_
  rintro r ⟨n, rfl, hn⟩
  refine ⟨rfl, ?_⟩
  repeat' first | refine Len.map ?_ | refine Len.nil ?_ | refine Len.cons ?_ | refine Br.t rfl ?_ | refine Br.f rfl ?_ | refine Fit.au ?_ | refine Cv.au ?_ | refine Need.ne ?_ | refine Need.au ?_ | refine Pick.map (by assumption) ?_ | refine Pick.mapI (by omega) (by assumption) ?_ | refine PickN.mk _ (by assumption) ?_ | refine PickN.mk _ rfl ?_ | refine PickN.au ?_ | refine App.au rfl ?_ | refine App.au (own_map (fun _ => rfl) _) ?_ | refine Both.mk ?_ ?_ | exact True.intro
  have : decide (0 ≤ n) = decide (x ∈ l) := by rw [Bool.eq_iff_iff, decide_eq_true_iff, decide_eq_true_iff]; exact hn
  rw [← this]
  rfl
theorem set_olst2 {ls : List (List Int)} {n : Nat} {a : List Int} {x : Int} : (ls.map olst).set n [.osl 1 (a.map int1 ++ [[num x]])] = (ls.set n (a ++ [x])).map olst := by
  rw [List.map_set]
  congr 1
  unfold olst
  rw [List.map_append]; rfl

end Go.Proofs.Ytbmiffgfmlkdnaa

/- A loop's blocks, gathered: by contracts. -/
namespace Go.Proofs.Ytbmiffgfmlkdnaa
open Go.Ax
set_option maxRecDepth 10000
set_option linter.unusedVariables false

def uH (P : List (List Int)) (m : List Bool) (h : Nat) (la bl : List Int) : HP := [(0, .var [lsts P]), (1, .var [.sl false 1 (m.map tb)]), (2, .var [num 0, .lit (.slice none 0 0), .lit (.slice none 0 0), num 0]), (4, .var [num h, .osl 1 (bl.map int1), ints la, num (-1)]), (5, .var [.fn 43 [.hp 1 0, .hp 4 0, .hp 0 0, .hp 5 0]])]
def uT (k : Int) : TM := [(0, num k), (1, .hp 1 0), (2, .hp 4 0), (3, .hp 0 0), (4, .hp 5 0)]

theorem up_run (s P : List (List Int)) (m : List Bool) (h : Nat) (la : List Int) (hs : Closed s) (hn : s.length ≤ 1000000) (hP : ∀ c : Nat, c < s.length → P[c]? = some (predOf s c s.length)) (hm : ∀ c : Nat, m[c]? = some true ↔ c < s.length ∧ Reaches s (-1) (c : Int)) (hml : m.length = s.length) :
    ∀ (d k : Nat) (bl : List Int), k < s.length → bl.Nodup → (∀ x ∈ bl, 0 ≤ x ∧ x < s.length) → (h : Int) ∈ bl → s.length - bl.length ≤ d → (Rc s k → (k : Int) ∉ bl → InL s h k) →
    ∀ {K : AV → HP → Nat → Prop}, (∀ bl', Up s h bl k bl' → K (asRes []) (uH P m h la bl') 6) → Run Try.prog 43 (Post.inl 6 K) [.code Try.f43.body.get!] ⟨uT k, uH P m h la bl, 6, 38⟩ := by
  intro d
  induction d using Nat.strongRecOn with
  | _ d ihd =>
    intro k bl hk hnd hbb hhb hd hI K hK
    have hbl := nodup_lenI hnd hbb
    obtain ⟨b, gm, -⟩ := getK (l := m) (k := k) (by omega)
    have hC := Contains70_spec bl k (by omega)
    apply join (fun t : Bool => uT k ++ [(18, tru t)]) (fun _ => uH P m h la bl) 6 (fun t => (t = true → ¬ Rc s k ∨ (k : Int) ∈ bl) ∧ (t = false → Rc s k ∧ (k : Int) ∉ bl))
    · intro jn
      refine goI 14 Try.func43 ?_
      repeat' first | refine Pick.map gm ?_ | refine Len.map ?_ | refine Len.nil ?_ | refine Len.cons ?_ | refine Br.t rfl ?_ | refine Br.f rfl ?_ | refine Fit.au ?_ | refine Cv.au ?_ | refine Need.ne ?_ | refine Need.au ?_ | refine Pick.map (by assumption) ?_ | refine Pick.mapI (by omega) (by assumption) ?_ | refine PickN.mk _ (by assumption) ?_ | refine PickN.mk _ rfl ?_ | refine PickN.au ?_ | refine App.au rfl ?_ | refine App.au (own_map (fun _ => rfl) _) ?_ | refine Both.mk ?_ ?_ | exact True.intro
      refine Br.mk (fun h2 => ?_) (fun h2 => ?_)
      · have hb : b = false := by simpa using h2
        have hkR : ¬ Rc s k := fun h3 => by
          have := (hm k).2 ⟨hk, h3⟩
          rw [gm, hb] at this; cases this
        repeat' first | refine Len.map ?_ | refine Len.nil ?_ | refine Len.cons ?_ | refine Br.t rfl ?_ | refine Br.f rfl ?_ | refine Fit.au ?_ | refine Cv.au ?_ | refine Need.ne ?_ | refine Need.au ?_ | refine Pick.map (by assumption) ?_ | refine Pick.mapI (by omega) (by assumption) ?_ | refine PickN.mk _ (by assumption) ?_ | refine PickN.mk _ rfl ?_ | refine PickN.au ?_ | refine App.au rfl ?_ | refine App.au (own_map (fun _ => rfl) _) ?_ | refine Both.mk ?_ ?_ | exact True.intro
        exact Stop.mk (jn true (g := []) _ _ _ ⟨rfl, (by repeat' first | exact trivial | refine ⟨rfl, ?_⟩ | refine ⟨congrArg (fun n => AV.lit (.int .i64 n)) (by omega), ?_⟩ | refine ⟨congrArg (fun l => some (Row.row 1 l)) (by simp [int1, num, tru]), ?_⟩), (by repeat' first | exact trivial | refine ⟨rfl, ?_⟩ | refine ⟨congrArg (fun n => AV.lit (.int .i64 n)) (by omega), ?_⟩ | refine ⟨congrArg (fun l => some (Row.row 1 l)) (by simp [int1, num, tru]), ?_⟩)⟩ ⟨fun _ => .inl hkR, fun h => by cases h⟩)
      · have hb : b = true := by simpa using h2
        have hkR : Rc s k := by
          rw [hb] at gm
          exact ((hm k).1 gm).2
        repeat' first | refine Look.yes ?_ | refine View.map (fun _ => rfl) ?_ | refine CallV.eq hC rfl (Free.lit _) ?_ | refine Len.map ?_ | refine Len.nil ?_ | refine Len.cons ?_ | refine Br.t rfl ?_ | refine Br.f rfl ?_ | refine Fit.au ?_ | refine Cv.au ?_ | refine Need.ne ?_ | refine Need.au ?_ | refine Pick.map (by assumption) ?_ | refine Pick.mapI (by omega) (by assumption) ?_ | refine PickN.mk _ (by assumption) ?_ | refine PickN.mk _ rfl ?_ | refine PickN.au ?_ | refine App.au rfl ?_ | refine App.au (own_map (fun _ => rfl) _) ?_ | refine Both.mk ?_ ?_ | exact True.intro
        refine Stop.mk (run_foldV 4 rfl rfl ?_)
        exact jn (decide ((k : Int) ∈ bl)) (g := []) _ _ _ ⟨rfl, (by repeat' first | exact trivial | refine ⟨rfl, ?_⟩ | refine ⟨congrArg (fun n => AV.lit (.int .i64 n)) (by omega), ?_⟩ | refine ⟨congrArg (fun l => some (Row.row 1 l)) (by simp [int1, num, tru]), ?_⟩), (by repeat' first | exact trivial | refine ⟨rfl, ?_⟩ | refine ⟨congrArg (fun n => AV.lit (.int .i64 n)) (by omega), ?_⟩ | refine ⟨congrArg (fun l => some (Row.row 1 l)) (by simp [int1, num, tru]), ?_⟩)⟩ ⟨fun h => .inr (of_decide_eq_true h), fun h => ⟨hkR, of_decide_eq_false h⟩⟩
    rintro t ⟨ht1, ht2⟩
    refine goI 1000 Try.func43 ?_
    repeat' first | refine Len.map ?_ | refine Len.nil ?_ | refine Len.cons ?_ | refine Br.t rfl ?_ | refine Br.f rfl ?_ | refine Fit.au ?_ | refine Cv.au ?_ | refine Need.ne ?_ | refine Need.au ?_ | refine Pick.map (by assumption) ?_ | refine Pick.mapI (by omega) (by assumption) ?_ | refine PickN.mk _ (by assumption) ?_ | refine PickN.mk _ rfl ?_ | refine PickN.au ?_ | refine App.au rfl ?_ | refine App.au (own_map (fun _ => rfl) _) ?_ | refine Both.mk ?_ ?_ | exact True.intro
    refine Br.mk (fun h2 => ?_) (fun h2 => ?_)
    · repeat' first | refine Len.map ?_ | refine Len.nil ?_ | refine Len.cons ?_ | refine Br.t rfl ?_ | refine Br.f rfl ?_ | refine Fit.au ?_ | refine Cv.au ?_ | refine Need.ne ?_ | refine Need.au ?_ | refine Pick.map (by assumption) ?_ | refine Pick.mapI (by omega) (by assumption) ?_ | refine PickN.mk _ (by assumption) ?_ | refine PickN.mk _ rfl ?_ | refine PickN.au ?_ | refine App.au rfl ?_ | refine App.au (own_map (fun _ => rfl) _) ?_ | refine Both.mk ?_ ?_ | exact True.intro
      exact hK bl (.stays hnd (ht1 h2))
    · obtain ⟨hkR, hkn⟩ := ht2 h2
      have hkI := hI hkR hkn
      have hkh : k ≠ h := fun e => by subst e; exact hkn hhb
      have gr := hP k hk
      have hrl := predOf_len s k s.length
      have hrn := fun (x : Int) (hx : x ∈ predOf s k s.length) => predOf_nn hx
      have hEnd := fun l' (hM : UpM s h bl k (predOf s k s.length) l') => hM.end hkR hkI
      have hpR := fun (p : Nat) (he : Ed s p k) (hp : Rc s p) => InL.pred hkI hkh he hp
      generalize predOf s k s.length = r at *
      repeat' first | refine Pick.map gr ?_ | refine Len.map ?_ | refine Len.nil ?_ | refine Len.cons ?_ | refine Br.t rfl ?_ | refine Br.f rfl ?_ | refine Fit.au ?_ | refine Cv.au ?_ | refine Need.ne ?_ | refine Need.au ?_ | refine Pick.map (by assumption) ?_ | refine Pick.mapI (by omega) (by assumption) ?_ | refine PickN.mk _ (by assumption) ?_ | refine PickN.mk _ rfl ?_ | refine PickN.au ?_ | refine App.au rfl ?_ | refine App.au (own_map (fun _ => rfl) _) ?_ | refine Both.mk ?_ ?_ | exact True.intro
      refine Stop.mk (loop_in (g := []) (fun p : Nat × List Int => [(28, ints r), (29, num r.length), (30, num p.1)] ++ uT k) (fun p => uH P m h la p.2) 6 (fun p => p.1 ≤ r.length ∧ UpM s h bl k (r.take p.1) p.2) (fun p => r.length - p.1) (0, bl ++ [(k : Int)]) ⟨by simp only; omega, .start hnd hkn⟩ ?_ (fun p hp ih => ?_))
      · dsimp only [uH, uT, List.cons_append, List.nil_append]
        rw [List.map_append]
        exact ⟨rfl, (by repeat' first | exact trivial | refine ⟨rfl, ?_⟩ | refine ⟨congrArg (fun n => AV.lit (.int .i64 n)) (by omega), ?_⟩ | refine ⟨congrArg (fun l => some (Row.row 1 l)) (by simp [int1, num, tru]), ?_⟩), (by repeat' first | exact trivial | refine ⟨rfl, ?_⟩ | refine ⟨congrArg (fun n => AV.lit (.int .i64 n)) (by omega), ?_⟩ | refine ⟨congrArg (fun l => some (Row.row 1 l)) (by simp [int1, num, tru]), ?_⟩)⟩
      obtain ⟨j, bl1⟩ := p
      obtain ⟨hj, hM⟩ := hp
      dsimp only at hj hM ih ⊢
      have hb1 : ∀ x ∈ bl1, 0 ≤ x ∧ x < s.length := fun x hx => by
        rcases hM.sound x hx with h3 | ⟨h3, h4, _⟩
        · rcases List.mem_append.1 h3 with h3 | h3
          · exact hbb x h3
          · rw [List.mem_singleton.1 h3]; omega
        · have := Rc_lt hs h4; omega
      have hl1 := nodup_lenI hM.nodup hb1
      have hlt : bl.length < bl1.length := by
        have h3 : (bl ++ [(k : Int)]).Nodup := by
          rw [List.nodup_append]
          exact ⟨hnd, by simp, fun x hx y hy e => by rw [List.mem_singleton.1 hy] at e; subst e; exact hkn hx⟩
        have := List.Nodup.length_le_of_subset h3 (fun x hx => hM.sub x hx)
        simp at this; omega
      refine goI 1000 Try.func43 ?_
      repeat' first | refine Len.map ?_ | refine Len.nil ?_ | refine Len.cons ?_ | refine Br.t rfl ?_ | refine Br.f rfl ?_ | refine Fit.au ?_ | refine Cv.au ?_ | refine Need.ne ?_ | refine Need.au ?_ | refine Pick.map (by assumption) ?_ | refine Pick.mapI (by omega) (by assumption) ?_ | refine PickN.mk _ (by assumption) ?_ | refine PickN.mk _ rfl ?_ | refine PickN.au ?_ | refine App.au rfl ?_ | refine App.au (own_map (fun _ => rfl) _) ?_ | refine Both.mk ?_ ?_ | exact True.intro
      refine Br.d (fun h3 => ?_) (fun h3 => ?_)
      · obtain ⟨x, gx, gxm⟩ := getK (l := r) (k := j) (by omega)
        obtain ⟨p, rfl, hpE⟩ := hrn x gxm
        have hpl : p < s.length := by
          obtain ⟨q, gq, _⟩ := hpE
          exact (List.getElem?_eq_some_iff.1 gq).1
        have htk := take_succ gx
        repeat' first | refine Pick.map gx ?_ | refine Len.map ?_ | refine Len.nil ?_ | refine Len.cons ?_ | refine Br.t rfl ?_ | refine Br.f rfl ?_ | refine Fit.au ?_ | refine Cv.au ?_ | refine Need.ne ?_ | refine Need.au ?_ | refine Pick.map (by assumption) ?_ | refine Pick.mapI (by omega) (by assumption) ?_ | refine PickN.mk _ (by assumption) ?_ | refine PickN.mk _ rfl ?_ | refine PickN.au ?_ | refine App.au rfl ?_ | refine App.au (own_map (fun _ => rfl) _) ?_ | refine Both.mk ?_ ?_ | exact True.intro
        refine Dyn.mk _ _ rfl rfl rfl (Run.fr (tm' := uT p) (hp' := uH P m h la bl1) (nx' := 6) (ihd (s.length - bl1.length) (by omega) p bl1 hpl hM.nodup hb1 (hM.sub _ (List.mem_append_left _ hhb)) (Nat.le_refl _) (fun hp _ => hpR p hpE hp) fun bl2 hU => ?_) (g := []) ⟨rfl, (by repeat' first | exact trivial | refine ⟨rfl, ?_⟩ | refine ⟨congrArg (fun n => AV.lit (.int .i64 n)) (by omega), ?_⟩ | refine ⟨congrArg (fun l => some (Row.row 1 l)) (by simp [int1, num, tru]), ?_⟩), (by repeat' first | exact trivial | refine ⟨rfl, ?_⟩ | refine ⟨congrArg (fun n => AV.lit (.int .i64 n)) (by omega), ?_⟩ | refine ⟨congrArg (fun l => some (Row.row 1 l)) (by simp [int1, num, tru]), ?_⟩)⟩)
        repeat' first | refine Len.map ?_ | refine Len.nil ?_ | refine Len.cons ?_ | refine Br.t rfl ?_ | refine Br.f rfl ?_ | refine Fit.au ?_ | refine Cv.au ?_ | refine Need.ne ?_ | refine Need.au ?_ | refine Pick.map (by assumption) ?_ | refine Pick.mapI (by omega) (by assumption) ?_ | refine PickN.mk _ (by assumption) ?_ | refine PickN.mk _ rfl ?_ | refine PickN.au ?_ | refine App.au rfl ?_ | refine App.au (own_map (fun _ => rfl) _) ?_ | refine Both.mk ?_ ?_ | exact True.intro
        refine Stop.mk (ih (j + 1, bl2) (g := []) _ _ _ ⟨by simp only; omega, ?_⟩ (by simp only; omega) ?_)
        · simp only
          rw [htk]
          exact hM.next hU
        · dsimp only [uH, uT, List.cons_append, List.nil_append]
          exact ⟨rfl, (by repeat' first | exact trivial | refine ⟨rfl, ?_⟩ | refine ⟨congrArg (fun n => AV.lit (.int .i64 n)) (by omega), ?_⟩ | refine ⟨congrArg (fun l => some (Row.row 1 l)) (by simp [int1, num, tru]), ?_⟩), (by repeat' first | exact trivial | refine ⟨rfl, ?_⟩ | refine ⟨congrArg (fun n => AV.lit (.int .i64 n)) (by omega), ?_⟩ | refine ⟨congrArg (fun l => some (Row.row 1 l)) (by simp [int1, num, tru]), ?_⟩)⟩
      · rw [take_all (by omega)] at hM
        repeat' first | refine Len.map ?_ | refine Len.nil ?_ | refine Len.cons ?_ | refine Br.t rfl ?_ | refine Br.f rfl ?_ | refine Fit.au ?_ | refine Cv.au ?_ | refine Need.ne ?_ | refine Need.au ?_ | refine Pick.map (by assumption) ?_ | refine Pick.mapI (by omega) (by assumption) ?_ | refine PickN.mk _ (by assumption) ?_ | refine PickN.mk _ rfl ?_ | refine PickN.au ?_ | refine App.au rfl ?_ | refine App.au (own_map (fun _ => rfl) _) ?_ | refine Both.mk ?_ ?_ | exact True.intro
        exact hK bl1 (hEnd bl1 hM)
end Go.Proofs.Ytbmiffgfmlkdnaa

/- The library's sort of numbers, by the shelf's contract, laid at this program in plain words by the shelf's tools. -/
namespace Go.Proofs
open Go.Shelf
def Try.lays189_ren : Go.Shelf.Ren := ⟨fun | 189 => 44 | 125 => 57 | 257 => 56 | 128 => 75 | 129 => 76 | 294 => 66 | 295 => 67 | 296 => 68 | 297 => 69 | 298 => 70 | 299 => 71 | 216 => 72 | 300 => 73 | 301 => 74 | 328 => 80 | 329 => 81 | 330 => 82 | 331 => 83 | 332 => 84 | 215 => 85 | 343 => 87 | n => n, fun | 28 => 22 | 3 => 3 | 46 => 73 | 0 => 0 | 51 => 84 | 53 => 86 | 4 => 4 | 183 => 77 | 182 => 76 | 131 => 81 | 5 => 5 | 9 => 9 | 218 => 92 | 222 => 96 | 228 => 99 | 229 => 100 | n => n, fun | n => n⟩
theorem Try.lays189 : Go.Proofs.Lays.n189 Try.prog Try.lays189_ren := {
  mixed := by kernel_rfl
  f125 := Try.func57.trans (congrArg some (by kernel_rfl))
  f128 := Try.func75.trans (congrArg some (by kernel_rfl))
  f129 := Try.func76.trans (congrArg some (by kernel_rfl))
  f189 := Try.func44.trans (congrArg some (by kernel_rfl))
  f215 := Try.func85.trans (congrArg some (by kernel_rfl))
  f216 := Try.func72.trans (congrArg some (by kernel_rfl))
  f257 := Try.func56.trans (congrArg some (by kernel_rfl))
  f294 := Try.func66.trans (congrArg some (by kernel_rfl))
  f295 := Try.func67.trans (congrArg some (by kernel_rfl))
  f296 := Try.func68.trans (congrArg some (by kernel_rfl))
  f297 := Try.func69.trans (congrArg some (by kernel_rfl))
  f298 := Try.func70.trans (congrArg some (by kernel_rfl))
  f299 := Try.func71.trans (congrArg some (by kernel_rfl))
  f300 := Try.func73.trans (congrArg some (by kernel_rfl))
  f301 := Try.func74.trans (congrArg some (by kernel_rfl))
  f328 := Try.func80.trans (congrArg some (by kernel_rfl))
  f329 := Try.func81.trans (congrArg some (by kernel_rfl))
  f330 := Try.func82.trans (congrArg some (by kernel_rfl))
  f331 := Try.func83.trans (congrArg some (by kernel_rfl))
  f332 := Try.func84.trans (congrArg some (by kernel_rfl))
  f343 := Try.func87.trans (congrArg some (by kernel_rfl))
  t0 := Try.underlying0
  a0 := Try.isAgg0
  z0 := Try.sizeOf0
  v0 := Try.zeroValue0
  t3 := Try.underlying3
  a3 := Try.isAgg3
  z3 := Try.sizeOf3
  v3 := Try.zeroValue3
  t4 := Try.underlying4
  a4 := Try.isAgg4
  z4 := Try.sizeOf4
  v4 := Try.zeroValue4
  t5 := Try.underlying5
  a5 := Try.isAgg5
  z5 := Try.sizeOf5
  v5 := Try.zeroValue5
  t9 := Try.underlying9
  a9 := Try.isAgg9
  z9 := Try.sizeOf9
  v9 := Try.zeroValue9
  t28 := Try.underlying22
  a28 := Try.isAgg22
  z28 := Try.sizeOf22
  v28 := Try.zeroValue22
  t46 := Try.underlying73
  a46 := Try.isAgg73
  z46 := Try.sizeOf73
  v46 := Try.zeroValue73
  t51 := Try.underlying84
  a51 := Try.isAgg84
  z51 := Try.sizeOf84
  v51 := Try.zeroValue84
  t53 := Try.underlying86
  a53 := Try.isAgg86
  z53 := Try.sizeOf86
  v53 := Try.zeroValue86
  t131 := Try.underlying81
  a131 := Try.isAgg81
  z131 := Try.sizeOf81
  v131 := Try.zeroValue81
  t182 := Try.underlying76
  a182 := Try.isAgg76
  z182 := Try.sizeOf76
  v182 := Try.zeroValue76
  t183 := Try.underlying77
  a183 := Try.isAgg77
  z183 := Try.sizeOf77
  v183 := Try.zeroValue77
  t218 := Try.underlying92
  a218 := Try.isAgg92
  z218 := Try.sizeOf92
  v218 := Try.zeroValue92
  t222 := Try.underlying96
  a222 := Try.isAgg96
  z222 := Try.sizeOf96
  v222 := Try.zeroValue96
  t228 := Try.underlying99
  a228 := Try.isAgg99
  z228 := Try.sizeOf99
  v228 := Try.zeroValue99
  t229 := Try.underlying100
  a229 := Try.isAgg100
  z229 := Try.sizeOf100
  v229 := Try.zeroValue100 }
open Go.Sort Go.RowKit in
theorem Try.slices_Sort_int (blk off cap : Nat) (zs : List Int) (w : World) (hH : Holds (Value.int .i64) w blk off zs.toArray) (hblk : blk < w.heap.size) (hsz : zs.length < 4611686018427387904) :
    Calls Try.prog 44 #[.slice (some ⟨blk, off, none⟩) zs.length cap] w fun e w' =>
      e = .returned (.tuple #[]) ∧ ∃ n os, w' = grow (putRow (Value.int .i64) (Sort.ahead w n) blk off (zs.mergeSort fun x y => decide (x ≤ y)).toArray) os := Any.slices_Sort_int Try.lays189 blk off cap zs w hH hblk hsz
open Go.RowKit Go.Sort in
/-- .. and plain. (LAID: no walk: one application.) -/
theorem Try.slices_Sort_int_none (p : Option Addr) (cap : Nat) (w : World) :
    Calls Try.prog 44 #[.slice p 0 cap] w fun e w' => e = .returned (.tuple #[]) ∧ w' = w := Any.slices_Sort_int_none Try.lays189 p cap w
end Go.Proofs
namespace Go.Proofs.Ytbmiffgfmlkdnaa
open Go.Ax
theorem sorts44 : Sorts Try.prog 44 := ⟨⟨_, _, Try.func44, rfl, rfl⟩, fun blk off cap zs w hH hb hl => Try.slices_Sort_int blk off cap zs w hH hb hl, Try.slices_Sort_int_none⟩
end Go.Proofs.Ytbmiffgfmlkdnaa

/- Where ways meet first, there is the rim, again and again. No program is in sight here. -/
namespace Go.Proofs.Ytbmiffgfmlkdnaa
open Go.Ax

/-- The rim of some blocks, again and again. -/
inductive AllP (rims : List (List Int)) (l : List Int) : Nat → Prop
  | one {k t : Nat} {r : List Int} : (k : Int) ∈ l → rims[k]? = some r → (t : Int) ∈ r → t < rims.length → AllP rims l t
  | more {k t : Nat} {r : List Int} : AllP rims l k → rims[k]? = some r → (t : Int) ∈ r → t < rims.length → AllP rims l t
/-- A way by blocks of a kind. -/
inductive Pth (s : List (List Int)) (A : Nat → Prop) (a : Nat) : Nat → Prop
  | one : A a → Pth s A a a
  | step {c d : Nat} : Pth s A a c → Ed s c d → A d → Pth s A a d
theorem Pth.rc {s : List (List Int)} (hs : Closed s) {A : Nat → Prop} {a c : Nat} (ha : Rc s a) (h : Pth s A a c) : Rc s c := by
  induction h with
  | one => exact ha
  | step _ he _ ih =>
    obtain ⟨l, gl, hm⟩ := he
    exact .step ih gl hm (by have := hs _ (List.mem_of_getElem? gl) _ hm; omega)
theorem Pth.avoid {s : List (List Int)} {A : Nat → Prop} {a c y : Nat} (h : Pth s A a c) (hy : ¬ A y) (hr : Reaches s (y : Int) (a : Int)) : Reaches s (y : Int) (c : Int) := by
  induction h with
  | one => exact hr
  | @step c d _ he hA ih =>
    obtain ⟨l, gl, hm⟩ := he
    refine .step ih gl hm fun e => hy ?_
    have : d = y := by omega
    subst this; exact hA
section
variable {s rims : List (List Int)} {l : List Int}
/-- Some block of a way dominates where it has come to: its first one, or one of the rim. -/
theorem Pth.last (hs : Closed s) (hl : rims.length = s.length) (hrim : ∀ a k : Nat, Rc s a → rimP s a k → ∃ r, rims[a]? = some r ∧ (k : Int) ∈ r) {A : Nat → Prop} {x c : Nat} (hx : Rc s x) (hxl : (x : Int) ∈ l) (h : Pth s A x c) :
    ∃ y, A y ∧ Rc s y ∧ DomN s y c ∧ Pth s A y c ∧ (y = x ∨ AllP rims l y) := by
  induction h with
  | one hA => exact ⟨x, hA, hx, .self hx, .one hA, .inl rfl⟩
  | @step c d hp he hA ih =>
    obtain ⟨y, h1, h2, h3, h4, h5⟩ := ih
    have hd : Rc s d := (Pth.step hp he hA).rc hs hx
    by_cases hdom : DomN s y d
    · exact ⟨y, h1, h2, hdom, .step h4 he hA, h5⟩
    · obtain ⟨r, gr, hm⟩ := hrim y d h2 ⟨hd, ⟨c, he, h3⟩, .inr hdom⟩
      have hdl := Rc_lt hs hd
      refine ⟨d, hA, hd, .self hd, .one hA, .inr ?_⟩
      rcases h5 with rfl | h5
      · exact .one hxl gr hm (by omega)
      · exact .more h5 gr hm (by omega)
theorem joins_rim (hs : Closed s) (hl : rims.length = s.length) (hrim : ∀ a k : Nat, Rc s a → rimP s a k → ∃ r, rims[a]? = some r ∧ (k : Int) ∈ r) {A B : Nat → Prop} {x y c d z : Nat} (hx : Rc s x) (hy : Rc s y) (hxl : (x : Int) ∈ l) (hyl : (y : Int) ∈ l)
    (hp : Pth s A x c) (hc : Ed s c z) (hq : Pth s B y d) (hd : Ed s d z) (hAB : ∀ n, A n → ¬ B n) : AllP rims l z := by
  have hcR := hp.rc hs hx
  have hdR := hq.rc hs hy
  have hz : Rc s z := by
    obtain ⟨r, gr, hm⟩ := hc
    exact .step hcR gr hm (by have := hs _ (List.mem_of_getElem? gr) _ hm; omega)
  have hzl := Rc_lt hs hz
  -- one way: the rim, or a block of it that dominates the meeting place
  have one : ∀ {A : Nat → Prop} {x c : Nat}, Rc s x → (x : Int) ∈ l → Pth s A x c → Ed s c z → AllP rims l z ∨ ∃ w, A w ∧ Rc s w ∧ w ≠ z ∧ DomN s w z ∧ Pth s A w c := by
    intro A x c hx hxl hp hc
    obtain ⟨w, h1, h2, h3, h4, h5⟩ := hp.last hs hl hrim hx hxl
    by_cases hk : w = z ∨ ¬ DomN s w z
    · left
      obtain ⟨r, gr, hm⟩ := hrim w z h2 ⟨hz, ⟨c, hc, h3⟩, hk⟩
      rcases h5 with rfl | h5
      · exact .one hxl gr hm (by omega)
      · exact .more h5 gr hm (by omega)
    · right
      have h6 : w ≠ z ∧ DomN s w z := by
        constructor
        · exact fun e => hk (.inl e)
        · exact Classical.byContradiction fun e => hk (.inr e)
      exact ⟨w, h1, h2, h6.1, h6.2, h4⟩
  rcases one hx hxl hp hc with h | ⟨u, u1, u2, u3, u4, u5⟩
  · exact h
  rcases one hy hyl hq hd with h | ⟨v, v1, v2, v3, v4, v5⟩
  · exact h
  exfalso
  have huv : u ≠ v := fun e => hAB u u1 (e ▸ v1)
  -- who stands above goes by the other one
  have two : ∀ {A : Nat → Prop} {u v c : Nat}, Pth s A u c → Ed s c z → ¬ A v → v ≠ z → Rc s u → Rc s v → DomN s u v → u ≠ v → DomN s v z → False := by
    intro A u v c hp hc hv hvz hu hvR huv hne hvd
    have h1 : Reaches s (v : Int) (u : Int) := Classical.byContradiction fun h => hne (huv.anti ⟨hvR, hu, h⟩)
    have h2 := hp.avoid hv h1
    obtain ⟨r, gr, hm⟩ := hc
    exact hvd.2.2 (.step h2 gr hm (by omega))
  rcases u4.comp hs v4 with h | h
  · exact two u5 hc (fun h1 => hAB v h1 v1) v3 u2 v2 h huv v4
  · exact two v5 hd (fun h1 => hAB u u1 h1) u3 v2 u2 h (fun e => huv e.symm) u4
end
end Go.Proofs.Ytbmiffgfmlkdnaa

/- A loop's blocks by ways that lead to its latches. No program is in sight here. -/
namespace Go.Proofs.Ytbmiffgfmlkdnaa
open Go.Ax

theorem Pth.cons {s : List (List Int)} {A : Nat → Prop} {a b c : Nat} (ha : A a) (he : Ed s a b) (h : Pth s A b c) : Pth s A a c := by
  induction h with
  | one hb => exact .step (.one ha) he hb
  | step _ he2 hd ih => exact .step ih he2 hd
theorem Pth.inL {s : List (List Int)} (hs : Closed s) {h x c : Nat} (hx : Rc s x) (hp : Pth s (· ≠ h) x c) (hc : InL s h c) : InL s h x := by
  induction hp with
  | one => exact hc
  | @step c d hp he hd ih => exact ih (.pred hc hd he (hp.rc hs hx))
theorem InL.rc {s : List (List Int)} {h x : Nat} (hh : Rc s h) (hx : InL s h x) : Rc s x := (hx.dom hh).2.1
theorem InL.leads {s : List (List Int)} {h x : Nat} (hx : InL s h x) : x ≠ h → ∃ p, Ed s p h ∧ DomN s h p ∧ Pth s (· ≠ h) x p := by
  induction hx with
  | head => exact fun hne => absurd rfl hne
  | @latch p he hd => exact fun hne => ⟨p, he, hd, .one hne⟩
  | @pred x p hx hxh he hp ih =>
    intro hne
    obtain ⟨q, h1, h2, h3⟩ := ih hxh
    exact ⟨q, h1, h2, .cons hne he h3⟩
theorem InL.iff {s : List (List Int)} (hs : Closed s) {h x : Nat} (hh : Rc s h) : (Rc s x ∧ InL s h x) ↔ (x = h ∨ (Rc s x ∧ ∃ p : Nat, (p : Int) ∈ latF s h ∧ Pth s (· ≠ h) x p)) := by
  constructor
  · rintro ⟨hx, hI⟩
    by_cases e : x = h
    · exact .inl e
    · obtain ⟨p, h1, h2, h3⟩ := hI.leads e
      exact .inr ⟨hx, p, latF_mem.2 ⟨h1, h2⟩, h3⟩
  · rintro (rfl | ⟨hx, p, hp, hP⟩)
    · exact ⟨hh, .head⟩
    · obtain ⟨h1, h2⟩ := latF_mem.1 hp
      exact ⟨hx, hP.inL hs hx (.latch h1 h2)⟩
/-- A list that grows: where one comes to from a block, not by another one. -/
structure Gr (s : List (List Int)) (h x : Nat) (l : List Int) (a c : Nat) : Prop where
  is : ∀ y ∈ l, ∃ n : Nat, y = n ∧ Pth s (· ≠ h) x n
  nodup : l.Nodup
  here : (x : Int) ∈ l
  shut : ∀ (b n : Nat), b < a → l[b]? = some (n : Int) → ∀ t : Nat, Ed s n t → t ≠ h → (t : Int) ∈ l
  part : ∀ (n : Nat) (r : List Int), l[a]? = some (n : Int) → s[n]? = some r → ∀ (d : Nat) (t : Nat), d < c → r[d]? = some (t : Int) → t ≠ h → (t : Int) ∈ l
theorem Gr.start {s : List (List Int)} {h x : Nat} (hne : x ≠ h) : Gr s h x [(x : Int)] 0 0 :=
  ⟨fun y hy => ⟨x, List.mem_singleton.1 hy, .one hne⟩, by simp, by simp, fun b n hb => by omega, fun n r _ _ d t hd => by omega⟩
theorem Gr.row {s : List (List Int)} {h x n : Nat} {l r : List Int} {a c : Nat} (hg : Gr s h x l a c) (gn : l[a]? = some (n : Int)) (gr : s[n]? = some r) (hc : r.length ≤ c) : Gr s h x l (a + 1) 0 := by
  refine ⟨hg.is, hg.nodup, hg.here, fun b m hb gm t he hne => ?_, fun _ _ _ _ d t hd => by omega⟩
  by_cases e : b = a
  · subst e
    rw [gn] at gm
    obtain rfl : n = m := by have := Option.some.inj gm; omega
    obtain ⟨r2, gr2, hm⟩ := he
    rw [gr] at gr2; cases gr2
    obtain ⟨d, gd⟩ := List.getElem?_of_mem hm
    exact hg.part n r gn gr d t (by have := (List.getElem?_eq_some_iff.1 gd).1; omega) gd hne
  · exact hg.shut b m (by omega) gm t he hne
theorem Gr.old {s : List (List Int)} {h x n t : Nat} {l r : List Int} {a c : Nat} (hg : Gr s h x l a c) (gn : l[a]? = some (n : Int)) (gr : s[n]? = some r) (gt : r[c]? = some (t : Int)) (ht : t = h ∨ (t : Int) ∈ l) : Gr s h x l a (c + 1) := by
  refine ⟨hg.is, hg.nodup, hg.here, hg.shut, fun m q gm gq d u hd gu hne => ?_⟩
  by_cases e : d = c
  · subst e
    rw [gn] at gm
    obtain rfl : n = m := by have := Option.some.inj gm; omega
    rw [gr] at gq; cases gq
    rw [gt] at gu
    obtain rfl : t = u := by have := Option.some.inj gu; omega
    exact ht.resolve_left hne
  · exact hg.part m q gm gq d u (by omega) gu hne
theorem Gr.new {s : List (List Int)} {h x n t : Nat} {l r : List Int} {a c : Nat} (hg : Gr s h x l a c) (gn : l[a]? = some (n : Int)) (gr : s[n]? = some r) (gt : r[c]? = some (t : Int)) (hth : t ≠ h) (ht : (t : Int) ∉ l) : Gr s h x (l ++ [(t : Int)]) a (c + 1) := by
  have hal := (List.getElem?_eq_some_iff.1 gn).1
  have hnP : Pth s (· ≠ h) x n := by
    obtain ⟨m, e, hm⟩ := hg.is _ (List.mem_of_getElem? gn)
    obtain rfl : n = m := by omega
    exact hm
  refine ⟨fun y hy => ?_, ?_, List.mem_append_left _ hg.here, fun b m hb gm u he hne => ?_, fun m q gm gq d u hd gu hne => ?_⟩
  · rcases List.mem_append.1 hy with hy | hy
    · exact hg.is y hy
    · exact ⟨t, List.mem_singleton.1 hy, .step hnP ⟨r, gr, List.mem_of_getElem? gt⟩ hth⟩
  · rw [List.nodup_append]
    refine ⟨hg.nodup, by simp, fun y hy z hz e => ?_⟩
    rw [List.mem_singleton.1 hz] at e
    subst e; exact ht hy
  · rw [List.getElem?_append_left (by omega)] at gm
    exact List.mem_append_left _ (hg.shut b m hb gm u he hne)
  · rw [List.getElem?_append_left hal] at gm
    by_cases e : d = c
    · subst e
      rw [gn] at gm
      obtain rfl : n = m := by have := Option.some.inj gm; omega
      rw [gr] at gq; cases gq
      rw [gt] at gu
      obtain rfl : t = u := by have := Option.some.inj gu; omega
      simp
    · exact List.mem_append_left _ (hg.part m q gm gq d u (by omega) gu hne)
theorem Gr.end {s : List (List Int)} {h x : Nat} {l : List Int} {a c : Nat} (hg : Gr s h x l a c) (ha : l.length ≤ a) (t : Nat) : (t : Int) ∈ l ↔ Pth s (· ≠ h) x t := by
  constructor
  · intro ht
    obtain ⟨n, e, hn⟩ := hg.is _ ht
    obtain rfl : t = n := by omega
    exact hn
  · intro hp
    induction hp with
    | one => exact hg.here
    | @step c d _ he hd ih =>
      obtain ⟨b, gb⟩ := List.getElem?_of_mem ih
      exact hg.shut b c (by have := (List.getElem?_eq_some_iff.1 gb).1; omega) gb d he hd
end Go.Proofs.Ytbmiffgfmlkdnaa

/- A loop, gathered and put into order, by a contract. -/
namespace Go.Proofs.Ytbmiffgfmlkdnaa
open Go.Ax
set_option maxRecDepth 10000
set_option linter.unusedVariables false

theorem Around26_spec (s P : List (List Int)) (m : List Bool) (h : Nat) (hs : Closed s) (hn : s.length ≤ 1000000) (hP : ∀ c : Nat, c < s.length → P[c]? = some (predOf s c s.length)) (hm : ∀ c : Nat, m[c]? = some true ↔ c < s.length ∧ Reaches s (-1) (c : Int)) (hml : m.length = s.length) (hla : latF s h ≠ []) :
    FnSpec Try.prog 26 [num h, ints (latF s h), lsts P, .sl false 1 (m.map tb)] (fun r => r = .agg [num h, .osl 1 ((blkF s h).map int1), ints (latF s h), num (-1)]) := by
  have hR := latF_head hla
  have hmem := fun p : Nat => @latF_mem s h p
  have hnn := fun (x : Int) (hx : x ∈ latF s h) => latF_nn hx
  have hll := @latF_len s h
  generalize latF s h = la at *
  refine spec_of 1000 Try.func26 rfl rfl ?_
  repeat' first | refine Len.map ?_ | refine Len.nil ?_ | refine Len.cons ?_ | refine Br.t rfl ?_ | refine Br.f rfl ?_ | refine Fit.au ?_ | refine Cv.au ?_ | refine Need.ne ?_ | refine Need.au ?_ | refine Pick.map (by assumption) ?_ | refine Pick.mapI (by omega) (by assumption) ?_ | refine PickN.mk _ (by assumption) ?_ | refine PickN.mk _ rfl ?_ | refine PickN.au ?_ | refine App.au rfl ?_ | refine App.au (own_map (fun _ => rfl) _) ?_ | refine Both.mk ?_ ?_ | exact True.intro
  refine Stop.mk (loop_in (g := []) (fun p : Nat × List Int => [(19, ints la), (20, num la.length), (21, num p.1), (10, .hp 5 0), (9, .hp 4 0), (8, .hp 2 0)]) (fun p => uH P m h la p.2) 6 (fun p => p.1 ≤ la.length ∧ UpL s h (la.take p.1) p.2) (fun p => la.length - p.1) (0, [(h : Int)]) ⟨by simp only; omega, .start hR⟩ ?_ (fun p hp ih => ?_))
  · dsimp only [uH]
    exact ⟨rfl, (by repeat' first | exact trivial | refine ⟨rfl, ?_⟩ | refine ⟨congrArg (fun n => AV.lit (.int .i64 n)) (by omega), ?_⟩ | refine ⟨congrArg (fun l => some (Row.row 1 l)) (by simp [int1, num, tru]), ?_⟩), (by repeat' first | exact trivial | refine ⟨rfl, ?_⟩ | refine ⟨congrArg (fun n => AV.lit (.int .i64 n)) (by omega), ?_⟩ | refine ⟨congrArg (fun l => some (Row.row 1 l)) (by simp [int1, num, tru]), ?_⟩)⟩
  obtain ⟨j, bl⟩ := p
  obtain ⟨hj, hL⟩ := hp
  dsimp only at hj hL ih ⊢
  have hbb : ∀ x ∈ bl, 0 ≤ x ∧ x < s.length := fun x hx => by
    obtain ⟨h3, h4, _⟩ := hL.sound x hx
    have := Rc_lt hs h4; omega
  have hbl := nodup_lenI hL.nodup hbb
  refine go 1000 Try.func26 ?_
  repeat' first | refine Len.map ?_ | refine Len.nil ?_ | refine Len.cons ?_ | refine Br.t rfl ?_ | refine Br.f rfl ?_ | refine Fit.au ?_ | refine Cv.au ?_ | refine Need.ne ?_ | refine Need.au ?_ | refine Pick.map (by assumption) ?_ | refine Pick.mapI (by omega) (by assumption) ?_ | refine PickN.mk _ (by assumption) ?_ | refine PickN.mk _ rfl ?_ | refine PickN.au ?_ | refine App.au rfl ?_ | refine App.au (own_map (fun _ => rfl) _) ?_ | refine Both.mk ?_ ?_ | exact True.intro
  refine Br.d (fun h3 => ?_) (fun h3 => ?_)
  · obtain ⟨x, gx, gxm⟩ := getK (l := la) (k := j) (by omega)
    obtain ⟨p, rfl, hpE, hpD⟩ := hnn x gxm
    have hpl : p < s.length := Rc_lt hs hpD.2.1
    have htk := take_succ gx
    repeat' first | refine Pick.map gx ?_ | refine Len.map ?_ | refine Len.nil ?_ | refine Len.cons ?_ | refine Br.t rfl ?_ | refine Br.f rfl ?_ | refine Fit.au ?_ | refine Cv.au ?_ | refine Need.ne ?_ | refine Need.au ?_ | refine Pick.map (by assumption) ?_ | refine Pick.mapI (by omega) (by assumption) ?_ | refine PickN.mk _ (by assumption) ?_ | refine PickN.mk _ rfl ?_ | refine PickN.au ?_ | refine App.au rfl ?_ | refine App.au (own_map (fun _ => rfl) _) ?_ | refine Both.mk ?_ ?_ | exact True.intro
    refine Dyn.mk _ _ rfl rfl rfl (Run.fr (tm' := uT p) (hp' := uH P m h la bl) (nx' := 6) (up_run s P m h la hs hn hP hm hml _ p bl hpl hL.nodup hbb hL.head (Nat.le_refl _) (fun _ _ => .latch hpE hpD) fun bl2 hU => ?_) (g := []) ⟨rfl, (by repeat' first | exact trivial | refine ⟨rfl, ?_⟩ | refine ⟨congrArg (fun n => AV.lit (.int .i64 n)) (by omega), ?_⟩ | refine ⟨congrArg (fun l => some (Row.row 1 l)) (by simp [int1, num, tru]), ?_⟩), (by repeat' first | exact trivial | refine ⟨rfl, ?_⟩ | refine ⟨congrArg (fun n => AV.lit (.int .i64 n)) (by omega), ?_⟩ | refine ⟨congrArg (fun l => some (Row.row 1 l)) (by simp [int1, num, tru]), ?_⟩)⟩)
    repeat' first | refine Len.map ?_ | refine Len.nil ?_ | refine Len.cons ?_ | refine Br.t rfl ?_ | refine Br.f rfl ?_ | refine Fit.au ?_ | refine Cv.au ?_ | refine Need.ne ?_ | refine Need.au ?_ | refine Pick.map (by assumption) ?_ | refine Pick.mapI (by omega) (by assumption) ?_ | refine PickN.mk _ (by assumption) ?_ | refine PickN.mk _ rfl ?_ | refine PickN.au ?_ | refine App.au rfl ?_ | refine App.au (own_map (fun _ => rfl) _) ?_ | refine Both.mk ?_ ?_ | exact True.intro
    refine Stop.mk (ih (j + 1, bl2) (g := []) _ _ _ ⟨by simp only; omega, ?_⟩ (by simp only; omega) ?_)
    · simp only
      rw [htk]
      exact hL.next hU
    · dsimp only [uH]
      exact ⟨rfl, (by repeat' first | exact trivial | refine ⟨rfl, ?_⟩ | refine ⟨congrArg (fun n => AV.lit (.int .i64 n)) (by omega), ?_⟩ | refine ⟨congrArg (fun l => some (Row.row 1 l)) (by simp [int1, num, tru]), ?_⟩), (by repeat' first | exact trivial | refine ⟨rfl, ?_⟩ | refine ⟨congrArg (fun n => AV.lit (.int .i64 n)) (by omega), ?_⟩ | refine ⟨congrArg (fun l => some (Row.row 1 l)) (by simp [int1, num, tru]), ?_⟩)⟩
  · rw [take_all (by omega)] at hL
    have hsort : (bl.mergeSort fun x y => decide (x ≤ y)) = blkF s h := mergeSort_filt hL.nodup (hL.mem hs hmem)
    repeat' first | refine Len.map ?_ | refine Len.nil ?_ | refine Len.cons ?_ | refine Br.t rfl ?_ | refine Br.f rfl ?_ | refine Fit.au ?_ | refine Cv.au ?_ | refine Need.ne ?_ | refine Need.au ?_ | refine Pick.map (by assumption) ?_ | refine Pick.mapI (by omega) (by assumption) ?_ | refine PickN.mk _ (by assumption) ?_ | refine PickN.mk _ rfl ?_ | refine PickN.au ?_ | refine App.au rfl ?_ | refine App.au (own_map (fun _ => rfl) _) ?_ | refine Both.mk ?_ ?_ | exact True.intro
    refine Look.stop (Stop.mk ?_)
    refine run_sort (zs := bl) 6 rfl want_none rfl rfl rfl (by omega) sorts44 ?_
    rw [hsort]
    refine go 1000 Try.func26 ?_
    repeat' first | refine Len.map ?_ | refine Len.nil ?_ | refine Len.cons ?_ | refine Br.t rfl ?_ | refine Br.f rfl ?_ | refine Fit.au ?_ | refine Cv.au ?_ | refine Need.ne ?_ | refine Need.au ?_ | refine Pick.map (by assumption) ?_ | refine Pick.mapI (by omega) (by assumption) ?_ | refine PickN.mk _ (by assumption) ?_ | refine PickN.mk _ rfl ?_ | refine PickN.au ?_ | refine App.au rfl ?_ | refine App.au (own_map (fun _ => rfl) _) ?_ | refine Both.mk ?_ ?_ | exact True.intro
    rfl
end Go.Proofs.Ytbmiffgfmlkdnaa

/- The smallest loop in which one lies, looked for from either end. No program is in sight here. -/
namespace Go.Proofs.Ytbmiffgfmlkdnaa
open Go.Ax
/-- The smallest one, and the first of those, from a place on and up to another one; -1: none. -/
def InIs (L : Nat → Bool) (len : Nat → Nat) (lo hi : Nat) (b : Int) : Prop :=
  (b = -1 ∧ ∀ k, lo ≤ k → k < hi → L k = false) ∨ ∃ m : Nat, b = m ∧ lo ≤ m ∧ m < hi ∧ L m = true ∧ ∀ k, lo ≤ k → k < hi → L k = true → len m < len k ∨ (len m = len k ∧ m ≤ k)
theorem InIs.start {L : Nat → Bool} {len : Nat → Nat} {n : Nat} : InIs L len n n (-1) := .inl ⟨rfl, fun k h1 h2 => by omega⟩
theorem InIs.skip {L : Nat → Bool} {len : Nat → Nat} {lo hi : Nat} {b : Int} (h : InIs L len lo hi b) (hn : L hi = false ∨ ∃ m : Nat, b = m ∧ len m ≤ len hi) : InIs L len lo (hi + 1) b := by
  rcases h with ⟨h1, h2⟩ | ⟨m, h1, h2, h3, h4, h5⟩
  · rcases hn with hn | ⟨m, hm, _⟩
    · refine .inl ⟨h1, fun k hk1 hk2 => ?_⟩
      by_cases e : k = hi
      · subst e; exact hn
      · exact h2 k hk1 (by omega)
    · omega
  · refine .inr ⟨m, h1, h2, by omega, h4, fun k hk1 hk2 hk3 => ?_⟩
    by_cases e : k = hi
    · subst e
      rcases hn with hn | ⟨m', hm', hle⟩
      · rw [hn] at hk3; cases hk3
      · obtain rfl : m' = m := by omega
        by_cases e2 : len m' < len k
        · exact .inl e2
        · exact .inr ⟨by omega, by omega⟩
    · exact h5 k hk1 (by omega) hk3
theorem InIs.take {L : Nat → Bool} {len : Nat → Nat} {lo hi : Nat} {b : Int} (h : InIs L len lo hi b) (hL : L hi = true) (hlo : lo ≤ hi) (hb : b < 0 ∨ ∃ m : Nat, b = m ∧ len hi < len m) : InIs L len lo (hi + 1) (hi : Int) := by
  refine .inr ⟨hi, rfl, hlo, by omega, hL, fun k hk1 hk2 hk3 => ?_⟩
  by_cases e : k = hi
  · subst e; exact .inr ⟨rfl, Nat.le_refl _⟩
  · left
    rcases h with ⟨_, h2⟩ | ⟨m, h1, _, _, _, h5⟩
    · have := h2 k hk1 (by omega)
      rw [this] at hk3; cases hk3
    · rcases hb with hb | ⟨m', hm', hlt⟩
      · omega
      · obtain rfl : m' = m := by omega
        have := h5 k hk1 (by omega) hk3
        omega
theorem InIs.skipB {L : Nat → Bool} {len : Nat → Nat} {lo hi : Nat} {b : Int} (h : InIs L len (lo + 1) hi b) (hn : L lo = false ∨ ∃ m : Nat, b = m ∧ len m < len lo) : InIs L len lo hi b := by
  rcases h with ⟨h1, h2⟩ | ⟨m, h1, h2, h3, h4, h5⟩
  · rcases hn with hn | ⟨m, hm, _⟩
    · refine .inl ⟨h1, fun k hk1 hk2 => ?_⟩
      by_cases e : k = lo
      · subst e; exact hn
      · exact h2 k (by omega) hk2
    · omega
  · refine .inr ⟨m, h1, by omega, h3, h4, fun k hk1 hk2 hk3 => ?_⟩
    by_cases e : k = lo
    · subst e
      rcases hn with hn | ⟨m', hm', hlt⟩
      · rw [hn] at hk3; cases hk3
      · obtain rfl : m' = m := by omega
        exact .inl hlt
    · exact h5 k (by omega) hk2 hk3
theorem InIs.takeB {L : Nat → Bool} {len : Nat → Nat} {lo hi : Nat} {b : Int} (h : InIs L len (lo + 1) hi b) (hL : L lo = true) (hlo : lo < hi) (hb : b < 0 ∨ ∃ m : Nat, b = m ∧ len lo ≤ len m) : InIs L len lo hi (lo : Int) := by
  refine .inr ⟨lo, rfl, Nat.le_refl _, hlo, hL, fun k hk1 hk2 hk3 => ?_⟩
  by_cases e : k = lo
  · subst e; exact .inr ⟨rfl, Nat.le_refl _⟩
  · rcases h with ⟨_, h2⟩ | ⟨m, h1, _, _, _, h5⟩
    · have := h2 k (by omega) hk2
      rw [this] at hk3; cases hk3
    · rcases hb with hb | ⟨m', hm', hle⟩
      · omega
      · obtain rfl : m' = m := by omega
        have := h5 k (by omega) hk2 hk3
        omega
theorem InIs.eq {L : Nat → Bool} {len : Nat → Nat} {lo hi : Nat} {b c : Int} (h : InIs L len lo hi b) (g : InIs L len lo hi c) : b = c := by
  rcases h with ⟨h1, h2⟩ | ⟨m, h1, h2, h3, h4, h5⟩
  · rcases g with ⟨g1, g2⟩ | ⟨m, g1, g2, g3, g4, g5⟩
    · omega
    · rw [h2 m g2 g3] at g4; cases g4
  · rcases g with ⟨g1, g2⟩ | ⟨p, g1, g2, g3, g4, g5⟩
    · rw [g2 m h2 h3] at h4; cases h4
    · have := h5 p g2 g3 g4
      have := g5 m h2 h3 h4
      omega
end Go.Proofs.Ytbmiffgfmlkdnaa

/- All loops of a function, as the program gathers them: by contracts. -/
namespace Go.Proofs.Ytbmiffgfmlkdnaa
open Go.Ax
set_option maxRecDepth 10000
set_option linter.unusedVariables false

theorem Lies27_spec (x y : Lp1) (hy : y.blocks.length ≤ 1000000000) : FnSpec Try.prog 27 [.agg x.cs, .agg y.cs] (fun r => r = tru (liesB x y)) := by
  refine spec_of 1000 Try.func27 rfl rfl ?_
  repeat' first | refine Len.map ?_ | refine Len.nil ?_ | refine Len.cons ?_ | refine Br.t rfl ?_ | refine Br.f rfl ?_ | refine Fit.au ?_ | refine Cv.au ?_ | refine Need.ne ?_ | refine Need.au ?_ | refine Pick.map (by assumption) ?_ | refine Pick.mapI (by omega) (by assumption) ?_ | refine PickN.mk _ (by assumption) ?_ | refine PickN.mk _ rfl ?_ | refine PickN.au ?_ | refine App.au rfl ?_ | refine App.au (own_map (fun _ => rfl) _) ?_ | refine Both.mk ?_ ?_ | exact True.intro
  refine Br.nd (fun h => ?_) (fun h => ?_)
  · repeat' first | refine Call.eq (Contains70_spec y.blocks x.head hy) rfl ?_ | refine Len.map ?_ | refine Len.nil ?_ | refine Len.cons ?_ | refine Br.t rfl ?_ | refine Br.f rfl ?_ | refine Fit.au ?_ | refine Cv.au ?_ | refine Need.ne ?_ | refine Need.au ?_ | refine Pick.map (by assumption) ?_ | refine Pick.mapI (by omega) (by assumption) ?_ | refine PickN.mk _ (by assumption) ?_ | refine PickN.mk _ rfl ?_ | refine PickN.au ?_ | refine App.au rfl ?_ | refine App.au (own_map (fun _ => rfl) _) ?_ | refine Both.mk ?_ ?_ | exact True.intro
    show _ = _
    unfold liesB
    rw [decide_eq_false h]; rfl
  · repeat' first | refine Len.map ?_ | refine Len.nil ?_ | refine Len.cons ?_ | refine Br.t rfl ?_ | refine Br.f rfl ?_ | refine Fit.au ?_ | refine Cv.au ?_ | refine Need.ne ?_ | refine Need.au ?_ | refine Pick.map (by assumption) ?_ | refine Pick.mapI (by omega) (by assumption) ?_ | refine PickN.mk _ (by assumption) ?_ | refine PickN.mk _ rfl ?_ | refine PickN.au ?_ | refine App.au rfl ?_ | refine App.au (own_map (fun _ => rfl) _) ?_ | refine Both.mk ?_ ?_ | exact True.intro
    show _ = _
    unfold liesB
    rw [decide_eq_true h]; rfl
def Lp1.ocs (l : Lp1) : List AV := [num l.head, .osl 1 (l.blocks.map int1), ints l.latches, num l.inn]
theorem fz_lp (l : Lp1) : AV.fzL l.ocs = l.cs := by
  show [_, AV.sl false 1 (AV.fzLL (l.blocks.map int1)), _, _] = _
  rw [fzi]; rfl
def Lf (b0 : List Lp1) (i k : Nat) : Bool := match b0[i]?, b0[k]? with
  | some x, some y => liesB x y
  | _, _ => false
def lenf (b0 : List Lp1) (k : Nat) : Nat := ((b0[k]?).map fun z : Lp1 => z.blocks.length).getD 0
/-- Of the first ones it is told in which they lie. -/
structure OutI (b0 : List Lp1) (i : Nat) (ls : List Lp1) : Prop where
  same : SameBut b0 ls
  inn_ : ∀ (j : Nat) (x : Lp1), ls[j]? = some x → (j < i → InIs (Lf b0 j) (lenf b0) 0 b0.length x.inn) ∧ (i ≤ j → x.inn = -1)
structure InnI (b0 : List Lp1) (i k : Nat) (ls : List Lp1) : Prop where
  same : SameBut b0 ls
  inn_ : ∀ (j : Nat) (x : Lp1), ls[j]? = some x → (j < i → InIs (Lf b0 j) (lenf b0) 0 b0.length x.inn) ∧ (i < j → x.inn = -1) ∧ (j = i → InIs (Lf b0 i) (lenf b0) 0 k x.inn)
theorem SameBut.refl (l : List Lp1) : SameBut l l := ⟨rfl, fun k x y h1 h2 => by rw [h1] at h2; cases h2; exact ⟨rfl, rfl, rfl⟩⟩
theorem OutI.start {b0 : List Lp1} (h : ∀ x ∈ b0, x.inn = -1) : OutI b0 0 b0 := ⟨.refl _, fun j x g => ⟨fun h => by omega, fun _ => h x (List.mem_of_getElem? g)⟩⟩
theorem OutI.inn {b0 ls : List Lp1} {i : Nat} (h : OutI b0 i ls) : InnI b0 i 0 ls :=
  ⟨h.same, fun j x g => ⟨(h.inn_ j x g).1, fun hj => (h.inn_ j x g).2 (by omega), fun e => by rw [(h.inn_ j x g).2 (by omega)]; exact .start⟩⟩
theorem InnI.done {b0 ls : List Lp1} {i k : Nat} (h : InnI b0 i k ls) (hk : k = b0.length) : OutI b0 (i + 1) ls := by
  subst hk
  refine ⟨h.same, fun j x g => ⟨fun hj => ?_, fun hj => (h.inn_ j x g).2.1 (by omega)⟩⟩
  by_cases e : j = i
  · subst e; exact (h.inn_ j x g).2.2 rfl
  · exact (h.inn_ j x g).1 (by omega)
theorem InnI.at0 {b0 ls : List Lp1} {i k j : Nat} {x : Lp1} (h : InnI b0 i k ls) (g : ls[j]? = some x) : ∃ z, b0[j]? = some z ∧ z.head = x.head ∧ z.blocks = x.blocks := by
  have hl := h.same.1
  have hj := (List.getElem?_eq_some_iff.1 g).1
  have g0 : b0[j]? = some b0[j] := List.getElem?_eq_getElem (by omega)
  obtain ⟨h1, h2, _⟩ := h.same.2 j _ _ g0 g
  exact ⟨_, g0, h1, h2⟩
theorem InnI.blk {b0 ls : List Lp1} {i k j : Nat} {x : Lp1} (h : InnI b0 i k ls) (hb : ∀ x ∈ b0, x.blocks.length ≤ 1000000) (g : ls[j]? = some x) : x.blocks.length ≤ 1000000 := by
  obtain ⟨z, gz, _, hz⟩ := h.at0 g
  rw [← hz]; exact hb z (List.mem_of_getElem? gz)
theorem InnI.lies {b0 ls : List Lp1} {i k j : Nat} {x y : Lp1} (h : InnI b0 i k ls) (gx : ls[i]? = some x) (gy : ls[j]? = some y) : Lf b0 i j = liesB x y := by
  obtain ⟨z, gz, h1, h2⟩ := h.at0 gx
  obtain ⟨u, gu, h3, h4⟩ := h.at0 gy
  unfold Lf
  rw [gz, gu]
  show liesB z u = _
  unfold liesB
  rw [h1, h3, h4]
theorem InnI.len {b0 ls : List Lp1} {i k j : Nat} {x : Lp1} (h : InnI b0 i k ls) (g : ls[j]? = some x) : lenf b0 j = x.blocks.length := by
  obtain ⟨z, gz, _, hz⟩ := h.at0 g
  unfold lenf
  rw [gz, ← hz]; rfl
theorem InnI.skip {b0 ls : List Lp1} {i k : Nat} {x : Lp1} (h : InnI b0 i k ls) (gx : ls[i]? = some x) (hn : Lf b0 i k = false ∨ ∃ m : Nat, x.inn = m ∧ lenf b0 m ≤ lenf b0 k) : InnI b0 i (k + 1) ls := by
  refine ⟨h.same, fun j z g => ⟨(h.inn_ j z g).1, (h.inn_ j z g).2.1, fun e => ?_⟩⟩
  have h1 := (h.inn_ j z g).2.2 e
  subst e
  rw [gx] at g; cases g
  exact h1.skip hn
theorem InnI.take {b0 ls : List Lp1} {i k : Nat} {x : Lp1} (h : InnI b0 i k ls) (gx : ls[i]? = some x) (hL : Lf b0 i k = true) (hb : x.inn < 0 ∨ ∃ m : Nat, x.inn = m ∧ lenf b0 k < lenf b0 m) : InnI b0 i (k + 1) (ls.set i { x with inn := k }) := by
  have hil := (List.getElem?_eq_some_iff.1 gx).1
  have hat : ∀ (j : Nat) (z : Lp1), (ls.set i { x with inn := (k : Int) })[j]? = some z → (j = i ∧ z = { x with inn := (k : Int) }) ∨ (j ≠ i ∧ ls[j]? = some z) := fun j z g => by
    rw [List.getElem?_set] at g
    by_cases e : i = j
    · subst e
      rw [if_pos rfl, if_pos hil] at g
      exact .inl ⟨rfl, (Option.some.inj g).symm⟩
    · rw [if_neg e] at g
      exact .inr ⟨fun e2 => e e2.symm, g⟩
  refine ⟨⟨by rw [List.length_set]; exact h.same.1, fun j u z g0 g => ?_⟩, fun j z g => ?_⟩
  · rcases hat j z g with ⟨rfl, rfl⟩ | ⟨_, g2⟩
    · exact h.same.2 j u x g0 gx
    · exact h.same.2 j u z g0 g2
  · rcases hat j z g with ⟨rfl, rfl⟩ | ⟨hne, g2⟩
    · exact ⟨fun h2 => by omega, fun h2 => by omega, fun _ => ((h.inn_ j x gx).2.2 rfl).take hL (Nat.zero_le _) hb⟩
    · exact ⟨(h.inn_ j z g2).1, (h.inn_ j z g2).2.1, fun e => absurd e hne⟩
set_option maxHeartbeats 4000000 in
theorem Loops8_spec (f : Fun) (hf : f.fits) (hn : f.blocks.length ≤ 1000000) : FnSpec Try.prog 8 [funA f] (fun r => ∃ ls : List Lp1, r = .osl 4 (ls.map Lp1.cs) ∧ OutI (lps (succsF f) f.blocks.length) (lps (succsF f) f.blocks.length).length ls) := by
  have hcl := succsF_closed f
  have hsl := succsF_len f
  have hT := Tree67_spec f hf hn
  have hP := Preds68_spec f hf hn
  have hR := Reach69_spec f hf hn
  refine spec_of 9 Try.func8 rfl rfl ?_
  repeat' first | refine Len.map ?_ | refine Len.nil ?_ | refine Len.cons ?_ | refine Br.t rfl ?_ | refine Br.f rfl ?_ | refine Fit.au ?_ | refine Cv.au ?_ | refine Need.ne ?_ | refine Need.au ?_ | refine Pick.map (by assumption) ?_ | refine Pick.mapI (by omega) (by assumption) ?_ | refine PickN.mk _ (by assumption) ?_ | refine PickN.mk _ rfl ?_ | refine PickN.au ?_ | refine App.au rfl ?_ | refine App.au (own_map (fun _ => rfl) _) ?_ | refine Both.mk ?_ ?_ | exact True.intro
  refine Stop.mk ?_
  apply join (fun l : List Int => [(1, .hp 0 0), (3, .lit (.slice none 0 0)), (4, .hw 1), (5, .hw 2), (6, .hw 3)]) (fun l => [(0, .var f.cs), (1, .row 1 (l.map int1)), (2, .row 1 ((predsF (succsF f)).map olst)), (3, .row 1 ((marksF (succsF f) (-1)).map tb))]) 4 (fun l => TreeP (succsF f) l)
  · intro jn
    refine go 2 Try.func8 ?_
    repeat' first | refine Draw.mk (ordL [1, 3, 5] [0, 2, 4, 1, 3, 5, 6, 7, 8]) (by decide +kernel) ?_ | refine Draw.mk (ordL [5] [0, 1, 2, 3, 4, 5, 6, 7, 8, 9, 10, 11, 12, 13, 14, 15, 16, 17, 18, 19, 20, 21]) (by decide +kernel) ?_ | (refine Call.of hT ?_; rintro r ⟨l, rfl, hl⟩; refine ⟨rfl, ?_⟩) | refine Call.eq hP rfl ?_ | refine Call.eq hR rfl ?_ | refine Len.map ?_ | refine Len.nil ?_ | refine Len.cons ?_ | refine Br.t rfl ?_ | refine Br.f rfl ?_ | refine Fit.au ?_ | refine Cv.au ?_ | refine Need.ne ?_ | refine Need.au ?_ | refine Pick.map (by assumption) ?_ | refine Pick.mapI (by omega) (by assumption) ?_ | refine PickN.mk _ (by assumption) ?_ | refine PickN.mk _ rfl ?_ | refine PickN.au ?_ | refine App.au rfl ?_ | refine App.au (own_map (fun _ => rfl) _) ?_ | refine Both.mk ?_ ?_ | exact True.intro
    all_goals exact Stop.mk (jn l (g := []) _ _ _ ⟨rfl, (by repeat' first | exact trivial | refine ⟨rfl, ?_⟩ | refine ⟨congrArg (fun n => AV.lit (.int .i64 n)) (by omega), ?_⟩ | refine ⟨congrArg (fun l => some (Row.row 1 l)) (by simp [int1, num, tru]), ?_⟩), (by repeat' first | exact trivial | refine ⟨rfl, ?_⟩ | refine ⟨congrArg (fun n => AV.lit (.int .i64 n)) (by omega), ?_⟩ | refine ⟨congrArg (fun l => some (Row.row 1 l)) (by simp [int1, num, tru]), ?_⟩)⟩ hl)
  rintro l T
  refine run_frzR 1 rfl (fzi _) ?_
  refine run_frzR 2 rfl (fzLL_map fz_olsts _) ?_
  refine run_frzR 3 rfl (fzLL_map (enc2 := tb) (fun _ => rfl) _) ?_
  refine run_nilT 3 4 rfl ?_
  have hpl := predsF_len (succsF f)
  have hpg : ∀ c : Nat, c < (succsF f).length → (predsF (succsF f))[c]? = some (predOf (succsF f) c (succsF f).length) := fun c hc => by
    unfold predsF
    rw [List.getElem?_map, List.getElem?_range hc]; rfl
  have hpol := fun c : Nat => predOf_len (succsF f) c (succsF f).length
  have hml := marksF_len (succsF f) (-1)
  have hma := fun c : Nat => marksF_at (s := succsF f) (x := -1) (k := c)
  generalize succsF f = s at *
  generalize predsF s = P at *
  generalize marksF s (-1) = m at *
  rw [← hsl]
  have hD := fun a b : Nat => Dominates12_spec s l hcl T (by omega) a b
  have hA := fun (h : Nat) (hla : latF s h ≠ []) => Around26_spec s P m h hcl (by omega) hpg hma hml hla
  refine go 1000 Try.func8 ?_
  repeat' first | refine Len.map ?_ | refine Len.nil ?_ | refine Len.cons ?_ | refine Br.t rfl ?_ | refine Br.f rfl ?_ | refine Fit.au ?_ | refine Cv.au ?_ | refine Need.ne ?_ | refine Need.au ?_ | refine Pick.map (by assumption) ?_ | refine Pick.mapI (by omega) (by assumption) ?_ | refine PickN.mk _ (by assumption) ?_ | refine PickN.mk _ rfl ?_ | refine PickN.au ?_ | refine App.au rfl ?_ | refine App.au (own_map (fun _ => rfl) _) ?_ | refine Both.mk ?_ ?_ | exact True.intro
  refine Stop.mk (loop_in (g := [(1, 4)]) (fun h : Nat => [(3, .hw 1), (4, ints l), (5, lsts P), (6, .sl false 1 (m.map tb)), (23, num f.blocks.length), (24, num h)]) (fun h => [(1, .row 4 ((lps s h).map Lp1.ocs))]) 2 (fun h => h ≤ s.length) (fun h => s.length - h) 0 (by omega) ⟨rfl, (by repeat' first | exact trivial | refine ⟨rfl, ?_⟩ | refine ⟨congrArg (fun n => AV.lit (.int .i64 n)) (by omega), ?_⟩ | refine ⟨congrArg (fun l => some (Row.row 1 l)) (by simp [int1, num, tru]), ?_⟩), (by repeat' first | exact trivial | refine ⟨rfl, ?_⟩ | refine ⟨congrArg (fun n => AV.lit (.int .i64 n)) (by omega), ?_⟩ | refine ⟨congrArg (fun l => some (Row.row 1 l)) (by simp [int1, num, tru]), ?_⟩)⟩ (fun h hh ih => ?_))
  have hlp := lps_len s h
  refine go 1000 Try.func8 ?_
  repeat' first | refine Len.map ?_ | refine Len.nil ?_ | refine Len.cons ?_ | refine Br.t rfl ?_ | refine Br.f rfl ?_ | refine Fit.au ?_ | refine Cv.au ?_ | refine Need.ne ?_ | refine Need.au ?_ | refine Pick.map (by assumption) ?_ | refine Pick.mapI (by omega) (by assumption) ?_ | refine PickN.mk _ (by assumption) ?_ | refine PickN.mk _ rfl ?_ | refine PickN.au ?_ | refine App.au rfl ?_ | refine App.au (own_map (fun _ => rfl) _) ?_ | refine Both.mk ?_ ?_ | exact True.intro
  refine Br.d (fun h2 => ?_) (fun h2 => ?_)
  · have gr := hpg h (by omega)
    have hrl := hpol h
    have hrn := fun (x : Int) (hx : x ∈ predOf s h s.length) => predOf_nn hx
    have hlat : (predOf s h s.length).filter (domB s h) = latF s h := rfl
    have hnext : lps s (h + 1) = lps s h ++ if latF s h = [] then [] else [⟨h, blkF s h, latF s h, -1⟩] := rfl
    have hAh := hA h
    have hll := @latF_len s h
    generalize predOf s h s.length = r at *
    repeat' first | refine Pick.map gr ?_ | refine Len.map ?_ | refine Len.nil ?_ | refine Len.cons ?_ | refine Br.t rfl ?_ | refine Br.f rfl ?_ | refine Fit.au ?_ | refine Cv.au ?_ | refine Need.ne ?_ | refine Need.au ?_ | refine Pick.map (by assumption) ?_ | refine Pick.mapI (by omega) (by assumption) ?_ | refine PickN.mk _ (by assumption) ?_ | refine PickN.mk _ rfl ?_ | refine PickN.au ?_ | refine App.au rfl ?_ | refine App.au (own_map (fun _ => rfl) _) ?_ | refine Both.mk ?_ ?_ | exact True.intro
    refine Stop.mk (run_nilT 8 1 rfl ?_)
    refine loop_in (g := []) (fun j : Nat => [(3, .hw 1), (4, ints l), (5, lsts P), (6, .sl false 1 (m.map tb)), (23, num f.blocks.length), (24, num h), (7, num h), (8, .hw 2), (30, ints r), (31, num r.length), (32, num j)]) (fun j => [(1, .row 4 ((lps s h).map Lp1.ocs)), (2, .row 1 (((r.take j).filter (domB s h)).map int1))]) 3 (fun j => j ≤ r.length) (fun j => r.length - j) 0 (by omega) ⟨rfl, (by repeat' first | exact trivial | refine ⟨rfl, ?_⟩ | refine ⟨congrArg (fun n => AV.lit (.int .i64 n)) (by omega), ?_⟩ | refine ⟨congrArg (fun l => some (Row.row 1 l)) (by simp [int1, num, tru]), ?_⟩), (by repeat' first | exact trivial | refine ⟨rfl, ?_⟩ | refine ⟨congrArg (fun n => AV.lit (.int .i64 n)) (by omega), ?_⟩ | refine ⟨congrArg (fun l => some (Row.row 1 l)) (by simp [int1, num, tru]), ?_⟩)⟩ (fun j hj ih2 => ?_)
    have hcur : ((r.take j).filter (domB s h)).length ≤ j := by
      have := List.length_filter_le (domB s h) (r.take j)
      rw [List.length_take] at this; omega
    refine go 1000 Try.func8 ?_
    repeat' first | refine Len.map ?_ | refine Len.nil ?_ | refine Len.cons ?_ | refine Br.t rfl ?_ | refine Br.f rfl ?_ | refine Fit.au ?_ | refine Cv.au ?_ | refine Need.ne ?_ | refine Need.au ?_ | refine Pick.map (by assumption) ?_ | refine Pick.mapI (by omega) (by assumption) ?_ | refine PickN.mk _ (by assumption) ?_ | refine PickN.mk _ rfl ?_ | refine PickN.au ?_ | refine App.au rfl ?_ | refine App.au (own_map (fun _ => rfl) _) ?_ | refine Both.mk ?_ ?_ | exact True.intro
    refine Br.d (fun h3 => ?_) (fun h3 => ?_)
    · obtain ⟨x, gx, gxm⟩ := getK (l := r) (k := j) (by omega)
      obtain ⟨p, rfl, hpE⟩ := hrn x gxm
      have hnx := filter_take_succ (p := domB s h) gx
      generalize (r.take j).filter (domB s h) = cur at *
      repeat' first | refine Pick.map gx ?_ | refine Len.map ?_ | refine Len.nil ?_ | refine Len.cons ?_ | refine Br.t rfl ?_ | refine Br.f rfl ?_ | refine Fit.au ?_ | refine Cv.au ?_ | refine Need.ne ?_ | refine Need.au ?_ | refine Pick.map (by assumption) ?_ | refine Pick.mapI (by omega) (by assumption) ?_ | refine PickN.mk _ (by assumption) ?_ | refine PickN.mk _ rfl ?_ | refine PickN.au ?_ | refine App.au rfl ?_ | refine App.au (own_map (fun _ => rfl) _) ?_ | refine Both.mk ?_ ?_ | exact True.intro
      refine Call.of (hD h p) ?_
      rintro r2 ⟨v, rfl, hv⟩
      refine ⟨rfl, ?_⟩
      repeat' first | refine Len.map ?_ | refine Len.nil ?_ | refine Len.cons ?_ | refine Br.t rfl ?_ | refine Br.f rfl ?_ | refine Fit.au ?_ | refine Cv.au ?_ | refine Need.ne ?_ | refine Need.au ?_ | refine Pick.map (by assumption) ?_ | refine Pick.mapI (by omega) (by assumption) ?_ | refine PickN.mk _ (by assumption) ?_ | refine PickN.mk _ rfl ?_ | refine PickN.au ?_ | refine App.au rfl ?_ | refine App.au (own_map (fun _ => rfl) _) ?_ | refine Both.mk ?_ ?_ | exact True.intro
      refine Br.mk (fun h4 => ?_) (fun h4 => ?_)
      · have hb : domB s h (p : Int) = true := domB_iff.2 (hv.1 h4)
        rw [if_pos hb] at hnx
        repeat' first | refine Len.map ?_ | refine Len.nil ?_ | refine Len.cons ?_ | refine Br.t rfl ?_ | refine Br.f rfl ?_ | refine Fit.au ?_ | refine Cv.au ?_ | refine Need.ne ?_ | refine Need.au ?_ | refine Pick.map (by assumption) ?_ | refine Pick.mapI (by omega) (by assumption) ?_ | refine PickN.mk _ (by assumption) ?_ | refine PickN.mk _ rfl ?_ | refine PickN.au ?_ | refine App.au rfl ?_ | refine App.au (own_map (fun _ => rfl) _) ?_ | refine Both.mk ?_ ?_ | exact True.intro
        refine Stop.mk (ih2 (j + 1) (g := [(2, 4)]) _ _ _ (by omega) (by omega) ?_)
        rw [hnx, List.map_append]
        exact ⟨rfl, (by repeat' first | exact trivial | refine ⟨rfl, ?_⟩ | refine ⟨congrArg (fun n => AV.lit (.int .i64 n)) (by omega), ?_⟩ | refine ⟨congrArg (fun l => some (Row.row 1 l)) (by simp [int1, num, tru]), ?_⟩), (by repeat' first | exact trivial | refine ⟨rfl, ?_⟩ | refine ⟨congrArg (fun n => AV.lit (.int .i64 n)) (by omega), ?_⟩ | refine ⟨congrArg (fun l => some (Row.row 1 l)) (by simp [int1, num, tru]), ?_⟩)⟩
      · have hb : ¬ domB s h (p : Int) = true := fun h5 => by
          have := hv.2 (domB_iff.1 h5)
          rw [this] at h4; cases h4
        rw [if_neg hb, List.append_nil] at hnx
        repeat' first | refine Len.map ?_ | refine Len.nil ?_ | refine Len.cons ?_ | refine Br.t rfl ?_ | refine Br.f rfl ?_ | refine Fit.au ?_ | refine Cv.au ?_ | refine Need.ne ?_ | refine Need.au ?_ | refine Pick.map (by assumption) ?_ | refine Pick.mapI (by omega) (by assumption) ?_ | refine PickN.mk _ (by assumption) ?_ | refine PickN.mk _ rfl ?_ | refine PickN.au ?_ | refine App.au rfl ?_ | refine App.au (own_map (fun _ => rfl) _) ?_ | refine Both.mk ?_ ?_ | exact True.intro
        refine Stop.mk (ih2 (j + 1) (g := []) _ _ _ (by omega) (by omega) ?_)
        rw [hnx]
        exact ⟨rfl, (by repeat' first | exact trivial | refine ⟨rfl, ?_⟩ | refine ⟨congrArg (fun n => AV.lit (.int .i64 n)) (by omega), ?_⟩ | refine ⟨congrArg (fun l => some (Row.row 1 l)) (by simp [int1, num, tru]), ?_⟩), (by repeat' first | exact trivial | refine ⟨rfl, ?_⟩ | refine ⟨congrArg (fun n => AV.lit (.int .i64 n)) (by omega), ?_⟩ | refine ⟨congrArg (fun l => some (Row.row 1 l)) (by simp [int1, num, tru]), ?_⟩)⟩
    · rw [take_all (by omega), hlat]
      generalize hlae : latF s h = la at *
      repeat' first | refine Len.map ?_ | refine Len.nil ?_ | refine Len.cons ?_ | refine Br.t rfl ?_ | refine Br.f rfl ?_ | refine Fit.au ?_ | refine Cv.au ?_ | refine Need.ne ?_ | refine Need.au ?_ | refine Pick.map (by assumption) ?_ | refine Pick.mapI (by omega) (by assumption) ?_ | refine PickN.mk _ (by assumption) ?_ | refine PickN.mk _ rfl ?_ | refine PickN.au ?_ | refine App.au rfl ?_ | refine App.au (own_map (fun _ => rfl) _) ?_ | refine Both.mk ?_ ?_ | exact True.intro
      refine Br.d (fun h4 => ?_) (fun h4 => ?_)
      · have hne : la ≠ [] := fun e => by rw [e] at h4; exact absurd h4 (by decide)
        rw [if_neg hne] at hnext
        repeat' first | refine Len.map ?_ | refine Len.nil ?_ | refine Len.cons ?_ | refine Br.t rfl ?_ | refine Br.f rfl ?_ | refine Fit.au ?_ | refine Cv.au ?_ | refine Need.ne ?_ | refine Need.au ?_ | refine Pick.map (by assumption) ?_ | refine Pick.mapI (by omega) (by assumption) ?_ | refine PickN.mk _ (by assumption) ?_ | refine PickN.mk _ rfl ?_ | refine PickN.au ?_ | refine App.au rfl ?_ | refine App.au (own_map (fun _ => rfl) _) ?_ | refine Both.mk ?_ ?_ | exact True.intro
        refine Look.stop (Stop.mk (run_frzR 2 rfl (fzi _) ?_))
        refine go 1000 Try.func8 ?_
        repeat' first | refine Call.eq (hAh hne) rfl ?_ | refine Len.map ?_ | refine Len.nil ?_ | refine Len.cons ?_ | refine Br.t rfl ?_ | refine Br.f rfl ?_ | refine Fit.au ?_ | refine Cv.au ?_ | refine Need.ne ?_ | refine Need.au ?_ | refine Pick.map (by assumption) ?_ | refine Pick.mapI (by omega) (by assumption) ?_ | refine PickN.mk _ (by assumption) ?_ | refine PickN.mk _ rfl ?_ | refine PickN.au ?_ | refine App.au rfl ?_ | refine App.au (own_map (fun _ => rfl) _) ?_ | refine Both.mk ?_ ?_ | exact True.intro
        refine Stop.mk (ih (h + 1) (g := [(1, 5)]) _ _ _ (by omega) (by omega) ?_)
        rw [hnext, List.map_append]
        exact ⟨rfl, (by repeat' first | exact trivial | refine ⟨rfl, ?_⟩ | refine ⟨congrArg (fun n => AV.lit (.int .i64 n)) (by omega), ?_⟩ | refine ⟨congrArg (fun l => some (Row.row 1 l)) (by simp [int1, num, tru]), ?_⟩), (by repeat' first | exact trivial | refine ⟨rfl, ?_⟩ | refine ⟨congrArg (fun n => AV.lit (.int .i64 n)) (by omega), ?_⟩ | refine ⟨congrArg (fun l => some (Row.row 1 l)) (by simp [int1, num, tru]), ?_⟩)⟩
      · have he : la = [] := List.eq_nil_of_length_eq_zero (by omega)
        rw [if_pos he, List.append_nil] at hnext
        repeat' first | refine Len.map ?_ | refine Len.nil ?_ | refine Len.cons ?_ | refine Br.t rfl ?_ | refine Br.f rfl ?_ | refine Fit.au ?_ | refine Cv.au ?_ | refine Need.ne ?_ | refine Need.au ?_ | refine Pick.map (by assumption) ?_ | refine Pick.mapI (by omega) (by assumption) ?_ | refine PickN.mk _ (by assumption) ?_ | refine PickN.mk _ rfl ?_ | refine PickN.au ?_ | refine App.au rfl ?_ | refine App.au (own_map (fun _ => rfl) _) ?_ | refine Both.mk ?_ ?_ | exact True.intro
        refine Stop.mk (ih (h + 1) (g := []) _ _ _ (by omega) (by omega) ?_)
        rw [hnext]
        exact ⟨rfl, (by repeat' first | exact trivial | refine ⟨rfl, ?_⟩ | refine ⟨congrArg (fun n => AV.lit (.int .i64 n)) (by omega), ?_⟩ | refine ⟨congrArg (fun l => some (Row.row 1 l)) (by simp [int1, num, tru]), ?_⟩), (by repeat' first | exact trivial | refine ⟨rfl, ?_⟩ | refine ⟨congrArg (fun n => AV.lit (.int .i64 n)) (by omega), ?_⟩ | refine ⟨congrArg (fun l => some (Row.row 1 l)) (by simp [int1, num, tru]), ?_⟩)⟩
  · rw [show h = s.length by omega]
    have hbl0 := lps_len s s.length
    have hblk : ∀ x ∈ lps s s.length, x.blocks.length ≤ 1000000 := fun x hx => by
      obtain ⟨h, _, rfl, _⟩ := lps_mem hx
      have := filtN_len s.length fun x => Rc s x ∧ InL s h x
      show (blkF s h).length ≤ 1000000
      unfold blkF; omega
    have hin : ∀ x ∈ lps s s.length, x.inn = -1 := fun x hx => by
      obtain ⟨h, _, rfl, _⟩ := lps_mem hx
      rfl
    generalize lps s s.length = b0 at *
    clear ih
    repeat' first | refine Len.map ?_ | refine Len.nil ?_ | refine Len.cons ?_ | refine Br.t rfl ?_ | refine Br.f rfl ?_ | refine Fit.au ?_ | refine Cv.au ?_ | refine Need.ne ?_ | refine Need.au ?_ | refine Pick.map (by assumption) ?_ | refine Pick.mapI (by omega) (by assumption) ?_ | refine PickN.mk _ (by assumption) ?_ | refine PickN.mk _ rfl ?_ | refine PickN.au ?_ | refine App.au rfl ?_ | refine App.au (own_map (fun _ => rfl) _) ?_ | refine Both.mk ?_ ?_ | exact True.intro
    refine Stop.mk (run_frzIn 1 rfl (fzLL_map fz_lp _) ?_)
    refine loop_in (g := []) (fun p : Nat × List Lp1 => [(3, .hw 1), (58, num b0.length), (59, num p.1)]) (fun p => [(1, .row 4 (p.2.map Lp1.cs))]) 2 (fun p => p.1 ≤ b0.length ∧ OutI b0 p.1 p.2) (fun p => b0.length - p.1) (0, b0) ⟨by simp only; omega, .start hin⟩ ⟨rfl, (by repeat' first | exact trivial | refine ⟨rfl, ?_⟩ | refine ⟨congrArg (fun n => AV.lit (.int .i64 n)) (by omega), ?_⟩ | refine ⟨congrArg (fun l => some (Row.row 1 l)) (by simp [int1, num, tru]), ?_⟩), (by repeat' first | exact trivial | refine ⟨rfl, ?_⟩ | refine ⟨congrArg (fun n => AV.lit (.int .i64 n)) (by omega), ?_⟩ | refine ⟨congrArg (fun l => some (Row.row 1 l)) (by simp [int1, num, tru]), ?_⟩)⟩ (fun p hp ih => ?_)
    obtain ⟨i, ls⟩ := p
    obtain ⟨hi, hO⟩ := hp
    dsimp only at hi hO ih ⊢
    have hlen := hO.same.1
    refine go 1000 Try.func8 ?_
    repeat' first | refine Len.map ?_ | refine Len.nil ?_ | refine Len.cons ?_ | refine Br.t rfl ?_ | refine Br.f rfl ?_ | refine Fit.au ?_ | refine Cv.au ?_ | refine Need.ne ?_ | refine Need.au ?_ | refine Pick.map (by assumption) ?_ | refine Pick.mapI (by omega) (by assumption) ?_ | refine PickN.mk _ (by assumption) ?_ | refine PickN.mk _ rfl ?_ | refine PickN.au ?_ | refine App.au rfl ?_ | refine App.au (own_map (fun _ => rfl) _) ?_ | refine Both.mk ?_ ?_ | exact True.intro
    refine Br.d (fun h3 => ?_) (fun h3 => ?_)
    · repeat' first | refine Len.map ?_ | refine Len.nil ?_ | refine Len.cons ?_ | refine Br.t rfl ?_ | refine Br.f rfl ?_ | refine Fit.au ?_ | refine Cv.au ?_ | refine Need.ne ?_ | refine Need.au ?_ | refine Pick.map (by assumption) ?_ | refine Pick.mapI (by omega) (by assumption) ?_ | refine PickN.mk _ (by assumption) ?_ | refine PickN.mk _ rfl ?_ | refine PickN.au ?_ | refine App.au rfl ?_ | refine App.au (own_map (fun _ => rfl) _) ?_ | refine Both.mk ?_ ?_ | exact True.intro
      refine Stop.mk (loop_in (g := []) (fun p : Nat × List Lp1 => [(3, .hw 1), (58, num b0.length), (59, num i), (11, num i), (62, .hw 1), (63, num ls.length), (64, num p.1)]) (fun p => [(1, .row 4 (p.2.map Lp1.cs))]) 2 (fun p => p.1 ≤ b0.length ∧ InnI b0 i p.1 p.2) (fun p => b0.length - p.1) (0, ls) ⟨by simp only; omega, hO.inn⟩ ⟨rfl, (by repeat' first | exact trivial | refine ⟨rfl, ?_⟩ | refine ⟨congrArg (fun n => AV.lit (.int .i64 n)) (by omega), ?_⟩ | refine ⟨congrArg (fun l => some (Row.row 1 l)) (by simp [int1, num, tru]), ?_⟩), (by repeat' first | exact trivial | refine ⟨rfl, ?_⟩ | refine ⟨congrArg (fun n => AV.lit (.int .i64 n)) (by omega), ?_⟩ | refine ⟨congrArg (fun l => some (Row.row 1 l)) (by simp [int1, num, tru]), ?_⟩)⟩ (fun p hp ih2 => ?_))
      obtain ⟨k, l2⟩ := p
      obtain ⟨hk, hI⟩ := hp
      dsimp only at hk hI ih2 ⊢
      have hlen2 := hI.same.1
      refine go 1000 Try.func8 ?_
      repeat' first | refine Len.map ?_ | refine Len.nil ?_ | refine Len.cons ?_ | refine Br.t rfl ?_ | refine Br.f rfl ?_ | refine Fit.au ?_ | refine Cv.au ?_ | refine Need.ne ?_ | refine Need.au ?_ | refine Pick.map (by assumption) ?_ | refine Pick.mapI (by omega) (by assumption) ?_ | refine PickN.mk _ (by assumption) ?_ | refine PickN.mk _ rfl ?_ | refine PickN.au ?_ | refine App.au rfl ?_ | refine App.au (own_map (fun _ => rfl) _) ?_ | refine Both.mk ?_ ?_ | exact True.intro
      refine Br.d (fun h4 => ?_) (fun h4 => ?_)
      · obtain ⟨x, gx, gxm⟩ := getK (l := l2) (k := i) (by omega)
        obtain ⟨y, gy, gym⟩ := getK (l := l2) (k := k) (by omega)
        have hyb : y.blocks.length ≤ 1000000 := hI.blk hblk gy
        have hii := (hI.inn_ i x gx).2.2 rfl
        have hlf := hI.lies gx gy
        have hlk := hI.len gy
        obtain ⟨xh, xb, xl, xi⟩ := x
        have hLs := Lies27_spec ⟨xh, xb, xl, xi⟩ y (by omega)
        rcases hii with ⟨hx1, _⟩ | ⟨q, hx1, _, hqk, _, _⟩
        · replace hx1 : xi = -1 := hx1
          subst hx1
          repeat' first | refine Draw.mk (ordL [1, 3, 5] [0, 2, 4, 1, 3, 5, 6, 7, 8]) (by decide +kernel) ?_ | refine Draw.mk (ordL [5] [0, 1, 2, 3, 4, 5, 6, 7, 8, 9, 10, 11, 12, 13, 14, 15, 16, 17, 18, 19, 20, 21]) (by decide +kernel) ?_ | refine PickN.map gx ?_ | refine PickN.map gy ?_ | refine Call.eq hLs rfl ?_ | refine Len.map ?_ | refine Len.nil ?_ | refine Len.cons ?_ | refine Br.t rfl ?_ | refine Br.f rfl ?_ | refine Fit.au ?_ | refine Cv.au ?_ | refine Need.ne ?_ | refine Need.au ?_ | refine Pick.map (by assumption) ?_ | refine Pick.mapI (by omega) (by assumption) ?_ | refine PickN.mk _ (by assumption) ?_ | refine PickN.mk _ rfl ?_ | refine PickN.au ?_ | refine App.au rfl ?_ | refine App.au (own_map (fun _ => rfl) _) ?_ | refine Both.mk ?_ ?_ | exact True.intro
          refine Br.mk (fun h5 => ?_) (fun h5 => ?_)
          · repeat' first | refine Draw.mk (ordL [1, 3, 5] [0, 2, 4, 1, 3, 5, 6, 7, 8]) (by decide +kernel) ?_ | refine Draw.mk (ordL [5] [0, 1, 2, 3, 4, 5, 6, 7, 8, 9, 10, 11, 12, 13, 14, 15, 16, 17, 18, 19, 20, 21]) (by decide +kernel) ?_ | refine PickN.map gx ?_ | refine Len.map ?_ | refine Len.nil ?_ | refine Len.cons ?_ | refine Br.t rfl ?_ | refine Br.f rfl ?_ | refine Fit.au ?_ | refine Cv.au ?_ | refine Need.ne ?_ | refine Need.au ?_ | refine Pick.map (by assumption) ?_ | refine Pick.mapI (by omega) (by assumption) ?_ | refine PickN.mk _ (by assumption) ?_ | refine PickN.mk _ rfl ?_ | refine PickN.au ?_ | refine App.au rfl ?_ | refine App.au (own_map (fun _ => rfl) _) ?_ | refine Both.mk ?_ ?_ | exact True.intro
            refine Stop.mk (ih2 (k + 1, l2.set i { (⟨xh, xb, xl, -1⟩ : Lp1) with inn := k }) (g := []) _ _ _ ⟨by simp only; omega, hI.take gx (by rw [hlf]; exact h5) (.inl (by dsimp only; omega))⟩ (by simp only; omega) ?_)
            dsimp only
            rw [List.map_set]
            exact ⟨rfl, (by repeat' first | exact trivial | refine ⟨rfl, ?_⟩ | refine ⟨congrArg (fun n => AV.lit (.int .i64 n)) (by omega), ?_⟩ | refine ⟨congrArg (fun l => some (Row.row 1 l)) (by simp [int1, num, tru]), ?_⟩), (by repeat' first | exact trivial | refine ⟨rfl, ?_⟩ | refine ⟨congrArg (fun n => AV.lit (.int .i64 n)) (by omega), ?_⟩ | refine ⟨congrArg (fun l => some (Row.row 1 l)) (by simp [int1, num, tru]), ?_⟩)⟩
          · repeat' first | refine Len.map ?_ | refine Len.nil ?_ | refine Len.cons ?_ | refine Br.t rfl ?_ | refine Br.f rfl ?_ | refine Fit.au ?_ | refine Cv.au ?_ | refine Need.ne ?_ | refine Need.au ?_ | refine Pick.map (by assumption) ?_ | refine Pick.mapI (by omega) (by assumption) ?_ | refine PickN.mk _ (by assumption) ?_ | refine PickN.mk _ rfl ?_ | refine PickN.au ?_ | refine App.au rfl ?_ | refine App.au (own_map (fun _ => rfl) _) ?_ | refine Both.mk ?_ ?_ | exact True.intro
            exact Stop.mk (ih2 (k + 1, l2) (g := []) _ _ _ ⟨by simp only; omega, hI.skip gx (.inl (by rw [hlf]; exact h5))⟩ (by simp only; omega) ⟨rfl, (by repeat' first | exact trivial | refine ⟨rfl, ?_⟩ | refine ⟨congrArg (fun n => AV.lit (.int .i64 n)) (by omega), ?_⟩ | refine ⟨congrArg (fun l => some (Row.row 1 l)) (by simp [int1, num, tru]), ?_⟩), (by repeat' first | exact trivial | refine ⟨rfl, ?_⟩ | refine ⟨congrArg (fun n => AV.lit (.int .i64 n)) (by omega), ?_⟩ | refine ⟨congrArg (fun l => some (Row.row 1 l)) (by simp [int1, num, tru]), ?_⟩)⟩)
        · replace hx1 : xi = (q : Int) := hx1
          subst hx1
          obtain ⟨z, gz, gzm⟩ := getK (l := l2) (k := q) (by omega)
          have hlz := hI.len gz
          repeat' first | refine Draw.mk (ordL [1, 3, 5] [0, 2, 4, 1, 3, 5, 6, 7, 8]) (by decide +kernel) ?_ | refine Draw.mk (ordL [5] [0, 1, 2, 3, 4, 5, 6, 7, 8, 9, 10, 11, 12, 13, 14, 15, 16, 17, 18, 19, 20, 21]) (by decide +kernel) ?_ | refine PickN.map gx ?_ | refine PickN.map gy ?_ | refine Call.eq hLs rfl ?_ | refine Len.map ?_ | refine Len.nil ?_ | refine Len.cons ?_ | refine Br.t rfl ?_ | refine Br.f rfl ?_ | refine Fit.au ?_ | refine Cv.au ?_ | refine Need.ne ?_ | refine Need.au ?_ | refine Pick.map (by assumption) ?_ | refine Pick.mapI (by omega) (by assumption) ?_ | refine PickN.mk _ (by assumption) ?_ | refine PickN.mk _ rfl ?_ | refine PickN.au ?_ | refine App.au rfl ?_ | refine App.au (own_map (fun _ => rfl) _) ?_ | refine Both.mk ?_ ?_ | exact True.intro
          refine Br.mk (fun h5 => ?_) (fun h5 => ?_)
          · repeat' first | refine Draw.mk (ordL [1, 3, 5] [0, 2, 4, 1, 3, 5, 6, 7, 8]) (by decide +kernel) ?_ | refine Draw.mk (ordL [5] [0, 1, 2, 3, 4, 5, 6, 7, 8, 9, 10, 11, 12, 13, 14, 15, 16, 17, 18, 19, 20, 21]) (by decide +kernel) ?_ | refine PickN.map gx ?_ | refine Len.map ?_ | refine Len.nil ?_ | refine Len.cons ?_ | refine Br.t rfl ?_ | refine Br.f rfl ?_ | refine Fit.au ?_ | refine Cv.au ?_ | refine Need.ne ?_ | refine Need.au ?_ | refine Pick.map (by assumption) ?_ | refine Pick.mapI (by omega) (by assumption) ?_ | refine PickN.mk _ (by assumption) ?_ | refine PickN.mk _ rfl ?_ | refine PickN.au ?_ | refine App.au rfl ?_ | refine App.au (own_map (fun _ => rfl) _) ?_ | refine Both.mk ?_ ?_ | exact True.intro
            refine Need.mk ⟨by dsimp only; omega, by dsimp only; rw [List.length_map]; omega⟩ ?_
            repeat' first | refine Draw.mk (ordL [1, 3, 5] [0, 2, 4, 1, 3, 5, 6, 7, 8]) (by decide +kernel) ?_ | refine Draw.mk (ordL [5] [0, 1, 2, 3, 4, 5, 6, 7, 8, 9, 10, 11, 12, 13, 14, 15, 16, 17, 18, 19, 20, 21]) (by decide +kernel) ?_ | refine PickN.map gz ?_ | refine PickN.map gx ?_ | refine PickN.map gy ?_ | refine Len.map ?_ | refine Len.nil ?_ | refine Len.cons ?_ | refine Br.t rfl ?_ | refine Br.f rfl ?_ | refine Fit.au ?_ | refine Cv.au ?_ | refine Need.ne ?_ | refine Need.au ?_ | refine Pick.map (by assumption) ?_ | refine Pick.mapI (by omega) (by assumption) ?_ | refine PickN.mk _ (by assumption) ?_ | refine PickN.mk _ rfl ?_ | refine PickN.au ?_ | refine App.au rfl ?_ | refine App.au (own_map (fun _ => rfl) _) ?_ | refine Both.mk ?_ ?_ | exact True.intro
            refine Br.d (fun h6 => ?_) (fun h6 => ?_)
            · repeat' first | refine Draw.mk (ordL [1, 3, 5] [0, 2, 4, 1, 3, 5, 6, 7, 8]) (by decide +kernel) ?_ | refine Draw.mk (ordL [5] [0, 1, 2, 3, 4, 5, 6, 7, 8, 9, 10, 11, 12, 13, 14, 15, 16, 17, 18, 19, 20, 21]) (by decide +kernel) ?_ | refine PickN.map gx ?_ | refine Len.map ?_ | refine Len.nil ?_ | refine Len.cons ?_ | refine Br.t rfl ?_ | refine Br.f rfl ?_ | refine Fit.au ?_ | refine Cv.au ?_ | refine Need.ne ?_ | refine Need.au ?_ | refine Pick.map (by assumption) ?_ | refine Pick.mapI (by omega) (by assumption) ?_ | refine PickN.mk _ (by assumption) ?_ | refine PickN.mk _ rfl ?_ | refine PickN.au ?_ | refine App.au rfl ?_ | refine App.au (own_map (fun _ => rfl) _) ?_ | refine Both.mk ?_ ?_ | exact True.intro
              refine Stop.mk (ih2 (k + 1, l2.set i { (⟨xh, xb, xl, q⟩ : Lp1) with inn := k }) (g := []) _ _ _ ⟨by simp only; omega, hI.take gx (by rw [hlf]; exact h5) (.inr ⟨q, rfl, by rw [hlk, hlz]; omega⟩)⟩ (by simp only; omega) ?_)
              dsimp only
              rw [List.map_set]
              exact ⟨rfl, (by repeat' first | exact trivial | refine ⟨rfl, ?_⟩ | refine ⟨congrArg (fun n => AV.lit (.int .i64 n)) (by omega), ?_⟩ | refine ⟨congrArg (fun l => some (Row.row 1 l)) (by simp [int1, num, tru]), ?_⟩), (by repeat' first | exact trivial | refine ⟨rfl, ?_⟩ | refine ⟨congrArg (fun n => AV.lit (.int .i64 n)) (by omega), ?_⟩ | refine ⟨congrArg (fun l => some (Row.row 1 l)) (by simp [int1, num, tru]), ?_⟩)⟩
            · repeat' first | refine Len.map ?_ | refine Len.nil ?_ | refine Len.cons ?_ | refine Br.t rfl ?_ | refine Br.f rfl ?_ | refine Fit.au ?_ | refine Cv.au ?_ | refine Need.ne ?_ | refine Need.au ?_ | refine Pick.map (by assumption) ?_ | refine Pick.mapI (by omega) (by assumption) ?_ | refine PickN.mk _ (by assumption) ?_ | refine PickN.mk _ rfl ?_ | refine PickN.au ?_ | refine App.au rfl ?_ | refine App.au (own_map (fun _ => rfl) _) ?_ | refine Both.mk ?_ ?_ | exact True.intro
              exact Stop.mk (ih2 (k + 1, l2) (g := []) _ _ _ ⟨by simp only; omega, hI.skip gx (.inr ⟨q, rfl, by rw [hlk, hlz]; omega⟩)⟩ (by simp only; omega) ⟨rfl, (by repeat' first | exact trivial | refine ⟨rfl, ?_⟩ | refine ⟨congrArg (fun n => AV.lit (.int .i64 n)) (by omega), ?_⟩ | refine ⟨congrArg (fun l => some (Row.row 1 l)) (by simp [int1, num, tru]), ?_⟩), (by repeat' first | exact trivial | refine ⟨rfl, ?_⟩ | refine ⟨congrArg (fun n => AV.lit (.int .i64 n)) (by omega), ?_⟩ | refine ⟨congrArg (fun l => some (Row.row 1 l)) (by simp [int1, num, tru]), ?_⟩)⟩)
          · repeat' first | refine Len.map ?_ | refine Len.nil ?_ | refine Len.cons ?_ | refine Br.t rfl ?_ | refine Br.f rfl ?_ | refine Fit.au ?_ | refine Cv.au ?_ | refine Need.ne ?_ | refine Need.au ?_ | refine Pick.map (by assumption) ?_ | refine Pick.mapI (by omega) (by assumption) ?_ | refine PickN.mk _ (by assumption) ?_ | refine PickN.mk _ rfl ?_ | refine PickN.au ?_ | refine App.au rfl ?_ | refine App.au (own_map (fun _ => rfl) _) ?_ | refine Both.mk ?_ ?_ | exact True.intro
            exact Stop.mk (ih2 (k + 1, l2) (g := []) _ _ _ ⟨by simp only; omega, hI.skip gx (.inl (by rw [hlf]; exact h5))⟩ (by simp only; omega) ⟨rfl, (by repeat' first | exact trivial | refine ⟨rfl, ?_⟩ | refine ⟨congrArg (fun n => AV.lit (.int .i64 n)) (by omega), ?_⟩ | refine ⟨congrArg (fun l => some (Row.row 1 l)) (by simp [int1, num, tru]), ?_⟩), (by repeat' first | exact trivial | refine ⟨rfl, ?_⟩ | refine ⟨congrArg (fun n => AV.lit (.int .i64 n)) (by omega), ?_⟩ | refine ⟨congrArg (fun l => some (Row.row 1 l)) (by simp [int1, num, tru]), ?_⟩)⟩)
      · repeat' first | refine Len.map ?_ | refine Len.nil ?_ | refine Len.cons ?_ | refine Br.t rfl ?_ | refine Br.f rfl ?_ | refine Fit.au ?_ | refine Cv.au ?_ | refine Need.ne ?_ | refine Need.au ?_ | refine Pick.map (by assumption) ?_ | refine Pick.mapI (by omega) (by assumption) ?_ | refine PickN.mk _ (by assumption) ?_ | refine PickN.mk _ rfl ?_ | refine PickN.au ?_ | refine App.au rfl ?_ | refine App.au (own_map (fun _ => rfl) _) ?_ | refine Both.mk ?_ ?_ | exact True.intro
        exact Stop.mk (ih (i + 1, l2) (g := []) _ _ _ ⟨by simp only; omega, hI.done (by omega)⟩ (by simp only; omega) ⟨rfl, (by repeat' first | exact trivial | refine ⟨rfl, ?_⟩ | refine ⟨congrArg (fun n => AV.lit (.int .i64 n)) (by omega), ?_⟩ | refine ⟨congrArg (fun l => some (Row.row 1 l)) (by simp [int1, num, tru]), ?_⟩), (by repeat' first | exact trivial | refine ⟨rfl, ?_⟩ | refine ⟨congrArg (fun n => AV.lit (.int .i64 n)) (by omega), ?_⟩ | refine ⟨congrArg (fun l => some (Row.row 1 l)) (by simp [int1, num, tru]), ?_⟩)⟩)
    · repeat' first | refine Len.map ?_ | refine Len.nil ?_ | refine Len.cons ?_ | refine Br.t rfl ?_ | refine Br.f rfl ?_ | refine Fit.au ?_ | refine Cv.au ?_ | refine Need.ne ?_ | refine Need.au ?_ | refine Pick.map (by assumption) ?_ | refine Pick.mapI (by omega) (by assumption) ?_ | refine PickN.mk _ (by assumption) ?_ | refine PickN.mk _ rfl ?_ | refine PickN.au ?_ | refine App.au rfl ?_ | refine App.au (own_map (fun _ => rfl) _) ?_ | refine Both.mk ?_ ?_ | exact True.intro
      exact ⟨ls, rfl, by rw [show i = b0.length by omega] at hO; exact hO⟩
theorem OutI.at {s : List (List Int)} {n i k : Nat} {ls : List Lp1} {x : Lp1} (hO : OutI (lps s n) i ls) (g : ls[k]? = some x) : ∃ (h : Nat) (c : Int), h < n ∧ x = ⟨h, blkF s h, latF s h, c⟩ ∧ latF s h ≠ [] := by
  have hl := hO.same.1
  have hk := (List.getElem?_eq_some_iff.1 g).1
  have g0 : (lps s n)[k]? = some (lps s n)[k] := List.getElem?_eq_getElem (by omega)
  obtain ⟨h, h1, h2, h3⟩ := lps_mem (List.mem_of_getElem? g0)
  obtain ⟨e1, e2, e3⟩ := hO.same.2 k _ _ g0 g
  rw [h2] at e1 e2 e3
  obtain ⟨a, b, c, d⟩ := x
  dsimp only at e1 e2 e3
  subst e1; subst e2; subst e3
  exact ⟨h, d, h1, rfl, h3⟩
theorem succsF_two (f : Fun) : ∀ l ∈ succsF f, l.length ≤ 2 := by
  intro l hl
  unfold succsF at hl
  obtain ⟨b, _, rfl⟩ := List.mem_map.1 hl
  unfold succ1
  split
  · exact Nat.le_trans (List.length_filter_le ..) (targetsF_len _)
  · simp
end Go.Proofs.Ytbmiffgfmlkdnaa
