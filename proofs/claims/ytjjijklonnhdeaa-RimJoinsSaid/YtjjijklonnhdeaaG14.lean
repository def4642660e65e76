/- Ways of distinct blocks, and others that avoid them. No program is in sight here. -/
import Derived.Test.YtjjijklonnhdeaaG12
import Derived.Test.YtjjijklonnhdeaaG11
import Derived.Test.YtjjijklonnhdeaaG09
set_option linter.unusedVariables false
set_option linter.unusedSimpArgs false

namespace Go.Proofs.Ytjjijklonnhdeaa
open Go.Ax
theorem Pth.lt {s : List (List Int)} (hs : Closed s) {A : Nat → Prop} {a c : Nat} (ha : a < s.length) (h : Pth s A a c) : c < s.length := by
  induction h with
  | one => exact ha
  | step _ he _ ih =>
    obtain ⟨r, gr, hm⟩ := he
    have := hs r (List.mem_of_getElem? gr) _ hm
    omega
theorem Pth.imp {s : List (List Int)} {A B : Nat → Prop} (h : ∀ n, A n → B n) {a c : Nat} (hp : Pth s A a c) : Pth s B a c := by
  induction hp with
  | one hA => exact .one (h _ hA)
  | step _ he hA ih => exact .step ih he (h _ hA)
structure WayOK (s : List (List Int)) (a : Nat) (way : List Int) (last : Nat) : Prop where
  nodup : way.Nodup
  pth : Pth s (fun n => (n : Int) ∈ way) a last
  rng : ∀ x ∈ way, 0 ≤ x ∧ x < s.length
  at_ : way[((way.length : Int) - 1).toNat]? = some (last : Int)
  lt : last < s.length
theorem WayOK.one {s : List (List Int)} {a : Nat} (ha : a < s.length) : WayOK s a [(a : Int)] a :=
  ⟨by simp, .one (by simp), by simp; omega, by simp, ha⟩
theorem WayOK.step {s : List (List Int)} {a last t : Nat} {way : List Int} (h : WayOK s a way last) (he : Ed s last t) (ht : (t : Int) ∉ way) (hl : t < s.length) : WayOK s a (way ++ [(t : Int)]) t := by
  refine ⟨?_, ?_, fun x hx => ?_, ?_, hl⟩
  · rw [List.nodup_append]
    exact ⟨h.nodup, by simp, fun a ha b hb => by rw [List.mem_singleton.1 hb]; intro e; exact ht (e ▸ ha)⟩
  · exact .step (h.pth.imp fun n hn => List.mem_append_left _ hn) he (by simp)
  · rcases List.mem_append.1 hx with hx | hx
    · exact h.rng x hx
    · rw [List.mem_singleton.1 hx]; exact ⟨by omega, by omega⟩
  · rw [show (((way ++ [(t : Int)]).length : Int) - 1).toNat = way.length by simp]; simp
def JoinP (s : List (List Int)) (a b z : Nat) : Prop := ∃ (A B : Nat → Prop) (c d : Nat), Pth s A a c ∧ Ed s c z ∧ Pth s B b d ∧ Ed s d z ∧ ∀ n, A n → ¬ B n
end Go.Proofs.Ytjjijklonnhdeaa

/- Where ways join, by the document: by contracts. -/
namespace Go.Proofs.Ytjjijklonnhdeaa
open Go.Ax
set_option maxRecDepth 10000
set_option linter.unusedVariables false

theorem free30_spec (s : List (List Int)) (way : List Int) (b z : Nat) (hs : Closed s) (htw : ∀ r ∈ s, r.length ≤ 2) (hn : s.length ≤ 1000000) (hw : way.length ≤ 1000000) (hb : b < s.length) :
    FnSpec Try.prog 30 [lsts s, ints way, num b, num z] (fun r => ∃ v, r = tru v ∧ (v = true → ∃ d, Pth s (fun n => (n : Int) ∉ way) b d ∧ Ed s d z)) := by
  have hW := fun x : Int => HasInt_spec way x (by omega)
  refine spec_of 1000 Try.func30 rfl rfl ?_
  repeat' first | refine Call.eq (hW _) rfl ?_ | refine Len.map ?_ | refine Len.nil ?_ | refine Len.cons ?_ | refine Br.t rfl ?_ | refine Br.f rfl ?_ | refine Fit.au ?_ | refine Cv.au ?_ | refine Need.ne ?_ | refine Need.au ?_ | refine Pick.map (by assumption) ?_ | refine Pick.mapI (by omega) (by assumption) ?_ | refine PickN.mk _ (by assumption) ?_ | refine PickN.mk _ rfl ?_ | refine PickN.au ?_ | refine App.au rfl ?_ | refine App.au (own_map (fun _ => rfl) _) ?_ | refine Both.mk ?_ ?_ | exact True.intro
  refine Br.d (fun h1 => ?_) (fun h1 => ?_)
  · repeat' first | refine Len.map ?_ | refine Len.nil ?_ | refine Len.cons ?_ | refine Br.t rfl ?_ | refine Br.f rfl ?_ | refine Fit.au ?_ | refine Cv.au ?_ | refine Need.ne ?_ | refine Need.au ?_ | refine Pick.map (by assumption) ?_ | refine Pick.mapI (by omega) (by assumption) ?_ | refine PickN.mk _ (by assumption) ?_ | refine PickN.mk _ rfl ?_ | refine PickN.au ?_ | refine App.au rfl ?_ | refine App.au (own_map (fun _ => rfl) _) ?_ | refine Both.mk ?_ ?_ | exact True.intro
    exact ⟨false, rfl, fun h => by cases h⟩
  repeat' first | refine Len.map ?_ | refine Len.nil ?_ | refine Len.cons ?_ | refine Br.t rfl ?_ | refine Br.f rfl ?_ | refine Fit.au ?_ | refine Cv.au ?_ | refine Need.ne ?_ | refine Need.au ?_ | refine Pick.map (by assumption) ?_ | refine Pick.mapI (by omega) (by assumption) ?_ | refine PickN.mk _ (by assumption) ?_ | refine PickN.mk _ rfl ?_ | refine PickN.au ?_ | refine App.au rfl ?_ | refine App.au (own_map (fun _ => rfl) _) ?_ | refine Both.mk ?_ ?_ | exact True.intro
  refine Stop.mk (loop_in (g := []) (fun q : List Int × Nat => [(0, lsts s), (1, ints way), (3, num z), (8, tru false), (9, .hw 0), (10, num q.2)]) (fun q => [(0, .row 1 (q.1.map int1))]) 1 (fun q => q.1.Nodup ∧ (∀ x ∈ q.1, ∃ n : Nat, x = n ∧ Pth s (fun n => (n : Int) ∉ way) b n) ∧ q.2 ≤ q.1.length) (fun q => s.length - q.2) ([(b : Int)], 0) ⟨by simp, fun x hx => ⟨b, by simpa using hx, .one h1⟩, by simp⟩ ⟨rfl, (by repeat' first | exact trivial | refine ⟨rfl, ?_⟩ | refine ⟨congrArg (fun n => AV.lit (.int .i64 n)) (by omega), ?_⟩ | refine ⟨congrArg (fun l => some (Row.row 1 l)) (by simp [int1, num, tru]), ?_⟩), (by repeat' first | exact trivial | refine ⟨rfl, ?_⟩ | refine ⟨congrArg (fun n => AV.lit (.int .i64 n)) (by omega), ?_⟩ | refine ⟨congrArg (fun l => some (Row.row 1 l)) (by simp [int1, num, tru]), ?_⟩)⟩ (fun q hq ih => ?_))
  obtain ⟨l, i⟩ := q
  obtain ⟨hnd, his, hi⟩ := hq
  dsimp only at hnd his hi ih ⊢
  have hlen : ∀ l : List Int, l.Nodup → (∀ x ∈ l, ∃ n : Nat, x = n ∧ Pth s (fun n => (n : Int) ∉ way) b n) → l.length ≤ s.length := fun l h1 h2 => nodup_lenI h1 fun x hx => by
    obtain ⟨n, rfl, hp⟩ := h2 x hx
    have := hp.lt hs hb
    exact ⟨by omega, by omega⟩
  have hll := hlen l hnd his
  refine go 1000 Try.func30 ?_
  repeat' first | refine Len.map ?_ | refine Len.nil ?_ | refine Len.cons ?_ | refine Br.t rfl ?_ | refine Br.f rfl ?_ | refine Fit.au ?_ | refine Cv.au ?_ | refine Need.ne ?_ | refine Need.au ?_ | refine Pick.map (by assumption) ?_ | refine Pick.mapI (by omega) (by assumption) ?_ | refine PickN.mk _ (by assumption) ?_ | refine PickN.mk _ rfl ?_ | refine PickN.au ?_ | refine App.au rfl ?_ | refine App.au (own_map (fun _ => rfl) _) ?_ | refine Both.mk ?_ ?_ | exact True.intro
  refine Br.d (fun h2 => ?_) (fun h2 => ?_)
  rotate_left
  · repeat' first | refine Len.map ?_ | refine Len.nil ?_ | refine Len.cons ?_ | refine Br.t rfl ?_ | refine Br.f rfl ?_ | refine Fit.au ?_ | refine Cv.au ?_ | refine Need.ne ?_ | refine Need.au ?_ | refine Pick.map (by assumption) ?_ | refine Pick.mapI (by omega) (by assumption) ?_ | refine PickN.mk _ (by assumption) ?_ | refine PickN.mk _ rfl ?_ | refine PickN.au ?_ | refine App.au rfl ?_ | refine App.au (own_map (fun _ => rfl) _) ?_ | refine Both.mk ?_ ?_ | exact True.intro
    exact ⟨false, rfl, fun h => by cases h⟩
  obtain ⟨y, gy, gym⟩ := getK (l := l) (k := i) (by omega)
  obtain ⟨n, rfl, hP⟩ := his y gym
  obtain ⟨row, gr, grm⟩ := getK (l := s) (k := n) (hP.lt hs hb)
  have hr2 := htw row grm
  have hrc := hs row grm
  repeat' first | refine Len.map ?_ | refine Len.nil ?_ | refine Len.cons ?_ | refine Br.t rfl ?_ | refine Br.f rfl ?_ | refine Fit.au ?_ | refine Cv.au ?_ | refine Need.ne ?_ | refine Need.au ?_ | refine Pick.map (by assumption) ?_ | refine Pick.mapI (by omega) (by assumption) ?_ | refine PickN.mk _ (by assumption) ?_ | refine PickN.mk _ rfl ?_ | refine PickN.au ?_ | refine App.au rfl ?_ | refine App.au (own_map (fun _ => rfl) _) ?_ | refine Both.mk ?_ ?_ | exact True.intro
  refine Stop.mk (loop_in (g := []) (fun q : List Int × Nat => [(0, lsts s), (1, ints way), (3, num z), (8, tru false), (9, .hw 0), (10, num i), (11, num q.2)]) (fun q => [(0, .row 1 (q.1.map int1))]) 1 (fun q => q.1.Nodup ∧ (∀ x ∈ q.1, ∃ n : Nat, x = n ∧ Pth s (fun n => (n : Int) ∉ way) b n) ∧ q.2 ≤ row.length ∧ q.1[i]? = some (n : Int)) (fun q => row.length - q.2) (l, 0) ⟨hnd, his, by simp, gy⟩ ⟨rfl, (by repeat' first | exact trivial | refine ⟨rfl, ?_⟩ | refine ⟨congrArg (fun n => AV.lit (.int .i64 n)) (by omega), ?_⟩ | refine ⟨congrArg (fun l => some (Row.row 1 l)) (by simp [int1, num, tru]), ?_⟩), (by repeat' first | exact trivial | refine ⟨rfl, ?_⟩ | refine ⟨congrArg (fun n => AV.lit (.int .i64 n)) (by omega), ?_⟩ | refine ⟨congrArg (fun l => some (Row.row 1 l)) (by simp [int1, num, tru]), ?_⟩)⟩ (fun q hq ih2 => ?_))
  obtain ⟨l2, j⟩ := q
  obtain ⟨hnd2, his2, hj, gy2⟩ := hq
  dsimp only at hnd2 his2 hj gy2 ih2 ⊢
  have hll2 := hlen l2 hnd2 his2
  have hil := (List.getElem?_eq_some_iff.1 gy2).1
  refine go 1000 Try.func30 ?_
  repeat' first | refine PickN.map gy2 ?_ | refine Pick.map gr ?_ | refine Len.map ?_ | refine Len.nil ?_ | refine Len.cons ?_ | refine Br.t rfl ?_ | refine Br.f rfl ?_ | refine Fit.au ?_ | refine Cv.au ?_ | refine Need.ne ?_ | refine Need.au ?_ | refine Pick.map (by assumption) ?_ | refine Pick.mapI (by omega) (by assumption) ?_ | refine PickN.mk _ (by assumption) ?_ | refine PickN.mk _ rfl ?_ | refine PickN.au ?_ | refine App.au rfl ?_ | refine App.au (own_map (fun _ => rfl) _) ?_ | refine Both.mk ?_ ?_ | exact True.intro
  refine Br.d (fun h3 => ?_) (fun h3 => ?_)
  rotate_left
  · repeat' first | refine Len.map ?_ | refine Len.nil ?_ | refine Len.cons ?_ | refine Br.t rfl ?_ | refine Br.f rfl ?_ | refine Fit.au ?_ | refine Cv.au ?_ | refine Need.ne ?_ | refine Need.au ?_ | refine Pick.map (by assumption) ?_ | refine Pick.mapI (by omega) (by assumption) ?_ | refine PickN.mk _ (by assumption) ?_ | refine PickN.mk _ rfl ?_ | refine PickN.au ?_ | refine App.au rfl ?_ | refine App.au (own_map (fun _ => rfl) _) ?_ | refine Both.mk ?_ ?_ | exact True.intro
    exact Stop.mk (ih (l2, i + 1) (g := []) _ _ _ ⟨hnd2, his2, by simp only; omega⟩ (by simp only; omega) ⟨rfl, (by repeat' first | exact trivial | refine ⟨rfl, ?_⟩ | refine ⟨congrArg (fun n => AV.lit (.int .i64 n)) (by omega), ?_⟩ | refine ⟨congrArg (fun l => some (Row.row 1 l)) (by simp [int1, num, tru]), ?_⟩), (by repeat' first | exact trivial | refine ⟨rfl, ?_⟩ | refine ⟨congrArg (fun n => AV.lit (.int .i64 n)) (by omega), ?_⟩ | refine ⟨congrArg (fun l => some (Row.row 1 l)) (by simp [int1, num, tru]), ?_⟩)⟩)
  obtain ⟨t, gt, gtm⟩ := getK (l := row) (k := j) (by omega)
  have ht := hrc t gtm
  obtain ⟨t, rfl⟩ : ∃ m : Nat, t = m := ⟨t.toNat, by omega⟩
  have hE : Ed s n t := ⟨row, gr, gtm⟩
  have hL := HasInt_spec l2 t (by omega)
  repeat' first | refine PickN.map gy2 ?_ | refine Pick.map gr ?_ | refine Pick.map gt ?_ | refine Len.map ?_ | refine Len.nil ?_ | refine Len.cons ?_ | refine Br.t rfl ?_ | refine Br.f rfl ?_ | refine Fit.au ?_ | refine Cv.au ?_ | refine Need.ne ?_ | refine Need.au ?_ | refine Pick.map (by assumption) ?_ | refine Pick.mapI (by omega) (by assumption) ?_ | refine PickN.mk _ (by assumption) ?_ | refine PickN.mk _ rfl ?_ | refine PickN.au ?_ | refine App.au rfl ?_ | refine App.au (own_map (fun _ => rfl) _) ?_ | refine Both.mk ?_ ?_ | exact True.intro
  refine Br.d (fun h4 => ?_) (fun h4 => ?_)
  · obtain rfl : t = z := by omega
    repeat' first | refine Len.map ?_ | refine Len.nil ?_ | refine Len.cons ?_ | refine Br.t rfl ?_ | refine Br.f rfl ?_ | refine Fit.au ?_ | refine Cv.au ?_ | refine Need.ne ?_ | refine Need.au ?_ | refine Pick.map (by assumption) ?_ | refine Pick.mapI (by omega) (by assumption) ?_ | refine PickN.mk _ (by assumption) ?_ | refine PickN.mk _ rfl ?_ | refine PickN.au ?_ | refine App.au rfl ?_ | refine App.au (own_map (fun _ => rfl) _) ?_ | refine Both.mk ?_ ?_ | exact True.intro
    exact ⟨true, rfl, fun _ => ⟨n, hP, hE⟩⟩
  repeat' first | refine Call.eq (hW _) rfl ?_ | refine Len.map ?_ | refine Len.nil ?_ | refine Len.cons ?_ | refine Br.t rfl ?_ | refine Br.f rfl ?_ | refine Fit.au ?_ | refine Cv.au ?_ | refine Need.ne ?_ | refine Need.au ?_ | refine Pick.map (by assumption) ?_ | refine Pick.mapI (by omega) (by assumption) ?_ | refine PickN.mk _ (by assumption) ?_ | refine PickN.mk _ rfl ?_ | refine PickN.au ?_ | refine App.au rfl ?_ | refine App.au (own_map (fun _ => rfl) _) ?_ | refine Both.mk ?_ ?_ | exact True.intro
  refine Br.nd (fun h5 => ?_) (fun h5 => ?_)
  · repeat' first | (refine Look.yes (View.mk _ (fzn _) ?_); refine CallV.eq hL rfl (Free.lit _) ?_) | refine Len.map ?_ | refine Len.nil ?_ | refine Len.cons ?_ | refine Br.t rfl ?_ | refine Br.f rfl ?_ | refine Fit.au ?_ | refine Cv.au ?_ | refine Need.ne ?_ | refine Need.au ?_ | refine Pick.map (by assumption) ?_ | refine Pick.mapI (by omega) (by assumption) ?_ | refine PickN.mk _ (by assumption) ?_ | refine PickN.mk _ rfl ?_ | refine PickN.au ?_ | refine App.au rfl ?_ | refine App.au (own_map (fun _ => rfl) _) ?_ | refine Both.mk ?_ ?_ | exact True.intro
    refine Br.nd (fun h6 => ?_) (fun h6 => ?_)
    · repeat' first | refine Len.map ?_ | refine Len.nil ?_ | refine Len.cons ?_ | refine Br.t rfl ?_ | refine Br.f rfl ?_ | refine Fit.au ?_ | refine Cv.au ?_ | refine Need.ne ?_ | refine Need.au ?_ | refine Pick.map (by assumption) ?_ | refine Pick.mapI (by omega) (by assumption) ?_ | refine PickN.mk _ (by assumption) ?_ | refine PickN.mk _ rfl ?_ | refine PickN.au ?_ | refine App.au rfl ?_ | refine App.au (own_map (fun _ => rfl) _) ?_ | refine Both.mk ?_ ?_ | exact True.intro
      refine Stop.mk (ih2 (l2 ++ [(t : Int)], j + 1) (g := [(0, 2)]) _ _ _ ⟨?_, fun x hx => ?_, by simp only; omega, ?_⟩ (by simp only; omega) ?_)
      · rw [List.nodup_append]
        exact ⟨hnd2, by simp, fun a ha b hb => by rw [List.mem_singleton.1 hb]; intro e; exact h6 (e ▸ ha)⟩
      · rcases List.mem_append.1 hx with hx | hx
        · exact his2 x hx
        · exact ⟨t, List.mem_singleton.1 hx, .step hP hE h5⟩
      · dsimp only
        rw [List.getElem?_append_left hil]; exact gy2
      · dsimp only
        rw [List.map_append]
        exact ⟨rfl, (by repeat' first | exact trivial | refine ⟨rfl, ?_⟩ | refine ⟨congrArg (fun n => AV.lit (.int .i64 n)) (by omega), ?_⟩ | refine ⟨congrArg (fun l => some (Row.row 1 l)) (by simp [int1, num, tru]), ?_⟩), (by repeat' first | exact trivial | refine ⟨rfl, ?_⟩ | refine ⟨congrArg (fun n => AV.lit (.int .i64 n)) (by omega), ?_⟩ | refine ⟨congrArg (fun l => some (Row.row 1 l)) (by simp [int1, num, tru]), ?_⟩)⟩
    · repeat' first | refine Len.map ?_ | refine Len.nil ?_ | refine Len.cons ?_ | refine Br.t rfl ?_ | refine Br.f rfl ?_ | refine Fit.au ?_ | refine Cv.au ?_ | refine Need.ne ?_ | refine Need.au ?_ | refine Pick.map (by assumption) ?_ | refine Pick.mapI (by omega) (by assumption) ?_ | refine PickN.mk _ (by assumption) ?_ | refine PickN.mk _ rfl ?_ | refine PickN.au ?_ | refine App.au rfl ?_ | refine App.au (own_map (fun _ => rfl) _) ?_ | refine Both.mk ?_ ?_ | exact True.intro
      exact Stop.mk (ih2 (l2, j + 1) (g := []) _ _ _ ⟨hnd2, his2, by simp only; omega, gy2⟩ (by simp only; omega) ⟨rfl, (by repeat' first | exact trivial | refine ⟨rfl, ?_⟩ | refine ⟨congrArg (fun n => AV.lit (.int .i64 n)) (by omega), ?_⟩ | refine ⟨congrArg (fun l => some (Row.row 1 l)) (by simp [int1, num, tru]), ?_⟩), (by repeat' first | exact trivial | refine ⟨rfl, ?_⟩ | refine ⟨congrArg (fun n => AV.lit (.int .i64 n)) (by omega), ?_⟩ | refine ⟨congrArg (fun l => some (Row.row 1 l)) (by simp [int1, num, tru]), ?_⟩)⟩)
  · repeat' first | refine Len.map ?_ | refine Len.nil ?_ | refine Len.cons ?_ | refine Br.t rfl ?_ | refine Br.f rfl ?_ | refine Fit.au ?_ | refine Cv.au ?_ | refine Need.ne ?_ | refine Need.au ?_ | refine Pick.map (by assumption) ?_ | refine Pick.mapI (by omega) (by assumption) ?_ | refine PickN.mk _ (by assumption) ?_ | refine PickN.mk _ rfl ?_ | refine PickN.au ?_ | refine App.au rfl ?_ | refine App.au (own_map (fun _ => rfl) _) ?_ | refine Both.mk ?_ ?_ | exact True.intro
    exact Stop.mk (ih2 (l2, j + 1) (g := []) _ _ _ ⟨hnd2, his2, by simp only; omega, gy2⟩ (by simp only; omega) ⟨rfl, (by repeat' first | exact trivial | refine ⟨rfl, ?_⟩ | refine ⟨congrArg (fun n => AV.lit (.int .i64 n)) (by omega), ?_⟩ | refine ⟨congrArg (fun l => some (Row.row 1 l)) (by simp [int1, num, tru]), ?_⟩), (by repeat' first | exact trivial | refine ⟨rfl, ?_⟩ | refine ⟨congrArg (fun n => AV.lit (.int .i64 n)) (by omega), ?_⟩ | refine ⟨congrArg (fun l => some (Row.row 1 l)) (by simp [int1, num, tru]), ?_⟩)⟩)
theorem succsF_two (f : Fun) : ∀ l ∈ succsF f, l.length ≤ 2 := by
  intro l hl
  unfold succsF at hl
  obtain ⟨b, _, rfl⟩ := List.mem_map.1 hl
  unfold succ1
  split
  · exact Nat.le_trans (List.length_filter_le ..) (targetsF_len _)
  · simp
theorem joins22_step (s : List (List Int)) (a b z : Nat) (hs : Closed s) (htw : ∀ r ∈ s, r.length ≤ 2) (hn : s.length ≤ 100000) (hb : b < s.length) (ha : a < s.length) (way : List Int) (last : Nat) (hW : WayOK s a way last)
    (ih : ∀ t : Nat, (t : Int) ∉ way → t < s.length → Ed s last t → FnSpec Try.prog 22 [lsts s, ints (way ++ [(t : Int)]), num b, num z] (fun r => ∃ v, r = tru v ∧ (v = true → JoinP s a b z))) :
    FnSpec Try.prog 22 [lsts s, ints way, num b, num z] (fun r => ∃ v, r = tru v ∧ (v = true → JoinP s a b z)) := by
  have hwl := nodup_lenI hW.nodup hW.rng
  have hH := fun x : Int => HasInt_spec way x (by omega)
  have hF := free30_spec s way b z hs htw (by omega) (by omega) hb
  have hI := Ints_spec way (by omega)
  have gl := hW.at_
  have hw0 : 0 < way.length := by
    rcases Nat.eq_zero_or_pos way.length with h | h
    · rw [List.eq_nil_of_length_eq_zero h] at gl; simp at gl
    · exact h
  obtain ⟨row, gr, grm⟩ := getK (l := s) (k := last) hW.lt
  have hr2 := htw row grm
  have hrc := hs row grm
  refine spec_of 1000 Try.func22 rfl rfl ?_
  repeat' first | refine Pick.mapI (by omega) gl ?_ | refine Len.map ?_ | refine Len.nil ?_ | refine Len.cons ?_ | refine Br.t rfl ?_ | refine Br.f rfl ?_ | refine Fit.au ?_ | refine Cv.au ?_ | refine Need.ne ?_ | refine Need.au ?_ | refine Pick.map (by assumption) ?_ | refine Pick.mapI (by omega) (by assumption) ?_ | refine PickN.mk _ (by assumption) ?_ | refine PickN.mk _ rfl ?_ | refine PickN.au ?_ | refine App.au rfl ?_ | refine App.au (own_map (fun _ => rfl) _) ?_ | refine Both.mk ?_ ?_ | exact True.intro
  refine Stop.mk (loop_in (g := []) (fun k : Nat => [(0, lsts s), (1, ints way), (2, num b), (3, num z), (8, tru false), (9, num last), (10, num k)]) (fun k => []) 0 (fun k => k ≤ row.length) (fun k => row.length - k) 0 (by omega) ⟨rfl, (by repeat' first | exact trivial | refine ⟨rfl, ?_⟩ | refine ⟨congrArg (fun n => AV.lit (.int .i64 n)) (by omega), ?_⟩ | refine ⟨congrArg (fun l => some (Row.row 1 l)) (by simp [int1, num, tru]), ?_⟩), (by repeat' first | exact trivial | refine ⟨rfl, ?_⟩ | refine ⟨congrArg (fun n => AV.lit (.int .i64 n)) (by omega), ?_⟩ | refine ⟨congrArg (fun l => some (Row.row 1 l)) (by simp [int1, num, tru]), ?_⟩)⟩ (fun k hk ih2 => ?_))
  refine go 1000 Try.func22 ?_
  repeat' first | refine Pick.map gr ?_ | refine Len.map ?_ | refine Len.nil ?_ | refine Len.cons ?_ | refine Br.t rfl ?_ | refine Br.f rfl ?_ | refine Fit.au ?_ | refine Cv.au ?_ | refine Need.ne ?_ | refine Need.au ?_ | refine Pick.map (by assumption) ?_ | refine Pick.mapI (by omega) (by assumption) ?_ | refine PickN.mk _ (by assumption) ?_ | refine PickN.mk _ rfl ?_ | refine PickN.au ?_ | refine App.au rfl ?_ | refine App.au (own_map (fun _ => rfl) _) ?_ | refine Both.mk ?_ ?_ | exact True.intro
  refine Br.d (fun h2 => ?_) (fun h2 => ?_)
  rotate_left
  · repeat' first | refine Len.map ?_ | refine Len.nil ?_ | refine Len.cons ?_ | refine Br.t rfl ?_ | refine Br.f rfl ?_ | refine Fit.au ?_ | refine Cv.au ?_ | refine Need.ne ?_ | refine Need.au ?_ | refine Pick.map (by assumption) ?_ | refine Pick.mapI (by omega) (by assumption) ?_ | refine PickN.mk _ (by assumption) ?_ | refine PickN.mk _ rfl ?_ | refine PickN.au ?_ | refine App.au rfl ?_ | refine App.au (own_map (fun _ => rfl) _) ?_ | refine Both.mk ?_ ?_ | exact True.intro
    exact ⟨false, rfl, fun h => by cases h⟩
  obtain ⟨t, gt, gtm⟩ := getK (l := row) (k := k) (by omega)
  have ht := hrc t gtm
  obtain ⟨t, rfl⟩ : ∃ m : Nat, t = m := ⟨t.toNat, by omega⟩
  have hE : Ed s last t := ⟨row, gr, gtm⟩
  repeat' first | refine Pick.map gr ?_ | refine Pick.map gt ?_ | refine Len.map ?_ | refine Len.nil ?_ | refine Len.cons ?_ | refine Br.t rfl ?_ | refine Br.f rfl ?_ | refine Fit.au ?_ | refine Cv.au ?_ | refine Need.ne ?_ | refine Need.au ?_ | refine Pick.map (by assumption) ?_ | refine Pick.mapI (by omega) (by assumption) ?_ | refine PickN.mk _ (by assumption) ?_ | refine PickN.mk _ rfl ?_ | refine PickN.au ?_ | refine App.au rfl ?_ | refine App.au (own_map (fun _ => rfl) _) ?_ | refine Both.mk ?_ ?_ | exact True.intro
  refine Br.d (fun h3 => ?_) (fun h3 => ?_)
  · obtain rfl : t = z := by omega
    repeat' first | (refine Call.of hF ?_; rintro r ⟨v, rfl, hv⟩; refine ⟨rfl, ?_⟩) | refine Len.map ?_ | refine Len.nil ?_ | refine Len.cons ?_ | refine Br.t rfl ?_ | refine Br.f rfl ?_ | refine Fit.au ?_ | refine Cv.au ?_ | refine Need.ne ?_ | refine Need.au ?_ | refine Pick.map (by assumption) ?_ | refine Pick.mapI (by omega) (by assumption) ?_ | refine PickN.mk _ (by assumption) ?_ | refine PickN.mk _ rfl ?_ | refine PickN.au ?_ | refine App.au rfl ?_ | refine App.au (own_map (fun _ => rfl) _) ?_ | refine Both.mk ?_ ?_ | exact True.intro
    refine Br.mk (fun h4 => ?_) (fun h4 => ?_)
    · obtain ⟨d, hd, hdE⟩ := hv h4
      repeat' first | refine Len.map ?_ | refine Len.nil ?_ | refine Len.cons ?_ | refine Br.t rfl ?_ | refine Br.f rfl ?_ | refine Fit.au ?_ | refine Cv.au ?_ | refine Need.ne ?_ | refine Need.au ?_ | refine Pick.map (by assumption) ?_ | refine Pick.mapI (by omega) (by assumption) ?_ | refine PickN.mk _ (by assumption) ?_ | refine PickN.mk _ rfl ?_ | refine PickN.au ?_ | refine App.au rfl ?_ | refine App.au (own_map (fun _ => rfl) _) ?_ | refine Both.mk ?_ ?_ | exact True.intro
      exact ⟨true, rfl, fun _ => ⟨_, _, last, d, hW.pth, hE, hd, hdE, fun n h1 h2 => h2 h1⟩⟩
    · repeat' first | refine Len.map ?_ | refine Len.nil ?_ | refine Len.cons ?_ | refine Br.t rfl ?_ | refine Br.f rfl ?_ | refine Fit.au ?_ | refine Cv.au ?_ | refine Need.ne ?_ | refine Need.au ?_ | refine Pick.map (by assumption) ?_ | refine Pick.mapI (by omega) (by assumption) ?_ | refine PickN.mk _ (by assumption) ?_ | refine PickN.mk _ rfl ?_ | refine PickN.au ?_ | refine App.au rfl ?_ | refine App.au (own_map (fun _ => rfl) _) ?_ | refine Both.mk ?_ ?_ | exact True.intro
      exact Stop.mk (ih2 (k + 1) (g := []) _ _ _ (by omega) (by omega) ⟨rfl, (by repeat' first | exact trivial | refine ⟨rfl, ?_⟩ | refine ⟨congrArg (fun n => AV.lit (.int .i64 n)) (by omega), ?_⟩ | refine ⟨congrArg (fun l => some (Row.row 1 l)) (by simp [int1, num, tru]), ?_⟩), (by repeat' first | exact trivial | refine ⟨rfl, ?_⟩ | refine ⟨congrArg (fun n => AV.lit (.int .i64 n)) (by omega), ?_⟩ | refine ⟨congrArg (fun l => some (Row.row 1 l)) (by simp [int1, num, tru]), ?_⟩)⟩)
  repeat' first | refine Call.eq (hH _) rfl ?_ | refine Len.map ?_ | refine Len.nil ?_ | refine Len.cons ?_ | refine Br.t rfl ?_ | refine Br.f rfl ?_ | refine Fit.au ?_ | refine Cv.au ?_ | refine Need.ne ?_ | refine Need.au ?_ | refine Pick.map (by assumption) ?_ | refine Pick.mapI (by omega) (by assumption) ?_ | refine PickN.mk _ (by assumption) ?_ | refine PickN.mk _ rfl ?_ | refine PickN.au ?_ | refine App.au rfl ?_ | refine App.au (own_map (fun _ => rfl) _) ?_ | refine Both.mk ?_ ?_ | exact True.intro
  refine Br.nd (fun h4 => ?_) (fun h4 => ?_)
  · have hJ := ih t h4 (by omega) hE
    repeat' first | refine Call.eq hI rfl ?_ | (refine Look.yes (View.mk _ (show AV.fzLL (way.map int1 ++ [[num t]]) = (way ++ [(t : Int)]).map int1 by rw [List.map_append]; exact (List.map_append (f := int1) (l₁ := way) (l₂ := [(t : Int)])) ▸ fzn (way ++ [(t : Int)])) ?_); refine CallV.of hJ ?_; rintro r ⟨v, rfl, hv⟩; refine ⟨rfl, Free.lit _, ?_⟩) | refine Len.map ?_ | refine Len.nil ?_ | refine Len.cons ?_ | refine Br.t rfl ?_ | refine Br.f rfl ?_ | refine Fit.au ?_ | refine Cv.au ?_ | refine Need.ne ?_ | refine Need.au ?_ | refine Pick.map (by assumption) ?_ | refine Pick.mapI (by omega) (by assumption) ?_ | refine PickN.mk _ (by assumption) ?_ | refine PickN.mk _ rfl ?_ | refine PickN.au ?_ | refine App.au rfl ?_ | refine App.au (own_map (fun _ => rfl) _) ?_ | refine Both.mk ?_ ?_ | exact True.intro
    refine Br.mk (fun h5 => ?_) (fun h5 => ?_)
    · repeat' first | refine Len.map ?_ | refine Len.nil ?_ | refine Len.cons ?_ | refine Br.t rfl ?_ | refine Br.f rfl ?_ | refine Fit.au ?_ | refine Cv.au ?_ | refine Need.ne ?_ | refine Need.au ?_ | refine Pick.map (by assumption) ?_ | refine Pick.mapI (by omega) (by assumption) ?_ | refine PickN.mk _ (by assumption) ?_ | refine PickN.mk _ rfl ?_ | refine PickN.au ?_ | refine App.au rfl ?_ | refine App.au (own_map (fun _ => rfl) _) ?_ | refine Both.mk ?_ ?_ | exact True.intro
      exact ⟨true, rfl, fun _ => hv h5⟩
    · repeat' first | refine Len.map ?_ | refine Len.nil ?_ | refine Len.cons ?_ | refine Br.t rfl ?_ | refine Br.f rfl ?_ | refine Fit.au ?_ | refine Cv.au ?_ | refine Need.ne ?_ | refine Need.au ?_ | refine Pick.map (by assumption) ?_ | refine Pick.mapI (by omega) (by assumption) ?_ | refine PickN.mk _ (by assumption) ?_ | refine PickN.mk _ rfl ?_ | refine PickN.au ?_ | refine App.au rfl ?_ | refine App.au (own_map (fun _ => rfl) _) ?_ | refine Both.mk ?_ ?_ | exact True.intro
      exact Stop.mk (ih2 (k + 1) (g := []) _ _ _ (by omega) (by omega) ⟨rfl, (by repeat' first | exact trivial | refine ⟨rfl, ?_⟩ | refine ⟨congrArg (fun n => AV.lit (.int .i64 n)) (by omega), ?_⟩ | refine ⟨congrArg (fun l => some (Row.row 1 l)) (by simp [int1, num, tru]), ?_⟩), (by repeat' first | exact trivial | refine ⟨rfl, ?_⟩ | refine ⟨congrArg (fun n => AV.lit (.int .i64 n)) (by omega), ?_⟩ | refine ⟨congrArg (fun l => some (Row.row 1 l)) (by simp [int1, num, tru]), ?_⟩)⟩)
  · repeat' first | refine Len.map ?_ | refine Len.nil ?_ | refine Len.cons ?_ | refine Br.t rfl ?_ | refine Br.f rfl ?_ | refine Fit.au ?_ | refine Cv.au ?_ | refine Need.ne ?_ | refine Need.au ?_ | refine Pick.map (by assumption) ?_ | refine Pick.mapI (by omega) (by assumption) ?_ | refine PickN.mk _ (by assumption) ?_ | refine PickN.mk _ rfl ?_ | refine PickN.au ?_ | refine App.au rfl ?_ | refine App.au (own_map (fun _ => rfl) _) ?_ | refine Both.mk ?_ ?_ | exact True.intro
    exact Stop.mk (ih2 (k + 1) (g := []) _ _ _ (by omega) (by omega) ⟨rfl, (by repeat' first | exact trivial | refine ⟨rfl, ?_⟩ | refine ⟨congrArg (fun n => AV.lit (.int .i64 n)) (by omega), ?_⟩ | refine ⟨congrArg (fun l => some (Row.row 1 l)) (by simp [int1, num, tru]), ?_⟩), (by repeat' first | exact trivial | refine ⟨rfl, ?_⟩ | refine ⟨congrArg (fun n => AV.lit (.int .i64 n)) (by omega), ?_⟩ | refine ⟨congrArg (fun l => some (Row.row 1 l)) (by simp [int1, num, tru]), ?_⟩)⟩)
theorem joins22_spec (s : List (List Int)) (a b z : Nat) (hs : Closed s) (htw : ∀ r ∈ s, r.length ≤ 2) (hn : s.length ≤ 100000) (hb : b < s.length) (ha : a < s.length) : ∀ (k : Nat) (way : List Int) (last : Nat), s.length ≤ way.length + k → WayOK s a way last →
    FnSpec Try.prog 22 [lsts s, ints way, num b, num z] (fun r => ∃ v, r = tru v ∧ (v = true → JoinP s a b z)) := by
  intro k
  induction k with
  | zero =>
    intro way last hk hW
    exact joins22_step s a b z hs htw hn hb ha way last hW fun t ht hl he => by
      have h1 := nodup_lenI (hW.step he ht hl).nodup (hW.step he ht hl).rng
      rw [List.length_append, List.length_singleton] at h1
      omega
  | succ k ih =>
    intro way last hk hW
    exact joins22_step s a b z hs htw hn hb ha way last hW fun t ht hl he => ih _ _ (by rw [List.length_append, List.length_singleton]; omega) (hW.step he ht hl)
theorem Joins11_spec (f : Fun) (a b z : Nat) (hf : f.fits) (hn : f.blocks.length ≤ 100000) (ha : a < f.blocks.length) (hb : b < f.blocks.length) : FnSpec Try.prog 11 [funA f, num a, num b, num z] (fun r => ∃ v, r = tru v ∧ (v = true → JoinP (succsF f) a b z)) := by
  have hS := Succs_spec f hf (by omega)
  have hsl := succsF_len f
  have hJ := joins22_spec (succsF f) a b z (succsF_closed f) (succsF_two f) (by omega) (by omega) (by omega) (succsF f).length [(a : Int)] a (by simp) (.one (by omega))
  refine spec_of 1000 Try.func11 rfl rfl ?_
  repeat' first | refine Call.eq hS rfl ?_ | refine Len.map ?_ | refine Len.nil ?_ | refine Len.cons ?_ | refine Br.t rfl ?_ | refine Br.f rfl ?_ | refine Fit.au ?_ | refine Cv.au ?_ | refine Need.ne ?_ | refine Need.au ?_ | refine Pick.map (by assumption) ?_ | refine Pick.mapI (by omega) (by assumption) ?_ | refine PickN.mk _ (by assumption) ?_ | refine PickN.mk _ rfl ?_ | refine PickN.au ?_ | refine App.au rfl ?_ | refine App.au (own_map (fun _ => rfl) _) ?_ | refine Both.mk ?_ ?_ | exact True.intro
  refine Look.stop (Stop.mk (run_frzR 1 rfl (fzLL_map fz_olsts _) ?_))
  refine run_frzR 2 rfl (show AV.fzLL [[num a]] = [(a : Int)].map int1 from rfl) ?_
  refine go 1000 Try.func11 ?_
  repeat' first | refine Len.map ?_ | refine Len.nil ?_ | refine Len.cons ?_ | refine Br.t rfl ?_ | refine Br.f rfl ?_ | refine Fit.au ?_ | refine Cv.au ?_ | refine Need.ne ?_ | refine Need.au ?_ | refine Pick.map (by assumption) ?_ | refine Pick.mapI (by omega) (by assumption) ?_ | refine PickN.mk _ (by assumption) ?_ | refine PickN.mk _ rfl ?_ | refine PickN.au ?_ | refine App.au rfl ?_ | refine App.au (own_map (fun _ => rfl) _) ?_ | refine Both.mk ?_ ?_ | exact True.intro
  refine Call.of hJ ?_
  rintro r ⟨v, rfl, hv⟩
  refine ⟨rfl, ?_⟩
  repeat' first | refine Len.map ?_ | refine Len.nil ?_ | refine Len.cons ?_ | refine Br.t rfl ?_ | refine Br.f rfl ?_ | refine Fit.au ?_ | refine Cv.au ?_ | refine Need.ne ?_ | refine Need.au ?_ | refine Pick.map (by assumption) ?_ | refine Pick.mapI (by omega) (by assumption) ?_ | refine PickN.mk _ (by assumption) ?_ | refine PickN.mk _ rfl ?_ | refine PickN.au ?_ | refine App.au rfl ?_ | refine App.au (own_map (fun _ => rfl) _) ?_ | refine Both.mk ?_ ?_ | exact True.intro
  exact ⟨v, rfl, hv⟩
end Go.Proofs.Ytjjijklonnhdeaa
