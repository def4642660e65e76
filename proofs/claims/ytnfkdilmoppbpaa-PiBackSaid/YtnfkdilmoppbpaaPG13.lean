/- What stands at a block's beginning, by a contract. -/
import Derived.Test.YtnfkdilmoppbpaaPG12
import Derived.Test.YtnfkdilmoppbpaaPG08
set_option linter.unusedVariables false
set_option linter.unusedSimpArgs false

namespace Go.Proofs.Ytnfkdilmoppbpaa
open Go.Ax
set_option maxRecDepth 10000
set_option linter.unusedVariables false

theorem oins_le (a b c d e f g h : Int) : OLeL [num a, num b, num c, num d, num e, num f, num g, num h, .lit (.slice none 0 0)] (Ins.ocs ⟨a, b, c, d, e, f, g, h, []⟩) :=
  .cons (.refl _) (.cons (.refl _) (.cons (.refl _) (.cons (.refl _) (.cons (.refl _) (.cons (.refl _) (.cons (.refl _) (.cons (.refl _) (.cons OLe.onil .nil))))))))
set_option maxHeartbeats 2000000 in
theorem told_spec (f : Fun) (k : Nat) (p : List (List Int)) (hf : f.fits) (hok : f.okP) (hb : ∀ b ∈ f.blocks, b.length ≤ 1000000) (hk : k < p.length) (hp : ∀ l ∈ p, l.length ≤ 1000000 ∧ ∀ x ∈ l, 0 ≤ x ∧ x < f.blocks.length) :
    FnSpec Try.prog 85 [funA f, num k, lsts p] (fun r => r = .osl 9 ((toldF f k p).map Ins.ocs)) := by
  obtain ⟨l, gl, glm⟩ := getK (l := p) (k := k) hk
  obtain ⟨hl1, hl2⟩ := hp l glm
  refine FnSpec.weakV (spec_of 82 Try.func85 rfl rfl ?_)
  repeat' first | refine Len.map ?_ | refine Len.nil ?_ | refine Len.cons ?_ | refine Br.t rfl ?_ | refine Br.f rfl ?_ | refine Fit.au ?_ | refine Need.au ?_ | refine Pick.map (by assumption) ?_ | refine Pick.mapI (by omega) (by assumption) ?_ | refine PickN.mk _ (by assumption) ?_ | refine PickN.mk _ rfl ?_ | refine PickN.au ?_ | refine App.au rfl ?_ | refine App.au (own_map (fun _ => rfl) _) ?_ | refine Both.mk ?_ ?_ | exact True.intro
  have stop : toldF f k p = [] → (asRes [.lit (.slice none 0 0)] : AV) = .osl 9 ((toldF f k p).map Ins.ocs) ∨ OLe (asRes [.lit (.slice none 0 0)]) (.osl 9 ((toldF f k p).map Ins.ocs)) := fun h => by rw [h]; exact .inr OLe.onil
  refine Br.d (fun h1 => ?_) (fun h1 => ?_)
  · repeat' first | refine Len.map ?_ | refine Len.nil ?_ | refine Len.cons ?_ | refine Br.t rfl ?_ | refine Br.f rfl ?_ | refine Fit.au ?_ | refine Need.au ?_ | refine Pick.map (by assumption) ?_ | refine Pick.mapI (by omega) (by assumption) ?_ | refine PickN.mk _ (by assumption) ?_ | refine PickN.mk _ rfl ?_ | refine PickN.au ?_ | refine App.au rfl ?_ | refine App.au (own_map (fun _ => rfl) _) ?_ | refine Both.mk ?_ ?_ | exact True.intro
    exact stop (by unfold toldF; rw [if_pos (by omega)])
  repeat' first | refine Len.map ?_ | refine Len.nil ?_ | refine Len.cons ?_ | refine Br.t rfl ?_ | refine Br.f rfl ?_ | refine Fit.au ?_ | refine Need.au ?_ | refine Pick.map (by assumption) ?_ | refine Pick.mapI (by omega) (by assumption) ?_ | refine PickN.mk _ (by assumption) ?_ | refine PickN.mk _ rfl ?_ | refine PickN.au ?_ | refine App.au rfl ?_ | refine App.au (own_map (fun _ => rfl) _) ?_ | refine Both.mk ?_ ?_ | exact True.intro
  refine Br.nd (fun h2 => ?_) (fun h2 => ?_)
  · repeat' first | refine Len.map ?_ | refine Len.nil ?_ | refine Len.cons ?_ | refine Br.t rfl ?_ | refine Br.f rfl ?_ | refine Fit.au ?_ | refine Need.au ?_ | refine Pick.map (by assumption) ?_ | refine Pick.mapI (by omega) (by assumption) ?_ | refine PickN.mk _ (by assumption) ?_ | refine PickN.mk _ rfl ?_ | refine PickN.au ?_ | refine App.au rfl ?_ | refine App.au (own_map (fun _ => rfl) _) ?_ | refine Both.mk ?_ ?_ | exact True.intro
    refine stop ?_
    unfold toldF
    rw [if_neg (by omega), gl]
    match l, h2 with
    | [], _ => rfl
    | [x], h2 => exact absurd rfl h2
    | _ :: _ :: _, _ => rfl
  obtain ⟨x, rfl⟩ : ∃ x, l = [x] := by
    match l, h2 with
    | [x], _ => exact ⟨x, rfl⟩
    | [], h2 => exact absurd h2 (by decide)
    | _ :: _ :: _, h2 => simp at h2; omega
  obtain ⟨hx0, hx1⟩ := hl2 x (by simp)
  obtain ⟨b, gb, gbm⟩ := getK (l := f.blocks) (k := x.toNat) (by omega)
  have e0 : toldF f k p = tellB f k b := by
    unfold toldF
    rw [if_neg (by omega), gl]
    show tellB f k (f.blocks.getD x.toNat []) = _
    rw [List.getD_eq_getElem?_getD, gb]; rfl
  have hbl := hb b gbm
  have hokb := hok b gbm
  repeat' first | refine Draw.mk (ordL [] [0, 1, 2, 3, 4, 5, 6, 7, 8, 9, 10]) (by decide +kernel) ?_ | refine Draw.mk (.one 0 false (.one 1 false (.one 3 false (.one 5 false (.one 7 false (.alt 2 (.alt 4 (.alt 6 (ordL [8, 10, 11] [8, 9, 10, 11, 12]) (.alt 8 (ordL [6, 10, 11] [6, 9, 10, 11, 12]) .no)) (.alt 6 (.alt 4 (ordL [8, 10, 11] [8, 9, 10, 11, 12]) (.alt 8 (ordL [4, 10, 11] [4, 9, 10, 11, 12]) .no)) (.alt 8 (.alt 4 (ordL [6, 10, 11] [6, 9, 10, 11, 12]) (.alt 6 (ordL [4, 10, 11] [4, 9, 10, 11, 12]) .no)) .no))) (.alt 4 (.alt 2 (.alt 6 (ordL [8, 10, 11] [8, 9, 10, 11, 12]) (.alt 8 (ordL [6, 10, 11] [6, 9, 10, 11, 12]) .no)) (.alt 6 (.alt 2 (ordL [8, 10, 11] [8, 9, 10, 11, 12]) (.alt 8 (ordL [2, 10, 11] [2, 9, 10, 11, 12]) .no)) (.alt 8 (.alt 2 (ordL [6, 10, 11] [6, 9, 10, 11, 12]) (.alt 6 (ordL [2, 10, 11] [2, 9, 10, 11, 12]) .no)) .no))) (.alt 6 (.alt 2 (.alt 4 (ordL [8, 10, 11] [8, 9, 10, 11, 12]) (.alt 8 (ordL [4, 10, 11] [4, 9, 10, 11, 12]) .no)) (.alt 4 (.alt 2 (ordL [8, 10, 11] [8, 9, 10, 11, 12]) (.alt 8 (ordL [2, 10, 11] [2, 9, 10, 11, 12]) .no)) (.alt 8 (.alt 2 (ordL [4, 10, 11] [4, 9, 10, 11, 12]) (.alt 4 (ordL [2, 10, 11] [2, 9, 10, 11, 12]) .no)) .no))) (.alt 8 (.alt 2 (.alt 4 (ordL [6, 10, 11] [6, 9, 10, 11, 12]) (.alt 6 (ordL [4, 10, 11] [4, 9, 10, 11, 12]) .no)) (.alt 4 (.alt 2 (ordL [6, 10, 11] [6, 9, 10, 11, 12]) (.alt 6 (ordL [2, 10, 11] [2, 9, 10, 11, 12]) .no)) (.alt 6 (.alt 2 (ordL [4, 10, 11] [4, 9, 10, 11, 12]) (.alt 4 (ordL [2, 10, 11] [2, 9, 10, 11, 12]) .no)) .no))) .no))))))))) (by decide +kernel) ?_ | refine Pick.map (n := 0) (l := [x]) rfl ?_ | refine Len.map ?_ | refine Len.nil ?_ | refine Len.cons ?_ | refine Br.t rfl ?_ | refine Br.f rfl ?_ | refine Fit.au ?_ | refine Need.au ?_ | refine Pick.map (by assumption) ?_ | refine Pick.mapI (by omega) (by assumption) ?_ | refine PickN.mk _ (by assumption) ?_ | refine PickN.mk _ rfl ?_ | refine PickN.au ?_ | refine App.au rfl ?_ | refine App.au (own_map (fun _ => rfl) _) ?_ | refine Both.mk ?_ ?_ | exact True.intro
  refine Br.d (fun h3 => ?_) (fun h3 => ?_)
  · repeat' first | refine Len.map ?_ | refine Len.nil ?_ | refine Len.cons ?_ | refine Br.t rfl ?_ | refine Br.f rfl ?_ | refine Fit.au ?_ | refine Need.au ?_ | refine Pick.map (by assumption) ?_ | refine Pick.mapI (by omega) (by assumption) ?_ | refine PickN.mk _ (by assumption) ?_ | refine PickN.mk _ rfl ?_ | refine PickN.au ?_ | refine App.au rfl ?_ | refine App.au (own_map (fun _ => rfl) _) ?_ | refine Both.mk ?_ ?_ | exact True.intro
    refine stop ?_
    rw [e0, List.eq_nil_of_length_eq_zero (l := b) (by omega)]; rfl
  obtain ⟨e, ge, gem⟩ := getK (l := b) (k := b.length - 1) (by omega)
  have ge' : b[((b.length : Int) - 1).toNat]? = some e := by rw [show ((b.length : Int) - 1).toNat = b.length - 1 by omega]; exact ge
  have hlast : b.getLastD Ins.none = e := by rw [List.getLastD_eq_getLast?, List.getLast?_eq_getElem?, ge]; rfl
  unfold tellB at e0
  rw [hlast] at e0
  repeat' first | refine Len.map ?_ | refine Len.nil ?_ | refine Len.cons ?_ | refine Br.t rfl ?_ | refine Br.f rfl ?_ | refine Fit.au ?_ | refine Need.au ?_ | refine Pick.map (by assumption) ?_ | refine Pick.mapI (by omega) (by assumption) ?_ | refine PickN.mk _ (by assumption) ?_ | refine PickN.mk _ rfl ?_ | refine PickN.au ?_ | refine App.au rfl ?_ | refine App.au (own_map (fun _ => rfl) _) ?_ | refine Both.mk ?_ ?_ | exact True.intro
  refine Br.nd (fun h4 => ?_) (fun h4 => ?_)
  · repeat' first | refine Len.map ?_ | refine Len.nil ?_ | refine Len.cons ?_ | refine Br.t rfl ?_ | refine Br.f rfl ?_ | refine Fit.au ?_ | refine Need.au ?_ | refine Pick.map (by assumption) ?_ | refine Pick.mapI (by omega) (by assumption) ?_ | refine PickN.mk _ (by assumption) ?_ | refine PickN.mk _ rfl ?_ | refine PickN.au ?_ | refine App.au rfl ?_ | refine App.au (own_map (fun _ => rfl) _) ?_ | refine Both.mk ?_ ?_ | exact True.intro
    exact stop (by rw [e0, if_pos h4])
  rw [if_neg (by omega)] at e0
  have hask := asked_spec f b (by intro h; rw [h] at h3; exact h3 rfl) hbl (fun i hi => (hokb i hi).2.1) (fun i hi u hu => ⟨uses_pos (hokb i hi).1 u hu, (hokb i hi).2.2 u hu⟩) (by rw [hlast]; exact (right_pos (hokb e gem).1).2.1)
  repeat' first | refine Call.eq hask rfl ?_ | refine Len.map ?_ | refine Len.nil ?_ | refine Len.cons ?_ | refine Br.t rfl ?_ | refine Br.f rfl ?_ | refine Fit.au ?_ | refine Need.au ?_ | refine Pick.map (by assumption) ?_ | refine Pick.mapI (by omega) (by assumption) ?_ | refine PickN.mk _ (by assumption) ?_ | refine PickN.mk _ rfl ?_ | refine PickN.au ?_ | refine App.au rfl ?_ | refine App.au (own_map (fun _ => rfl) _) ?_ | refine Both.mk ?_ ?_ | exact True.intro
  generalize askF f b = q at *
  obtain ⟨i, is⟩ := q
  dsimp only at e0
  refine Br.mk (fun h5 => ?_) (fun h5 => ?_)
  · repeat' first | refine Len.map ?_ | refine Len.nil ?_ | refine Len.cons ?_ | refine Br.t rfl ?_ | refine Br.f rfl ?_ | refine Fit.au ?_ | refine Need.au ?_ | refine Pick.map (by assumption) ?_ | refine Pick.mapI (by omega) (by assumption) ?_ | refine PickN.mk _ (by assumption) ?_ | refine PickN.mk _ rfl ?_ | refine PickN.au ?_ | refine App.au rfl ?_ | refine App.au (own_map (fun _ => rfl) _) ?_ | refine Both.mk ?_ ?_ | exact True.intro
    exact stop (by rw [e0, if_pos (by simpa using h5)])
  rw [if_neg (by simpa using h5)] at e0
  repeat' first | refine Len.map ?_ | refine Len.nil ?_ | refine Len.cons ?_ | refine Br.t rfl ?_ | refine Br.f rfl ?_ | refine Fit.au ?_ | refine Need.au ?_ | refine Pick.map (by assumption) ?_ | refine Pick.mapI (by omega) (by assumption) ?_ | refine PickN.mk _ (by assumption) ?_ | refine PickN.mk _ rfl ?_ | refine PickN.au ?_ | refine App.au rfl ?_ | refine App.au (own_map (fun _ => rfl) _) ?_ | refine Both.mk ?_ ?_ | exact True.intro
  refine Stop.mk ?_
  apply join (fun op : Int => [(8, .hp 1 0), (11, num op)]) (fun _ => [(0, .var f.cs), (1, .var i.cs)]) 2 (fun op => toldF f k p = tellI op i)
  · intro jn
    refine go 10 Try.func85 ?_
    repeat' first | refine Len.map ?_ | refine Len.nil ?_ | refine Len.cons ?_ | refine Br.t rfl ?_ | refine Br.f rfl ?_ | refine Fit.au ?_ | refine Need.au ?_ | refine Pick.map (by assumption) ?_ | refine Pick.mapI (by omega) (by assumption) ?_ | refine PickN.mk _ (by assumption) ?_ | refine PickN.mk _ rfl ?_ | refine PickN.au ?_ | refine App.au rfl ?_ | refine App.au (own_map (fun _ => rfl) _) ?_ | refine Both.mk ?_ ?_ | exact True.intro
    refine Br.d (fun h6 => ?_) (fun h6 => ?_)
    · rw [if_pos h6] at e0
      refine Stop.mk (go 1000 Try.func85 ?_)
      repeat' first | refine Len.map ?_ | refine Len.nil ?_ | refine Len.cons ?_ | refine Br.t rfl ?_ | refine Br.f rfl ?_ | refine Fit.au ?_ | refine Need.au ?_ | refine Pick.map (by assumption) ?_ | refine Pick.mapI (by omega) (by assumption) ?_ | refine PickN.mk _ (by assumption) ?_ | refine PickN.mk _ rfl ?_ | refine PickN.au ?_ | refine App.au rfl ?_ | refine App.au (own_map (fun _ => rfl) _) ?_ | refine Both.mk ?_ ?_ | exact True.intro
      refine Br.mk (fun h7 => ?_) (fun h7 => ?_)
      · repeat' first | refine Len.map ?_ | refine Len.nil ?_ | refine Len.cons ?_ | refine Br.t rfl ?_ | refine Br.f rfl ?_ | refine Fit.au ?_ | refine Need.au ?_ | refine Pick.map (by assumption) ?_ | refine Pick.mapI (by omega) (by assumption) ?_ | refine PickN.mk _ (by assumption) ?_ | refine PickN.mk _ rfl ?_ | refine PickN.au ?_ | refine App.au rfl ?_ | refine App.au (own_map (fun _ => rfl) _) ?_ | refine Both.mk ?_ ?_ | exact True.intro
        exact stop (by rw [e0, if_pos (by simpa using h7)])
      · repeat' first | refine Len.map ?_ | refine Len.nil ?_ | refine Len.cons ?_ | refine Br.t rfl ?_ | refine Br.f rfl ?_ | refine Fit.au ?_ | refine Need.au ?_ | refine Pick.map (by assumption) ?_ | refine Pick.mapI (by omega) (by assumption) ?_ | refine PickN.mk _ (by assumption) ?_ | refine PickN.mk _ rfl ?_ | refine PickN.au ?_ | refine App.au rfl ?_ | refine App.au (own_map (fun _ => rfl) _) ?_ | refine Both.mk ?_ ?_ | exact True.intro
        rw [e0, if_neg (by simpa using h7)]
        refine .inr (OLe.oslO (.cons ?_ .nil))
        exact oins_le _ _ _ _ _ _ _ _
    rw [if_neg h6] at e0
    refine Stop.mk (go 5 Try.func85 ?_)
    repeat' first | refine Len.map ?_ | refine Len.nil ?_ | refine Len.cons ?_ | refine Br.t rfl ?_ | refine Br.f rfl ?_ | refine Fit.au ?_ | refine Need.au ?_ | refine Pick.map (by assumption) ?_ | refine Pick.mapI (by omega) (by assumption) ?_ | refine PickN.mk _ (by assumption) ?_ | refine PickN.mk _ rfl ?_ | refine PickN.au ?_ | refine App.au rfl ?_ | refine App.au (own_map (fun _ => rfl) _) ?_ | refine Both.mk ?_ ?_ | exact True.intro
    refine Br.nd (fun h7 => ?_) (fun h7 => ?_)
    · rw [if_neg h7] at e0
      refine Stop.mk (go 5 Try.func85 ?_)
      repeat' first | refine Call.eq (Against47_spec _) rfl ?_ | refine Len.map ?_ | refine Len.nil ?_ | refine Len.cons ?_ | refine Br.t rfl ?_ | refine Br.f rfl ?_ | refine Fit.au ?_ | refine Need.au ?_ | refine Pick.map (by assumption) ?_ | refine Pick.mapI (by omega) (by assumption) ?_ | refine PickN.mk _ (by assumption) ?_ | refine PickN.mk _ rfl ?_ | refine PickN.au ?_ | refine App.au rfl ?_ | refine App.au (own_map (fun _ => rfl) _) ?_ | refine Both.mk ?_ ?_ | exact True.intro
      refine Stop.mk (jn (againstF i.op) (g := []) _ _ _ ⟨rfl, (by repeat' first | exact trivial | refine ⟨rfl, ?_⟩ | refine ⟨congrArg (fun n => AV.lit (.int .i64 n)) (by omega), ?_⟩ | refine ⟨congrArg (fun l => some (Row.row 1 l)) (by simp [int1, num, tru]), ?_⟩), (by repeat' first | exact trivial | refine ⟨rfl, ?_⟩ | refine ⟨congrArg (fun n => AV.lit (.int .i64 n)) (by omega), ?_⟩ | refine ⟨congrArg (fun l => some (Row.row 1 l)) (by simp [int1, num, tru]), ?_⟩)⟩ e0)
    · rw [if_pos h7] at e0
      refine Stop.mk (go 1 Try.func85 ?_)
      refine Stop.mk (jn i.op (g := []) _ _ _ ⟨rfl, (by repeat' first | exact trivial | refine ⟨rfl, ?_⟩ | refine ⟨congrArg (fun n => AV.lit (.int .i64 n)) (by omega), ?_⟩ | refine ⟨congrArg (fun l => some (Row.row 1 l)) (by simp [int1, num, tru]), ?_⟩), (by repeat' first | exact trivial | refine ⟨rfl, ?_⟩ | refine ⟨congrArg (fun n => AV.lit (.int .i64 n)) (by omega), ?_⟩ | refine ⟨congrArg (fun l => some (Row.row 1 l)) (by simp [int1, num, tru]), ?_⟩)⟩ e0)
  · intro op e0
    refine go 1000 Try.func85 ?_
    unfold tellI at e0
    repeat' first | refine Len.map ?_ | refine Len.nil ?_ | refine Len.cons ?_ | refine Br.t rfl ?_ | refine Br.f rfl ?_ | refine Fit.au ?_ | refine Need.au ?_ | refine Pick.map (by assumption) ?_ | refine Pick.mapI (by omega) (by assumption) ?_ | refine PickN.mk _ (by assumption) ?_ | refine PickN.mk _ rfl ?_ | refine PickN.au ?_ | refine App.au rfl ?_ | refine App.au (own_map (fun _ => rfl) _) ?_ | refine Both.mk ?_ ?_ | exact True.intro
    refine Br.d (fun h8 => ?_) (fun h8 => ?_)
    · repeat' first | refine Len.map ?_ | refine Len.nil ?_ | refine Len.cons ?_ | refine Br.t rfl ?_ | refine Br.f rfl ?_ | refine Fit.au ?_ | refine Need.au ?_ | refine Pick.map (by assumption) ?_ | refine Pick.mapI (by omega) (by assumption) ?_ | refine PickN.mk _ (by assumption) ?_ | refine PickN.mk _ rfl ?_ | refine PickN.au ?_ | refine App.au rfl ?_ | refine App.au (own_map (fun _ => rfl) _) ?_ | refine Both.mk ?_ ?_ | exact True.intro
      exact stop (by rw [e0, if_pos h8])
    · rw [if_neg h8] at e0
      repeat' first | refine Len.map ?_ | refine Len.nil ?_ | refine Len.cons ?_ | refine Br.t rfl ?_ | refine Br.f rfl ?_ | refine Fit.au ?_ | refine Need.au ?_ | refine Pick.map (by assumption) ?_ | refine Pick.mapI (by omega) (by assumption) ?_ | refine PickN.mk _ (by assumption) ?_ | refine PickN.mk _ rfl ?_ | refine PickN.au ?_ | refine App.au rfl ?_ | refine App.au (own_map (fun _ => rfl) _) ?_ | refine Both.mk ?_ ?_ | exact True.intro
      refine Br.nd (fun h9 => ?_) (fun h9 => ?_)
      · rw [if_neg h9] at e0
        repeat' first | refine Draw.mk (ordL [] [0, 1, 2, 3, 4, 5, 6, 7, 8, 9, 10]) (by decide +kernel) ?_ | refine Draw.mk (.one 0 false (.one 1 false (.one 3 false (.one 5 false (.one 7 false (.alt 2 (.alt 4 (.alt 6 (ordL [8, 10, 11] [8, 9, 10, 11, 12]) (.alt 8 (ordL [6, 10, 11] [6, 9, 10, 11, 12]) .no)) (.alt 6 (.alt 4 (ordL [8, 10, 11] [8, 9, 10, 11, 12]) (.alt 8 (ordL [4, 10, 11] [4, 9, 10, 11, 12]) .no)) (.alt 8 (.alt 4 (ordL [6, 10, 11] [6, 9, 10, 11, 12]) (.alt 6 (ordL [4, 10, 11] [4, 9, 10, 11, 12]) .no)) .no))) (.alt 4 (.alt 2 (.alt 6 (ordL [8, 10, 11] [8, 9, 10, 11, 12]) (.alt 8 (ordL [6, 10, 11] [6, 9, 10, 11, 12]) .no)) (.alt 6 (.alt 2 (ordL [8, 10, 11] [8, 9, 10, 11, 12]) (.alt 8 (ordL [2, 10, 11] [2, 9, 10, 11, 12]) .no)) (.alt 8 (.alt 2 (ordL [6, 10, 11] [6, 9, 10, 11, 12]) (.alt 6 (ordL [2, 10, 11] [2, 9, 10, 11, 12]) .no)) .no))) (.alt 6 (.alt 2 (.alt 4 (ordL [8, 10, 11] [8, 9, 10, 11, 12]) (.alt 8 (ordL [4, 10, 11] [4, 9, 10, 11, 12]) .no)) (.alt 4 (.alt 2 (ordL [8, 10, 11] [8, 9, 10, 11, 12]) (.alt 8 (ordL [2, 10, 11] [2, 9, 10, 11, 12]) .no)) (.alt 8 (.alt 2 (ordL [4, 10, 11] [4, 9, 10, 11, 12]) (.alt 4 (ordL [2, 10, 11] [2, 9, 10, 11, 12]) .no)) .no))) (.alt 8 (.alt 2 (.alt 4 (ordL [6, 10, 11] [6, 9, 10, 11, 12]) (.alt 6 (ordL [4, 10, 11] [4, 9, 10, 11, 12]) .no)) (.alt 4 (.alt 2 (ordL [6, 10, 11] [6, 9, 10, 11, 12]) (.alt 6 (ordL [2, 10, 11] [2, 9, 10, 11, 12]) .no)) (.alt 6 (.alt 2 (ordL [4, 10, 11] [4, 9, 10, 11, 12]) (.alt 4 (ordL [2, 10, 11] [2, 9, 10, 11, 12]) .no)) .no))) .no))))))))) (by decide +kernel) ?_ | refine Call.eq (Turned48_spec _) rfl ?_ | refine Len.map ?_ | refine Len.nil ?_ | refine Len.cons ?_ | refine Br.t rfl ?_ | refine Br.f rfl ?_ | refine Fit.au ?_ | refine Need.au ?_ | refine Pick.map (by assumption) ?_ | refine Pick.mapI (by omega) (by assumption) ?_ | refine PickN.mk _ (by assumption) ?_ | refine PickN.mk _ rfl ?_ | refine PickN.au ?_ | refine App.au rfl ?_ | refine App.au (own_map (fun _ => rfl) _) ?_ | refine Both.mk ?_ ?_ | exact True.intro
        all_goals
          rw [e0]
          refine .inr (OLe.oslO (.cons ?_ (.cons ?_ .nil)))
          · exact oins_le _ _ _ _ _ _ _ _
          · exact oins_le _ _ _ _ _ _ _ _
      · rw [if_pos h9] at e0
        repeat' first | refine Len.map ?_ | refine Len.nil ?_ | refine Len.cons ?_ | refine Br.t rfl ?_ | refine Br.f rfl ?_ | refine Fit.au ?_ | refine Need.au ?_ | refine Pick.map (by assumption) ?_ | refine Pick.mapI (by omega) (by assumption) ?_ | refine PickN.mk _ (by assumption) ?_ | refine PickN.mk _ rfl ?_ | refine PickN.au ?_ | refine App.au rfl ?_ | refine App.au (own_map (fun _ => rfl) _) ?_ | refine Both.mk ?_ ?_ | exact True.intro
        rw [e0]
        refine .inr (OLe.oslO (.cons ?_ .nil))
        exact oins_le _ _ _ _ _ _ _ _
end Go.Proofs.Ytnfkdilmoppbpaa
