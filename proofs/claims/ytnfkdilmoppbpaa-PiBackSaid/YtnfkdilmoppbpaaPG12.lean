/- What was asked ahead of a block's end, by a contract. -/
import Derived.Test.YtnfkdilmoppbpaaPG08
import Derived.Test.YtnfkdilmoppbpaaPG10
set_option linter.unusedVariables false
set_option linter.unusedSimpArgs false

namespace Go.Proofs.Ytnfkdilmoppbpaa
open Go.Ax
set_option maxRecDepth 10000
set_option linter.unusedVariables false

theorem none_le : VLeL [num 0, num 0, num 0, num 0, num 0, num 0, num 0, num 0, .lit (.slice none 0 0)] Ins.none.cs := by
  refine .cons (.refl _) (.cons (.refl _) (.cons (.refl _) (.cons (.refl _) (.cons (.refl _) (.cons (.refl _) (.cons (.refl _) (.cons (.refl _) (.cons (.one Le.none rfl) .nil))))))))
set_option maxHeartbeats 2000000 in
theorem asked_spec (f : Fun) (b : List Ins) (hb0 : b ≠ []) (hb : b.length ≤ 1000000) (hi : ∀ i ∈ b, i.args.length ≤ 1000000) (hr : ∀ i ∈ b, ∀ u ∈ usesF i, 0 ≤ u ∧ u < f.regs.length) (h0 : 0 ≤ (b.getLastD Ins.none).a) :
    FnSpec Try.prog 112 [funA f, bsl b] (fun r => r = .tup [insA (askF f b).1, tru (askF f b).2]) := by
  have hb1 : 0 < b.length := List.length_pos_iff.2 hb0
  have hif : ∀ i ∈ b, i.fits := fun i h => by have := hi i h; unfold Ins.fits; omega
  obtain ⟨e, ge, gem⟩ := getK (l := b) (k := b.length - 1) (by omega)
  have ge' : b[((b.length : Int) - 1).toNat]? = some e := by rw [show ((b.length : Int) - 1).toNat = b.length - 1 by omega]; exact ge
  have hlast : b.getLastD Ins.none = e := by rw [List.getLastD_eq_getLast?, List.getLast?_eq_getElem?, ge]; rfl
  rw [hlast] at h0
  have hask : askF f b = match lastW b e.a (b.length - 1) with | some m => askAt f b m | none => (Ins.none, false) := by unfold askF; rw [hlast]; rfl
  refine FnSpec.weakV (spec_of 1000 Try.func112 rfl rfl ?_)
  repeat' first | refine Len.map ?_ | refine Len.nil ?_ | refine Len.cons ?_ | refine Br.t rfl ?_ | refine Br.f rfl ?_ | refine Fit.au ?_ | refine Need.au ?_ | refine Pick.map (by assumption) ?_ | refine Pick.mapI (by omega) (by assumption) ?_ | refine PickN.mk _ (by assumption) ?_ | refine PickN.mk _ rfl ?_ | refine PickN.au ?_ | refine App.au rfl ?_ | refine App.au (own_map (fun _ => rfl) _) ?_ | refine Both.mk ?_ ?_ | exact True.intro
  refine Stop.mk (run_varLe 2 rfl none_le ?_)
  refine loop_in (g := []) (fun n : Nat => [(2, .hp 0 0), (3, .hp 1 0), (4, .hp 2 0), (6, .hp 3 0), (7, .fn 130 [.hp 1 0]), (8, num ((n : Int) - 1))]) (fun _ => [(0, .var f.cs), (1, .var [bsl b]), (2, .var Ins.none.cs), (3, .var e.cs)]) 4 (fun n => n < b.length ∧ lastW b e.a (b.length - 1) = lastW b e.a n) (fun n => n) (b.length - 1) ⟨by omega, rfl⟩ ⟨rfl, (by repeat' first | exact trivial | refine ⟨rfl, ?_⟩ | refine ⟨congrArg (fun n => AV.lit (.int .i64 n)) (by omega), ?_⟩ | refine ⟨congrArg (fun l => some (Row.row 1 l)) (by simp [int1, num, tru]), ?_⟩), (by repeat' first | exact trivial | refine ⟨rfl, ?_⟩ | refine ⟨congrArg (fun n => AV.lit (.int .i64 n)) (by omega), ?_⟩ | refine ⟨congrArg (fun l => some (Row.row 1 l)) (by simp [int1, num, tru]), ?_⟩)⟩ (fun n hn ih => ?_)
  obtain ⟨hn, hw⟩ := hn
  refine go 1000 Try.func112 ?_
  repeat' first | refine Len.map ?_ | refine Len.nil ?_ | refine Len.cons ?_ | refine Br.t rfl ?_ | refine Br.f rfl ?_ | refine Fit.au ?_ | refine Need.au ?_ | refine Pick.map (by assumption) ?_ | refine Pick.mapI (by omega) (by assumption) ?_ | refine PickN.mk _ (by assumption) ?_ | refine PickN.mk _ rfl ?_ | refine PickN.au ?_ | refine App.au rfl ?_ | refine App.au (own_map (fun _ => rfl) _) ?_ | refine Both.mk ?_ ?_ | exact True.intro
  refine Br.d (fun h2 => ?_) (fun h2 => ?_)
  · obtain ⟨n, rfl⟩ : ∃ m, n = m + 1 := ⟨n - 1, by omega⟩
    obtain ⟨i, gi, gim⟩ := getK (l := b) (k := n) (by omega)
    have gi' : b[(((n + 1 : Nat) : Int) - 1).toNat]? = some i := by rw [show (((n + 1 : Nat) : Int) - 1).toNat = n by omega]; exact gi
    have hui := hr i gim
    have hul := usesF_len i
    have hia := hi i gim
    repeat' first | refine Draw.mk (ordL [1] [0, 2, 3, 1, 4]) (by decide +kernel) ?_ | refine Draw.mk (.one 0 false (.one 1 false (.one 2 true (.one 3 false (.one 4 false (.one 5 false (.one 6 true (.one 7 false (.one 8 false (.one 9 false (.one 10 true (.one 11 false (.one 12 false (.one 13 false (.one 14 false (.one 16 false (.alt 15 (.alt 17 (.one 18 false (.alt 19 (ordL [23] [20, 21, 22, 23, 24]) (.alt 23 (ordL [] [19, 20, 21, 22, 24]) .no))) (.alt 23 (ordL [] [17, 18, 19, 20, 21, 22, 24]) .no)) (.alt 17 (.alt 15 (.one 18 false (.alt 19 (ordL [23] [20, 21, 22, 23, 24]) (.alt 23 (ordL [] [19, 20, 21, 22, 24]) .no))) (.alt 23 (ordL [] [15, 18, 19, 20, 21, 22, 24]) .no)) (.alt 23 (ordL [] [15, 17, 18, 19, 20, 21, 22, 24]) .no))))))))))))))))))) (by decide +kernel) ?_ | refine Call.eq (Def_spec i (hif i gim)) rfl ?_ | refine Len.map ?_ | refine Len.nil ?_ | refine Len.cons ?_ | refine Br.t rfl ?_ | refine Br.f rfl ?_ | refine Fit.au ?_ | refine Need.au ?_ | refine Pick.map (by assumption) ?_ | refine Pick.mapI (by omega) (by assumption) ?_ | refine PickN.mk _ (by assumption) ?_ | refine PickN.mk _ rfl ?_ | refine PickN.au ?_ | refine App.au rfl ?_ | refine App.au (own_map (fun _ => rfl) _) ?_ | refine Both.mk ?_ ?_ | exact True.intro
    refine Br.nd (fun h3 => ?_) (fun h3 => ?_)
    · repeat' first | refine Len.map ?_ | refine Len.nil ?_ | refine Len.cons ?_ | refine Br.t rfl ?_ | refine Br.f rfl ?_ | refine Fit.au ?_ | refine Need.au ?_ | refine Pick.map (by assumption) ?_ | refine Pick.mapI (by omega) (by assumption) ?_ | refine PickN.mk _ (by assumption) ?_ | refine PickN.mk _ rfl ?_ | refine PickN.au ?_ | refine App.au rfl ?_ | refine App.au (own_map (fun _ => rfl) _) ?_ | refine Both.mk ?_ ?_ | exact True.intro
      refine Stop.mk (ih n (g := []) _ _ _ ⟨by omega, ?_⟩ (by omega) ⟨rfl, (by repeat' first | exact trivial | refine ⟨rfl, ?_⟩ | refine ⟨congrArg (fun n => AV.lit (.int .i64 n)) (by omega), ?_⟩ | refine ⟨congrArg (fun l => some (Row.row 1 l)) (by simp [int1, num, tru]), ?_⟩), (by repeat' first | exact trivial | refine ⟨rfl, ?_⟩ | refine ⟨congrArg (fun n => AV.lit (.int .i64 n)) (by omega), ?_⟩ | refine ⟨congrArg (fun l => some (Row.row 1 l)) (by simp [int1, num, tru]), ?_⟩)⟩)
      rw [hw, lastW_miss gi h3]
    · have hm : askF f b = askAt f b n := by rw [hask, hw, lastW_hit gi h3]
      have hat : askAt f b n = (i, !((usesF i).any fun u => wrF (b.drop (n + 1)) u) && (decide (i.op = 26) || (decide (3 ≤ i.op ∧ i.op ≤ 8) && decide (f.regs.getD i.a.toNat 0 = 1)))) := by unfold askAt; rw [gi]
      repeat' first | refine Call.eq (Uses133_spec i hia) rfl ?_ | refine Len.map ?_ | refine Len.nil ?_ | refine Len.cons ?_ | refine Br.t rfl ?_ | refine Br.f rfl ?_ | refine Fit.au ?_ | refine Need.au ?_ | refine Pick.map (by assumption) ?_ | refine Pick.mapI (by omega) (by assumption) ?_ | refine PickN.mk _ (by assumption) ?_ | refine PickN.mk _ rfl ?_ | refine PickN.au ?_ | refine App.au rfl ?_ | refine App.au (own_map (fun _ => rfl) _) ?_ | refine Both.mk ?_ ?_ | exact True.intro
      refine Stop.mk (run_frzR 5 rfl fz_olst ?_)
      refine loop_in (g := []) (fun k : Nat => [(2, .hp 0 0), (3, .hp 1 0), (4, .hp 2 0), (6, .hp 3 0), (7, .fn 130 [.hp 1 0]), (8, num n), (9, .hp 4 0), (36, ints (usesF i)), (37, num (usesF i).length), (38, num k)]) (fun _ => aH f b e i) 5 (fun k => k ≤ (usesF i).length ∧ ∀ u ∈ (usesF i).take k, wrF (b.drop (n + 1)) u = false) (fun k => (usesF i).length - k) 0 ⟨by omega, by simp⟩ ⟨rfl, (by repeat' first | exact trivial | refine ⟨rfl, ?_⟩ | refine ⟨congrArg (fun n => AV.lit (.int .i64 n)) (by omega), ?_⟩ | refine ⟨congrArg (fun l => some (Row.row 1 l)) (by simp [int1, num, tru]), ?_⟩), (by repeat' first | exact trivial | refine ⟨rfl, ?_⟩ | refine ⟨congrArg (fun n => AV.lit (.int .i64 n)) (by omega), ?_⟩ | refine ⟨congrArg (fun l => some (Row.row 1 l)) (by simp [int1, num, tru]), ?_⟩)⟩ (fun k hk ih2 => ?_)
      obtain ⟨hk, hwr⟩ := hk
      have hright : right15 i = true := right_of_def (by rw [← def_eq, h3]; exact h0)
      have hia2 : 3 ≤ i.op ∧ i.op ≤ 8 → 0 ≤ i.a ∧ i.a < f.regs.length := fun h => hui i.a (uses_a hright (by unfold abF twoF; simp; omega))
      refine go 21 Try.func112 ?_
      repeat' first | refine Len.map ?_ | refine Len.nil ?_ | refine Len.cons ?_ | refine Br.t rfl ?_ | refine Br.f rfl ?_ | refine Fit.au ?_ | refine Need.au ?_ | refine Pick.map (by assumption) ?_ | refine Pick.mapI (by omega) (by assumption) ?_ | refine PickN.mk _ (by assumption) ?_ | refine PickN.mk _ rfl ?_ | refine PickN.au ?_ | refine App.au rfl ?_ | refine App.au (own_map (fun _ => rfl) _) ?_ | refine Both.mk ?_ ?_ | exact True.intro
      refine Br.d (fun h4 => ?_) (fun h4 => ?_)
      · obtain ⟨u, gu, gum⟩ := getK (l := usesF i) (k := k) (by omega)
        repeat' first | refine Len.map ?_ | refine Len.nil ?_ | refine Len.cons ?_ | refine Br.t rfl ?_ | refine Br.f rfl ?_ | refine Fit.au ?_ | refine Need.au ?_ | refine Pick.map (by assumption) ?_ | refine Pick.mapI (by omega) (by assumption) ?_ | refine PickN.mk _ (by assumption) ?_ | refine PickN.mk _ rfl ?_ | refine PickN.au ?_ | refine App.au rfl ?_ | refine App.au (own_map (fun _ => rfl) _) ?_ | refine Both.mk ?_ ?_ | exact True.intro
        refine Stop.mk (run_inlC rfl want_none rfl rfl rfl rfl rfl rfl rfl ?_)
        refine Run.fr (g := []) (tm' := [(0, num u), (1, num ((n + 1 : Nat) : Int)), (2, .hp 1 0)]) (hp' := aH f b e i) (nx' := 5) (nt := 11) (written f b e i u (n + 1) (by omega) hb hif fun hp nx hs => ?_) ⟨rfl, (by repeat' first | exact trivial | refine ⟨rfl, ?_⟩ | refine ⟨congrArg (fun n => AV.lit (.int .i64 n)) (by omega), ?_⟩ | refine ⟨congrArg (fun l => some (Row.row 1 l)) (by simp [int1, num, tru]), ?_⟩), (by repeat' first | exact trivial | refine ⟨rfl, ?_⟩ | refine ⟨congrArg (fun n => AV.lit (.int .i64 n)) (by omega), ?_⟩ | refine ⟨congrArg (fun l => some (Row.row 1 l)) (by simp [int1, num, tru]), ?_⟩)⟩
        refine Run.fr (g := []) (tm' := [(46, tru (wrF (b.drop (n + 1)) u)), (2, .hp 0 0), (3, .hp 1 0), (4, .hp 2 0), (6, .hp 3 0), (7, .fn 130 [.hp 1 0]), (8, num n), (9, .hp 4 0), (36, ints (usesF i)), (37, num (usesF i).length), (38, num k)]) (hp' := aH f b e i) (nx' := 5) (nt := 73) ?_ ⟨rfl, (by repeat' first | exact trivial | refine ⟨rfl, ?_⟩), hs⟩
        refine go 1000 Try.func112 ?_
        repeat' first | refine Len.map ?_ | refine Len.nil ?_ | refine Len.cons ?_ | refine Br.t rfl ?_ | refine Br.f rfl ?_ | refine Fit.au ?_ | refine Need.au ?_ | refine Pick.map (by assumption) ?_ | refine Pick.mapI (by omega) (by assumption) ?_ | refine PickN.mk _ (by assumption) ?_ | refine PickN.mk _ rfl ?_ | refine PickN.au ?_ | refine App.au rfl ?_ | refine App.au (own_map (fun _ => rfl) _) ?_ | refine Both.mk ?_ ?_ | exact True.intro
        refine Br.mk (fun h5 => ?_) (fun h5 => ?_)
        · repeat' first | refine Len.map ?_ | refine Len.nil ?_ | refine Len.cons ?_ | refine Br.t rfl ?_ | refine Br.f rfl ?_ | refine Fit.au ?_ | refine Need.au ?_ | refine Pick.map (by assumption) ?_ | refine Pick.mapI (by omega) (by assumption) ?_ | refine PickN.mk _ (by assumption) ?_ | refine PickN.mk _ rfl ?_ | refine PickN.au ?_ | refine App.au rfl ?_ | refine App.au (own_map (fun _ => rfl) _) ?_ | refine Both.mk ?_ ?_ | exact True.intro
          refine .inl ?_
          have e1 : ((usesF i).any fun u => wrF (b.drop (n + 1)) u) = true := List.any_eq_true.2 ⟨u, gum, h5⟩
          rw [hm, hat, e1]; rfl
        · repeat' first | refine Len.map ?_ | refine Len.nil ?_ | refine Len.cons ?_ | refine Br.t rfl ?_ | refine Br.f rfl ?_ | refine Fit.au ?_ | refine Need.au ?_ | refine Pick.map (by assumption) ?_ | refine Pick.mapI (by omega) (by assumption) ?_ | refine PickN.mk _ (by assumption) ?_ | refine PickN.mk _ rfl ?_ | refine PickN.au ?_ | refine App.au rfl ?_ | refine App.au (own_map (fun _ => rfl) _) ?_ | refine Both.mk ?_ ?_ | exact True.intro
          exact Stop.mk (ih2 (k + 1) (g := []) _ _ _ ⟨by omega, all_take_succ gu hwr h5⟩ (by omega) ⟨rfl, (by repeat' first | exact trivial | refine ⟨rfl, ?_⟩ | refine ⟨congrArg (fun n => AV.lit (.int .i64 n)) (by omega), ?_⟩ | refine ⟨congrArg (fun l => some (Row.row 1 l)) (by simp [int1, num, tru]), ?_⟩), (by repeat' first | exact trivial | refine ⟨rfl, ?_⟩ | refine ⟨congrArg (fun n => AV.lit (.int .i64 n)) (by omega), ?_⟩ | refine ⟨congrArg (fun l => some (Row.row 1 l)) (by simp [int1, num, tru]), ?_⟩)⟩)
      · rw [take_all (by omega)] at hwr
        have e1 : ((usesF i).any fun u => wrF (b.drop (n + 1)) u) = false := by
          rw [List.any_eq_false]
          intro u hu
          rw [hwr u hu]; simp
        repeat' first | refine Draw.mk (ordL [1] [0, 2, 3, 1, 4]) (by decide +kernel) ?_ | refine Draw.mk (.one 0 false (.one 1 false (.one 2 true (.one 3 false (.one 4 false (.one 5 false (.one 6 true (.one 7 false (.one 8 false (.one 9 false (.one 10 true (.one 11 false (.one 12 false (.one 13 false (.one 14 false (.one 16 false (.alt 15 (.alt 17 (.one 18 false (.alt 19 (ordL [23] [20, 21, 22, 23, 24]) (.alt 23 (ordL [] [19, 20, 21, 22, 24]) .no))) (.alt 23 (ordL [] [17, 18, 19, 20, 21, 22, 24]) .no)) (.alt 17 (.alt 15 (.one 18 false (.alt 19 (ordL [23] [20, 21, 22, 23, 24]) (.alt 23 (ordL [] [19, 20, 21, 22, 24]) .no))) (.alt 23 (ordL [] [15, 18, 19, 20, 21, 22, 24]) .no)) (.alt 23 (ordL [] [15, 17, 18, 19, 20, 21, 22, 24]) .no))))))))))))))))))) (by decide +kernel) ?_ | refine Pick_getD 0 (by omega) (by omega) ?_ | refine Len.map ?_ | refine Len.nil ?_ | refine Len.cons ?_ | refine Br.t rfl ?_ | refine Br.f rfl ?_ | refine Fit.au ?_ | refine Need.au ?_ | refine Pick.map (by assumption) ?_ | refine Pick.mapI (by omega) (by assumption) ?_ | refine PickN.mk _ (by assumption) ?_ | refine PickN.mk _ rfl ?_ | refine PickN.au ?_ | refine App.au rfl ?_ | refine App.au (own_map (fun _ => rfl) _) ?_ | refine Both.mk ?_ ?_ | exact True.intro | (refine Br.d (fun h => ?_) (fun h => ?_) <;> try (exfalso; omega)) | (refine Br.nd (fun h => ?_) (fun h => ?_) <;> try (exfalso; omega)) | (refine Br.mk (fun h => ?_) (fun h => ?_) <;> try (exfalso; omega))
        all_goals
          refine .inl ?_
          rw [hm, hat, e1]
          refine congrArg (fun v => AV.tup [insA i, tru v]) (?_ : _ = _)
          clear ih hask hw hm hat hwr
          rw [Bool.eq_iff_iff]
          simp
          try omega
  · repeat' first | refine Len.map ?_ | refine Len.nil ?_ | refine Len.cons ?_ | refine Br.t rfl ?_ | refine Br.f rfl ?_ | refine Fit.au ?_ | refine Need.au ?_ | refine Pick.map (by assumption) ?_ | refine Pick.mapI (by omega) (by assumption) ?_ | refine PickN.mk _ (by assumption) ?_ | refine PickN.mk _ rfl ?_ | refine PickN.au ?_ | refine App.au rfl ?_ | refine App.au (own_map (fun _ => rfl) _) ?_ | refine Both.mk ?_ ?_ | exact True.intro
    have : n = 0 := by omega
    subst this
    refine .inr ?_
    rw [hask, hw]
    refine OLe.tup (.cons (.agg ?_ rfl) (.cons (.refl _) .nil))
    repeat' first | exact .nil | refine .cons (Le.refl _) ?_ | refine .cons Le.none ?_
end Go.Proofs.Ytnfkdilmoppbpaa
