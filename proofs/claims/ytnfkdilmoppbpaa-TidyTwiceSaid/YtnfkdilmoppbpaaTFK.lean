/- Blocks and functions the same, and the document's numbers, by contracts. -/
import Derived.Test.YtnfkdilmoppbpaaTFA
import Derived.Test.YtnfkdilmoppbpaaTFC
import Derived.Test.YtnfkdilmoppbpaaTFF
import Derived.Test.YtnfkdilmoppbpaaTMM
import Derived.Test.YtnfkdilmoppbpaaTFH
set_option linter.unusedVariables false
set_option linter.unusedSimpArgs false

namespace Go.Proofs.Ytnfkdilmoppbpaa
open Go.Ax
set_option maxRecDepth 10000
set_option linter.unusedVariables false

theorem SameBlock_spec (xs ys : List Ins) (hl : xs.length ≤ 1000000000) (ha : ∀ i ∈ xs, i.args.length ≤ 9223372036854775807) (hl2 : ys.length ≤ 9223372036854775807) : FnSpec Try.prog 57 [bsl xs, bsl ys] (fun r => r = tru (decide (xs = ys))) := by
  refine spec_of 1000 Try.func57 rfl rfl ?_
  repeat' first | refine Len.map ?_ | refine Len.nil ?_ | refine Len.cons ?_ | refine Br.t rfl ?_ | refine Br.f rfl ?_ | refine Need.mk ⟨by first | omega | (simp; omega), by first | omega | (simp; done) | (simp; omega)⟩ ?_ | refine Pick.map (by assumption) ?_ | refine Pick.mapI (by omega) (by assumption) ?_ | refine PickN.mk _ (by assumption) ?_ | refine PickN.mk _ rfl ?_ | refine PickN.map (by first | assumption | (rw [Int.toNat_natCast]; assumption)) ?_ | refine App.mk rfl (by simp only [List.length_map, List.length_append, List.length_cons, List.length_nil]; omega) (by simp only [List.length_map, List.length_append, List.length_cons, List.length_nil]; omega) ?_ | refine App.mk (own_map (fun _ => rfl) _) (by simp only [List.length_map, List.length_append, List.length_cons, List.length_nil]; omega) (by simp only [List.length_map, List.length_append, List.length_cons, List.length_nil]; omega) ?_ | refine Both.mk ?_ ?_ | exact True.intro | refine Br.d (fun h => ?_) (fun h => ?_) | refine Br.nd (fun h => ?_) (fun h => ?_) | refine Br.mk (fun h => ?_) (fun h => ?_)
  · have : xs ≠ ys := fun e => h (by rw [e])
    show _ = _
    simp [asRes, tru, this]
  · refine Stop.mk (loop_in (g := []) (fun k : Nat => [(0, bsl xs), (1, bsl ys), (5, num k)]) (fun k => []) 0 (fun k => k ≤ xs.length ∧ xs.take k = ys.take k) (fun k => xs.length - k) 0 ⟨by omega, rfl⟩ ⟨rfl, (by repeat' first | exact trivial | refine ⟨rfl, ?_⟩ | refine ⟨congrArg (fun n => AV.lit (.int .i64 n)) (by omega), ?_⟩ | refine ⟨congrArg (fun l => some (Row.row 1 l)) (by simp [int1, num, tru]), ?_⟩), (by repeat' first | exact trivial | refine ⟨rfl, ?_⟩ | refine ⟨congrArg (fun n => AV.lit (.int .i64 n)) (by omega), ?_⟩ | refine ⟨congrArg (fun l => some (Row.row 1 l)) (by simp [int1, num, tru]), ?_⟩)⟩ (fun k hk ih => ?_))
    obtain ⟨hk1, hk2⟩ := hk
    refine go 1000 Try.func57 ?_
    repeat' first | refine Len.map ?_ | refine Len.nil ?_ | refine Len.cons ?_ | refine Br.t rfl ?_ | refine Br.f rfl ?_ | refine Need.mk ⟨by first | omega | (simp; omega), by first | omega | (simp; done) | (simp; omega)⟩ ?_ | refine Pick.map (by assumption) ?_ | refine Pick.mapI (by omega) (by assumption) ?_ | refine PickN.mk _ (by assumption) ?_ | refine PickN.mk _ rfl ?_ | refine PickN.map (by first | assumption | (rw [Int.toNat_natCast]; assumption)) ?_ | refine App.mk rfl (by simp only [List.length_map, List.length_append, List.length_cons, List.length_nil]; omega) (by simp only [List.length_map, List.length_append, List.length_cons, List.length_nil]; omega) ?_ | refine App.mk (own_map (fun _ => rfl) _) (by simp only [List.length_map, List.length_append, List.length_cons, List.length_nil]; omega) (by simp only [List.length_map, List.length_append, List.length_cons, List.length_nil]; omega) ?_ | refine Both.mk ?_ ?_ | exact True.intro
    refine Br.d (fun h2 => ?_) (fun h2 => ?_)
    · obtain ⟨x, gx, gxm⟩ := getK (l := xs) (k := k) (by omega)
      obtain ⟨y, gy, -⟩ := getK (l := ys) (k := k) (by omega)
      repeat' first | refine Draw.mk (ordL [8] [0, 1, 2, 3, 4, 5, 6, 7, 8, 9]) (by decide +kernel) ?_ | refine Pick.map gx ?_ | refine Pick.map gy ?_ | refine Call.eq (SameInstr_spec x y (ha x gxm)) rfl ?_ | refine Len.map ?_ | refine Len.nil ?_ | refine Len.cons ?_ | refine Br.t rfl ?_ | refine Br.f rfl ?_ | refine Need.mk ⟨by first | omega | (simp; omega), by first | omega | (simp; done) | (simp; omega)⟩ ?_ | refine Pick.map (by assumption) ?_ | refine Pick.mapI (by omega) (by assumption) ?_ | refine PickN.mk _ (by assumption) ?_ | refine PickN.mk _ rfl ?_ | refine PickN.map (by first | assumption | (rw [Int.toNat_natCast]; assumption)) ?_ | refine App.mk rfl (by simp only [List.length_map, List.length_append, List.length_cons, List.length_nil]; omega) (by simp only [List.length_map, List.length_append, List.length_cons, List.length_nil]; omega) ?_ | refine App.mk (own_map (fun _ => rfl) _) (by simp only [List.length_map, List.length_append, List.length_cons, List.length_nil]; omega) (by simp only [List.length_map, List.length_append, List.length_cons, List.length_nil]; omega) ?_ | refine Both.mk ?_ ?_ | exact True.intro
      refine Br.nd (fun h3 => ?_) (fun h3 => ?_)
      · repeat' first | refine Len.map ?_ | refine Len.nil ?_ | refine Len.cons ?_ | refine Br.t rfl ?_ | refine Br.f rfl ?_ | refine Need.mk ⟨by first | omega | (simp; omega), by first | omega | (simp; done) | (simp; omega)⟩ ?_ | refine Pick.map (by assumption) ?_ | refine Pick.mapI (by omega) (by assumption) ?_ | refine PickN.mk _ (by assumption) ?_ | refine PickN.mk _ rfl ?_ | refine PickN.map (by first | assumption | (rw [Int.toNat_natCast]; assumption)) ?_ | refine App.mk rfl (by simp only [List.length_map, List.length_append, List.length_cons, List.length_nil]; omega) (by simp only [List.length_map, List.length_append, List.length_cons, List.length_nil]; omega) ?_ | refine App.mk (own_map (fun _ => rfl) _) (by simp only [List.length_map, List.length_append, List.length_cons, List.length_nil]; omega) (by simp only [List.length_map, List.length_append, List.length_cons, List.length_nil]; omega) ?_ | refine Both.mk ?_ ?_ | exact True.intro
        have : xs ≠ ys := fun e => h3 (by subst e; rw [gx] at gy; exact Option.some.inj gy)
        show _ = _
        simp [asRes, tru, this]
      · repeat' first | refine Len.map ?_ | refine Len.nil ?_ | refine Len.cons ?_ | refine Br.t rfl ?_ | refine Br.f rfl ?_ | refine Need.mk ⟨by first | omega | (simp; omega), by first | omega | (simp; done) | (simp; omega)⟩ ?_ | refine Pick.map (by assumption) ?_ | refine Pick.mapI (by omega) (by assumption) ?_ | refine PickN.mk _ (by assumption) ?_ | refine PickN.mk _ rfl ?_ | refine PickN.map (by first | assumption | (rw [Int.toNat_natCast]; assumption)) ?_ | refine App.mk rfl (by simp only [List.length_map, List.length_append, List.length_cons, List.length_nil]; omega) (by simp only [List.length_map, List.length_append, List.length_cons, List.length_nil]; omega) ?_ | refine App.mk (own_map (fun _ => rfl) _) (by simp only [List.length_map, List.length_append, List.length_cons, List.length_nil]; omega) (by simp only [List.length_map, List.length_append, List.length_cons, List.length_nil]; omega) ?_ | refine Both.mk ?_ ?_ | exact True.intro
        refine Stop.mk (ih (k + 1) (g := []) _ _ _ ⟨by omega, ?_⟩ (by omega) ⟨rfl, (by repeat' first | exact trivial | refine ⟨rfl, ?_⟩ | refine ⟨congrArg (fun n => AV.lit (.int .i64 n)) (by omega), ?_⟩ | refine ⟨congrArg (fun l => some (Row.row 1 l)) (by simp [int1, num, tru]), ?_⟩), (by repeat' first | exact trivial | refine ⟨rfl, ?_⟩ | refine ⟨congrArg (fun n => AV.lit (.int .i64 n)) (by omega), ?_⟩ | refine ⟨congrArg (fun l => some (Row.row 1 l)) (by simp [int1, num, tru]), ?_⟩)⟩)
        rw [take_succ gx, take_succ gy, hk2, h3]
    · repeat' first | refine Len.map ?_ | refine Len.nil ?_ | refine Len.cons ?_ | refine Br.t rfl ?_ | refine Br.f rfl ?_ | refine Need.mk ⟨by first | omega | (simp; omega), by first | omega | (simp; done) | (simp; omega)⟩ ?_ | refine Pick.map (by assumption) ?_ | refine Pick.mapI (by omega) (by assumption) ?_ | refine PickN.mk _ (by assumption) ?_ | refine PickN.mk _ rfl ?_ | refine PickN.map (by first | assumption | (rw [Int.toNat_natCast]; assumption)) ?_ | refine App.mk rfl (by simp only [List.length_map, List.length_append, List.length_cons, List.length_nil]; omega) (by simp only [List.length_map, List.length_append, List.length_cons, List.length_nil]; omega) ?_ | refine App.mk (own_map (fun _ => rfl) _) (by simp only [List.length_map, List.length_append, List.length_cons, List.length_nil]; omega) (by simp only [List.length_map, List.length_append, List.length_cons, List.length_nil]; omega) ?_ | refine Both.mk ?_ ?_ | exact True.intro
      have e1 := take_all (l := xs) (k := k) (by omega)
      have e2 := take_all (l := ys) (k := k) (by omega)
      have : xs = ys := by rw [← e1, ← e2, hk2]
      show _ = _
      simp [asRes, tru, this]

theorem Map43_spec (f : Fun) (hf : f.fits) (hn : f.blocks.length ≤ 1000000) : FnSpec Try.prog 43 [funA f] (fun r => r = .osl 1 ((mapF f).map int1)) := by
  have hl : (marksF (succsF f) (-1)).length = f.blocks.length := by rw [marksF_len, succsF_len]
  refine spec_of 1000 Try.func43 rfl rfl ?_
  repeat' first | refine Len.map ?_ | refine Len.nil ?_ | refine Len.cons ?_ | refine Br.t rfl ?_ | refine Br.f rfl ?_ | refine Need.mk ⟨by first | omega | (simp; omega), by first | omega | (simp; done) | (simp; omega)⟩ ?_ | refine Pick.map (by assumption) ?_ | refine Pick.mapI (by omega) (by assumption) ?_ | refine PickN.mk _ (by assumption) ?_ | refine PickN.mk _ rfl ?_ | refine PickN.map (by first | assumption | (rw [Int.toNat_natCast]; assumption)) ?_ | refine App.mk rfl (by simp only [List.length_map, List.length_append, List.length_cons, List.length_nil]; omega) (by simp only [List.length_map, List.length_append, List.length_cons, List.length_nil]; omega) ?_ | refine App.mk (own_map (fun _ => rfl) _) (by simp only [List.length_map, List.length_append, List.length_cons, List.length_nil]; omega) (by simp only [List.length_map, List.length_append, List.length_cons, List.length_nil]; omega) ?_ | refine Both.mk ?_ ?_ | exact True.intro
  refine Call.of (Reach_spec f hf hn) ?_
  rintro r ⟨l, rfl, hm⟩
  refine ⟨rfl, ?_⟩
  rw [← hm.eq] at hl
  unfold mapF
  rw [← hm.eq]
  clear hm
  repeat' first | refine Len.map ?_ | refine Len.nil ?_ | refine Len.cons ?_ | refine Br.t rfl ?_ | refine Br.f rfl ?_ | refine Need.mk ⟨by first | omega | (simp; omega), by first | omega | (simp; done) | (simp; omega)⟩ ?_ | refine Pick.map (by assumption) ?_ | refine Pick.mapI (by omega) (by assumption) ?_ | refine PickN.mk _ (by assumption) ?_ | refine PickN.mk _ rfl ?_ | refine PickN.map (by first | assumption | (rw [Int.toNat_natCast]; assumption)) ?_ | refine App.mk rfl (by simp only [List.length_map, List.length_append, List.length_cons, List.length_nil]; omega) (by simp only [List.length_map, List.length_append, List.length_cons, List.length_nil]; omega) ?_ | refine App.mk (own_map (fun _ => rfl) _) (by simp only [List.length_map, List.length_append, List.length_cons, List.length_nil]; omega) (by simp only [List.length_map, List.length_append, List.length_cons, List.length_nil]; omega) ?_ | refine Both.mk ?_ ?_ | exact True.intro
  refine Stop.mk (loop_in (g := []) (fun k : Nat => [(3, .hw 1), (4, .hw 2), (5, num ((l.take k).count true : Nat)), (6, num k)]) (fun k => [(1, .row 1 (l.map tb)), (2, .row 1 ((numF 0 (l.take k)).map int1))]) 3 (fun k => k ≤ l.length) (fun k => l.length - k) 0 (by omega) ⟨rfl, (by repeat' first | exact trivial | refine ⟨rfl, ?_⟩ | refine ⟨congrArg (fun n => AV.lit (.int .i64 n)) (by omega), ?_⟩ | refine ⟨congrArg (fun l => some (Row.row 1 l)) (by simp [int1, num, tru]), ?_⟩), (by repeat' first | exact trivial | refine ⟨rfl, ?_⟩ | refine ⟨congrArg (fun n => AV.lit (.int .i64 n)) (by omega), ?_⟩ | refine ⟨congrArg (fun l => some (Row.row 1 l)) (by simp [int1, num, tru]), ?_⟩)⟩ (fun k hk ih => ?_))
  refine go 1000 Try.func43 ?_
  repeat' first | refine Len.map ?_ | refine Len.nil ?_ | refine Len.cons ?_ | refine Br.t rfl ?_ | refine Br.f rfl ?_ | refine Need.mk ⟨by first | omega | (simp; omega), by first | omega | (simp; done) | (simp; omega)⟩ ?_ | refine Pick.map (by assumption) ?_ | refine Pick.mapI (by omega) (by assumption) ?_ | refine PickN.mk _ (by assumption) ?_ | refine PickN.mk _ rfl ?_ | refine PickN.map (by first | assumption | (rw [Int.toNat_natCast]; assumption)) ?_ | refine App.mk rfl (by simp only [List.length_map, List.length_append, List.length_cons, List.length_nil]; omega) (by simp only [List.length_map, List.length_append, List.length_cons, List.length_nil]; omega) ?_ | refine App.mk (own_map (fun _ => rfl) _) (by simp only [List.length_map, List.length_append, List.length_cons, List.length_nil]; omega) (by simp only [List.length_map, List.length_append, List.length_cons, List.length_nil]; omega) ?_ | refine Both.mk ?_ ?_ | exact True.intro
  refine Br.d (fun h2 => ?_) (fun h2 => ?_)
  · obtain ⟨b, gb, -⟩ := getK (l := l) (k := k) (by omega)
    have hc : (l.take k).count true ≤ k := by have := List.count_le_length (a := true) (l := l.take k); rw [List.length_take] at this; omega
    have hc2 : (l.take (k + 1)).count true = (l.take k).count true + if b = true then 1 else 0 := by rw [take_succ gb, List.count_append]; cases b <;> simp
    have hn2 : numF 0 (l.take (k + 1)) = numF 0 (l.take k) ++ [if b = true then (0 : Int) + ((l.take k).count true : Nat) else -1] := by rw [take_succ gb, numF_app]
    have hnl : (numF 0 (l.take k)).length ≤ k := by rw [numF_len, List.length_take]; omega
    repeat' first | refine Pick.map gb ?_ | refine Len.map ?_ | refine Len.nil ?_ | refine Len.cons ?_ | refine Br.t rfl ?_ | refine Br.f rfl ?_ | refine Need.mk ⟨by first | omega | (simp; omega), by first | omega | (simp; done) | (simp; omega)⟩ ?_ | refine Pick.map (by assumption) ?_ | refine Pick.mapI (by omega) (by assumption) ?_ | refine PickN.mk _ (by assumption) ?_ | refine PickN.mk _ rfl ?_ | refine PickN.map (by first | assumption | (rw [Int.toNat_natCast]; assumption)) ?_ | refine App.mk rfl (by simp only [List.length_map, List.length_append, List.length_cons, List.length_nil]; omega) (by simp only [List.length_map, List.length_append, List.length_cons, List.length_nil]; omega) ?_ | refine App.mk (own_map (fun _ => rfl) _) (by simp only [List.length_map, List.length_append, List.length_cons, List.length_nil]; omega) (by simp only [List.length_map, List.length_append, List.length_cons, List.length_nil]; omega) ?_ | refine Both.mk ?_ ?_ | exact True.intro
    refine Br.mk (fun h3 => ?_) (fun h3 => ?_)
    · repeat' first | refine Len.map ?_ | refine Len.nil ?_ | refine Len.cons ?_ | refine Br.t rfl ?_ | refine Br.f rfl ?_ | refine Need.mk ⟨by first | omega | (simp; omega), by first | omega | (simp; done) | (simp; omega)⟩ ?_ | refine Pick.map (by assumption) ?_ | refine Pick.mapI (by omega) (by assumption) ?_ | refine PickN.mk _ (by assumption) ?_ | refine PickN.mk _ rfl ?_ | refine PickN.map (by first | assumption | (rw [Int.toNat_natCast]; assumption)) ?_ | refine App.mk rfl (by simp only [List.length_map, List.length_append, List.length_cons, List.length_nil]; omega) (by simp only [List.length_map, List.length_append, List.length_cons, List.length_nil]; omega) ?_ | refine App.mk (own_map (fun _ => rfl) _) (by simp only [List.length_map, List.length_append, List.length_cons, List.length_nil]; omega) (by simp only [List.length_map, List.length_append, List.length_cons, List.length_nil]; omega) ?_ | refine Both.mk ?_ ?_ | exact True.intro
      rw [if_pos h3] at hn2 hc2
      refine Stop.mk (ih (k + 1) (g := [(2, 4)]) _ _ _ (by omega) (by omega) ?_)
      rw [hn2, hc2, List.map_append, Int.zero_add]
      exact ⟨rfl, (by repeat' first | exact trivial | refine ⟨rfl, ?_⟩ | refine ⟨congrArg (fun n => AV.lit (.int .i64 n)) (by omega), ?_⟩ | refine ⟨congrArg (fun l => some (Row.row 1 l)) (by simp [int1, num, tru]), ?_⟩), (by repeat' first | exact trivial | refine ⟨rfl, ?_⟩ | refine ⟨congrArg (fun n => AV.lit (.int .i64 n)) (by omega), ?_⟩ | refine ⟨congrArg (fun l => some (Row.row 1 l)) (by simp [int1, num, tru]), ?_⟩)⟩
    · repeat' first | refine Len.map ?_ | refine Len.nil ?_ | refine Len.cons ?_ | refine Br.t rfl ?_ | refine Br.f rfl ?_ | refine Need.mk ⟨by first | omega | (simp; omega), by first | omega | (simp; done) | (simp; omega)⟩ ?_ | refine Pick.map (by assumption) ?_ | refine Pick.mapI (by omega) (by assumption) ?_ | refine PickN.mk _ (by assumption) ?_ | refine PickN.mk _ rfl ?_ | refine PickN.map (by first | assumption | (rw [Int.toNat_natCast]; assumption)) ?_ | refine App.mk rfl (by simp only [List.length_map, List.length_append, List.length_cons, List.length_nil]; omega) (by simp only [List.length_map, List.length_append, List.length_cons, List.length_nil]; omega) ?_ | refine App.mk (own_map (fun _ => rfl) _) (by simp only [List.length_map, List.length_append, List.length_cons, List.length_nil]; omega) (by simp only [List.length_map, List.length_append, List.length_cons, List.length_nil]; omega) ?_ | refine Both.mk ?_ ?_ | exact True.intro
      rw [if_neg (by simp [h3])] at hn2 hc2
      refine Stop.mk (ih (k + 1) (g := [(2, 4)]) _ _ _ (by omega) (by omega) ?_)
      rw [hn2, hc2, List.map_append]
      exact ⟨rfl, (by repeat' first | exact trivial | refine ⟨rfl, ?_⟩ | refine ⟨congrArg (fun n => AV.lit (.int .i64 n)) (by omega), ?_⟩ | refine ⟨congrArg (fun l => some (Row.row 1 l)) (by simp [int1, num, tru]), ?_⟩), (by repeat' first | exact trivial | refine ⟨rfl, ?_⟩ | refine ⟨congrArg (fun n => AV.lit (.int .i64 n)) (by omega), ?_⟩ | refine ⟨congrArg (fun l => some (Row.row 1 l)) (by simp [int1, num, tru]), ?_⟩)⟩
  · repeat' first | refine Len.map ?_ | refine Len.nil ?_ | refine Len.cons ?_ | refine Br.t rfl ?_ | refine Br.f rfl ?_ | refine Need.mk ⟨by first | omega | (simp; omega), by first | omega | (simp; done) | (simp; omega)⟩ ?_ | refine Pick.map (by assumption) ?_ | refine Pick.mapI (by omega) (by assumption) ?_ | refine PickN.mk _ (by assumption) ?_ | refine PickN.mk _ rfl ?_ | refine PickN.map (by first | assumption | (rw [Int.toNat_natCast]; assumption)) ?_ | refine App.mk rfl (by simp only [List.length_map, List.length_append, List.length_cons, List.length_nil]; omega) (by simp only [List.length_map, List.length_append, List.length_cons, List.length_nil]; omega) ?_ | refine App.mk (own_map (fun _ => rfl) _) (by simp only [List.length_map, List.length_append, List.length_cons, List.length_nil]; omega) (by simp only [List.length_map, List.length_append, List.length_cons, List.length_nil]; omega) ?_ | refine Both.mk ?_ ?_ | exact True.intro
    rw [take_all (by omega)]
    rfl
end Go.Proofs.Ytnfkdilmoppbpaa

/- Functions the same, by a contract. -/
namespace Go.Proofs.Ytnfkdilmoppbpaa
open Go.Ax
set_option maxRecDepth 10000
set_option linter.unusedVariables false

deriving instance DecidableEq for Fun
theorem SameFunc_spec (f g : Fun) (hf : f.fits) (hg : g.fits) (hn : f.blocks.length ≤ 1000000000) (hb : ∀ b ∈ f.blocks, b.length ≤ 1000000000) : FnSpec Try.prog 40 [funA f, funA g] (fun r => r = tru (decide (f = g))) := by
  have hf2 := hf.2.1
  have hg1 := hg.1
  have hname : f.name.toList = g.name.toList → f.name = g.name := fun h => by
    rw [ByteArray.toList_eq, ByteArray.toList_eq] at h
    exact ByteArray.ext (Array.toList_inj.1 h)
  refine spec_of 1000 Try.func40 rfl rfl ?_
  repeat' first | refine Call.eq (SameInts_spec f.regs g.regs (by omega)) rfl ?_ | refine Len.map ?_ | refine Len.nil ?_ | refine Len.cons ?_ | refine Br.t rfl ?_ | refine Br.f rfl ?_ | refine Need.mk ⟨by first | omega | (simp; omega), by first | omega | (simp; done) | (simp; omega)⟩ ?_ | refine Pick.map (by assumption) ?_ | refine Pick.mapI (by omega) (by assumption) ?_ | refine PickN.mk _ (by assumption) ?_ | refine PickN.mk _ rfl ?_ | refine PickN.map (by first | assumption | (rw [Int.toNat_natCast]; assumption)) ?_ | refine App.mk rfl (by simp only [List.length_map, List.length_append, List.length_cons, List.length_nil]; omega) (by simp only [List.length_map, List.length_append, List.length_cons, List.length_nil]; omega) ?_ | refine App.mk (own_map (fun _ => rfl) _) (by simp only [List.length_map, List.length_append, List.length_cons, List.length_nil]; omega) (by simp only [List.length_map, List.length_append, List.length_cons, List.length_nil]; omega) ?_ | refine Both.mk ?_ ?_ | exact True.intro | refine Br.d (fun h => ?_) (fun h => ?_) | refine Br.nd (fun h => ?_) (fun h => ?_) | refine Br.mk (fun h => ?_) (fun h => ?_)
  · have : f ≠ g := fun e => by subst e; simp_all
    show _ = _
    simp [asRes, tru, this]
  · have : f ≠ g := fun e => by subst e; simp_all
    show _ = _
    simp [asRes, tru, this]
  · have : f ≠ g := fun e => by subst e; simp_all
    show _ = _
    simp [asRes, tru, this]
  · have : f ≠ g := fun e => by subst e; simp_all
    show _ = _
    simp [asRes, tru, this]
  · have : f ≠ g := fun e => by subst e; simp_all
    show _ = _
    simp [asRes, tru, this]
  have hnm : f.name = g.name := by
    refine hname ?_
    simp_all
  have hpa : f.params = g.params := by assumption
  have hre : f.ret = g.ret := by assumption
  have hrg : f.regs = g.regs := by assumption
  have hle : f.blocks.length = g.blocks.length := by omega
  refine Stop.mk (loop_in (g := []) (fun k : Nat => [(2, .hp 0 0), (3, .hp 1 0), (5, num k)]) (fun k => [(0, .var f.cs), (1, .var g.cs)]) 2 (fun k => k ≤ f.blocks.length ∧ f.blocks.take k = g.blocks.take k) (fun k => f.blocks.length - k) 0 ⟨by omega, rfl⟩ ⟨rfl, (by repeat' first | exact trivial | refine ⟨rfl, ?_⟩ | refine ⟨congrArg (fun n => AV.lit (.int .i64 n)) (by omega), ?_⟩ | refine ⟨congrArg (fun l => some (Row.row 1 l)) (by simp [int1, num, tru]), ?_⟩), (by repeat' first | exact trivial | refine ⟨rfl, ?_⟩ | refine ⟨congrArg (fun n => AV.lit (.int .i64 n)) (by omega), ?_⟩ | refine ⟨congrArg (fun l => some (Row.row 1 l)) (by simp [int1, num, tru]), ?_⟩)⟩ (fun k hk ih => ?_))
  obtain ⟨hk1, hk2⟩ := hk
  refine go 1000 Try.func40 ?_
  repeat' first | refine Len.map ?_ | refine Len.nil ?_ | refine Len.cons ?_ | refine Br.t rfl ?_ | refine Br.f rfl ?_ | refine Need.mk ⟨by first | omega | (simp; omega), by first | omega | (simp; done) | (simp; omega)⟩ ?_ | refine Pick.map (by assumption) ?_ | refine Pick.mapI (by omega) (by assumption) ?_ | refine PickN.mk _ (by assumption) ?_ | refine PickN.mk _ rfl ?_ | refine PickN.map (by first | assumption | (rw [Int.toNat_natCast]; assumption)) ?_ | refine App.mk rfl (by simp only [List.length_map, List.length_append, List.length_cons, List.length_nil]; omega) (by simp only [List.length_map, List.length_append, List.length_cons, List.length_nil]; omega) ?_ | refine App.mk (own_map (fun _ => rfl) _) (by simp only [List.length_map, List.length_append, List.length_cons, List.length_nil]; omega) (by simp only [List.length_map, List.length_append, List.length_cons, List.length_nil]; omega) ?_ | refine Both.mk ?_ ?_ | exact True.intro
  refine Br.d (fun h2 => ?_) (fun h2 => ?_)
  · obtain ⟨x, gx, gxm⟩ := getK (l := f.blocks) (k := k) (by omega)
    obtain ⟨y, gy, gym⟩ := getK (l := g.blocks) (k := k) (by omega)
    have hx := hf.2.2 x gxm
    have hy := hg.2.2 y gym
    repeat' first | refine Draw.mk (ordL [10] [0, 1, 2, 3, 4, 5, 6, 7, 8, 9, 10, 11]) (by decide +kernel) ?_ | refine Pick.map gx ?_ | refine Pick.map gy ?_ | refine Call.eq (SameBlock_spec x y (hb x gxm) (fun i hi => by have := hx.2 i hi; unfold Ins.fits at this; omega) (by omega)) rfl ?_ | refine Len.map ?_ | refine Len.nil ?_ | refine Len.cons ?_ | refine Br.t rfl ?_ | refine Br.f rfl ?_ | refine Need.mk ⟨by first | omega | (simp; omega), by first | omega | (simp; done) | (simp; omega)⟩ ?_ | refine Pick.map (by assumption) ?_ | refine Pick.mapI (by omega) (by assumption) ?_ | refine PickN.mk _ (by assumption) ?_ | refine PickN.mk _ rfl ?_ | refine PickN.map (by first | assumption | (rw [Int.toNat_natCast]; assumption)) ?_ | refine App.mk rfl (by simp only [List.length_map, List.length_append, List.length_cons, List.length_nil]; omega) (by simp only [List.length_map, List.length_append, List.length_cons, List.length_nil]; omega) ?_ | refine App.mk (own_map (fun _ => rfl) _) (by simp only [List.length_map, List.length_append, List.length_cons, List.length_nil]; omega) (by simp only [List.length_map, List.length_append, List.length_cons, List.length_nil]; omega) ?_ | refine Both.mk ?_ ?_ | exact True.intro
    refine Br.nd (fun h3 => ?_) (fun h3 => ?_)
    · repeat' first | refine Len.map ?_ | refine Len.nil ?_ | refine Len.cons ?_ | refine Br.t rfl ?_ | refine Br.f rfl ?_ | refine Need.mk ⟨by first | omega | (simp; omega), by first | omega | (simp; done) | (simp; omega)⟩ ?_ | refine Pick.map (by assumption) ?_ | refine Pick.mapI (by omega) (by assumption) ?_ | refine PickN.mk _ (by assumption) ?_ | refine PickN.mk _ rfl ?_ | refine PickN.map (by first | assumption | (rw [Int.toNat_natCast]; assumption)) ?_ | refine App.mk rfl (by simp only [List.length_map, List.length_append, List.length_cons, List.length_nil]; omega) (by simp only [List.length_map, List.length_append, List.length_cons, List.length_nil]; omega) ?_ | refine App.mk (own_map (fun _ => rfl) _) (by simp only [List.length_map, List.length_append, List.length_cons, List.length_nil]; omega) (by simp only [List.length_map, List.length_append, List.length_cons, List.length_nil]; omega) ?_ | refine Both.mk ?_ ?_ | exact True.intro
      have : f ≠ g := fun e => h3 (by subst e; rw [gx] at gy; exact Option.some.inj gy)
      show _ = _
      simp [asRes, tru, this]
    · repeat' first | refine Len.map ?_ | refine Len.nil ?_ | refine Len.cons ?_ | refine Br.t rfl ?_ | refine Br.f rfl ?_ | refine Need.mk ⟨by first | omega | (simp; omega), by first | omega | (simp; done) | (simp; omega)⟩ ?_ | refine Pick.map (by assumption) ?_ | refine Pick.mapI (by omega) (by assumption) ?_ | refine PickN.mk _ (by assumption) ?_ | refine PickN.mk _ rfl ?_ | refine PickN.map (by first | assumption | (rw [Int.toNat_natCast]; assumption)) ?_ | refine App.mk rfl (by simp only [List.length_map, List.length_append, List.length_cons, List.length_nil]; omega) (by simp only [List.length_map, List.length_append, List.length_cons, List.length_nil]; omega) ?_ | refine App.mk (own_map (fun _ => rfl) _) (by simp only [List.length_map, List.length_append, List.length_cons, List.length_nil]; omega) (by simp only [List.length_map, List.length_append, List.length_cons, List.length_nil]; omega) ?_ | refine Both.mk ?_ ?_ | exact True.intro
      refine Stop.mk (ih (k + 1) (g := []) _ _ _ ⟨by omega, ?_⟩ (by omega) ⟨rfl, (by repeat' first | exact trivial | refine ⟨rfl, ?_⟩ | refine ⟨congrArg (fun n => AV.lit (.int .i64 n)) (by omega), ?_⟩ | refine ⟨congrArg (fun l => some (Row.row 1 l)) (by simp [int1, num, tru]), ?_⟩), (by repeat' first | exact trivial | refine ⟨rfl, ?_⟩ | refine ⟨congrArg (fun n => AV.lit (.int .i64 n)) (by omega), ?_⟩ | refine ⟨congrArg (fun l => some (Row.row 1 l)) (by simp [int1, num, tru]), ?_⟩)⟩)
      rw [take_succ gx, take_succ gy, hk2, h3]
  · repeat' first | refine Len.map ?_ | refine Len.nil ?_ | refine Len.cons ?_ | refine Br.t rfl ?_ | refine Br.f rfl ?_ | refine Need.mk ⟨by first | omega | (simp; omega), by first | omega | (simp; done) | (simp; omega)⟩ ?_ | refine Pick.map (by assumption) ?_ | refine Pick.mapI (by omega) (by assumption) ?_ | refine PickN.mk _ (by assumption) ?_ | refine PickN.mk _ rfl ?_ | refine PickN.map (by first | assumption | (rw [Int.toNat_natCast]; assumption)) ?_ | refine App.mk rfl (by simp only [List.length_map, List.length_append, List.length_cons, List.length_nil]; omega) (by simp only [List.length_map, List.length_append, List.length_cons, List.length_nil]; omega) ?_ | refine App.mk (own_map (fun _ => rfl) _) (by simp only [List.length_map, List.length_append, List.length_cons, List.length_nil]; omega) (by simp only [List.length_map, List.length_append, List.length_cons, List.length_nil]; omega) ?_ | refine Both.mk ?_ ?_ | exact True.intro
    have e1 := take_all (l := f.blocks) (k := k) (by omega)
    have e2 := take_all (l := g.blocks) (k := k) (by omega)
    have hbl : f.blocks = g.blocks := by rw [← e1, ← e2, hk2]
    have : f = g := by cases f; cases g; simp_all
    show _ = _
    simp [asRes, tru, this]
end Go.Proofs.Ytnfkdilmoppbpaa

/- The document's tidy function, by a contract: its beginning. -/
namespace Go.Proofs.Ytnfkdilmoppbpaa
open Go.Ax
set_option maxRecDepth 10000
set_option linter.unusedVariables false

theorem fzn (l : List Int) : AV.fzLL (l.map int1) = l.map int1 := fzLL_map (enc2 := int1) (fun _ => rfl) l
def sndC3 : Code → Code
  | .seq _ b => b
  | c => c
noncomputable def c39 : Code := sndC3 (sndC3 (sndC3 Try.f39.body.get!))
noncomputable def a39 (f : Fun) (p : List (List Int)) (m : List Int) : St := ⟨[(1, .hp 0 0), (2, .hp 1 0), (3, ints m), (4, lsts p), (5, .hp 2 0)], [(0, .var f.cs), (1, .var zFun), (2, .var [.lit (.string f.name), num f.params, num f.ret, .osl 1 (f.regs.map int1), .lit (.slice none 0 0)])], 3, 136⟩
set_option maxHeartbeats 4000000 in
theorem Func39_pre (f : Fun) (hf : f.fits) (hn : f.blocks.length ≤ 100000) (hg : f.regs.length ≤ 1000000) {Q : AV → Prop} {P : List (List Int)} {M : List Int} (hpe : predsF (succsF f) = P) (hme : mapF f = M) (h : Run Try.prog 39 (Post.one Q) [.code c39] (a39 f P M)) : FnSpec Try.prog 39 [funA f] Q := by
  have hsp := Preds_spec f hf (by omega)
  have hsm := Map43_spec f hf (by omega)
  rw [hpe] at hsp; rw [hme] at hsm
  refine spec_of 7 Try.func39 rfl rfl ?_
  repeat' first | refine Draw.mk (ordL [1, 3] [0, 2, 1, 3, 4, 5]) (by decide +kernel) ?_ | refine Draw.mk (.one 0 false (.one 1 false (.one 2 false (.one 3 false (.one 4 false (.one 5 false (.one 6 false (.one 7 false (.alt 8 (ordL [10, 11] [9, 10, 11]) (.alt 10 (ordL [8, 11] [8, 9, 11]) .no)))))))))) (by decide +kernel) ?_ | refine Draw.mk (ordL [3, 6, 10, 13, 14, 15, 17] [0, 1, 2, 4, 7, 11, 3, 5, 6, 8, 9, 10, 12, 13, 14, 15, 16, 17]) (by decide +kernel) ?_ | refine Call.eq hsm rfl ?_ | refine Call.eq hsp rfl ?_ | refine Len.map ?_ | refine Len.nil ?_ | refine Len.cons ?_ | refine Br.t rfl ?_ | refine Br.f rfl ?_ | refine Need.mk ⟨by first | omega | (simp; omega), by first | omega | (simp; done) | (simp; omega)⟩ ?_ | refine Pick.map (by assumption) ?_ | refine Pick.mapI (by omega) (by assumption) ?_ | refine PickN.mk _ (by assumption) ?_ | refine PickN.mk _ rfl ?_ | refine PickN.map (by first | assumption | (rw [Int.toNat_natCast]; assumption)) ?_ | refine App.mk rfl (by simp only [List.length_map, List.length_append, List.length_cons, List.length_nil]; omega) (by simp only [List.length_map, List.length_append, List.length_cons, List.length_nil]; omega) ?_ | refine App.mk (own_map (fun _ => rfl) _) (by simp only [List.length_map, List.length_append, List.length_cons, List.length_nil]; omega) (by simp only [List.length_map, List.length_append, List.length_cons, List.length_nil]; omega) ?_ | refine Both.mk ?_ ?_ | exact True.intro
  refine Stop.mk (run_frzR 2 rfl (fzn _) ?_)
  refine run_frzR 3 rfl (fzLL_map fz_olsts _) ?_
  refine Run.fr (g := []) (tm' := [(1, .hp 0 0), (2, .hp 1 0), (3, ints M), (4, lsts P)]) (hp' := [(0, .var f.cs), (1, .var zFun)]) (nx' := 2) ?_ ⟨rfl, (by repeat' first | exact trivial | refine ⟨rfl, ?_⟩ | refine ⟨congrArg (fun n => AV.lit (.int .i64 n)) (by omega), ?_⟩ | refine ⟨congrArg (fun l => some (Row.row 1 l)) (by simp [int1, num, tru]), ?_⟩), (by repeat' first | exact trivial | refine ⟨rfl, ?_⟩ | refine ⟨congrArg (fun n => AV.lit (.int .i64 n)) (by omega), ?_⟩ | refine ⟨congrArg (fun l => some (Row.row 1 l)) (by simp [int1, num, tru]), ?_⟩)⟩
  apply join (fun _ : Unit => [(1, .hp 0 0), (2, .hp 1 0), (3, ints M), (4, lsts P), (5, .hp 2 0)]) (fun _ => [(0, .var f.cs), (1, .var zFun), (2, .var [.lit (.string f.name), num f.params, num f.ret, .osl 1 (f.regs.map int1), .lit (.slice none 0 0)])]) 3 (fun _ => True)
  · intro jn
    refine go 2 Try.func39 ?_
    repeat' first | refine Draw.mk (ordL [1, 3] [0, 2, 1, 3, 4, 5]) (by decide +kernel) ?_ | refine Draw.mk (.one 0 false (.one 1 false (.one 2 false (.one 3 false (.one 4 false (.one 5 false (.one 6 false (.one 7 false (.alt 8 (ordL [10, 11] [9, 10, 11]) (.alt 10 (ordL [8, 11] [8, 9, 11]) .no)))))))))) (by decide +kernel) ?_ | refine Draw.mk (ordL [3, 6, 10, 13, 14, 15, 17] [0, 1, 2, 4, 7, 11, 3, 5, 6, 8, 9, 10, 12, 13, 14, 15, 16, 17]) (by decide +kernel) ?_ | refine Call.eq (Ints_spec f.regs hg) rfl ?_ | refine Len.map ?_ | refine Len.nil ?_ | refine Len.cons ?_ | refine Br.t rfl ?_ | refine Br.f rfl ?_ | refine Need.mk ⟨by first | omega | (simp; omega), by first | omega | (simp; done) | (simp; omega)⟩ ?_ | refine Pick.map (by assumption) ?_ | refine Pick.mapI (by omega) (by assumption) ?_ | refine PickN.mk _ (by assumption) ?_ | refine PickN.mk _ rfl ?_ | refine PickN.map (by first | assumption | (rw [Int.toNat_natCast]; assumption)) ?_ | refine App.mk rfl (by simp only [List.length_map, List.length_append, List.length_cons, List.length_nil]; omega) (by simp only [List.length_map, List.length_append, List.length_cons, List.length_nil]; omega) ?_ | refine App.mk (own_map (fun _ => rfl) _) (by simp only [List.length_map, List.length_append, List.length_cons, List.length_nil]; omega) (by simp only [List.length_map, List.length_append, List.length_cons, List.length_nil]; omega) ?_ | refine Both.mk ?_ ?_ | exact True.intro
    all_goals (refine Stop.mk ?_; first | (refine jn () (g := [(2, 2)]) _ _ _ ⟨rfl, ?_, ?_⟩ trivial; all_goals (repeat' first | exact trivial | refine ⟨rfl, ?_⟩); done) | (refine jn () (g := [(2, 3)]) _ _ _ ⟨rfl, ?_, ?_⟩ trivial; all_goals (repeat' first | exact trivial | refine ⟨rfl, ?_⟩); done) | (refine jn () (g := [(2, 4)]) _ _ _ ⟨rfl, ?_, ?_⟩ trivial; all_goals (repeat' first | exact trivial | refine ⟨rfl, ?_⟩); done))
  intro _ _
  exact h
end Go.Proofs.Ytnfkdilmoppbpaa
