/- The document's rim, and what the law of rims looks at, by contracts. -/
import Derived.Test.YtbmiffgfmlkdnaaG12
import Derived.Test.YtbmiffgfmlkdnaaG10
import Derived.Test.YtbmiffgfmlkdnaaG11
set_option linter.unusedVariables false
set_option linter.unusedSimpArgs false

namespace Go.Proofs.Ytbmiffgfmlkdnaa
open Go.Ax
set_option maxRecDepth 10000
set_option linter.unusedVariables false

theorem Few65_spec (f : Fun) (hf : f.fits) (hl : f.blocks.length ≤ 1000 → f.count ≤ 100000000000000000) : FnSpec Try.prog 6 [funA f] (fun r => ∃ v, r = tru v ∧ (v = true → f.blocks.length ≤ 40 ∧ f.count ≤ 300)) := by
  have hf1 := hf.1
  refine spec_of 1000 Try.func6 rfl rfl ?_
  repeat' first | refine Len.map ?_ | refine Len.nil ?_ | refine Len.cons ?_ | refine Br.t rfl ?_ | refine Br.f rfl ?_ | refine Fit.au ?_ | refine Cv.au ?_ | refine Need.ne ?_ | refine Need.au ?_ | refine Pick.map (by assumption) ?_ | refine Pick.mapI (by omega) (by assumption) ?_ | refine PickN.mk _ (by assumption) ?_ | refine PickN.mk _ rfl ?_ | refine PickN.au ?_ | refine App.au rfl ?_ | refine App.au (own_map (fun _ => rfl) _) ?_ | refine Both.mk ?_ ?_ | exact True.intro
  refine Stop.mk (loop_in (g := []) (fun p : Nat × Int => [(1, .hp 0 0), (3, num p.2), (4, num p.1)]) (fun p => [(0, .var f.cs)]) 1 (fun p => p.1 ≤ f.blocks.length ∧ (f.blocks.length ≤ 40 → p.2 = (((f.blocks.map List.length).take p.1).sum : Nat))) (fun p => f.blocks.length - p.1) (0, 0) ⟨by simp only; omega, fun _ => rfl⟩ ⟨rfl, (by repeat' first | exact trivial | refine ⟨rfl, ?_⟩ | refine ⟨congrArg (fun n => AV.lit (.int .i64 n)) (by omega), ?_⟩ | refine ⟨congrArg (fun l => some (Row.row 1 l)) (by simp [int1, num, tru]), ?_⟩), (by repeat' first | exact trivial | refine ⟨rfl, ?_⟩ | refine ⟨congrArg (fun n => AV.lit (.int .i64 n)) (by omega), ?_⟩ | refine ⟨congrArg (fun l => some (Row.row 1 l)) (by simp [int1, num, tru]), ?_⟩)⟩ (fun p hp ih => ?_))
  obtain ⟨k, v⟩ := p
  obtain ⟨hk, hv⟩ := hp
  dsimp only at hk hv ih ⊢
  refine go 1000 Try.func6 ?_
  repeat' first | refine Len.map ?_ | refine Len.nil ?_ | refine Len.cons ?_ | refine Br.t rfl ?_ | refine Br.f rfl ?_ | refine Fit.au ?_ | refine Cv.au ?_ | refine Need.ne ?_ | refine Need.au ?_ | refine Pick.map (by assumption) ?_ | refine Pick.mapI (by omega) (by assumption) ?_ | refine PickN.mk _ (by assumption) ?_ | refine PickN.mk _ rfl ?_ | refine PickN.au ?_ | refine App.au rfl ?_ | refine App.au (own_map (fun _ => rfl) _) ?_ | refine Both.mk ?_ ?_ | exact True.intro
  refine Br.d (fun h2 => ?_) (fun h2 => ?_)
  · obtain ⟨b, gb, gbm⟩ := getK (l := f.blocks) (k := k) (by omega)
    have hsum := sum_take_succ (l := f.blocks.map List.length) (k := k) (n := b.length) (by rw [List.getElem?_map, gb]; rfl)
    have hle : ((f.blocks.map List.length).take (k + 1)).sum ≤ f.count := sum_take_le
    by_cases h40 : f.blocks.length ≤ 40
    · have hc := hl (by omega)
      have hv2 := hv h40
      repeat' first | refine Pick.map gb ?_ | refine Len.map ?_ | refine Len.nil ?_ | refine Len.cons ?_ | refine Br.t rfl ?_ | refine Br.f rfl ?_ | refine Fit.au ?_ | refine Cv.au ?_ | refine Need.ne ?_ | refine Need.au ?_ | refine Pick.map (by assumption) ?_ | refine Pick.mapI (by omega) (by assumption) ?_ | refine PickN.mk _ (by assumption) ?_ | refine PickN.mk _ rfl ?_ | refine PickN.au ?_ | refine App.au rfl ?_ | refine App.au (own_map (fun _ => rfl) _) ?_ | refine Both.mk ?_ ?_ | exact True.intro
      exact Stop.mk (ih (k + 1, v + b.length) (g := []) _ _ _ ⟨by simp only; omega, fun _ => by simp only; omega⟩ (by simp only; omega) ⟨rfl, (by repeat' first | exact trivial | refine ⟨rfl, ?_⟩ | refine ⟨congrArg (fun n => AV.lit (.int .i64 n)) (by omega), ?_⟩ | refine ⟨congrArg (fun l => some (Row.row 1 l)) (by simp [int1, num, tru]), ?_⟩), (by repeat' first | exact trivial | refine ⟨rfl, ?_⟩ | refine ⟨congrArg (fun n => AV.lit (.int .i64 n)) (by omega), ?_⟩ | refine ⟨congrArg (fun l => some (Row.row 1 l)) (by simp [int1, num, tru]), ?_⟩)⟩)
    · repeat' first | refine Pick.map gb ?_ | refine Len.map ?_ | refine Len.nil ?_ | refine Len.cons ?_ | refine Br.t rfl ?_ | refine Br.f rfl ?_ | refine Fit.au ?_ | refine Cv.au ?_ | refine Need.ne ?_ | refine Need.au ?_ | refine Pick.map (by assumption) ?_ | refine Pick.mapI (by omega) (by assumption) ?_ | refine PickN.mk _ (by assumption) ?_ | refine PickN.mk _ rfl ?_ | refine PickN.au ?_ | refine App.au rfl ?_ | refine App.au (own_map (fun _ => rfl) _) ?_ | refine Both.mk ?_ ?_ | exact True.intro
      refine Fit.wr ?_
      repeat' first | refine Len.map ?_ | refine Len.nil ?_ | refine Len.cons ?_ | refine Br.t rfl ?_ | refine Br.f rfl ?_ | refine Fit.au ?_ | refine Cv.au ?_ | refine Need.ne ?_ | refine Need.au ?_ | refine Pick.map (by assumption) ?_ | refine Pick.mapI (by omega) (by assumption) ?_ | refine PickN.mk _ (by assumption) ?_ | refine PickN.mk _ rfl ?_ | refine PickN.au ?_ | refine App.au rfl ?_ | refine App.au (own_map (fun _ => rfl) _) ?_ | refine Both.mk ?_ ?_ | exact True.intro
      exact Stop.mk (ih (k + 1, IntKind.i64.wrap (v + b.length)) (g := []) _ _ _ ⟨by simp only; omega, fun h => absurd h h40⟩ (by simp only; omega) ⟨rfl, (by repeat' first | exact trivial | refine ⟨rfl, ?_⟩ | refine ⟨congrArg (fun n => AV.lit (.int .i64 n)) (by omega), ?_⟩ | refine ⟨congrArg (fun l => some (Row.row 1 l)) (by simp [int1, num, tru]), ?_⟩), (by repeat' first | exact trivial | refine ⟨rfl, ?_⟩ | refine ⟨congrArg (fun n => AV.lit (.int .i64 n)) (by omega), ?_⟩ | refine ⟨congrArg (fun l => some (Row.row 1 l)) (by simp [int1, num, tru]), ?_⟩)⟩)
  · repeat' first | refine Len.map ?_ | refine Len.nil ?_ | refine Len.cons ?_ | refine Br.t rfl ?_ | refine Br.f rfl ?_ | refine Fit.au ?_ | refine Cv.au ?_ | refine Need.ne ?_ | refine Need.au ?_ | refine Pick.map (by assumption) ?_ | refine Pick.mapI (by omega) (by assumption) ?_ | refine PickN.mk _ (by assumption) ?_ | refine PickN.mk _ rfl ?_ | refine PickN.au ?_ | refine App.au rfl ?_ | refine App.au (own_map (fun _ => rfl) _) ?_ | refine Both.mk ?_ ?_ | exact True.intro
    refine Br.d (fun h3 => ?_) (fun h3 => ?_)
    · have h40 : f.blocks.length ≤ 40 := by omega
      have hv2 := hv h40
      rw [take_all (by rw [List.length_map]; omega)] at hv2
      repeat' first | refine Len.map ?_ | refine Len.nil ?_ | refine Len.cons ?_ | refine Br.t rfl ?_ | refine Br.f rfl ?_ | refine Fit.au ?_ | refine Cv.au ?_ | refine Need.ne ?_ | refine Need.au ?_ | refine Pick.map (by assumption) ?_ | refine Pick.mapI (by omega) (by assumption) ?_ | refine PickN.mk _ (by assumption) ?_ | refine PickN.mk _ rfl ?_ | refine PickN.au ?_ | refine App.au rfl ?_ | refine App.au (own_map (fun _ => rfl) _) ?_ | refine Both.mk ?_ ?_ | exact True.intro
      refine ⟨_, rfl, fun h => ⟨h40, ?_⟩⟩
      have : v ≤ 300 := by simpa using h
      have hc : v = (f.count : Nat) := hv2
      omega
    · repeat' first | refine Len.map ?_ | refine Len.nil ?_ | refine Len.cons ?_ | refine Br.t rfl ?_ | refine Br.f rfl ?_ | refine Fit.au ?_ | refine Cv.au ?_ | refine Need.ne ?_ | refine Need.au ?_ | refine Pick.map (by assumption) ?_ | refine Pick.mapI (by omega) (by assumption) ?_ | refine PickN.mk _ (by assumption) ?_ | refine PickN.mk _ rfl ?_ | refine PickN.au ?_ | refine App.au rfl ?_ | refine App.au (own_map (fun _ => rfl) _) ?_ | refine Both.mk ?_ ?_ | exact True.intro
      exact ⟨false, rfl, fun h => by cases h⟩
end Go.Proofs.Ytbmiffgfmlkdnaa

/- Two loops: what they have in common. No program is in sight here. -/
namespace Go.Proofs.Ytbmiffgfmlkdnaa
open Go.Ax
section
variable {s : List (List Int)}
theorem blkF_mem {h : Nat} {x : Int} : x ∈ blkF s h ↔ 0 ≤ x ∧ x < s.length ∧ Rc s x.toNat ∧ InL s h x.toNat := filtN_mem
theorem blkF_nat (hs : Closed s) {h k : Nat} (hh : Rc s h) : (k : Int) ∈ blkF s h ↔ InL s h k := by
  rw [blkF_mem, Int.toNat_natCast]
  constructor
  · exact fun h => h.2.2.2
  · intro hI
    have hr := (hI.dom hh).2.1
    have := Rc_lt hs hr
    exact ⟨by omega, by omega, hr, hI⟩
theorem blkF_lt (h : Nat) : (blkF s h).Pairwise (· < ·) := filtN_lt _ _
theorem blkF_len (h : Nat) : (blkF s h).length ≤ s.length := filtN_len _ _
noncomputable def comm (s : List (List Int)) (h1 h2 : Nat) : Nat := ((blkF s h1).filter fun z => decide (z ∈ blkF s h2)).length
theorem comm_pos {h1 h2 : Nat} {z : Int} (hz : z ∈ blkF s h1) (hz2 : z ∈ blkF s h2) : comm s h1 h2 ≠ 0 := by
  unfold comm
  intro h
  have := List.eq_nil_of_length_eq_zero h
  have hm : z ∈ (blkF s h1).filter fun z => decide (z ∈ blkF s h2) := List.mem_filter.2 ⟨hz, by simpa using hz2⟩
  rw [this] at hm; cases hm
theorem nest_none (hs : Closed s) {h1 h2 : Nat} (r1 : Rc s h1) (r2 : Rc s h2) (hc : comm s h1 h2 = 0) : (h1 : Int) ∉ blkF s h2 ∧ (h2 : Int) ∉ blkF s h1 :=
  ⟨fun h => comm_pos ((blkF_nat hs r1).2 .head) h hc, fun h => comm_pos h ((blkF_nat hs r2).2 .head) hc⟩
theorem nest_some (hs : Closed s) {h1 h2 : Nat} (r1 : Rc s h1) (r2 : Rc s h2) (hne : h1 ≠ h2) (hc : comm s h1 h2 ≠ 0) :
    ((h1 : Int) ∈ blkF s h2 ∧ (h2 : Int) ∉ blkF s h1 ∧ comm s h1 h2 = (blkF s h1).length) ∨ ((h1 : Int) ∉ blkF s h2 ∧ (h2 : Int) ∈ blkF s h1 ∧ comm s h1 h2 = (blkF s h2).length) := by
  obtain ⟨z, hz⟩ : ∃ z, z ∈ (blkF s h1).filter fun z => decide (z ∈ blkF s h2) := List.exists_mem_of_ne_nil _ fun h => hc (by unfold comm; rw [h]; rfl)
  obtain ⟨hz1, hz2⟩ := List.mem_filter.1 hz
  have hz2 : z ∈ blkF s h2 := by simpa using hz2
  have k1 := blkF_mem.1 hz1
  have k2 := blkF_mem.1 hz2
  rw [blkF_nat hs r1, blkF_nat hs r2]
  rcases InL.meet hs r1 r2 hne k1.2.2.2 k2.2.2.2 with h | h
  · right
    refine ⟨fun h3 => InL.not_both r1 r2 hne h h3, h, ?_⟩
    unfold comm
    congr 1
    refine sorted_ext ((blkF_lt h1).filter _) (blkF_lt h2) fun x => ?_
    rw [List.mem_filter, decide_eq_true_iff]
    refine ⟨fun h => h.2, fun hx => ⟨?_, hx⟩⟩
    obtain ⟨g1, g2, g3, g4⟩ := blkF_mem.1 hx
    exact blkF_mem.2 ⟨g1, g2, g3, InL.sub r2 r1 (Ne.symm hne) h g4⟩
  · left
    refine ⟨h, fun h3 => InL.not_both r1 r2 hne h3 h, ?_⟩
    unfold comm
    congr 1
    refine List.filter_eq_self.2 fun x hx => ?_
    rw [decide_eq_true_iff]
    obtain ⟨g1, g2, g3, g4⟩ := blkF_mem.1 hx
    exact blkF_mem.2 ⟨g1, g2, g3, InL.sub r1 r2 hne h g4⟩
end
end Go.Proofs.Ytbmiffgfmlkdnaa
