/- Goals of reached blocks are reached; instructions moved. No program is in sight here. -/
import Derived.Test.YtnfkdilmoppbpaaPG10
import Derived.Test.YtnfkdilmoppbpaaPG09
import Derived.Test.YtnfkdilmoppbpaaPG08
set_option linter.unusedVariables false
set_option linter.unusedSimpArgs false

namespace Go.Proofs.Ytnfkdilmoppbpaa
open Go.Ax
theorem targets_r {i : Ins} (h : right15 i = true) : targetsF i = if i.op = 41 then [i.n] else if i.op = 42 then [i.n, i.m] else [] := by
  unfold targetsF; simp [h]
section
variable {p : Pro} {f : Fun} (h : funP p f)
include h
theorem goal_live {k j : Nat} {b : List Ins} {i : Ins} (gb : f.blocks[k]? = some b) (gi : b[j]? = some i) (hk : (live f)[k]? = some true) {t : Int} (ht : t ∈ targetsF i) : 0 ≤ t ∧ (live f)[t.toNat]? = some true := by
  have h1 := (h.2 k b gb).2 j i gi
  have hr := h1.1.1
  have htp := targetsF_pos i t ht
  have hlt := (h1.2.1.2.2.1 t ht).2
  have he : endsF i.op = true := by
    rw [targets_r hr] at ht
    unfold endsF
    split at ht
    · simp; omega
    · split at ht
      · simp; omega
      · simp at ht
  have hj := h1.1.2.1.1 he
  have hs : (succsF f)[k]? = some (succ1 f.blocks.length b) := by unfold succsF; rw [List.getElem?_map, gb]; rfl
  have hm : t ∈ succ1 f.blocks.length b := by
    unfold succ1
    rw [show b.length - 1 = j by omega, gi]
    exact List.mem_filter.2 ⟨ht, decide_eq_true hlt⟩
  refine ⟨htp, marksF_at.2 ⟨by rw [succsF_len]; omega, ?_⟩⟩
  rw [show ((t.toNat : Nat) : Int) = t by omega]
  exact .step (marksF_at.1 hk).2 hs hm (by omega)
theorem map_goal {k j : Nat} {b : List Ins} {i : Ins} (gb : f.blocks[k]? = some b) (gi : b[j]? = some i) (hk : (live f)[k]? = some true) {t : Int} (ht : t ∈ targetsF i) : (mapF f).getD t.toNat 0 = (rank (live f) t.toNat : Int) := by
  rw [List.getD_eq_getElem?_getD, map_live (goal_live h gb gi hk ht).2]; rfl
/-- What is left of an instruction. -/
theorem moved_cases {k j : Nat} {b : List Ins} {i : Ins} (gb : f.blocks[k]? = some b) (gi : b[j]? = some i) (hk : (live f)[k]? = some true) (q : List Int) :
    (i.op = 41 ∧ movedF i q (mapF f) = { i with n := (rank (live f) i.n.toNat : Int) }) ∨
    (i.op = 42 ∧ movedF i q (mapF f) = { i with n := (rank (live f) i.n.toNat : Int), m := (rank (live f) i.m.toNat : Int) }) ∨
    (i.op = 44 ∧ movedF i q (mapF f) = { i with args := keptA (mapF f) q i.args }) ∨
    (i.op ≠ 41 ∧ i.op ≠ 42 ∧ i.op ≠ 44 ∧ movedF i q (mapF f) = i) := by
  have hr := ((h.2 k b gb).2 j i gi).1.1
  have htg := targets_r hr
  have hg := fun t ht => map_goal h gb gi hk (t := t) ht
  unfold movedF movedN movedM
  by_cases h41 : i.op = 41
  · left
    rw [if_pos h41] at htg
    rw [htg, if_neg (by omega)]
    dsimp only
    rw [hg i.n (by rw [htg]; simp)]
    exact ⟨h41, rfl⟩
  by_cases h42 : i.op = 42
  · right; left
    rw [if_neg h41, if_pos h42] at htg
    rw [htg, if_neg (by omega)]
    dsimp only
    rw [hg i.n (by rw [htg]; simp), hg i.m (by rw [htg]; simp)]
    exact ⟨h42, rfl⟩
  rw [if_neg h41, if_neg h42] at htg
  rw [htg]
  by_cases h44 : i.op = 44
  · right; right; left
    rw [if_pos h44]
    exact ⟨h44, rfl⟩
  · right; right; right
    rw [if_neg h44]
    exact ⟨h41, h42, h44, rfl⟩
end
theorem keptA_mem {m q args : List Int} {x : Int} (h : x ∈ keptA m q args) : x ∈ args := by
  unfold keptA at h
  obtain ⟨⟨a, b⟩, h1, rfl⟩ := List.mem_map.1 h
  exact (List.of_mem_zip (List.mem_filter.1 h1).1).2
theorem right_jump {i : Ins} (h : right15 i = true) (e : i.op = 41) (n : Nat) : right15 { i with n := (n : Int) } = true := by
  obtain ⟨op, dst, a, b, c, n0, m, site, args⟩ := i
  dsimp only at e
  subst e
  unfold right15 fitsF tailF tailA bF at *
  simp_all
theorem right_branch {i : Ins} (h : right15 i = true) (e : i.op = 42) (n m : Nat) (hnm : n ≠ m) : right15 { i with n := (n : Int), m := (m : Int) } = true := by
  obtain ⟨op, dst, a, b, c, n0, m0, site, args⟩ := i
  dsimp only at e
  subst e
  unfold right15 fitsF tailF tailA bF at *
  simp_all
  omega
theorem right_phi {i : Ins} (h : right15 i = true) (e : i.op = 44) (args : List Int) (ha : ∀ x ∈ args, x ∈ i.args) (hl : 1 ≤ args.length) : right15 { i with args := args } = true := by
  obtain ⟨op, dst, a, b, c, n0, m0, site, args0⟩ := i
  dsimp only at e ha
  subst e
  unfold right15 fitsF tailF tailA bF at *
  simp_all
end Go.Proofs.Ytnfkdilmoppbpaa

/- Where the blocks of a tidy function go: all are reached. No program is in sight here. -/
namespace Go.Proofs.Ytnfkdilmoppbpaa
open Go.Ax
section
variable {p : Pro} {f : Fun} (h : funP p f)
include h
theorem right_moved {k j : Nat} {b : List Ins} {i : Ins} (gb : f.blocks[k]? = some b) (gi : b[j]? = some i) (hk : (live f)[k]? = some true) (q : List Int) (h44 : i.op ≠ 44) : right15 (movedF i q (mapF f)) = true := by
  have hr := ((h.2 k b gb).2 j i gi).1.1
  have hg := fun t ht => goal_live h gb gi hk (t := t) ht
  have htg := targets_r hr
  rcases moved_cases h gb gi hk q with ⟨e, em⟩ | ⟨e, em⟩ | ⟨e, em⟩ | ⟨e1, e2, e3, em⟩
  · rw [em]; exact right_jump hr e _
  · rw [em]
    rw [if_neg (by omega), if_pos e] at htg
    have h1 := hg i.n (by rw [htg]; simp)
    have h2 := hg i.m (by rw [htg]; simp)
    refine right_branch hr e _ _ fun hh => ?_
    have h3 := rank_inj h1.2 h2.2 hh
    have h4 : i.m ≠ i.n := by
      unfold right15 tailF tailA at hr
      simp [e] at hr
      omega
    omega
  · exact absurd e h44
  · rw [em]; exact hr
theorem targets_moved {k j : Nat} {b : List Ins} {i : Ins} (gb : f.blocks[k]? = some b) (gi : b[j]? = some i) (hk : (live f)[k]? = some true) (q : List Int) : targetsF (movedF i q (mapF f)) = (targetsF i).map fun t => (rank (live f) t.toNat : Int) := by
  have hr := ((h.2 k b gb).2 j i gi).1.1
  by_cases h44 : i.op = 44
  · rw [show targetsF i = [] by unfold targetsF; simp [h44]]
    unfold targetsF movedF
    simp [h44]
  have hr2 := right_moved h gb gi hk q h44
  have h1 := targets_r hr2
  rw [h1, targets_r hr]
  rcases moved_cases h gb gi hk q with ⟨e, em⟩ | ⟨e, em⟩ | ⟨e, em⟩ | ⟨e1, e2, e3, em⟩
  · rw [em]; simp [e]
  · rw [em]; simp [e]
  · exact absurd e h44
  · rw [em]; simp [e1, e2]
omit h in
theorem tblk_at {k j : Nat} {b : List Ins} {i : Ins} (gb : f.blocks[k]? = some b) (gi : b[j]? = some i) : (tblk f k)[j]? = some (movedF i ((predsF (succsF f)).getD k []) (mapF f)) := by
  unfold tblk
  rw [List.getD_eq_getElem?_getD (l := f.blocks), gb, List.getElem?_map]
  show (b[j]?).map _ = _
  rw [gi]; rfl
omit h in
theorem tblk_len {k : Nat} {b : List Ins} (gb : f.blocks[k]? = some b) : (tblk f k).length = b.length := by
  unfold tblk
  rw [List.getD_eq_getElem?_getD (l := f.blocks), gb, List.length_map]; rfl
omit h in
theorem rank_bound {k : Nat} (hk : (live f)[k]? = some true) : rank (live f) k < (tidyF f).blocks.length := by
  rw [tidyF_len]
  have h1 := (List.getElem?_eq_some_iff.1 hk).1
  rw [live_len] at h1
  exact rank_lt hk h1
theorem succs_old {k : Nat} {b : List Ins} {i : Ins} (gb : f.blocks[k]? = some b) (gi : b[b.length - 1]? = some i) : (succsF f)[k]? = some (targetsF i) := by
  unfold succsF
  rw [List.getElem?_map, gb]
  show some (succ1 _ b) = _
  unfold succ1
  rw [gi]
  congr 1
  exact List.filter_eq_self.2 fun t ht => decide_eq_true (((h.2 k b gb).2 _ i gi).2.1.2.2.1 t ht).2
theorem succs_new {k : Nat} {b : List Ins} {i : Ins} (gb : f.blocks[k]? = some b) (gi : b[b.length - 1]? = some i) (hk : (live f)[k]? = some true) : (succsF (tidyF f))[rank (live f) k]? = some ((targetsF i).map fun t => (rank (live f) t.toNat : Int)) := by
  unfold succsF
  rw [List.getElem?_map, tidyF_at hk]
  show some (succ1 _ (tblk f k)) = _
  unfold succ1
  rw [tblk_len gb, tblk_at gb gi]
  congr 1
  show below (tidyF f).blocks.length (targetsF (movedF i _ (mapF f))) = _
  rw [targets_moved h gb gi hk]
  refine List.filter_eq_self.2 fun t ht => decide_eq_true ?_
  obtain ⟨u, hu, rfl⟩ := List.mem_map.1 ht
  have := rank_bound (goal_live h gb gi hk hu).2
  omega
theorem reach_new {t : Int} (ht : Reaches (succsF f) (-1) t) : Reaches (succsF (tidyF f)) (-1) (rank (live f) t.toNat : Int) := by
  induction ht with
  | zero h1 h2 =>
    have h3 : (live f)[0]? = some true := marksF_at.2 ⟨List.length_pos_iff.2 h1, .zero h1 h2⟩
    have h4 := rank_bound h3
    refine .zero (fun e => ?_) (by decide)
    have := succsF_len (tidyF f)
    rw [e] at this
    simp at this
    omega
  | @step k t l hp hl ht hx ih =>
    have hkl := (List.getElem?_eq_some_iff.1 hl).1
    have hk : (live f)[k]? = some true := marksF_at.2 ⟨hkl, hp⟩
    rw [succsF_len] at hkl
    obtain ⟨b, gb, -⟩ := getK (l := f.blocks) (k := k) hkl
    have hb := (h.2 k b gb).1
    obtain ⟨i, gi, -⟩ := getK (l := b) (k := b.length - 1) (by omega)
    rw [succs_old h gb gi] at hl
    cases hl
    rw [Int.toNat_natCast] at ih
    exact .step ih (succs_new h gb gi hk) (List.mem_map.2 ⟨t, ht, rfl⟩) (by omega)
theorem live_new {n : Nat} (hn : n < (tidyF f).blocks.length) : (live (tidyF f))[n]? = some true := by
  rw [tidyF_len] at hn
  obtain ⟨j, h1, h2, h3⟩ := rank_onto (live f) f.blocks.length (by rw [live_len]; omega) n hn
  have h4 := reach_new h (marksF_at.1 h2).2
  rw [Int.toNat_natCast, h3] at h4
  refine marksF_at.2 ⟨by rw [succsF_len, tidyF_len]; exact hn, h4⟩
theorem live_all : live (tidyF f) = List.replicate (tidyF f).blocks.length true := by
  refine List.ext_getElem? fun n => ?_
  by_cases hn : n < (tidyF f).blocks.length
  · rw [live_new h hn, List.getElem?_replicate, if_pos hn]
  · rw [List.getElem?_eq_none (by rw [live_len]; omega), List.getElem?_eq_none (by simp; omega)]
theorem map_new {n : Nat} (hn : n < (tidyF f).blocks.length) : (mapF (tidyF f))[n]? = some (n : Int) := by
  rw [map_live (live_new h hn), live_all h]
  unfold rank
  rw [List.take_replicate, List.count_replicate]
  simp; omega
end
end Go.Proofs.Ytnfkdilmoppbpaa

/- The document's sure.Check, by a contract. -/
namespace Go.Proofs.Ytnfkdilmoppbpaa
open Go.Ax
set_option maxRecDepth 10000
set_option linter.unusedVariables false

def blkP (f : Fun) (k : Nat) (b : List Ins) : Prop := (live f)[k]? = some true ∧ ∀ (j : Nat) (i : Ins), b[j]? = some i → readsP f k j i
/-- All that is read is surely written, and all blocks are reached. -/
def surelyP (p : Pro) : Prop := ∀ f ∈ p.funcs, ∀ (k : Nat) (b : List Ins), f.blocks[k]? = some b → blkP f k b
theorem at_take {α : Type} {P : Nat → α → Prop} {l : List α} {k : Nat} {x : α} (g : l[k]? = some x) (h : ∀ j y, j < k → l[j]? = some y → P j y) (hx : P k x) : ∀ j y, j < k + 1 → l[j]? = some y → P j y := by
  intro j y hj gy
  by_cases e : j = k
  · subst e; rw [g] at gy; cases gy; exact hx
  · exact h j y (by omega) gy

set_option maxHeartbeats 2000000 in
theorem Sure56_spec (p : Pro) (hs : p.slim) (ho : p.okT) (h44 : ∀ f ∈ p.funcs, ∀ b ∈ f.blocks, ∀ i ∈ b, i.op ≠ 44) : FnSpec Try.prog 56 [proA p] (fun r => ∃ w : Wrong, r = .agg w.cs ∧ (w.err = 0 ↔ proP p ∧ surelyP p)) := by
  have ho1 := ho.1
  refine spec_of 1000 Try.func56 rfl rfl ?_
  repeat' first | refine Call.eq (Check16_spec p hs) rfl ?_ | refine Len.map ?_ | refine Len.nil ?_ | refine Len.cons ?_ | refine Br.t rfl ?_ | refine Br.f rfl ?_ | refine Fit.au ?_ | refine Need.au ?_ | refine Pick.map (by assumption) ?_ | refine Pick.mapI (by omega) (by assumption) ?_ | refine PickN.mk _ (by assumption) ?_ | refine PickN.mk _ rfl ?_ | refine PickN.au ?_ | refine App.au rfl ?_ | refine App.au (own_map (fun _ => rfl) _) ?_ | refine Both.mk ?_ ?_ | exact True.intro
  refine Br.nd (fun h => ?_) (fun h => ?_)
  · repeat' first | refine Len.map ?_ | refine Len.nil ?_ | refine Len.cons ?_ | refine Br.t rfl ?_ | refine Br.f rfl ?_ | refine Fit.au ?_ | refine Need.au ?_ | refine Pick.map (by assumption) ?_ | refine Pick.mapI (by omega) (by assumption) ?_ | refine PickN.mk _ (by assumption) ?_ | refine PickN.mk _ rfl ?_ | refine PickN.au ?_ | refine App.au rfl ?_ | refine App.au (own_map (fun _ => rfl) _) ?_ | refine Both.mk ?_ ?_ | exact True.intro
    exact ⟨checkE p, rfl, fun h2 => absurd h2 h, fun h2 => absurd (checkE_zero.2 h2.1) h⟩
  have hpro : proP p := checkE_zero.1 h
  repeat' first | refine Len.map ?_ | refine Len.nil ?_ | refine Len.cons ?_ | refine Br.t rfl ?_ | refine Br.f rfl ?_ | refine Fit.au ?_ | refine Need.au ?_ | refine Pick.map (by assumption) ?_ | refine Pick.mapI (by omega) (by assumption) ?_ | refine PickN.mk _ (by assumption) ?_ | refine PickN.mk _ rfl ?_ | refine PickN.au ?_ | refine App.au rfl ?_ | refine App.au (own_map (fun _ => rfl) _) ?_ | refine Both.mk ?_ ?_ | exact True.intro
  refine Stop.mk (loop_in (g := []) (fun k : Nat => [(1, .hp 0 0), (2, .hp 1 0), (4, num k)]) (fun k => [(0, .var p.cs), (1, .var [num 0, num 0, num 0, num 0])]) 2 (fun k => k ≤ p.funcs.length ∧ ∀ (n : Nat) (f : Fun), n < k → p.funcs[n]? = some f → ∀ (k : Nat) (b : List Ins), f.blocks[k]? = some b → blkP f k b) (fun k => p.funcs.length - k) 0 ⟨by omega, fun n f hn => by omega⟩ ⟨rfl, (by repeat' first | exact trivial | refine ⟨rfl, ?_⟩ | refine ⟨congrArg (fun n => AV.lit (.int .i64 n)) (by omega), ?_⟩ | refine ⟨congrArg (fun l => some (Row.row 1 l)) (by simp [int1, num, tru]), ?_⟩), (by repeat' first | exact trivial | refine ⟨rfl, ?_⟩ | refine ⟨congrArg (fun n => AV.lit (.int .i64 n)) (by omega), ?_⟩ | refine ⟨congrArg (fun l => some (Row.row 1 l)) (by simp [int1, num, tru]), ?_⟩)⟩ (fun k hk ih => ?_))
  obtain ⟨hk, hall⟩ := hk
  refine go 1000 Try.func56 ?_
  repeat' first | refine Len.map ?_ | refine Len.nil ?_ | refine Len.cons ?_ | refine Br.t rfl ?_ | refine Br.f rfl ?_ | refine Fit.au ?_ | refine Need.au ?_ | refine Pick.map (by assumption) ?_ | refine Pick.mapI (by omega) (by assumption) ?_ | refine PickN.mk _ (by assumption) ?_ | refine PickN.mk _ rfl ?_ | refine PickN.au ?_ | refine App.au rfl ?_ | refine App.au (own_map (fun _ => rfl) _) ?_ | refine Both.mk ?_ ?_ | exact True.intro
  refine Br.d (fun h2 => ?_) (fun h2 => ?_)
  · obtain ⟨f, gf, gm⟩ := getK (l := p.funcs) (k := k) (by omega)
    obtain ⟨hf, hbl, hrl, hbb⟩ := ho.2.2 f gm
    repeat' first | refine Pick.map gf ?_ | refine Len.map ?_ | refine Len.nil ?_ | refine Len.cons ?_ | refine Br.t rfl ?_ | refine Br.f rfl ?_ | refine Fit.au ?_ | refine Need.au ?_ | refine Pick.map (by assumption) ?_ | refine Pick.mapI (by omega) (by assumption) ?_ | refine PickN.mk _ (by assumption) ?_ | refine PickN.mk _ rfl ?_ | refine PickN.au ?_ | refine App.au rfl ?_ | refine App.au (own_map (fun _ => rfl) _) ?_ | refine Both.mk ?_ ?_ | exact True.intro
    refine Call.of (Reach_spec f hf (by omega)) ?_
    rintro r ⟨l, rfl, hm⟩
    refine ⟨rfl, ?_⟩
    have hle : l = live f := hm.eq
    have hll : l.length = f.blocks.length := by rw [hle, live_len]
    clear hm
    repeat' first | refine Len.map ?_ | refine Len.nil ?_ | refine Len.cons ?_ | refine Br.t rfl ?_ | refine Br.f rfl ?_ | refine Fit.au ?_ | refine Need.au ?_ | refine Pick.map (by assumption) ?_ | refine Pick.mapI (by omega) (by assumption) ?_ | refine PickN.mk _ (by assumption) ?_ | refine PickN.mk _ rfl ?_ | refine PickN.au ?_ | refine App.au rfl ?_ | refine App.au (own_map (fun _ => rfl) _) ?_ | refine Both.mk ?_ ?_ | exact True.intro
    refine Stop.mk (loop_in (g := [(2, 2), (3, 3)]) (fun j : Nat => [(1, .hp 0 0), (2, .hp 1 0), (4, num k), (5, .hp 2 0), (6, .hw 3), (7, num j)]) (fun j => [(0, .var p.cs), (1, .var [num 0, num 0, num 0, num 0]), (2, .var f.cs), (3, .row 1 (l.map tb))]) 4 (fun j => j ≤ f.blocks.length ∧ ∀ (k : Nat) (b : List Ins), k < j → f.blocks[k]? = some b → blkP f k b) (fun j => f.blocks.length - j) 0 ⟨by omega, fun n f hn => by omega⟩ ⟨rfl, (by repeat' first | exact trivial | refine ⟨rfl, ?_⟩ | refine ⟨congrArg (fun n => AV.lit (.int .i64 n)) (by omega), ?_⟩ | refine ⟨congrArg (fun l => some (Row.row 1 l)) (by simp [int1, num, tru]), ?_⟩), (by repeat' first | exact trivial | refine ⟨rfl, ?_⟩ | refine ⟨congrArg (fun n => AV.lit (.int .i64 n)) (by omega), ?_⟩ | refine ⟨congrArg (fun l => some (Row.row 1 l)) (by simp [int1, num, tru]), ?_⟩)⟩ (fun j hj ih2 => ?_))
    obtain ⟨hj, hallb⟩ := hj
    refine go 1000 Try.func56 ?_
    repeat' first | refine Len.map ?_ | refine Len.nil ?_ | refine Len.cons ?_ | refine Br.t rfl ?_ | refine Br.f rfl ?_ | refine Fit.au ?_ | refine Need.au ?_ | refine Pick.map (by assumption) ?_ | refine Pick.mapI (by omega) (by assumption) ?_ | refine PickN.mk _ (by assumption) ?_ | refine PickN.mk _ rfl ?_ | refine PickN.au ?_ | refine App.au rfl ?_ | refine App.au (own_map (fun _ => rfl) _) ?_ | refine Both.mk ?_ ?_ | exact True.intro
    refine Br.d (fun h3 => ?_) (fun h3 => ?_)
    · obtain ⟨b, gb, gbm⟩ := getK (l := f.blocks) (k := j) (by omega)
      obtain ⟨v, gv, -⟩ := getK (l := l) (k := j) (by omega)
      have hbl2 := (hbb b gbm).1
      repeat' first | refine Pick.map gv ?_ | refine Len.map ?_ | refine Len.nil ?_ | refine Len.cons ?_ | refine Br.t rfl ?_ | refine Br.f rfl ?_ | refine Fit.au ?_ | refine Need.au ?_ | refine Pick.map (by assumption) ?_ | refine Pick.mapI (by omega) (by assumption) ?_ | refine PickN.mk _ (by assumption) ?_ | refine PickN.mk _ rfl ?_ | refine PickN.au ?_ | refine App.au rfl ?_ | refine App.au (own_map (fun _ => rfl) _) ?_ | refine Both.mk ?_ ?_ | exact True.intro
      refine Br.mk (fun h4 => ?_) (fun h4 => ?_)
      · repeat' first | refine Len.map ?_ | refine Len.nil ?_ | refine Len.cons ?_ | refine Br.t rfl ?_ | refine Br.f rfl ?_ | refine Fit.au ?_ | refine Need.au ?_ | refine Pick.map (by assumption) ?_ | refine Pick.mapI (by omega) (by assumption) ?_ | refine PickN.mk _ (by assumption) ?_ | refine PickN.mk _ rfl ?_ | refine PickN.au ?_ | refine App.au rfl ?_ | refine App.au (own_map (fun _ => rfl) _) ?_ | refine Both.mk ?_ ?_ | exact True.intro
        refine ⟨⟨k, j, -1, 5⟩, rfl, (fun h5 => absurd h5 (by show ¬ (5 : Int) = 0; decide)), (fun h5 => ?_)⟩
        have := (h5.2 f gm j b gb).1
        rw [← hle, gv] at this
        simp_all
      · have hv : (live f)[j]? = some true := by rw [← hle, gv]; simpa using h4
        repeat' first | refine Len.map ?_ | refine Len.nil ?_ | refine Len.cons ?_ | refine Br.t rfl ?_ | refine Br.f rfl ?_ | refine Fit.au ?_ | refine Need.au ?_ | refine Pick.map (by assumption) ?_ | refine Pick.mapI (by omega) (by assumption) ?_ | refine PickN.mk _ (by assumption) ?_ | refine PickN.mk _ rfl ?_ | refine PickN.au ?_ | refine App.au rfl ?_ | refine App.au (own_map (fun _ => rfl) _) ?_ | refine Both.mk ?_ ?_ | exact True.intro
        refine Stop.mk (loop_in (g := []) (fun e : Nat => [(1, .hp 0 0), (2, .hp 1 0), (4, num k), (5, .hp 2 0), (6, .hw 3), (7, num j), (8, num e)]) (fun e => [(0, .var p.cs), (1, .var [num 0, num 0, num 0, num 0]), (2, .var f.cs), (3, .row 1 (l.map tb))]) 4 (fun e => e ≤ b.length ∧ ∀ (n : Nat) (i : Ins), n < e → b[n]? = some i → readsP f j n i) (fun e => b.length - e) 0 ⟨by omega, fun n f hn => by omega⟩ ⟨rfl, (by repeat' first | exact trivial | refine ⟨rfl, ?_⟩ | refine ⟨congrArg (fun n => AV.lit (.int .i64 n)) (by omega), ?_⟩ | refine ⟨congrArg (fun l => some (Row.row 1 l)) (by simp [int1, num, tru]), ?_⟩), (by repeat' first | exact trivial | refine ⟨rfl, ?_⟩ | refine ⟨congrArg (fun n => AV.lit (.int .i64 n)) (by omega), ?_⟩ | refine ⟨congrArg (fun l => some (Row.row 1 l)) (by simp [int1, num, tru]), ?_⟩)⟩ (fun e he ih3 => ?_))
        obtain ⟨he, halli⟩ := he
        refine go 1000 Try.func56 ?_
        repeat' first | refine Pick.map gb ?_ | refine Len.map ?_ | refine Len.nil ?_ | refine Len.cons ?_ | refine Br.t rfl ?_ | refine Br.f rfl ?_ | refine Fit.au ?_ | refine Need.au ?_ | refine Pick.map (by assumption) ?_ | refine Pick.mapI (by omega) (by assumption) ?_ | refine PickN.mk _ (by assumption) ?_ | refine PickN.mk _ rfl ?_ | refine PickN.au ?_ | refine App.au rfl ?_ | refine App.au (own_map (fun _ => rfl) _) ?_ | refine Both.mk ?_ ?_ | exact True.intro
        refine Br.d (fun h5 => ?_) (fun h5 => ?_)
        · obtain ⟨i, gi, gim⟩ := getK (l := b) (k := e) (by omega)
          repeat' first | refine Len.map ?_ | refine Len.nil ?_ | refine Len.cons ?_ | refine Br.t rfl ?_ | refine Br.f rfl ?_ | refine Fit.au ?_ | refine Need.au ?_ | refine Pick.map (by assumption) ?_ | refine Pick.mapI (by omega) (by assumption) ?_ | refine PickN.mk _ (by assumption) ?_ | refine PickN.mk _ rfl ?_ | refine PickN.au ?_ | refine App.au rfl ?_ | refine App.au (own_map (fun _ => rfl) _) ?_ | refine Both.mk ?_ ?_ | exact True.intro
          refine Call.of (reads86_spec f j e b i gb gi (h44 f gm b gbm i gim) hf (by omega) hbb) ?_
          rintro r ⟨c, rfl, hc⟩
          refine ⟨rfl, ?_⟩
          repeat' first | refine Len.map ?_ | refine Len.nil ?_ | refine Len.cons ?_ | refine Br.t rfl ?_ | refine Br.f rfl ?_ | refine Fit.au ?_ | refine Need.au ?_ | refine Pick.map (by assumption) ?_ | refine Pick.mapI (by omega) (by assumption) ?_ | refine PickN.mk _ (by assumption) ?_ | refine PickN.mk _ rfl ?_ | refine PickN.au ?_ | refine App.au rfl ?_ | refine App.au (own_map (fun _ => rfl) _) ?_ | refine Both.mk ?_ ?_ | exact True.intro
          refine Br.mk (fun h6 => ?_) (fun h6 => ?_)
          · repeat' first | refine Len.map ?_ | refine Len.nil ?_ | refine Len.cons ?_ | refine Br.t rfl ?_ | refine Br.f rfl ?_ | refine Fit.au ?_ | refine Need.au ?_ | refine Pick.map (by assumption) ?_ | refine Pick.mapI (by omega) (by assumption) ?_ | refine PickN.mk _ (by assumption) ?_ | refine PickN.mk _ rfl ?_ | refine PickN.au ?_ | refine App.au rfl ?_ | refine App.au (own_map (fun _ => rfl) _) ?_ | refine Both.mk ?_ ?_ | exact True.intro
            refine ⟨⟨k, j, e, 9⟩, rfl, (fun h7 => absurd h7 (by show ¬ (9 : Int) = 0; decide)), (fun h7 => ?_)⟩
            have := hc.2 ((h7.2 f gm j b gb).2 e i gi)
            rw [this] at h6; cases h6
          · repeat' first | refine Len.map ?_ | refine Len.nil ?_ | refine Len.cons ?_ | refine Br.t rfl ?_ | refine Br.f rfl ?_ | refine Fit.au ?_ | refine Need.au ?_ | refine Pick.map (by assumption) ?_ | refine Pick.mapI (by omega) (by assumption) ?_ | refine PickN.mk _ (by assumption) ?_ | refine PickN.mk _ rfl ?_ | refine PickN.au ?_ | refine App.au rfl ?_ | refine App.au (own_map (fun _ => rfl) _) ?_ | refine Both.mk ?_ ?_ | exact True.intro
            exact Stop.mk (ih3 (e + 1) (g := []) _ _ _ ⟨by omega, at_take gi halli (hc.1 (by simpa using h6))⟩ (by omega) ⟨rfl, (by repeat' first | exact trivial | refine ⟨rfl, ?_⟩ | refine ⟨congrArg (fun n => AV.lit (.int .i64 n)) (by omega), ?_⟩ | refine ⟨congrArg (fun l => some (Row.row 1 l)) (by simp [int1, num, tru]), ?_⟩), (by repeat' first | exact trivial | refine ⟨rfl, ?_⟩ | refine ⟨congrArg (fun n => AV.lit (.int .i64 n)) (by omega), ?_⟩ | refine ⟨congrArg (fun l => some (Row.row 1 l)) (by simp [int1, num, tru]), ?_⟩)⟩)
        · repeat' first | refine Len.map ?_ | refine Len.nil ?_ | refine Len.cons ?_ | refine Br.t rfl ?_ | refine Br.f rfl ?_ | refine Fit.au ?_ | refine Need.au ?_ | refine Pick.map (by assumption) ?_ | refine Pick.mapI (by omega) (by assumption) ?_ | refine PickN.mk _ (by assumption) ?_ | refine PickN.mk _ rfl ?_ | refine PickN.au ?_ | refine App.au rfl ?_ | refine App.au (own_map (fun _ => rfl) _) ?_ | refine Both.mk ?_ ?_ | exact True.intro
          exact Stop.mk (ih2 (j + 1) (g := []) _ _ _ ⟨by omega, at_take gb hallb ⟨hv, fun n i gi => halli n i (by have := (List.getElem?_eq_some_iff.1 gi).1; omega) gi⟩⟩ (by omega) ⟨rfl, (by repeat' first | exact trivial | refine ⟨rfl, ?_⟩ | refine ⟨congrArg (fun n => AV.lit (.int .i64 n)) (by omega), ?_⟩ | refine ⟨congrArg (fun l => some (Row.row 1 l)) (by simp [int1, num, tru]), ?_⟩), (by repeat' first | exact trivial | refine ⟨rfl, ?_⟩ | refine ⟨congrArg (fun n => AV.lit (.int .i64 n)) (by omega), ?_⟩ | refine ⟨congrArg (fun l => some (Row.row 1 l)) (by simp [int1, num, tru]), ?_⟩)⟩)
    · repeat' first | refine Len.map ?_ | refine Len.nil ?_ | refine Len.cons ?_ | refine Br.t rfl ?_ | refine Br.f rfl ?_ | refine Fit.au ?_ | refine Need.au ?_ | refine Pick.map (by assumption) ?_ | refine Pick.mapI (by omega) (by assumption) ?_ | refine PickN.mk _ (by assumption) ?_ | refine PickN.mk _ rfl ?_ | refine PickN.au ?_ | refine App.au rfl ?_ | refine App.au (own_map (fun _ => rfl) _) ?_ | refine Both.mk ?_ ?_ | exact True.intro
      exact Stop.mk (ih (k + 1) (g := []) _ _ _ ⟨by omega, at_take gf hall fun n b gb => hallb n b (by have := (List.getElem?_eq_some_iff.1 gb).1; omega) gb⟩ (by omega) ⟨rfl, (by repeat' first | exact trivial | refine ⟨rfl, ?_⟩ | refine ⟨congrArg (fun n => AV.lit (.int .i64 n)) (by omega), ?_⟩ | refine ⟨congrArg (fun l => some (Row.row 1 l)) (by simp [int1, num, tru]), ?_⟩), (by repeat' first | exact trivial | refine ⟨rfl, ?_⟩ | refine ⟨congrArg (fun n => AV.lit (.int .i64 n)) (by omega), ?_⟩ | refine ⟨congrArg (fun l => some (Row.row 1 l)) (by simp [int1, num, tru]), ?_⟩)⟩)
  · repeat' first | refine Len.map ?_ | refine Len.nil ?_ | refine Len.cons ?_ | refine Br.t rfl ?_ | refine Br.f rfl ?_ | refine Fit.au ?_ | refine Need.au ?_ | refine Pick.map (by assumption) ?_ | refine Pick.mapI (by omega) (by assumption) ?_ | refine PickN.mk _ (by assumption) ?_ | refine PickN.mk _ rfl ?_ | refine PickN.au ?_ | refine App.au rfl ?_ | refine App.au (own_map (fun _ => rfl) _) ?_ | refine Both.mk ?_ ?_ | exact True.intro
    refine ⟨Wrong.no, rfl, (fun _ => ⟨hpro, fun f hf => ?_⟩), (fun _ => rfl)⟩
    obtain ⟨n, gf⟩ := List.getElem?_of_mem hf
    exact hall n f (by have := (List.getElem?_eq_some_iff.1 gf).1; omega) gf

/-- What may be run as it is. -/
def validP (p : Pro) : Prop := proP p ∧ (∀ f ∈ p.funcs, ∀ b ∈ f.blocks, ∀ i ∈ b, i.op < 44) ∧ surelyP p
theorem Valid82_spec (p : Pro) (hs : p.slim) (ho : p.okT) : FnSpec Try.prog 82 [proA p] (fun r => ∃ v, r = tru v ∧ (v = true → validP p)) := by
  refine spec_of 1000 Try.func82 rfl rfl ?_
  repeat' first | refine Len.map ?_ | refine Len.nil ?_ | refine Len.cons ?_ | refine Br.t rfl ?_ | refine Br.f rfl ?_ | refine Fit.au ?_ | refine Need.au ?_ | refine Pick.map (by assumption) ?_ | refine Pick.mapI (by omega) (by assumption) ?_ | refine PickN.mk _ (by assumption) ?_ | refine PickN.mk _ rfl ?_ | refine PickN.au ?_ | refine App.au rfl ?_ | refine App.au (own_map (fun _ => rfl) _) ?_ | refine Both.mk ?_ ?_ | exact True.intro
  refine Call.of (Plain_spec p hs ho) ?_
  rintro r ⟨v, rfl, hv⟩
  refine ⟨rfl, ?_⟩
  repeat' first | refine Len.map ?_ | refine Len.nil ?_ | refine Len.cons ?_ | refine Br.t rfl ?_ | refine Br.f rfl ?_ | refine Fit.au ?_ | refine Need.au ?_ | refine Pick.map (by assumption) ?_ | refine Pick.mapI (by omega) (by assumption) ?_ | refine PickN.mk _ (by assumption) ?_ | refine PickN.mk _ rfl ?_ | refine PickN.au ?_ | refine App.au rfl ?_ | refine App.au (own_map (fun _ => rfl) _) ?_ | refine Both.mk ?_ ?_ | exact True.intro
  refine Br.mk (fun h => ?_) (fun h => ?_)
  · obtain ⟨h1, h2⟩ := hv h
    clear hv
    subst h
    repeat' first | refine Len.map ?_ | refine Len.nil ?_ | refine Len.cons ?_ | refine Br.t rfl ?_ | refine Br.f rfl ?_ | refine Fit.au ?_ | refine Need.au ?_ | refine Pick.map (by assumption) ?_ | refine Pick.mapI (by omega) (by assumption) ?_ | refine PickN.mk _ (by assumption) ?_ | refine PickN.mk _ rfl ?_ | refine PickN.au ?_ | refine App.au rfl ?_ | refine App.au (own_map (fun _ => rfl) _) ?_ | refine Both.mk ?_ ?_ | exact True.intro
    refine Call.of (Sure56_spec p hs ho (fun f hf b hb i hi => by have := h2 f hf b hb i hi; omega)) ?_
    rintro r ⟨w, rfl, hw⟩
    refine ⟨rfl, ?_⟩
    repeat' first | refine Len.map ?_ | refine Len.nil ?_ | refine Len.cons ?_ | refine Br.t rfl ?_ | refine Br.f rfl ?_ | refine Fit.au ?_ | refine Need.au ?_ | refine Pick.map (by assumption) ?_ | refine Pick.mapI (by omega) (by assumption) ?_ | refine PickN.mk _ (by assumption) ?_ | refine PickN.mk _ rfl ?_ | refine PickN.au ?_ | refine App.au rfl ?_ | refine App.au (own_map (fun _ => rfl) _) ?_ | refine Both.mk ?_ ?_ | exact True.intro
    exact ⟨decide (w.err = 0), rfl, fun h => ⟨h1, h2, (hw.1 (by simpa using h)).2⟩⟩
  · subst h
    repeat' first | refine Len.map ?_ | refine Len.nil ?_ | refine Len.cons ?_ | refine Br.t rfl ?_ | refine Br.f rfl ?_ | refine Fit.au ?_ | refine Need.au ?_ | refine Pick.map (by assumption) ?_ | refine Pick.mapI (by omega) (by assumption) ?_ | refine PickN.mk _ (by assumption) ?_ | refine PickN.mk _ rfl ?_ | refine PickN.au ?_ | refine App.au rfl ?_ | refine App.au (own_map (fun _ => rfl) _) ?_ | refine Both.mk ?_ ?_ | exact True.intro
    exact ⟨false, rfl, fun h => by cases h⟩
theorem valid52_spec (p : Pro) (hp : p.fits) (hl : p.light) : FnSpec Try.prog 52 [proA p] (fun r => ∃ v, r = tru v ∧ (v = true → p.few 150 ∧ validP p)) := by
  refine spec_of 1000 Try.func52 rfl rfl ?_
  refine Call.of (Few_spec p 150 (by decide) hp hl) ?_
  rintro r ⟨b, rfl, hb⟩
  refine ⟨rfl, ?_⟩
  repeat' first | refine Len.map ?_ | refine Len.nil ?_ | refine Len.cons ?_ | refine Br.t rfl ?_ | refine Br.f rfl ?_ | refine Fit.au ?_ | refine Need.au ?_ | refine Pick.map (by assumption) ?_ | refine Pick.mapI (by omega) (by assumption) ?_ | refine PickN.mk _ (by assumption) ?_ | refine PickN.mk _ rfl ?_ | refine PickN.au ?_ | refine App.au rfl ?_ | refine App.au (own_map (fun _ => rfl) _) ?_ | refine Both.mk ?_ ?_ | exact True.intro
  refine Br.mk (fun h => ?_) (fun h => ?_)
  · have hb1 := hb h
    have hs := hb1.slim (by decide) hp
    have ho := hb1.okT hp
    clear hb
    subst h
    repeat' first | refine Len.map ?_ | refine Len.nil ?_ | refine Len.cons ?_ | refine Br.t rfl ?_ | refine Br.f rfl ?_ | refine Fit.au ?_ | refine Need.au ?_ | refine Pick.map (by assumption) ?_ | refine Pick.mapI (by omega) (by assumption) ?_ | refine PickN.mk _ (by assumption) ?_ | refine PickN.mk _ rfl ?_ | refine PickN.au ?_ | refine App.au rfl ?_ | refine App.au (own_map (fun _ => rfl) _) ?_ | refine Both.mk ?_ ?_ | exact True.intro
    refine Call.of (Valid82_spec p hs ho) ?_
    rintro r ⟨v, rfl, hv⟩
    refine ⟨rfl, ?_⟩
    repeat' first | refine Len.map ?_ | refine Len.nil ?_ | refine Len.cons ?_ | refine Br.t rfl ?_ | refine Br.f rfl ?_ | refine Fit.au ?_ | refine Need.au ?_ | refine Pick.map (by assumption) ?_ | refine Pick.mapI (by omega) (by assumption) ?_ | refine PickN.mk _ (by assumption) ?_ | refine PickN.mk _ rfl ?_ | refine PickN.au ?_ | refine App.au rfl ?_ | refine App.au (own_map (fun _ => rfl) _) ?_ | refine Both.mk ?_ ?_ | exact True.intro
    exact ⟨v, rfl, fun h => ⟨hb1, hv h⟩⟩
  · subst h
    repeat' first | refine Len.map ?_ | refine Len.nil ?_ | refine Len.cons ?_ | refine Br.t rfl ?_ | refine Br.f rfl ?_ | refine Fit.au ?_ | refine Need.au ?_ | refine Pick.map (by assumption) ?_ | refine Pick.mapI (by omega) (by assumption) ?_ | refine PickN.mk _ (by assumption) ?_ | refine PickN.mk _ rfl ?_ | refine PickN.au ?_ | refine App.au rfl ?_ | refine App.au (own_map (fun _ => rfl) _) ?_ | refine Both.mk ?_ ?_ | exact True.intro
    exact ⟨false, rfl, fun h => by cases h⟩
end Go.Proofs.Ytnfkdilmoppbpaa

/- What the document inserts into a valid function is what the program inserts. No program is in sight here. -/
namespace Go.Proofs.Ytnfkdilmoppbpaa
open Go.Ax

def badU (b : List Ins) (i : Ins) (at_ : Int) (u : Int) : Bool := decide (lastI b u (b.length - 1) > at_) || decide (u = i.dst)
def telI (f : Fun) (k : Nat) (e i : Ins) : Int × Int × Int :=
  if i.op = 26 ∧ (k : Int) = e.m then (21, i.a, 0)
  else if 8 < i.op ∨ f.regs.getD i.a.toNat 0 ≠ 1 then (0, 0, 0)
  else if (if (k : Int) = e.m then againstF i.op else i.op) = 4 then (0, 0, 0)
  else (if (k : Int) = e.m then againstF i.op else i.op, i.a, i.b)
def telR (f : Fun) (k : Nat) (b : List Ins) : Int × Int × Int :=
  if (b.getLastD Ins.none).op ≠ 42 then (0, 0, 0)
  else if lastI b (b.getLastD Ins.none).a (b.length - 1) < 0 then (0, 0, 0)
  else if (usesF (b.getD (lastI b (b.getLastD Ins.none).a (b.length - 1)).toNat Ins.none)).any (badU b (b.getD (lastI b (b.getLastD Ins.none).a (b.length - 1)).toNat Ins.none) (lastI b (b.getLastD Ins.none).a (b.length - 1))) = true then (0, 0, 0)
  else telI f k (b.getLastD Ins.none) (b.getD (lastI b (b.getLastD Ins.none).a (b.length - 1)).toNat Ins.none)
def toldR (f : Fun) (k : Nat) (p : List (List Int)) : Int × Int × Int := if k = 0 then (0, 0, 0) else match p[k]? with
  | some [x] => telR f k (f.blocks.getD x.toNat [])
  | _ => (0, 0, 0)
def tup3 (x : Int × Int × Int) : AV := .tup [num x.1, num x.2.1, num x.2.2]
theorem uses_len (i : Ins) : (usesF i).length ≤ i.args.length + 3 := usesF_len i
theorem lastI_lt {b : List Ins} {x : Int} : ∀ n, lastI b x n < n
  | 0 => by simp [lastI]
  | n + 1 => by
    simp only [lastI]
    split
    · split
      · omega
      · have := @lastI_lt b x n; omega
    · have := @lastI_lt b x n; omega
/-- What is put at a block's beginning, of what is told. -/
def headR (t : Int × Int × Int) : List Ins :=
  (if 0 < t.1 then [piIns t.2.1 t.2.2 t.1] else []) ++ if 0 < t.1 ∧ t.1 ≤ 8 ∧ t.2.1 ≠ t.2.2 then [piIns t.2.2 t.2.1 (turnedF t.1)] else []
def posI (o : Option Nat) : Int := match o with
  | some m => (m : Int)
  | none => -1
theorem lastI_eq (b : List Ins) (x : Int) : ∀ n, lastI b x n = posI (lastW b x n)
  | 0 => rfl
  | n + 1 => by
    simp only [lastI, lastW]
    cases b[n]? with
    | none => exact lastI_eq b x n
    | some i =>
      dsimp only
      rw [def_eq]
      split
      · rfl
      · exact lastI_eq b x n
theorem lastI_gt {b : List Ins} {u : Int} {m : Nat} : ∀ {n : Nat}, (m : Int) < lastI b u n ↔ ∃ j i, m < j ∧ j < n ∧ b[j]? = some i ∧ def15 i = u
  | 0 => by
    constructor
    · intro h; simp [lastI] at h; omega
    · rintro ⟨j, i, h1, h2, h3⟩; omega
  | n + 1 => by
    cases gi : b[n]? with
    | none =>
      simp only [lastI, gi]
      rw [lastI_gt]
      constructor
      · rintro ⟨j, i, h1, h2, h3⟩; exact ⟨j, i, h1, by omega, h3⟩
      · rintro ⟨j, i, h1, h2, h3, h4⟩
        refine ⟨j, i, h1, ?_, h3, h4⟩
        by_cases e : j = n
        · subst e; rw [gi] at h3; cases h3
        · omega
    | some i =>
      rw [lastI_succ gi]
      split
      · rename_i h
        constructor
        · intro hm; exact ⟨n, i, by omega, by omega, gi, h⟩
        · rintro ⟨j, x, h1, h2, h3, h4⟩; omega
      · rename_i h
        rw [lastI_gt]
        constructor
        · rintro ⟨j, x, h1, h2, h3⟩; exact ⟨j, x, h1, by omega, h3⟩
        · rintro ⟨j, x, h1, h2, h3, h4⟩
          refine ⟨j, x, h1, ?_, h3, h4⟩
          by_cases e : j = n
          · subst e; rw [gi] at h3; cases h3; exact absurd h4 h
          · omega
theorem wrF_eq {b : List Ins} {u : Int} {m : Nat} (he : ∀ e, b[b.length - 1]? = some e → def15 e ≠ u) : wrF (b.drop (m + 1)) u = decide ((m : Int) < lastI b u (b.length - 1)) := by
  rw [Bool.eq_iff_iff, decide_eq_true_iff, lastI_gt]
  unfold wrF
  rw [List.any_eq_true]
  constructor
  · rintro ⟨i, hi, h⟩
    obtain ⟨j, gj⟩ := List.getElem?_of_mem hi
    rw [List.getElem?_drop] at gj
    have hd : def15 i = u := by rw [← def_eq]; simpa using h
    have hl := (List.getElem?_eq_some_iff.1 gj).1
    refine ⟨m + 1 + j, i, by omega, ?_, gj, hd⟩
    by_cases e : m + 1 + j = b.length - 1
    · rw [e] at gj; exact absurd hd (he i gj)
    · omega
  · rintro ⟨j, i, h1, h2, h3, h4⟩
    refine ⟨i, ?_, by rw [def_eq]; simpa using h4⟩
    refine List.mem_of_getElem? (i := j - (m + 1)) ?_
    rw [List.getElem?_drop, show m + 1 + (j - (m + 1)) = j by omega]; exact h3
theorem tells_kind {p : Pro} {f : Fun} {k : Nat} {b : List Ins} {j : Nat} {i : Ins} (h : oneP p f k b j i) (ht : i.op = 26 ∨ ((3 ≤ i.op ∧ i.op ≤ 8) ∧ f.regs.getD i.a.toNat 0 = 1)) : ∀ u ∈ usesF i, u ≠ i.dst := by
  intro u hu e
  obtain ⟨-, -, h1, h2⟩ := h
  have hw : writesF i.op = true := by unfold writesF; simp; omega
  have h3 := h2 hw
  have h4 : kindF p f i = 2 := by unfold kindF; rw [if_pos (by omega)]
  have h5 : f.regs.getD u.toNat 0 ∈ kindsF p f i := by rw [← h1]; exact List.mem_map.2 ⟨u, hu, rfl⟩
  rw [e, h3, h4] at h5
  unfold kindsF at h5
  rcases ht with ht | ⟨ht, h6⟩
  · rw [if_neg (by omega), if_neg (by omega), if_neg (by omega), if_pos (by omega)] at h5
    simp at h5
  · by_cases h7 : i.op = 3 ∨ i.op = 4
    · rw [if_pos h7, h6] at h5
      simp at h5
    · repeat' rw [if_neg (by omega)] at h5
      have := List.eq_of_mem_replicate h5
      omega
theorem against_in {op : Int} (h : 3 ≤ op ∧ op ≤ 8) : 3 ≤ againstF op ∧ againstF op ≤ 8 := by
  have h6 : op = 3 ∨ op = 4 ∨ op = 5 ∨ op = 6 ∨ op = 7 ∨ op = 8 := by omega
  rcases h6 with rfl | rfl | rfl | rfl | rfl | rfl <;> decide
theorem headR_zero : headR (0, 0, 0) = [] := rfl
theorem headR_arr (a : Int) : headR (21, a, 0) = [piIns a 0 21] := by unfold headR; simp
theorem headR_op {o a b : Int} (h : 3 ≤ o ∧ o ≤ 8) (h4 : o ≠ 4) : headR (o, a, b) = tellI o ⟨0, 0, a, b, 0, 0, 0, 0, []⟩ := by
  unfold headR tellI
  rw [if_neg h4, if_pos (show 0 < o by omega)]
  by_cases e : a = b
  · rw [if_neg (by simp [e]), if_pos e]; rfl
  · rw [if_pos ⟨by show 0 < o; omega, h.2, e⟩, if_neg e]; rfl
theorem tellB_ask {f : Fun} {k : Nat} {b : List Ins} {a : Ins × Bool} (h : askF f b = a) : tellB f k b =
  if (b.getLastD Ins.none).op ≠ 42 then [] else
  if a.2 = false then [] else
  if a.1.op = 26 then (if (b.getLastD Ins.none).n = k then [] else [piIns a.1.a 0 21]) else
  tellI (if (b.getLastD Ins.none).n = k then a.1.op else againstF a.1.op) a.1 := by subst h; rfl
theorem tell_eq {p : Pro} {f : Fun} {n k : Nat} {b : List Ins} {e : Ins} (hone : ∀ (j : Nat) (i : Ins), b[j]? = some i → oneP p f n b j i) (ge : b[b.length - 1]? = some e) (hk : (k : Int) ∈ targetsF e) : headR (telR f k b) = tellB f k b := by
  have hel : b.getLastD Ins.none = e := by rw [List.getLastD_eq_getLast?, List.getLast?_eq_getElem?, ge]; rfl
  unfold telR
  rw [hel]
  by_cases h42 : e.op = 42
  rotate_left
  · unfold tellB; rw [hel, if_pos h42, if_pos h42]; rfl
  rw [if_neg (show ¬ e.op ≠ 42 from fun h => h h42)]
  have hre : right15 e = true := (hone _ e ge).1.1
  have hnm : e.n ≠ e.m ∧ ((k : Int) = e.n ∨ (k : Int) = e.m) := by
    refine ⟨fun h => ?_, ?_⟩
    · unfold right15 tailF tailA at hre
      simp [h42] at hre
      exact hre.2.2.2.2.2.2 h.symm
    · unfold targetsF at hk
      rw [if_neg (by omega), if_pos ⟨hre, h42⟩] at hk
      simpa using hk
  have hed : def15 e = -1 := by
    unfold def15
    rw [if_neg]
    rintro ⟨-, hw⟩
    rw [h42] at hw
    unfold writesF at hw
    simp at hw
  rw [lastI_eq]
  cases hlw : lastW b e.a (b.length - 1) with
  | none =>
    have hA : askF f b = (Ins.none, false) := by unfold askF; rw [hel, hlw]
    rw [tellB_ask hA, hel, if_neg (show ¬ e.op ≠ 42 from fun h => h h42)]
    rfl
  | some m =>
    obtain ⟨hm, i, gi, hd⟩ := lastW_some hlw
    have hi := hone m i gi
    have hri : right15 i = true := hi.1.1
    have hpos := uses_pos hri
    have hgi : b.getD (posI (some m)).toNat Ins.none = i := by
      show b.getD ((m : Nat) : Int).toNat Ins.none = i
      rw [Int.toNat_natCast, List.getD_eq_getElem?_getD, gi]; rfl
    rw [hgi]
    show headR (if (m : Int) < 0 then _ else if (usesF i).any (badU b i (m : Int)) = true then _ else _) = _
    rw [if_neg (by omega)]
    have hop : 3 ≤ i.op := by
      unfold right15 opF at hri
      simp at hri
      omega
    have hask : askAt f b m = (i, !((usesF i).any fun u => wrF (b.drop (m + 1)) u) && (decide (i.op = 26) || (decide (3 ≤ i.op ∧ i.op ≤ 8) && decide (f.regs.getD i.a.toNat 0 = 1)))) := by
      unfold askAt; rw [gi]
    have hA : askF f b = askAt f b m := by unfold askF; rw [hel, hlw]
    rw [tellB_ask (hA.trans hask), hel, if_neg (show ¬ e.op ≠ 42 from fun h => h h42)]
    dsimp only
    have hwr : ∀ u ∈ usesF i, wrF (b.drop (m + 1)) u = decide ((m : Int) < lastI b u (b.length - 1)) := fun u hu => wrF_eq fun e2 g2 => by
      rw [ge] at g2; cases g2
      have := hpos u hu
      omega
    by_cases ha : ((usesF i).any fun u => wrF (b.drop (m + 1)) u) = true
    · have hb : (usesF i).any (badU b i (m : Int)) = true := by
        obtain ⟨u, hu, h⟩ := List.any_eq_true.1 ha
        refine List.any_eq_true.2 ⟨u, hu, ?_⟩
        rw [hwr u hu] at h
        unfold badU
        simp at h
        simp [h]
      rw [if_pos hb, ha]
      rfl
    · have ha2 : ((usesF i).any fun u => wrF (b.drop (m + 1)) u) = false := by simpa using ha
      rw [ha2]
      by_cases ht : i.op = 26 ∨ ((3 ≤ i.op ∧ i.op ≤ 8) ∧ f.regs.getD i.a.toNat 0 = 1)
      · have hkd := tells_kind hi ht
        have hb : (usesF i).any (badU b i (m : Int)) = false := by
          rw [List.any_eq_false]
          intro u hu h
          unfold badU at h
          simp only [Bool.or_eq_true, decide_eq_true_eq] at h
          rcases h with h | h
          · rw [List.any_eq_false] at ha2
            refine ha2 u hu ?_
            rw [hwr u hu]
            exact decide_eq_true h
          · exact hkd u hu h
        rw [hb, if_neg (by decide)]
        have hyes : (!false && (decide (i.op = 26) || (decide (3 ≤ i.op ∧ i.op ≤ 8) && decide (f.regs.getD i.a.toNat 0 = 1)))) = true := by
          rcases ht with h | ⟨h1, h2⟩
          · simp [h]
          · rw [decide_eq_true h1, decide_eq_true h2]; simp
        rw [hyes, if_neg (by decide)]
        unfold telI
        rcases ht with h | ⟨h1, h2⟩
        · rw [if_pos h]
          by_cases e1 : (k : Int) = e.m
          · rw [if_pos ⟨h, e1⟩, if_neg (by omega)]; exact headR_arr _
          · rw [if_neg (fun x => e1 x.2), if_pos (by omega), if_pos (by omega)]; rfl
        · rw [if_neg (by omega), if_neg (by omega)]
          have hag := against_in h1
          have key : ∀ o : Int, 3 ≤ o ∧ o ≤ 8 → headR (if o = 4 then (0, 0, 0) else (o, i.a, i.b)) = tellI o i := fun o ho => by
            by_cases e4 : o = 4
            · rw [if_pos e4]; unfold tellI; rw [if_pos e4]; rfl
            · rw [if_neg e4, headR_op ho e4]; rfl
          by_cases e1 : (k : Int) = e.m
          · rw [if_pos e1, if_neg (show ¬ i.op = 26 by omega), if_neg (show ¬ e.n = (k : Int) by omega)]
            exact key _ hag
          · rw [if_neg e1, if_neg (show ¬ i.op = 26 by omega), if_pos (show e.n = (k : Int) by omega)]
            exact key _ h1
      · have hno : (!false && (decide (i.op = 26) || (decide (3 ≤ i.op ∧ i.op ≤ 8) && decide (f.regs.getD i.a.toNat 0 = 1)))) = false := by
          rw [Bool.eq_false_iff]
          intro h
          apply ht
          simpa using h
        rw [hno, if_pos rfl]
        by_cases hb : (usesF i).any (badU b i (m : Int)) = true
        · rw [if_pos hb]; rfl
        · rw [if_neg hb]
          unfold telI
          rw [if_neg (by omega), if_pos]
          · rfl
          · by_cases h8 : 8 < i.op
            · exact .inl h8
            · right; intro h1; exact ht (.inr ⟨by omega, h1⟩)
theorem told_eq {p : Pro} {f : Fun} (h : proP p) (hf : f ∈ p.funcs) (k : Nat) : headR (toldR f k (predsF (succsF f))) = toldF f k (predsF (succsF f)) := by
  unfold toldR toldF
  by_cases hk : k = 0
  · rw [if_pos hk, if_pos hk]; rfl
  rw [if_neg hk, if_neg hk]
  cases g : (predsF (succsF f))[k]? with
  | none => rfl
  | some l =>
    match l, g with
    | [], _ => rfl
    | x :: y :: l, _ => rfl
    | [x], g =>
      show headR (telR f k (f.blocks.getD x.toNat [])) = tellB f k (f.blocks.getD x.toNat [])
      have hkl := (List.getElem?_eq_some_iff.1 g).1
      rw [predsF_len] at hkl
      unfold predsF at g
      rw [List.getElem?_map, List.getElem?_range hkl] at g
      have hpx : predOf (succsF f) k (succsF f).length = [x] := Option.some.inj g
      have hx : x ∈ predOf (succsF f) k (succsF f).length := by rw [hpx]; simp
      unfold predOf at hx
      obtain ⟨j, hj, rfl⟩ := List.mem_map.1 hx
      obtain ⟨hj1, hj2⟩ := List.mem_filter.1 hj
      have hj3 := List.mem_range.1 hj1
      rw [succsF_len] at hj3
      have gb : f.blocks[j]? = some f.blocks[j] := List.getElem?_eq_getElem hj3
      have hj4 : (k : Int) ∈ succ1 f.blocks.length f.blocks[j] := by
        have := of_decide_eq_true hj2
        unfold succsF at this
        rw [List.getElem?_map, gb] at this
        exact this
      rw [Int.toNat_natCast, List.getD_eq_getElem?_getD, gb]
      show headR (telR f k f.blocks[j]) = tellB f k f.blocks[j]
      unfold succ1 at hj4
      split at hj4
      · rename_i e ge
        refine tell_eq (p := p) (n := j) ((h.2.2.2 f hf).2 j _ gb).2 ge ?_
        unfold below at hj4
        exact (List.mem_filter.1 hj4).1
      · cases hj4
/-- Where nothing is wrong, instructions are as the program's insertion asks. -/
theorem proP.okP {p : Pro} {f : Fun} (h : proP p) (hf : f ∈ p.funcs) (ha : ∀ b ∈ f.blocks, ∀ i ∈ b, i.args.length ≤ 1000000) : f.okP := by
  intro b hb i hi
  obtain ⟨k, gb⟩ := List.getElem?_of_mem hb
  obtain ⟨j, gi⟩ := List.getElem?_of_mem hi
  have h1 := ((h.2.2.2 f hf).2 k b gb).2 j i gi
  exact ⟨h1.1.1, ha b hb i hi, h1.2.1.2.1⟩
end Go.Proofs.Ytnfkdilmoppbpaa

/- What a block tells, as the document says it, by a contract. -/
namespace Go.Proofs.Ytnfkdilmoppbpaa
open Go.Ax
set_option maxRecDepth 10000
set_option linter.unusedVariables false

set_option maxHeartbeats 2000000 in
theorem Told111_spec (f : Fun) (k : Nat) (hk : k < f.blocks.length) (hf : f.fits) (hok : f.okP) (hn : f.blocks.length ≤ 1000000) (hb : ∀ b ∈ f.blocks, b.length ≠ 0 ∧ b.length ≤ 1000000) :
    FnSpec Try.prog 111 [funA f, num k] (fun r => r = tup3 (toldR f k (predsF (succsF f)))) := by
  have hpl := predsF_len (succsF f)
  rw [succsF_len] at hpl
  have hpp : ∀ l ∈ predsF (succsF f), l.length ≤ 1000000 ∧ ∀ x ∈ l, 0 ≤ x ∧ x < f.blocks.length := by
    intro l hl
    unfold predsF at hl
    obtain ⟨t, _, rfl⟩ := List.mem_map.1 hl
    have h1 := predOf_len (succsF f) t (succsF f).length
    rw [succsF_len] at h1 ⊢
    exact ⟨by omega, fun x hx => predOf_lt hx⟩
  have hP := Preds_spec f hf hn
  generalize predsF (succsF f) = p at *
  obtain ⟨l, gl, glm⟩ := getK (l := p) (k := k) (by omega)
  obtain ⟨hl1, hl2⟩ := hpp l glm
  have hz : k = 0 ∨ l.length ≠ 1 → asRes [num 0, num 0, num 0] = tup3 (toldR f k p) := by
    intro h
    unfold toldR
    by_cases e : k = 0
    · rw [if_pos e]; rfl
    · rw [if_neg e, gl]
      match l, h.resolve_left e with
      | [], _ => rfl
      | [x], h2 => exact absurd rfl h2
      | x :: y :: l, _ => rfl
  refine spec_of 11 Try.func111 rfl rfl ?_
  repeat' first | refine Call.eq hP rfl ?_ | refine Len.map ?_ | refine Len.nil ?_ | refine Len.cons ?_ | refine Br.t rfl ?_ | refine Br.f rfl ?_ | refine Fit.au ?_ | refine Need.au ?_ | refine Pick.map (by assumption) ?_ | refine Pick.mapI (by omega) (by assumption) ?_ | refine PickN.mk _ (by assumption) ?_ | refine PickN.mk _ rfl ?_ | refine PickN.au ?_ | refine App.au rfl ?_ | refine App.au (own_map (fun _ => rfl) _) ?_ | refine Both.mk ?_ ?_ | exact True.intro
  refine Stop.mk (run_frzR 1 rfl (fzLL_map fz_olsts _) ?_)
  refine Run.fr (g := []) (tm' := [(1, num k), (2, .hp 0 0), (16, lsts p)]) (hp' := [(0, .var f.cs)]) (nx' := 1) ?_ ⟨rfl, (by repeat' first | exact trivial | refine ⟨rfl, ?_⟩ | refine ⟨congrArg (fun n => AV.lit (.int .i64 n)) (by omega), ?_⟩ | refine ⟨congrArg (fun l => some (Row.row 1 l)) (by simp [int1, num, tru]), ?_⟩), (by repeat' first | exact trivial | refine ⟨rfl, ?_⟩ | refine ⟨congrArg (fun n => AV.lit (.int .i64 n)) (by omega), ?_⟩ | refine ⟨congrArg (fun l => some (Row.row 1 l)) (by simp [int1, num, tru]), ?_⟩)⟩
  refine go 1000 Try.func111 ?_
  repeat' first | refine Pick.map gl ?_ | refine Len.map ?_ | refine Len.nil ?_ | refine Len.cons ?_ | refine Br.t rfl ?_ | refine Br.f rfl ?_ | refine Fit.au ?_ | refine Need.au ?_ | refine Pick.map (by assumption) ?_ | refine Pick.mapI (by omega) (by assumption) ?_ | refine PickN.mk _ (by assumption) ?_ | refine PickN.mk _ rfl ?_ | refine PickN.au ?_ | refine App.au rfl ?_ | refine App.au (own_map (fun _ => rfl) _) ?_ | refine Both.mk ?_ ?_ | exact True.intro
  refine Br.d (fun h1 => ?_) (fun h1 => ?_)
  · repeat' first | refine Len.map ?_ | refine Len.nil ?_ | refine Len.cons ?_ | refine Br.t rfl ?_ | refine Br.f rfl ?_ | refine Fit.au ?_ | refine Need.au ?_ | refine Pick.map (by assumption) ?_ | refine Pick.mapI (by omega) (by assumption) ?_ | refine PickN.mk _ (by assumption) ?_ | refine PickN.mk _ rfl ?_ | refine PickN.au ?_ | refine App.au rfl ?_ | refine App.au (own_map (fun _ => rfl) _) ?_ | refine Both.mk ?_ ?_ | exact True.intro
    exact hz (.inl (by omega))
  repeat' first | refine Len.map ?_ | refine Len.nil ?_ | refine Len.cons ?_ | refine Br.t rfl ?_ | refine Br.f rfl ?_ | refine Fit.au ?_ | refine Need.au ?_ | refine Pick.map (by assumption) ?_ | refine Pick.mapI (by omega) (by assumption) ?_ | refine PickN.mk _ (by assumption) ?_ | refine PickN.mk _ rfl ?_ | refine PickN.au ?_ | refine App.au rfl ?_ | refine App.au (own_map (fun _ => rfl) _) ?_ | refine Both.mk ?_ ?_ | exact True.intro
  refine Br.nd (fun h2 => ?_) (fun h2 => ?_)
  · repeat' first | refine Len.map ?_ | refine Len.nil ?_ | refine Len.cons ?_ | refine Br.t rfl ?_ | refine Br.f rfl ?_ | refine Fit.au ?_ | refine Need.au ?_ | refine Pick.map (by assumption) ?_ | refine Pick.mapI (by omega) (by assumption) ?_ | refine PickN.mk _ (by assumption) ?_ | refine PickN.mk _ rfl ?_ | refine PickN.au ?_ | refine App.au rfl ?_ | refine App.au (own_map (fun _ => rfl) _) ?_ | refine Both.mk ?_ ?_ | exact True.intro
    exact hz (.inr (by omega))
  obtain ⟨x, rfl⟩ : ∃ x, l = [x] := List.length_eq_one_iff.1 (by omega)
  clear hz
  have hx := hl2 x (by simp)
  obtain ⟨y, rfl⟩ : ∃ y : Nat, x = (y : Int) := ⟨x.toNat, by omega⟩
  obtain ⟨b, gb, gbm⟩ := getK (l := f.blocks) (k := y) (by omega)
  obtain ⟨hb0, hbl⟩ := hb b gbm
  obtain ⟨e, ge, gem⟩ := getK (l := b) (k := b.length - 1) (by omega)
  have gl0 : [((y : Nat) : Int)][0]? = some (y : Int) := rfl
  have ht : toldR f k p = telR f k b := by
    unfold toldR
    rw [if_neg (by omega), gl]
    show telR f k (f.blocks.getD ((y : Nat) : Int).toNat []) = _
    rw [Int.toNat_natCast, List.getD_eq_getElem?_getD, gb]; rfl
  have hel : b.getLastD Ins.none = e := by
    rw [List.getLastD_eq_getLast?, List.getLast?_eq_getElem?, ge]; rfl
  have gen : b[((b.length : Int) - 1).toNat]? = some e := by rw [show ((b.length : Int) - 1).toNat = b.length - 1 by omega]; exact ge
  have hbf := hf.2.2 b gbm
  rw [ht]
  unfold telR
  rw [hel]
  repeat' first | refine Draw.mk (ordL [] [0, 1, 2, 3, 4, 5, 6, 7]) (by decide +kernel) ?_ | refine Draw.mk (ordL [5] [0, 1, 2, 3, 4, 6, 5, 7, 8, 9, 10, 11, 12, 13, 14, 15, 16]) (by decide +kernel) ?_ | refine Draw.mk (ordL [] [0, 1, 2, 3, 4]) (by decide +kernel) ?_ | refine Pick.mk _ (by decide) rfl ?_ | refine Pick.map gb ?_ | refine Pick.mapI (by omega) gen ?_ | refine Len.map ?_ | refine Len.nil ?_ | refine Len.cons ?_ | refine Br.t rfl ?_ | refine Br.f rfl ?_ | refine Fit.au ?_ | refine Need.au ?_ | refine Pick.map (by assumption) ?_ | refine Pick.mapI (by omega) (by assumption) ?_ | refine PickN.mk _ (by assumption) ?_ | refine PickN.mk _ rfl ?_ | refine PickN.au ?_ | refine App.au rfl ?_ | refine App.au (own_map (fun _ => rfl) _) ?_ | refine Both.mk ?_ ?_ | exact True.intro
  have hlt := @lastI_lt b e.a (b.length - 1)
  have hls := last_spec b e.a (by omega) hbf.2
  refine Br.nd (fun h3 => ?_) (fun h3 => ?_)
  · repeat' first | refine Len.map ?_ | refine Len.nil ?_ | refine Len.cons ?_ | refine Br.t rfl ?_ | refine Br.f rfl ?_ | refine Fit.au ?_ | refine Need.au ?_ | refine Pick.map (by assumption) ?_ | refine Pick.mapI (by omega) (by assumption) ?_ | refine PickN.mk _ (by assumption) ?_ | refine PickN.mk _ rfl ?_ | refine PickN.au ?_ | refine App.au rfl ?_ | refine App.au (own_map (fun _ => rfl) _) ?_ | refine Both.mk ?_ ?_ | exact True.intro
    rw [if_pos h3]; rfl
  rw [if_neg (fun hh => hh h3)]
  generalize hat : lastI b e.a (b.length - 1) = at_ at *
  repeat' first | refine Call.eq hls rfl ?_ | refine Len.map ?_ | refine Len.nil ?_ | refine Len.cons ?_ | refine Br.t rfl ?_ | refine Br.f rfl ?_ | refine Fit.au ?_ | refine Need.au ?_ | refine Pick.map (by assumption) ?_ | refine Pick.mapI (by omega) (by assumption) ?_ | refine PickN.mk _ (by assumption) ?_ | refine PickN.mk _ rfl ?_ | refine PickN.au ?_ | refine App.au rfl ?_ | refine App.au (own_map (fun _ => rfl) _) ?_ | refine Both.mk ?_ ?_ | exact True.intro
  refine Br.d (fun h4 => ?_) (fun h4 => ?_)
  · repeat' first | refine Len.map ?_ | refine Len.nil ?_ | refine Len.cons ?_ | refine Br.t rfl ?_ | refine Br.f rfl ?_ | refine Fit.au ?_ | refine Need.au ?_ | refine Pick.map (by assumption) ?_ | refine Pick.mapI (by omega) (by assumption) ?_ | refine PickN.mk _ (by assumption) ?_ | refine PickN.mk _ rfl ?_ | refine PickN.au ?_ | refine App.au rfl ?_ | refine App.au (own_map (fun _ => rfl) _) ?_ | refine Both.mk ?_ ?_ | exact True.intro
    rw [if_pos h4]; rfl
  rw [if_neg h4]
  obtain ⟨m, rfl⟩ : ∃ m : Nat, at_ = (m : Int) := ⟨at_.toNat, by omega⟩
  obtain ⟨i, gi, gim⟩ := getK (l := b) (k := m) (by omega)
  have hgi : b.getD ((m : Nat) : Int).toNat Ins.none = i := by rw [Int.toNat_natCast, List.getD_eq_getElem?_getD, gi]; rfl
  rw [hgi]
  obtain ⟨hr, hia, hur⟩ := hok b gbm i gim
  have hul := uses_len i
  repeat' first | refine Pick.map gi ?_ | refine Call.eq (Uses_spec i hia) rfl ?_ | refine Len.map ?_ | refine Len.nil ?_ | refine Len.cons ?_ | refine Br.t rfl ?_ | refine Br.f rfl ?_ | refine Fit.au ?_ | refine Need.au ?_ | refine Pick.map (by assumption) ?_ | refine Pick.mapI (by omega) (by assumption) ?_ | refine PickN.mk _ (by assumption) ?_ | refine PickN.mk _ rfl ?_ | refine PickN.au ?_ | refine App.au rfl ?_ | refine App.au (own_map (fun _ => rfl) _) ?_ | refine Both.mk ?_ ?_ | exact True.intro
  refine Stop.mk (loop_in (g := []) (fun c : Nat => [(1, num k), (2, .hp 0 0), (8, bsl b), (9, .hp 1 0), (10, num m), (11, .hp 2 0), (12, .hw 3), (13, num c)]) (fun c => [(0, .var f.cs), (1, .var e.cs), (2, .var i.cs), (3, .row 1 ((usesF i).map int1))]) 4 (fun c => c ≤ (usesF i).length ∧ ∀ u ∈ (usesF i).take c, badU b i m u = false) (fun c => (usesF i).length - c) 0 ⟨by omega, by simp⟩ ⟨rfl, (by repeat' first | exact trivial | refine ⟨rfl, ?_⟩ | refine ⟨congrArg (fun n => AV.lit (.int .i64 n)) (by omega), ?_⟩ | refine ⟨congrArg (fun l => some (Row.row 1 l)) (by simp [int1, num, tru]), ?_⟩), (by repeat' first | exact trivial | refine ⟨rfl, ?_⟩ | refine ⟨congrArg (fun n => AV.lit (.int .i64 n)) (by omega), ?_⟩ | refine ⟨congrArg (fun l => some (Row.row 1 l)) (by simp [int1, num, tru]), ?_⟩)⟩ (fun c hc ih => ?_))
  obtain ⟨hc, hall⟩ := hc
  refine go 1000 Try.func111 ?_
  repeat' first | refine Len.map ?_ | refine Len.nil ?_ | refine Len.cons ?_ | refine Br.t rfl ?_ | refine Br.f rfl ?_ | refine Fit.au ?_ | refine Need.au ?_ | refine Pick.map (by assumption) ?_ | refine Pick.mapI (by omega) (by assumption) ?_ | refine PickN.mk _ (by assumption) ?_ | refine PickN.mk _ rfl ?_ | refine PickN.au ?_ | refine App.au rfl ?_ | refine App.au (own_map (fun _ => rfl) _) ?_ | refine Both.mk ?_ ?_ | exact True.intro
  refine Br.d (fun h5 => ?_) (fun h5 => ?_)
  · obtain ⟨u, gu, gum⟩ := getK (l := usesF i) (k := c) (by omega)
    have hlu := last_spec b u (by omega) hbf.2
    have hbad : badU b i m u = true → asRes [num 0, num 0, num 0] = tup3 (if (usesF i).any (badU b i m) = true then (0, 0, 0) else telI f k e i) := by
      intro h
      rw [if_pos (List.any_eq_true.2 ⟨u, gum, h⟩)]; rfl
    have hgood : badU b i m u = false → ∀ v ∈ (usesF i).take (c + 1), badU b i m v = false := by
      intro h v hv
      rw [take_succ gu] at hv
      rcases List.mem_append.1 hv with hv | hv
      · exact hall v hv
      · rw [List.mem_singleton.1 hv]; exact h
    unfold badU at hbad hgood
    repeat' first | refine Draw.mk (ordL [] [0, 1, 2, 3, 4, 5, 6, 7]) (by decide +kernel) ?_ | refine Draw.mk (ordL [5] [0, 1, 2, 3, 4, 6, 5, 7, 8, 9, 10, 11, 12, 13, 14, 15, 16]) (by decide +kernel) ?_ | refine Draw.mk (ordL [] [0, 1, 2, 3, 4]) (by decide +kernel) ?_ | refine Pick.map gu ?_ | refine Call.eq hlu rfl ?_ | refine Len.map ?_ | refine Len.nil ?_ | refine Len.cons ?_ | refine Br.t rfl ?_ | refine Br.f rfl ?_ | refine Fit.au ?_ | refine Need.au ?_ | refine Pick.map (by assumption) ?_ | refine Pick.mapI (by omega) (by assumption) ?_ | refine PickN.mk _ (by assumption) ?_ | refine PickN.mk _ rfl ?_ | refine PickN.au ?_ | refine App.au rfl ?_ | refine App.au (own_map (fun _ => rfl) _) ?_ | refine Both.mk ?_ ?_ | exact True.intro
    refine Br.d (fun h6 => ?_) (fun h6 => ?_)
    · repeat' first | refine Len.map ?_ | refine Len.nil ?_ | refine Len.cons ?_ | refine Br.t rfl ?_ | refine Br.f rfl ?_ | refine Fit.au ?_ | refine Need.au ?_ | refine Pick.map (by assumption) ?_ | refine Pick.mapI (by omega) (by assumption) ?_ | refine PickN.mk _ (by assumption) ?_ | refine PickN.mk _ rfl ?_ | refine PickN.au ?_ | refine App.au rfl ?_ | refine App.au (own_map (fun _ => rfl) _) ?_ | refine Both.mk ?_ ?_ | exact True.intro
      exact hbad (by rw [decide_eq_true h6]; rfl)
    repeat' first | refine Draw.mk (ordL [] [0, 1, 2, 3, 4, 5, 6, 7]) (by decide +kernel) ?_ | refine Draw.mk (ordL [5] [0, 1, 2, 3, 4, 6, 5, 7, 8, 9, 10, 11, 12, 13, 14, 15, 16]) (by decide +kernel) ?_ | refine Draw.mk (ordL [] [0, 1, 2, 3, 4]) (by decide +kernel) ?_ | refine Pick.map gu ?_ | refine Len.map ?_ | refine Len.nil ?_ | refine Len.cons ?_ | refine Br.t rfl ?_ | refine Br.f rfl ?_ | refine Fit.au ?_ | refine Need.au ?_ | refine Pick.map (by assumption) ?_ | refine Pick.mapI (by omega) (by assumption) ?_ | refine PickN.mk _ (by assumption) ?_ | refine PickN.mk _ rfl ?_ | refine PickN.au ?_ | refine App.au rfl ?_ | refine App.au (own_map (fun _ => rfl) _) ?_ | refine Both.mk ?_ ?_ | exact True.intro
    refine Br.d (fun h7 => ?_) (fun h7 => ?_)
    · repeat' first | refine Len.map ?_ | refine Len.nil ?_ | refine Len.cons ?_ | refine Br.t rfl ?_ | refine Br.f rfl ?_ | refine Fit.au ?_ | refine Need.au ?_ | refine Pick.map (by assumption) ?_ | refine Pick.mapI (by omega) (by assumption) ?_ | refine PickN.mk _ (by assumption) ?_ | refine PickN.mk _ rfl ?_ | refine PickN.au ?_ | refine App.au rfl ?_ | refine App.au (own_map (fun _ => rfl) _) ?_ | refine Both.mk ?_ ?_ | exact True.intro
      exact hbad (by rw [decide_eq_true h7, Bool.or_true])
    repeat' first | refine Len.map ?_ | refine Len.nil ?_ | refine Len.cons ?_ | refine Br.t rfl ?_ | refine Br.f rfl ?_ | refine Fit.au ?_ | refine Need.au ?_ | refine Pick.map (by assumption) ?_ | refine Pick.mapI (by omega) (by assumption) ?_ | refine PickN.mk _ (by assumption) ?_ | refine PickN.mk _ rfl ?_ | refine PickN.au ?_ | refine App.au rfl ?_ | refine App.au (own_map (fun _ => rfl) _) ?_ | refine Both.mk ?_ ?_ | exact True.intro
    exact Stop.mk (ih (c + 1) (g := []) _ _ _ ⟨by omega, hgood (by rw [decide_eq_false h6, decide_eq_false h7]; rfl)⟩ (by omega) ⟨rfl, (by repeat' first | exact trivial | refine ⟨rfl, ?_⟩ | refine ⟨congrArg (fun n => AV.lit (.int .i64 n)) (by omega), ?_⟩ | refine ⟨congrArg (fun l => some (Row.row 1 l)) (by simp [int1, num, tru]), ?_⟩), (by repeat' first | exact trivial | refine ⟨rfl, ?_⟩ | refine ⟨congrArg (fun n => AV.lit (.int .i64 n)) (by omega), ?_⟩ | refine ⟨congrArg (fun l => some (Row.row 1 l)) (by simp [int1, num, tru]), ?_⟩)⟩)
  · have hany : (usesF i).any (badU b i m) = false := by
      rw [List.any_eq_false]
      rw [take_all (by omega)] at hall
      intro u hu h
      rw [hall u hu] at h; cases h
    rw [hany, if_neg (by decide)]
    clear hany hall ih hP hpl hpp hls hul
    have hpos := right_pos hr
    repeat' first | refine Len.map ?_ | refine Len.nil ?_ | refine Len.cons ?_ | refine Br.t rfl ?_ | refine Br.f rfl ?_ | refine Fit.au ?_ | refine Need.au ?_ | refine Pick.map (by assumption) ?_ | refine Pick.mapI (by omega) (by assumption) ?_ | refine PickN.mk _ (by assumption) ?_ | refine PickN.mk _ rfl ?_ | refine PickN.au ?_ | refine App.au rfl ?_ | refine App.au (own_map (fun _ => rfl) _) ?_ | refine Both.mk ?_ ?_ | exact True.intro
    refine Br.d (fun h6 => ?_) (fun h6 => ?_)
    · repeat' first | refine Len.map ?_ | refine Len.nil ?_ | refine Len.cons ?_ | refine Br.t rfl ?_ | refine Br.f rfl ?_ | refine Fit.au ?_ | refine Need.au ?_ | refine Pick.map (by assumption) ?_ | refine Pick.mapI (by omega) (by assumption) ?_ | refine PickN.mk _ (by assumption) ?_ | refine PickN.mk _ rfl ?_ | refine PickN.au ?_ | refine App.au rfl ?_ | refine App.au (own_map (fun _ => rfl) _) ?_ | refine Both.mk ?_ ?_ | exact True.intro
      refine Br.d (fun h7 => ?_) (fun h7 => ?_)
      · have ht2 : telI f k e i = (21, i.a, 0) := by unfold telI; rw [if_pos ⟨h6, h7⟩]
        rw [ht2]
        repeat' first | refine Draw.mk (ordL [] [0, 1, 2, 3, 4, 5, 6, 7]) (by decide +kernel) ?_ | refine Draw.mk (ordL [5] [0, 1, 2, 3, 4, 6, 5, 7, 8, 9, 10, 11, 12, 13, 14, 15, 16]) (by decide +kernel) ?_ | refine Draw.mk (ordL [] [0, 1, 2, 3, 4]) (by decide +kernel) ?_ | refine Len.map ?_ | refine Len.nil ?_ | refine Len.cons ?_ | refine Br.t rfl ?_ | refine Br.f rfl ?_ | refine Fit.au ?_ | refine Need.au ?_ | refine Pick.map (by assumption) ?_ | refine Pick.mapI (by omega) (by assumption) ?_ | refine PickN.mk _ (by assumption) ?_ | refine PickN.mk _ rfl ?_ | refine PickN.au ?_ | refine App.au rfl ?_ | refine App.au (own_map (fun _ => rfl) _) ?_ | refine Both.mk ?_ ?_ | exact True.intro
        all_goals rfl
      · have ht2 : telI f k e i = (0, 0, 0) := by unfold telI; rw [if_neg (fun h => h7 h.2), if_pos (.inl (by omega))]
        rw [ht2]
        repeat' first | refine Len.map ?_ | refine Len.nil ?_ | refine Len.cons ?_ | refine Br.t rfl ?_ | refine Br.f rfl ?_ | refine Fit.au ?_ | refine Need.au ?_ | refine Pick.map (by assumption) ?_ | refine Pick.mapI (by omega) (by assumption) ?_ | refine PickN.mk _ (by assumption) ?_ | refine PickN.mk _ rfl ?_ | refine PickN.au ?_ | refine App.au rfl ?_ | refine App.au (own_map (fun _ => rfl) _) ?_ | refine Both.mk ?_ ?_ | exact True.intro
        refine Br.d (fun h8 => ?_) (fun h8 => absurd h6 (by omega))
        repeat' first | refine Len.map ?_ | refine Len.nil ?_ | refine Len.cons ?_ | refine Br.t rfl ?_ | refine Br.f rfl ?_ | refine Fit.au ?_ | refine Need.au ?_ | refine Pick.map (by assumption) ?_ | refine Pick.mapI (by omega) (by assumption) ?_ | refine PickN.mk _ (by assumption) ?_ | refine PickN.mk _ rfl ?_ | refine PickN.au ?_ | refine App.au rfl ?_ | refine App.au (own_map (fun _ => rfl) _) ?_ | refine Both.mk ?_ ?_ | exact True.intro
        rfl
    · repeat' first | refine Len.map ?_ | refine Len.nil ?_ | refine Len.cons ?_ | refine Br.t rfl ?_ | refine Br.f rfl ?_ | refine Fit.au ?_ | refine Need.au ?_ | refine Pick.map (by assumption) ?_ | refine Pick.mapI (by omega) (by assumption) ?_ | refine PickN.mk _ (by assumption) ?_ | refine PickN.mk _ rfl ?_ | refine PickN.au ?_ | refine App.au rfl ?_ | refine App.au (own_map (fun _ => rfl) _) ?_ | refine Both.mk ?_ ?_ | exact True.intro
      refine Br.d (fun h8 => ?_) (fun h8 => ?_)
      · have ht2 : telI f k e i = (0, 0, 0) := by unfold telI; rw [if_neg (fun h => h6 h.1), if_pos (.inl (by omega))]
        rw [ht2]
        repeat' first | refine Len.map ?_ | refine Len.nil ?_ | refine Len.cons ?_ | refine Br.t rfl ?_ | refine Br.f rfl ?_ | refine Fit.au ?_ | refine Need.au ?_ | refine Pick.map (by assumption) ?_ | refine Pick.mapI (by omega) (by assumption) ?_ | refine PickN.mk _ (by assumption) ?_ | refine PickN.mk _ rfl ?_ | refine PickN.au ?_ | refine App.au rfl ?_ | refine App.au (own_map (fun _ => rfl) _) ?_ | refine Both.mk ?_ ?_ | exact True.intro
        rfl
      · have hop : 3 ≤ i.op := by
          unfold right15 opF at hr
          simp at hr
          omega
        have hal : i.a < f.regs.length := hur i.a (uses_a hr (by unfold abF twoF; simp; omega))
        obtain ⟨g, gg, -⟩ := getK (l := f.regs) (k := i.a.toNat) (by omega)
        have hgd : f.regs.getD i.a.toNat 0 = g := by rw [List.getD_eq_getElem?_getD, gg]; rfl
        repeat' first | refine Pick.mapI hpos.2.1 gg ?_ | refine Len.map ?_ | refine Len.nil ?_ | refine Len.cons ?_ | refine Br.t rfl ?_ | refine Br.f rfl ?_ | refine Fit.au ?_ | refine Need.au ?_ | refine Pick.map (by assumption) ?_ | refine Pick.mapI (by omega) (by assumption) ?_ | refine PickN.mk _ (by assumption) ?_ | refine PickN.mk _ rfl ?_ | refine PickN.au ?_ | refine App.au rfl ?_ | refine App.au (own_map (fun _ => rfl) _) ?_ | refine Both.mk ?_ ?_ | exact True.intro
        refine Br.nd (fun h9 => ?_) (fun h9 => ?_)
        · have ht2 : telI f k e i = (0, 0, 0) := by unfold telI; rw [if_neg (fun h => h6 h.1), if_pos (.inr (by rw [hgd]; exact h9))]
          rw [ht2]
          repeat' first | refine Len.map ?_ | refine Len.nil ?_ | refine Len.cons ?_ | refine Br.t rfl ?_ | refine Br.f rfl ?_ | refine Fit.au ?_ | refine Need.au ?_ | refine Pick.map (by assumption) ?_ | refine Pick.mapI (by omega) (by assumption) ?_ | refine PickN.mk _ (by assumption) ?_ | refine PickN.mk _ rfl ?_ | refine PickN.au ?_ | refine App.au rfl ?_ | refine App.au (own_map (fun _ => rfl) _) ?_ | refine Both.mk ?_ ?_ | exact True.intro
          rfl
        have ht3 : telI f k e i = if (if (k : Int) = e.m then againstF i.op else i.op) = 4 then (0, 0, 0) else (if (k : Int) = e.m then againstF i.op else i.op, i.a, i.b) := by
          unfold telI; rw [if_neg (fun h => h6 h.1), if_neg (by rw [hgd]; omega)]
        rw [ht3]
        clear ht3
        repeat' first | refine Len.map ?_ | refine Len.nil ?_ | refine Len.cons ?_ | refine Br.t rfl ?_ | refine Br.f rfl ?_ | refine Fit.au ?_ | refine Need.au ?_ | refine Pick.map (by assumption) ?_ | refine Pick.mapI (by omega) (by assumption) ?_ | refine PickN.mk _ (by assumption) ?_ | refine PickN.mk _ rfl ?_ | refine PickN.au ?_ | refine App.au rfl ?_ | refine App.au (own_map (fun _ => rfl) _) ?_ | refine Both.mk ?_ ?_ | exact True.intro
        refine Br.d (fun h7 => ?_) (fun h7 => ?_)
        · rw [if_pos h7]
          repeat' first | refine Call.eq (Against49_spec _) rfl ?_ | refine Len.map ?_ | refine Len.nil ?_ | refine Len.cons ?_ | refine Br.t rfl ?_ | refine Br.f rfl ?_ | refine Fit.au ?_ | refine Need.au ?_ | refine Pick.map (by assumption) ?_ | refine Pick.mapI (by omega) (by assumption) ?_ | refine PickN.mk _ (by assumption) ?_ | refine PickN.mk _ rfl ?_ | refine PickN.au ?_ | refine App.au rfl ?_ | refine App.au (own_map (fun _ => rfl) _) ?_ | refine Both.mk ?_ ?_ | exact True.intro
          refine Br.d (fun h10 => ?_) (fun h10 => ?_)
          · rw [if_pos h10]
            repeat' first | refine Len.map ?_ | refine Len.nil ?_ | refine Len.cons ?_ | refine Br.t rfl ?_ | refine Br.f rfl ?_ | refine Fit.au ?_ | refine Need.au ?_ | refine Pick.map (by assumption) ?_ | refine Pick.mapI (by omega) (by assumption) ?_ | refine PickN.mk _ (by assumption) ?_ | refine PickN.mk _ rfl ?_ | refine PickN.au ?_ | refine App.au rfl ?_ | refine App.au (own_map (fun _ => rfl) _) ?_ | refine Both.mk ?_ ?_ | exact True.intro
            rfl
          · rw [if_neg h10]
            repeat' first | refine Draw.mk (ordL [] [0, 1, 2, 3, 4, 5, 6, 7]) (by decide +kernel) ?_ | refine Draw.mk (ordL [5] [0, 1, 2, 3, 4, 6, 5, 7, 8, 9, 10, 11, 12, 13, 14, 15, 16]) (by decide +kernel) ?_ | refine Draw.mk (ordL [] [0, 1, 2, 3, 4]) (by decide +kernel) ?_ | refine Len.map ?_ | refine Len.nil ?_ | refine Len.cons ?_ | refine Br.t rfl ?_ | refine Br.f rfl ?_ | refine Fit.au ?_ | refine Need.au ?_ | refine Pick.map (by assumption) ?_ | refine Pick.mapI (by omega) (by assumption) ?_ | refine PickN.mk _ (by assumption) ?_ | refine PickN.mk _ rfl ?_ | refine PickN.au ?_ | refine App.au rfl ?_ | refine App.au (own_map (fun _ => rfl) _) ?_ | refine Both.mk ?_ ?_ | exact True.intro
            all_goals rfl
        · rw [if_neg h7]
          repeat' first | refine Len.map ?_ | refine Len.nil ?_ | refine Len.cons ?_ | refine Br.t rfl ?_ | refine Br.f rfl ?_ | refine Fit.au ?_ | refine Need.au ?_ | refine Pick.map (by assumption) ?_ | refine Pick.mapI (by omega) (by assumption) ?_ | refine PickN.mk _ (by assumption) ?_ | refine PickN.mk _ rfl ?_ | refine PickN.au ?_ | refine App.au rfl ?_ | refine App.au (own_map (fun _ => rfl) _) ?_ | refine Both.mk ?_ ?_ | exact True.intro
          refine Br.d (fun h10 => ?_) (fun h10 => ?_)
          · rw [if_pos h10]
            repeat' first | refine Len.map ?_ | refine Len.nil ?_ | refine Len.cons ?_ | refine Br.t rfl ?_ | refine Br.f rfl ?_ | refine Fit.au ?_ | refine Need.au ?_ | refine Pick.map (by assumption) ?_ | refine Pick.mapI (by omega) (by assumption) ?_ | refine PickN.mk _ (by assumption) ?_ | refine PickN.mk _ rfl ?_ | refine PickN.au ?_ | refine App.au rfl ?_ | refine App.au (own_map (fun _ => rfl) _) ?_ | refine Both.mk ?_ ?_ | exact True.intro
            rfl
          · rw [if_neg h10]
            repeat' first | refine Draw.mk (ordL [] [0, 1, 2, 3, 4, 5, 6, 7]) (by decide +kernel) ?_ | refine Draw.mk (ordL [5] [0, 1, 2, 3, 4, 6, 5, 7, 8, 9, 10, 11, 12, 13, 14, 15, 16]) (by decide +kernel) ?_ | refine Draw.mk (ordL [] [0, 1, 2, 3, 4]) (by decide +kernel) ?_ | refine Len.map ?_ | refine Len.nil ?_ | refine Len.cons ?_ | refine Br.t rfl ?_ | refine Br.f rfl ?_ | refine Fit.au ?_ | refine Need.au ?_ | refine Pick.map (by assumption) ?_ | refine Pick.mapI (by omega) (by assumption) ?_ | refine PickN.mk _ (by assumption) ?_ | refine PickN.mk _ rfl ?_ | refine PickN.au ?_ | refine App.au rfl ?_ | refine App.au (own_map (fun _ => rfl) _) ?_ | refine Both.mk ?_ ?_ | exact True.intro
            all_goals rfl
end Go.Proofs.Ytnfkdilmoppbpaa
