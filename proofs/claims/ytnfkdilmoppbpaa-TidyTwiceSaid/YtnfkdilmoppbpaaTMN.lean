/- The new numbers of blocks that are reached. No program is in sight here. -/
import Derived.Test.YtnfkdilmoppbpaaTMM
set_option linter.unusedVariables false
set_option linter.unusedSimpArgs false

namespace Go.Proofs.Ytnfkdilmoppbpaa
open Go.Ax
/-- How many are marked ahead of one. -/
def rank (l : List Bool) (k : Nat) : Nat := (l.take k).count true
theorem rank_succ {l : List Bool} {k : Nat} {b : Bool} (h : l[k]? = some b) : rank l (k + 1) = rank l k + if b = true then 1 else 0 := by
  unfold rank; rw [take_succ h, List.count_append]; cases b <;> simp
theorem rank_le (l : List Bool) : ∀ {j k : Nat}, j ≤ k → rank l j ≤ rank l k := by
  intro j k h
  unfold rank
  rw [show j = min j k by omega, ← List.take_take]
  exact (List.take_sublist _ _).count_le _
theorem rank_lt {l : List Bool} {j k : Nat} (h : l[j]? = some true) (hjk : j < k) : rank l j < rank l k := by
  have h1 := rank_succ h
  have h2 := rank_le l (show j + 1 ≤ k by omega)
  rw [if_pos rfl] at h1
  omega
theorem rank_inj {l : List Bool} {j k : Nat} (hj : l[j]? = some true) (hk : l[k]? = some true) (h : rank l j = rank l k) : j = k := by
  rcases Nat.lt_trichotomy j k with h1 | h1 | h1
  · have := rank_lt hj h1; omega
  · exact h1
  · have := rank_lt hk h1; omega
theorem numF_at : ∀ {l : List Bool} {k : Nat} {n : Int}, (l[k]? = some true → (numF n l)[k]? = some (n + rank l k)) ∧ (l[k]? = some false → (numF n l)[k]? = some (-1))
  | [], k, n => by simp
  | true :: l, 0, n => by simp [numF, rank]
  | false :: l, 0, n => by simp [numF, rank]
  | true :: l, k + 1, n => by
    have ih := @numF_at l k (n + 1)
    simp only [numF, List.getElem?_cons_succ]
    refine ⟨fun h => ?_, ih.2⟩
    rw [ih.1 h]
    unfold rank
    simp only [List.take_succ_cons, List.count_cons_self]
    congr 1
    push_cast
    omega
  | false :: l, k + 1, n => by
    have ih := @numF_at l k n
    simp only [numF, List.getElem?_cons_succ]
    refine ⟨fun h => ?_, ih.2⟩
    rw [ih.1 h]
    unfold rank
    simp
/-- A block's marks. -/
noncomputable def live (f : Fun) : List Bool := marksF (succsF f) (-1)
theorem live_len (f : Fun) : (live f).length = f.blocks.length := by unfold live; rw [marksF_len, succsF_len]
theorem map_live {f : Fun} {k : Nat} (h : (live f)[k]? = some true) : (mapF f)[k]? = some (rank (live f) k : Int) := by
  have := (@numF_at (live f) k 0).1 h
  rw [Int.zero_add] at this; exact this
theorem map_dead {f : Fun} {k : Nat} (h : (live f)[k]? = some false) : (mapF f)[k]? = some (-1) := (@numF_at (live f) k 0).2 h
/-- A block of the tidy function. -/
noncomputable def tblk (f : Fun) (k : Nat) : List Ins := (f.blocks.getD k []).map fun i => movedF i ((predsF (succsF f)).getD k []) (mapF f)
theorem tidyTo_at (f : Fun) : ∀ (k : Nat), k ≤ f.blocks.length → (tidyTo f (predsF (succsF f)) (mapF f) k).length = rank (live f) k ∧ ∀ j, j < k → (live f)[j]? = some true → (tidyTo f (predsF (succsF f)) (mapF f) k)[rank (live f) j]? = some (tblk f j)
  | 0, _ => ⟨rfl, fun j h => by omega⟩
  | k + 1, hk => by
    obtain ⟨h1, h2⟩ := tidyTo_at f k (by omega)
    obtain ⟨b, hb, -⟩ := getK (l := live f) (k := k) (by rw [live_len]; omega)
    have hr := rank_succ hb
    simp only [tidyTo]
    cases b with
    | true =>
      have hm : (mapF f).getD k 0 = (rank (live f) k : Int) := by rw [List.getD_eq_getElem?_getD, map_live hb]; rfl
      rw [if_pos (by rw [hm]; omega)]
      rw [if_pos rfl] at hr
      refine ⟨by rw [List.length_append, h1, hr]; rfl, fun j hj hlj => ?_⟩
      by_cases e : j = k
      · subst e
        rw [List.getElem?_append_right (by omega), h1, Nat.sub_self]
        rfl
      · have := rank_lt hlj (show j < k by omega)
        rw [List.getElem?_append_left (by omega)]
        exact h2 j (by omega) hlj
    | false =>
      have hm : (mapF f).getD k 0 = -1 := by rw [List.getD_eq_getElem?_getD, map_dead hb]; rfl
      rw [if_neg (by rw [hm]; omega), List.append_nil]
      refine ⟨by rw [h1, hr]; simp, fun j hj hlj => ?_⟩
      by_cases e : j = k
      · subst e; rw [hb] at hlj; cases hlj
      · exact h2 j (by omega) hlj
theorem tidyF_len (f : Fun) : (tidyF f).blocks.length = rank (live f) f.blocks.length := (tidyTo_at f _ (Nat.le_refl _)).1
theorem tidyF_at {f : Fun} {j : Nat} (h : (live f)[j]? = some true) : (tidyF f).blocks[rank (live f) j]? = some (tblk f j) := by
  have hj := (List.getElem?_eq_some_iff.1 h).1
  rw [live_len] at hj
  exact (tidyTo_at f _ (Nat.le_refl _)).2 j hj h
/-- Each new number is a reached block's one. -/
theorem rank_onto (l : List Bool) : ∀ (k : Nat), k ≤ l.length → ∀ n, n < rank l k → ∃ j, j < k ∧ l[j]? = some true ∧ rank l j = n
  | 0, _, n, h => by simp [rank] at h
  | k + 1, hk, n, h => by
    obtain ⟨b, hb, -⟩ := getK (l := l) (k := k) (by omega)
    rw [rank_succ hb] at h
    by_cases hn : n < rank l k
    · obtain ⟨j, h1, h2, h3⟩ := rank_onto l k (by omega) n hn
      exact ⟨j, by omega, h2, h3⟩
    · cases b with
      | true => exact ⟨k, by omega, hb, by rw [if_pos rfl] at h; omega⟩
      | false => simp at h; omega
end Go.Proofs.Ytnfkdilmoppbpaa

/- Goals of reached blocks are reached; instructions moved. No program is in sight here. -/
namespace Go.Proofs.Ytnfkdilmoppbpaa
open Go.Ax
theorem targets_r {i : Ins} (h : right15 i = true) : targetsF i = if i.op = 41 then [i.n] else if i.op = 42 then [i.n, i.m] else [] := by
  unfold targetsF; simp [h]
section
variable {p : Pro} {f : Fun} (h : funP p f)
include h
theorem goal_live {k j : Nat} {b : List Ins} {i : Ins} (gb : f.blocks[k]? = some b) (gi : b[j]? = some i) (hk : (live f)[k]? = some true) {t : Int} (ht : t ∈ targetsF i) : 0 ≤ t ∧ (live f)[t.toNat]? = some true := by
  have h1 := (h.2 k b gb).2 j i gi
  have hr := h1.1.1
  have htp := targetsF_pos i t ht
  have hlt := (h1.2.1.2.2.1 t ht).2
  have he : endsF i.op = true := by
    rw [targets_r hr] at ht
    unfold endsF
    split at ht
    · simp; omega
    · split at ht
      · simp; omega
      · simp at ht
  have hj := h1.1.2.1.1 he
  have hs : (succsF f)[k]? = some (succ1 f.blocks.length b) := by unfold succsF; rw [List.getElem?_map, gb]; rfl
  have hm : t ∈ succ1 f.blocks.length b := by
    unfold succ1
    rw [show b.length - 1 = j by omega, gi]
    exact List.mem_filter.2 ⟨ht, decide_eq_true hlt⟩
  refine ⟨htp, marksF_at.2 ⟨by rw [succsF_len]; omega, ?_⟩⟩
  rw [show ((t.toNat : Nat) : Int) = t by omega]
  exact .step (marksF_at.1 hk).2 hs hm (by omega)
theorem map_goal {k j : Nat} {b : List Ins} {i : Ins} (gb : f.blocks[k]? = some b) (gi : b[j]? = some i) (hk : (live f)[k]? = some true) {t : Int} (ht : t ∈ targetsF i) : (mapF f).getD t.toNat 0 = (rank (live f) t.toNat : Int) := by
  rw [List.getD_eq_getElem?_getD, map_live (goal_live h gb gi hk ht).2]; rfl
/-- What is left of an instruction. -/
theorem moved_cases {k j : Nat} {b : List Ins} {i : Ins} (gb : f.blocks[k]? = some b) (gi : b[j]? = some i) (hk : (live f)[k]? = some true) (q : List Int) :
    (i.op = 41 ∧ movedF i q (mapF f) = { i with n := (rank (live f) i.n.toNat : Int) }) ∨
    (i.op = 42 ∧ movedF i q (mapF f) = { i with n := (rank (live f) i.n.toNat : Int), m := (rank (live f) i.m.toNat : Int) }) ∨
    (i.op = 44 ∧ movedF i q (mapF f) = { i with args := keptA (mapF f) q i.args }) ∨
    (i.op ≠ 41 ∧ i.op ≠ 42 ∧ i.op ≠ 44 ∧ movedF i q (mapF f) = i) := by
  have hr := ((h.2 k b gb).2 j i gi).1.1
  have htg := targets_r hr
  have hg := fun t ht => map_goal h gb gi hk (t := t) ht
  unfold movedF movedN movedM
  by_cases h41 : i.op = 41
  · left
    rw [if_pos h41] at htg
    rw [htg, if_neg (by omega)]
    dsimp only
    rw [hg i.n (by rw [htg]; simp)]
    exact ⟨h41, rfl⟩
  by_cases h42 : i.op = 42
  · right; left
    rw [if_neg h41, if_pos h42] at htg
    rw [htg, if_neg (by omega)]
    dsimp only
    rw [hg i.n (by rw [htg]; simp), hg i.m (by rw [htg]; simp)]
    exact ⟨h42, rfl⟩
  rw [if_neg h41, if_neg h42] at htg
  rw [htg]
  by_cases h44 : i.op = 44
  · right; right; left
    rw [if_pos h44]
    exact ⟨h44, rfl⟩
  · right; right; right
    rw [if_neg h44]
    exact ⟨h41, h42, h44, rfl⟩
end
theorem keptA_mem {m q args : List Int} {x : Int} (h : x ∈ keptA m q args) : x ∈ args := by
  unfold keptA at h
  obtain ⟨⟨a, b⟩, h1, rfl⟩ := List.mem_map.1 h
  exact (List.of_mem_zip (List.mem_filter.1 h1).1).2
theorem right_jump {i : Ins} (h : right15 i = true) (e : i.op = 41) (n : Nat) : right15 { i with n := (n : Int) } = true := by
  obtain ⟨op, dst, a, b, c, n0, m, site, args⟩ := i
  dsimp only at e
  subst e
  unfold right15 fitsF tailF tailA bF at *
  simp_all
theorem right_branch {i : Ins} (h : right15 i = true) (e : i.op = 42) (n m : Nat) (hnm : n ≠ m) : right15 { i with n := (n : Int), m := (m : Int) } = true := by
  obtain ⟨op, dst, a, b, c, n0, m0, site, args⟩ := i
  dsimp only at e
  subst e
  unfold right15 fitsF tailF tailA bF at *
  simp_all
  omega
theorem right_phi {i : Ins} (h : right15 i = true) (e : i.op = 44) (args : List Int) (ha : ∀ x ∈ args, x ∈ i.args) (hl : 1 ≤ args.length) : right15 { i with args := args } = true := by
  obtain ⟨op, dst, a, b, c, n0, m0, site, args0⟩ := i
  dsimp only at e ha
  subst e
  unfold right15 fitsF tailF tailA bF at *
  simp_all
end Go.Proofs.Ytnfkdilmoppbpaa

/- Where the blocks of a tidy function go: all are reached. No program is in sight here. -/
namespace Go.Proofs.Ytnfkdilmoppbpaa
open Go.Ax
section
variable {p : Pro} {f : Fun} (h : funP p f)
include h
theorem right_moved {k j : Nat} {b : List Ins} {i : Ins} (gb : f.blocks[k]? = some b) (gi : b[j]? = some i) (hk : (live f)[k]? = some true) (q : List Int) (h44 : i.op ≠ 44) : right15 (movedF i q (mapF f)) = true := by
  have hr := ((h.2 k b gb).2 j i gi).1.1
  have hg := fun t ht => goal_live h gb gi hk (t := t) ht
  have htg := targets_r hr
  rcases moved_cases h gb gi hk q with ⟨e, em⟩ | ⟨e, em⟩ | ⟨e, em⟩ | ⟨e1, e2, e3, em⟩
  · rw [em]; exact right_jump hr e _
  · rw [em]
    rw [if_neg (by omega), if_pos e] at htg
    have h1 := hg i.n (by rw [htg]; simp)
    have h2 := hg i.m (by rw [htg]; simp)
    refine right_branch hr e _ _ fun hh => ?_
    have h3 := rank_inj h1.2 h2.2 hh
    have h4 : i.m ≠ i.n := by
      unfold right15 tailF tailA at hr
      simp [e] at hr
      omega
    omega
  · exact absurd e h44
  · rw [em]; exact hr
theorem targets_moved {k j : Nat} {b : List Ins} {i : Ins} (gb : f.blocks[k]? = some b) (gi : b[j]? = some i) (hk : (live f)[k]? = some true) (q : List Int) : targetsF (movedF i q (mapF f)) = (targetsF i).map fun t => (rank (live f) t.toNat : Int) := by
  have hr := ((h.2 k b gb).2 j i gi).1.1
  by_cases h44 : i.op = 44
  · rw [show targetsF i = [] by unfold targetsF; simp [h44]]
    unfold targetsF movedF
    simp [h44]
  have hr2 := right_moved h gb gi hk q h44
  have h1 := targets_r hr2
  rw [h1, targets_r hr]
  rcases moved_cases h gb gi hk q with ⟨e, em⟩ | ⟨e, em⟩ | ⟨e, em⟩ | ⟨e1, e2, e3, em⟩
  · rw [em]; simp [e]
  · rw [em]; simp [e]
  · exact absurd e h44
  · rw [em]; simp [e1, e2]
omit h in
theorem tblk_at {k j : Nat} {b : List Ins} {i : Ins} (gb : f.blocks[k]? = some b) (gi : b[j]? = some i) : (tblk f k)[j]? = some (movedF i ((predsF (succsF f)).getD k []) (mapF f)) := by
  unfold tblk
  rw [List.getD_eq_getElem?_getD (l := f.blocks), gb, List.getElem?_map]
  show (b[j]?).map _ = _
  rw [gi]; rfl
omit h in
theorem tblk_len {k : Nat} {b : List Ins} (gb : f.blocks[k]? = some b) : (tblk f k).length = b.length := by
  unfold tblk
  rw [List.getD_eq_getElem?_getD (l := f.blocks), gb, List.length_map]; rfl
omit h in
theorem rank_bound {k : Nat} (hk : (live f)[k]? = some true) : rank (live f) k < (tidyF f).blocks.length := by
  rw [tidyF_len]
  have h1 := (List.getElem?_eq_some_iff.1 hk).1
  rw [live_len] at h1
  exact rank_lt hk h1
theorem succs_old {k : Nat} {b : List Ins} {i : Ins} (gb : f.blocks[k]? = some b) (gi : b[b.length - 1]? = some i) : (succsF f)[k]? = some (targetsF i) := by
  unfold succsF
  rw [List.getElem?_map, gb]
  show some (succ1 _ b) = _
  unfold succ1
  rw [gi]
  congr 1
  exact List.filter_eq_self.2 fun t ht => decide_eq_true (((h.2 k b gb).2 _ i gi).2.1.2.2.1 t ht).2
theorem succs_new {k : Nat} {b : List Ins} {i : Ins} (gb : f.blocks[k]? = some b) (gi : b[b.length - 1]? = some i) (hk : (live f)[k]? = some true) : (succsF (tidyF f))[rank (live f) k]? = some ((targetsF i).map fun t => (rank (live f) t.toNat : Int)) := by
  unfold succsF
  rw [List.getElem?_map, tidyF_at hk]
  show some (succ1 _ (tblk f k)) = _
  unfold succ1
  rw [tblk_len gb, tblk_at gb gi]
  congr 1
  show below (tidyF f).blocks.length (targetsF (movedF i _ (mapF f))) = _
  rw [targets_moved h gb gi hk]
  refine List.filter_eq_self.2 fun t ht => decide_eq_true ?_
  obtain ⟨u, hu, rfl⟩ := List.mem_map.1 ht
  have := rank_bound (goal_live h gb gi hk hu).2
  omega
theorem reach_new {t : Int} (ht : Reaches (succsF f) (-1) t) : Reaches (succsF (tidyF f)) (-1) (rank (live f) t.toNat : Int) := by
  induction ht with
  | zero h1 h2 =>
    have h3 : (live f)[0]? = some true := marksF_at.2 ⟨List.length_pos_iff.2 h1, .zero h1 h2⟩
    have h4 := rank_bound h3
    refine .zero (fun e => ?_) (by decide)
    have := succsF_len (tidyF f)
    rw [e] at this
    simp at this
    omega
  | @step k t l hp hl ht hx ih =>
    have hkl := (List.getElem?_eq_some_iff.1 hl).1
    have hk : (live f)[k]? = some true := marksF_at.2 ⟨hkl, hp⟩
    rw [succsF_len] at hkl
    obtain ⟨b, gb, -⟩ := getK (l := f.blocks) (k := k) hkl
    have hb := (h.2 k b gb).1
    obtain ⟨i, gi, -⟩ := getK (l := b) (k := b.length - 1) (by omega)
    rw [succs_old h gb gi] at hl
    cases hl
    rw [Int.toNat_natCast] at ih
    exact .step ih (succs_new h gb gi hk) (List.mem_map.2 ⟨t, ht, rfl⟩) (by omega)
theorem live_new {n : Nat} (hn : n < (tidyF f).blocks.length) : (live (tidyF f))[n]? = some true := by
  rw [tidyF_len] at hn
  obtain ⟨j, h1, h2, h3⟩ := rank_onto (live f) f.blocks.length (by rw [live_len]; omega) n hn
  have h4 := reach_new h (marksF_at.1 h2).2
  rw [Int.toNat_natCast, h3] at h4
  refine marksF_at.2 ⟨by rw [succsF_len, tidyF_len]; exact hn, h4⟩
theorem live_all : live (tidyF f) = List.replicate (tidyF f).blocks.length true := by
  refine List.ext_getElem? fun n => ?_
  by_cases hn : n < (tidyF f).blocks.length
  · rw [live_new h hn, List.getElem?_replicate, if_pos hn]
  · rw [List.getElem?_eq_none (by rw [live_len]; omega), List.getElem?_eq_none (by simp; omega)]
theorem map_new {n : Nat} (hn : n < (tidyF f).blocks.length) : (mapF (tidyF f))[n]? = some (n : Int) := by
  rw [map_live (live_new h hn), live_all h]
  unfold rank
  rw [List.take_replicate, List.count_replicate]
  simp; omega
end
end Go.Proofs.Ytnfkdilmoppbpaa

/- How many come into a block of a tidy function. No program is in sight here. -/
namespace Go.Proofs.Ytnfkdilmoppbpaa
open Go.Ax
theorem keptA_count {m q args : List Int} (h : args.length = q.length) : (keptA m q args).length = q.countP fun x => decide (0 ≤ m.getD x.toNat 0) := by
  unfold keptA
  rw [List.length_map, ← List.countP_eq_length_filter]
  have h1 : (q.zip args).map Prod.fst = q := List.map_fst_zip (by omega)
  conv => rhs; rw [← h1]
  rw [List.countP_map]
  rfl
theorem map_sign {f : Fun} {j : Nat} (hj : j < f.blocks.length) : decide (0 ≤ (mapF f).getD j 0) = decide ((live f)[j]? = some true) := by
  obtain ⟨b, hb, -⟩ := getK (l := live f) (k := j) (by rw [live_len]; exact hj)
  rw [hb, List.getD_eq_getElem?_getD]
  cases b with
  | true => rw [map_live hb]; simp
  | false => rw [map_dead hb]; simp
theorem pred_kept {f : Fun} {k : Nat} (hk : k < f.blocks.length) : ((predsF (succsF f)).getD k []).countP (fun x => decide (0 ≤ (mapF f).getD x.toNat 0)) =
    (List.range f.blocks.length).countP (fun j => decide ((live f)[j]? = some true) && goesTo k (f.blocks.getD j [])) := by
  have hq : (predsF (succsF f)).getD k [] = predOf (succsF f) k (succsF f).length := by
    unfold predsF
    rw [List.getD_eq_getElem?_getD, List.getElem?_map, List.getElem?_range (by rw [succsF_len]; exact hk)]
    rfl
  rw [hq]
  unfold predOf
  rw [List.countP_map, List.countP_filter, succsF_len]
  refine List.countP_congr fun j hj => ?_
  have hj := List.mem_range.1 hj
  simp only [Function.comp, Int.toNat_natCast]
  rw [map_sign hj]
  have e : decide ((k : Int) ∈ (succsF f)[j]?.getD []) = goesTo k (f.blocks.getD j []) := by
    unfold succsF
    rw [List.getElem?_map, List.getD_eq_getElem?_getD, List.getElem?_eq_getElem hj]
    simp only [Option.map_some, Option.getD_some]
    rw [Bool.eq_iff_iff, decide_eq_true_iff]
    exact mem_succ1 hk
  rw [e]
section
variable {p : Pro} {f : Fun} (h : funP p f)
include h
theorem goes_new {k j : Nat} (hk : (live f)[k]? = some true) (hj : (live f)[j]? = some true) : goesTo (rank (live f) k : Int) (tblk f j) = goesTo k (f.blocks.getD j []) := by
  have hjl := (List.getElem?_eq_some_iff.1 hj).1
  rw [live_len] at hjl
  obtain ⟨b, gb, -⟩ := getK (l := f.blocks) (k := j) hjl
  have hb := (h.2 j b gb).1
  obtain ⟨i, gi, -⟩ := getK (l := b) (k := b.length - 1) (by omega)
  have hd : f.blocks.getD j [] = b := by rw [List.getD_eq_getElem?_getD, gb]; rfl
  rw [hd]
  unfold goesTo
  rw [tblk_len gb, tblk_at gb gi, gi]
  show decide (_ ∈ targetsF (movedF i _ (mapF f))) = decide (_ ∈ targetsF i)
  rw [targets_moved h gb gi hj, Bool.eq_iff_iff, decide_eq_true_iff, decide_eq_true_iff]
  constructor
  · intro hm
    obtain ⟨t, ht, e⟩ := List.mem_map.1 hm
    obtain ⟨h1, h2⟩ := goal_live h gb gi hj ht
    have := rank_inj h2 hk (by omega)
    rw [show (k : Int) = t by omega]
    exact ht
  · intro hm
    exact List.mem_map.2 ⟨k, hm, by rw [Int.toNat_natCast]⟩
theorem count_new {k : Nat} (hk : (live f)[k]? = some true) : ∀ K, K ≤ f.blocks.length → (tidyTo f (predsF (succsF f)) (mapF f) K).countP (goesTo (rank (live f) k : Int)) = (List.range K).countP (fun j => decide ((live f)[j]? = some true) && goesTo k (f.blocks.getD j []))
  | 0, _ => rfl
  | K + 1, hK => by
    rw [List.range_succ, List.countP_append, ← count_new hk K (by omega)]
    simp only [tidyTo]
    rw [List.countP_append]
    congr 1
    obtain ⟨b, hb, -⟩ := getK (l := live f) (k := K) (by rw [live_len]; omega)
    have hs := map_sign (f := f) (j := K) (by omega)
    rw [hb] at hs
    cases b with
    | true =>
      rw [if_pos (by simpa using hs)]
      have hg := goes_new h hk hb
      unfold tblk at hg
      rw [List.countP_cons, List.countP_nil, List.countP_cons, List.countP_nil, hg, hb]
      simp
    | false =>
      rw [if_neg (by simpa using hs), List.countP_nil, List.countP_cons, List.countP_nil, hb]
      simp
theorem predCount_new {k : Nat} (hk : (live f)[k]? = some true) {args : List Int} (ha : (args.length : Int) = predCount f k) :
    ((keptA (mapF f) ((predsF (succsF f)).getD k []) args).length : Int) = predCount (tidyF f) (rank (live f) k) := by
  have hkl := (List.getElem?_eq_some_iff.1 hk).1
  rw [live_len] at hkl
  have hq : ((predsF (succsF f)).getD k []).length = predCount f k := by
    unfold predsF
    rw [List.getD_eq_getElem?_getD, List.getElem?_map, List.getElem?_range (by rw [succsF_len]; exact hkl)]
    exact predCount_len f k hkl
  rw [keptA_count (by omega), pred_kept hkl]
  unfold predCount
  congr 1
  exact (count_new h hk f.blocks.length (Nat.le_refl _)).symm
/-- A reached block that is gone to is gone to from a reached one. -/
theorem pred_pos {k : Nat} (hk : (live f)[k]? = some true) (h0 : k ≠ 0) : 1 ≤ predCount (tidyF f) (rank (live f) k) := by
  have hr := (marksF_at.1 hk).2
  generalize hke : (k : Int) = t at hr
  cases hr with
  | zero _ _ => omega
  | @step j t l hp hl ht hx =>
    have hjl := (List.getElem?_eq_some_iff.1 hl).1
    have hj : (live f)[j]? = some true := marksF_at.2 ⟨hjl, hp⟩
    rw [succsF_len] at hjl
    unfold predCount
    rw [show (tidyF f).blocks = tidyTo f (predsF (succsF f)) (mapF f) f.blocks.length from rfl, count_new h hk f.blocks.length (Nat.le_refl _)]
    rw [show (1 : Nat) = 0 + 1 from rfl, Nat.add_one_le_iff, List.countP_pos_iff]
    refine ⟨j, List.mem_range.2 hjl, ?_⟩
    rw [Bool.and_eq_true]
    refine ⟨decide_eq_true hj, ?_⟩
    obtain ⟨b, gb, -⟩ := getK (l := f.blocks) (k := j) hjl
    have hd : f.blocks.getD j [] = b := by rw [List.getD_eq_getElem?_getD, gb]; rfl
    rw [hd]
    have hkl := (List.getElem?_eq_some_iff.1 hk).1
    rw [live_len] at hkl
    refine (mem_succ1 hkl).1 ?_
    have : (succsF f)[j]? = some (succ1 f.blocks.length b) := by unfold succsF; rw [List.getElem?_map, gb]; rfl
    rw [this] at hl
    cases hl
    rw [hke]; exact ht
end
end Go.Proofs.Ytnfkdilmoppbpaa

/- Nothing is wrong with what is tidy. No program is in sight here. -/
namespace Go.Proofs.Ytnfkdilmoppbpaa
open Go.Ax
theorem phi_fits {i : Ins} (h : right15 i = true) (e : i.op = 44) : 1 ≤ i.args.length := by
  unfold right15 tailF at h
  simp [e] at h
  omega
theorem uses_args {i : Ins} (h : right15 i = true) (e : i.op = 44) : usesF i = i.args := by
  unfold usesF
  rw [if_pos h]
  have h1 : (abF i.op || oneF i.op) = false := by unfold abF twoF oneF; simp [e]
  have h2 : bF i = false := by unfold bF abF twoF; simp [e]
  rw [h1, h2]
  simp [e]
section
variable {p : Pro} {f : Fun} (h : funP p f)
include h
theorem no_zero : predCount f 0 = 0 := by
  unfold predCount
  rw [List.countP_eq_zero]
  intro b hb hg
  obtain ⟨k, gb⟩ := List.getElem?_of_mem hb
  unfold goesTo at hg
  cases gi : b[b.length - 1]? with
  | none => rw [gi] at hg; cases hg
  | some i =>
    rw [gi] at hg
    have h1 := ((h.2 k b gb).2 _ i gi).2.1.2.2.1 0 (by simpa using hg)
    exact h1.1 rfl
theorem live_zero : (live f)[0]? = some true := by
  have h0 := h.1.2.2
  have h1 : succsF f ≠ [] := by
    intro e
    have := succsF_len f
    rw [e] at this
    exact h0 (List.eq_nil_of_length_eq_zero this.symm)
  exact marksF_at.2 ⟨List.length_pos_iff.2 h1, .zero h1 (by decide)⟩
theorem right_all {k j : Nat} {b : List Ins} {i : Ins} (gb : f.blocks[k]? = some b) (gi : b[j]? = some i) (hk : (live f)[k]? = some true) : right15 (movedF i ((predsF (succsF f)).getD k []) (mapF f)) = true := by
  by_cases e : i.op = 44
  · have h1 := (h.2 k b gb).2 j i gi
    have hr := h1.1.1
    have hc := h1.2.1.2.2.2.2.2 e
    have hp := phi_fits hr e
    have hk0 : k ≠ 0 := by
      intro e0
      subst e0
      have := no_zero h
      have hc2 : (i.args.length : Int) = predCount f 0 := hc
      omega
    rcases moved_cases h gb gi hk ((predsF (succsF f)).getD k []) with ⟨e1, em⟩ | ⟨e1, em⟩ | ⟨e1, em⟩ | ⟨e1, e2, e3, em⟩
    · omega
    · omega
    · rw [em]
      have h2 := predCount_new h hk hc
      have h3 := pred_pos h hk hk0
      exact right_phi hr e _ (fun x hx => keptA_mem hx) (by omega)
    · exact absurd e e3
  · exact right_moved h gb gi hk _ e
theorem uses_new {k j : Nat} {b : List Ins} {i : Ins} (gb : f.blocks[k]? = some b) (gi : b[j]? = some i) (hk : (live f)[k]? = some true) (e : i.op ≠ 44) (q : List Int) : usesF (movedF i q (mapF f)) = usesF i := by
  have hr := ((h.2 k b gb).2 j i gi).1.1
  have hr2 := right_moved h gb gi hk q e
  rcases moved_cases h gb gi hk q with ⟨e1, em⟩ | ⟨e1, em⟩ | ⟨e1, em⟩ | ⟨e1, e2, e3, em⟩
  · rw [em] at hr2 ⊢
    unfold usesF bF
    rw [if_pos hr, if_pos hr2]
  · rw [em] at hr2 ⊢
    unfold usesF bF abF twoF
    rw [if_pos hr, if_pos hr2]
    simp [e1]
  · exact absurd e1 e
  · rw [em]
theorem one_new (tp : Pro) (hsi : tp.sites = p.sites) (hln : tp.funcs.length = p.funcs.length) (hcr : ∀ n, (tp.funcs.getD n fun0).regs = (p.funcs.getD n fun0).regs) (hcp : ∀ n, (tp.funcs.getD n fun0).params = (p.funcs.getD n fun0).params) (hct : ∀ n, (tp.funcs.getD n fun0).ret = (p.funcs.getD n fun0).ret)
    {k j : Nat} {b : List Ins} {i : Ins} (gb : f.blocks[k]? = some b) (gi : b[j]? = some i) (hk : (live f)[k]? = some true) :
    oneP tp (tidyF f) (rank (live f) k) (tblk f k) j (movedF i ((predsF (succsF f)).getD k []) (mapF f)) := by
  obtain ⟨⟨hr, hend, hphi⟩, ⟨t1, t2, t3, t4, t5, t6⟩, hks, hkw⟩ := (h.2 k b gb).2 j i gi
  have hr2 := right_all h gb gi hk
  have hop : (movedF i ((predsF (succsF f)).getD k []) (mapF f)).op = i.op := rfl
  have hdst : (movedF i ((predsF (succsF f)).getD k []) (mapF f)).dst = i.dst := rfl
  have hsite : (movedF i ((predsF (succsF f)).getD k []) (mapF f)).site = i.site := rfl
  have hcs := moved_cases h gb gi hk ((predsF (succsF f)).getD k [])
  have htg := targets_moved h gb gi hk ((predsF (succsF f)).getD k [])
  have hun := fun e => uses_new h gb gi hk e ((predsF (succsF f)).getD k [])
  have hpc := fun e => predCount_new h hk (t6 e)
  have hbk : f.blocks.getD k [] = b := by rw [List.getD_eq_getElem?_getD, gb]; rfl
  have hkeep : (tblk f k).take j = (b.take j).map fun i => movedF i ((predsF (succsF f)).getD k []) (mapF f) := by unfold tblk; rw [hbk, List.map_take]
  refine ⟨⟨hr2, ?_, ?_⟩, ⟨?_, ?_, ?_, ?_, ?_, ?_⟩, ?_, ?_⟩
  · rw [hop, tblk_len gb]; exact hend
  · intro e x hx
    rw [hkeep] at hx
    obtain ⟨y, hy, rfl⟩ := List.mem_map.1 hx
    exact hphi e y hy
  · have : def15 (movedF i ((predsF (succsF f)).getD k []) (mapF f)) = def15 i := by unfold def15; rw [hr2, hr, hop, hdst]
    rw [this]; exact t1
  · intro u hu
    by_cases e : i.op = 44
    · rw [uses_args hr2 (hop.trans e)] at hu
      rcases hcs with ⟨e1, em⟩ | ⟨e1, em⟩ | ⟨e1, em⟩ | ⟨e1, e2, e3, em⟩
      · omega
      · omega
      · rw [em] at hu
        exact t2 u (by rw [uses_args hr e]; exact keptA_mem hu)
      · exact absurd e e3
    · rw [hun e] at hu; exact t2 u hu
  · intro t ht
    rw [htg] at ht
    obtain ⟨u, hu, rfl⟩ := List.mem_map.1 ht
    obtain ⟨h1, h2⟩ := goal_live h gb gi hk hu
    have h3 := (t3 u hu).1
    have h4 := rank_lt (live_zero h) (show 0 < u.toNat by omega)
    have h5 := rank_bound h2
    omega
  · rw [hop, hsite, hsi]; exact t4
  · intro e
    rcases hcs with ⟨e1, em⟩ | ⟨e1, em⟩ | ⟨e1, em⟩ | ⟨e1, e2, e3, em⟩
    · exact absurd (hop.symm.trans e) (by omega)
    · exact absurd (hop.symm.trans e) (by omega)
    · exact absurd (hop.symm.trans e) (by omega)
    · rw [em] at e ⊢; rw [hln]; exact t5 e
  · intro e
    have e : i.op = 44 := e
    have h1 := hpc e
    rcases hcs with ⟨e1, em⟩ | ⟨e1, em⟩ | ⟨e1, em⟩ | ⟨e1, e2, e3, em⟩
    · omega
    · omega
    · rw [em]; exact h1
    · exact absurd e e3
  · by_cases e : i.op = 44
    · have hu2 := uses_args hr2 (hop.trans e)
      have hu1 := uses_args hr e
      have hk1 : ∀ (g : Fun) (r : Pro) (x : Ins), x.op = 44 → kindsF r g x = List.replicate (usesF x).length (g.regs.getD x.dst.toNat 0) := by intro g r x ex; unfold kindsF; simp [ex]
      rw [hk1 _ _ _ e] at hks
      rw [hk1 _ _ _ (hop.trans e), List.eq_replicate_iff]
      rw [List.eq_replicate_iff] at hks
      refine ⟨by rw [List.length_map], fun x hx => ?_⟩
      obtain ⟨u, hu, rfl⟩ := List.mem_map.1 hx
      rw [hu2] at hu
      rcases hcs with ⟨e1, em⟩ | ⟨e1, em⟩ | ⟨e1, em⟩ | ⟨e1, e2, e3, em⟩
      · omega
      · omega
      · rw [em] at hu
        exact hks.2 _ (List.mem_map.2 ⟨u, by rw [hu1]; exact keptA_mem hu, rfl⟩)
      · exact absurd e e3
    · have hks2 : kindsF tp (tidyF f) (movedF i ((predsF (succsF f)).getD k []) (mapF f)) = kindsF p f i := by
        rw [show ∀ x, kindsF tp (tidyF f) x = kindsF p f x by intro x; unfold kindsF; rw [hcr, hcp]; rfl]
        have hu := hun e
        rcases hcs with ⟨e1, em⟩ | ⟨e1, em⟩ | ⟨e1, em⟩ | ⟨e1, e2, e3, em⟩
        · rw [em] at hu ⊢; unfold kindsF; rw [hu]; simp [e1]
        · rw [em] at hu ⊢; unfold kindsF; rw [hu]; simp [e1]
        · exact absurd e1 e
        · rw [em]
      rw [hks2, hun e]; exact hks
  · intro e
    have h1 := hkw e
    rw [hdst]
    refine Eq.trans h1 ?_
    rw [show ∀ x, kindF tp (tidyF f) x = kindF p f x by intro x; unfold kindF; rw [hct]; rfl]
    rcases hcs with ⟨e1, em⟩ | ⟨e1, em⟩ | ⟨e1, em⟩ | ⟨e1, e2, e3, em⟩
    · rw [em]; unfold kindF; simp [e1]
    · rw [em]; unfold kindF; simp [e1]
    · rw [em]; unfold kindF; simp [e1]
    · rw [em]
end
end Go.Proofs.Ytnfkdilmoppbpaa

/- A tidy program is valid, and tidied again it stays as it is. No program is in sight here. -/
namespace Go.Proofs.Ytnfkdilmoppbpaa
open Go.Ax
noncomputable def tidyPro (p : Pro) : Pro := { p with funcs := p.funcs.map tidyF }
theorem tidyTo_sum (f : Fun) (q : List (List Int)) (m : List Int) : ∀ k, k ≤ f.blocks.length → ((tidyTo f q m k).map List.length).sum ≤ ((f.blocks.take k).map List.length).sum
  | 0, _ => by simp [tidyTo]
  | k + 1, hk => by
    have ih := tidyTo_sum f q m k (by omega)
    obtain ⟨b, gb, -⟩ := getK (l := f.blocks) (k := k) (by omega)
    have hb : f.blocks.getD k [] = b := by rw [List.getD_eq_getElem?_getD, gb]; rfl
    simp only [tidyTo]
    rw [take_succ gb, List.map_append, List.map_append, List.sum_append, List.sum_append, hb]
    have e1 : ([b].map List.length).sum = b.length := by simp
    split
    · have e2 : ([b.map fun i => movedF i (q.getD k []) m].map List.length).sum = b.length := by simp
      rw [e1, e2]; omega
    · have e2 : (([] : List (List Ins)).map List.length).sum = 0 := rfl
      rw [e1, e2]; omega
theorem tidyF_count (f : Fun) : (tidyF f).count ≤ f.count := by
  have := tidyTo_sum f (predsF (succsF f)) (mapF f) f.blocks.length (Nat.le_refl _)
  rw [List.take_length] at this
  exact this
theorem getD_tidy (p : Pro) (n : Nat) : ((tidyPro p).funcs.getD n fun0).regs = (p.funcs.getD n fun0).regs ∧ ((tidyPro p).funcs.getD n fun0).params = (p.funcs.getD n fun0).params ∧ ((tidyPro p).funcs.getD n fun0).ret = (p.funcs.getD n fun0).ret := by
  unfold tidyPro
  rw [List.getD_eq_getElem?_getD, List.getD_eq_getElem?_getD, List.getElem?_map]
  cases p.funcs[n]? <;> exact ⟨rfl, rfl, rfl⟩
theorem funP_tidy {p : Pro} {f : Fun} (h : funP p f) : funP (tidyPro p) (tidyF f) := by
  have hz := rank_bound (live_zero h)
  obtain ⟨⟨hl, hk, h0⟩, hb⟩ := h
  have hc := tidyF_count f
  have hlen := tidyTo_len f (predsF (succsF f)) (mapF f) f.blocks.length
  obtain ⟨l1, l2, l3, l4, l5, l6⟩ := hl
  refine ⟨⟨⟨l1, l2, l3, l4, ?_, by omega⟩, hk, ?_⟩, fun n c gc => ?_⟩
  · show (tidyTo _ _ _ _).length ≤ _; omega
  · intro e; rw [e] at hz; simp at hz
  · have hn := (List.getElem?_eq_some_iff.1 gc).1
    rw [tidyF_len] at hn
    obtain ⟨k, h1, h2, h3⟩ := rank_onto (live f) f.blocks.length (by rw [live_len]; omega) n hn
    rw [← h3, tidyF_at h2] at gc
    cases gc
    obtain ⟨b, gb, -⟩ := getK (l := f.blocks) (k := k) h1
    refine ⟨by rw [tblk_len gb]; exact (hb k b gb).1, fun j i gi => ?_⟩
    have hj := (List.getElem?_eq_some_iff.1 gi).1
    rw [tblk_len gb] at hj
    obtain ⟨x, gx, -⟩ := getK (l := b) (k := j) hj
    rw [tblk_at gb gx] at gi
    cases gi
    rw [← h3]
    exact one_new ⟨⟨⟨l1, l2, l3, l4, l5, l6⟩, hk, h0⟩, hb⟩ (tidyPro p) rfl (by unfold tidyPro; simp) (fun n => (getD_tidy p n).1) (fun n => (getD_tidy p n).2.1) (fun n => (getD_tidy p n).2.2) gb gx h2
theorem proP_tidy {p : Pro} (h : proP p) : proP (tidyPro p) := by
  obtain ⟨h1, h2, ⟨m1, m2, m3, m4, m5, m6⟩, h4⟩ := h
  obtain ⟨g1, g2, g3⟩ := getD_tidy p p.main.toNat
  refine ⟨by unfold tidyPro; simpa using h1, h2, ⟨m1, by unfold tidyPro; simpa using m2, ?_, ?_, ?_, ?_⟩, fun f hf => ?_⟩
  · exact g2.trans m3
  · show ((tidyPro p).funcs.getD p.main.toNat fun0).regs.length ≠ 0; rw [g1]; exact m4
  · show ((tidyPro p).funcs.getD p.main.toNat fun0).regs.getD 0 0 = 3; rw [g1]; exact m5
  · exact g3.trans m6
  · obtain ⟨g, hg, rfl⟩ := List.mem_map.1 hf
    exact funP_tidy (h4 g hg)
theorem keptA_all {m q args : List Int} (hl : args.length = q.length) (h : ∀ x ∈ q, 0 ≤ m.getD x.toNat 0) : keptA m q args = args := by
  unfold keptA
  rw [List.filter_eq_self.2 (fun x hx => decide_eq_true (h x.1 (List.of_mem_zip hx).1)), List.map_snd_zip (by omega)]
theorem rank_rep {N n : Nat} (h : n ≤ N) : rank (List.replicate N true) n = n := by
  unfold rank
  rw [List.take_replicate, List.count_replicate]
  simp; omega
theorem tidyF_twice {p : Pro} {f : Fun} (h : funP p f) : tidyF (tidyF f) = tidyF f := by
  have hg := funP_tidy h
  have hla := live_all h
  have hmap := fun n hn => map_new h (n := n) hn
  generalize tidyF f = g at *
  have hfix : ∀ (k : Nat) (b : List Ins), g.blocks[k]? = some b → ∀ i ∈ b, movedF i ((predsF (succsF g)).getD k []) (mapF g) = i := by
    intro k b gb i hi
    obtain ⟨j, gi⟩ := List.getElem?_of_mem hi
    have hkl := (List.getElem?_eq_some_iff.1 gb).1
    have hk : (live g)[k]? = some true := by rw [hla, List.getElem?_replicate, if_pos hkl]
    have h1 := (hg.2 k b gb).2 j i gi
    have htg := targets_r h1.1.1
    have hgl := fun t ht => goal_live hg gb gi hk (t := t) ht
    have hrk : ∀ t ∈ targetsF i, (rank (live g) t.toNat : Int) = t := by
      intro t ht
      obtain ⟨e1, e2⟩ := hgl t ht
      have e3 := (List.getElem?_eq_some_iff.1 e2).1
      rw [live_len] at e3
      rw [hla, rank_rep (by omega)]
      omega
    rcases moved_cases hg gb gi hk ((predsF (succsF g)).getD k []) with ⟨e, em⟩ | ⟨e, em⟩ | ⟨e, em⟩ | ⟨e1, e2, e3, em⟩
    · rw [em]
      rw [if_pos e] at htg
      rw [hrk i.n (by rw [htg]; simp)]
    · rw [em]
      rw [if_neg (by omega), if_pos e] at htg
      rw [hrk i.n (by rw [htg]; simp), hrk i.m (by rw [htg]; simp)]
    · rw [em]
      have hq : (predsF (succsF g)).getD k [] = predOf (succsF g) k (succsF g).length := by
        unfold predsF
        rw [List.getD_eq_getElem?_getD, List.getElem?_map, List.getElem?_range (by rw [succsF_len]; exact hkl)]
        rfl
      have hc := h1.2.1.2.2.2.2.2 e
      rw [keptA_all (by rw [hq, predCount_len g k hkl]; omega) (fun x hx => ?_)]
      rw [hq] at hx
      have hx2 := predOf_lt hx
      rw [succsF_len] at hx2
      rw [List.getD_eq_getElem?_getD, hmap x.toNat (by omega)]
      show (0 : Int) ≤ (x.toNat : Int)
      omega
    · exact em
  have key : ∀ k, k ≤ g.blocks.length → tidyTo g (predsF (succsF g)) (mapF g) k = g.blocks.take k := by
    intro k
    induction k with
    | zero => intro _; simp [tidyTo]
    | succ k ih =>
      intro hk
      obtain ⟨b, gb, -⟩ := getK (l := g.blocks) (k := k) (by omega)
      have hb : g.blocks.getD k [] = b := by rw [List.getD_eq_getElem?_getD, gb]; rfl
      simp only [tidyTo]
      rw [ih (by omega), take_succ gb, hb, List.getD_eq_getElem?_getD (l := mapF g), hmap k (by omega)]
      rw [if_pos (by simp)]
      congr 1
      rw [show b.map (fun i => movedF i ((predsF (succsF g)).getD k []) (mapF g)) = b.map id from List.map_congr_left fun i hi => hfix k b gb i hi, List.map_id]
  unfold tidyF
  rw [key _ (Nat.le_refl _), List.take_length]
theorem tidyPro_twice {p : Pro} (h : proP p) : tidyPro (tidyPro p) = tidyPro p := by
  unfold tidyPro
  dsimp only
  rw [List.map_map]
  congr 1
  exact List.map_congr_left fun f hf => tidyF_twice (h.2.2.2 f hf)
end Go.Proofs.Ytnfkdilmoppbpaa
