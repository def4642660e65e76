/- What an instruction reads, as the program says it. No program is in sight here. -/
import Derived.Test.YtdgibhndjdgllaaDoorG07
import Derived.Test.YtdgibhndjdgllaaDoorG06
set_option linter.unusedVariables false
set_option linter.unusedSimpArgs false

namespace Go.Proofs.YtdgibhndjdgllaaDoor
open Go.Ax
theorem bits {op : Int} (ho : opF op = true) : (band (hasF op) 2 ≠ 0 ↔ (abF op || oneF op) = true) ∧ (band (hasF op) 4 ≠ 0 ↔ abF op = true) ∧ (band (hasF op) 8 ≠ 0 ↔ op = 30) ∧ (band (hasF op) 2048 = 0 ↔ op ≠ 45) := by
  unfold opF at ho
  simp at ho
  have hh : (3 ≤ op ∧ op ≤ 16) ∨ (23 ≤ op ∧ op ≤ 28) ∨ op = 20 ∨ op = 21 ∨ op = 22 ∨ op = 29 ∨ op = 30 ∨ op = 31 ∨ op = 32 ∨ op = 33 ∨ op = 34 ∨ op = 35 ∨ op = 36 ∨ op = 37 ∨ op = 38 ∨ op = 39 ∨ op = 40 ∨ op = 41 ∨ op = 42 ∨ op = 43 ∨ op = 44 ∨ op = 45 := by omega
  unfold abF oneF twoF
  rcases hh with h | h | h | h | h | h | h | h | h | h | h | h | h | h | h | h | h | h | h | h | h | h
  · obtain ⟨b1, b2, b4, b8, b16, b32, b64, b128, b256, b512, b1024, b2048⟩ := bd7
    rw [show hasF op = 7 by unfold hasF; rw [if_pos (by omega)], b2, b4, b8, b2048]; simp; omega
  · obtain ⟨b1, b2, b4, b8, b16, b32, b64, b128, b256, b512, b1024, b2048⟩ := bd3
    rw [show hasF op = 3 by unfold hasF; rw [if_neg (by omega), if_pos (by omega)], b2, b4, b8, b2048]; simp; omega
  all_goals (rw [h]; decide)
end Go.Proofs.YtdgibhndjdgllaaDoor

/- Where blocks go and come from, as the program reckons it: lists that are filled. No program is in sight here. -/
namespace Go.Proofs.YtdgibhndjdgllaaDoor
open Go.Ax
/-- Lists, the first ones of which are done. -/
def outS {α : Type} (s : List (List α)) (k : Nat) : List (List α) := s.take k ++ List.replicate (s.length - k) []
theorem outS_len {α : Type} (s : List (List α)) {k : Nat} (h : k ≤ s.length) : (outS s k).length = s.length := by
  unfold outS; rw [List.length_append, List.length_take, List.length_replicate]; omega
theorem outS_at {α : Type} (s : List (List α)) {k : Nat} (h : k < s.length) : (outS s k)[k]? = some [] := by
  unfold outS
  rw [List.getElem?_append_right (by rw [List.length_take]; omega), List.length_take, List.getElem?_replicate, if_pos (by omega)]
theorem outS_succ {α : Type} {s : List (List α)} {k : Nat} {l : List α} (h : s[k]? = some l) : outS s (k + 1) = (outS s k).set k l := by
  have hk := (List.getElem?_eq_some_iff.1 h).1
  unfold outS
  rw [take_succ h, show s.length - k = (s.length - (k + 1)) + 1 by omega, List.replicate_succ, List.set_append_right _ _ (by rw [List.length_take]; omega), List.length_take, show k - min k s.length = 0 by omega, List.append_assoc]
  rfl
theorem outS_all {α : Type} (s : List (List α)) : outS s s.length = s := by unfold outS; simp
theorem outS_nil {α : Type} {s : List (List α)} {k : Nat} (h : s[k]? = some []) : outS s (k + 1) = outS s k := by
  have hk := (List.getElem?_eq_some_iff.1 h).1
  rw [outS_succ h]
  refine List.ext_getElem? fun j => ?_
  rw [List.getElem?_set]
  split
  · rename_i e; subst e; rw [if_pos (by rw [outS_len s (by omega)]; exact hk), outS_at s hk]
  · rfl
theorem set_at {α : Type} {s : List α} {k : Nat} {a b : α} (h : s[k]? = some b) : (s.set k a)[k]? = some a := by
  rw [List.getElem?_set_self (List.getElem?_eq_some_iff.1 h).1]
theorem below_succ {n : Nat} {l : List Int} {j : Nat} {t : Int} (h : l[j]? = some t) : below n (l.take (j + 1)) = if t < n then below n (l.take j) ++ [t] else below n (l.take j) := by
  unfold below
  rw [take_succ h, List.filter_append]
  split <;> simp_all
theorem below_len (n : Nat) (l : List Int) : (below n l).length ≤ l.length := List.length_filter_le _ _
/-- The blocks that go to each one, up to a block, and to a place in its list. -/
def predP (s : List (List Int)) (k j : Nat) (t : Nat) : List Int := ((List.range k).flatMap fun a : Nat => ((s[a]?.getD []).filter (· = (t : Int))).map fun _ => (a : Int)) ++ (((s[k]?.getD []).take j).filter (· = (t : Int))).map fun _ => (k : Int)
def predsP (s : List (List Int)) (k j : Nat) : List (List Int) := (List.range s.length).map fun t => predP s k j t
theorem predsP_len (s : List (List Int)) (k j : Nat) : (predsP s k j).length = s.length := by unfold predsP; simp
theorem predsP_zero (s : List (List Int)) : predsP s 0 0 = List.replicate s.length [] := by
  unfold predsP predP
  refine List.ext_getElem (by simp) fun i h1 h2 => ?_
  simp
theorem predsP_at {s : List (List Int)} {k j t : Nat} (h : t < s.length) : (predsP s k j)[t]? = some (predP s k j t) := by
  unfold predsP; rw [List.getElem?_map, List.getElem?_range h]; rfl
theorem predP_step {s : List (List Int)} {k j : Nat} {l : List Int} {t : Int} (hl : s[k]? = some l) (ht : l[j]? = some t) (u : Nat) : predP s k (j + 1) u = if (u : Int) = t then predP s k j u ++ [(k : Int)] else predP s k j u := by
  unfold predP
  simp only [hl, Option.getD_some]
  rw [take_succ ht, List.filter_append, List.map_append]
  by_cases e : (u : Int) = t
  · subst e; simp
  · rw [if_neg e]
    have : ¬ t = (u : Int) := fun h => e h.symm
    simp [this]
theorem predsP_step {s : List (List Int)} {k j : Nat} {l : List Int} {t : Nat} (hl : s[k]? = some l) (ht : l[j]? = some (t : Int)) (h : t < s.length) : predsP s k (j + 1) = (predsP s k j).set t (predP s k j t ++ [(k : Int)]) := by
  refine List.ext_getElem? fun u => ?_
  rw [List.getElem?_set]
  by_cases hu : u < s.length
  · rw [predsP_at hu, predP_step hl ht]
    by_cases e : t = u
    · subst e; rw [if_pos rfl, if_pos rfl, if_pos (by rw [predsP_len]; exact h)]
    · rw [if_neg (by omega), if_neg e, predsP_at hu]
  · rw [List.getElem?_eq_none (by rw [predsP_len]; omega)]
    rw [if_neg (by omega), List.getElem?_eq_none (by rw [predsP_len]; omega)]
theorem predsP_next {s : List (List Int)} {k : Nat} {l : List Int} (hl : s[k]? = some l) : predsP s k l.length = predsP s (k + 1) 0 := by
  unfold predsP
  refine List.map_congr_left fun t _ => ?_
  unfold predP
  rw [List.range_succ, List.flatMap_append]
  simp [hl]
theorem predP_len {s : List (List Int)} (hs : ∀ l ∈ s, l.length ≤ 2) (k j t : Nat) : (predP s k j t).length ≤ 2 * k + 2 := by
  have h1 : ∀ a : Nat, (s[a]?.getD []).length ≤ 2 := fun a => by
    cases h : s[a]? with
    | none => simp
    | some l => exact hs l (List.mem_of_getElem? h)
  unfold predP
  rw [List.length_append, List.length_map]
  have h2 : (((s[k]?.getD []).take j).filter (· = (t : Int))).length ≤ 2 := Nat.le_trans (List.length_filter_le _ _) (Nat.le_trans (by rw [List.length_take]; omega) (h1 k))
  have h3 : ∀ k : Nat, ((List.range k).flatMap fun a : Nat => ((s[a]?.getD []).filter (· = (t : Int))).map fun _ => (a : Int)).length ≤ 2 * k := by
    intro k
    induction k with
    | zero => simp
    | succ k ih =>
      rw [List.range_succ, List.flatMap_append, List.length_append]
      have := Nat.le_trans (List.length_filter_le (· = (t : Int)) (s[k]?.getD [])) (h1 k)
      simp only [List.flatMap_cons, List.flatMap_nil, List.append_nil, List.length_map]
      omega
  have := h3 k
  omega
theorem filter_nodup {l : List Int} (h : l.Nodup) (t : Int) (a : Int) : ((l.filter (· = t)).map fun _ => a) = if t ∈ l then [a] else [] := by
  induction l with
  | nil => simp
  | cons x l ih =>
    obtain ⟨h1, h2⟩ := List.nodup_cons.1 h
    by_cases e : x = t
    · subst e
      have : l.filter (· = x) = [] := List.filter_eq_nil_iff.2 fun y hy => by
        simp only [decide_eq_true_eq]
        exact fun e => h1 (e ▸ hy)
      simp [this]
    · rw [List.filter_cons_of_neg (by simpa using e), ih h2]
      have : ¬ t = x := fun h => e h.symm
      simp [this]
/-- Each list names none twice: then so do these. -/
theorem predP_eq {s : List (List Int)} (hs : ∀ l ∈ s, l.Nodup) (t : Nat) : ∀ k, predP s k 0 t = predOf s t k
  | 0 => by unfold predP predOf; simp
  | k + 1 => by
    have ih := predP_eq hs t k
    unfold predP predOf at *
    rw [List.range_succ, List.flatMap_append, List.filter_append, List.map_append, ← ih]
    simp only [List.take_zero, List.filter_nil, List.map_nil, List.append_nil, List.flatMap_cons, List.flatMap_nil, List.filter_cons, List.filter_nil]
    congr 1
    have h2 : (s[k]?.getD []).Nodup := by
      cases h : s[k]? with
      | none => simp
      | some l => exact hs l (List.mem_of_getElem? h)
    rw [filter_nodup h2]
    by_cases e : (t : Int) ∈ s[k]?.getD []
    · simp [e]
    · simp [e]
theorem targetsF_nodup (i : Ins) : (targetsF i).Nodup := by
  unfold targetsF
  split
  · simp
  · split
    · rename_i h
      have h2 := h.1
      unfold right15 tailF tailA at h2
      simp [h.2] at h2
      simp
      omega
    · simp
theorem succsF_nodup (f : Fun) : ∀ l ∈ succsF f, l.Nodup := by
  intro l hl
  unfold succsF at hl
  obtain ⟨b, _, rfl⟩ := List.mem_map.1 hl
  unfold succ1
  split
  · exact (targetsF_nodup _).filter _
  · simp
/-- The blocks that go to each one, as often as they do. -/
def predsD (s : List (List Int)) : List (List Int) := predsP s s.length 0
theorem predsD_eq (f : Fun) : predsD (succsF f) = predsF (succsF f) := by
  unfold predsD predsP predsF
  exact List.map_congr_left fun t _ => predP_eq (succsF_nodup f) t _
theorem predsD_len (s : List (List Int)) : (predsD s).length = s.length := predsP_len _ _ _
end Go.Proofs.YtdgibhndjdgllaaDoor

/- How facts flow: a problem, its parts as they are written. No program is in sight here. -/
namespace Go.Proofs.YtdgibhndjdgllaaDoor
open Go.Ax
def setL (s : List W) : List AV := [sets s]
def setsL (l : List (List W)) : AV := .sl false 1 (l.map setL)
def elst (l : List Int) : List AV := [.sl false 1 (l.map fun n => [num n])]
structure Prob where
  edges : List (List Int)
  back : Bool
  all : Bool
  width : Nat
  gen : List (List W)
  kill : List (List W)
  start : List W
def Prob.cs (p : Prob) : List AV := [.sl false 1 (p.edges.map elst), tru p.back, tru p.all, num p.width, setsL p.gen, setsL p.kill, sets p.start]
def probA (p : Prob) : AV := .agg p.cs
/-- It may be. -/
structure Prob.OK (p : Prob) : Prop where
  few : p.edges.length ≤ 65536
  wid : p.width ≤ 65536
  genl : p.gen.length = p.edges.length
  kill_ : p.kill.length = p.edges.length
  start_ : RightW p.start p.width
  gens : ∀ s ∈ p.gen, RightW s p.width
  kills : ∀ s ∈ p.kill, RightW s p.width
  closed : Closed p.edges
  small : ∀ l ∈ p.edges, l.length ≤ 2
theorem RightW.len {s : List W} {n : Nat} (h : RightW s n) (hn : n ≤ 65536) : s.length ≤ 1024 := by rw [h.1]; exact wn_le hn
end Go.Proofs.YtdgibhndjdgllaaDoor

/- Facts that flow: what a round does, and what the rounds come to. No program is in sight here. -/
namespace Go.Proofs.YtdgibhndjdgllaaDoor
open Go.Ax
def noneW (p : Prob) : List W := if p.all then fullW p.width else newW p.width
def meetW (p : Prob) (a b : List W) : List W := if p.all then andW a b else orW a b
def beginW (p : Prob) (k : Nat) (row : List Int) : List W := if (p.back && row.isEmpty) || (!p.back && k == 0) then meetW p (noneW p) p.start else noneW p
def fromW (p : Prob) (k : Nat) (row : List Int) (to : List (List W)) : List W := row.foldl (fun o a => meetW p o (to.getD a.toNat [])) (beginW p k row)
def toW (p : Prob) (k : Nat) (from_ : List W) : List W := orW (p.gen.getD k []) (lessW from_ (p.kill.getD k []))
/-- The same, bit by bit. -/
def noneB (p : Prob) (i : Nat) : Bool := p.all && decide (i < p.width)
def meetB (p : Prob) (a b : Bool) : Bool := if p.all then a && b else a || b
def beginB (p : Prob) (k : Nat) (row : List Int) (i : Nat) : Bool := if (p.back && row.isEmpty) || (!p.back && k == 0) then meetB p (noneB p i) (hasW p.start i) else noneB p i
def fromB (p : Prob) (k : Nat) (row : List Int) (t : Nat → Nat → Bool) (i : Nat) : Bool := row.foldl (fun o a => meetB p o (t a.toNat i)) (beginB p k row i)
def toB (p : Prob) (k : Nat) (b : Bool) (i : Nat) : Bool := hasW (p.gen.getD k []) i || (b && !hasW (p.kill.getD k []) i)
theorem hasW_none (p : Prob) (i : Nat) : hasW (noneW p) i = noneB p i := by
  unfold noneW noneB
  cases p.all
  · rw [if_neg (by simp), hasW_new]; rfl
  · rw [if_pos rfl, hasW_full]; simp
theorem hasW_meet (p : Prob) (a b : List W) (i : Nat) : hasW (meetW p a b) i = meetB p (hasW a i) (hasW b i) := by
  unfold meetW meetB
  cases p.all
  · rw [if_neg (by simp), if_neg (by simp), hasW_or]
  · rw [if_pos rfl, if_pos rfl, hasW_and]
theorem hasW_begin (p : Prob) (k : Nat) (row : List Int) (i : Nat) : hasW (beginW p k row) i = beginB p k row i := by
  unfold beginW beginB
  split
  · rw [hasW_meet, hasW_none]
  · rw [hasW_none]
def bitsOf (T : List (List W)) (k i : Nat) : Bool := hasW (T.getD k []) i
theorem hasW_from (p : Prob) (k : Nat) (row : List Int) (T : List (List W)) (i : Nat) : hasW (fromW p k row T) i = fromB p k row (bitsOf T) i := by
  unfold fromW fromB
  rw [← hasW_begin]
  generalize beginW p k row = o
  induction row generalizing o with
  | nil => rfl
  | cons a row ih =>
    rw [List.foldl_cons, List.foldl_cons, ih, hasW_meet]; rfl
theorem hasW_to (p : Prob) (k : Nat) (s : List W) (i : Nat) : hasW (toW p k s) i = toB p k (hasW s i) i := by
  unfold toW toB
  rw [hasW_or, hasW_less]
/-- Nearer to where it began. -/
def leB (p : Prob) (a b : Bool) : Prop := if p.all then (b = true → a = true) else (a = true → b = true)
theorem leB.refl (p : Prob) (a : Bool) : leB p a a := by unfold leB; split <;> exact id
theorem leB.trans {p : Prob} {a b c : Bool} (h : leB p a b) (g : leB p b c) : leB p a c := by
  unfold leB at *
  split
  · rename_i hp; rw [if_pos hp] at h g; exact h ∘ g
  · rename_i hp; rw [if_neg hp] at h g; exact g ∘ h
theorem leB.meet {p : Prob} {a b c d : Bool} (h : leB p a b) (g : leB p c d) : leB p (meetB p a c) (meetB p b d) := by
  unfold leB meetB at *
  split
  · rename_i hp; rw [if_pos hp] at h g
    intro h1
    simp only [Bool.and_eq_true] at h1 ⊢
    exact ⟨h h1.1, g h1.2⟩
  · rename_i hp; rw [if_neg hp] at h g
    intro h1
    simp only [Bool.or_eq_true] at h1 ⊢
    exact h1.imp h g
theorem leB.to {p : Prob} {k i : Nat} {a b : Bool} (h : leB p a b) : leB p (toB p k a i) (toB p k b i) := by
  unfold leB toB at *
  split
  · rename_i hp; rw [if_pos hp] at h
    intro h1
    simp only [Bool.or_eq_true, Bool.and_eq_true] at h1 ⊢
    exact h1.imp id fun h2 => ⟨h h2.1, h2.2⟩
  · rename_i hp; rw [if_neg hp] at h
    intro h1
    simp only [Bool.or_eq_true, Bool.and_eq_true] at h1 ⊢
    exact h1.imp id fun h2 => ⟨h h2.1, h2.2⟩
theorem leB.from {p : Prob} {k i : Nat} {row : List Int} {t u : Nat → Nat → Bool} (h : ∀ a ∈ row, leB p (t a.toNat i) (u a.toNat i)) : leB p (fromB p k row t i) (fromB p k row u i) := by
  unfold fromB
  have key : ∀ (o q : Bool), leB p o q → leB p (row.foldl (fun o a => meetB p o (t a.toNat i)) o) (row.foldl (fun o a => meetB p o (u a.toNat i)) q) := by
    induction row with
    | nil => exact fun _ _ h => h
    | cons a row ih =>
      intro o q hoq
      rw [List.foldl_cons, List.foldl_cons]
      exact ih (fun b hb => h b (List.mem_cons_of_mem _ hb)) _ _ (hoq.meet (h a (List.mem_cons_self ..)))
  exact key _ _ (.refl p _)
/-- What is no bit of that width. -/
def Low (p : Prob) (s : List W) : Prop := s.length ≤ 1024 ∧ ∀ i, hasW s i = true → i < p.width
theorem Low.none {p : Prob} (hp : p.OK) : Low p (noneW p) := by
  refine ⟨?_, fun i h => ?_⟩
  · have := wn_le hp.wid
    unfold noneW
    split
    · rw [fullW_len]; exact this
    · rw [newW_len]; exact this
  · rw [hasW_none] at h
    unfold noneB at h
    simp at h; exact h.2
theorem RightW.low {p : Prob} (hp : p.OK) {s : List W} (h : RightW s p.width) : Low p s := ⟨h.len hp.wid, h.2⟩
theorem meetW_len {p : Prob} {a b : List W} : (meetW p a b).length ≤ max a.length b.length := by
  unfold meetW
  split
  · unfold andW; rw [fillW_len]; omega
  · unfold orW; rw [fillW_len]; omega
theorem Low.meet {p : Prob} {a b : List W} (h : Low p a) (g : Low p b) : Low p (meetW p a b) := by
  refine ⟨by have := @meetW_len p a b; have := h.1; have := g.1; omega, fun i hi => ?_⟩
  rw [hasW_meet] at hi
  unfold meetB at hi
  split at hi
  · simp only [Bool.and_eq_true] at hi; exact h.2 i hi.1
  · simp only [Bool.or_eq_true] at hi; exact hi.elim (h.2 i) (g.2 i)
theorem Low.begin {p : Prob} (hp : p.OK) {k : Nat} {row : List Int} : Low p (beginW p k row) := by
  unfold beginW
  split
  · exact (Low.none hp).meet (RightW.low hp hp.start_)
  · exact .none hp
theorem Low.from {p : Prob} (hp : p.OK) {k : Nat} {row : List Int} {T : List (List W)} (hT : ∀ s ∈ T, Low p s) : Low p (fromW p k row T) := by
  unfold fromW
  have h0 := Low.begin hp (k := k) (row := row)
  generalize beginW p k row = o at *
  induction row generalizing o with
  | nil => exact h0
  | cons a row ih =>
    rw [List.foldl_cons]
    refine ih _ (h0.meet ?_)
    rw [List.getD_eq_getElem?_getD]
    cases h : T[a.toNat]? with
    | none => exact ⟨by simp, fun i hi => by simp [hasW] at hi⟩
    | some s => exact hT s (List.mem_of_getElem? h)
theorem Low.to {p : Prob} (hp : p.OK) {k : Nat} (hk : k < p.edges.length) {s : List W} (h : Low p s) : Low p (toW p k s) := by
  have e1 := hp.genl
  obtain ⟨x, gx, gxm⟩ := getK (l := p.gen) (k := k) (by omega)
  have hx := RightW.low hp (hp.gens x gxm)
  refine ⟨?_, fun i hi => ?_⟩
  · unfold toW orW lessW
    rw [fillW_len, fillW_len, List.getD_eq_getElem?_getD, gx]
    have := hx.1
    have := h.1
    simp only [Option.getD_some]; omega
  · rw [hasW_to] at hi
    unfold toB at hi
    rw [List.getD_eq_getElem?_getD, gx] at hi
    simp only [Option.getD_some, Bool.or_eq_true, Bool.and_eq_true] at hi
    exact hi.elim (hx.2 i) fun h2 => h.2 i h2.1
end Go.Proofs.YtdgibhndjdgllaaDoor

/- The rounds of a flow: what stays so, and that they end in the nearest solution. No program is in sight here. -/
namespace Go.Proofs.YtdgibhndjdgllaaDoor
open Go.Ax
def aheadL (p : Prob) : List (List Int) := if p.back then p.edges else predsD p.edges
def behindL (p : Prob) : List (List Int) := if p.back then predsD p.edges else p.edges
def aheadAt (p : Prob) (k : Nat) : List Int := (aheadL p).getD k []
def behindAt (p : Prob) (k : Nat) : List Int := (behindL p).getD k []
/-- Who is ahead of whom, is behind of him; and all are blocks. -/
structure Turned (p : Prob) : Prop where
  turn : ∀ (j k : Nat), j < p.edges.length → k < p.edges.length → (k : Int) ∈ aheadAt p j → (j : Int) ∈ behindAt p k
  rng : ∀ (k : Nat), k < p.edges.length → ∀ a ∈ aheadAt p k, 0 ≤ a ∧ a < p.edges.length
def stepB (p : Prob) (t : Nat → Nat → Bool) (k i : Nat) : Bool := fromB p k (aheadAt p k) t i
/-- A solution, bit by bit. -/
structure SolB (p : Prob) (t : Nat → Nat → Bool) : Prop where
  eq : ∀ k i, k < p.edges.length → t k i = toB p k (stepB p t k i) i
  low : ∀ k i, k < p.edges.length → t k i = true → i < p.width
structure FlowI (p : Prob) (T F : List (List W)) (Q : List Nat) : Prop where
  lenT : T.length = p.edges.length
  lenF : F.length = p.edges.length
  low : ∀ s ∈ T, Low p s
  lowF : ∀ s ∈ F, Low p s
  nod : Q.Nodup
  rng : ∀ k ∈ Q, k < p.edges.length
  pre : ∀ k i, k < p.edges.length → leB p (bitsOf T k i) (toB p k (stepB p (bitsOf T) k i) i)
  done : ∀ k, k < p.edges.length → k ∉ Q → ∀ i, bitsOf F k i = stepB p (bitsOf T) k i ∧ bitsOf T k i = toB p k (stepB p (bitsOf T) k i) i
  near : ∀ t, SolB p t → ∀ k i, k < p.edges.length → leB p (bitsOf T k i) (t k i)
  widT : ∀ s ∈ T, s.length = wn p.width
  widF : ∀ k, k < p.edges.length → k ∉ Q → (F.getD k []).length = wn p.width
theorem noneW_wid (p : Prob) : (noneW p).length = wn p.width := by
  unfold noneW; split
  · exact fullW_len _
  · exact newW_len _
theorem meetW_wid {p : Prob} {a b : List W} {n : Nat} (ha : a.length = n) (hb : b.length = n) : (meetW p a b).length = n := by
  unfold meetW; split
  · unfold andW; rw [fillW_len]; omega
  · unfold orW; rw [fillW_len]; omega
theorem beginW_wid {p : Prob} (hp : p.OK) (k : Nat) (row : List Int) : (beginW p k row).length = wn p.width := by
  unfold beginW; split
  · exact meetW_wid (noneW_wid p) hp.start_.1
  · exact noneW_wid p
theorem fromW_wid {p : Prob} (hp : p.OK) {k : Nat} {row : List Int} {T : List (List W)} (hT : ∀ s ∈ T, s.length = wn p.width) (hr : ∀ a ∈ row, a.toNat < T.length) : (fromW p k row T).length = wn p.width := by
  unfold fromW
  have h0 := beginW_wid hp k row
  generalize beginW p k row = o at *
  induction row generalizing o with
  | nil => exact h0
  | cons a row ih =>
    rw [List.foldl_cons]
    refine ih (fun b hb => hr b (List.mem_cons_of_mem _ hb)) _ (meetW_wid h0 (hT _ ?_))
    have := hr a (List.mem_cons_self ..)
    rw [List.getD_eq_getElem?_getD, List.getElem?_eq_getElem this]; exact List.getElem_mem this
theorem toW_wid {p : Prob} (hp : p.OK) {k : Nat} (hk : k < p.edges.length) {s : List W} (hs : s.length = wn p.width) : (toW p k s).length = wn p.width := by
  have hg : (p.gen.getD k []).length = wn p.width := by
    have h2 : k < p.gen.length := by rw [hp.genl]; exact hk
    refine (hp.gens _ ?_).1
    rw [List.getD_eq_getElem?_getD, List.getElem?_eq_getElem h2]; exact List.getElem_mem h2
  unfold toW orW
  rw [fillW_len]
  unfold lessW
  rw [fillW_len, hg, hs]; omega
theorem leB_none {p : Prob} {b : Bool} {i : Nat} (h : b = true → i < p.width) : leB p (noneB p i) b := by
  unfold leB noneB
  split
  · rename_i hp; intro hb; rw [hp]; simpa using h hb
  · rename_i hp; intro hb; simp [hp] at hb
theorem getD_rep {α : Type} {n k : Nat} {x d : α} (h : k < n) : (List.replicate n x).getD k d = x := by
  rw [List.getD_eq_getElem?_getD, List.getElem?_replicate, if_pos h]; rfl
theorem getD_mem {α : Type} {l : List α} {k : Nat} {d : α} (h : k < l.length) : l.getD k d ∈ l := by
  rw [List.getD_eq_getElem?_getD, List.getElem?_eq_getElem h]; exact List.getElem_mem h
theorem getD_set {α : Type} {l : List α} {k j : Nat} {x d : α} (h : k < l.length) : (l.set k x).getD j d = if j = k then x else l.getD j d := by
  rw [List.getD_eq_getElem?_getD, List.getD_eq_getElem?_getD, List.getElem?_set]
  by_cases e : k = j
  · subst e; rw [if_pos rfl, if_pos rfl, if_pos h]; rfl
  · rw [if_neg e, if_neg (Ne.symm e)]
theorem FlowI.start {p : Prob} (hp : p.OK) : FlowI p (List.replicate p.edges.length (noneW p)) (List.replicate p.edges.length []) (List.range p.edges.length) := by
  have hlow : ∀ s ∈ List.replicate p.edges.length (noneW p), Low p s := fun s hs => by rw [(List.mem_replicate.1 hs).2]; exact .none hp
  refine ⟨by simp, by simp, hlow, fun s hs => ?_, List.nodup_range, fun k hk => List.mem_range.1 hk, fun k i hk => ?_, fun k hk hn => absurd (List.mem_range.2 hk) hn, fun t ht k i hk => ?_, fun s hs => by rw [(List.mem_replicate.1 hs).2]; exact noneW_wid p, fun k hk hn => absurd (List.mem_range.2 hk) hn⟩
  · rw [(List.mem_replicate.1 hs).2]; exact ⟨by simp, fun i hi => by simp [hasW] at hi⟩
  · unfold bitsOf
    rw [getD_rep hk, hasW_none]
    refine leB_none fun h => ?_
    have e : hasW (toW p k (fromW p k (aheadAt p k) (List.replicate p.edges.length (noneW p)))) i = toB p k (stepB p (bitsOf (List.replicate p.edges.length (noneW p))) k i) i := by rw [hasW_to, hasW_from]; rfl
    exact ((Low.from hp hlow).to hp hk).2 i (e.trans h)
  · unfold bitsOf
    rw [getD_rep hk, hasW_none]
    exact leB_none (ht.low k i hk)
theorem fromB_congr {p : Prob} {k i : Nat} {row : List Int} {t u : Nat → Nat → Bool} (h : ∀ a ∈ row, t a.toNat i = u a.toNat i) : fromB p k row t i = fromB p k row u i := by
  unfold fromB
  generalize beginB p k row i = o
  induction row generalizing o with
  | nil => rfl
  | cons a row ih =>
    rw [List.foldl_cons, List.foldl_cons, h a (List.mem_cons_self ..)]
    exact ih (fun b hb => h b (List.mem_cons_of_mem _ hb)) _
theorem set_low {p : Prob} {l : List (List W)} {k : Nat} {s : List W} (h : ∀ x ∈ l, Low p x) (hs : Low p s) : ∀ x ∈ l.set k s, Low p x := fun x hx => by
  rcases List.mem_or_eq_of_mem_set hx with h2 | h2
  · exact h x h2
  · rw [h2]; exact hs
/-- The block comes to what it came to. -/
theorem FlowI.same {p : Prob} (hp : p.OK) (ht : Turned p) {T F : List (List W)} {k : Nat} {Q : List Nat} (h : FlowI p T F (k :: Q)) (hs : sameW (toW p k (fromW p k (aheadAt p k) T)) (T.getD k [])) : FlowI p T (F.set k (fromW p k (aheadAt p k) T)) Q := by
  have hk := h.rng k (List.mem_cons_self ..)
  have hkF : k < F.length := by rw [h.lenF]; exact hk
  have ef : ∀ i, hasW (fromW p k (aheadAt p k) T) i = stepB p (bitsOf T) k i := fun i => hasW_from ..
  have et : ∀ i, toB p k (stepB p (bitsOf T) k i) i = bitsOf T k i := fun i => by rw [← ef, ← hasW_to]; exact sameW_bits.1 hs i
  refine ⟨h.lenT, by rw [List.length_set]; exact h.lenF, h.low, set_low h.lowF (Low.from hp h.low), (List.nodup_cons.1 h.nod).2, fun j hj => h.rng j (List.mem_cons_of_mem _ hj), h.pre, fun j hj hn i => ?_, h.near, h.widT, fun j hj hn => ?_⟩
  case refine_2 =>
    rw [getD_set hkF]
    split
    · exact fromW_wid hp h.widT fun a ha => by have := ht.rng k hk a ha; have := h.lenT; omega
    · rename_i e; exact h.widF j hj fun h3 => (List.mem_cons.1 h3).elim e hn
  by_cases e : j = k
  · subst e
    refine ⟨?_, (et i).symm⟩
    show hasW ((F.set j _).getD j []) i = _
    rw [getD_set hkF, if_pos rfl, ef]
  · have h2 := h.done j hj (fun h3 => (List.mem_cons.1 h3).elim e hn) i
    refine ⟨?_, h2.2⟩
    rw [← h2.1]
    show hasW ((F.set k _).getD j []) i = _
    rw [getD_set hkF, if_neg e]; rfl
theorem FlowI.step {p : Prob} (hp : p.OK) (ht : Turned p) {T F : List (List W)} {k : Nat} {Q Q2 : List Nat} (h : FlowI p T F (k :: Q)) (hn : Q2.Nodup) (hr : ∀ j ∈ Q2, j < p.edges.length) (hs : ∀ j ∈ Q, j ∈ Q2) (hb : ∀ j : Nat, j < p.edges.length → (j : Int) ∈ behindAt p k → j ∈ Q2) :
    FlowI p (T.set k (toW p k (fromW p k (aheadAt p k) T))) (F.set k (fromW p k (aheadAt p k) T)) Q2 := by
  have hk := h.rng k (List.mem_cons_self ..)
  have hkT : k < T.length := by rw [h.lenT]; exact hk
  have hkF : k < F.length := by rw [h.lenF]; exact hk
  have hf : Low p (fromW p k (aheadAt p k) T) := Low.from hp h.low
  have hto := hf.to hp hk
  have ef : ∀ i, hasW (fromW p k (aheadAt p k) T) i = stepB p (bitsOf T) k i := fun i => hasW_from ..
  have et : ∀ i, hasW (toW p k (fromW p k (aheadAt p k) T)) i = toB p k (stepB p (bitsOf T) k i) i := fun i => by rw [hasW_to, ef]
  have bT : ∀ j i, bitsOf (T.set k (toW p k (fromW p k (aheadAt p k) T))) j i = if j = k then toB p k (stepB p (bitsOf T) k i) i else bitsOf T j i := fun j i => by
    unfold bitsOf
    rw [getD_set hkT]
    split
    · exact et i
    · rfl
  have bF : ∀ j i, bitsOf (F.set k (fromW p k (aheadAt p k) T)) j i = if j = k then stepB p (bitsOf T) k i else bitsOf F j i := fun j i => by
    unfold bitsOf
    rw [getD_set hkF]
    split
    · exact ef i
    · rfl
  have l1 : (T.set k (toW p k (fromW p k (aheadAt p k) T))).length = p.edges.length := by rw [List.length_set]; exact h.lenT
  have l2 : (F.set k (fromW p k (aheadAt p k) T)).length = p.edges.length := by rw [List.length_set]; exact h.lenF
  have w1 := set_low (k := k) h.low hto
  have w2 := set_low (k := k) h.lowF hf
  have v0 : (fromW p k (aheadAt p k) T).length = wn p.width := fromW_wid hp h.widT fun a ha => by have := ht.rng k hk a ha; have := h.lenT; omega
  have v1 : ∀ s ∈ T.set k (toW p k (fromW p k (aheadAt p k) T)), s.length = wn p.width := fun s hs => by
    rcases List.mem_or_eq_of_mem_set hs with h2 | h2
    · exact h.widT s h2
    · rw [h2]; exact toW_wid hp hk v0
  have v2 : ∀ j, j < p.edges.length → j ∉ Q2 → ((F.set k (fromW p k (aheadAt p k) T)).getD j []).length = wn p.width := fun j hj hq => by
    rw [getD_set hkF]
    split
    · exact v0
    · rename_i e; exact h.widF j hj fun h3 => (List.mem_cons.1 h3).elim e fun h4 => hq (hs j h4)
  generalize T.set k (toW p k (fromW p k (aheadAt p k) T)) = T2 at *
  generalize F.set k (fromW p k (aheadAt p k) T) = F2 at *
  have up : ∀ j i, j < p.edges.length → leB p (bitsOf T j i) (bitsOf T2 j i) := fun j i hj => by
    rw [bT]
    split
    · rename_i e; rw [e]; exact h.pre k i hk
    · exact .refl _ _
  have mono : ∀ j i, j < p.edges.length → leB p (stepB p (bitsOf T) j i) (stepB p (bitsOf T2) j i) := fun j i hj => leB.from fun a ha => up _ i (by have := ht.rng j hj a ha; omega)
  refine ⟨l1, l2, w1, w2, hn, hr, fun j i hj => ?_, fun j hj hq i => ?_, fun t hsol j i hj => ?_, v1, v2⟩
  · rw [bT]
    split
    · rename_i e; subst e; exact (mono j i hj).to
    · exact (h.pre j i hj).trans (mono j i hj).to
  · have hkj : (k : Int) ∉ aheadAt p j := fun h1 => hq (hb j hj (ht.turn j k hj hk h1))
    have hst : stepB p (bitsOf T2) j i = stepB p (bitsOf T) j i := fromB_congr fun a ha => by
      have := ht.rng j hj a ha
      rw [bT, if_neg (fun e => hkj (by rw [show (k : Int) = a by omega]; exact ha))]
    rw [bT, bF, hst]
    by_cases e : j = k
    · subst e; rw [if_pos rfl, if_pos rfl]; exact ⟨rfl, rfl⟩
    · rw [if_neg e, if_neg e]
      exact h.done j hj (fun h3 => (List.mem_cons.1 h3).elim e fun h4 => hq (hs j h4)) i
  · rw [bT]
    split
    · rename_i e
      subst e
      rw [hsol.eq j i hj]
      exact leB.to (leB.from fun a ha => h.near t hsol _ i (by have := ht.rng j hj a ha; omega))
    · exact h.near t hsol j i hj
/-- What the rounds come to. -/
structure SolP (p : Prob) (T F : List (List W)) : Prop where
  lenT : T.length = p.edges.length
  lenF : F.length = p.edges.length
  low : ∀ s ∈ T, Low p s
  lowF : ∀ s ∈ F, Low p s
  sol : SolB p (bitsOf T)
  from_ : ∀ k i, k < p.edges.length → bitsOf F k i = stepB p (bitsOf T) k i
  near : ∀ t, SolB p t → ∀ k i, k < p.edges.length → leB p (bitsOf T k i) (t k i)
  widT : ∀ s ∈ T, s.length = wn p.width
  widF : ∀ k, k < p.edges.length → (F.getD k []).length = wn p.width
theorem FlowI.end_ {p : Prob} {T F : List (List W)} (h : FlowI p T F []) : SolP p T F :=
  ⟨h.lenT, h.lenF, h.low, h.lowF, ⟨fun k i hk => (h.done k hk (by simp) i).2, fun k i hk hb => (h.low _ (getD_mem (by rw [h.lenT]; exact hk))).2 i hb⟩, fun k i hk => (h.done k hk (by simp) i).1, h.near, h.widT, fun k hk => h.widF k hk (by simp)⟩
/-- How far it may go yet. -/
def cntW (p : Prob) (s : List W) : Nat := ((List.range p.width).filter fun i => hasW s i == p.all).length
def muT (p : Prob) (T : List (List W)) : Nat := (T.map (cntW p)).sum
theorem filter_lt {α : Type} {f g : α → Bool} : ∀ {l : List α}, (∀ x ∈ l, g x = true → f x = true) → (∃ x ∈ l, f x = true ∧ g x = false) → (l.filter g).length < (l.filter f).length
  | [], _, ⟨x, hx, _⟩ => by cases hx
  | a :: l, h, ⟨x, hx, h1, h2⟩ => by
    have hle : (l.filter g).length ≤ (l.filter f).length := by
      clear hx
      have h3 := fun y hy => h y (List.mem_cons_of_mem a hy)
      clear h
      induction l with
      | nil => simp
      | cons b l ih =>
        have h4 := ih fun y hy => h3 y (List.mem_cons_of_mem _ hy)
        cases hg : g b with
        | true => rw [List.filter_cons_of_pos hg, List.filter_cons_of_pos (h3 b (List.mem_cons_self ..) hg)]; simp; omega
        | false =>
          rw [List.filter_cons_of_neg (by simp [hg])]
          by_cases hf : f b = true
          · rw [List.filter_cons_of_pos hf]; simp; omega
          · rw [List.filter_cons_of_neg hf]; exact h4
    rcases List.mem_cons.1 hx with rfl | hx
    · rw [List.filter_cons_of_pos h1, List.filter_cons_of_neg (by simp [h2])]; simp; omega
    · have ih := filter_lt (f := f) (g := g) (l := l) (fun y hy => h y (List.mem_cons_of_mem _ hy)) ⟨x, hx, h1, h2⟩
      cases hg : g a with
      | true => rw [List.filter_cons_of_pos hg, List.filter_cons_of_pos (h a (List.mem_cons_self ..) hg)]; simp; omega
      | false =>
        rw [List.filter_cons_of_neg (by simp [hg])]
        by_cases hf : f a = true
        · rw [List.filter_cons_of_pos hf]; simp; omega
        · rw [List.filter_cons_of_neg hf]; exact ih
theorem sum_set_lt : ∀ {l : List Nat} {k x y : Nat}, l[k]? = some x → y < x → (l.set k y).sum < l.sum
  | [], k, x, y, h, _ => by simp at h
  | a :: l, 0, x, y, h, hy => by
    simp only [List.getElem?_cons_zero, Option.some.injEq] at h
    subst h
    simp only [List.set_cons_zero, List.sum_cons]; omega
  | a :: l, k + 1, x, y, h, hy => by
    simp only [List.getElem?_cons_succ] at h
    have := sum_set_lt (l := l) h hy
    simp only [List.set_cons_succ, List.sum_cons]; omega
theorem muT_lt {p : Prob} {T : List (List W)} {k : Nat} {s : List W} (hk : k < T.length) (hl : ∀ i, leB p (bitsOf T k i) (hasW s i)) (hlo : Low p s) (hloT : ∀ x ∈ T, Low p x) (hne : ¬ sameW s (T.getD k [])) : muT p (T.set k s) < muT p T := by
  unfold muT
  rw [List.map_set]
  have e : T.getD k [] = T[k] := by rw [List.getD_eq_getElem?_getD, List.getElem?_eq_getElem hk]; rfl
  refine sum_set_lt (x := cntW p T[k]) (by rw [List.getElem?_map, List.getElem?_eq_getElem hk]; rfl) ?_
  have hd : ∃ i, hasW s i ≠ hasW T[k] i := Classical.byContradiction fun h => hne (by
    rw [e]
    exact sameW_bits.2 fun i => Classical.byContradiction fun h2 => h ⟨i, h2⟩)
  obtain ⟨i, hi⟩ := hd
  have hTk := hloT _ (List.getElem_mem hk)
  have hli := fun i => hl i
  unfold bitsOf at hli
  rw [e] at hli
  unfold cntW
  refine filter_lt (fun j hj h => ?_) ⟨i, ?_, ?_⟩
  · have := hli j
    unfold leB at this
    cases ha : p.all <;> rw [ha] at this h <;> simp at this h ⊢
    · cases h3 : hasW T[k] j with
      | false => rfl
      | true => rw [this h3] at h; cases h
    · exact this h
  · refine List.mem_range.2 ?_
    cases h3 : hasW s i with
    | true => exact hlo.2 i h3
    | false =>
      cases h4 : hasW T[k] i with
      | true => exact hTk.2 i h4
      | false => rw [h3, h4] at hi; exact absurd rfl hi
  · have := hli i
    unfold leB at this
    cases ha : p.all <;> rw [ha] at this <;> cases h3 : hasW s i <;> cases h4 : hasW T[k] i <;> simp_all
end Go.Proofs.YtdgibhndjdgllaaDoor

/- Lists that are filled from the front. No program is in sight here. -/
namespace Go.Proofs.YtdgibhndjdgllaaDoor
def fillX {α : Type} (n k : Nat) (x d : α) : List α := (List.range n).map fun i => if i < k then x else d
theorem fillX_len {α : Type} (n k : Nat) (x d : α) : (fillX n k x d).length = n := by simp [fillX]
theorem fillX_zero {α : Type} (n : Nat) (x d : α) : fillX n 0 x d = List.replicate n d := by
  unfold fillX
  refine List.ext_getElem? fun i => ?_
  rw [List.getElem?_map, List.getElem?_replicate]
  by_cases h : i < n
  · rw [List.getElem?_range h]; simp [h]
  · rw [List.getElem?_eq_none (by simpa using h)]; simp [h]
theorem fillX_all {α : Type} (n : Nat) (x d : α) : fillX n n x d = List.replicate n x := by
  unfold fillX
  refine List.ext_getElem? fun i => ?_
  rw [List.getElem?_map, List.getElem?_replicate]
  by_cases h : i < n
  · rw [List.getElem?_range h]; simp [h]
  · rw [List.getElem?_eq_none (by simpa using h)]; simp [h]
theorem fillX_at {α : Type} {n k i : Nat} {x d : α} (h : i < n) : (fillX n k x d)[i]? = some (if i < k then x else d) := by
  unfold fillX
  rw [List.getElem?_map, List.getElem?_range h]; rfl
theorem fillX_set {α : Type} {n k : Nat} {x d : α} (hk : k < n) : (fillX n k x d).set k x = fillX n (k + 1) x d := by
  refine List.ext_getElem? fun i => ?_
  rw [List.getElem?_set, fillX_len]
  by_cases hi : i < n
  · rw [fillX_at hi, fillX_at hi]
    by_cases h : k = i
    · subst h; rw [if_pos rfl, if_pos hk, if_pos (by omega)]
    · rw [if_neg h]
      by_cases h2 : i < k
      · rw [if_pos h2, if_pos (by omega)]
      · rw [if_neg h2, if_neg (by omega)]
  · rw [List.getElem?_eq_none (by rw [fillX_len]; omega), List.getElem?_eq_none (by rw [fillX_len]; omega), if_neg (by omega)]
end Go.Proofs.YtdgibhndjdgllaaDoor

/- Ways from their ends, and a queue into which several are put. No program is in sight here. -/
namespace Go.Proofs.YtdgibhndjdgllaaDoor
theorem mem_predsD {s : List (List Int)} {t : Nat} (ht : t < s.length) {a : Int} : a ∈ (predsD s).getD t [] ↔ ∃ k : Nat, k < s.length ∧ a = k ∧ (t : Int) ∈ s.getD k [] := by
  have e : (predsD s).getD t [] = predP s s.length 0 t := by
    rw [List.getD_eq_getElem?_getD]; unfold predsD; rw [predsP_at ht]; rfl
  rw [e]
  unfold predP
  simp only [List.take_zero, List.filter_nil, List.map_nil, List.append_nil, List.mem_flatMap, List.mem_range, List.mem_map, List.mem_filter, decide_eq_true_eq]
  constructor
  · rintro ⟨k, hk, b, ⟨hb, rfl⟩, rfl⟩
    exact ⟨k, hk, rfl, by rw [List.getD_eq_getElem?_getD]; exact hb⟩
  · rintro ⟨k, hk, rfl, hm⟩
    rw [List.getD_eq_getElem?_getD] at hm
    exact ⟨k, hk, (t : Int), ⟨hm, rfl⟩, rfl⟩
theorem Prob.OK.row {p : Prob} (hp : p.OK) {k : Nat} (hk : k < p.edges.length) {a : Int} (h : a ∈ p.edges.getD k []) : 0 ≤ a ∧ a < p.edges.length := by
  have hm : p.edges.getD k [] ∈ p.edges := getD_mem hk
  exact hp.closed _ hm a h
theorem turned_ok {p : Prob} (hp : p.OK) : Turned p := by
  refine ⟨fun j k hj hk h => ?_, fun k hk a h => ?_⟩
  · unfold aheadAt aheadL at h
    unfold behindAt behindL
    cases hb : p.back with
    | true =>
      rw [hb] at h
      rw [if_pos rfl] at h ⊢
      exact (mem_predsD hk).2 ⟨j, hj, rfl, h⟩
    | false =>
      rw [hb] at h
      rw [if_neg (by simp)] at h ⊢
      obtain ⟨i, hi, e, hm⟩ := (mem_predsD hj).1 h
      obtain rfl : k = i := by omega
      exact hm
  · unfold aheadAt aheadL at h
    split at h
    · exact hp.row hk h
    · obtain ⟨i, hi, rfl, hm⟩ := (mem_predsD hk).1 h; omega
theorem behind_rng {p : Prob} (hp : p.OK) {k : Nat} (hk : k < p.edges.length) : ∀ a ∈ behindAt p k, 0 ≤ a ∧ a < p.edges.length := by
  intro a h
  unfold behindAt behindL at h
  split at h
  · obtain ⟨i, hi, rfl, hm⟩ := (mem_predsD hk).1 h; omega
  · exact hp.row hk h
theorem aheadL_len (p : Prob) : (aheadL p).length = p.edges.length := by
  unfold aheadL; split
  · rfl
  · exact predsD_len _
theorem behindL_len (p : Prob) : (behindL p).length = p.edges.length := by
  unfold behindL; split
  · exact predsD_len _
  · rfl
theorem row_len {p : Prob} (hp : p.OK) {k : Nat} (hk : k < p.edges.length) : (p.edges.getD k []).length ≤ 2 * p.edges.length + 2 ∧ ((predsD p.edges).getD k []).length ≤ 2 * p.edges.length + 2 := by
  constructor
  · have := hp.small _ (getD_mem (d := []) hk); omega
  · have e : (predsD p.edges).getD k [] = predP p.edges p.edges.length 0 k := by
      rw [List.getD_eq_getElem?_getD]; unfold predsD; rw [predsP_at hk]; rfl
    rw [e]; exact predP_len hp.small _ _ _
theorem ahead_len {p : Prob} (hp : p.OK) {k : Nat} (hk : k < p.edges.length) : (aheadAt p k).length ≤ 1000000 := by
  have := row_len hp hk; have := hp.few
  unfold aheadAt aheadL; split <;> omega
theorem behind_len {p : Prob} (hp : p.OK) {k : Nat} (hk : k < p.edges.length) : (behindAt p k).length ≤ 1000000 := by
  have := row_len hp hk; have := hp.few
  unfold behindAt behindL; split <;> omega
/-- One more waits, if it doesn't. -/
def put1 (Q : List Nat) (b : Nat) : List Nat := if b ∈ Q then Q else Q ++ [b]
def putL (Q : List Nat) (l : List Int) : List Nat := l.foldl (fun Q b => put1 Q b.toNat) Q
theorem put1_mem {Q : List Nat} {b a : Nat} : a ∈ put1 Q b ↔ a ∈ Q ∨ a = b := by
  unfold put1; split
  · exact ⟨.inl, fun h => h.elim id fun e => e ▸ by assumption⟩
  · simp
theorem put1_nodup {Q : List Nat} {b : Nat} (h : Q.Nodup) : (put1 Q b).Nodup := by
  unfold put1; split
  · exact h
  · rw [List.nodup_append]
    refine ⟨h, by simp, fun x hx y hy => ?_⟩
    rw [List.mem_singleton.1 hy]
    intro e; subst e; contradiction
theorem putL_mem {l : List Int} : ∀ {Q : List Nat} {a : Nat}, a ∈ putL Q l ↔ a ∈ Q ∨ ∃ b ∈ l, a = b.toNat := by
  induction l with
  | nil => intro Q a; simp [putL]
  | cons x l ih =>
    intro Q a
    show a ∈ putL (put1 Q x.toNat) l ↔ _
    rw [ih, put1_mem]
    constructor
    · rintro ((h | h) | ⟨b, hb, e⟩)
      · exact .inl h
      · exact .inr ⟨x, List.mem_cons_self .., h⟩
      · exact .inr ⟨b, List.mem_cons_of_mem _ hb, e⟩
    · rintro (h | ⟨b, hb, e⟩)
      · exact .inl (.inl h)
      · rcases List.mem_cons.1 hb with rfl | hb
        · exact .inl (.inr e)
        · exact .inr ⟨b, hb, e⟩
theorem putL_nodup {l : List Int} : ∀ {Q : List Nat}, Q.Nodup → (putL Q l).Nodup := by
  induction l with
  | nil => exact id
  | cons x l ih => intro Q h; exact ih (put1_nodup h)
theorem putL_take {Q : List Nat} {l : List Int} {j : Nat} {b : Int} (h : l[j]? = some b) : putL Q (l.take (j + 1)) = put1 (putL Q (l.take j)) b.toNat := by
  obtain ⟨hj, rfl⟩ := List.getElem?_eq_some_iff.1 h
  unfold putL
  rw [List.take_succ_eq_append_getElem hj, List.foldl_append]; rfl
theorem nodup_le {n : Nat} : ∀ {Q : List Nat}, Q.Nodup → (∀ k ∈ Q, k < n) → Q.length ≤ n := by
  induction n with
  | zero =>
    intro Q h hr
    cases Q with
    | nil => simp
    | cons a Q => exact absurd (hr a (List.mem_cons_self ..)) (by omega)
  | succ n ih =>
    intro Q h hr
    have h2 : (Q.erase n).length ≤ n := ih (h.erase n) fun k hk => by
      have h3 := (h.mem_erase_iff).1 hk
      have := hr k h3.2
      have := h3.1
      omega
    rw [List.length_erase] at h2
    split at h2 <;> omega
theorem nodup_lt {n i : Nat} {Q : List Nat} (h : Q.Nodup) (hr : ∀ k ∈ Q, k < n) (hi : i < n) (hn : i ∉ Q) : Q.length < n := by
  have e : put1 Q i = Q ++ [i] := if_neg hn
  have h1 := put1_nodup (b := i) h
  rw [e] at h1
  have := nodup_le h1 (n := n) fun k hk => by
    rcases List.mem_append.1 hk with hk | hk
    · exact hr k hk
    · rw [List.mem_singleton.1 hk]; exact hi
  rw [List.length_append] at this
  simp at this; omega
end Go.Proofs.YtdgibhndjdgllaaDoor

/- Which registers are needed, as a flow and by going on from block to block. No program is in sight here. -/
namespace Go.Proofs.YtdgibhndjdgllaaDoor
open Go.Ax
/-- A number is put in, or taken out. -/
def bitW (i : Nat) : W := 1#64 <<< (i % 64)
def putW (s : List W) (i : Nat) : List W := s.set (i / 64) (s.getD (i / 64) 0 ||| bitW i)
def dropW (s : List W) (i : Nat) : List W := s.set (i / 64) (s.getD (i / 64) 0 &&& ~~~bitW i)
theorem bitW_at {i j : Nat} (hj : j < 64) : (bitW i).getLsbD j = decide (j = i % 64) := by
  unfold bitW
  rw [BitVec.getLsbD_shiftLeft]
  have : i % 64 < 64 := Nat.mod_lt _ (by decide)
  by_cases h : j = i % 64
  · simp [h, this]
  · by_cases h2 : j < i % 64
    · simp [h, h2]
    · have : 1 ≤ j - i % 64 := by omega
      simp [h, hj]
      intro _
      omega
theorem getD_set_W {s : List W} {k j : Nat} {x : W} : (s.set k x).getD j 0 = if j = k ∧ k < s.length then x else s.getD j 0 := by
  by_cases h : k < s.length
  · rw [getD_set h]; simp [h]
  · rw [List.set_eq_of_length_le (by omega), if_neg (by omega)]
theorem putW_len (s : List W) (i : Nat) : (putW s i).length = s.length := by simp [putW]
theorem dropW_len (s : List W) (i : Nat) : (dropW s i).length = s.length := by simp [dropW]
theorem hasW_put {s : List W} {i : Nat} (hi : i / 64 < s.length) (j : Nat) : hasW (putW s i) j = (hasW s j || decide (j = i)) := by
  unfold hasW putW
  have hm : j % 64 < 64 := Nat.mod_lt _ (by decide)
  rw [getD_set_W]
  by_cases e : j / 64 = i / 64
  · rw [if_pos ⟨e, hi⟩, BitVec.getLsbD_or, bitW_at hm, e]
    congr 1
    rw [Bool.eq_iff_iff]; simp; omega
  · rw [if_neg (fun h => e h.1)]
    have : j ≠ i := fun h => e (by rw [h])
    simp [this]
theorem hasW_drop {s : List W} {i : Nat} (hi : i / 64 < s.length) (j : Nat) : hasW (dropW s i) j = (hasW s j && !decide (j = i)) := by
  unfold hasW dropW
  have hm : j % 64 < 64 := Nat.mod_lt _ (by decide)
  rw [getD_set_W]
  by_cases e : j / 64 = i / 64
  · rw [if_pos ⟨e, hi⟩, BitVec.getLsbD_and, BitVec.getLsbD_not, bitW_at hm, e]
    have : decide (j % 64 = i % 64) = decide (j = i) := by rw [Bool.eq_iff_iff]; simp; omega
    rw [this]; simp [hm]
  · rw [if_neg (fun h => e h.1)]
    have : j ≠ i := fun h => e (by rw [h])
    simp [this]
/-- What instructions do with a register: 1: it is read first, 2: written first, 0: neither. -/
def lookL : List Ins → Int → Int
  | [], _ => 0
  | i :: l, r => if r ∈ usesF i then 1 else if defF i = r then 2 else lookL l r
/-- All names are below n. -/
def InsB (n : Nat) (i : Ins) : Prop := defF i < n ∧ ∀ u ∈ usesF i, 0 ≤ u ∧ u < n
theorem div_lt {n i : Nat} (h : i < n) : i / 64 < wn n := by unfold wn; omega
end Go.Proofs.YtdgibhndjdgllaaDoor

/- What the flow comes to is what going on from block to block tells. No program is in sight here. -/
namespace Go.Proofs.YtdgibhndjdgllaaDoor
open Go.Ax
structure LiveOK (f : Fun) : Prop where
  blocks : f.blocks.length ≤ 65536
  regs : f.regs.length ≤ 65536
  ins : ∀ b ∈ f.blocks, ∀ i ∈ b, InsB f.regs.length i
/-- Whither one goes while nothing is done with a register. -/
inductive ReachN (f : Fun) (r : Int) (k : Nat) : Int → Prop
  | base {j : Int} : j ∈ (succsF f).getD k [] → ReachN f r k j
  | step {j t : Int} : ReachN f r k j → lookL (f.blocks.getD j.toNat []) r = 0 → t ∈ (succsF f).getD j.toNat [] → ReachN f r k t
def NeedO (f : Fun) (k : Nat) (r : Int) : Prop := ∃ j, ReachN f r k j ∧ lookL (f.blocks.getD j.toNat []) r = 1
theorem succ_rng {f : Fun} {k : Nat} {j : Int} (h : j ∈ (succsF f).getD k []) : 0 ≤ j ∧ j.toNat < f.blocks.length := by
  by_cases hk : k < (succsF f).length
  · have := succsF_closed f _ (getD_mem (d := []) hk) j h
    rw [succsF_len] at this
    omega
  · rw [List.getD_eq_getElem?_getD, List.getElem?_eq_none (by omega)] at h; cases h
theorem ReachN.rng {f : Fun} {r : Int} {k : Nat} {j : Int} (h : ReachN f r k j) : 0 ≤ j ∧ j.toNat < f.blocks.length := by
  cases h with
  | base h => exact succ_rng h
  | step _ _ h => exact succ_rng h
theorem ReachN.ahead {f : Fun} {r : Int} {s : Nat} {j : Int} (h : ReachN f r s j) {k : Nat} (hs : (s : Int) ∈ (succsF f).getD k []) (h0 : lookL (f.blocks.getD s []) r = 0) : ReachN f r k j := by
  induction h with
  | base h => exact .step (.base hs) h0 h
  | step _ h1 h2 ih => exact .step ih h1 h2
end Go.Proofs.YtdgibhndjdgllaaDoor
