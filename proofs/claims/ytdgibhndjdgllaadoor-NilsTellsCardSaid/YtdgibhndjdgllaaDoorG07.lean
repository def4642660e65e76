/- Blocks and where they go, as the document's answer says it. No program is in sight here. -/
import Derived.Test.YtdgibhndjdgllaaDoorG06
set_option linter.unusedVariables false
set_option linter.unusedSimpArgs false

namespace Go.Proofs.YtdgibhndjdgllaaDoor
open Go.Ax

def lst (l : List Int) : List AV := [ints l]
def olst (l : List Int) : List AV := [.osl 1 (l.map int1)]
def below (n : Nat) (l : List Int) : List Int := l.filter (fun t => decide (t < (n : Int)))
def succ1 (n : Nat) (b : List Ins) : List Int := match b[b.length - 1]? with
  | some i => below n (targetsF i)
  | none => []
def succsF (f : Fun) : List (List Int) := f.blocks.map (succ1 f.blocks.length)
theorem targetsF_len (i : Ins) : (targetsF i).length ≤ 2 := by unfold targetsF; split <;> (try split) <;> simp
theorem succsF_len (f : Fun) : (succsF f).length = f.blocks.length := by unfold succsF; simp
/-- What is reached without a block. -/
inductive Reaches (s : List (List Int)) (x : Int) : Int → Prop
  | zero : s ≠ [] → x ≠ 0 → Reaches s x 0
  | step {k : Nat} {t : Int} {l : List Int} : Reaches s x k → s[k]? = some l → t ∈ l → t ≠ x → Reaches s x t
/-- All that is gone to is there. -/
def Closed (s : List (List Int)) : Prop := ∀ l ∈ s, ∀ t ∈ l, 0 ≤ t ∧ t < s.length
theorem targetsF_pos (i : Ins) : ∀ t ∈ targetsF i, 0 ≤ t := by
  intro t ht
  unfold targetsF at ht
  split at ht
  · rename_i h
    unfold right15 tailF tailA at h
    simp at ht
    simp [h.2] at h
    omega
  · split at ht
    · rename_i h
      unfold right15 tailF tailA at h
      simp at ht
      simp [h.2] at h
      omega
    · simp at ht
theorem succsF_closed (f : Fun) : Closed (succsF f) := by
  intro l hl t ht
  rw [succsF_len]
  unfold succsF at hl
  obtain ⟨b, _, rfl⟩ := List.mem_map.1 hl
  unfold succ1 at ht
  split at ht
  · unfold below at ht
    obtain ⟨h1, h2⟩ := List.mem_filter.1 ht
    exact ⟨targetsF_pos _ _ h1, by simpa using h2⟩
  · simp at ht
theorem Reaches.lt {s : List (List Int)} {x t : Int} (hs : Closed s) (h : Reaches s x t) : 0 ≤ t ∧ t < s.length := by
  cases h with
  | zero h _ => have := List.length_pos_iff.2 h; omega
  | step _ hl ht _ => exact hs _ (List.mem_of_getElem? hl) _ ht

def tb (b : Bool) : List AV := [tru b]
/-- How many are not marked. -/
def falses (l : List Bool) : Nat := l.count false
/-- What is marked is reached. -/
def Sound (s : List (List Int)) (x : Int) (l : List Bool) : Prop := l.length = s.length ∧ ∀ t : Nat, l[t]? = some true → Reaches s x t
/-- These are the marks of what is reached. -/
def Marks (s : List (List Int)) (x : Int) (l : List Bool) : Prop := l.length = s.length ∧ ∀ t : Nat, l[t]? = some true ↔ Reaches s x t
theorem falses_set {l : List Bool} {t : Nat} (h : l[t]? = some false) : falses (l.set t true) < falses l := by
  unfold falses
  induction l generalizing t with
  | nil => simp at h
  | cons a l ih =>
    cases t with
    | zero => simp at h; subst h; simp
    | succ t =>
      simp at h
      have := ih h
      simp only [List.set_cons_succ, List.count_cons]; omega
theorem Sound.set {s : List (List Int)} {x : Int} {l : List Bool} {t : Nat} (h : Sound s x l) (ht : Reaches s x t) : Sound s x (l.set t true) := by
  refine ⟨by rw [List.length_set]; exact h.1, fun u hu => ?_⟩
  rw [List.getElem?_set] at hu
  split at hu
  · rename_i e; subst e; exact ht
  · exact h.2 u hu
/-- All ways from what is marked, up to one, lead to what is marked. -/
def Shut (s : List (List Int)) (x : Int) (l : List Bool) (k j : Nat) : Prop := ∀ (a : Nat) (r : List Int) (b : Nat) (t : Int), s[a]? = some r → r[b]? = some t → (a < k ∨ (a = k ∧ b < j)) → l[a]? = some true → t ≠ x → l[t.toNat]? = some true
theorem marks_of {s : List (List Int)} {x : Int} {l : List Bool} (hs : Closed s) (h : Sound s x l) (h0 : s ≠ [] → x ≠ 0 → l[0]? = some true) (hc : Shut s x l s.length 0) : Marks s x l := by
  refine ⟨h.1, fun t => ⟨h.2 t, fun ht => ?_⟩⟩
  have key : ∀ u : Int, Reaches s x u → l[u.toNat]? = some true := by
    intro u hu
    induction hu with
    | zero a b => exact h0 a b
    | step hk hl ht hne ih =>
      obtain ⟨b, hb⟩ := List.getElem?_of_mem ht
      refine hc _ _ b _ hl hb (.inl ?_) (by simpa using ih) hne
      exact (List.getElem?_eq_some_iff.1 hl).1
  simpa using key _ ht
end Go.Proofs.YtdgibhndjdgllaaDoor

/- Marks of what is reached: how they grow. No program is in sight here. -/
namespace Go.Proofs.YtdgibhndjdgllaaDoor
open Go.Ax
theorem set_keep {l : List Bool} {t u : Nat} (h : l[u]? = some true) : (l.set t true)[u]? = some true := by
  rw [List.getElem?_set]
  have hu := (List.getElem?_eq_some_iff.1 h).1
  split
  · rename_i e; subst e; rw [if_pos hu]
  · exact h
theorem Shut.zero {s : List (List Int)} {x : Int} {l : List Bool} : Shut s x l 0 0 := fun a r b t _ _ h => by omega
theorem Shut.step {s : List (List Int)} {x : Int} {l : List Bool} {k j : Nat} {r : List Int} {t : Int} (h : Shut s x l k j) (hr : s[k]? = some r) (ht : r[j]? = some t) (hm : l[k]? = some true → t ≠ x → l[t.toNat]? = some true) : Shut s x l k (j + 1) := by
  intro a r' b u ha hb hlt hl hne
  by_cases e : a = k ∧ b = j
  · obtain ⟨rfl, rfl⟩ := e
    rw [hr] at ha; cases ha
    rw [ht] at hb; cases hb
    exact hm hl hne
  · exact h a r' b u ha hb (by omega) hl hne
theorem Shut.row {s : List (List Int)} {x : Int} {l : List Bool} {k j : Nat} {r : List Int} (h : Shut s x l k j) (hr : s[k]? = some r) (hj : r.length ≤ j) : Shut s x l (k + 1) 0 := by
  intro a r' b u ha hb hlt hl hne
  refine h a r' b u ha hb ?_ hl hne
  by_cases e : a = k
  · subst e
    rw [hr] at ha; cases ha
    have := (List.getElem?_eq_some_iff.1 hb).1
    right; exact ⟨rfl, by omega⟩
  · left; omega
theorem Shut.none {s : List (List Int)} {x : Int} {l : List Bool} {k j : Nat} (h : ∀ u : Nat, l[u]? ≠ some true) : Shut s x l k j := fun a _ _ _ _ _ _ hl _ => absurd hl (h a)
theorem succsF_small (f : Fun) : ∀ l ∈ succsF f, l.length ≤ 2 := by
  intro l hl
  unfold succsF at hl
  obtain ⟨b, _, rfl⟩ := List.mem_map.1 hl
  unfold succ1
  split
  · unfold below
    exact Nat.le_trans (List.length_filter_le _ _) (targetsF_len _)
  · simp
theorem rep_false {n u : Nat} : (List.replicate n false)[u]? ≠ some true := by
  intro h
  rw [List.getElem?_replicate] at h
  split at h <;> simp at h
end Go.Proofs.YtdgibhndjdgllaaDoor

/- Dominators, predecessors, writers, as the document's answer says them. No program is in sight here. -/
namespace Go.Proofs.YtdgibhndjdgllaaDoor
open Go.Ax
/-- One block dominates another: both are reached, the one not without the other. -/
def Dom (s : List (List Int)) (a b : Int) : Prop := Reaches s (-1) a ∧ Reaches s (-1) b ∧ ¬ Reaches s a b
def predOf (s : List (List Int)) (k : Nat) (n : Nat) : List Int := ((List.range n).filter (fun j => decide ((k : Int) ∈ s[j]?.getD []))).map (fun j : Nat => (j : Int))
def predsF (s : List (List Int)) : List (List Int) := (List.range s.length).map (fun k => predOf s k s.length)
theorem predOf_len (s : List (List Int)) (k n : Nat) : (predOf s k n).length ≤ n := by
  unfold predOf
  rw [List.length_map]
  have := List.length_filter_le (fun j => decide ((k : Int) ∈ s[j]?.getD [])) (List.range n)
  rw [List.length_range] at this; exact this
theorem predOf_lt {s : List (List Int)} {k n : Nat} {p : Int} (h : p ∈ predOf s k n) : 0 ≤ p ∧ p < n := by
  unfold predOf at h
  obtain ⟨j, hj, rfl⟩ := List.mem_map.1 h
  have := List.mem_range.1 (List.mem_filter.1 hj).1
  omega
theorem predOf_succ {s : List (List Int)} {k n : Nat} {l : List Int} (h : s[n]? = some l) : predOf s k (n + 1) = predOf s k n ++ if (k : Int) ∈ l then [(n : Int)] else [] := by
  unfold predOf
  rw [List.range_succ, List.filter_append, List.map_append]
  congr 1
  by_cases hk : (k : Int) ∈ l <;> simp [h, hk]
theorem predsF_len (s : List (List Int)) : (predsF s).length = s.length := by unfold predsF; simp
theorem predsF_take {s : List (List Int)} {k : Nat} (h : k < s.length) : (predsF s).take (k + 1) = (predsF s).take k ++ [predOf s k s.length] := by
  refine take_succ ?_
  unfold predsF
  rw [List.getElem?_map, List.getElem?_range h]; rfl
/-- Where a register is written first: block, place. -/
def WrittenAt (f : Fun) (reg : Int) (k at_ : Nat) : Prop := ∃ b i, f.blocks[k]? = some b ∧ b[at_]? = some i ∧ def15 i = reg
/-- The first writer. -/
def FirstAt (f : Fun) (reg : Int) (k at_ : Nat) : Prop := WrittenAt f reg k at_ ∧ ∀ k' a', WrittenAt f reg k' a' → k < k' ∨ (k = k' ∧ at_ ≤ a')
/-- What is told of a writer. -/
def WriterIs (f : Fun) (reg k at_ : Int) (is : Bool) : Prop :=
  (is = true → ∃ k' a' : Nat, k = k' ∧ at_ = a' ∧ 0 ≤ reg ∧ FirstAt f reg k' a') ∧ (is = false → k = 0 ∧ at_ = 0 ∧ (0 ≤ reg → ∀ k' a', ¬ WrittenAt f reg k' a'))
end Go.Proofs.YtdgibhndjdgllaaDoor

/- What a name has, what an instruction reads, as the document's answer says it. No program is in sight here. -/
namespace Go.Proofs.YtdgibhndjdgllaaDoor
open Go.Ax
theorem FirstAt.uniq {f : Fun} {reg : Int} {k a k' a' : Nat} (h : FirstAt f reg k a) (h' : FirstAt f reg k' a') : k = k' ∧ a = a' := by
  have h1 := h.2 _ _ h'.1
  have h2 := h'.2 _ _ h.1
  omega
/-- Has a register a value ahead of a place? -/
def HasP (f : Fun) (reg block at_ : Int) : Prop := reg < f.params ∨ (0 ≤ reg ∧ ∃ k i : Nat, FirstAt f reg k i ∧ (((k : Int) = block ∧ (i : Int) < at_) ∨ ((k : Int) ≠ block ∧ Dom (succsF f) k block)))
theorem HasP.of {f : Fun} {reg block at_ k i : Int} (hp : ¬ reg < f.params) (h : WriterIs f reg k i true) : HasP f reg block at_ ↔ ((k = block ∧ i < at_) ∨ (k ≠ block ∧ Dom (succsF f) k block)) := by
  obtain ⟨k1, a1, rfl, rfl, h0, h1⟩ := h.1 rfl
  constructor
  · rintro (h2 | ⟨_, k2, a2, h3, h4⟩)
    · exact absurd h2 hp
    · obtain ⟨rfl, rfl⟩ := h1.uniq h3
      exact h4
  · intro h2
    exact .inr ⟨h0, k1, a1, h1, h2⟩
theorem HasP.no {f : Fun} {reg block at_ k i : Int} (hp : ¬ reg < f.params) (h : WriterIs f reg k i false) : ¬ HasP f reg block at_ := by
  rintro (h2 | ⟨h0, k2, a2, h3, _⟩)
  · exact hp h2
  · exact (h.2 rfl).2.2 h0 _ _ h3.1
end Go.Proofs.YtdgibhndjdgllaaDoor

/- What a program is that nothing is wrong with, as the document's answer says it. No program is in sight here. -/
namespace Go.Proofs.YtdgibhndjdgllaaDoor
open Go.Ax
def goesTo (block : Int) (b : List Ins) : Bool := match b[b.length - 1]? with
  | some i => decide (block ∈ targetsF i)
  | none => false
def predCount (f : Fun) (block : Int) : Nat := f.blocks.countP (goesTo block)
theorem countP_take_succ {α : Type} {l : List α} {k : Nat} {x : α} {p : α → Bool} (h : l[k]? = some x) : (l.take (k + 1)).countP p = (l.take k).countP p + if p x = true then 1 else 0 := by
  rw [take_succ h, List.countP_append]; simp
theorem countP_take_le {α : Type} {l : List α} {k : Nat} {p : α → Bool} : (l.take k).countP p ≤ k := by
  have := List.countP_le_length (p := p) (l := l.take k)
  rw [List.length_take] at this; omega
/-- An instruction stands as it may. -/
def formF (b : List Ins) (j : Nat) (i : Ins) : Prop := right15 i = true ∧ (endsF i.op = true ↔ j + 1 = b.length) ∧ (i.op = 44 → ∀ x ∈ b.take j, x.op = 44)
theorem site_pos {i : Ins} (h : right15 i = true) : 0 ≤ i.site := by
  unfold right15 fitsF at h
  simp at h
  have := h.2.1.2.2.2.2
  unfold fits0 at this
  simp at this
  omega
/-- All is there that an instruction names. -/
def thereP (p : Pro) (f : Fun) (block : Int) (i : Ins) : Prop :=
  def15 i < f.regs.length ∧ (∀ u ∈ usesF i, u < f.regs.length) ∧ (∀ t ∈ targetsF i, t ≠ 0 ∧ t < f.blocks.length) ∧
  (checkF i.op = true → i.site < p.sites.length ∧ (p.sites.getD i.site.toNat (0, 0)).1 = trapF i.op) ∧ (i.op = 39 → i.n < p.funcs.length) ∧ (i.op = 44 → (i.args.length : Int) = predCount f block)
def fun0 : Fun := ⟨⟨#[]⟩, 0, 0, [], []⟩
theorem fits0_pos {h : Bool} {n : Int} (e : fits0 h n = true) : 0 ≤ n := by
  unfold fits0 at e; simp at e; omega
theorem right_pos {i : Ins} (h : right15 i = true) : 0 ≤ i.dst ∧ 0 ≤ i.a ∧ 0 ≤ i.b ∧ 0 ≤ i.c := by
  unfold right15 fitsF at h
  simp only [Bool.and_eq_true] at h
  obtain ⟨_, ⟨h1, h2, h3, h4, _⟩, _⟩ := h
  exact ⟨fits0_pos h1, fits0_pos h2, fits0_pos h3, fits0_pos h4⟩
theorem right_n {i : Ins} (h : right15 i = true) (e : i.op = 39) : 0 ≤ i.n := by
  unfold right15 tailF at h
  simp only [Bool.and_eq_true, e, if_true, decide_eq_true_eq] at h
  exact h.2.2.2.1
theorem right_def {i : Ins} (h : right15 i = true) (e : writesF i.op = true) : def15 i = i.dst := by unfold def15; rw [if_pos ⟨h, e⟩]
theorem uses_a {i : Ins} (h : right15 i = true) (e : (abF i.op || oneF i.op) = true) : i.a ∈ usesF i := by
  unfold usesF; rw [if_pos h, if_pos e]; simp
/-- The kinds that an instruction reads. -/
def kindsF (p : Pro) (f : Fun) (i : Ins) : List Int :=
  if i.op = 3 ∨ i.op = 4 then [f.regs.getD i.a.toNat 0, f.regs.getD i.a.toNat 0]
  else if i.op = 23 then [f.regs.getD i.dst.toNat 0]
  else if i.op = 25 ∨ i.op = 42 then [2]
  else if i.op = 26 ∨ i.op = 27 ∨ i.op = 31 then [3]
  else if i.op = 29 ∨ i.op = 32 then [3, 1]
  else if i.op = 30 then [3, 1, 1]
  else if i.op = 39 then (p.funcs.getD i.n.toNat fun0).regs.take (max 0 (min (p.funcs.getD i.n.toNat fun0).params (p.funcs.getD i.n.toNat fun0).regs.length)).toNat
  else if i.op = 43 then [f.ret]
  else if i.op = 45 ∧ i.m = 21 then [3]
  else if i.op = 45 ∧ i.m = 20 then [1, 3]
  else List.replicate (usesF i).length (if i.op = 44 then f.regs.getD i.dst.toNat 0 else 1)
/-- The kind that an instruction writes. -/
def kindF (p : Pro) (f : Fun) (i : Ins) : Int :=
  if i.op ≤ 8 ∨ i.op = 21 ∨ i.op = 25 ∨ i.op = 26 then 2
  else if i.op = 22 ∨ i.op = 28 ∨ (i.op = 45 ∧ i.m = 21) then 3
  else if i.op = 39 then (p.funcs.getD i.n.toNat fun0).ret
  else if i.op = 23 ∨ i.op = 44 then f.regs.getD i.dst.toNat 0
  else 1
end Go.Proofs.YtdgibhndjdgllaaDoor

/- Nothing is wrong with an instruction. No program is in sight here. -/
namespace Go.Proofs.YtdgibhndjdgllaaDoor
open Go.Ax
/-- Nothing is wrong with an instruction. -/
def oneP (p : Pro) (f : Fun) (k : Nat) (b : List Ins) (j : Nat) (i : Ins) : Prop :=
  formF b j i ∧ thereP p f k i ∧ (usesF i).map (fun r => f.regs.getD r.toNat 0) = kindsF p f i ∧ (writesF i.op = true → f.regs.getD i.dst.toNat 0 = kindF p f i)
theorem uses_pos {i : Ins} (h : right15 i = true) : ∀ u ∈ usesF i, 0 ≤ u := by
  obtain ⟨h1, h2, h3, h4⟩ := right_pos h
  have h5 : ∀ x ∈ i.args, 0 ≤ x := by
    unfold right15 at h
    simp only [Bool.and_eq_true, decide_eq_true_eq] at h
    exact h.2.2.1
  intro u hu
  unfold usesF at hu
  rw [if_pos h] at hu
  simp only [List.mem_append] at hu
  rcases hu with hu | hu | hu | hu
  · split at hu <;> simp at hu; omega
  · split at hu <;> simp at hu; omega
  · split at hu <;> simp at hu; omega
  · exact h5 u hu
theorem kindsF_len {p : Pro} {f : Fun} {i : Ins} (hi : i.args.length < 100000) (hg : ∀ g ∈ p.funcs, g.regs.length < 1000000) : (kindsF p f i).length < 1000000 := by
  have hu := usesF_len i
  have h1 : (p.funcs.getD i.n.toNat fun0).regs.length < 1000000 := by
    rw [List.getD_eq_getElem?_getD]
    cases hc : p.funcs[i.n.toNat]? with
    | none => simp [fun0]
    | some g => exact hg g (List.mem_of_getElem? hc)
  unfold kindsF
  repeat' split
  all_goals first
    | (simp; done)
    | (rw [List.length_take]; omega)
    | (rw [List.length_replicate]; omega)
end Go.Proofs.YtdgibhndjdgllaaDoor

/- What is wrong with a program, as the document's answer says it. No program is in sight here. -/
namespace Go.Proofs.YtdgibhndjdgllaaDoor
open Go.Ax
instance (b : List Ins) (j : Nat) (i : Ins) : Decidable (formF b j i) := by unfold formF; infer_instance
instance (p : Pro) (f : Fun) (k : Int) (i : Ins) : Decidable (thereP p f k i) := by unfold thereP; infer_instance
def typeP (p : Pro) (f : Fun) (i : Ins) : Prop := (usesF i).map (fun r => f.regs.getD r.toNat 0) = kindsF p f i ∧ (writesF i.op = true → f.regs.getD i.dst.toNat 0 = kindF p f i)
instance (p : Pro) (f : Fun) (i : Ins) : Decidable (typeP p f i) := by unfold typeP; infer_instance
/-- What is wrong with an instruction. -/
def oneE (p : Pro) (f : Fun) (k : Nat) (b : List Ins) (j : Nat) (i : Ins) : Int :=
  if formF b j i then (if thereP p f k i then (if typeP p f i then 0 else 11) else 2) else 5
theorem oneE_zero {p : Pro} {f : Fun} {k : Nat} {b : List Ins} {j : Nat} {i : Ins} : oneE p f k b j i = 0 ↔ oneP p f k b j i := by
  unfold oneE oneP
  constructor
  · intro h
    split at h
    · split at h
      · split at h
        · rename_i h1 h2 h3; exact ⟨h1, h2, h3.1, h3.2⟩
        · cases h
      · cases h
    · cases h
  · rintro ⟨h1, h2, h3, h4⟩
    rw [if_pos h1, if_pos h2, if_pos (show typeP p f i from ⟨h3, h4⟩)]
/-- Nothing is wrong with a function itself. -/
def longP (f : Fun) : Prop := 0 ≤ f.params ∧ f.params ≤ 8 ∧ f.params ≤ f.regs.length ∧ f.regs.length ≤ 65536 ∧ f.blocks.length ≤ 65536 ∧ f.count ≤ 262144
def kindP (f : Fun) : Prop := (∀ x ∈ f.regs, 1 ≤ x ∧ x ≤ 3) ∧ (1 ≤ f.ret ∧ f.ret ≤ 3)
instance (f : Fun) : Decidable (longP f) := by unfold longP; infer_instance
instance (f : Fun) : Decidable (kindP f) := by unfold kindP; infer_instance
def headP (f : Fun) : Prop := longP f ∧ kindP f ∧ f.blocks ≠ []
/-- What is wrong with a function itself. -/
def headE (f : Fun) : Int := if longP f then (if kindP f then (if f.blocks.length = 0 then 5 else 0) else 11) else 3
theorem headE_zero {f : Fun} : headE f = 0 ↔ headP f := by
  unfold headE headP
  constructor
  · intro h
    split at h
    · split at h
      · split at h
        · cases h
        · rename_i h1 h2 h3; exact ⟨h1, h2, fun e => h3 (by rw [e]; rfl)⟩
      · cases h
    · cases h
  · rintro ⟨h1, h2, h3⟩
    rw [if_pos h1, if_pos h2, if_neg (fun e => h3 (List.eq_nil_of_length_eq_zero e))]

structure Wrong where
  fn : Int
  block : Int
  at_ : Int
  err : Int
deriving DecidableEq
def Wrong.cs (w : Wrong) : List AV := [num w.fn, num w.block, num w.at_, num w.err]
def Wrong.no : Wrong := ⟨0, 0, 0, 0⟩

/-- The first one of some that tells something. -/
def firstN {α : Type} (g : Nat → Option α) (n : Nat) : Option α := (List.range n).findSome? g
theorem firstN_succ {α : Type} (g : Nat → Option α) (n : Nat) : firstN g (n + 1) = (firstN g n).or (g n) := by
  unfold firstN; rw [List.range_succ, List.findSome?_append]; simp [List.findSome?]
  cases g n <;> rfl
theorem firstN_mono {α : Type} {g : Nat → Option α} {m n : Nat} {w : α} (h : firstN g m = some w) (hm : m ≤ n) : firstN g n = some w := by
  induction n with
  | zero => obtain rfl : m = 0 := by omega
            exact h
  | succ n ih =>
    by_cases e : m = n + 1
    · subst e; exact h
    · rw [firstN_succ, ih (by omega)]; rfl
theorem firstN_hit {α : Type} {g : Nat → Option α} {m n : Nat} {w : α} (h : firstN g m = none) (hg : g m = some w) (hm : m < n) : firstN g n = some w :=
  firstN_mono (m := m + 1) (by rw [firstN_succ, h, hg]; rfl) hm
theorem firstN_next {α : Type} {g : Nat → Option α} {m : Nat} (h : firstN g m = none) (hg : g m = none) : firstN g (m + 1) = none := by rw [firstN_succ, h, hg]; rfl
theorem firstN_none {α : Type} {g : Nat → Option α} {n : Nat} (h : firstN g n = none) : ∀ m, m < n → g m = none := by
  intro m hm
  cases e : g m with
  | none => rfl
  | some w =>
    cases e2 : firstN g m with
    | none => rw [firstN_hit e2 e hm] at h; cases h
    | some w2 => rw [firstN_mono e2 (by omega)] at h; cases h
theorem firstN_all {α : Type} {g : Nat → Option α} : ∀ {n : Nat}, (∀ m, m < n → g m = none) → firstN g n = none
  | 0, _ => rfl
  | n + 1, h => firstN_next (firstN_all fun m hm => h m (by omega)) (h n (by omega))

def insW (p : Pro) (f : Fun) (n k : Nat) (b : List Ins) (j : Nat) : Option Wrong := match b[j]? with
  | some i => if oneE p f k b j i = 0 then none else some ⟨n, k, j, oneE p f k b j i⟩
  | none => none
def blkE (p : Pro) (f : Fun) (n k : Nat) : Option Wrong := match f.blocks[k]? with
  | some b => if b.length = 0 then some ⟨n, k, -1, 5⟩ else firstN (insW p f n k b) b.length
  | none => none
def funE (p : Pro) (n : Nat) : Option Wrong := match p.funcs[n]? with
  | some f => if headE f = 0 then firstN (blkE p f n) f.blocks.length else some ⟨n, -1, -1, headE f⟩
  | none => none
/-- The main one is as it must be. -/
def mainP (p : Pro) : Prop := 0 ≤ p.main ∧ p.main < p.funcs.length ∧ (p.funcs.getD p.main.toNat fun0).params = 1 ∧ (p.funcs.getD p.main.toNat fun0).regs.length ≠ 0 ∧ (p.funcs.getD p.main.toNat fun0).regs.getD 0 0 = 3 ∧ (p.funcs.getD p.main.toNat fun0).ret = 1
instance (p : Pro) : Decidable (mainP p) := by unfold mainP; infer_instance
/-- What is wrong with a program. -/
def checkE (p : Pro) : Wrong :=
  if 200 < p.funcs.length ∨ 262144 < p.sites.length then ⟨-1, -1, -1, 3⟩
  else if mainP p then (firstN (funE p) p.funcs.length).getD Wrong.no
  else ⟨-1, -1, -1, 13⟩
theorem insW_some {p : Pro} {f : Fun} {n k : Nat} {b : List Ins} {j : Nat} {i : Ins} (gi : b[j]? = some i) (h : oneE p f k b j i ≠ 0) : insW p f n k b j = some ⟨n, k, j, oneE p f k b j i⟩ := by unfold insW; rw [gi]; exact if_neg h
theorem insW_none {p : Pro} {f : Fun} {n k : Nat} {b : List Ins} {j : Nat} {i : Ins} (gi : b[j]? = some i) (h : oneE p f k b j i = 0) : insW p f n k b j = none := by unfold insW; rw [gi]; exact if_pos h
theorem blkE_empty {p : Pro} {f : Fun} {n k : Nat} {b : List Ins} (gb : f.blocks[k]? = some b) (h : b.length = 0) : blkE p f n k = some ⟨n, k, -1, 5⟩ := by unfold blkE; rw [gb]; exact if_pos h
theorem blkE_first {p : Pro} {f : Fun} {n k : Nat} {b : List Ins} (gb : f.blocks[k]? = some b) (h : b.length ≠ 0) : blkE p f n k = firstN (insW p f n k b) b.length := by unfold blkE; rw [gb]; exact if_neg h
theorem funE_head {p : Pro} {n : Nat} {f : Fun} (gf : p.funcs[n]? = some f) (h : headE f ≠ 0) : funE p n = some ⟨n, -1, -1, headE f⟩ := by unfold funE; rw [gf]; exact if_neg h
theorem funE_first {p : Pro} {n : Nat} {f : Fun} (gf : p.funcs[n]? = some f) (h : headE f = 0) : funE p n = firstN (blkE p f n) f.blocks.length := by unfold funE; rw [gf]; exact if_pos h
theorem checkE_hit {p : Pro} {n : Nat} {w : Wrong} (h1 : p.funcs.length ≤ 200) (h2 : p.sites.length ≤ 262144) (hm : mainP p) (h : firstN (funE p) n = none) (hn : n < p.funcs.length) (hw : funE p n = some w) : checkE p = w := by
  unfold checkE; rw [if_neg (by omega), if_pos hm, firstN_hit h hw hn]; rfl
/-- Nothing is wrong with a function. -/
def funP (p : Pro) (f : Fun) : Prop := headP f ∧ ∀ (k : Nat) (b : List Ins), f.blocks[k]? = some b → b.length ≠ 0 ∧ ∀ (j : Nat) (i : Ins), b[j]? = some i → oneP p f k b j i
/-- Nothing is wrong with a program. -/
def proP (p : Pro) : Prop := p.funcs.length ≤ 200 ∧ p.sites.length ≤ 262144 ∧ mainP p ∧ ∀ f ∈ p.funcs, funP p f
theorem insW_err {p : Pro} {f : Fun} {n k : Nat} {b : List Ins} {j : Nat} {w : Wrong} (h : insW p f n k b j = some w) : w.err ≠ 0 := by
  unfold insW at h
  split at h
  · split at h
    · cases h
    · rename_i h1; cases h; exact h1
  · cases h
theorem firstN_some {α : Type} {g : Nat → Option α} {n : Nat} {w : α} (h : firstN g n = some w) : ∃ m, m < n ∧ g m = some w := by
  unfold firstN at h
  obtain ⟨m, hm, hg⟩ := List.exists_of_findSome?_eq_some h
  exact ⟨m, List.mem_range.1 hm, hg⟩
theorem blkE_err {p : Pro} {f : Fun} {n k : Nat} {w : Wrong} (h : blkE p f n k = some w) : w.err ≠ 0 := by
  unfold blkE at h
  split at h
  · split at h
    · cases h; exact (by decide : (5 : Int) ≠ 0)
    · obtain ⟨m, _, hm⟩ := firstN_some h; exact insW_err hm
  · cases h
theorem funE_err {p : Pro} {n : Nat} {w : Wrong} (h : funE p n = some w) : w.err ≠ 0 := by
  unfold funE at h
  split at h
  · split at h
    · obtain ⟨m, _, hm⟩ := firstN_some h; exact blkE_err hm
    · rename_i h1; cases h; exact h1
  · cases h
theorem blkE_none {p : Pro} {f : Fun} {n k : Nat} {b : List Ins} (gb : f.blocks[k]? = some b) : blkE p f n k = none ↔ b.length ≠ 0 ∧ ∀ (j : Nat) (i : Ins), b[j]? = some i → oneP p f k b j i := by
  by_cases hb : b.length = 0
  · rw [blkE_empty gb hb]
    exact ⟨fun h => (by cases h), fun h => absurd hb h.1⟩
  · rw [blkE_first gb hb]
    constructor
    · intro h
      refine ⟨hb, fun j i gi => ?_⟩
      have h1 := firstN_none h j (List.getElem?_eq_some_iff.1 gi).1
      rw [← oneE_zero]
      exact Classical.byContradiction fun h2 => by rw [insW_some gi h2] at h1; cases h1
    · intro h
      refine firstN_all fun j hj => ?_
      exact insW_none (List.getElem?_eq_getElem hj) (oneE_zero.2 (h.2 _ _ (List.getElem?_eq_getElem hj)))
theorem funE_none {p : Pro} {n : Nat} {f : Fun} (gf : p.funcs[n]? = some f) : funE p n = none ↔ funP p f := by
  by_cases hh : headE f = 0
  · rw [funE_first gf hh]
    constructor
    · intro h
      refine ⟨headE_zero.1 hh, fun k b gb => ?_⟩
      exact (blkE_none gb).1 (firstN_none h k (List.getElem?_eq_some_iff.1 gb).1)
    · intro h
      exact firstN_all fun k hk => (blkE_none (List.getElem?_eq_getElem hk)).2 (h.2 _ _ (List.getElem?_eq_getElem hk))
  · rw [funE_head gf hh]
    exact ⟨fun h => (by cases h), fun h => absurd (headE_zero.2 h.1) hh⟩
theorem checkE_zero {p : Pro} : (checkE p).err = 0 ↔ proP p := by
  unfold checkE proP
  by_cases h1 : 200 < p.funcs.length ∨ 262144 < p.sites.length
  · rw [if_pos h1]
    exact ⟨fun h => absurd h (by decide), fun h => by omega⟩
  rw [if_neg h1]
  by_cases h2 : mainP p
  · rw [if_pos h2]
    constructor
    · intro h
      refine ⟨by omega, by omega, h2, fun f hf => ?_⟩
      obtain ⟨n, hn, rfl⟩ := List.getElem_of_mem hf
      rw [← funE_none (List.getElem?_eq_getElem hn)]
      refine firstN_none (n := p.funcs.length) ?_ n hn
      cases e : firstN (funE p) p.funcs.length with
      | none => rfl
      | some w =>
        rw [e] at h
        obtain ⟨m, _, hm⟩ := firstN_some e
        exact absurd h (funE_err hm)
    · intro h
      rw [firstN_all (g := funE p) fun n hn => (funE_none (List.getElem?_eq_getElem hn)).2 (h.2.2.2 _ (List.getElem_mem hn))]
      rfl
  · rw [if_neg h2]
    exact ⟨fun h => absurd h (by decide), fun h => absurd h.2.2.1 h2⟩
/-- Small enough for the machine. -/
def Pro.slim (p : Pro) : Prop := p.fits ∧ ∀ f ∈ p.funcs, f.count ≤ 100000000000000000 ∧ f.regs.length < 1000000 ∧ ∀ b ∈ f.blocks, ∀ i ∈ b, i.args.length < 100000
theorem Pro.few.slim {p : Pro} {most : Int} (h : p.few most) (hm : most ≤ 100000) (hp : p.fits) : p.slim := by
  refine ⟨hp, fun f hf => ?_⟩
  have h1 := Pro.count_fun hf
  have h2 := h.2.2.1
  obtain ⟨h3, _, _, h4⟩ := h.2.2.2 f hf
  exact ⟨by omega, by omega, fun b hb i hi => by have := h4 b hb i hi; omega⟩
end Go.Proofs.YtdgibhndjdgllaaDoor

/- Who writes a name, as plain data. No program is in sight here. -/
namespace Go.Proofs.YtdgibhndjdgllaaDoor
open Go.Ax

structure Wr where
  i : Ins
  block : Int
  is : Bool
def Ins.none : Ins := ⟨0, 0, 0, 0, 0, 0, 0, 0, []⟩
def Wr0 : Wr := ⟨Ins.none, 0, false⟩
def Wr.cs (w : Wr) : List AV := [num w.i.op, num w.i.dst, num w.i.a, num w.i.b, num w.i.c, num w.i.n, num w.i.m, num w.i.site, ints w.i.args, num w.block, tru w.is]

structure Names where
  ws : List Wr
  params : Int
def Names.cs (n : Names) : List AV := [.sl false 11 (n.ws.map Wr.cs), num n.params]
def namesA (n : Names) : AV := .pt n.cs
def ownNames (n : Names) : AV := .opt [.osl 11 (n.ws.map Wr.cs), num n.params]

def setW (ws : List Wr) (k : Nat) (i : Ins) : List Wr := if 0 ≤ defF i ∧ defF i < ws.length ∧ (ws.getD (defF i).toNat Wr0).is = false then ws.set (defF i).toNat ⟨i, k, true⟩ else ws
def blkW (ws : List Wr) (k : Nat) (b : List Ins) : Nat → List Wr
  | 0 => ws
  | j + 1 => match b[j]? with
    | some i => setW (blkW ws k b j) k i
    | none => blkW ws k b j
def outW (f : Fun) : Nat → List Wr
  | 0 => List.replicate f.regs.length Wr0
  | k + 1 => match f.blocks[k]? with
    | some b => blkW (outW f k) k b b.length
    | none => outW f k
def newF (f : Fun) : Names := ⟨outW f f.blocks.length, f.params⟩

theorem setW_len (ws : List Wr) (k : Nat) (i : Ins) : (setW ws k i).length = ws.length := by unfold setW; split <;> simp
theorem blkW_len (ws : List Wr) (k : Nat) (b : List Ins) (j : Nat) : (blkW ws k b j).length = ws.length := by
  induction j with
  | zero => rfl
  | succ j ih => unfold blkW; split <;> simp [setW_len, ih]
theorem outW_len (f : Fun) (k : Nat) : (outW f k).length = f.regs.length := by
  induction k with
  | zero => simp [outW]
  | succ k ih => unfold outW; split <;> simp [blkW_len, ih]
theorem blkW_succ {ws : List Wr} {k j : Nat} {b : List Ins} {i : Ins} (h : b[j]? = some i) : blkW ws k b (j + 1) = setW (blkW ws k b j) k i := by simp only [blkW, h]
theorem outW_succ {f : Fun} {k : Nat} {b : List Ins} (h : f.blocks[k]? = some b) : outW f (k + 1) = blkW (outW f k) k b b.length := by simp only [outW, h]

def Names.of (n : Names) (x : Int) : Wr := if 0 ≤ x ∧ x < n.ws.length then n.ws.getD x.toNat Wr0 else Wr0
def Names.block (n : Names) (x : Int) : Int := if (n.of x).is = true then (n.of x).block else if 0 ≤ x ∧ x < n.params ∧ x < n.ws.length then 0 else -1
/-- The names from one on, as far as there is fuel. -/
def Names.up (n : Names) : Nat → Int → List Int
  | 0, x => [x]
  | k + 1, x => if (n.of x).is = true ∧ ((n.of x).i.op = 23 ∨ (n.of x).i.op = 45) then x :: n.up k (n.of x).i.a else [x]
def Names.chain (n : Names) (x : Int) : List Int := if 0 ≤ x ∧ x < n.ws.length then n.up n.ws.length x else []
def Names.root (n : Names) (x : Int) : Int := (n.chain x).getLastD x
theorem up_len (n : Names) : ∀ (k : Nat) (x : Int), (n.up k x).length ≤ k + 1
  | 0, x => by simp [Names.up]
  | k + 1, x => by
    unfold Names.up
    split
    · have := up_len n k (n.of x).i.a; simp; omega
    · simp
theorem chain_len (n : Names) (x : Int) : (n.chain x).length ≤ n.ws.length + 1 := by
  unfold Names.chain; split
  · exact up_len _ _ _
  · simp
theorem newF_len (f : Fun) : (newF f).ws.length = f.regs.length := outW_len _ _
end Go.Proofs.YtdgibhndjdgllaaDoor

/- What a proper program is, and what its names are, as the document's answer says it. No program is in sight here. -/
namespace Go.Proofs.YtdgibhndjdgllaaDoor
open Go.Ax
/-- A function is proper. -/
def properF (f : Fun) : Prop := (∀ k : Nat, k < f.blocks.length → Reaches (succsF f) (-1) k) ∧ ∀ (k : Nat) (b : List Ins), f.blocks[k]? = some b → ∀ (j : Nat) (i : Ins), b[j]? = some i →
  (0 ≤ def15 i → f.params ≤ def15 i ∧ FirstAt f (def15 i) k j) ∧ (i.op ≠ 44 → ∀ u ∈ usesF i, HasP f u k j)
def properP (p : Pro) : Prop := proP p ∧ ∀ f ∈ p.funcs, properF f
theorem uses_phi {i : Ins} (e : i.op = 44) : (usesF i).length ≤ i.args.length := by
  unfold usesF
  split
  · have h1 : (abF i.op || oneF i.op) = false := by unfold abF twoF oneF; simp [e]
    have h2 : bF i = false := by unfold bF abF twoF; simp [e]
    rw [if_neg (by rw [h1]; simp), if_neg (by rw [h2]; simp), if_neg (by omega)]
    simp
  · simp
theorem countP_range {α : Type} (p : α → Bool) (l : List α) : ∀ n, n ≤ l.length → (l.take n).countP p = ((List.range n).filter (fun j => match l[j]? with | some x => p x | none => false)).length
  | 0, _ => rfl
  | n + 1, h => by
    rw [countP_take_succ (List.getElem?_eq_getElem (by omega)), List.range_succ, List.filter_append, List.length_append, countP_range p l n (by omega)]
    congr 1
    simp only [List.filter_cons, List.filter_nil]
    rw [List.getElem?_eq_getElem (by omega)]
    dsimp only
    split <;> rfl
theorem mem_succ1 {n k : Nat} {b : List Ins} (hk : k < n) : (k : Int) ∈ succ1 n b ↔ goesTo k b = true := by
  unfold succ1 goesTo below
  cases b[b.length - 1]? with
  | none => simp
  | some i =>
    simp only [decide_eq_true_iff, List.mem_filter]
    constructor
    · rintro ⟨h, _⟩; exact h
    · intro h; exact ⟨h, by omega⟩
theorem predCount_len (f : Fun) (k : Nat) (hk : k < f.blocks.length) : (predOf (succsF f) k (succsF f).length).length = predCount f k := by
  unfold predOf predCount
  have h1 := countP_range (goesTo k) f.blocks f.blocks.length (Nat.le_refl _)
  rw [List.take_length] at h1
  rw [List.length_map, h1, succsF_len]
  congr 1
  refine List.filter_congr fun j hj => ?_
  have hj := List.mem_range.1 hj
  unfold succsF
  rw [List.getElem?_map, List.getElem?_eq_getElem hj]
  simp only [Option.map_some, Option.getD_some]
  rw [Bool.eq_iff_iff, decide_eq_true_iff]
  exact mem_succ1 hk
theorem phi_preds {p : Pro} {f : Fun} {k j : Nat} {b : List Ins} {i : Ins} (gb : f.blocks[k]? = some b) (h : oneP p f k b j i) (e : i.op = 44) : (usesF i).length ≤ (predOf (succsF f) k (succsF f).length).length := by
  rw [predCount_len f k (List.getElem?_eq_some_iff.1 gb).1]
  have h1 := h.2.1.2.2.2.2.2 e
  have h2 := uses_phi e
  omega

/-- A way of so many steps. -/
inductive PathN (s : List (List Int)) : Nat → Int → Prop
  | zero : s ≠ [] → PathN s 0 0
  | step {n k : Nat} {t : Int} {l : List Int} : PathN s n k → s[k]? = some l → t ∈ l → PathN s (n + 1) t
theorem Reaches.path {s : List (List Int)} {x t : Int} (h : Reaches s x t) : ∃ n, PathN s n t := by
  induction h with
  | zero h _ => exact ⟨0, .zero h⟩
  | step _ hl ht _ ih => obtain ⟨n, ih⟩ := ih; exact ⟨n + 1, .step ih hl ht⟩
theorem PathN.thru {s : List (List Int)} {n : Nat} {t : Int} (a : Int) (h : PathN s n t) : Reaches s a t ∨ ∃ m, m ≤ n ∧ PathN s m a ∧ (m = n → a = t) := by
  induction h with
  | zero h =>
    by_cases e : a = 0
    · subst e; exact .inr ⟨0, by omega, .zero h, fun _ => rfl⟩
    · exact .inl (.zero h e)
  | @step n k t l hp hl ht ih =>
    by_cases e : t = a
    · subst e; exact .inr ⟨n + 1, by omega, .step hp hl ht, fun _ => rfl⟩
    · rcases ih with ih | ⟨m, h1, h2, h3⟩
      · exact .inl (.step ih hl ht e)
      · exact .inr ⟨m, by omega, h2, fun h => by omega⟩
theorem Dom.path {s : List (List Int)} {n : Nat} {a b : Int} (h : Dom s a b) (hn : a ≠ b) (hp : PathN s n b) : ∃ m, m < n ∧ PathN s m a := by
  rcases hp.thru a with h1 | ⟨m, h1, h2, h3⟩
  · exact absurd h1 h.2.2
  · refine ⟨m, ?_, h2⟩
    by_cases e : m = n
    · exact absurd (h3 e) hn
    · omega

/-- Of writers up to a place: what is known. -/
def WsAt (f : Fun) (ws : List Wr) (k j : Nat) : Prop := ws.length = f.regs.length ∧ ∀ d : Nat, d < f.regs.length →
  ((ws.getD d Wr0).is = true → ∃ k' a' b i, f.blocks[k']? = some b ∧ b[a']? = some i ∧ FirstAt f d k' a' ∧ ws.getD d Wr0 = ⟨i, k', true⟩) ∧
  ((ws.getD d Wr0).is = false → ws.getD d Wr0 = Wr0 ∧ ∀ k' a', WrittenAt f d k' a' → k < k' ∨ (k = k' ∧ j ≤ a'))
theorem WsAt.step {f : Fun} {ws : List Wr} {k j : Nat} {b : List Ins} {i : Ins} (h : WsAt f ws k j) (gb : f.blocks[k]? = some b) (gi : b[j]? = some i) : WsAt f (setW ws k i) k (j + 1) := by
  refine ⟨by rw [setW_len]; exact h.1, fun d hd => ?_⟩
  obtain ⟨h1, h2⟩ := h.2 d hd
  have keep : (setW ws k i).getD d Wr0 = ws.getD d Wr0 → (def15 i = d → (ws.getD d Wr0).is = true) → 
      (((setW ws k i).getD d Wr0).is = true → ∃ k' a' b i', f.blocks[k']? = some b ∧ b[a']? = some i' ∧ FirstAt f d k' a' ∧ (setW ws k i).getD d Wr0 = ⟨i', k', true⟩) ∧
      (((setW ws k i).getD d Wr0).is = false → (setW ws k i).getD d Wr0 = Wr0 ∧ ∀ k' a', WrittenAt f d k' a' → k < k' ∨ (k = k' ∧ j + 1 ≤ a')) := by
    intro e hw
    rw [e]
    refine ⟨h1, fun hf => ⟨(h2 hf).1, fun k' a' h' => ?_⟩⟩
    rcases (h2 hf).2 k' a' h' with h3 | ⟨rfl, h3⟩
    · exact .inl h3
    · refine .inr ⟨rfl, ?_⟩
      by_cases ej : j = a'
      · subst ej
        obtain ⟨b', i', e1, e2, e3⟩ := h'
        rw [gb] at e1; cases e1
        rw [gi] at e2; cases e2
        rw [hw e3] at hf; cases hf
      · omega
  by_cases hc : 0 ≤ defF i ∧ defF i < ws.length ∧ (ws.getD (defF i).toNat Wr0).is = false
  · have es : setW ws k i = ws.set (defF i).toNat ⟨i, k, true⟩ := if_pos hc
    by_cases ed : (defF i).toNat = d
    · have edI : def15 i = d := by rw [← def_eq]; omega
      have eg : (setW ws k i).getD d Wr0 = ⟨i, k, true⟩ := by
        rw [es, ed, List.getD_eq_getElem?_getD, List.getElem?_set_self (by omega)]; rfl
      rw [eg]
      refine ⟨fun _ => ⟨k, j, b, i, gb, gi, ⟨⟨b, i, gb, gi, edI⟩, fun k' a' h' => ?_⟩, rfl⟩, fun h => by cases h⟩
      have hf := hc.2.2
      rw [ed] at hf
      exact (h2 hf).2 k' a' h'
    · refine keep ?_ ?_
      · rw [es, List.getD_eq_getElem?_getD, List.getElem?_set_ne ed, ← List.getD_eq_getElem?_getD]
      · intro e; rw [← def_eq] at e; omega
  · have es : setW ws k i = ws := if_neg hc
    refine keep (by rw [es]) fun e => ?_
    rw [← def_eq] at e
    rw [e] at hc
    cases hf : (ws.getD d Wr0).is with
    | true => rfl
    | false => exact absurd ⟨by omega, by have := h.1; omega, by simpa using hf⟩ hc
theorem WsAt.blk {f : Fun} {ws : List Wr} {k : Nat} {b : List Ins} (h : WsAt f ws k 0) (gb : f.blocks[k]? = some b) : ∀ j, j ≤ b.length → WsAt f (blkW ws k b j) k j
  | 0, _ => h
  | j + 1, hj => by
    rw [blkW_succ (List.getElem?_eq_getElem (by omega))]
    exact (WsAt.blk h gb j (by omega)).step gb (List.getElem?_eq_getElem (by omega))
theorem WsAt.out {f : Fun} : ∀ k, k ≤ f.blocks.length → WsAt f (outW f k) k 0
  | 0, _ => by
    refine ⟨by simp [outW], fun d hd => ?_⟩
    have e : (outW f 0).getD d Wr0 = Wr0 := by simp only [outW, List.getD_eq_getElem?_getD, List.getElem?_replicate]; split <;> rfl
    rw [e]
    exact ⟨fun h => (by cases h), fun _ => ⟨rfl, fun k' a' _ => by omega⟩⟩
  | k + 1, hk => by
    have gb := List.getElem?_eq_getElem (l := f.blocks) (i := k) (by omega)
    rw [outW_succ gb]
    have h := (WsAt.out k (by omega)).blk gb _ (Nat.le_refl _)
    refine ⟨h.1, fun d hd => ⟨(h.2 d hd).1, fun hf => ⟨((h.2 d hd).2 hf).1, fun k' a' h' => ?_⟩⟩⟩
    rcases ((h.2 d hd).2 hf).2 k' a' h' with h3 | ⟨rfl, h3⟩
    · omega
    · obtain ⟨b', i', e1, e2, _⟩ := h'
      rw [gb] at e1; cases e1
      have := (List.getElem?_eq_some_iff.1 e2).1
      omega
/-- What is told of a name's writer. -/
theorem newF_of {f : Fun} {x k a : Int} {v : Bool} (h : WriterIs f x k a v) : (0 ≤ x ∧ x < f.regs.length → v = true → ∃ (k' a' : Nat) (b : List Ins) (i : Ins), k = k' ∧ a = a' ∧ f.blocks[k']? = some b ∧ b[a']? = some i ∧ (newF f).of x = ⟨i, k', true⟩) ∧
    ((v = false ∨ ¬ (0 ≤ x ∧ x < f.regs.length)) → (newF f).of x = Wr0) := by
  have hw := WsAt.out (f := f) _ (Nat.le_refl _)
  have hl : (newF f).ws.length = f.regs.length := newF_len f
  constructor
  · intro hx hv
    obtain ⟨k', a', rfl, rfl, h0, h1⟩ := h.1 hv
    obtain ⟨⟨b, i, gb, gi, ed⟩, h2⟩ := h1
    refine ⟨k', a', b, i, rfl, rfl, gb, gi, ?_⟩
    obtain ⟨g1, g2⟩ := hw.2 x.toNat (by omega)
    have ex : ((x.toNat : Nat) : Int) = x := by omega
    unfold Names.of
    rw [if_pos (by omega)]
    show (outW f f.blocks.length).getD _ _ = _
    cases hi : ((outW f f.blocks.length).getD x.toNat Wr0).is with
    | true =>
      obtain ⟨k2, a2, b2, i2, e1, e2, e3, e4⟩ := g1 hi
      rw [e4]
      rw [ex] at e3
      obtain ⟨rfl, rfl⟩ := e3.uniq ⟨⟨b, i, gb, gi, ed⟩, h2⟩
      rw [gb] at e1; cases e1
      rw [gi] at e2; cases e2
      rfl
    | false =>
      have := (g2 hi).2 k' a' (by rw [ex]; exact ⟨b, i, gb, gi, ed⟩)
      have := (List.getElem?_eq_some_iff.1 gb).1
      omega
  · intro hx
    unfold Names.of
    split
    · rename_i hr
      rcases hx with hv | hx
      · obtain ⟨g1, g2⟩ := hw.2 x.toNat (by omega)
        have ex : ((x.toNat : Nat) : Int) = x := by omega
        show (outW f f.blocks.length).getD _ _ = _
        cases hi : ((outW f f.blocks.length).getD x.toNat Wr0).is with
        | true =>
          obtain ⟨k2, a2, b2, i2, e1, e2, e3, e4⟩ := g1 hi
          rw [ex] at e3
          exact absurd e3.1 ((h.2 hv).2.2 hr.1 k2 a2)
        | false => exact (g2 hi).1
      · rw [hl] at hr; exact absurd hr hx
    · rfl

/-- A name's chain. -/
def Names.cp (n : Names) (x : Int) : Prop := (n.of x).is = true ∧ ((n.of x).i.op = 23 ∨ (n.of x).i.op = 45)
def Names.inR (n : Names) (x : Int) : Prop := 0 ≤ x ∧ x < n.ws.length
inductive ChainR (n : Names) : Int → List Int → Prop
  | stop {x} : n.inR x → ¬ n.cp x → ChainR n x [x]
  | step {x l} : n.inR x → n.cp x → ChainR n (n.of x).i.a l → ChainR n x (x :: l)
theorem ChainR.det {n : Names} {x : Int} {l l' : List Int} (h : ChainR n x l) (h' : ChainR n x l') : l = l' := by
  induction h generalizing l' with
  | stop h1 h2 => cases h' with
    | stop => rfl
    | step _ h3 _ => exact absurd h3 h2
  | step h1 h2 _ ih => cases h' with
    | stop _ h3 => exact absurd h2 h3
    | step _ _ h4 => rw [ih h4]
theorem ChainR.mem {n : Names} {x y : Int} {l : List Int} (h : ChainR n x l) (hy : y ∈ l) : n.inR y ∧ ∃ l', ChainR n y l' ∧ l'.length ≤ l.length := by
  induction h with
  | stop h1 h2 => simp at hy; subst hy; exact ⟨h1, _, .stop h1 h2, Nat.le_refl _⟩
  | step h1 h2 h3 ih =>
    rcases List.mem_cons.1 hy with rfl | hy
    · exact ⟨h1, _, .step h1 h2 h3, Nat.le_refl _⟩
    · obtain ⟨g1, l', g2, g3⟩ := ih hy
      exact ⟨g1, l', g2, by simp; omega⟩
theorem ChainR.nodup {n : Names} {x : Int} {l : List Int} (h : ChainR n x l) : l.Nodup := by
  induction h with
  | stop => simp
  | @step x l h1 h2 h3 ih =>
    refine List.nodup_cons.2 ⟨fun hm => ?_, ih⟩
    obtain ⟨_, l', g2, g3⟩ := h3.mem hm
    have := g2.det (.step h1 h2 h3)
    subst this; simp at g3
    omega
theorem nodup_len : ∀ (n : Nat) (l : List Int), l.Nodup → (∀ x ∈ l, 0 ≤ x ∧ x < n) → l.length ≤ n
  | 0, l, _, h => by
    cases l with
    | nil => simp
    | cons x l => have := h x (List.mem_cons_self ..); omega
  | n + 1, l, hn, h => by
    have ih := nodup_len n (l.erase (n : Int)) (hn.erase _) fun x hx => by
      have h1 := (hn.mem_erase_iff).1 hx
      have := h x h1.2
      have := h1.1
      omega
    by_cases hm : (n : Int) ∈ l
    · rw [List.length_erase_of_mem hm] at ih; omega
    · rw [List.erase_of_not_mem hm] at ih; omega
theorem ChainR.up {n : Names} {x : Int} {l : List Int} (h : ChainR n x l) : ∀ k, l.length ≤ k + 1 → n.up k x = l := by
  induction h with
  | stop h1 h2 =>
    intro k _
    cases k with
    | zero => rfl
    | succ k => unfold Names.up; exact if_neg h2
  | @step x l h1 h2 h3 ih =>
    intro k hk
    have : l ≠ [] := by cases h3 <;> simp
    have := List.length_pos_iff.2 this
    simp only [List.length_cons] at hk
    cases k with
    | zero => omega
    | succ k => unfold Names.up; rw [← ih k (by omega)]; exact if_pos h2
theorem ChainR.chain {n : Names} {x : Int} {l : List Int} (h : ChainR n x l) : n.chain x = l := by
  have h1 : n.inR x := by cases h <;> assumption
  have h2 := nodup_len n.ws.length l h.nodup fun y hy => (h.mem hy).1
  unfold Names.chain
  rw [← h.up n.ws.length (by omega)]; exact if_pos h1

theorem uses_copy {i : Ins} (h : right15 i = true) (e : i.op = 23 ∨ i.op = 45) : i.a ∈ usesF i := uses_a h (by unfold abF oneF; rcases e with e | e <;> simp [e])
theorem writer_is {f : Fun} {x : Int} {k a : Nat} (h0 : 0 ≤ x) (h : FirstAt f x k a) : WriterIs f x k a true := ⟨fun _ => ⟨k, a, rfl, rfl, h0, h⟩, fun h => by cases h⟩
theorem writer_all (f : Fun) (x : Int) : (∃ k a : Nat, FirstAt f x k a) ∨ ∀ k a, ¬ WrittenAt f x k a := by
  have hw : ∀ K, (∃ k a : Nat, FirstAt f x k a) ∨ ∀ k a, k < K → ¬ WrittenAt f x k a := by
    intro K
    induction K with
    | zero => exact .inr fun k a h => by omega
    | succ K ih =>
      rcases ih with ih | ih
      · exact .inl ih
      · have h2 : ∀ A, (∃ k a : Nat, FirstAt f x k a) ∨ ∀ a, a < A → ¬ WrittenAt f x K a := by
          intro A
          induction A with
          | zero => exact .inr fun a h => by omega
          | succ A ih2 =>
            rcases ih2 with ih2 | ih2
            · exact .inl ih2
            · by_cases h : WrittenAt f x K A
              · refine .inl ⟨K, A, h, fun k' a' h' => ?_⟩
                by_cases e : k' < K
                · exact absurd h' (ih k' a' e)
                · by_cases e2 : k' = K
                  · subst e2
                    by_cases e3 : a' < A
                    · exact absurd h' (ih2 a' e3)
                    · omega
                  · omega
              · refine .inr fun a ha => ?_
                by_cases e : a = A
                · subst e; exact h
                · exact ih2 a (by omega)
        cases gb : f.blocks[K]? with
        | none =>
          refine .inr fun k a hk h => ?_
          by_cases e : k = K
          · subst e; obtain ⟨b, i, e1, _⟩ := h; rw [gb] at e1; cases e1
          · exact ih k a (by omega) h
        | some b =>
          rcases h2 b.length with h2 | h2
          · exact .inl h2
          · refine .inr fun k a hk h => ?_
            by_cases e : k = K
            · subst e
              obtain ⟨b', i, e1, e2, e3⟩ := h
              rw [gb] at e1; cases e1
              exact h2 a (List.getElem?_eq_some_iff.1 e2).1 ⟨b, i, gb, e2, e3⟩
            · exact ih k a (by omega) h
  rcases hw f.blocks.length with h | h
  · exact .inl h
  · refine .inr fun k a h' => ?_
    obtain ⟨b, i, e1, _⟩ := id h'
    exact h k a (List.getElem?_eq_some_iff.1 e1).1 h'
theorem chain_ends {p : Pro} {f : Fun} (hf : funP p f) (hp : properF f) : ∀ x, (newF f).inR x → ∃ l, ChainR (newF f) x l := by
  have hl : (newF f).ws.length = f.regs.length := newF_len f
  have none : ∀ x, (newF f).inR x → (∀ k a, ¬ WrittenAt f x k a) → ∃ l, ChainR (newF f) x l := fun x hx h => by
    have := (newF_of (f := f) (x := x) (k := 0) (a := 0) (v := false) ⟨fun h => absurd h (by decide), fun _ => ⟨rfl, rfl, fun _ => h⟩⟩).2 (.inl rfl)
    exact ⟨_, .stop hx fun hc => by unfold Names.cp at hc; rw [this] at hc; cases hc.1⟩
  have key : ∀ n, ∀ j, ∀ x (k : Nat), (newF f).inR x → FirstAt f x k j → PathN (succsF f) n k → ∃ l, ChainR (newF f) x l := by
    intro n
    induction n using Nat.strongRecOn with
    | ind n ihn =>
      intro j
      induction j using Nat.strongRecOn with
      | ind j ihj =>
        intro x k hx hfirst hpath
        have hxr := hx
        unfold Names.inR at hxr
        obtain ⟨k', a', b, i, e1, e2, gb, gi, eo⟩ := (newF_of (writer_is hxr.1 hfirst)).1 (by rw [← hl]; exact hxr) rfl
        obtain rfl : k = k' := by omega
        obtain rfl : j = a' := by omega
        by_cases hc : (newF f).cp x
        · have hop : i.op = 23 ∨ i.op = 45 := by
            have := hc.2; rw [eo] at this; exact this
          have hone := (hf.2 k b gb).2 j i gi
          have hr := hone.1.1
          have hu := uses_copy hr hop
          have hub := hone.2.1.2.1 i.a hu
          have hup := uses_pos hr i.a hu
          have hin : (newF f).inR i.a := ⟨hup, by rw [hl]; exact hub⟩
          have hh := (hp.2 k b gb j i gi).2 (by omega) i.a hu
          have fin : (∃ l, ChainR (newF f) i.a l) → ∃ l, ChainR (newF f) x l := fun ⟨l, h⟩ => ⟨_, .step hx hc (by rw [eo]; exact h)⟩
          refine fin ?_
          rcases hh with h1 | ⟨h0, k2, i2, h3, h4⟩
          · refine none _ hin fun k2 a2 ⟨b2, j2, g1, g2, g3⟩ => ?_
            have := ((hp.2 k2 b2 g1 a2 j2 g2).1 (by omega)).1
            omega
          · rcases h4 with ⟨h4, h5⟩ | ⟨h4, h5⟩
            · obtain rfl : k2 = k := by omega
              exact ihj i2 (by omega) i.a k2 hin h3 hpath
            · obtain ⟨m, hm, hpm⟩ := h5.path h4 hpath
              exact ihn m hm i2 i.a k2 hin h3 hpm
        · exact ⟨_, .stop hx hc⟩
  intro x hx
  rcases writer_all f x with ⟨k, a, h⟩ | h
  · obtain ⟨b, i, e1, _⟩ := h.1
    obtain ⟨n, hn⟩ := (hp.1 k (List.getElem?_eq_some_iff.1 e1).1).path
    exact key n a x k hx h hn
  · exact none x hx h
end Go.Proofs.YtdgibhndjdgllaaDoor
