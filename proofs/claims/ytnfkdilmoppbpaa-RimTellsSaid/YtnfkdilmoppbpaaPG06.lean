/- What a program is that nothing is wrong with, as the document's answer says it. No program is in sight here. -/
import Derived.Test.YtnfkdilmoppbpaaPG05
import Derived.Test.YtnfkdilmoppbpaaPG03
set_option linter.unusedVariables false
set_option linter.unusedSimpArgs false

namespace Go.Proofs.Ytnfkdilmoppbpaa
open Go.Ax
def goesTo (block : Int) (b : List Ins) : Bool := match b[b.length - 1]? with
  | some i => decide (block ∈ targetsF i)
  | none => false
def predCount (f : Fun) (block : Int) : Nat := f.blocks.countP (goesTo block)
theorem countP_take_succ {α : Type} {l : List α} {k : Nat} {x : α} {p : α → Bool} (h : l[k]? = some x) : (l.take (k + 1)).countP p = (l.take k).countP p + if p x = true then 1 else 0 := by
  rw [take_succ h, List.countP_append]; simp
theorem countP_take_le {α : Type} {l : List α} {k : Nat} {p : α → Bool} : (l.take k).countP p ≤ k := by
  have := List.countP_le_length (p := p) (l := l.take k)
  rw [List.length_take] at this; omega
/-- An instruction stands as it may. -/
def formF (b : List Ins) (j : Nat) (i : Ins) : Prop := right15 i = true ∧ (endsF i.op = true ↔ j + 1 = b.length) ∧ (i.op = 44 → ∀ x ∈ b.take j, x.op = 44)
theorem site_pos {i : Ins} (h : right15 i = true) : 0 ≤ i.site := by
  unfold right15 fitsF at h
  simp at h
  have := h.2.1.2.2.2.2
  unfold fits0 at this
  simp at this
  omega
/-- All is there that an instruction names. -/
def thereP (p : Pro) (f : Fun) (block : Int) (i : Ins) : Prop :=
  def15 i < f.regs.length ∧ (∀ u ∈ usesF i, u < f.regs.length) ∧ (∀ t ∈ targetsF i, t ≠ 0 ∧ t < f.blocks.length) ∧
  (checkF i.op = true → i.site < p.sites.length ∧ (p.sites.getD i.site.toNat (0, 0)).1 = trapF i.op) ∧ (i.op = 39 → i.n < p.funcs.length) ∧ (i.op = 44 → (i.args.length : Int) = predCount f block)
def fun0 : Fun := ⟨⟨#[]⟩, 0, 0, [], []⟩
theorem fits0_pos {h : Bool} {n : Int} (e : fits0 h n = true) : 0 ≤ n := by
  unfold fits0 at e; simp at e; omega
theorem right_pos {i : Ins} (h : right15 i = true) : 0 ≤ i.dst ∧ 0 ≤ i.a ∧ 0 ≤ i.b ∧ 0 ≤ i.c := by
  unfold right15 fitsF at h
  simp only [Bool.and_eq_true] at h
  obtain ⟨_, ⟨h1, h2, h3, h4, _⟩, _⟩ := h
  exact ⟨fits0_pos h1, fits0_pos h2, fits0_pos h3, fits0_pos h4⟩
theorem right_n {i : Ins} (h : right15 i = true) (e : i.op = 39) : 0 ≤ i.n := by
  unfold right15 tailF at h
  simp only [Bool.and_eq_true, e, if_true, decide_eq_true_eq] at h
  exact h.2.2.2.1
theorem right_def {i : Ins} (h : right15 i = true) (e : writesF i.op = true) : def15 i = i.dst := by unfold def15; rw [if_pos ⟨h, e⟩]
theorem uses_a {i : Ins} (h : right15 i = true) (e : (abF i.op || oneF i.op) = true) : i.a ∈ usesF i := by
  unfold usesF; rw [if_pos h, if_pos e]; simp
/-- The kinds that an instruction reads. -/
def kindsF (p : Pro) (f : Fun) (i : Ins) : List Int :=
  if i.op = 3 ∨ i.op = 4 then [f.regs.getD i.a.toNat 0, f.regs.getD i.a.toNat 0]
  else if i.op = 23 then [f.regs.getD i.dst.toNat 0]
  else if i.op = 25 ∨ i.op = 42 then [2]
  else if i.op = 26 ∨ i.op = 27 ∨ i.op = 31 then [3]
  else if i.op = 29 ∨ i.op = 32 then [3, 1]
  else if i.op = 30 then [3, 1, 1]
  else if i.op = 39 then (p.funcs.getD i.n.toNat fun0).regs.take (max 0 (min (p.funcs.getD i.n.toNat fun0).params (p.funcs.getD i.n.toNat fun0).regs.length)).toNat
  else if i.op = 43 then [f.ret]
  else if i.op = 45 ∧ i.m = 21 then [3]
  else if i.op = 45 ∧ i.m = 20 then [1, 3]
  else List.replicate (usesF i).length (if i.op = 44 then f.regs.getD i.dst.toNat 0 else 1)
/-- The kind that an instruction writes. -/
def kindF (p : Pro) (f : Fun) (i : Ins) : Int :=
  if i.op ≤ 8 ∨ i.op = 21 ∨ i.op = 25 ∨ i.op = 26 then 2
  else if i.op = 22 ∨ i.op = 28 ∨ (i.op = 45 ∧ i.m = 21) then 3
  else if i.op = 39 then (p.funcs.getD i.n.toNat fun0).ret
  else if i.op = 23 ∨ i.op = 44 then f.regs.getD i.dst.toNat 0
  else 1
end Go.Proofs.Ytnfkdilmoppbpaa

/- Nothing is wrong with an instruction. No program is in sight here. -/
namespace Go.Proofs.Ytnfkdilmoppbpaa
open Go.Ax
/-- Nothing is wrong with an instruction. -/
def oneP (p : Pro) (f : Fun) (k : Nat) (b : List Ins) (j : Nat) (i : Ins) : Prop :=
  formF b j i ∧ thereP p f k i ∧ (usesF i).map (fun r => f.regs.getD r.toNat 0) = kindsF p f i ∧ (writesF i.op = true → f.regs.getD i.dst.toNat 0 = kindF p f i)
theorem uses_pos {i : Ins} (h : right15 i = true) : ∀ u ∈ usesF i, 0 ≤ u := by
  obtain ⟨h1, h2, h3, h4⟩ := right_pos h
  have h5 : ∀ x ∈ i.args, 0 ≤ x := by
    unfold right15 at h
    simp only [Bool.and_eq_true, decide_eq_true_eq] at h
    exact h.2.2.1
  intro u hu
  unfold usesF at hu
  rw [if_pos h] at hu
  simp only [List.mem_append] at hu
  rcases hu with hu | hu | hu | hu
  · split at hu <;> simp at hu; omega
  · split at hu <;> simp at hu; omega
  · split at hu <;> simp at hu; omega
  · exact h5 u hu
theorem kindsF_len {p : Pro} {f : Fun} {i : Ins} (hi : i.args.length < 100000) (hg : ∀ g ∈ p.funcs, g.regs.length < 1000000) : (kindsF p f i).length < 1000000 := by
  have hu := usesF_len i
  have h1 : (p.funcs.getD i.n.toNat fun0).regs.length < 1000000 := by
    rw [List.getD_eq_getElem?_getD]
    cases hc : p.funcs[i.n.toNat]? with
    | none => simp [fun0]
    | some g => exact hg g (List.mem_of_getElem? hc)
  unfold kindsF
  repeat' split
  all_goals first
    | (simp; done)
    | (rw [List.length_take]; omega)
    | (rw [List.length_replicate]; omega)
end Go.Proofs.Ytnfkdilmoppbpaa

/- What is wrong with a program, as the document's answer says it. No program is in sight here. -/
namespace Go.Proofs.Ytnfkdilmoppbpaa
open Go.Ax
instance (b : List Ins) (j : Nat) (i : Ins) : Decidable (formF b j i) := by unfold formF; infer_instance
instance (p : Pro) (f : Fun) (k : Int) (i : Ins) : Decidable (thereP p f k i) := by unfold thereP; infer_instance
def typeP (p : Pro) (f : Fun) (i : Ins) : Prop := (usesF i).map (fun r => f.regs.getD r.toNat 0) = kindsF p f i ∧ (writesF i.op = true → f.regs.getD i.dst.toNat 0 = kindF p f i)
instance (p : Pro) (f : Fun) (i : Ins) : Decidable (typeP p f i) := by unfold typeP; infer_instance
/-- What is wrong with an instruction. -/
def oneE (p : Pro) (f : Fun) (k : Nat) (b : List Ins) (j : Nat) (i : Ins) : Int :=
  if formF b j i then (if thereP p f k i then (if typeP p f i then 0 else 11) else 2) else 5
theorem oneE_zero {p : Pro} {f : Fun} {k : Nat} {b : List Ins} {j : Nat} {i : Ins} : oneE p f k b j i = 0 ↔ oneP p f k b j i := by
  unfold oneE oneP
  constructor
  · intro h
    split at h
    · split at h
      · split at h
        · rename_i h1 h2 h3; exact ⟨h1, h2, h3.1, h3.2⟩
        · cases h
      · cases h
    · cases h
  · rintro ⟨h1, h2, h3, h4⟩
    rw [if_pos h1, if_pos h2, if_pos (show typeP p f i from ⟨h3, h4⟩)]
/-- Nothing is wrong with a function itself. -/
def longP (f : Fun) : Prop := 0 ≤ f.params ∧ f.params ≤ 8 ∧ f.params ≤ f.regs.length ∧ f.regs.length ≤ 65536 ∧ f.blocks.length ≤ 65536 ∧ f.count ≤ 262144
def kindP (f : Fun) : Prop := (∀ x ∈ f.regs, 1 ≤ x ∧ x ≤ 3) ∧ (1 ≤ f.ret ∧ f.ret ≤ 3)
instance (f : Fun) : Decidable (longP f) := by unfold longP; infer_instance
instance (f : Fun) : Decidable (kindP f) := by unfold kindP; infer_instance
def headP (f : Fun) : Prop := longP f ∧ kindP f ∧ f.blocks ≠ []
/-- What is wrong with a function itself. -/
def headE (f : Fun) : Int := if longP f then (if kindP f then (if f.blocks.length = 0 then 5 else 0) else 11) else 3
theorem headE_zero {f : Fun} : headE f = 0 ↔ headP f := by
  unfold headE headP
  constructor
  · intro h
    split at h
    · split at h
      · split at h
        · cases h
        · rename_i h1 h2 h3; exact ⟨h1, h2, fun e => h3 (by rw [e]; rfl)⟩
      · cases h
    · cases h
  · rintro ⟨h1, h2, h3⟩
    rw [if_pos h1, if_pos h2, if_neg (fun e => h3 (List.eq_nil_of_length_eq_zero e))]

structure Wrong where
  fn : Int
  block : Int
  at_ : Int
  err : Int
deriving DecidableEq
def Wrong.cs (w : Wrong) : List AV := [num w.fn, num w.block, num w.at_, num w.err]
def Wrong.no : Wrong := ⟨0, 0, 0, 0⟩

/-- The first one of some that tells something. -/
def firstN {α : Type} (g : Nat → Option α) (n : Nat) : Option α := (List.range n).findSome? g
theorem firstN_zero {α : Type} (g : Nat → Option α) : firstN g 0 = none := rfl
theorem firstN_succ {α : Type} (g : Nat → Option α) (n : Nat) : firstN g (n + 1) = (firstN g n).or (g n) := by
  unfold firstN; rw [List.range_succ, List.findSome?_append]; simp [List.findSome?]
  cases g n <;> rfl
theorem firstN_mono {α : Type} {g : Nat → Option α} {m n : Nat} {w : α} (h : firstN g m = some w) (hm : m ≤ n) : firstN g n = some w := by
  induction n with
  | zero => obtain rfl : m = 0 := by omega
            exact h
  | succ n ih =>
    by_cases e : m = n + 1
    · subst e; exact h
    · rw [firstN_succ, ih (by omega)]; rfl
theorem firstN_hit {α : Type} {g : Nat → Option α} {m n : Nat} {w : α} (h : firstN g m = none) (hg : g m = some w) (hm : m < n) : firstN g n = some w :=
  firstN_mono (m := m + 1) (by rw [firstN_succ, h, hg]; rfl) hm
theorem firstN_next {α : Type} {g : Nat → Option α} {m : Nat} (h : firstN g m = none) (hg : g m = none) : firstN g (m + 1) = none := by rw [firstN_succ, h, hg]; rfl
theorem firstN_none {α : Type} {g : Nat → Option α} {n : Nat} (h : firstN g n = none) : ∀ m, m < n → g m = none := by
  intro m hm
  cases e : g m with
  | none => rfl
  | some w =>
    cases e2 : firstN g m with
    | none => rw [firstN_hit e2 e hm] at h; cases h
    | some w2 => rw [firstN_mono e2 (by omega)] at h; cases h
theorem firstN_all {α : Type} {g : Nat → Option α} : ∀ {n : Nat}, (∀ m, m < n → g m = none) → firstN g n = none
  | 0, _ => rfl
  | n + 1, h => firstN_next (firstN_all fun m hm => h m (by omega)) (h n (by omega))

def insW (p : Pro) (f : Fun) (n k : Nat) (b : List Ins) (j : Nat) : Option Wrong := match b[j]? with
  | some i => if oneE p f k b j i = 0 then none else some ⟨n, k, j, oneE p f k b j i⟩
  | none => none
def blkE (p : Pro) (f : Fun) (n k : Nat) : Option Wrong := match f.blocks[k]? with
  | some b => if b.length = 0 then some ⟨n, k, -1, 5⟩ else firstN (insW p f n k b) b.length
  | none => none
def funE (p : Pro) (n : Nat) : Option Wrong := match p.funcs[n]? with
  | some f => if headE f = 0 then firstN (blkE p f n) f.blocks.length else some ⟨n, -1, -1, headE f⟩
  | none => none
/-- The main one is as it must be. -/
def mainP (p : Pro) : Prop := 0 ≤ p.main ∧ p.main < p.funcs.length ∧ (p.funcs.getD p.main.toNat fun0).params = 1 ∧ (p.funcs.getD p.main.toNat fun0).regs.length ≠ 0 ∧ (p.funcs.getD p.main.toNat fun0).regs.getD 0 0 = 3 ∧ (p.funcs.getD p.main.toNat fun0).ret = 1
instance (p : Pro) : Decidable (mainP p) := by unfold mainP; infer_instance
/-- What is wrong with a program. -/
def checkE (p : Pro) : Wrong :=
  if 200 < p.funcs.length ∨ 262144 < p.sites.length then ⟨-1, -1, -1, 3⟩
  else if mainP p then (firstN (funE p) p.funcs.length).getD Wrong.no
  else ⟨-1, -1, -1, 13⟩
theorem insW_some {p : Pro} {f : Fun} {n k : Nat} {b : List Ins} {j : Nat} {i : Ins} (gi : b[j]? = some i) (h : oneE p f k b j i ≠ 0) : insW p f n k b j = some ⟨n, k, j, oneE p f k b j i⟩ := by unfold insW; rw [gi]; exact if_neg h
theorem insW_none {p : Pro} {f : Fun} {n k : Nat} {b : List Ins} {j : Nat} {i : Ins} (gi : b[j]? = some i) (h : oneE p f k b j i = 0) : insW p f n k b j = none := by unfold insW; rw [gi]; exact if_pos h
theorem blkE_empty {p : Pro} {f : Fun} {n k : Nat} {b : List Ins} (gb : f.blocks[k]? = some b) (h : b.length = 0) : blkE p f n k = some ⟨n, k, -1, 5⟩ := by unfold blkE; rw [gb]; exact if_pos h
theorem blkE_first {p : Pro} {f : Fun} {n k : Nat} {b : List Ins} (gb : f.blocks[k]? = some b) (h : b.length ≠ 0) : blkE p f n k = firstN (insW p f n k b) b.length := by unfold blkE; rw [gb]; exact if_neg h
theorem funE_head {p : Pro} {n : Nat} {f : Fun} (gf : p.funcs[n]? = some f) (h : headE f ≠ 0) : funE p n = some ⟨n, -1, -1, headE f⟩ := by unfold funE; rw [gf]; exact if_neg h
theorem funE_first {p : Pro} {n : Nat} {f : Fun} (gf : p.funcs[n]? = some f) (h : headE f = 0) : funE p n = firstN (blkE p f n) f.blocks.length := by unfold funE; rw [gf]; exact if_pos h
theorem checkE_hit {p : Pro} {n : Nat} {w : Wrong} (h1 : p.funcs.length ≤ 200) (h2 : p.sites.length ≤ 262144) (hm : mainP p) (h : firstN (funE p) n = none) (hn : n < p.funcs.length) (hw : funE p n = some w) : checkE p = w := by
  unfold checkE; rw [if_neg (by omega), if_pos hm, firstN_hit h hw hn]; rfl
/-- Nothing is wrong with a function. -/
def funP (p : Pro) (f : Fun) : Prop := headP f ∧ ∀ (k : Nat) (b : List Ins), f.blocks[k]? = some b → b.length ≠ 0 ∧ ∀ (j : Nat) (i : Ins), b[j]? = some i → oneP p f k b j i
/-- Nothing is wrong with a program. -/
def proP (p : Pro) : Prop := p.funcs.length ≤ 200 ∧ p.sites.length ≤ 262144 ∧ mainP p ∧ ∀ f ∈ p.funcs, funP p f
theorem insW_err {p : Pro} {f : Fun} {n k : Nat} {b : List Ins} {j : Nat} {w : Wrong} (h : insW p f n k b j = some w) : w.err ≠ 0 := by
  unfold insW at h
  split at h
  · split at h
    · cases h
    · rename_i h1; cases h; exact h1
  · cases h
theorem firstN_some {α : Type} {g : Nat → Option α} {n : Nat} {w : α} (h : firstN g n = some w) : ∃ m, m < n ∧ g m = some w := by
  unfold firstN at h
  obtain ⟨m, hm, hg⟩ := List.exists_of_findSome?_eq_some h
  exact ⟨m, List.mem_range.1 hm, hg⟩
theorem blkE_err {p : Pro} {f : Fun} {n k : Nat} {w : Wrong} (h : blkE p f n k = some w) : w.err ≠ 0 := by
  unfold blkE at h
  split at h
  · split at h
    · cases h; exact (by decide : (5 : Int) ≠ 0)
    · obtain ⟨m, _, hm⟩ := firstN_some h; exact insW_err hm
  · cases h
theorem funE_err {p : Pro} {n : Nat} {w : Wrong} (h : funE p n = some w) : w.err ≠ 0 := by
  unfold funE at h
  split at h
  · split at h
    · obtain ⟨m, _, hm⟩ := firstN_some h; exact blkE_err hm
    · rename_i h1; cases h; exact h1
  · cases h
theorem blkE_none {p : Pro} {f : Fun} {n k : Nat} {b : List Ins} (gb : f.blocks[k]? = some b) : blkE p f n k = none ↔ b.length ≠ 0 ∧ ∀ (j : Nat) (i : Ins), b[j]? = some i → oneP p f k b j i := by
  by_cases hb : b.length = 0
  · rw [blkE_empty gb hb]
    exact ⟨fun h => (by cases h), fun h => absurd hb h.1⟩
  · rw [blkE_first gb hb]
    constructor
    · intro h
      refine ⟨hb, fun j i gi => ?_⟩
      have h1 := firstN_none h j (List.getElem?_eq_some_iff.1 gi).1
      rw [← oneE_zero]
      exact Classical.byContradiction fun h2 => by rw [insW_some gi h2] at h1; cases h1
    · intro h
      refine firstN_all fun j hj => ?_
      exact insW_none (List.getElem?_eq_getElem hj) (oneE_zero.2 (h.2 _ _ (List.getElem?_eq_getElem hj)))
theorem funE_none {p : Pro} {n : Nat} {f : Fun} (gf : p.funcs[n]? = some f) : funE p n = none ↔ funP p f := by
  by_cases hh : headE f = 0
  · rw [funE_first gf hh]
    constructor
    · intro h
      refine ⟨headE_zero.1 hh, fun k b gb => ?_⟩
      exact (blkE_none gb).1 (firstN_none h k (List.getElem?_eq_some_iff.1 gb).1)
    · intro h
      exact firstN_all fun k hk => (blkE_none (List.getElem?_eq_getElem hk)).2 (h.2 _ _ (List.getElem?_eq_getElem hk))
  · rw [funE_head gf hh]
    exact ⟨fun h => (by cases h), fun h => absurd (headE_zero.2 h.1) hh⟩
theorem checkE_zero {p : Pro} : (checkE p).err = 0 ↔ proP p := by
  unfold checkE proP
  by_cases h1 : 200 < p.funcs.length ∨ 262144 < p.sites.length
  · rw [if_pos h1]
    exact ⟨fun h => absurd h (by decide), fun h => by omega⟩
  rw [if_neg h1]
  by_cases h2 : mainP p
  · rw [if_pos h2]
    constructor
    · intro h
      refine ⟨by omega, by omega, h2, fun f hf => ?_⟩
      obtain ⟨n, hn, rfl⟩ := List.getElem_of_mem hf
      rw [← funE_none (List.getElem?_eq_getElem hn)]
      refine firstN_none (n := p.funcs.length) ?_ n hn
      cases e : firstN (funE p) p.funcs.length with
      | none => rfl
      | some w =>
        rw [e] at h
        obtain ⟨m, _, hm⟩ := firstN_some e
        exact absurd h (funE_err hm)
    · intro h
      rw [firstN_all (g := funE p) fun n hn => (funE_none (List.getElem?_eq_getElem hn)).2 (h.2.2.2 _ (List.getElem_mem hn))]
      rfl
  · rw [if_neg h2]
    exact ⟨fun h => absurd h (by decide), fun h => absurd h.2.2.1 h2⟩
/-- Small enough for the machine. -/
def Pro.slim (p : Pro) : Prop := p.fits ∧ ∀ f ∈ p.funcs, f.count ≤ 100000000000000000 ∧ f.regs.length < 1000000 ∧ ∀ b ∈ f.blocks, ∀ i ∈ b, i.args.length < 100000
theorem Pro.few.slim {p : Pro} {most : Int} (h : p.few most) (hm : most ≤ 100000) (hp : p.fits) : p.slim := by
  refine ⟨hp, fun f hf => ?_⟩
  have h1 := Pro.count_fun hf
  have h2 := h.2.2.1
  obtain ⟨h3, _, _, h4⟩ := h.2.2.2 f hf
  exact ⟨by omega, by omega, fun b hb i hi => by have := h4 b hb i hi; omega⟩
end Go.Proofs.Ytnfkdilmoppbpaa

/- Who writes a name, as plain data. No program is in sight here. -/
namespace Go.Proofs.Ytnfkdilmoppbpaa
open Go.Ax

structure Wr where
  i : Ins
  block : Int
  is : Bool
def Ins.none : Ins := ⟨0, 0, 0, 0, 0, 0, 0, 0, []⟩
def Wr0 : Wr := ⟨Ins.none, 0, false⟩
def Wr.cs (w : Wr) : List AV := [num w.i.op, num w.i.dst, num w.i.a, num w.i.b, num w.i.c, num w.i.n, num w.i.m, num w.i.site, ints w.i.args, num w.block, tru w.is]

structure Names where
  ws : List Wr
  params : Int
def Names.cs (n : Names) : List AV := [.sl false 11 (n.ws.map Wr.cs), num n.params]
def namesA (n : Names) : AV := .pt n.cs
def ownNames (n : Names) : AV := .opt [.osl 11 (n.ws.map Wr.cs), num n.params]

def setW (ws : List Wr) (k : Nat) (i : Ins) : List Wr := if 0 ≤ defF i ∧ defF i < ws.length ∧ (ws.getD (defF i).toNat Wr0).is = false then ws.set (defF i).toNat ⟨i, k, true⟩ else ws
def blkW (ws : List Wr) (k : Nat) (b : List Ins) : Nat → List Wr
  | 0 => ws
  | j + 1 => match b[j]? with
    | some i => setW (blkW ws k b j) k i
    | none => blkW ws k b j
def outW (f : Fun) : Nat → List Wr
  | 0 => List.replicate f.regs.length Wr0
  | k + 1 => match f.blocks[k]? with
    | some b => blkW (outW f k) k b b.length
    | none => outW f k
def newF (f : Fun) : Names := ⟨outW f f.blocks.length, f.params⟩

theorem setW_len (ws : List Wr) (k : Nat) (i : Ins) : (setW ws k i).length = ws.length := by unfold setW; split <;> simp
theorem blkW_len (ws : List Wr) (k : Nat) (b : List Ins) (j : Nat) : (blkW ws k b j).length = ws.length := by
  induction j with
  | zero => rfl
  | succ j ih => unfold blkW; split <;> simp [setW_len, ih]
theorem outW_len (f : Fun) (k : Nat) : (outW f k).length = f.regs.length := by
  induction k with
  | zero => simp [outW]
  | succ k ih => unfold outW; split <;> simp [blkW_len, ih]
theorem blkW_succ {ws : List Wr} {k j : Nat} {b : List Ins} {i : Ins} (h : b[j]? = some i) : blkW ws k b (j + 1) = setW (blkW ws k b j) k i := by simp only [blkW, h]
theorem outW_succ {f : Fun} {k : Nat} {b : List Ins} (h : f.blocks[k]? = some b) : outW f (k + 1) = blkW (outW f k) k b b.length := by simp only [outW, h]

def Names.of (n : Names) (x : Int) : Wr := if 0 ≤ x ∧ x < n.ws.length then n.ws.getD x.toNat Wr0 else Wr0
def Names.block (n : Names) (x : Int) : Int := if (n.of x).is = true then (n.of x).block else if 0 ≤ x ∧ x < n.params ∧ x < n.ws.length then 0 else -1
/-- The names from one on, as far as there is fuel. -/
def Names.up (n : Names) : Nat → Int → List Int
  | 0, x => [x]
  | k + 1, x => if (n.of x).is = true ∧ ((n.of x).i.op = 23 ∨ (n.of x).i.op = 45) then x :: n.up k (n.of x).i.a else [x]
def Names.chain (n : Names) (x : Int) : List Int := if 0 ≤ x ∧ x < n.ws.length then n.up n.ws.length x else []
def Names.root (n : Names) (x : Int) : Int := (n.chain x).getLastD x
def Names.const (n : Names) (x : Int) : Int × Bool := if (n.of (n.root x)).is = true ∧ (n.of (n.root x)).i.op = 20 then ((n.of (n.root x)).i.n, true) else (0, false)
theorem up_len (n : Names) : ∀ (k : Nat) (x : Int), (n.up k x).length ≤ k + 1
  | 0, x => by simp [Names.up]
  | k + 1, x => by
    unfold Names.up
    split
    · have := up_len n k (n.of x).i.a; simp; omega
    · simp
theorem chain_len (n : Names) (x : Int) : (n.chain x).length ≤ n.ws.length + 1 := by
  unfold Names.chain; split
  · exact up_len _ _ _
  · simp
theorem newF_len (f : Fun) : (newF f).ws.length = f.regs.length := outW_len _ _
end Go.Proofs.Ytnfkdilmoppbpaa

/- What a proper program is, and what its names are, as the document's answer says it. No program is in sight here. -/
namespace Go.Proofs.Ytnfkdilmoppbpaa
open Go.Ax
/-- A function is proper. -/
def properF (f : Fun) : Prop := (∀ k : Nat, k < f.blocks.length → Reaches (succsF f) (-1) k) ∧ ∀ (k : Nat) (b : List Ins), f.blocks[k]? = some b → ∀ (j : Nat) (i : Ins), b[j]? = some i →
  (0 ≤ def15 i → f.params ≤ def15 i ∧ FirstAt f (def15 i) k j) ∧ (i.op ≠ 44 → ∀ u ∈ usesF i, HasP f u k j)
def properP (p : Pro) : Prop := proP p ∧ ∀ f ∈ p.funcs, properF f
theorem uses_phi {i : Ins} (e : i.op = 44) : (usesF i).length ≤ i.args.length := by
  unfold usesF
  split
  · have h1 : (abF i.op || oneF i.op) = false := by unfold abF twoF oneF; simp [e]
    have h2 : bF i = false := by unfold bF abF twoF; simp [e]
    rw [if_neg (by rw [h1]; simp), if_neg (by rw [h2]; simp), if_neg (by omega)]
    simp
  · simp
theorem countP_range {α : Type} (p : α → Bool) (l : List α) : ∀ n, n ≤ l.length → (l.take n).countP p = ((List.range n).filter (fun j => match l[j]? with | some x => p x | none => false)).length
  | 0, _ => rfl
  | n + 1, h => by
    rw [countP_take_succ (List.getElem?_eq_getElem (by omega)), List.range_succ, List.filter_append, List.length_append, countP_range p l n (by omega)]
    congr 1
    simp only [List.filter_cons, List.filter_nil]
    rw [List.getElem?_eq_getElem (by omega)]
    dsimp only
    split <;> rfl
theorem mem_succ1 {n k : Nat} {b : List Ins} (hk : k < n) : (k : Int) ∈ succ1 n b ↔ goesTo k b = true := by
  unfold succ1 goesTo below
  cases b[b.length - 1]? with
  | none => simp
  | some i =>
    simp only [decide_eq_true_iff, List.mem_filter]
    constructor
    · rintro ⟨h, _⟩; exact h
    · intro h; exact ⟨h, by omega⟩
theorem predCount_len (f : Fun) (k : Nat) (hk : k < f.blocks.length) : (predOf (succsF f) k (succsF f).length).length = predCount f k := by
  unfold predOf predCount
  have h1 := countP_range (goesTo k) f.blocks f.blocks.length (Nat.le_refl _)
  rw [List.take_length] at h1
  rw [List.length_map, h1, succsF_len]
  congr 1
  refine List.filter_congr fun j hj => ?_
  have hj := List.mem_range.1 hj
  unfold succsF
  rw [List.getElem?_map, List.getElem?_eq_getElem hj]
  simp only [Option.map_some, Option.getD_some]
  rw [Bool.eq_iff_iff, decide_eq_true_iff]
  exact mem_succ1 hk
theorem phi_preds {p : Pro} {f : Fun} {k j : Nat} {b : List Ins} {i : Ins} (gb : f.blocks[k]? = some b) (h : oneP p f k b j i) (e : i.op = 44) : (usesF i).length ≤ (predOf (succsF f) k (succsF f).length).length := by
  rw [predCount_len f k (List.getElem?_eq_some_iff.1 gb).1]
  have h1 := h.2.1.2.2.2.2.2 e
  have h2 := uses_phi e
  omega

/-- A way of so many steps. -/
inductive PathN (s : List (List Int)) : Nat → Int → Prop
  | zero : s ≠ [] → PathN s 0 0
  | step {n k : Nat} {t : Int} {l : List Int} : PathN s n k → s[k]? = some l → t ∈ l → PathN s (n + 1) t
theorem Reaches.path {s : List (List Int)} {x t : Int} (h : Reaches s x t) : ∃ n, PathN s n t := by
  induction h with
  | zero h _ => exact ⟨0, .zero h⟩
  | step _ hl ht _ ih => obtain ⟨n, ih⟩ := ih; exact ⟨n + 1, .step ih hl ht⟩
theorem PathN.thru {s : List (List Int)} {n : Nat} {t : Int} (a : Int) (h : PathN s n t) : Reaches s a t ∨ ∃ m, m ≤ n ∧ PathN s m a ∧ (m = n → a = t) := by
  induction h with
  | zero h =>
    by_cases e : a = 0
    · subst e; exact .inr ⟨0, by omega, .zero h, fun _ => rfl⟩
    · exact .inl (.zero h e)
  | @step n k t l hp hl ht ih =>
    by_cases e : t = a
    · subst e; exact .inr ⟨n + 1, by omega, .step hp hl ht, fun _ => rfl⟩
    · rcases ih with ih | ⟨m, h1, h2, h3⟩
      · exact .inl (.step ih hl ht e)
      · exact .inr ⟨m, by omega, h2, fun h => by omega⟩
theorem Dom.path {s : List (List Int)} {n : Nat} {a b : Int} (h : Dom s a b) (hn : a ≠ b) (hp : PathN s n b) : ∃ m, m < n ∧ PathN s m a := by
  rcases hp.thru a with h1 | ⟨m, h1, h2, h3⟩
  · exact absurd h1 h.2.2
  · refine ⟨m, ?_, h2⟩
    by_cases e : m = n
    · exact absurd (h3 e) hn
    · omega

/-- Of writers up to a place: what is known. -/
def WsAt (f : Fun) (ws : List Wr) (k j : Nat) : Prop := ws.length = f.regs.length ∧ ∀ d : Nat, d < f.regs.length →
  ((ws.getD d Wr0).is = true → ∃ k' a' b i, f.blocks[k']? = some b ∧ b[a']? = some i ∧ FirstAt f d k' a' ∧ ws.getD d Wr0 = ⟨i, k', true⟩) ∧
  ((ws.getD d Wr0).is = false → ws.getD d Wr0 = Wr0 ∧ ∀ k' a', WrittenAt f d k' a' → k < k' ∨ (k = k' ∧ j ≤ a'))
theorem WsAt.step {f : Fun} {ws : List Wr} {k j : Nat} {b : List Ins} {i : Ins} (h : WsAt f ws k j) (gb : f.blocks[k]? = some b) (gi : b[j]? = some i) : WsAt f (setW ws k i) k (j + 1) := by
  refine ⟨by rw [setW_len]; exact h.1, fun d hd => ?_⟩
  obtain ⟨h1, h2⟩ := h.2 d hd
  have keep : (setW ws k i).getD d Wr0 = ws.getD d Wr0 → (def15 i = d → (ws.getD d Wr0).is = true) → 
      (((setW ws k i).getD d Wr0).is = true → ∃ k' a' b i', f.blocks[k']? = some b ∧ b[a']? = some i' ∧ FirstAt f d k' a' ∧ (setW ws k i).getD d Wr0 = ⟨i', k', true⟩) ∧
      (((setW ws k i).getD d Wr0).is = false → (setW ws k i).getD d Wr0 = Wr0 ∧ ∀ k' a', WrittenAt f d k' a' → k < k' ∨ (k = k' ∧ j + 1 ≤ a')) := by
    intro e hw
    rw [e]
    refine ⟨h1, fun hf => ⟨(h2 hf).1, fun k' a' h' => ?_⟩⟩
    rcases (h2 hf).2 k' a' h' with h3 | ⟨rfl, h3⟩
    · exact .inl h3
    · refine .inr ⟨rfl, ?_⟩
      by_cases ej : j = a'
      · subst ej
        obtain ⟨b', i', e1, e2, e3⟩ := h'
        rw [gb] at e1; cases e1
        rw [gi] at e2; cases e2
        rw [hw e3] at hf; cases hf
      · omega
  by_cases hc : 0 ≤ defF i ∧ defF i < ws.length ∧ (ws.getD (defF i).toNat Wr0).is = false
  · have es : setW ws k i = ws.set (defF i).toNat ⟨i, k, true⟩ := if_pos hc
    by_cases ed : (defF i).toNat = d
    · have edI : def15 i = d := by rw [← def_eq]; omega
      have eg : (setW ws k i).getD d Wr0 = ⟨i, k, true⟩ := by
        rw [es, ed, List.getD_eq_getElem?_getD, List.getElem?_set_self (by omega)]; rfl
      rw [eg]
      refine ⟨fun _ => ⟨k, j, b, i, gb, gi, ⟨⟨b, i, gb, gi, edI⟩, fun k' a' h' => ?_⟩, rfl⟩, fun h => by cases h⟩
      have hf := hc.2.2
      rw [ed] at hf
      exact (h2 hf).2 k' a' h'
    · refine keep ?_ ?_
      · rw [es, List.getD_eq_getElem?_getD, List.getElem?_set_ne ed, ← List.getD_eq_getElem?_getD]
      · intro e; rw [← def_eq] at e; omega
  · have es : setW ws k i = ws := if_neg hc
    refine keep (by rw [es]) fun e => ?_
    rw [← def_eq] at e
    rw [e] at hc
    cases hf : (ws.getD d Wr0).is with
    | true => rfl
    | false => exact absurd ⟨by omega, by have := h.1; omega, by simpa using hf⟩ hc
theorem WsAt.blk {f : Fun} {ws : List Wr} {k : Nat} {b : List Ins} (h : WsAt f ws k 0) (gb : f.blocks[k]? = some b) : ∀ j, j ≤ b.length → WsAt f (blkW ws k b j) k j
  | 0, _ => h
  | j + 1, hj => by
    rw [blkW_succ (List.getElem?_eq_getElem (by omega))]
    exact (WsAt.blk h gb j (by omega)).step gb (List.getElem?_eq_getElem (by omega))
theorem WsAt.out {f : Fun} : ∀ k, k ≤ f.blocks.length → WsAt f (outW f k) k 0
  | 0, _ => by
    refine ⟨by simp [outW], fun d hd => ?_⟩
    have e : (outW f 0).getD d Wr0 = Wr0 := by simp only [outW, List.getD_eq_getElem?_getD, List.getElem?_replicate]; split <;> rfl
    rw [e]
    exact ⟨fun h => (by cases h), fun _ => ⟨rfl, fun k' a' _ => by omega⟩⟩
  | k + 1, hk => by
    have gb := List.getElem?_eq_getElem (l := f.blocks) (i := k) (by omega)
    rw [outW_succ gb]
    have h := (WsAt.out k (by omega)).blk gb _ (Nat.le_refl _)
    refine ⟨h.1, fun d hd => ⟨(h.2 d hd).1, fun hf => ⟨((h.2 d hd).2 hf).1, fun k' a' h' => ?_⟩⟩⟩
    rcases ((h.2 d hd).2 hf).2 k' a' h' with h3 | ⟨rfl, h3⟩
    · omega
    · obtain ⟨b', i', e1, e2, _⟩ := h'
      rw [gb] at e1; cases e1
      have := (List.getElem?_eq_some_iff.1 e2).1
      omega
/-- What is told of a name's writer. -/
theorem newF_of {f : Fun} {x k a : Int} {v : Bool} (h : WriterIs f x k a v) : (0 ≤ x ∧ x < f.regs.length → v = true → ∃ (k' a' : Nat) (b : List Ins) (i : Ins), k = k' ∧ a = a' ∧ f.blocks[k']? = some b ∧ b[a']? = some i ∧ (newF f).of x = ⟨i, k', true⟩) ∧
    ((v = false ∨ ¬ (0 ≤ x ∧ x < f.regs.length)) → (newF f).of x = Wr0) := by
  have hw := WsAt.out (f := f) _ (Nat.le_refl _)
  have hl : (newF f).ws.length = f.regs.length := newF_len f
  constructor
  · intro hx hv
    obtain ⟨k', a', rfl, rfl, h0, h1⟩ := h.1 hv
    obtain ⟨⟨b, i, gb, gi, ed⟩, h2⟩ := h1
    refine ⟨k', a', b, i, rfl, rfl, gb, gi, ?_⟩
    obtain ⟨g1, g2⟩ := hw.2 x.toNat (by omega)
    have ex : ((x.toNat : Nat) : Int) = x := by omega
    unfold Names.of
    rw [if_pos (by omega)]
    show (outW f f.blocks.length).getD _ _ = _
    cases hi : ((outW f f.blocks.length).getD x.toNat Wr0).is with
    | true =>
      obtain ⟨k2, a2, b2, i2, e1, e2, e3, e4⟩ := g1 hi
      rw [e4]
      rw [ex] at e3
      obtain ⟨rfl, rfl⟩ := e3.uniq ⟨⟨b, i, gb, gi, ed⟩, h2⟩
      rw [gb] at e1; cases e1
      rw [gi] at e2; cases e2
      rfl
    | false =>
      have := (g2 hi).2 k' a' (by rw [ex]; exact ⟨b, i, gb, gi, ed⟩)
      have := (List.getElem?_eq_some_iff.1 gb).1
      omega
  · intro hx
    unfold Names.of
    split
    · rename_i hr
      rcases hx with hv | hx
      · obtain ⟨g1, g2⟩ := hw.2 x.toNat (by omega)
        have ex : ((x.toNat : Nat) : Int) = x := by omega
        show (outW f f.blocks.length).getD _ _ = _
        cases hi : ((outW f f.blocks.length).getD x.toNat Wr0).is with
        | true =>
          obtain ⟨k2, a2, b2, i2, e1, e2, e3, e4⟩ := g1 hi
          rw [ex] at e3
          exact absurd e3.1 ((h.2 hv).2.2 hr.1 k2 a2)
        | false => exact (g2 hi).1
      · rw [hl] at hr; exact absurd hr hx
    · rfl

/-- A name's chain. -/
def Names.cp (n : Names) (x : Int) : Prop := (n.of x).is = true ∧ ((n.of x).i.op = 23 ∨ (n.of x).i.op = 45)
def Names.inR (n : Names) (x : Int) : Prop := 0 ≤ x ∧ x < n.ws.length
inductive ChainR (n : Names) : Int → List Int → Prop
  | stop {x} : n.inR x → ¬ n.cp x → ChainR n x [x]
  | step {x l} : n.inR x → n.cp x → ChainR n (n.of x).i.a l → ChainR n x (x :: l)
theorem ChainR.det {n : Names} {x : Int} {l l' : List Int} (h : ChainR n x l) (h' : ChainR n x l') : l = l' := by
  induction h generalizing l' with
  | stop h1 h2 => cases h' with
    | stop => rfl
    | step _ h3 _ => exact absurd h3 h2
  | step h1 h2 _ ih => cases h' with
    | stop _ h3 => exact absurd h2 h3
    | step _ _ h4 => rw [ih h4]
theorem ChainR.mem {n : Names} {x y : Int} {l : List Int} (h : ChainR n x l) (hy : y ∈ l) : n.inR y ∧ ∃ l', ChainR n y l' ∧ l'.length ≤ l.length := by
  induction h with
  | stop h1 h2 => simp at hy; subst hy; exact ⟨h1, _, .stop h1 h2, Nat.le_refl _⟩
  | step h1 h2 h3 ih =>
    rcases List.mem_cons.1 hy with rfl | hy
    · exact ⟨h1, _, .step h1 h2 h3, Nat.le_refl _⟩
    · obtain ⟨g1, l', g2, g3⟩ := ih hy
      exact ⟨g1, l', g2, by simp; omega⟩
theorem ChainR.nodup {n : Names} {x : Int} {l : List Int} (h : ChainR n x l) : l.Nodup := by
  induction h with
  | stop => simp
  | @step x l h1 h2 h3 ih =>
    refine List.nodup_cons.2 ⟨fun hm => ?_, ih⟩
    obtain ⟨_, l', g2, g3⟩ := h3.mem hm
    have := g2.det (.step h1 h2 h3)
    subst this; simp at g3
    omega
theorem nodup_len : ∀ (n : Nat) (l : List Int), l.Nodup → (∀ x ∈ l, 0 ≤ x ∧ x < n) → l.length ≤ n
  | 0, l, _, h => by
    cases l with
    | nil => simp
    | cons x l => have := h x (List.mem_cons_self ..); omega
  | n + 1, l, hn, h => by
    have ih := nodup_len n (l.erase (n : Int)) (hn.erase _) fun x hx => by
      have h1 := (hn.mem_erase_iff).1 hx
      have := h x h1.2
      have := h1.1
      omega
    by_cases hm : (n : Int) ∈ l
    · rw [List.length_erase_of_mem hm] at ih; omega
    · rw [List.erase_of_not_mem hm] at ih; omega
theorem ChainR.up {n : Names} {x : Int} {l : List Int} (h : ChainR n x l) : ∀ k, l.length ≤ k + 1 → n.up k x = l := by
  induction h with
  | stop h1 h2 =>
    intro k _
    cases k with
    | zero => rfl
    | succ k => unfold Names.up; exact if_neg h2
  | @step x l h1 h2 h3 ih =>
    intro k hk
    have : l ≠ [] := by cases h3 <;> simp
    have := List.length_pos_iff.2 this
    simp only [List.length_cons] at hk
    cases k with
    | zero => omega
    | succ k => unfold Names.up; rw [← ih k (by omega)]; exact if_pos h2
theorem ChainR.chain {n : Names} {x : Int} {l : List Int} (h : ChainR n x l) : n.chain x = l := by
  have h1 : n.inR x := by cases h <;> assumption
  have h2 := nodup_len n.ws.length l h.nodup fun y hy => (h.mem hy).1
  unfold Names.chain
  rw [← h.up n.ws.length (by omega)]; exact if_pos h1

theorem uses_copy {i : Ins} (h : right15 i = true) (e : i.op = 23 ∨ i.op = 45) : i.a ∈ usesF i := uses_a h (by unfold abF oneF; rcases e with e | e <;> simp [e])
theorem writer_is {f : Fun} {x : Int} {k a : Nat} (h0 : 0 ≤ x) (h : FirstAt f x k a) : WriterIs f x k a true := ⟨fun _ => ⟨k, a, rfl, rfl, h0, h⟩, fun h => by cases h⟩
theorem right_of_def {i : Ins} (h : 0 ≤ def15 i) : right15 i = true := by
  unfold def15 at h
  split at h
  · rename_i h1; exact h1.1
  · omega
theorem writer_all (f : Fun) (x : Int) : (∃ k a : Nat, FirstAt f x k a) ∨ ∀ k a, ¬ WrittenAt f x k a := by
  have hw : ∀ K, (∃ k a : Nat, FirstAt f x k a) ∨ ∀ k a, k < K → ¬ WrittenAt f x k a := by
    intro K
    induction K with
    | zero => exact .inr fun k a h => by omega
    | succ K ih =>
      rcases ih with ih | ih
      · exact .inl ih
      · have h2 : ∀ A, (∃ k a : Nat, FirstAt f x k a) ∨ ∀ a, a < A → ¬ WrittenAt f x K a := by
          intro A
          induction A with
          | zero => exact .inr fun a h => by omega
          | succ A ih2 =>
            rcases ih2 with ih2 | ih2
            · exact .inl ih2
            · by_cases h : WrittenAt f x K A
              · refine .inl ⟨K, A, h, fun k' a' h' => ?_⟩
                by_cases e : k' < K
                · exact absurd h' (ih k' a' e)
                · by_cases e2 : k' = K
                  · subst e2
                    by_cases e3 : a' < A
                    · exact absurd h' (ih2 a' e3)
                    · omega
                  · omega
              · refine .inr fun a ha => ?_
                by_cases e : a = A
                · subst e; exact h
                · exact ih2 a (by omega)
        cases gb : f.blocks[K]? with
        | none =>
          refine .inr fun k a hk h => ?_
          by_cases e : k = K
          · subst e; obtain ⟨b, i, e1, _⟩ := h; rw [gb] at e1; cases e1
          · exact ih k a (by omega) h
        | some b =>
          rcases h2 b.length with h2 | h2
          · exact .inl h2
          · refine .inr fun k a hk h => ?_
            by_cases e : k = K
            · subst e
              obtain ⟨b', i, e1, e2, e3⟩ := h
              rw [gb] at e1; cases e1
              exact h2 a (List.getElem?_eq_some_iff.1 e2).1 ⟨b, i, gb, e2, e3⟩
            · exact ih k a (by omega) h
  rcases hw f.blocks.length with h | h
  · exact .inl h
  · refine .inr fun k a h' => ?_
    obtain ⟨b, i, e1, _⟩ := id h'
    exact h k a (List.getElem?_eq_some_iff.1 e1).1 h'
theorem chain_ends {p : Pro} {f : Fun} (hf : funP p f) (hp : properF f) : ∀ x, (newF f).inR x → ∃ l, ChainR (newF f) x l := by
  have hl : (newF f).ws.length = f.regs.length := newF_len f
  have none : ∀ x, (newF f).inR x → (∀ k a, ¬ WrittenAt f x k a) → ∃ l, ChainR (newF f) x l := fun x hx h => by
    have := (newF_of (f := f) (x := x) (k := 0) (a := 0) (v := false) ⟨fun h => absurd h (by decide), fun _ => ⟨rfl, rfl, fun _ => h⟩⟩).2 (.inl rfl)
    exact ⟨_, .stop hx fun hc => by unfold Names.cp at hc; rw [this] at hc; cases hc.1⟩
  have key : ∀ n, ∀ j, ∀ x (k : Nat), (newF f).inR x → FirstAt f x k j → PathN (succsF f) n k → ∃ l, ChainR (newF f) x l := by
    intro n
    induction n using Nat.strongRecOn with
    | ind n ihn =>
      intro j
      induction j using Nat.strongRecOn with
      | ind j ihj =>
        intro x k hx hfirst hpath
        have hxr := hx
        unfold Names.inR at hxr
        obtain ⟨k', a', b, i, e1, e2, gb, gi, eo⟩ := (newF_of (writer_is hxr.1 hfirst)).1 (by rw [← hl]; exact hxr) rfl
        obtain rfl : k = k' := by omega
        obtain rfl : j = a' := by omega
        by_cases hc : (newF f).cp x
        · have hop : i.op = 23 ∨ i.op = 45 := by
            have := hc.2; rw [eo] at this; exact this
          have hone := (hf.2 k b gb).2 j i gi
          have hr := hone.1.1
          have hu := uses_copy hr hop
          have hub := hone.2.1.2.1 i.a hu
          have hup := uses_pos hr i.a hu
          have hin : (newF f).inR i.a := ⟨hup, by rw [hl]; exact hub⟩
          have hh := (hp.2 k b gb j i gi).2 (by omega) i.a hu
          have fin : (∃ l, ChainR (newF f) i.a l) → ∃ l, ChainR (newF f) x l := fun ⟨l, h⟩ => ⟨_, .step hx hc (by rw [eo]; exact h)⟩
          refine fin ?_
          rcases hh with h1 | ⟨h0, k2, i2, h3, h4⟩
          · refine none _ hin fun k2 a2 ⟨b2, j2, g1, g2, g3⟩ => ?_
            have := ((hp.2 k2 b2 g1 a2 j2 g2).1 (by omega)).1
            omega
          · rcases h4 with ⟨h4, h5⟩ | ⟨h4, h5⟩
            · obtain rfl : k2 = k := by omega
              exact ihj i2 (by omega) i.a k2 hin h3 hpath
            · obtain ⟨m, hm, hpm⟩ := h5.path h4 hpath
              exact ihn m hm i2 i.a k2 hin h3 hpm
        · exact ⟨_, .stop hx hc⟩
  intro x hx
  rcases writer_all f x with ⟨k, a, h⟩ | h
  · obtain ⟨b, i, e1, _⟩ := h.1
    obtain ⟨n, hn⟩ := (hp.1 k (List.getElem?_eq_some_iff.1 e1).1).path
    exact key n a x k hx h hn
  · exact none x hx h
end Go.Proofs.Ytnfkdilmoppbpaa

/- What an instruction reads, as the program says it. No program is in sight here. -/
namespace Go.Proofs.Ytnfkdilmoppbpaa
open Go.Ax
theorem bits {op : Int} (ho : opF op = true) : (band (hasF op) 2 ≠ 0 ↔ (abF op || oneF op) = true) ∧ (band (hasF op) 4 ≠ 0 ↔ abF op = true) ∧ (band (hasF op) 8 ≠ 0 ↔ op = 30) ∧ (band (hasF op) 2048 = 0 ↔ op ≠ 45) := by
  unfold opF at ho
  simp at ho
  have hh : (3 ≤ op ∧ op ≤ 16) ∨ (23 ≤ op ∧ op ≤ 28) ∨ op = 20 ∨ op = 21 ∨ op = 22 ∨ op = 29 ∨ op = 30 ∨ op = 31 ∨ op = 32 ∨ op = 33 ∨ op = 34 ∨ op = 35 ∨ op = 36 ∨ op = 37 ∨ op = 38 ∨ op = 39 ∨ op = 40 ∨ op = 41 ∨ op = 42 ∨ op = 43 ∨ op = 44 ∨ op = 45 := by omega
  unfold abF oneF twoF
  rcases hh with h | h | h | h | h | h | h | h | h | h | h | h | h | h | h | h | h | h | h | h | h | h
  · obtain ⟨b1, b2, b4, b8, b16, b32, b64, b128, b256, b512, b1024, b2048⟩ := bd7
    rw [show hasF op = 7 by unfold hasF; rw [if_pos (by omega)], b2, b4, b8, b2048]; simp; omega
  · obtain ⟨b1, b2, b4, b8, b16, b32, b64, b128, b256, b512, b1024, b2048⟩ := bd3
    rw [show hasF op = 3 by unfold hasF; rw [if_neg (by omega), if_pos (by omega)], b2, b4, b8, b2048]; simp; omega
  all_goals (rw [h]; decide)
def usesA (i : Ins) : List Int := if band (hasF i.op) 2 ≠ 0 then [i.a] else []
def usesB (i : Ins) : List Int := if band (hasF i.op) 4 ≠ 0 ∧ (band (hasF i.op) 2048 = 0 ∨ i.m ≠ 21) then [i.b] else []
def usesC (i : Ins) : List Int := if band (hasF i.op) 8 ≠ 0 then [i.c] else []
theorem uses_eq {i : Ins} (h : rightF i = true) : usesF i = usesA i ++ (usesB i ++ (usesC i ++ i.args)) := by
  rw [right_eq] at h
  have ho : opF i.op = true := by unfold right15 at h; simp at h; exact h.1
  obtain ⟨h1, h2, h3, h4⟩ := bits ho
  unfold usesF usesA usesB usesC
  rw [if_pos h]
  have hb : bF i = true ↔ (band (hasF i.op) 4 ≠ 0 ∧ (band (hasF i.op) 2048 = 0 ∨ i.m ≠ 21)) := by
    rw [h2, h4]; unfold bF; simp
  congr 1
  · by_cases e : (abF i.op || oneF i.op) = true
    · rw [if_pos e, if_pos (h1.2 e)]
    · rw [if_neg e, if_neg fun x => e (h1.1 x)]
  · congr 1
    · by_cases e : bF i = true
      · rw [if_pos e, if_pos (hb.1 e)]
      · rw [if_neg e, if_neg fun x => e (hb.2 x)]
    · congr 1
      by_cases e : i.op = 30
      · rw [if_pos e, if_pos (h3.2 e)]
      · rw [if_neg e, if_neg fun x => e (h3.1 x)]
theorem usesA_len (i : Ins) : (usesA i).length ≤ 1 := by unfold usesA; split <;> simp
theorem usesB_len (i : Ins) : (usesB i).length ≤ 1 := by unfold usesB; split <;> simp
theorem usesC_len (i : Ins) : (usesC i).length ≤ 1 := by unfold usesC; split <;> simp
end Go.Proofs.Ytnfkdilmoppbpaa

/- What an instruction reads and goes to, as the program says it, by contracts; copies of lists. -/
namespace Go.Proofs.Ytnfkdilmoppbpaa
open Go.Ax
set_option maxRecDepth 10000
set_option linter.unusedVariables false

/-- The parts of the first loop over a function. -/
def findRange : Code → Option (Array Nat × Code × Code)
  | .rangeFunc _ ps a b => some (ps, a, b)
  | .seq a b => (findRange a).or (findRange b)
  | .block _ c => findRange c
  | _ => none
def rangeOf (f : Func) : Array Nat × Code × Code := (f.body.bind findRange).getD (#[], .skip, .skip)

theorem Ends123_spec (op : Int) : FnSpec Try.prog 123 [num op] (fun r => r = tru (endsF op)) := by
  refine spec_of 1000 Try.func123 rfl rfl ?_
  repeat' first | refine Len.map ?_ | refine Len.nil ?_ | refine Len.cons ?_ | refine Br.t rfl ?_ | refine Br.f rfl ?_ | refine Fit.au ?_ | refine Need.au ?_ | refine Pick.map (by assumption) ?_ | refine Pick.mapI (by omega) (by assumption) ?_ | refine PickN.mk _ (by assumption) ?_ | refine PickN.mk _ rfl ?_ | refine PickN.au ?_ | refine App.au rfl ?_ | refine App.au (own_map (fun _ => rfl) _) ?_ | refine Both.mk ?_ ?_ | exact True.intro | refine Br.d (fun h => ?_) (fun h => ?_) | refine Br.nd (fun h => ?_) (fun h => ?_) | refine Br.mk (fun h => ?_) (fun h => ?_)
  all_goals (show _ = _; unfold endsF; simp_all [asRes, tru]; try omega)
theorem Targets100_spec (i : Ins) (hi : i.fits) : FnSpec Try.prog 100 [insA i] (fun r => r = .osl 1 ((targetsF i).map int1)) := by
  refine FnSpec.weakV (spec_of 1000 Try.func100 rfl rfl ?_)
  repeat' first | refine Call.eq (Right_spec i hi) rfl ?_ | refine Call.eq (Ends123_spec _) rfl ?_ | refine Len.map ?_ | refine Len.nil ?_ | refine Len.cons ?_ | refine Br.t rfl ?_ | refine Br.f rfl ?_ | refine Fit.au ?_ | refine Need.au ?_ | refine Pick.map (by assumption) ?_ | refine Pick.mapI (by omega) (by assumption) ?_ | refine PickN.mk _ (by assumption) ?_ | refine PickN.mk _ rfl ?_ | refine PickN.au ?_ | refine App.au rfl ?_ | refine App.au (own_map (fun _ => rfl) _) ?_ | refine Both.mk ?_ ?_ | exact True.intro | refine Br.d (fun h => ?_) (fun h => ?_) | refine Br.nd (fun h => ?_) (fun h => ?_) | refine Br.mk (fun h => ?_) (fun h => ?_)
  all_goals (try simp only [right_eq, endsF] at *)
  all_goals first
    | (refine .inr ?_
       have e : targetsF i = [] := by unfold targetsF; rw [if_neg (by simp_all <;> omega), if_neg (by simp_all <;> omega)]
       rw [e]; exact OLe.onil)
    | (refine .inl ?_
       have e : targetsF i = [i.n] := by unfold targetsF; rw [if_pos (by simp_all)]
       rw [e]; rfl)
    | (refine .inl ?_
       have e : targetsF i = [i.n, i.m] := by unfold targetsF; rw [if_neg (by simp_all), if_pos (by simp_all <;> omega)]
       rw [e]; rfl)
theorem Clone_spec (l : List Int) (hl : l.length ≤ 1000000) : FnSpec Try.prog 75 [ints l] (fun r => r = .osl 1 (l.map int1)) := by
  refine FnSpec.weakV (spec_of 1000 Try.func75 rfl rfl ?_)
  repeat' first | refine Len.map ?_ | refine Len.nil ?_ | refine Len.cons ?_ | refine Br.t rfl ?_ | refine Br.f rfl ?_ | refine Fit.au ?_ | refine Need.au ?_ | refine Pick.map (by assumption) ?_ | refine Pick.mapI (by omega) (by assumption) ?_ | refine PickN.mk _ (by assumption) ?_ | refine PickN.mk _ rfl ?_ | refine PickN.au ?_ | refine App.au rfl ?_ | refine App.au (own_map (fun _ => rfl) _) ?_ | refine Both.mk ?_ ?_ | exact True.intro
  refine NilT.mk fun b hb => ?_
  refine Br.mk (fun h => ?_) (fun h => ?_)
  · repeat' first | refine Len.map ?_ | refine Len.nil ?_ | refine Len.cons ?_ | refine Br.t rfl ?_ | refine Br.f rfl ?_ | refine Fit.au ?_ | refine Need.au ?_ | refine Pick.map (by assumption) ?_ | refine Pick.mapI (by omega) (by assumption) ?_ | refine PickN.mk _ (by assumption) ?_ | refine PickN.mk _ rfl ?_ | refine PickN.au ?_ | refine App.au rfl ?_ | refine App.au (own_map (fun _ => rfl) _) ?_ | refine Both.mk ?_ ?_ | exact True.intro
    refine .inr ?_
    have : l = [] := by simpa using hb (by simpa using h)
    subst this
    exact OLe.onil
  · repeat' first | refine Len.map ?_ | refine Len.nil ?_ | refine Len.cons ?_ | refine Br.t rfl ?_ | refine Br.f rfl ?_ | refine Fit.au ?_ | refine Need.au ?_ | refine Pick.map (by assumption) ?_ | refine Pick.mapI (by omega) (by assumption) ?_ | refine PickN.mk _ (by assumption) ?_ | refine PickN.mk _ rfl ?_ | refine PickN.au ?_ | refine App.au rfl ?_ | refine App.au (own_map (fun _ => rfl) _) ?_ | refine Both.mk ?_ ?_ | exact True.intro
    exact .inl rfl
theorem Ints_spec (l : List Int) (hl : l.length ≤ 1000000) : FnSpec Try.prog 74 [ints l] (fun r => r = .osl 1 (l.map int1)) := by
  refine spec_of 1000 Try.func74 rfl rfl ?_
  repeat' first | refine Len.map ?_ | refine Len.nil ?_ | refine Len.cons ?_ | refine Br.t rfl ?_ | refine Br.f rfl ?_ | refine Fit.au ?_ | refine Need.au ?_ | refine Pick.map (by assumption) ?_ | refine Pick.mapI (by omega) (by assumption) ?_ | refine PickN.mk _ (by assumption) ?_ | refine PickN.mk _ rfl ?_ | refine PickN.au ?_ | refine App.au rfl ?_ | refine App.au (own_map (fun _ => rfl) _) ?_ | refine Both.mk ?_ ?_ | exact True.intro
  rfl
end Go.Proofs.Ytnfkdilmoppbpaa

/- What an instruction reads, as the program says it, by a contract. -/
namespace Go.Proofs.Ytnfkdilmoppbpaa
open Go.Ax
set_option maxRecDepth 10000
set_option linter.unusedVariables false

def uY (l : Nat) : AV := .lit (.func (.yield l) #[] #[])
def uTM : TM := [(8, .fn 141 [.hp 3 0, .hp 2 0]), (3, .hp 1 0)]
def uLp (sa bd : Code) (l D : Nat) : Lp := ⟨l, D, 133, 17, uTM, #[9], sa, bd, .ready, none⟩
def uH (sa bd : Code) (i : Ins) (l D : Nat) (xs : List Int) : HP := [(0, .var i.cs), (1, .var [.osl 1 (xs.map int1)]), (2, .var [.hp 0 0]), (3, .var [num (hasF i.op)]), (4, .lp (uLp sa bd l D))]

def rangeSa (f : Func) : Code := (rangeOf f).2.1
def rangeBd (f : Func) : Code := (rangeOf f).2.2
set_option maxHeartbeats 2000000 in
theorem round133 (i : Ins) (l D lo : Nat) (xs : List Int) (v : Int) (r : AV) (hr : (r = .hp 0 2 ∧ v = i.a) ∨ (r = .hp 0 3 ∧ v = i.b) ∨ (r = .hp 0 4 ∧ v = i.c) ∨ r = .pt [num v]) (hx : xs.length ≤ 2000000)
    {K : AV → HP → Nat → Prop} (hK : ∀ hp nx, subR [] hp (uH (rangeSa Try.f133) (rangeBd Try.f133) i l D (xs ++ [v])) → K (.lit (.bool true)) hp nx) :
    Run Try.prog 133 (Post.rnd l lo K) [.code (rangeSa Try.f133), .beginRound, .code (rangeBd Try.f133)] ⟨(9, r) :: uTM, uH (rangeSa Try.f133) (rangeBd Try.f133) i l D xs, 5, 17⟩ := by
  rcases hr with ⟨rfl, rfl⟩ | ⟨rfl, rfl⟩ | ⟨rfl, rfl⟩ | rfl
  all_goals
    refine goR 1000 ?_
    repeat' first | refine Len.map ?_ | refine Len.nil ?_ | refine Len.cons ?_ | refine Br.t rfl ?_ | refine Br.f rfl ?_ | refine Fit.au ?_ | refine Need.au ?_ | refine Pick.map (by assumption) ?_ | refine Pick.mapI (by omega) (by assumption) ?_ | refine PickN.mk _ (by assumption) ?_ | refine PickN.mk _ rfl ?_ | refine PickN.au ?_ | refine App.au rfl ?_ | refine App.au (own_map (fun _ => rfl) _) ?_ | refine Both.mk ?_ ?_ | exact True.intro
    refine Stop.mk (run_begin 4 rfl rfl rfl (goR 1000 ?_))
    repeat' first | refine Draw.mk (.one 1 false (.one 2 false (.alt 0 (ordL [3, 4, 5, 6] [3, 4, 5, 6]) (.alt 3 (.alt 0 (ordL [4, 5, 6] [4, 5, 6]) (.alt 4 (ordL [0, 5, 6] [0, 5, 6]) .no)) .no)))) (by decide +kernel) ?_ | refine Len.map ?_ | refine Len.nil ?_ | refine Len.cons ?_ | refine Br.t rfl ?_ | refine Br.f rfl ?_ | refine Fit.au ?_ | refine Need.au ?_ | refine Pick.map (by assumption) ?_ | refine Pick.mapI (by omega) (by assumption) ?_ | refine PickN.mk _ (by assumption) ?_ | refine PickN.mk _ rfl ?_ | refine PickN.au ?_ | refine App.au rfl ?_ | refine App.au (own_map (fun _ => rfl) _) ?_ | refine Both.mk ?_ ?_ | exact True.intro
  all_goals
    refine Need.mk rfl ?_
    refine hK _ _ ?_
    unfold uH
    rw [List.map_append]
    repeat' first | exact trivial | refine ⟨rfl, ?_⟩

set_option maxHeartbeats 4000000 in
theorem Uses133_spec (i : Ins) (hi : i.args.length ≤ 1000000) : FnSpec Try.prog 133 [insA i] (fun r => r = .osl 1 ((usesF i).map int1)) := by
  have hi2 : i.fits := by unfold Ins.fits; omega
  have la := usesA_len i
  have lb := usesB_len i
  have lc := usesC_len i
  refine FnSpec.weakV (spec_of 1000 Try.func133 rfl rfl ?_)
  repeat' first | refine Call.eq (Right_spec i hi2) rfl ?_ | refine Len.map ?_ | refine Len.nil ?_ | refine Len.cons ?_ | refine Br.t rfl ?_ | refine Br.f rfl ?_ | refine Fit.au ?_ | refine Need.au ?_ | refine Pick.map (by assumption) ?_ | refine Pick.mapI (by omega) (by assumption) ?_ | refine PickN.mk _ (by assumption) ?_ | refine PickN.mk _ rfl ?_ | refine PickN.au ?_ | refine App.au rfl ?_ | refine App.au (own_map (fun _ => rfl) _) ?_ | refine Both.mk ?_ ?_ | exact True.intro
  refine Br.mk (fun h => ?_) (fun h => ?_)
  · repeat' first | refine Len.map ?_ | refine Len.nil ?_ | refine Len.cons ?_ | refine Br.t rfl ?_ | refine Br.f rfl ?_ | refine Fit.au ?_ | refine Need.au ?_ | refine Pick.map (by assumption) ?_ | refine Pick.mapI (by omega) (by assumption) ?_ | refine PickN.mk _ (by assumption) ?_ | refine PickN.mk _ rfl ?_ | refine PickN.au ?_ | refine App.au rfl ?_ | refine App.au (own_map (fun _ => rfl) _) ?_ | refine Both.mk ?_ ?_ | exact True.intro
    refine .inr ?_
    have e : usesF i = [] := by unfold usesF; rw [if_neg (by rw [← right_eq]; simp_all)]
    rw [e]; exact OLe.onil
  have hr : rightF i = true := by simpa using h
  repeat' first | refine Len.map ?_ | refine Len.nil ?_ | refine Len.cons ?_ | refine Br.t rfl ?_ | refine Br.f rfl ?_ | refine Fit.au ?_ | refine Need.au ?_ | refine Pick.map (by assumption) ?_ | refine Pick.mapI (by omega) (by assumption) ?_ | refine PickN.mk _ (by assumption) ?_ | refine PickN.mk _ rfl ?_ | refine PickN.au ?_ | refine App.au rfl ?_ | refine App.au (own_map (fun _ => rfl) _) ?_ | refine Both.mk ?_ ?_ | exact True.intro
  refine Look.stop (Stop.mk ?_)
  refine run_inlC rfl want_none rfl rfl rfl rfl rfl rfl rfl (goI 1000 Try.func140 ?_)
  repeat' first | refine Call.eq (has_spec _) rfl ?_ | refine Len.map ?_ | refine Len.nil ?_ | refine Len.cons ?_ | refine Br.t rfl ?_ | refine Br.f rfl ?_ | refine Fit.au ?_ | refine Need.au ?_ | refine Pick.map (by assumption) ?_ | refine Pick.mapI (by omega) (by assumption) ?_ | refine PickN.mk _ (by assumption) ?_ | refine PickN.mk _ rfl ?_ | refine PickN.au ?_ | refine App.au rfl ?_ | refine App.au (own_map (fun _ => rfl) _) ?_ | refine Both.mk ?_ ?_ | exact True.intro
  refine go 1000 Try.func133 ?_
  repeat' first | refine Len.map ?_ | refine Len.nil ?_ | refine Len.cons ?_ | refine Br.t rfl ?_ | refine Br.f rfl ?_ | refine Fit.au ?_ | refine Need.au ?_ | refine Pick.map (by assumption) ?_ | refine Pick.mapI (by omega) (by assumption) ?_ | refine PickN.mk _ (by assumption) ?_ | refine PickN.mk _ rfl ?_ | refine PickN.au ?_ | refine App.au rfl ?_ | refine App.au (own_map (fun _ => rfl) _) ?_ | refine Both.mk ?_ ?_ | exact True.intro
  refine Stop.mk (run_varLe 1 rfl (.cons (VLe.onil (sz := 1)) .nil) ?_)
  refine Run.fr (tm' := uTM) (hp' := [(0, .var i.cs), (1, .var [.osl 1 []]), (2, .var [.hp 0 0]), (3, .var [num (hasF i.op)])]) (nx' := 4) (nt := 17) ?_ (g := []) ⟨rfl, (by repeat' first | exact trivial | refine ⟨rfl, ?_⟩ | refine ⟨congrArg (fun n => AV.lit (.int .i64 n)) (by omega), ?_⟩ | refine ⟨congrArg (fun l => some (Row.row 1 l)) (by simp [int1, num, tru]), ?_⟩), (by repeat' first | exact trivial | refine ⟨rfl, ?_⟩ | refine ⟨congrArg (fun n => AV.lit (.int .i64 n)) (by omega), ?_⟩ | refine ⟨congrArg (fun l => some (Row.row 1 l)) (by simp [int1, num, tru]), ?_⟩)⟩
  refine run_rangeC rfl rfl rfl rfl rfl rfl rfl (fun l D => ?_)
  refine Run.fr (tm' := [(0, uY l), (1, .hp 3 0), (2, .hp 2 0)]) (hp' := uH (rangeSa Try.f133) (rangeBd Try.f133) i l D []) (nx' := 5) (nt := 68) ?_ (g := []) ⟨rfl, (by repeat' first | exact trivial | refine ⟨rfl, ?_⟩ | refine ⟨congrArg (fun n => AV.lit (.int .i64 n)) (by omega), ?_⟩ | refine ⟨congrArg (fun l => some (Row.row 1 l)) (by simp [int1, num, tru]), ?_⟩), (by repeat' first | exact trivial | refine ⟨rfl, ?_⟩ | refine ⟨congrArg (fun n => AV.lit (.int .i64 n)) (by omega), ?_⟩ | refine ⟨congrArg (fun l => some (Row.row 1 l)) (by simp [int1, num, tru]), ?_⟩)⟩
  apply join (fun xs : List Int => [(0, uY l), (1, .hp 3 0), (2, .hp 2 0)]) (fun xs => uH (rangeSa Try.f133) (rangeBd Try.f133) i l D xs) 5 (fun xs => xs = usesA i)
  · intro jn
    refine goI 17 Try.func141 ?_
    repeat' first | refine Len.map ?_ | refine Len.nil ?_ | refine Len.cons ?_ | refine Br.t rfl ?_ | refine Br.f rfl ?_ | refine Fit.au ?_ | refine Need.au ?_ | refine Pick.map (by assumption) ?_ | refine Pick.mapI (by omega) (by assumption) ?_ | refine PickN.mk _ (by assumption) ?_ | refine PickN.mk _ rfl ?_ | refine PickN.au ?_ | refine App.au rfl ?_ | refine App.au (own_map (fun _ => rfl) _) ?_ | refine Both.mk ?_ ?_ | exact True.intro | refine Br.d (fun h => ?_) (fun h => ?_) | refine Br.nd (fun h => ?_) (fun h => ?_) | refine Br.mk (fun h => ?_) (fun h => ?_)
    · refine Stop.mk (run_yieldC 4 rfl ⟨_, rfl, rfl, rfl⟩ rfl rfl rfl rfl rfl rfl rfl (round133 i l D 5 [] i.a (.hp 0 2) (.inl ⟨rfl, rfl⟩) (by simp) fun hp nx hs => ?_))
      refine Run.fr (g := []) (tm' := [(13, tru true), (8, tru true), (0, uY l), (1, .hp 3 0), (2, .hp 2 0)]) (hp' := uH (rangeSa Try.f133) (rangeBd Try.f133) i l D ([] ++ [i.a])) (nx' := 5) (nt := 68) ?_ ⟨rfl, (by repeat' first | exact trivial | refine ⟨rfl, ?_⟩), hs⟩
      refine goI 5 Try.func141 ?_
      repeat' first | refine Len.map ?_ | refine Len.nil ?_ | refine Len.cons ?_ | refine Br.t rfl ?_ | refine Br.f rfl ?_ | refine Fit.au ?_ | refine Need.au ?_ | refine Pick.map (by assumption) ?_ | refine Pick.mapI (by omega) (by assumption) ?_ | refine PickN.mk _ (by assumption) ?_ | refine PickN.mk _ rfl ?_ | refine PickN.au ?_ | refine App.au rfl ?_ | refine App.au (own_map (fun _ => rfl) _) ?_ | refine Both.mk ?_ ?_ | exact True.intro
      refine Stop.mk (jn [i.a] (g := []) _ _ _ ⟨rfl, (by repeat' first | exact trivial | refine ⟨rfl, ?_⟩ | refine ⟨congrArg (fun n => AV.lit (.int .i64 n)) (by omega), ?_⟩ | refine ⟨congrArg (fun l => some (Row.row 1 l)) (by simp [int1, num, tru]), ?_⟩), (by repeat' first | exact trivial | refine ⟨rfl, ?_⟩ | refine ⟨congrArg (fun n => AV.lit (.int .i64 n)) (by omega), ?_⟩ | refine ⟨congrArg (fun l => some (Row.row 1 l)) (by simp [int1, num, tru]), ?_⟩)⟩ ?_)
      exact (if_pos h).symm
    · refine Stop.mk (jn [] (g := []) _ _ _ ⟨rfl, (by repeat' first | exact trivial | refine ⟨rfl, ?_⟩ | refine ⟨congrArg (fun n => AV.lit (.int .i64 n)) (by omega), ?_⟩ | refine ⟨congrArg (fun l => some (Row.row 1 l)) (by simp [int1, num, tru]), ?_⟩), (by repeat' first | exact trivial | refine ⟨rfl, ?_⟩ | refine ⟨congrArg (fun n => AV.lit (.int .i64 n)) (by omega), ?_⟩ | refine ⟨congrArg (fun l => some (Row.row 1 l)) (by simp [int1, num, tru]), ?_⟩)⟩ ?_)
      exact (if_neg (fun hn => hn h)).symm
  intro xs hxs
  have lx : xs.length ≤ 1 := by rw [hxs]; exact la
  apply join (fun xs : List Int => [(0, uY l), (1, .hp 3 0), (2, .hp 2 0)]) (fun xs => uH (rangeSa Try.f133) (rangeBd Try.f133) i l D xs) 5 (fun ys => ys = xs ++ usesB i)
  · intro jn
    refine goI 29 Try.func141 ?_
    repeat' first | refine Len.map ?_ | refine Len.nil ?_ | refine Len.cons ?_ | refine Br.t rfl ?_ | refine Br.f rfl ?_ | refine Fit.au ?_ | refine Need.au ?_ | refine Pick.map (by assumption) ?_ | refine Pick.mapI (by omega) (by assumption) ?_ | refine PickN.mk _ (by assumption) ?_ | refine PickN.mk _ rfl ?_ | refine PickN.au ?_ | refine App.au rfl ?_ | refine App.au (own_map (fun _ => rfl) _) ?_ | refine Both.mk ?_ ?_ | exact True.intro | refine Br.d (fun h => ?_) (fun h => ?_) | refine Br.nd (fun h => ?_) (fun h => ?_) | refine Br.mk (fun h => ?_) (fun h => ?_)
    · refine Stop.mk (run_yieldC 4 rfl ⟨_, rfl, rfl, rfl⟩ rfl rfl rfl rfl rfl rfl rfl (round133 i l D 5 xs i.b (.hp 0 3) (.inr (.inl ⟨rfl, rfl⟩)) (by omega) fun hp nx hs => ?_))
      refine Run.fr (g := []) (tm' := [(36, tru true), (31, tru true), (0, uY l), (1, .hp 3 0), (2, .hp 2 0)]) (hp' := uH (rangeSa Try.f133) (rangeBd Try.f133) i l D (xs ++ [i.b])) (nx' := 5) (nt := 68) ?_ ⟨rfl, (by repeat' first | exact trivial | refine ⟨rfl, ?_⟩), hs⟩
      refine goI 5 Try.func141 ?_
      repeat' first | refine Len.map ?_ | refine Len.nil ?_ | refine Len.cons ?_ | refine Br.t rfl ?_ | refine Br.f rfl ?_ | refine Fit.au ?_ | refine Need.au ?_ | refine Pick.map (by assumption) ?_ | refine Pick.mapI (by omega) (by assumption) ?_ | refine PickN.mk _ (by assumption) ?_ | refine PickN.mk _ rfl ?_ | refine PickN.au ?_ | refine App.au rfl ?_ | refine App.au (own_map (fun _ => rfl) _) ?_ | refine Both.mk ?_ ?_ | exact True.intro
      refine Stop.mk (jn (xs ++ [i.b]) (g := []) _ _ _ ⟨rfl, (by repeat' first | exact trivial | refine ⟨rfl, ?_⟩ | refine ⟨congrArg (fun n => AV.lit (.int .i64 n)) (by omega), ?_⟩ | refine ⟨congrArg (fun l => some (Row.row 1 l)) (by simp [int1, num, tru]), ?_⟩), (by repeat' first | exact trivial | refine ⟨rfl, ?_⟩ | refine ⟨congrArg (fun n => AV.lit (.int .i64 n)) (by omega), ?_⟩ | refine ⟨congrArg (fun l => some (Row.row 1 l)) (by simp [int1, num, tru]), ?_⟩)⟩ ?_)
      have e : usesB i = [i.b] := if_pos (by clear jn; simp only [band_eq] at *; simp_all; done)
      rw [e]
    · refine Stop.mk (run_yieldC 4 rfl ⟨_, rfl, rfl, rfl⟩ rfl rfl rfl rfl rfl rfl rfl (round133 i l D 5 xs i.b (.hp 0 3) (.inr (.inl ⟨rfl, rfl⟩)) (by omega) fun hp nx hs => ?_))
      refine Run.fr (g := []) (tm' := [(36, tru true), (31, tru true), (0, uY l), (1, .hp 3 0), (2, .hp 2 0)]) (hp' := uH (rangeSa Try.f133) (rangeBd Try.f133) i l D (xs ++ [i.b])) (nx' := 5) (nt := 68) ?_ ⟨rfl, (by repeat' first | exact trivial | refine ⟨rfl, ?_⟩), hs⟩
      refine goI 5 Try.func141 ?_
      repeat' first | refine Len.map ?_ | refine Len.nil ?_ | refine Len.cons ?_ | refine Br.t rfl ?_ | refine Br.f rfl ?_ | refine Fit.au ?_ | refine Need.au ?_ | refine Pick.map (by assumption) ?_ | refine Pick.mapI (by omega) (by assumption) ?_ | refine PickN.mk _ (by assumption) ?_ | refine PickN.mk _ rfl ?_ | refine PickN.au ?_ | refine App.au rfl ?_ | refine App.au (own_map (fun _ => rfl) _) ?_ | refine Both.mk ?_ ?_ | exact True.intro
      refine Stop.mk (jn (xs ++ [i.b]) (g := []) _ _ _ ⟨rfl, (by repeat' first | exact trivial | refine ⟨rfl, ?_⟩ | refine ⟨congrArg (fun n => AV.lit (.int .i64 n)) (by omega), ?_⟩ | refine ⟨congrArg (fun l => some (Row.row 1 l)) (by simp [int1, num, tru]), ?_⟩), (by repeat' first | exact trivial | refine ⟨rfl, ?_⟩ | refine ⟨congrArg (fun n => AV.lit (.int .i64 n)) (by omega), ?_⟩ | refine ⟨congrArg (fun l => some (Row.row 1 l)) (by simp [int1, num, tru]), ?_⟩)⟩ ?_)
      have e : usesB i = [i.b] := if_pos (by clear jn; simp only [band_eq] at *; simp_all; done)
      rw [e]
    · refine Stop.mk (jn xs (g := []) _ _ _ ⟨rfl, (by repeat' first | exact trivial | refine ⟨rfl, ?_⟩ | refine ⟨congrArg (fun n => AV.lit (.int .i64 n)) (by omega), ?_⟩ | refine ⟨congrArg (fun l => some (Row.row 1 l)) (by simp [int1, num, tru]), ?_⟩), (by repeat' first | exact trivial | refine ⟨rfl, ?_⟩ | refine ⟨congrArg (fun n => AV.lit (.int .i64 n)) (by omega), ?_⟩ | refine ⟨congrArg (fun l => some (Row.row 1 l)) (by simp [int1, num, tru]), ?_⟩)⟩ ?_)
      have e : usesB i = [] := if_neg (by clear jn; simp only [band_eq] at *; simp_all; done)
      rw [e, List.append_nil]
    · refine Stop.mk (jn xs (g := []) _ _ _ ⟨rfl, (by repeat' first | exact trivial | refine ⟨rfl, ?_⟩ | refine ⟨congrArg (fun n => AV.lit (.int .i64 n)) (by omega), ?_⟩ | refine ⟨congrArg (fun l => some (Row.row 1 l)) (by simp [int1, num, tru]), ?_⟩), (by repeat' first | exact trivial | refine ⟨rfl, ?_⟩ | refine ⟨congrArg (fun n => AV.lit (.int .i64 n)) (by omega), ?_⟩ | refine ⟨congrArg (fun l => some (Row.row 1 l)) (by simp [int1, num, tru]), ?_⟩)⟩ ?_)
      have e : usesB i = [] := if_neg (by clear jn; simp only [band_eq] at *; simp_all; done)
      rw [e, List.append_nil]
  intro ys hys
  have ly : ys.length ≤ 2 := by rw [hys, List.length_append]; omega
  apply join (fun xs : List Int => [(0, uY l), (1, .hp 3 0), (2, .hp 2 0)]) (fun xs => uH (rangeSa Try.f133) (rangeBd Try.f133) i l D xs) 5 (fun zs => zs = ys ++ usesC i)
  · intro jn
    refine goI 17 Try.func141 ?_
    repeat' first | refine Len.map ?_ | refine Len.nil ?_ | refine Len.cons ?_ | refine Br.t rfl ?_ | refine Br.f rfl ?_ | refine Fit.au ?_ | refine Need.au ?_ | refine Pick.map (by assumption) ?_ | refine Pick.mapI (by omega) (by assumption) ?_ | refine PickN.mk _ (by assumption) ?_ | refine PickN.mk _ rfl ?_ | refine PickN.au ?_ | refine App.au rfl ?_ | refine App.au (own_map (fun _ => rfl) _) ?_ | refine Both.mk ?_ ?_ | exact True.intro | refine Br.d (fun h => ?_) (fun h => ?_) | refine Br.nd (fun h => ?_) (fun h => ?_) | refine Br.mk (fun h => ?_) (fun h => ?_)
    · refine Stop.mk (run_yieldC 4 rfl ⟨_, rfl, rfl, rfl⟩ rfl rfl rfl rfl rfl rfl rfl (round133 i l D 5 ys i.c (.hp 0 4) (.inr (.inr (.inl ⟨rfl, rfl⟩))) (by omega) fun hp nx hs => ?_))
      refine Run.fr (g := []) (tm' := [(47, tru true), (42, tru true), (0, uY l), (1, .hp 3 0), (2, .hp 2 0)]) (hp' := uH (rangeSa Try.f133) (rangeBd Try.f133) i l D (ys ++ [i.c])) (nx' := 5) (nt := 68) ?_ ⟨rfl, (by repeat' first | exact trivial | refine ⟨rfl, ?_⟩), hs⟩
      refine goI 5 Try.func141 ?_
      repeat' first | refine Len.map ?_ | refine Len.nil ?_ | refine Len.cons ?_ | refine Br.t rfl ?_ | refine Br.f rfl ?_ | refine Fit.au ?_ | refine Need.au ?_ | refine Pick.map (by assumption) ?_ | refine Pick.mapI (by omega) (by assumption) ?_ | refine PickN.mk _ (by assumption) ?_ | refine PickN.mk _ rfl ?_ | refine PickN.au ?_ | refine App.au rfl ?_ | refine App.au (own_map (fun _ => rfl) _) ?_ | refine Both.mk ?_ ?_ | exact True.intro
      refine Stop.mk (jn (ys ++ [i.c]) (g := []) _ _ _ ⟨rfl, (by repeat' first | exact trivial | refine ⟨rfl, ?_⟩ | refine ⟨congrArg (fun n => AV.lit (.int .i64 n)) (by omega), ?_⟩ | refine ⟨congrArg (fun l => some (Row.row 1 l)) (by simp [int1, num, tru]), ?_⟩), (by repeat' first | exact trivial | refine ⟨rfl, ?_⟩ | refine ⟨congrArg (fun n => AV.lit (.int .i64 n)) (by omega), ?_⟩ | refine ⟨congrArg (fun l => some (Row.row 1 l)) (by simp [int1, num, tru]), ?_⟩)⟩ ?_)
      rw [show usesC i = [i.c] from if_pos h]
    · refine Stop.mk (jn ys (g := []) _ _ _ ⟨rfl, (by repeat' first | exact trivial | refine ⟨rfl, ?_⟩ | refine ⟨congrArg (fun n => AV.lit (.int .i64 n)) (by omega), ?_⟩ | refine ⟨congrArg (fun l => some (Row.row 1 l)) (by simp [int1, num, tru]), ?_⟩), (by repeat' first | exact trivial | refine ⟨rfl, ?_⟩ | refine ⟨congrArg (fun n => AV.lit (.int .i64 n)) (by omega), ?_⟩ | refine ⟨congrArg (fun l => some (Row.row 1 l)) (by simp [int1, num, tru]), ?_⟩)⟩ ?_)
      rw [show usesC i = [] from if_neg (fun hn => hn h), List.append_nil]
  intro zs hzs
  have lz : zs.length ≤ 3 := by rw [hzs, List.length_append]; omega
  refine goI 1000 Try.func141 ?_
  repeat' first | refine Len.map ?_ | refine Len.nil ?_ | refine Len.cons ?_ | refine Br.t rfl ?_ | refine Br.f rfl ?_ | refine Fit.au ?_ | refine Need.au ?_ | refine Pick.map (by assumption) ?_ | refine Pick.mapI (by omega) (by assumption) ?_ | refine PickN.mk _ (by assumption) ?_ | refine PickN.mk _ rfl ?_ | refine PickN.au ?_ | refine App.au rfl ?_ | refine App.au (own_map (fun _ => rfl) _) ?_ | refine Both.mk ?_ ?_ | exact True.intro
  refine Stop.mk (loop_in (g := []) (fun k : Nat => [(0, uY l), (2, .hp 2 0), (54, num i.args.length), (55, num k)]) (fun k => uH (rangeSa Try.f133) (rangeBd Try.f133) i l D (zs ++ i.args.take k)) 5 (fun k => k ≤ i.args.length) (fun k => i.args.length - k) 0 (by omega) ?_ (fun k hk ih => ?_))
  · rw [List.take_zero, List.append_nil]; exact ⟨rfl, (by repeat' first | exact trivial | refine ⟨rfl, ?_⟩ | refine ⟨congrArg (fun n => AV.lit (.int .i64 n)) (by omega), ?_⟩ | refine ⟨congrArg (fun l => some (Row.row 1 l)) (by simp [int1, num, tru]), ?_⟩), (by repeat' first | exact trivial | refine ⟨rfl, ?_⟩ | refine ⟨congrArg (fun n => AV.lit (.int .i64 n)) (by omega), ?_⟩ | refine ⟨congrArg (fun l => some (Row.row 1 l)) (by simp [int1, num, tru]), ?_⟩)⟩
  refine goI 1000 Try.func141 ?_
  repeat' first | refine Len.map ?_ | refine Len.nil ?_ | refine Len.cons ?_ | refine Br.t rfl ?_ | refine Br.f rfl ?_ | refine Fit.au ?_ | refine Need.au ?_ | refine Pick.map (by assumption) ?_ | refine Pick.mapI (by omega) (by assumption) ?_ | refine PickN.mk _ (by assumption) ?_ | refine PickN.mk _ rfl ?_ | refine PickN.au ?_ | refine App.au rfl ?_ | refine App.au (own_map (fun _ => rfl) _) ?_ | refine Both.mk ?_ ?_ | exact True.intro
  refine Br.d (fun h2 => ?_) (fun h2 => ?_)
  · obtain ⟨x, gx, gxm⟩ := getK (l := i.args) (k := k) (by omega)
    repeat' first | refine Len.map ?_ | refine Len.nil ?_ | refine Len.cons ?_ | refine Br.t rfl ?_ | refine Br.f rfl ?_ | refine Fit.au ?_ | refine Need.au ?_ | refine Pick.map (by assumption) ?_ | refine Pick.mapI (by omega) (by assumption) ?_ | refine PickN.mk _ (by assumption) ?_ | refine PickN.mk _ rfl ?_ | refine PickN.au ?_ | refine App.au rfl ?_ | refine App.au (own_map (fun _ => rfl) _) ?_ | refine Both.mk ?_ ?_ | exact True.intro
    refine Stop.mk (run_yieldC 4 rfl want_none rfl rfl rfl rfl rfl rfl rfl (round133 i l D 5 (zs ++ i.args.take k) x (.pt [num x]) (.inr (.inr (.inr rfl))) (by simp; omega) fun hp nx hs => ?_))
    refine Run.fr (g := []) (tm' := [(65, tru true), (0, uY l), (2, .hp 2 0), (54, num i.args.length), (55, num k)]) (hp' := uH (rangeSa Try.f133) (rangeBd Try.f133) i l D ((zs ++ i.args.take k) ++ [x])) (nx' := 5) (nt := 68) ?_ ⟨rfl, (by repeat' first | exact trivial | refine ⟨rfl, ?_⟩), hs⟩
    refine goI 1000 Try.func141 ?_
    repeat' first | refine Len.map ?_ | refine Len.nil ?_ | refine Len.cons ?_ | refine Br.t rfl ?_ | refine Br.f rfl ?_ | refine Fit.au ?_ | refine Need.au ?_ | refine Pick.map (by assumption) ?_ | refine Pick.mapI (by omega) (by assumption) ?_ | refine PickN.mk _ (by assumption) ?_ | refine PickN.mk _ rfl ?_ | refine PickN.au ?_ | refine App.au rfl ?_ | refine App.au (own_map (fun _ => rfl) _) ?_ | refine Both.mk ?_ ?_ | exact True.intro
    refine Stop.mk (ih (k + 1) (g := []) _ _ _ (by omega) (by omega) ?_)
    rw [take_succ gx, ← List.append_assoc]
    exact ⟨rfl, (by repeat' first | exact trivial | refine ⟨rfl, ?_⟩ | refine ⟨congrArg (fun n => AV.lit (.int .i64 n)) (by omega), ?_⟩ | refine ⟨congrArg (fun l => some (Row.row 1 l)) (by simp [int1, num, tru]), ?_⟩), (by repeat' first | exact trivial | refine ⟨rfl, ?_⟩ | refine ⟨congrArg (fun n => AV.lit (.int .i64 n)) (by omega), ?_⟩ | refine ⟨congrArg (fun l => some (Row.row 1 l)) (by simp [int1, num, tru]), ?_⟩)⟩
  · repeat' first | refine Len.map ?_ | refine Len.nil ?_ | refine Len.cons ?_ | refine Br.t rfl ?_ | refine Br.f rfl ?_ | refine Fit.au ?_ | refine Need.au ?_ | refine Pick.map (by assumption) ?_ | refine Pick.mapI (by omega) (by assumption) ?_ | refine PickN.mk _ (by assumption) ?_ | refine PickN.mk _ rfl ?_ | refine PickN.au ?_ | refine App.au rfl ?_ | refine App.au (own_map (fun _ => rfl) _) ?_ | refine Both.mk ?_ ?_ | exact True.intro
    rw [take_all (by omega)]
    refine ⟨_, rfl, rfl, rfl, (by intro h; cases h), goD 1000 Try.func133 ?_⟩
    repeat' first | refine Len.map ?_ | refine Len.nil ?_ | refine Len.cons ?_ | refine Br.t rfl ?_ | refine Br.f rfl ?_ | refine Fit.au ?_ | refine Need.au ?_ | refine Pick.map (by assumption) ?_ | refine Pick.mapI (by omega) (by assumption) ?_ | refine PickN.mk _ (by assumption) ?_ | refine PickN.mk _ rfl ?_ | refine PickN.au ?_ | refine App.au rfl ?_ | refine App.au (own_map (fun _ => rfl) _) ?_ | refine Both.mk ?_ ?_ | exact True.intro
    refine Need.mk rfl ?_
    refine .inl ?_
    show _ = _
    rw [uses_eq hr, hzs, hys, hxs]
    simp [asRes]
end Go.Proofs.Ytnfkdilmoppbpaa

/- Where blocks go and come from, as the program reckons it: lists that are filled. No program is in sight here. -/
namespace Go.Proofs.Ytnfkdilmoppbpaa
open Go.Ax
/-- Lists, the first ones of which are done. -/
def outS {α : Type} (s : List (List α)) (k : Nat) : List (List α) := s.take k ++ List.replicate (s.length - k) []
theorem outS_len {α : Type} (s : List (List α)) {k : Nat} (h : k ≤ s.length) : (outS s k).length = s.length := by
  unfold outS; rw [List.length_append, List.length_take, List.length_replicate]; omega
theorem outS_at {α : Type} (s : List (List α)) {k : Nat} (h : k < s.length) : (outS s k)[k]? = some [] := by
  unfold outS
  rw [List.getElem?_append_right (by rw [List.length_take]; omega), List.length_take, List.getElem?_replicate, if_pos (by omega)]
theorem outS_succ {α : Type} {s : List (List α)} {k : Nat} {l : List α} (h : s[k]? = some l) : outS s (k + 1) = (outS s k).set k l := by
  have hk := (List.getElem?_eq_some_iff.1 h).1
  unfold outS
  rw [take_succ h, show s.length - k = (s.length - (k + 1)) + 1 by omega, List.replicate_succ, List.set_append_right _ _ (by rw [List.length_take]; omega), List.length_take, show k - min k s.length = 0 by omega, List.append_assoc]
  rfl
theorem outS_all {α : Type} (s : List (List α)) : outS s s.length = s := by unfold outS; simp
theorem outS_nil {α : Type} {s : List (List α)} {k : Nat} (h : s[k]? = some []) : outS s (k + 1) = outS s k := by
  have hk := (List.getElem?_eq_some_iff.1 h).1
  rw [outS_succ h]
  refine List.ext_getElem? fun j => ?_
  rw [List.getElem?_set]
  split
  · rename_i e; subst e; rw [if_pos (by rw [outS_len s (by omega)]; exact hk), outS_at s hk]
  · rfl
theorem set_at {α : Type} {s : List α} {k : Nat} {a b : α} (h : s[k]? = some b) : (s.set k a)[k]? = some a := by
  rw [List.getElem?_set_self (List.getElem?_eq_some_iff.1 h).1]
theorem below_succ {n : Nat} {l : List Int} {j : Nat} {t : Int} (h : l[j]? = some t) : below n (l.take (j + 1)) = if t < n then below n (l.take j) ++ [t] else below n (l.take j) := by
  unfold below
  rw [take_succ h, List.filter_append]
  split <;> simp_all
theorem below_len (n : Nat) (l : List Int) : (below n l).length ≤ l.length := List.length_filter_le _ _
/-- The blocks that go to each one, up to a block, and to a place in its list. -/
def predP (s : List (List Int)) (k j : Nat) (t : Nat) : List Int := ((List.range k).flatMap fun a : Nat => ((s[a]?.getD []).filter (· = (t : Int))).map fun _ => (a : Int)) ++ (((s[k]?.getD []).take j).filter (· = (t : Int))).map fun _ => (k : Int)
def predsP (s : List (List Int)) (k j : Nat) : List (List Int) := (List.range s.length).map fun t => predP s k j t
theorem predsP_len (s : List (List Int)) (k j : Nat) : (predsP s k j).length = s.length := by unfold predsP; simp
theorem predsP_zero (s : List (List Int)) : predsP s 0 0 = List.replicate s.length [] := by
  unfold predsP predP
  refine List.ext_getElem (by simp) fun i h1 h2 => ?_
  simp
theorem predsP_at {s : List (List Int)} {k j t : Nat} (h : t < s.length) : (predsP s k j)[t]? = some (predP s k j t) := by
  unfold predsP; rw [List.getElem?_map, List.getElem?_range h]; rfl
theorem predP_step {s : List (List Int)} {k j : Nat} {l : List Int} {t : Int} (hl : s[k]? = some l) (ht : l[j]? = some t) (u : Nat) : predP s k (j + 1) u = if (u : Int) = t then predP s k j u ++ [(k : Int)] else predP s k j u := by
  unfold predP
  simp only [hl, Option.getD_some]
  rw [take_succ ht, List.filter_append, List.map_append]
  by_cases e : (u : Int) = t
  · subst e; simp
  · rw [if_neg e]
    have : ¬ t = (u : Int) := fun h => e h.symm
    simp [this]
theorem predsP_step {s : List (List Int)} {k j : Nat} {l : List Int} {t : Nat} (hl : s[k]? = some l) (ht : l[j]? = some (t : Int)) (h : t < s.length) : predsP s k (j + 1) = (predsP s k j).set t (predP s k j t ++ [(k : Int)]) := by
  refine List.ext_getElem? fun u => ?_
  rw [List.getElem?_set]
  by_cases hu : u < s.length
  · rw [predsP_at hu, predP_step hl ht]
    by_cases e : t = u
    · subst e; rw [if_pos rfl, if_pos rfl, if_pos (by rw [predsP_len]; exact h)]
    · rw [if_neg (by omega), if_neg e, predsP_at hu]
  · rw [List.getElem?_eq_none (by rw [predsP_len]; omega)]
    rw [if_neg (by omega), List.getElem?_eq_none (by rw [predsP_len]; omega)]
theorem predsP_next {s : List (List Int)} {k : Nat} {l : List Int} (hl : s[k]? = some l) : predsP s k l.length = predsP s (k + 1) 0 := by
  unfold predsP
  refine List.map_congr_left fun t _ => ?_
  unfold predP
  rw [List.range_succ, List.flatMap_append]
  simp [hl]
theorem predP_len {s : List (List Int)} (hs : ∀ l ∈ s, l.length ≤ 2) (k j t : Nat) : (predP s k j t).length ≤ 2 * k + 2 := by
  have h1 : ∀ a : Nat, (s[a]?.getD []).length ≤ 2 := fun a => by
    cases h : s[a]? with
    | none => simp
    | some l => exact hs l (List.mem_of_getElem? h)
  unfold predP
  rw [List.length_append, List.length_map]
  have h2 : (((s[k]?.getD []).take j).filter (· = (t : Int))).length ≤ 2 := Nat.le_trans (List.length_filter_le _ _) (Nat.le_trans (by rw [List.length_take]; omega) (h1 k))
  have h3 : ∀ k : Nat, ((List.range k).flatMap fun a : Nat => ((s[a]?.getD []).filter (· = (t : Int))).map fun _ => (a : Int)).length ≤ 2 * k := by
    intro k
    induction k with
    | zero => simp
    | succ k ih =>
      rw [List.range_succ, List.flatMap_append, List.length_append]
      have := Nat.le_trans (List.length_filter_le (· = (t : Int)) (s[k]?.getD [])) (h1 k)
      simp only [List.flatMap_cons, List.flatMap_nil, List.append_nil, List.length_map]
      omega
  have := h3 k
  omega
theorem filter_nodup {l : List Int} (h : l.Nodup) (t : Int) (a : Int) : ((l.filter (· = t)).map fun _ => a) = if t ∈ l then [a] else [] := by
  induction l with
  | nil => simp
  | cons x l ih =>
    obtain ⟨h1, h2⟩ := List.nodup_cons.1 h
    by_cases e : x = t
    · subst e
      have : l.filter (· = x) = [] := List.filter_eq_nil_iff.2 fun y hy => by
        simp only [decide_eq_true_eq]
        exact fun e => h1 (e ▸ hy)
      simp [this]
    · rw [List.filter_cons_of_neg (by simpa using e), ih h2]
      have : ¬ t = x := fun h => e h.symm
      simp [this]
/-- Each list names none twice: then so do these. -/
theorem predP_eq {s : List (List Int)} (hs : ∀ l ∈ s, l.Nodup) (t : Nat) : ∀ k, predP s k 0 t = predOf s t k
  | 0 => by unfold predP predOf; simp
  | k + 1 => by
    have ih := predP_eq hs t k
    unfold predP predOf at *
    rw [List.range_succ, List.flatMap_append, List.filter_append, List.map_append, ← ih]
    simp only [List.take_zero, List.filter_nil, List.map_nil, List.append_nil, List.flatMap_cons, List.flatMap_nil, List.filter_cons, List.filter_nil]
    congr 1
    have h2 : (s[k]?.getD []).Nodup := by
      cases h : s[k]? with
      | none => simp
      | some l => exact hs l (List.mem_of_getElem? h)
    rw [filter_nodup h2]
    by_cases e : (t : Int) ∈ s[k]?.getD []
    · simp [e]
    · simp [e]
theorem targetsF_nodup (i : Ins) : (targetsF i).Nodup := by
  unfold targetsF
  split
  · simp
  · split
    · rename_i h
      have h2 := h.1
      unfold right15 tailF tailA at h2
      simp [h.2] at h2
      simp
      omega
    · simp
theorem succsF_nodup (f : Fun) : ∀ l ∈ succsF f, l.Nodup := by
  intro l hl
  unfold succsF at hl
  obtain ⟨b, _, rfl⟩ := List.mem_map.1 hl
  unfold succ1
  split
  · exact (targetsF_nodup _).filter _
  · simp
/-- The blocks that go to each one, as often as they do. -/
def predsD (s : List (List Int)) : List (List Int) := predsP s s.length 0
theorem predsD_eq (f : Fun) : predsD (succsF f) = predsF (succsF f) := by
  unfold predsD predsP predsF
  exact List.map_congr_left fun t _ => predP_eq (succsF_nodup f) t _
theorem predsD_len (s : List (List Int)) : (predsD s).length = s.length := predsP_len _ _ _
end Go.Proofs.Ytnfkdilmoppbpaa
