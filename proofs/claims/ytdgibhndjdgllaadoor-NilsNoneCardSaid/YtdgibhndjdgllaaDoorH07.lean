/- Blocks and where they go, as the document's answer says it. No program is in sight here. -/
import Derived.Test.YtdgibhndjdgllaaDoorH06
set_option linter.unusedVariables false
set_option linter.unusedSimpArgs false

namespace Go.Proofs.YtdgibhndjdgllaaDoor
open Go.Ax

def lst (l : List Int) : List AV := [ints l]
def olst (l : List Int) : List AV := [.osl 1 (l.map int1)]
def below (n : Nat) (l : List Int) : List Int := l.filter (fun t => decide (t < (n : Int)))
def succ1 (n : Nat) (b : List Ins) : List Int := match b[b.length - 1]? with
  | some i => below n (targetsF i)
  | none => []
def succsF (f : Fun) : List (List Int) := f.blocks.map (succ1 f.blocks.length)
theorem targetsF_len (i : Ins) : (targetsF i).length ≤ 2 := by unfold targetsF; split <;> (try split) <;> simp
theorem succsF_len (f : Fun) : (succsF f).length = f.blocks.length := by unfold succsF; simp
/-- What is reached without a block. -/
inductive Reaches (s : List (List Int)) (x : Int) : Int → Prop
  | zero : s ≠ [] → x ≠ 0 → Reaches s x 0
  | step {k : Nat} {t : Int} {l : List Int} : Reaches s x k → s[k]? = some l → t ∈ l → t ≠ x → Reaches s x t
/-- All that is gone to is there. -/
def Closed (s : List (List Int)) : Prop := ∀ l ∈ s, ∀ t ∈ l, 0 ≤ t ∧ t < s.length
theorem targetsF_pos (i : Ins) : ∀ t ∈ targetsF i, 0 ≤ t := by
  intro t ht
  unfold targetsF at ht
  split at ht
  · rename_i h
    unfold right15 tailF tailA at h
    simp at ht
    simp [h.2] at h
    omega
  · split at ht
    · rename_i h
      unfold right15 tailF tailA at h
      simp at ht
      simp [h.2] at h
      omega
    · simp at ht
theorem succsF_closed (f : Fun) : Closed (succsF f) := by
  intro l hl t ht
  rw [succsF_len]
  unfold succsF at hl
  obtain ⟨b, _, rfl⟩ := List.mem_map.1 hl
  unfold succ1 at ht
  split at ht
  · unfold below at ht
    obtain ⟨h1, h2⟩ := List.mem_filter.1 ht
    exact ⟨targetsF_pos _ _ h1, by simpa using h2⟩
  · simp at ht
def tb (b : Bool) : List AV := [tru b]
/-- How many are not marked. -/
def falses (l : List Bool) : Nat := l.count false
/-- What is marked is reached. -/
def Sound (s : List (List Int)) (x : Int) (l : List Bool) : Prop := l.length = s.length ∧ ∀ t : Nat, l[t]? = some true → Reaches s x t
/-- These are the marks of what is reached. -/
def Marks (s : List (List Int)) (x : Int) (l : List Bool) : Prop := l.length = s.length ∧ ∀ t : Nat, l[t]? = some true ↔ Reaches s x t
theorem falses_set {l : List Bool} {t : Nat} (h : l[t]? = some false) : falses (l.set t true) < falses l := by
  unfold falses
  induction l generalizing t with
  | nil => simp at h
  | cons a l ih =>
    cases t with
    | zero => simp at h; subst h; simp
    | succ t =>
      simp at h
      have := ih h
      simp only [List.set_cons_succ, List.count_cons]; omega
theorem Sound.set {s : List (List Int)} {x : Int} {l : List Bool} {t : Nat} (h : Sound s x l) (ht : Reaches s x t) : Sound s x (l.set t true) := by
  refine ⟨by rw [List.length_set]; exact h.1, fun u hu => ?_⟩
  rw [List.getElem?_set] at hu
  split at hu
  · rename_i e; subst e; exact ht
  · exact h.2 u hu
/-- All ways from what is marked, up to one, lead to what is marked. -/
def Shut (s : List (List Int)) (x : Int) (l : List Bool) (k j : Nat) : Prop := ∀ (a : Nat) (r : List Int) (b : Nat) (t : Int), s[a]? = some r → r[b]? = some t → (a < k ∨ (a = k ∧ b < j)) → l[a]? = some true → t ≠ x → l[t.toNat]? = some true
theorem marks_of {s : List (List Int)} {x : Int} {l : List Bool} (hs : Closed s) (h : Sound s x l) (h0 : s ≠ [] → x ≠ 0 → l[0]? = some true) (hc : Shut s x l s.length 0) : Marks s x l := by
  refine ⟨h.1, fun t => ⟨h.2 t, fun ht => ?_⟩⟩
  have key : ∀ u : Int, Reaches s x u → l[u.toNat]? = some true := by
    intro u hu
    induction hu with
    | zero a b => exact h0 a b
    | step hk hl ht hne ih =>
      obtain ⟨b, hb⟩ := List.getElem?_of_mem ht
      refine hc _ _ b _ hl hb (.inl ?_) (by simpa using ih) hne
      exact (List.getElem?_eq_some_iff.1 hl).1
  simpa using key _ ht
end Go.Proofs.YtdgibhndjdgllaaDoor

/- Marks of what is reached: how they grow. No program is in sight here. -/
namespace Go.Proofs.YtdgibhndjdgllaaDoor
open Go.Ax
theorem set_keep {l : List Bool} {t u : Nat} (h : l[u]? = some true) : (l.set t true)[u]? = some true := by
  rw [List.getElem?_set]
  have hu := (List.getElem?_eq_some_iff.1 h).1
  split
  · rename_i e; subst e; rw [if_pos hu]
  · exact h
theorem Shut.zero {s : List (List Int)} {x : Int} {l : List Bool} : Shut s x l 0 0 := fun a r b t _ _ h => by omega
theorem Shut.step {s : List (List Int)} {x : Int} {l : List Bool} {k j : Nat} {r : List Int} {t : Int} (h : Shut s x l k j) (hr : s[k]? = some r) (ht : r[j]? = some t) (hm : l[k]? = some true → t ≠ x → l[t.toNat]? = some true) : Shut s x l k (j + 1) := by
  intro a r' b u ha hb hlt hl hne
  by_cases e : a = k ∧ b = j
  · obtain ⟨rfl, rfl⟩ := e
    rw [hr] at ha; cases ha
    rw [ht] at hb; cases hb
    exact hm hl hne
  · exact h a r' b u ha hb (by omega) hl hne
theorem Shut.row {s : List (List Int)} {x : Int} {l : List Bool} {k j : Nat} {r : List Int} (h : Shut s x l k j) (hr : s[k]? = some r) (hj : r.length ≤ j) : Shut s x l (k + 1) 0 := by
  intro a r' b u ha hb hlt hl hne
  refine h a r' b u ha hb ?_ hl hne
  by_cases e : a = k
  · subst e
    rw [hr] at ha; cases ha
    have := (List.getElem?_eq_some_iff.1 hb).1
    right; exact ⟨rfl, by omega⟩
  · left; omega
theorem Shut.none {s : List (List Int)} {x : Int} {l : List Bool} {k j : Nat} (h : ∀ u : Nat, l[u]? ≠ some true) : Shut s x l k j := fun a _ _ _ _ _ _ hl _ => absurd hl (h a)
theorem succsF_small (f : Fun) : ∀ l ∈ succsF f, l.length ≤ 2 := by
  intro l hl
  unfold succsF at hl
  obtain ⟨b, _, rfl⟩ := List.mem_map.1 hl
  unfold succ1
  split
  · unfold below
    exact Nat.le_trans (List.length_filter_le _ _) (targetsF_len _)
  · simp
theorem rep_false {n u : Nat} : (List.replicate n false)[u]? ≠ some true := by
  intro h
  rw [List.getElem?_replicate] at h
  split at h <;> simp at h
end Go.Proofs.YtdgibhndjdgllaaDoor

/- Dominators, predecessors, writers, as the document's answer says them. No program is in sight here. -/
namespace Go.Proofs.YtdgibhndjdgllaaDoor
open Go.Ax
/-- One block dominates another: both are reached, the one not without the other. -/
def Dom (s : List (List Int)) (a b : Int) : Prop := Reaches s (-1) a ∧ Reaches s (-1) b ∧ ¬ Reaches s a b
def predOf (s : List (List Int)) (k : Nat) (n : Nat) : List Int := ((List.range n).filter (fun j => decide ((k : Int) ∈ s[j]?.getD []))).map (fun j : Nat => (j : Int))
def predsF (s : List (List Int)) : List (List Int) := (List.range s.length).map (fun k => predOf s k s.length)
theorem predOf_len (s : List (List Int)) (k n : Nat) : (predOf s k n).length ≤ n := by
  unfold predOf
  rw [List.length_map]
  have := List.length_filter_le (fun j => decide ((k : Int) ∈ s[j]?.getD [])) (List.range n)
  rw [List.length_range] at this; exact this
/-- Where a register is written first: block, place. -/
def WrittenAt (f : Fun) (reg : Int) (k at_ : Nat) : Prop := ∃ b i, f.blocks[k]? = some b ∧ b[at_]? = some i ∧ def15 i = reg
/-- The first writer. -/
def FirstAt (f : Fun) (reg : Int) (k at_ : Nat) : Prop := WrittenAt f reg k at_ ∧ ∀ k' a', WrittenAt f reg k' a' → k < k' ∨ (k = k' ∧ at_ ≤ a')
/-- What is told of a writer. -/
def WriterIs (f : Fun) (reg k at_ : Int) (is : Bool) : Prop :=
  (is = true → ∃ k' a' : Nat, k = k' ∧ at_ = a' ∧ 0 ≤ reg ∧ FirstAt f reg k' a') ∧ (is = false → k = 0 ∧ at_ = 0 ∧ (0 ≤ reg → ∀ k' a', ¬ WrittenAt f reg k' a'))
end Go.Proofs.YtdgibhndjdgllaaDoor

/- What a name has, what an instruction reads, as the document's answer says it. No program is in sight here. -/
namespace Go.Proofs.YtdgibhndjdgllaaDoor
open Go.Ax
theorem FirstAt.uniq {f : Fun} {reg : Int} {k a k' a' : Nat} (h : FirstAt f reg k a) (h' : FirstAt f reg k' a') : k = k' ∧ a = a' := by
  have h1 := h.2 _ _ h'.1
  have h2 := h'.2 _ _ h.1
  omega
/-- Has a register a value ahead of a place? -/
def HasP (f : Fun) (reg block at_ : Int) : Prop := reg < f.params ∨ (0 ≤ reg ∧ ∃ k i : Nat, FirstAt f reg k i ∧ (((k : Int) = block ∧ (i : Int) < at_) ∨ ((k : Int) ≠ block ∧ Dom (succsF f) k block)))
theorem HasP.of {f : Fun} {reg block at_ k i : Int} (hp : ¬ reg < f.params) (h : WriterIs f reg k i true) : HasP f reg block at_ ↔ ((k = block ∧ i < at_) ∨ (k ≠ block ∧ Dom (succsF f) k block)) := by
  obtain ⟨k1, a1, rfl, rfl, h0, h1⟩ := h.1 rfl
  constructor
  · rintro (h2 | ⟨_, k2, a2, h3, h4⟩)
    · exact absurd h2 hp
    · obtain ⟨rfl, rfl⟩ := h1.uniq h3
      exact h4
  · intro h2
    exact .inr ⟨h0, k1, a1, h1, h2⟩
theorem HasP.no {f : Fun} {reg block at_ k i : Int} (hp : ¬ reg < f.params) (h : WriterIs f reg k i false) : ¬ HasP f reg block at_ := by
  rintro (h2 | ⟨h0, k2, a2, h3, _⟩)
  · exact hp h2
  · exact (h.2 rfl).2.2 h0 _ _ h3.1
end Go.Proofs.YtdgibhndjdgllaaDoor

/- What a program is that nothing is wrong with, as the document's answer says it. No program is in sight here. -/
namespace Go.Proofs.YtdgibhndjdgllaaDoor
open Go.Ax
def goesTo (block : Int) (b : List Ins) : Bool := match b[b.length - 1]? with
  | some i => decide (block ∈ targetsF i)
  | none => false
def predCount (f : Fun) (block : Int) : Nat := f.blocks.countP (goesTo block)
/-- An instruction stands as it may. -/
def formF (b : List Ins) (j : Nat) (i : Ins) : Prop := right15 i = true ∧ (endsF i.op = true ↔ j + 1 = b.length) ∧ (i.op = 44 → ∀ x ∈ b.take j, x.op = 44)
/-- All is there that an instruction names. -/
def thereP (p : Pro) (f : Fun) (block : Int) (i : Ins) : Prop :=
  def15 i < f.regs.length ∧ (∀ u ∈ usesF i, u < f.regs.length) ∧ (∀ t ∈ targetsF i, t ≠ 0 ∧ t < f.blocks.length) ∧
  (checkF i.op = true → i.site < p.sites.length ∧ (p.sites.getD i.site.toNat (0, 0)).1 = trapF i.op) ∧ (i.op = 39 → i.n < p.funcs.length) ∧ (i.op = 44 → (i.args.length : Int) = predCount f block)
def fun0 : Fun := ⟨⟨#[]⟩, 0, 0, [], []⟩
/-- The kinds that an instruction reads. -/
def kindsF (p : Pro) (f : Fun) (i : Ins) : List Int :=
  if i.op = 3 ∨ i.op = 4 then [f.regs.getD i.a.toNat 0, f.regs.getD i.a.toNat 0]
  else if i.op = 23 then [f.regs.getD i.dst.toNat 0]
  else if i.op = 25 ∨ i.op = 42 then [2]
  else if i.op = 26 ∨ i.op = 27 ∨ i.op = 31 then [3]
  else if i.op = 29 ∨ i.op = 32 then [3, 1]
  else if i.op = 30 then [3, 1, 1]
  else if i.op = 39 then (p.funcs.getD i.n.toNat fun0).regs.take (max 0 (min (p.funcs.getD i.n.toNat fun0).params (p.funcs.getD i.n.toNat fun0).regs.length)).toNat
  else if i.op = 43 then [f.ret]
  else if i.op = 45 ∧ i.m = 21 then [3]
  else if i.op = 45 ∧ i.m = 20 then [1, 3]
  else List.replicate (usesF i).length (if i.op = 44 then f.regs.getD i.dst.toNat 0 else 1)
/-- The kind that an instruction writes. -/
def kindF (p : Pro) (f : Fun) (i : Ins) : Int :=
  if i.op ≤ 8 ∨ i.op = 21 ∨ i.op = 25 ∨ i.op = 26 then 2
  else if i.op = 22 ∨ i.op = 28 ∨ (i.op = 45 ∧ i.m = 21) then 3
  else if i.op = 39 then (p.funcs.getD i.n.toNat fun0).ret
  else if i.op = 23 ∨ i.op = 44 then f.regs.getD i.dst.toNat 0
  else 1
end Go.Proofs.YtdgibhndjdgllaaDoor

/- Nothing is wrong with an instruction. No program is in sight here. -/
namespace Go.Proofs.YtdgibhndjdgllaaDoor
open Go.Ax
end Go.Proofs.YtdgibhndjdgllaaDoor

/- What is wrong with a program, as the document's answer says it. No program is in sight here. -/
namespace Go.Proofs.YtdgibhndjdgllaaDoor
open Go.Ax
instance (b : List Ins) (j : Nat) (i : Ins) : Decidable (formF b j i) := by unfold formF; infer_instance
instance (p : Pro) (f : Fun) (k : Int) (i : Ins) : Decidable (thereP p f k i) := by unfold thereP; infer_instance
def typeP (p : Pro) (f : Fun) (i : Ins) : Prop := (usesF i).map (fun r => f.regs.getD r.toNat 0) = kindsF p f i ∧ (writesF i.op = true → f.regs.getD i.dst.toNat 0 = kindF p f i)
instance (p : Pro) (f : Fun) (i : Ins) : Decidable (typeP p f i) := by unfold typeP; infer_instance
/-- Nothing is wrong with a function itself. -/
def longP (f : Fun) : Prop := 0 ≤ f.params ∧ f.params ≤ 8 ∧ f.params ≤ f.regs.length ∧ f.regs.length ≤ 65536 ∧ f.blocks.length ≤ 65536 ∧ f.count ≤ 262144
def kindP (f : Fun) : Prop := (∀ x ∈ f.regs, 1 ≤ x ∧ x ≤ 3) ∧ (1 ≤ f.ret ∧ f.ret ≤ 3)
instance (f : Fun) : Decidable (longP f) := by unfold longP; infer_instance
instance (f : Fun) : Decidable (kindP f) := by unfold kindP; infer_instance
structure Wrong where
  fn : Int
  block : Int
  at_ : Int
  err : Int
deriving DecidableEq
def Wrong.cs (w : Wrong) : List AV := [num w.fn, num w.block, num w.at_, num w.err]
def Wrong.no : Wrong := ⟨0, 0, 0, 0⟩

/-- The main one is as it must be. -/
def mainP (p : Pro) : Prop := 0 ≤ p.main ∧ p.main < p.funcs.length ∧ (p.funcs.getD p.main.toNat fun0).params = 1 ∧ (p.funcs.getD p.main.toNat fun0).regs.length ≠ 0 ∧ (p.funcs.getD p.main.toNat fun0).regs.getD 0 0 = 3 ∧ (p.funcs.getD p.main.toNat fun0).ret = 1
instance (p : Pro) : Decidable (mainP p) := by unfold mainP; infer_instance
end Go.Proofs.YtdgibhndjdgllaaDoor

/- Who writes a name, as plain data. No program is in sight here. -/
namespace Go.Proofs.YtdgibhndjdgllaaDoor
open Go.Ax

structure Wr where
  i : Ins
  block : Int
  is : Bool
def Ins.none : Ins := ⟨0, 0, 0, 0, 0, 0, 0, 0, []⟩
def Wr0 : Wr := ⟨Ins.none, 0, false⟩
def Wr.cs (w : Wr) : List AV := [num w.i.op, num w.i.dst, num w.i.a, num w.i.b, num w.i.c, num w.i.n, num w.i.m, num w.i.site, ints w.i.args, num w.block, tru w.is]

structure Names where
  ws : List Wr
  params : Int
def Names.cs (n : Names) : List AV := [.sl false 11 (n.ws.map Wr.cs), num n.params]
def namesA (n : Names) : AV := .pt n.cs
def ownNames (n : Names) : AV := .opt [.osl 11 (n.ws.map Wr.cs), num n.params]

def setW (ws : List Wr) (k : Nat) (i : Ins) : List Wr := if 0 ≤ defF i ∧ defF i < ws.length ∧ (ws.getD (defF i).toNat Wr0).is = false then ws.set (defF i).toNat ⟨i, k, true⟩ else ws
def blkW (ws : List Wr) (k : Nat) (b : List Ins) : Nat → List Wr
  | 0 => ws
  | j + 1 => match b[j]? with
    | some i => setW (blkW ws k b j) k i
    | none => blkW ws k b j
def outW (f : Fun) : Nat → List Wr
  | 0 => List.replicate f.regs.length Wr0
  | k + 1 => match f.blocks[k]? with
    | some b => blkW (outW f k) k b b.length
    | none => outW f k
def newF (f : Fun) : Names := ⟨outW f f.blocks.length, f.params⟩

theorem setW_len (ws : List Wr) (k : Nat) (i : Ins) : (setW ws k i).length = ws.length := by unfold setW; split <;> simp
theorem blkW_len (ws : List Wr) (k : Nat) (b : List Ins) (j : Nat) : (blkW ws k b j).length = ws.length := by
  induction j with
  | zero => rfl
  | succ j ih => unfold blkW; split <;> simp [setW_len, ih]
theorem outW_len (f : Fun) (k : Nat) : (outW f k).length = f.regs.length := by
  induction k with
  | zero => simp [outW]
  | succ k ih => unfold outW; split <;> simp [blkW_len, ih]
theorem blkW_succ {ws : List Wr} {k j : Nat} {b : List Ins} {i : Ins} (h : b[j]? = some i) : blkW ws k b (j + 1) = setW (blkW ws k b j) k i := by simp only [blkW, h]
theorem outW_succ {f : Fun} {k : Nat} {b : List Ins} (h : f.blocks[k]? = some b) : outW f (k + 1) = blkW (outW f k) k b b.length := by simp only [outW, h]

def Names.of (n : Names) (x : Int) : Wr := if 0 ≤ x ∧ x < n.ws.length then n.ws.getD x.toNat Wr0 else Wr0
def Names.block (n : Names) (x : Int) : Int := if (n.of x).is = true then (n.of x).block else if 0 ≤ x ∧ x < n.params ∧ x < n.ws.length then 0 else -1
/-- The names from one on, as far as there is fuel. -/
def Names.up (n : Names) : Nat → Int → List Int
  | 0, x => [x]
  | k + 1, x => if (n.of x).is = true ∧ ((n.of x).i.op = 23 ∨ (n.of x).i.op = 45) then x :: n.up k (n.of x).i.a else [x]
def Names.chain (n : Names) (x : Int) : List Int := if 0 ≤ x ∧ x < n.ws.length then n.up n.ws.length x else []
def Names.root (n : Names) (x : Int) : Int := (n.chain x).getLastD x
theorem up_len (n : Names) : ∀ (k : Nat) (x : Int), (n.up k x).length ≤ k + 1
  | 0, x => by simp [Names.up]
  | k + 1, x => by
    unfold Names.up
    split
    · have := up_len n k (n.of x).i.a; simp; omega
    · simp
theorem chain_len (n : Names) (x : Int) : (n.chain x).length ≤ n.ws.length + 1 := by
  unfold Names.chain; split
  · exact up_len _ _ _
  · simp
theorem newF_len (f : Fun) : (newF f).ws.length = f.regs.length := outW_len _ _
end Go.Proofs.YtdgibhndjdgllaaDoor

/- What a proper program is, and what its names are, as the document's answer says it. No program is in sight here. -/
namespace Go.Proofs.YtdgibhndjdgllaaDoor
open Go.Ax
/-- A way of so many steps. -/
inductive PathN (s : List (List Int)) : Nat → Int → Prop
  | zero : s ≠ [] → PathN s 0 0
  | step {n k : Nat} {t : Int} {l : List Int} : PathN s n k → s[k]? = some l → t ∈ l → PathN s (n + 1) t
/-- Of writers up to a place: what is known. -/
def WsAt (f : Fun) (ws : List Wr) (k j : Nat) : Prop := ws.length = f.regs.length ∧ ∀ d : Nat, d < f.regs.length →
  ((ws.getD d Wr0).is = true → ∃ k' a' b i, f.blocks[k']? = some b ∧ b[a']? = some i ∧ FirstAt f d k' a' ∧ ws.getD d Wr0 = ⟨i, k', true⟩) ∧
  ((ws.getD d Wr0).is = false → ws.getD d Wr0 = Wr0 ∧ ∀ k' a', WrittenAt f d k' a' → k < k' ∨ (k = k' ∧ j ≤ a'))
theorem WsAt.step {f : Fun} {ws : List Wr} {k j : Nat} {b : List Ins} {i : Ins} (h : WsAt f ws k j) (gb : f.blocks[k]? = some b) (gi : b[j]? = some i) : WsAt f (setW ws k i) k (j + 1) := by
  refine ⟨by rw [setW_len]; exact h.1, fun d hd => ?_⟩
  obtain ⟨h1, h2⟩ := h.2 d hd
  have keep : (setW ws k i).getD d Wr0 = ws.getD d Wr0 → (def15 i = d → (ws.getD d Wr0).is = true) → 
      (((setW ws k i).getD d Wr0).is = true → ∃ k' a' b i', f.blocks[k']? = some b ∧ b[a']? = some i' ∧ FirstAt f d k' a' ∧ (setW ws k i).getD d Wr0 = ⟨i', k', true⟩) ∧
      (((setW ws k i).getD d Wr0).is = false → (setW ws k i).getD d Wr0 = Wr0 ∧ ∀ k' a', WrittenAt f d k' a' → k < k' ∨ (k = k' ∧ j + 1 ≤ a')) := by
    intro e hw
    rw [e]
    refine ⟨h1, fun hf => ⟨(h2 hf).1, fun k' a' h' => ?_⟩⟩
    rcases (h2 hf).2 k' a' h' with h3 | ⟨rfl, h3⟩
    · exact .inl h3
    · refine .inr ⟨rfl, ?_⟩
      by_cases ej : j = a'
      · subst ej
        obtain ⟨b', i', e1, e2, e3⟩ := h'
        rw [gb] at e1; cases e1
        rw [gi] at e2; cases e2
        rw [hw e3] at hf; cases hf
      · omega
  by_cases hc : 0 ≤ defF i ∧ defF i < ws.length ∧ (ws.getD (defF i).toNat Wr0).is = false
  · have es : setW ws k i = ws.set (defF i).toNat ⟨i, k, true⟩ := if_pos hc
    by_cases ed : (defF i).toNat = d
    · have edI : def15 i = d := by rw [← def_eq]; omega
      have eg : (setW ws k i).getD d Wr0 = ⟨i, k, true⟩ := by
        rw [es, ed, List.getD_eq_getElem?_getD, List.getElem?_set_self (by omega)]; rfl
      rw [eg]
      refine ⟨fun _ => ⟨k, j, b, i, gb, gi, ⟨⟨b, i, gb, gi, edI⟩, fun k' a' h' => ?_⟩, rfl⟩, fun h => by cases h⟩
      have hf := hc.2.2
      rw [ed] at hf
      exact (h2 hf).2 k' a' h'
    · refine keep ?_ ?_
      · rw [es, List.getD_eq_getElem?_getD, List.getElem?_set_ne ed, ← List.getD_eq_getElem?_getD]
      · intro e; rw [← def_eq] at e; omega
  · have es : setW ws k i = ws := if_neg hc
    refine keep (by rw [es]) fun e => ?_
    rw [← def_eq] at e
    rw [e] at hc
    cases hf : (ws.getD d Wr0).is with
    | true => rfl
    | false => exact absurd ⟨by omega, by have := h.1; omega, by simpa using hf⟩ hc
theorem WsAt.blk {f : Fun} {ws : List Wr} {k : Nat} {b : List Ins} (h : WsAt f ws k 0) (gb : f.blocks[k]? = some b) : ∀ j, j ≤ b.length → WsAt f (blkW ws k b j) k j
  | 0, _ => h
  | j + 1, hj => by
    rw [blkW_succ (List.getElem?_eq_getElem (by omega))]
    exact (WsAt.blk h gb j (by omega)).step gb (List.getElem?_eq_getElem (by omega))
theorem WsAt.out {f : Fun} : ∀ k, k ≤ f.blocks.length → WsAt f (outW f k) k 0
  | 0, _ => by
    refine ⟨by simp [outW], fun d hd => ?_⟩
    have e : (outW f 0).getD d Wr0 = Wr0 := by simp only [outW, List.getD_eq_getElem?_getD, List.getElem?_replicate]; split <;> rfl
    rw [e]
    exact ⟨fun h => (by cases h), fun _ => ⟨rfl, fun k' a' _ => by omega⟩⟩
  | k + 1, hk => by
    have gb := List.getElem?_eq_getElem (l := f.blocks) (i := k) (by omega)
    rw [outW_succ gb]
    have h := (WsAt.out k (by omega)).blk gb _ (Nat.le_refl _)
    refine ⟨h.1, fun d hd => ⟨(h.2 d hd).1, fun hf => ⟨((h.2 d hd).2 hf).1, fun k' a' h' => ?_⟩⟩⟩
    rcases ((h.2 d hd).2 hf).2 k' a' h' with h3 | ⟨rfl, h3⟩
    · omega
    · obtain ⟨b', i', e1, e2, _⟩ := h'
      rw [gb] at e1; cases e1
      have := (List.getElem?_eq_some_iff.1 e2).1
      omega
/-- A name's chain. -/
def Names.cp (n : Names) (x : Int) : Prop := (n.of x).is = true ∧ ((n.of x).i.op = 23 ∨ (n.of x).i.op = 45)
def Names.inR (n : Names) (x : Int) : Prop := 0 ≤ x ∧ x < n.ws.length
inductive ChainR (n : Names) : Int → List Int → Prop
  | stop {x} : n.inR x → ¬ n.cp x → ChainR n x [x]
  | step {x l} : n.inR x → n.cp x → ChainR n (n.of x).i.a l → ChainR n x (x :: l)
theorem ChainR.det {n : Names} {x : Int} {l l' : List Int} (h : ChainR n x l) (h' : ChainR n x l') : l = l' := by
  induction h generalizing l' with
  | stop h1 h2 => cases h' with
    | stop => rfl
    | step _ h3 _ => exact absurd h3 h2
  | step h1 h2 _ ih => cases h' with
    | stop _ h3 => exact absurd h2 h3
    | step _ _ h4 => rw [ih h4]
theorem ChainR.mem {n : Names} {x y : Int} {l : List Int} (h : ChainR n x l) (hy : y ∈ l) : n.inR y ∧ ∃ l', ChainR n y l' ∧ l'.length ≤ l.length := by
  induction h with
  | stop h1 h2 => simp at hy; subst hy; exact ⟨h1, _, .stop h1 h2, Nat.le_refl _⟩
  | step h1 h2 h3 ih =>
    rcases List.mem_cons.1 hy with rfl | hy
    · exact ⟨h1, _, .step h1 h2 h3, Nat.le_refl _⟩
    · obtain ⟨g1, l', g2, g3⟩ := ih hy
      exact ⟨g1, l', g2, by simp; omega⟩
theorem ChainR.nodup {n : Names} {x : Int} {l : List Int} (h : ChainR n x l) : l.Nodup := by
  induction h with
  | stop => simp
  | @step x l h1 h2 h3 ih =>
    refine List.nodup_cons.2 ⟨fun hm => ?_, ih⟩
    obtain ⟨_, l', g2, g3⟩ := h3.mem hm
    have := g2.det (.step h1 h2 h3)
    subst this; simp at g3
    omega
theorem nodup_len : ∀ (n : Nat) (l : List Int), l.Nodup → (∀ x ∈ l, 0 ≤ x ∧ x < n) → l.length ≤ n
  | 0, l, _, h => by
    cases l with
    | nil => simp
    | cons x l => have := h x (List.mem_cons_self ..); omega
  | n + 1, l, hn, h => by
    have ih := nodup_len n (l.erase (n : Int)) (hn.erase _) fun x hx => by
      have h1 := (hn.mem_erase_iff).1 hx
      have := h x h1.2
      have := h1.1
      omega
    by_cases hm : (n : Int) ∈ l
    · rw [List.length_erase_of_mem hm] at ih; omega
    · rw [List.erase_of_not_mem hm] at ih; omega
theorem ChainR.up {n : Names} {x : Int} {l : List Int} (h : ChainR n x l) : ∀ k, l.length ≤ k + 1 → n.up k x = l := by
  induction h with
  | stop h1 h2 =>
    intro k _
    cases k with
    | zero => rfl
    | succ k => unfold Names.up; exact if_neg h2
  | @step x l h1 h2 h3 ih =>
    intro k hk
    have : l ≠ [] := by cases h3 <;> simp
    have := List.length_pos_iff.2 this
    simp only [List.length_cons] at hk
    cases k with
    | zero => omega
    | succ k => unfold Names.up; rw [← ih k (by omega)]; exact if_pos h2
theorem ChainR.chain {n : Names} {x : Int} {l : List Int} (h : ChainR n x l) : n.chain x = l := by
  have h1 : n.inR x := by cases h <;> assumption
  have h2 := nodup_len n.ws.length l h.nodup fun y hy => (h.mem hy).1
  unfold Names.chain
  rw [← h.up n.ws.length (by omega)]; exact if_pos h1

end Go.Proofs.YtdgibhndjdgllaaDoor
