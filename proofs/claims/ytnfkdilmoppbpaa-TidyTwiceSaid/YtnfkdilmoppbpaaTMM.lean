/- Instructions, functions and programs, as plain data; what an instruction is. No program is in sight here. -/
import Derived.Test.YtnfkdilmoppbpaaTGG
set_option linter.unusedVariables false
set_option linter.unusedSimpArgs false

namespace Go.Proofs.Ytnfkdilmoppbpaa
open Go.Ax

def int1 (n : Int) : List AV := [.lit (.int .i64 n)]
def ints (l : List Int) : AV := .sl false 1 (l.map int1)
def num (n : Int) : AV := .lit (.int .i64 n)
def tru (b : Bool) : AV := .lit (.bool b)

structure Ins where
  op : Int
  dst : Int
  a : Int
  b : Int
  c : Int
  n : Int
  m : Int
  site : Int
  args : List Int
deriving DecidableEq

def Ins.cs (i : Ins) : List AV := [num i.op, num i.dst, num i.a, num i.b, num i.c, num i.n, num i.m, num i.site, ints i.args]
def insA (i : Ins) : AV := .agg i.cs

structure Fun where
  name : ByteArray
  params : Int
  ret : Int
  regs : List Int
  blocks : List (List Ins)

structure Pro where
  funcs : List Fun
  main : Int
  sites : List (Int × Int)

def blk (b : List Ins) : List AV := [.sl false 9 (b.map Ins.cs)]
def Fun.cs (f : Fun) : List AV := [.lit (.string f.name), num f.params, num f.ret, ints f.regs, .sl false 1 (f.blocks.map blk)]
def funA (f : Fun) : AV := .agg f.cs
def site (s : Int × Int) : List AV := [num s.1, num s.2]
def Pro.cs (p : Pro) : List AV := [.sl false 5 (p.funcs.map Fun.cs), num p.main, .sl false 2 (p.sites.map site)]
def proA (p : Pro) : AV := .agg p.cs

def Fun.count (f : Fun) : Nat := (f.blocks.map List.length).sum
def Pro.count (p : Pro) : Nat := (p.funcs.map Fun.count).sum

/-- The lists are no longer than a machine's. -/
def Ins.fits (i : Ins) : Prop := i.args.length < 9223372036854775807
def Fun.fits (f : Fun) : Prop := f.blocks.length < 9223372036854775807 ∧ f.regs.length < 9223372036854775807 ∧ ∀ b ∈ f.blocks, b.length < 9223372036854775807 ∧ ∀ i ∈ b, i.fits
def Pro.fits (p : Pro) : Prop := p.funcs.length < 9223372036854775807 ∧ p.sites.length < 9223372036854775807 ∧ ∀ f ∈ p.funcs, f.fits

theorem sum_take_succ {l : List Nat} {k n : Nat} (h : l[k]? = some n) : (l.take (k + 1)).sum = (l.take k).sum + n := by
  rw [List.take_add_one, h, List.sum_append]; simp
theorem sum_take_le {l : List Nat} {k : Nat} : (l.take k).sum ≤ l.sum := by
  have := congrArg List.sum (List.take_append_drop k l)
  rw [List.sum_append] at this; omega
theorem take_succ {α : Type} {l : List α} {k : Nat} {x : α} (h : l[k]? = some x) : l.take (k + 1) = l.take k ++ [x] := by
  rw [List.take_add_one, h]; rfl
theorem all_take_succ {α : Type} {l : List α} {k : Nat} {x : α} {q : α → Prop} (h : l[k]? = some x) (h1 : ∀ y ∈ l.take k, q y) (h2 : q x) : ∀ y ∈ l.take (k + 1), q y := by
  intro y hy
  rw [take_succ h] at hy
  rcases List.mem_append.1 hy with hy | hy
  · exact h1 y hy
  · simp at hy; subst hy; exact h2
theorem take_all {α : Type} {l : List α} {k : Nat} (h : l.length ≤ k) : l.take k = l := List.take_of_length_le h

/-- Few: what 16's bound asks. -/
def Fun.few (f : Fun) (most : Int) : Prop := f.regs.length ≤ 100 ∧ (f.blocks.length : Int) ≤ most ∧ f.name.size ≤ 100 ∧ ∀ b ∈ f.blocks, ∀ i ∈ b, i.args.length ≤ 40
def Pro.few (p : Pro) (most : Int) : Prop := p.funcs.length ≤ 10 ∧ p.sites.length ≤ 200 ∧ (p.count : Int) ≤ most ∧ ∀ f ∈ p.funcs, f.few most
def Pro.light (p : Pro) : Prop := ∀ f ∈ p.funcs, f.blocks.length ≤ 1000 → f.count ≤ 100000000000000000

theorem Pro.count_le (p : Pro) (h : p.funcs.length ≤ 10) (c : Nat) (hc : ∀ f ∈ p.funcs, f.count ≤ c) : p.count ≤ p.funcs.length * c := by
  have : ∀ l : List Fun, (∀ f ∈ l, f.count ≤ c) → (l.map Fun.count).sum ≤ l.length * c := by
    intro l
    induction l with
    | nil => simp
    | cons f l ih =>
      intro h
      have h1 := h f (List.mem_cons_self ..)
      have h2 := ih fun g hg => h g (List.mem_cons_of_mem _ hg)
      simp only [List.map_cons, List.sum_cons, List.length_cons, Nat.add_mul]; omega
  exact this _ hc

theorem Fun.count_take (f : Fun) (k : Nat) : ((f.blocks.map List.length).take k).sum ≤ f.count := sum_take_le
theorem Fun.len_le {f : Fun} {b : List Ins} (h : b ∈ f.blocks) : b.length ≤ f.count := by
  obtain ⟨k, hk, rfl⟩ := List.getElem_of_mem h
  have h1 : (f.blocks.map List.length)[k]? = some f.blocks[k].length := by simp [List.getElem?_eq_getElem hk]
  have := sum_take_succ h1
  have := f.count_take (k + 1)
  omega
theorem Pro.count_fun {p : Pro} {f : Fun} (h : f ∈ p.funcs) : f.count ≤ p.count := by
  obtain ⟨k, hk, rfl⟩ := List.getElem_of_mem h
  have h1 : (p.funcs.map Fun.count)[k]? = some p.funcs[k].count := by simp [List.getElem?_eq_getElem hk]
  have := sum_take_succ h1
  have : ((p.funcs.map Fun.count).take (k + 1)).sum ≤ p.count := sum_take_le
  omega

/-- What an Op has. -/
def hasTable : List (Int × Int) := [(20, 17), (21, 33), (22, 1), (30, 14), (31, 258), (32, 262), (33, 262), (34, 262), (35, 262), (36, 258), (37, 262), (38, 258), (39, 577), (40, 2), (41, 64), (42, 194), (43, 2), (44, 1537), (45, 2055)]
def hasF (op : Int) : Int := if (3 ≤ op ∧ op ≤ 16) ∨ op = 29 then 7 else if 23 ≤ op ∧ op ≤ 28 then 3 else (mget hasTable op).getD 0
def tellsF (m : Int) : Bool := (decide (3 ≤ m) && decide (m ≤ 8)) || decide (m = 20) || decide (m = 21)
/-- Two numbers' common bits. -/
def band (x y : Int) : Int := IntKind.i64.wrap (BitVec.ofInt IntKind.i64.bits x &&& BitVec.ofInt IntKind.i64.bits y).toNat
def fieldsA (i : Ins) (h : Int) : Bool := if band h 16 ≠ 0 then true else if band h 32 ≠ 0 then decide (i.n = 0 ∨ i.n = 1) else decide (0 ≤ i.n ∧ (band h 64 = 0 → i.n = 0))
def fieldsB (i : Ins) (h : Int) : Bool := if band h 128 ≠ 0 then decide (0 ≤ i.m ∧ i.m ≠ i.n) else if band h 2048 ≠ 0 then tellsF i.m && decide (i.m = 21 → i.b = 0) else decide (i.m = 0)
def fieldsF (i : Ins) (h : Int) : Bool := fieldsA i h && fieldsB i h
def fitF (h bit v : Int) : Bool := decide (0 ≤ v ∧ (band h bit = 0 → v = 0))
def argsF (i : Ins) (h : Int) : Bool := decide (((band h 512 = 0 → i.args.length = 0) ∧ (band h 1024 ≠ 0 → i.args.length ≠ 0) ∧ (i.op = 39 → i.args.length ≤ 8)) ∧ ∀ x ∈ i.args, 0 ≤ x)
def rightF (i : Ins) : Bool :=
  decide (hasF i.op ≠ 0) && fieldsF i (hasF i.op) && (fitF (hasF i.op) 1 i.dst && fitF (hasF i.op) 2 i.a && fitF (hasF i.op) 4 i.b && fitF (hasF i.op) 8 i.c && fitF (hasF i.op) 256 i.site) && argsF i (hasF i.op)
def defF (i : Ins) : Int := if rightF i = true ∧ band (hasF i.op) 1 ≠ 0 then i.dst else -1
end Go.Proofs.Ytnfkdilmoppbpaa

/- Who writes a name, as plain data. No program is in sight here. -/
namespace Go.Proofs.Ytnfkdilmoppbpaa
open Go.Ax

structure Wr where
  i : Ins
  block : Int
  is : Bool
def Ins.none : Ins := ⟨0, 0, 0, 0, 0, 0, 0, 0, []⟩
def Wr0 : Wr := ⟨Ins.none, 0, false⟩
def Wr.cs (w : Wr) : List AV := [num w.i.op, num w.i.dst, num w.i.a, num w.i.b, num w.i.c, num w.i.n, num w.i.m, num w.i.site, ints w.i.args, num w.block, tru w.is]

structure Names where
  ws : List Wr
  params : Int
def Names.cs (n : Names) : List AV := [.sl false 11 (n.ws.map Wr.cs), num n.params]
def namesA (n : Names) : AV := .pt n.cs
def ownNames (n : Names) : AV := .opt [.osl 11 (n.ws.map Wr.cs), num n.params]

def setW (ws : List Wr) (k : Nat) (i : Ins) : List Wr := if 0 ≤ defF i ∧ defF i < ws.length ∧ (ws.getD (defF i).toNat Wr0).is = false then ws.set (defF i).toNat ⟨i, k, true⟩ else ws
def blkW (ws : List Wr) (k : Nat) (b : List Ins) : Nat → List Wr
  | 0 => ws
  | j + 1 => match b[j]? with
    | some i => setW (blkW ws k b j) k i
    | none => blkW ws k b j
def outW (f : Fun) : Nat → List Wr
  | 0 => List.replicate f.regs.length Wr0
  | k + 1 => match f.blocks[k]? with
    | some b => blkW (outW f k) k b b.length
    | none => outW f k
def newF (f : Fun) : Names := ⟨outW f f.blocks.length, f.params⟩

theorem setW_len (ws : List Wr) (k : Nat) (i : Ins) : (setW ws k i).length = ws.length := by unfold setW; split <;> simp
theorem blkW_len (ws : List Wr) (k : Nat) (b : List Ins) (j : Nat) : (blkW ws k b j).length = ws.length := by
  induction j with
  | zero => rfl
  | succ j ih => unfold blkW; split <;> simp [setW_len, ih]
theorem outW_len (f : Fun) (k : Nat) : (outW f k).length = f.regs.length := by
  induction k with
  | zero => simp [outW]
  | succ k ih => unfold outW; split <;> simp [blkW_len, ih]
theorem blkW_succ {ws : List Wr} {k j : Nat} {b : List Ins} {i : Ins} (h : b[j]? = some i) : blkW ws k b (j + 1) = setW (blkW ws k b j) k i := by simp only [blkW, h]
theorem outW_succ {f : Fun} {k : Nat} {b : List Ins} (h : f.blocks[k]? = some b) : outW f (k + 1) = blkW (outW f k) k b b.length := by simp only [outW, h]

def Names.of (n : Names) (x : Int) : Wr := if 0 ≤ x ∧ x < n.ws.length then n.ws.getD x.toNat Wr0 else Wr0
def Names.block (n : Names) (x : Int) : Int := if (n.of x).is = true then (n.of x).block else if 0 ≤ x ∧ x < n.params ∧ x < n.ws.length then 0 else -1
/-- The names from one on, as far as there is fuel. -/
def Names.up (n : Names) : Nat → Int → List Int
  | 0, x => [x]
  | k + 1, x => if (n.of x).is = true ∧ ((n.of x).i.op = 23 ∨ (n.of x).i.op = 45) then x :: n.up k (n.of x).i.a else [x]
def Names.chain (n : Names) (x : Int) : List Int := if 0 ≤ x ∧ x < n.ws.length then n.up n.ws.length x else []
def Names.root (n : Names) (x : Int) : Int := (n.chain x).getLastD x
def Names.const (n : Names) (x : Int) : Int × Bool := if (n.of (n.root x)).is = true ∧ (n.of (n.root x)).i.op = 20 then ((n.of (n.root x)).i.n, true) else (0, false)
theorem up_len (n : Names) : ∀ (k : Nat) (x : Int), (n.up k x).length ≤ k + 1
  | 0, x => by simp [Names.up]
  | k + 1, x => by
    unfold Names.up
    split
    · have := up_len n k (n.of x).i.a; simp; omega
    · simp
theorem chain_len (n : Names) (x : Int) : (n.chain x).length ≤ n.ws.length + 1 := by
  unfold Names.chain; split
  · exact up_len _ _ _
  · simp
theorem newF_len (f : Fun) : (newF f).ws.length = f.regs.length := outW_len _ _
end Go.Proofs.Ytnfkdilmoppbpaa

/- What an instruction is, as the document's answer says it. No program is in sight here. -/
namespace Go.Proofs.Ytnfkdilmoppbpaa
open Go.Ax

def twoF (op : Int) : Bool := decide ((3 ≤ op ∧ op ≤ 16) ∨ op ∈ [(29 : Int), 32, 33, 34, 35, 37])
def oneF (op : Int) : Bool := decide (op ∈ [(23 : Int), 24, 25, 26, 27, 28, 31, 36, 38, 40, 42, 43])
def writesF (op : Int) : Bool := decide ((3 ≤ op ∧ op ≤ 16) ∨ (20 ≤ op ∧ op ≤ 29) ∨ op = 39 ∨ op = 44 ∨ op = 45)
def checkF (op : Int) : Bool := decide (31 ≤ op ∧ op ≤ 38)
def endsF (op : Int) : Bool := decide (41 ≤ op ∧ op ≤ 43)
def trapF (op : Int) : Int := if checkF op = true then (if op = 31 then 1 else if op = 32 then 2 else if op ≤ 36 then 3 else if op = 37 then 4 else 5) else 0
def fits0 (h : Bool) (n : Int) : Bool := decide (n = 0 ∨ (h = true ∧ 0 < n))
/-- Has an Op an A and a B? -/
def abF (op : Int) : Bool := twoF op || decide (op = 30 ∨ op = 45)
def bF (i : Ins) : Bool := abF i.op && decide (i.op ≠ 45 ∨ i.m ≠ 21)
def opF (op : Int) : Bool := decide (3 ≤ op ∧ op ≤ 45 ∧ ¬ (16 < op ∧ op < 20))
def fitsF (i : Ins) : Bool := fits0 (writesF i.op) i.dst && (fits0 (abF i.op || oneF i.op) i.a && (fits0 (bF i) i.b && (fits0 (decide (i.op = 30)) i.c && fits0 (checkF i.op) i.site)))
def tailA (i : Ins) : Bool :=
  if i.op = 20 then decide (i.m = 0)
  else if i.op = 21 then decide (i.m = 0 ∧ (i.n = 0 ∨ i.n = 1))
  else if i.op = 41 then decide (i.m = 0 ∧ 0 ≤ i.n)
  else if i.op = 42 then decide (0 ≤ i.m ∧ 0 ≤ i.n ∧ i.m ≠ i.n)
  else decide (i.n = 0 ∧ i.m = 0)
def tailF (i : Ins) : Bool :=
  if i.op = 39 then decide (0 ≤ i.n ∧ i.m = 0 ∧ i.args.length ≤ 8)
  else if i.op = 44 then decide (i.n = 0 ∧ i.m = 0 ∧ 1 ≤ i.args.length)
  else if i.op = 45 then decide (i.n = 0 ∧ ((3 ≤ i.m ∧ i.m ≤ 8) ∨ i.m = 20 ∨ i.m = 21) ∧ i.args.length = 0)
  else decide (i.args.length = 0) && tailA i
def right15 (i : Ins) : Bool := opF i.op && (fitsF i && (decide (∀ x ∈ i.args, 0 ≤ x) && tailF i))
def usesF (i : Ins) : List Int := if right15 i = true then (if abF i.op || oneF i.op then [i.a] else []) ++ ((if bF i then [i.b] else []) ++ ((if i.op = 30 then [i.c] else []) ++ i.args)) else []
def targetsF (i : Ins) : List Int := if right15 i = true ∧ i.op = 41 then [i.n] else if right15 i = true ∧ i.op = 42 then [i.n, i.m] else []
def def15 (i : Ins) : Int := if right15 i = true ∧ writesF i.op = true then i.dst else -1
theorem bF_eq (i : Ins) : bF i = (twoF i.op || (decide (i.op = 30) || (decide (i.op = 45) && !decide (i.m = 21)))) := by
  unfold bF abF twoF
  rw [Bool.eq_iff_iff]; simp; omega
theorem abF_eq (op : Int) : abF op = (twoF op || (decide (op = 30) || decide (op = 45))) := by
  unfold abF
  rw [Bool.eq_iff_iff]; simp
theorem usesF_len (i : Ins) : (usesF i).length ≤ i.args.length + 3 := by
  unfold usesF; split
  · simp only [List.length_append]; split <;> split <;> split <;> simp <;> omega
  · simp
attribute [irreducible] twoF oneF writesF checkF endsF fits0 abF bF opF
end Go.Proofs.Ytnfkdilmoppbpaa

/- What the program says an instruction is, and what the document says, are the same. No program is in sight here. -/
namespace Go.Proofs.Ytnfkdilmoppbpaa
open Go.Ax
set_option linter.unusedVariables false
set_option linter.unusedSimpArgs false

theorem hasF_zero {op : Int} (h : opF op = false) : hasF op = 0 := by
  unfold opF at h
  simp at h
  unfold hasF
  rw [if_neg (by omega), if_neg (by omega)]
  simp [hasTable, mget, show ¬ op = 20 by omega, show ¬ op = 21 by omega, show ¬ op = 22 by omega, show ¬ op = 30 by omega, show ¬ op = 31 by omega, show ¬ op = 32 by omega, show ¬ op = 33 by omega, show ¬ op = 34 by omega, show ¬ op = 35 by omega, show ¬ op = 36 by omega, show ¬ op = 37 by omega, show ¬ op = 38 by omega, show ¬ op = 39 by omega, show ¬ op = 40 by omega, show ¬ op = 41 by omega, show ¬ op = 42 by omega, show ¬ op = 43 by omega, show ¬ op = 44 by omega, show ¬ op = 45 by omega]
theorem bd1 : band 1 1 = 1 ∧ band 1 2 = 0 ∧ band 1 4 = 0 ∧ band 1 8 = 0 ∧ band 1 16 = 0 ∧ band 1 32 = 0 ∧ band 1 64 = 0 ∧ band 1 128 = 0 ∧ band 1 256 = 0 ∧ band 1 512 = 0 ∧ band 1 1024 = 0 ∧ band 1 2048 = 0 := by decide
theorem bd2 : band 2 1 = 0 ∧ band 2 2 = 2 ∧ band 2 4 = 0 ∧ band 2 8 = 0 ∧ band 2 16 = 0 ∧ band 2 32 = 0 ∧ band 2 64 = 0 ∧ band 2 128 = 0 ∧ band 2 256 = 0 ∧ band 2 512 = 0 ∧ band 2 1024 = 0 ∧ band 2 2048 = 0 := by decide
theorem bd3 : band 3 1 = 1 ∧ band 3 2 = 2 ∧ band 3 4 = 0 ∧ band 3 8 = 0 ∧ band 3 16 = 0 ∧ band 3 32 = 0 ∧ band 3 64 = 0 ∧ band 3 128 = 0 ∧ band 3 256 = 0 ∧ band 3 512 = 0 ∧ band 3 1024 = 0 ∧ band 3 2048 = 0 := by decide
theorem bd7 : band 7 1 = 1 ∧ band 7 2 = 2 ∧ band 7 4 = 4 ∧ band 7 8 = 0 ∧ band 7 16 = 0 ∧ band 7 32 = 0 ∧ band 7 64 = 0 ∧ band 7 128 = 0 ∧ band 7 256 = 0 ∧ band 7 512 = 0 ∧ band 7 1024 = 0 ∧ band 7 2048 = 0 := by decide
theorem bd14 : band 14 1 = 0 ∧ band 14 2 = 2 ∧ band 14 4 = 4 ∧ band 14 8 = 8 ∧ band 14 16 = 0 ∧ band 14 32 = 0 ∧ band 14 64 = 0 ∧ band 14 128 = 0 ∧ band 14 256 = 0 ∧ band 14 512 = 0 ∧ band 14 1024 = 0 ∧ band 14 2048 = 0 := by decide
theorem bd17 : band 17 1 = 1 ∧ band 17 2 = 0 ∧ band 17 4 = 0 ∧ band 17 8 = 0 ∧ band 17 16 = 16 ∧ band 17 32 = 0 ∧ band 17 64 = 0 ∧ band 17 128 = 0 ∧ band 17 256 = 0 ∧ band 17 512 = 0 ∧ band 17 1024 = 0 ∧ band 17 2048 = 0 := by decide
theorem bd33 : band 33 1 = 1 ∧ band 33 2 = 0 ∧ band 33 4 = 0 ∧ band 33 8 = 0 ∧ band 33 16 = 0 ∧ band 33 32 = 32 ∧ band 33 64 = 0 ∧ band 33 128 = 0 ∧ band 33 256 = 0 ∧ band 33 512 = 0 ∧ band 33 1024 = 0 ∧ band 33 2048 = 0 := by decide
theorem bd64 : band 64 1 = 0 ∧ band 64 2 = 0 ∧ band 64 4 = 0 ∧ band 64 8 = 0 ∧ band 64 16 = 0 ∧ band 64 32 = 0 ∧ band 64 64 = 64 ∧ band 64 128 = 0 ∧ band 64 256 = 0 ∧ band 64 512 = 0 ∧ band 64 1024 = 0 ∧ band 64 2048 = 0 := by decide
theorem bd194 : band 194 1 = 0 ∧ band 194 2 = 2 ∧ band 194 4 = 0 ∧ band 194 8 = 0 ∧ band 194 16 = 0 ∧ band 194 32 = 0 ∧ band 194 64 = 64 ∧ band 194 128 = 128 ∧ band 194 256 = 0 ∧ band 194 512 = 0 ∧ band 194 1024 = 0 ∧ band 194 2048 = 0 := by decide
theorem bd258 : band 258 1 = 0 ∧ band 258 2 = 2 ∧ band 258 4 = 0 ∧ band 258 8 = 0 ∧ band 258 16 = 0 ∧ band 258 32 = 0 ∧ band 258 64 = 0 ∧ band 258 128 = 0 ∧ band 258 256 = 256 ∧ band 258 512 = 0 ∧ band 258 1024 = 0 ∧ band 258 2048 = 0 := by decide
theorem bd262 : band 262 1 = 0 ∧ band 262 2 = 2 ∧ band 262 4 = 4 ∧ band 262 8 = 0 ∧ band 262 16 = 0 ∧ band 262 32 = 0 ∧ band 262 64 = 0 ∧ band 262 128 = 0 ∧ band 262 256 = 256 ∧ band 262 512 = 0 ∧ band 262 1024 = 0 ∧ band 262 2048 = 0 := by decide
theorem bd577 : band 577 1 = 1 ∧ band 577 2 = 0 ∧ band 577 4 = 0 ∧ band 577 8 = 0 ∧ band 577 16 = 0 ∧ band 577 32 = 0 ∧ band 577 64 = 64 ∧ band 577 128 = 0 ∧ band 577 256 = 0 ∧ band 577 512 = 512 ∧ band 577 1024 = 0 ∧ band 577 2048 = 0 := by decide
theorem bd1537 : band 1537 1 = 1 ∧ band 1537 2 = 0 ∧ band 1537 4 = 0 ∧ band 1537 8 = 0 ∧ band 1537 16 = 0 ∧ band 1537 32 = 0 ∧ band 1537 64 = 0 ∧ band 1537 128 = 0 ∧ band 1537 256 = 0 ∧ band 1537 512 = 512 ∧ band 1537 1024 = 1024 ∧ band 1537 2048 = 0 := by decide
theorem bd2055 : band 2055 1 = 1 ∧ band 2055 2 = 2 ∧ band 2055 4 = 4 ∧ band 2055 8 = 0 ∧ band 2055 16 = 0 ∧ band 2055 32 = 0 ∧ band 2055 64 = 0 ∧ band 2055 128 = 0 ∧ band 2055 256 = 0 ∧ band 2055 512 = 0 ∧ band 2055 1024 = 0 ∧ band 2055 2048 = 2048 := by decide
theorem right_of {i : Ins} {h : Int} {w t b s : Bool} (h0 : hasF i.op = h) (hne : h ≠ 0) (ho : opF i.op = true) (hw : writesF i.op = w) (ha : (abF i.op || oneF i.op) = t) (hb : bF i = b) (hs : checkF i.op = s) (e : (fieldsF i h && (fitF h 1 i.dst && fitF h 2 i.a && fitF h 4 i.b && fitF h 8 i.c && fitF h 256 i.site) && argsF i h) = (fits0 w i.dst && (fits0 t i.a && (fits0 b i.b && (fits0 (decide (i.op = 30)) i.c && fits0 s i.site))) && (decide (∀ x ∈ i.args, 0 ≤ x) && tailF i))) : rightF i = right15 i := by
  unfold rightF right15 fitsF
  rw [h0, ho, hw, ha, hb, hs, decide_eq_true hne, Bool.true_and, Bool.true_and, e]
theorem fits0_t (n : Int) : fits0 true n = decide (0 ≤ n) := by unfold fits0; rw [Bool.eq_iff_iff]; simp; omega
theorem fits0_f (n : Int) : fits0 false n = decide (n = 0) := by unfold fits0; simp
theorem len0 {l : List Int} : l.length = 0 → ∀ x ∈ l, 0 ≤ x := fun h => by rw [List.eq_nil_of_length_eq_zero h]; simp
theorem right_3 {i : Ins} (ho : 3 ≤ i.op ∧ i.op ≤ 16) : rightF i = right15 i := by
  have hb : bF i = true := by unfold bF abF twoF; rw [Bool.eq_iff_iff]; simp; omega
  refine right_of (h := 7) (by unfold hasF; rw [if_pos (by omega)]) (by decide) (by unfold opF; simp; omega) (w := true) (by unfold writesF; rw [Bool.eq_iff_iff]; simp; omega) (t := true) (by unfold abF oneF twoF; rw [Bool.eq_iff_iff]; simp; omega) hb (s := false) (by unfold checkF; rw [Bool.eq_iff_iff]; simp; omega) ?_
  obtain ⟨b1, b2, b4, b8, b16, b32, b64, b128, b256, b512, b1024, b2048⟩ := bd7
  simp only [Int.reduceEq, ↓reduceIte, decide_false, decide_true, fits0_t, fits0_f, fieldsF, fieldsA, fieldsB, fitF, argsF, tailF, tailA, tellsF, b1, b2, b4, b8, b16, b32, b64, b128, b256, b512, b1024, b2048, show ¬ i.op = 20 by omega, show ¬ i.op = 21 by omega, show ¬ i.op = 30 by omega, show ¬ i.op = 39 by omega, show ¬ i.op = 41 by omega, show ¬ i.op = 42 by omega, show ¬ i.op = 44 by omega, show ¬ i.op = 45 by omega]
  rw [Bool.eq_iff_iff]
  simp
  have l0 := @len0 i.args
  all_goals first | done | omega | (constructor <;> intro hh <;> simp_all <;> omega) | grind
theorem right_23 {i : Ins} (ho : 23 ≤ i.op ∧ i.op ≤ 28) : rightF i = right15 i := by
  have hb : bF i = false := by unfold bF abF twoF; rw [Bool.eq_iff_iff]; simp; omega
  refine right_of (h := 3) (by unfold hasF; rw [if_neg (by omega), if_pos (by omega)]) (by decide) (by unfold opF; simp; omega) (w := true) (by unfold writesF; rw [Bool.eq_iff_iff]; simp; omega) (t := true) (by unfold abF oneF twoF; rw [Bool.eq_iff_iff]; simp; omega) hb (s := false) (by unfold checkF; rw [Bool.eq_iff_iff]; simp; omega) ?_
  obtain ⟨b1, b2, b4, b8, b16, b32, b64, b128, b256, b512, b1024, b2048⟩ := bd3
  simp only [Int.reduceEq, ↓reduceIte, decide_false, decide_true, fits0_t, fits0_f, fieldsF, fieldsA, fieldsB, fitF, argsF, tailF, tailA, tellsF, b1, b2, b4, b8, b16, b32, b64, b128, b256, b512, b1024, b2048, show ¬ i.op = 20 by omega, show ¬ i.op = 21 by omega, show ¬ i.op = 30 by omega, show ¬ i.op = 39 by omega, show ¬ i.op = 41 by omega, show ¬ i.op = 42 by omega, show ¬ i.op = 44 by omega, show ¬ i.op = 45 by omega]
  rw [Bool.eq_iff_iff]
  simp
  have l0 := @len0 i.args
  all_goals first | done | omega | (constructor <;> intro hh <;> simp_all <;> omega) | grind
theorem right_20 {i : Ins} (ho : i.op = 20) : rightF i = right15 i := by
  have hb : bF i = false := by unfold bF abF twoF; rw [Bool.eq_iff_iff]; simp; omega
  refine right_of (h := 17) (by rw [ho]; decide) (by decide) (by unfold opF; simp; omega) (w := true) (by unfold writesF; rw [Bool.eq_iff_iff]; simp; omega) (t := false) (by unfold abF oneF twoF; rw [Bool.eq_iff_iff]; simp; omega) hb (s := false) (by unfold checkF; rw [Bool.eq_iff_iff]; simp; omega) ?_
  obtain ⟨b1, b2, b4, b8, b16, b32, b64, b128, b256, b512, b1024, b2048⟩ := bd17
  simp only [Int.reduceEq, ↓reduceIte, decide_false, decide_true, fits0_t, fits0_f, fieldsF, fieldsA, fieldsB, fitF, argsF, tailF, tailA, tellsF, b1, b2, b4, b8, b16, b32, b64, b128, b256, b512, b1024, b2048, show ¬ i.op = 21 by omega, show ¬ i.op = 30 by omega, show ¬ i.op = 39 by omega, show ¬ i.op = 41 by omega, show ¬ i.op = 42 by omega, show ¬ i.op = 44 by omega, show ¬ i.op = 45 by omega, ho]
  rw [Bool.eq_iff_iff]
  simp
  have l0 := @len0 i.args
  all_goals first | done | omega | (constructor <;> intro hh <;> simp_all <;> omega) | grind
theorem right_21 {i : Ins} (ho : i.op = 21) : rightF i = right15 i := by
  have hb : bF i = false := by unfold bF abF twoF; rw [Bool.eq_iff_iff]; simp; omega
  refine right_of (h := 33) (by rw [ho]; decide) (by decide) (by unfold opF; simp; omega) (w := true) (by unfold writesF; rw [Bool.eq_iff_iff]; simp; omega) (t := false) (by unfold abF oneF twoF; rw [Bool.eq_iff_iff]; simp; omega) hb (s := false) (by unfold checkF; rw [Bool.eq_iff_iff]; simp; omega) ?_
  obtain ⟨b1, b2, b4, b8, b16, b32, b64, b128, b256, b512, b1024, b2048⟩ := bd33
  simp only [Int.reduceEq, ↓reduceIte, decide_false, decide_true, fits0_t, fits0_f, fieldsF, fieldsA, fieldsB, fitF, argsF, tailF, tailA, tellsF, b1, b2, b4, b8, b16, b32, b64, b128, b256, b512, b1024, b2048, show ¬ i.op = 20 by omega, show ¬ i.op = 30 by omega, show ¬ i.op = 39 by omega, show ¬ i.op = 41 by omega, show ¬ i.op = 42 by omega, show ¬ i.op = 44 by omega, show ¬ i.op = 45 by omega, ho]
  rw [Bool.eq_iff_iff]
  simp
  have l0 := @len0 i.args
  all_goals first | done | omega | (constructor <;> intro hh <;> simp_all <;> omega) | grind
theorem right_22 {i : Ins} (ho : i.op = 22) : rightF i = right15 i := by
  have hb : bF i = false := by unfold bF abF twoF; rw [Bool.eq_iff_iff]; simp; omega
  refine right_of (h := 1) (by rw [ho]; decide) (by decide) (by unfold opF; simp; omega) (w := true) (by unfold writesF; rw [Bool.eq_iff_iff]; simp; omega) (t := false) (by unfold abF oneF twoF; rw [Bool.eq_iff_iff]; simp; omega) hb (s := false) (by unfold checkF; rw [Bool.eq_iff_iff]; simp; omega) ?_
  obtain ⟨b1, b2, b4, b8, b16, b32, b64, b128, b256, b512, b1024, b2048⟩ := bd1
  simp only [Int.reduceEq, ↓reduceIte, decide_false, decide_true, fits0_t, fits0_f, fieldsF, fieldsA, fieldsB, fitF, argsF, tailF, tailA, tellsF, b1, b2, b4, b8, b16, b32, b64, b128, b256, b512, b1024, b2048, show ¬ i.op = 20 by omega, show ¬ i.op = 21 by omega, show ¬ i.op = 30 by omega, show ¬ i.op = 39 by omega, show ¬ i.op = 41 by omega, show ¬ i.op = 42 by omega, show ¬ i.op = 44 by omega, show ¬ i.op = 45 by omega]
  rw [Bool.eq_iff_iff]
  simp
  have l0 := @len0 i.args
  all_goals first | done | omega | (constructor <;> intro hh <;> simp_all <;> omega) | grind
theorem right_29 {i : Ins} (ho : i.op = 29) : rightF i = right15 i := by
  have hb : bF i = true := by unfold bF abF twoF; rw [Bool.eq_iff_iff]; simp; omega
  refine right_of (h := 7) (by unfold hasF; rw [if_pos (by omega)]) (by decide) (by unfold opF; simp; omega) (w := true) (by unfold writesF; rw [Bool.eq_iff_iff]; simp; omega) (t := true) (by unfold abF oneF twoF; rw [Bool.eq_iff_iff]; simp; omega) hb (s := false) (by unfold checkF; rw [Bool.eq_iff_iff]; simp; omega) ?_
  obtain ⟨b1, b2, b4, b8, b16, b32, b64, b128, b256, b512, b1024, b2048⟩ := bd7
  simp only [Int.reduceEq, ↓reduceIte, decide_false, decide_true, fits0_t, fits0_f, fieldsF, fieldsA, fieldsB, fitF, argsF, tailF, tailA, tellsF, b1, b2, b4, b8, b16, b32, b64, b128, b256, b512, b1024, b2048, show ¬ i.op = 20 by omega, show ¬ i.op = 21 by omega, show ¬ i.op = 30 by omega, show ¬ i.op = 39 by omega, show ¬ i.op = 41 by omega, show ¬ i.op = 42 by omega, show ¬ i.op = 44 by omega, show ¬ i.op = 45 by omega]
  rw [Bool.eq_iff_iff]
  simp
  have l0 := @len0 i.args
  all_goals first | done | omega | (constructor <;> intro hh <;> simp_all <;> omega) | grind
theorem right_30 {i : Ins} (ho : i.op = 30) : rightF i = right15 i := by
  have hb : bF i = true := by unfold bF abF twoF; rw [Bool.eq_iff_iff]; simp; omega
  refine right_of (h := 14) (by rw [ho]; decide) (by decide) (by unfold opF; simp; omega) (w := false) (by unfold writesF; rw [Bool.eq_iff_iff]; simp; omega) (t := true) (by unfold abF oneF twoF; rw [Bool.eq_iff_iff]; simp; omega) hb (s := false) (by unfold checkF; rw [Bool.eq_iff_iff]; simp; omega) ?_
  obtain ⟨b1, b2, b4, b8, b16, b32, b64, b128, b256, b512, b1024, b2048⟩ := bd14
  simp only [Int.reduceEq, ↓reduceIte, decide_false, decide_true, fits0_t, fits0_f, fieldsF, fieldsA, fieldsB, fitF, argsF, tailF, tailA, tellsF, b1, b2, b4, b8, b16, b32, b64, b128, b256, b512, b1024, b2048, show ¬ i.op = 20 by omega, show ¬ i.op = 21 by omega, show ¬ i.op = 39 by omega, show ¬ i.op = 41 by omega, show ¬ i.op = 42 by omega, show ¬ i.op = 44 by omega, show ¬ i.op = 45 by omega, ho]
  rw [Bool.eq_iff_iff]
  simp
  have l0 := @len0 i.args
  all_goals first | done | omega | (constructor <;> intro hh <;> simp_all <;> omega) | grind
theorem right_31 {i : Ins} (ho : i.op = 31) : rightF i = right15 i := by
  have hb : bF i = false := by unfold bF abF twoF; rw [Bool.eq_iff_iff]; simp; omega
  refine right_of (h := 258) (by rw [ho]; decide) (by decide) (by unfold opF; simp; omega) (w := false) (by unfold writesF; rw [Bool.eq_iff_iff]; simp; omega) (t := true) (by unfold abF oneF twoF; rw [Bool.eq_iff_iff]; simp; omega) hb (s := true) (by unfold checkF; rw [Bool.eq_iff_iff]; simp; omega) ?_
  obtain ⟨b1, b2, b4, b8, b16, b32, b64, b128, b256, b512, b1024, b2048⟩ := bd258
  simp only [Int.reduceEq, ↓reduceIte, decide_false, decide_true, fits0_t, fits0_f, fieldsF, fieldsA, fieldsB, fitF, argsF, tailF, tailA, tellsF, b1, b2, b4, b8, b16, b32, b64, b128, b256, b512, b1024, b2048, show ¬ i.op = 20 by omega, show ¬ i.op = 21 by omega, show ¬ i.op = 30 by omega, show ¬ i.op = 39 by omega, show ¬ i.op = 41 by omega, show ¬ i.op = 42 by omega, show ¬ i.op = 44 by omega, show ¬ i.op = 45 by omega]
  rw [Bool.eq_iff_iff]
  simp
  have l0 := @len0 i.args
  all_goals first | done | omega | (constructor <;> intro hh <;> simp_all <;> omega) | grind
theorem right_32 {i : Ins} (ho : i.op = 32) : rightF i = right15 i := by
  have hb : bF i = true := by unfold bF abF twoF; rw [Bool.eq_iff_iff]; simp; omega
  refine right_of (h := 262) (by rw [ho]; decide) (by decide) (by unfold opF; simp; omega) (w := false) (by unfold writesF; rw [Bool.eq_iff_iff]; simp; omega) (t := true) (by unfold abF oneF twoF; rw [Bool.eq_iff_iff]; simp; omega) hb (s := true) (by unfold checkF; rw [Bool.eq_iff_iff]; simp; omega) ?_
  obtain ⟨b1, b2, b4, b8, b16, b32, b64, b128, b256, b512, b1024, b2048⟩ := bd262
  simp only [Int.reduceEq, ↓reduceIte, decide_false, decide_true, fits0_t, fits0_f, fieldsF, fieldsA, fieldsB, fitF, argsF, tailF, tailA, tellsF, b1, b2, b4, b8, b16, b32, b64, b128, b256, b512, b1024, b2048, show ¬ i.op = 20 by omega, show ¬ i.op = 21 by omega, show ¬ i.op = 30 by omega, show ¬ i.op = 39 by omega, show ¬ i.op = 41 by omega, show ¬ i.op = 42 by omega, show ¬ i.op = 44 by omega, show ¬ i.op = 45 by omega]
  rw [Bool.eq_iff_iff]
  simp
  have l0 := @len0 i.args
  all_goals first | done | omega | (constructor <;> intro hh <;> simp_all <;> omega) | grind
theorem right_33 {i : Ins} (ho : i.op = 33) : rightF i = right15 i := by
  have hb : bF i = true := by unfold bF abF twoF; rw [Bool.eq_iff_iff]; simp; omega
  refine right_of (h := 262) (by rw [ho]; decide) (by decide) (by unfold opF; simp; omega) (w := false) (by unfold writesF; rw [Bool.eq_iff_iff]; simp; omega) (t := true) (by unfold abF oneF twoF; rw [Bool.eq_iff_iff]; simp; omega) hb (s := true) (by unfold checkF; rw [Bool.eq_iff_iff]; simp; omega) ?_
  obtain ⟨b1, b2, b4, b8, b16, b32, b64, b128, b256, b512, b1024, b2048⟩ := bd262
  simp only [Int.reduceEq, ↓reduceIte, decide_false, decide_true, fits0_t, fits0_f, fieldsF, fieldsA, fieldsB, fitF, argsF, tailF, tailA, tellsF, b1, b2, b4, b8, b16, b32, b64, b128, b256, b512, b1024, b2048, show ¬ i.op = 20 by omega, show ¬ i.op = 21 by omega, show ¬ i.op = 30 by omega, show ¬ i.op = 39 by omega, show ¬ i.op = 41 by omega, show ¬ i.op = 42 by omega, show ¬ i.op = 44 by omega, show ¬ i.op = 45 by omega]
  rw [Bool.eq_iff_iff]
  simp
  have l0 := @len0 i.args
  all_goals first | done | omega | (constructor <;> intro hh <;> simp_all <;> omega) | grind
theorem right_34 {i : Ins} (ho : i.op = 34) : rightF i = right15 i := by
  have hb : bF i = true := by unfold bF abF twoF; rw [Bool.eq_iff_iff]; simp; omega
  refine right_of (h := 262) (by rw [ho]; decide) (by decide) (by unfold opF; simp; omega) (w := false) (by unfold writesF; rw [Bool.eq_iff_iff]; simp; omega) (t := true) (by unfold abF oneF twoF; rw [Bool.eq_iff_iff]; simp; omega) hb (s := true) (by unfold checkF; rw [Bool.eq_iff_iff]; simp; omega) ?_
  obtain ⟨b1, b2, b4, b8, b16, b32, b64, b128, b256, b512, b1024, b2048⟩ := bd262
  simp only [Int.reduceEq, ↓reduceIte, decide_false, decide_true, fits0_t, fits0_f, fieldsF, fieldsA, fieldsB, fitF, argsF, tailF, tailA, tellsF, b1, b2, b4, b8, b16, b32, b64, b128, b256, b512, b1024, b2048, show ¬ i.op = 20 by omega, show ¬ i.op = 21 by omega, show ¬ i.op = 30 by omega, show ¬ i.op = 39 by omega, show ¬ i.op = 41 by omega, show ¬ i.op = 42 by omega, show ¬ i.op = 44 by omega, show ¬ i.op = 45 by omega]
  rw [Bool.eq_iff_iff]
  simp
  have l0 := @len0 i.args
  all_goals first | done | omega | (constructor <;> intro hh <;> simp_all <;> omega) | grind
theorem right_35 {i : Ins} (ho : i.op = 35) : rightF i = right15 i := by
  have hb : bF i = true := by unfold bF abF twoF; rw [Bool.eq_iff_iff]; simp; omega
  refine right_of (h := 262) (by rw [ho]; decide) (by decide) (by unfold opF; simp; omega) (w := false) (by unfold writesF; rw [Bool.eq_iff_iff]; simp; omega) (t := true) (by unfold abF oneF twoF; rw [Bool.eq_iff_iff]; simp; omega) hb (s := true) (by unfold checkF; rw [Bool.eq_iff_iff]; simp; omega) ?_
  obtain ⟨b1, b2, b4, b8, b16, b32, b64, b128, b256, b512, b1024, b2048⟩ := bd262
  simp only [Int.reduceEq, ↓reduceIte, decide_false, decide_true, fits0_t, fits0_f, fieldsF, fieldsA, fieldsB, fitF, argsF, tailF, tailA, tellsF, b1, b2, b4, b8, b16, b32, b64, b128, b256, b512, b1024, b2048, show ¬ i.op = 20 by omega, show ¬ i.op = 21 by omega, show ¬ i.op = 30 by omega, show ¬ i.op = 39 by omega, show ¬ i.op = 41 by omega, show ¬ i.op = 42 by omega, show ¬ i.op = 44 by omega, show ¬ i.op = 45 by omega]
  rw [Bool.eq_iff_iff]
  simp
  have l0 := @len0 i.args
  all_goals first | done | omega | (constructor <;> intro hh <;> simp_all <;> omega) | grind
theorem right_36 {i : Ins} (ho : i.op = 36) : rightF i = right15 i := by
  have hb : bF i = false := by unfold bF abF twoF; rw [Bool.eq_iff_iff]; simp; omega
  refine right_of (h := 258) (by rw [ho]; decide) (by decide) (by unfold opF; simp; omega) (w := false) (by unfold writesF; rw [Bool.eq_iff_iff]; simp; omega) (t := true) (by unfold abF oneF twoF; rw [Bool.eq_iff_iff]; simp; omega) hb (s := true) (by unfold checkF; rw [Bool.eq_iff_iff]; simp; omega) ?_
  obtain ⟨b1, b2, b4, b8, b16, b32, b64, b128, b256, b512, b1024, b2048⟩ := bd258
  simp only [Int.reduceEq, ↓reduceIte, decide_false, decide_true, fits0_t, fits0_f, fieldsF, fieldsA, fieldsB, fitF, argsF, tailF, tailA, tellsF, b1, b2, b4, b8, b16, b32, b64, b128, b256, b512, b1024, b2048, show ¬ i.op = 20 by omega, show ¬ i.op = 21 by omega, show ¬ i.op = 30 by omega, show ¬ i.op = 39 by omega, show ¬ i.op = 41 by omega, show ¬ i.op = 42 by omega, show ¬ i.op = 44 by omega, show ¬ i.op = 45 by omega]
  rw [Bool.eq_iff_iff]
  simp
  have l0 := @len0 i.args
  all_goals first | done | omega | (constructor <;> intro hh <;> simp_all <;> omega) | grind
theorem right_37 {i : Ins} (ho : i.op = 37) : rightF i = right15 i := by
  have hb : bF i = true := by unfold bF abF twoF; rw [Bool.eq_iff_iff]; simp; omega
  refine right_of (h := 262) (by rw [ho]; decide) (by decide) (by unfold opF; simp; omega) (w := false) (by unfold writesF; rw [Bool.eq_iff_iff]; simp; omega) (t := true) (by unfold abF oneF twoF; rw [Bool.eq_iff_iff]; simp; omega) hb (s := true) (by unfold checkF; rw [Bool.eq_iff_iff]; simp; omega) ?_
  obtain ⟨b1, b2, b4, b8, b16, b32, b64, b128, b256, b512, b1024, b2048⟩ := bd262
  simp only [Int.reduceEq, ↓reduceIte, decide_false, decide_true, fits0_t, fits0_f, fieldsF, fieldsA, fieldsB, fitF, argsF, tailF, tailA, tellsF, b1, b2, b4, b8, b16, b32, b64, b128, b256, b512, b1024, b2048, show ¬ i.op = 20 by omega, show ¬ i.op = 21 by omega, show ¬ i.op = 30 by omega, show ¬ i.op = 39 by omega, show ¬ i.op = 41 by omega, show ¬ i.op = 42 by omega, show ¬ i.op = 44 by omega, show ¬ i.op = 45 by omega]
  rw [Bool.eq_iff_iff]
  simp
  have l0 := @len0 i.args
  all_goals first | done | omega | (constructor <;> intro hh <;> simp_all <;> omega) | grind
theorem right_38 {i : Ins} (ho : i.op = 38) : rightF i = right15 i := by
  have hb : bF i = false := by unfold bF abF twoF; rw [Bool.eq_iff_iff]; simp; omega
  refine right_of (h := 258) (by rw [ho]; decide) (by decide) (by unfold opF; simp; omega) (w := false) (by unfold writesF; rw [Bool.eq_iff_iff]; simp; omega) (t := true) (by unfold abF oneF twoF; rw [Bool.eq_iff_iff]; simp; omega) hb (s := true) (by unfold checkF; rw [Bool.eq_iff_iff]; simp; omega) ?_
  obtain ⟨b1, b2, b4, b8, b16, b32, b64, b128, b256, b512, b1024, b2048⟩ := bd258
  simp only [Int.reduceEq, ↓reduceIte, decide_false, decide_true, fits0_t, fits0_f, fieldsF, fieldsA, fieldsB, fitF, argsF, tailF, tailA, tellsF, b1, b2, b4, b8, b16, b32, b64, b128, b256, b512, b1024, b2048, show ¬ i.op = 20 by omega, show ¬ i.op = 21 by omega, show ¬ i.op = 30 by omega, show ¬ i.op = 39 by omega, show ¬ i.op = 41 by omega, show ¬ i.op = 42 by omega, show ¬ i.op = 44 by omega, show ¬ i.op = 45 by omega]
  rw [Bool.eq_iff_iff]
  simp
  have l0 := @len0 i.args
  all_goals first | done | omega | (constructor <;> intro hh <;> simp_all <;> omega) | grind
theorem right_39 {i : Ins} (ho : i.op = 39) : rightF i = right15 i := by
  have hb : bF i = false := by unfold bF abF twoF; rw [Bool.eq_iff_iff]; simp; omega
  refine right_of (h := 577) (by rw [ho]; decide) (by decide) (by unfold opF; simp; omega) (w := true) (by unfold writesF; rw [Bool.eq_iff_iff]; simp; omega) (t := false) (by unfold abF oneF twoF; rw [Bool.eq_iff_iff]; simp; omega) hb (s := false) (by unfold checkF; rw [Bool.eq_iff_iff]; simp; omega) ?_
  obtain ⟨b1, b2, b4, b8, b16, b32, b64, b128, b256, b512, b1024, b2048⟩ := bd577
  simp only [Int.reduceEq, ↓reduceIte, decide_false, decide_true, fits0_t, fits0_f, fieldsF, fieldsA, fieldsB, fitF, argsF, tailF, tailA, tellsF, b1, b2, b4, b8, b16, b32, b64, b128, b256, b512, b1024, b2048, show ¬ i.op = 20 by omega, show ¬ i.op = 21 by omega, show ¬ i.op = 30 by omega, show ¬ i.op = 41 by omega, show ¬ i.op = 42 by omega, show ¬ i.op = 44 by omega, show ¬ i.op = 45 by omega, ho]
  rw [Bool.eq_iff_iff]
  simp
  have l0 := @len0 i.args
  all_goals first | done | omega | (constructor <;> intro hh <;> simp_all <;> omega) | grind
theorem right_40 {i : Ins} (ho : i.op = 40) : rightF i = right15 i := by
  have hb : bF i = false := by unfold bF abF twoF; rw [Bool.eq_iff_iff]; simp; omega
  refine right_of (h := 2) (by rw [ho]; decide) (by decide) (by unfold opF; simp; omega) (w := false) (by unfold writesF; rw [Bool.eq_iff_iff]; simp; omega) (t := true) (by unfold abF oneF twoF; rw [Bool.eq_iff_iff]; simp; omega) hb (s := false) (by unfold checkF; rw [Bool.eq_iff_iff]; simp; omega) ?_
  obtain ⟨b1, b2, b4, b8, b16, b32, b64, b128, b256, b512, b1024, b2048⟩ := bd2
  simp only [Int.reduceEq, ↓reduceIte, decide_false, decide_true, fits0_t, fits0_f, fieldsF, fieldsA, fieldsB, fitF, argsF, tailF, tailA, tellsF, b1, b2, b4, b8, b16, b32, b64, b128, b256, b512, b1024, b2048, show ¬ i.op = 20 by omega, show ¬ i.op = 21 by omega, show ¬ i.op = 30 by omega, show ¬ i.op = 39 by omega, show ¬ i.op = 41 by omega, show ¬ i.op = 42 by omega, show ¬ i.op = 44 by omega, show ¬ i.op = 45 by omega]
  rw [Bool.eq_iff_iff]
  simp
  have l0 := @len0 i.args
  all_goals first | done | omega | (constructor <;> intro hh <;> simp_all <;> omega) | grind
theorem right_41 {i : Ins} (ho : i.op = 41) : rightF i = right15 i := by
  have hb : bF i = false := by unfold bF abF twoF; rw [Bool.eq_iff_iff]; simp; omega
  refine right_of (h := 64) (by rw [ho]; decide) (by decide) (by unfold opF; simp; omega) (w := false) (by unfold writesF; rw [Bool.eq_iff_iff]; simp; omega) (t := false) (by unfold abF oneF twoF; rw [Bool.eq_iff_iff]; simp; omega) hb (s := false) (by unfold checkF; rw [Bool.eq_iff_iff]; simp; omega) ?_
  obtain ⟨b1, b2, b4, b8, b16, b32, b64, b128, b256, b512, b1024, b2048⟩ := bd64
  simp only [Int.reduceEq, ↓reduceIte, decide_false, decide_true, fits0_t, fits0_f, fieldsF, fieldsA, fieldsB, fitF, argsF, tailF, tailA, tellsF, b1, b2, b4, b8, b16, b32, b64, b128, b256, b512, b1024, b2048, show ¬ i.op = 20 by omega, show ¬ i.op = 21 by omega, show ¬ i.op = 30 by omega, show ¬ i.op = 39 by omega, show ¬ i.op = 42 by omega, show ¬ i.op = 44 by omega, show ¬ i.op = 45 by omega, ho]
  rw [Bool.eq_iff_iff]
  simp
  have l0 := @len0 i.args
  all_goals first | done | omega | (constructor <;> intro hh <;> simp_all <;> omega) | grind
theorem right_42 {i : Ins} (ho : i.op = 42) : rightF i = right15 i := by
  have hb : bF i = false := by unfold bF abF twoF; rw [Bool.eq_iff_iff]; simp; omega
  refine right_of (h := 194) (by rw [ho]; decide) (by decide) (by unfold opF; simp; omega) (w := false) (by unfold writesF; rw [Bool.eq_iff_iff]; simp; omega) (t := true) (by unfold abF oneF twoF; rw [Bool.eq_iff_iff]; simp; omega) hb (s := false) (by unfold checkF; rw [Bool.eq_iff_iff]; simp; omega) ?_
  obtain ⟨b1, b2, b4, b8, b16, b32, b64, b128, b256, b512, b1024, b2048⟩ := bd194
  simp only [Int.reduceEq, ↓reduceIte, decide_false, decide_true, fits0_t, fits0_f, fieldsF, fieldsA, fieldsB, fitF, argsF, tailF, tailA, tellsF, b1, b2, b4, b8, b16, b32, b64, b128, b256, b512, b1024, b2048, show ¬ i.op = 20 by omega, show ¬ i.op = 21 by omega, show ¬ i.op = 30 by omega, show ¬ i.op = 39 by omega, show ¬ i.op = 41 by omega, show ¬ i.op = 44 by omega, show ¬ i.op = 45 by omega, ho]
  rw [Bool.eq_iff_iff]
  simp
  have l0 := @len0 i.args
  all_goals first | done | omega | (constructor <;> intro hh <;> simp_all <;> omega) | grind
theorem right_43 {i : Ins} (ho : i.op = 43) : rightF i = right15 i := by
  have hb : bF i = false := by unfold bF abF twoF; rw [Bool.eq_iff_iff]; simp; omega
  refine right_of (h := 2) (by rw [ho]; decide) (by decide) (by unfold opF; simp; omega) (w := false) (by unfold writesF; rw [Bool.eq_iff_iff]; simp; omega) (t := true) (by unfold abF oneF twoF; rw [Bool.eq_iff_iff]; simp; omega) hb (s := false) (by unfold checkF; rw [Bool.eq_iff_iff]; simp; omega) ?_
  obtain ⟨b1, b2, b4, b8, b16, b32, b64, b128, b256, b512, b1024, b2048⟩ := bd2
  simp only [Int.reduceEq, ↓reduceIte, decide_false, decide_true, fits0_t, fits0_f, fieldsF, fieldsA, fieldsB, fitF, argsF, tailF, tailA, tellsF, b1, b2, b4, b8, b16, b32, b64, b128, b256, b512, b1024, b2048, show ¬ i.op = 20 by omega, show ¬ i.op = 21 by omega, show ¬ i.op = 30 by omega, show ¬ i.op = 39 by omega, show ¬ i.op = 41 by omega, show ¬ i.op = 42 by omega, show ¬ i.op = 44 by omega, show ¬ i.op = 45 by omega]
  rw [Bool.eq_iff_iff]
  simp
  have l0 := @len0 i.args
  all_goals first | done | omega | (constructor <;> intro hh <;> simp_all <;> omega) | grind
theorem right_44 {i : Ins} (ho : i.op = 44) : rightF i = right15 i := by
  have hb : bF i = false := by unfold bF abF twoF; rw [Bool.eq_iff_iff]; simp; omega
  refine right_of (h := 1537) (by rw [ho]; decide) (by decide) (by unfold opF; simp; omega) (w := true) (by unfold writesF; rw [Bool.eq_iff_iff]; simp; omega) (t := false) (by unfold abF oneF twoF; rw [Bool.eq_iff_iff]; simp; omega) hb (s := false) (by unfold checkF; rw [Bool.eq_iff_iff]; simp; omega) ?_
  obtain ⟨b1, b2, b4, b8, b16, b32, b64, b128, b256, b512, b1024, b2048⟩ := bd1537
  simp only [Int.reduceEq, ↓reduceIte, decide_false, decide_true, fits0_t, fits0_f, fieldsF, fieldsA, fieldsB, fitF, argsF, tailF, tailA, tellsF, b1, b2, b4, b8, b16, b32, b64, b128, b256, b512, b1024, b2048, show ¬ i.op = 20 by omega, show ¬ i.op = 21 by omega, show ¬ i.op = 30 by omega, show ¬ i.op = 39 by omega, show ¬ i.op = 41 by omega, show ¬ i.op = 42 by omega, show ¬ i.op = 45 by omega, ho]
  rw [Bool.eq_iff_iff]
  simp
  have l0 := @len0 i.args
  all_goals first | done | omega | (constructor <;> intro hh <;> simp_all <;> omega) | grind
theorem right_45 {i : Ins} (ho : i.op = 45) : rightF i = right15 i := by
  have hb : bF i = decide (i.m ≠ 21) := by unfold bF abF; rw [ho]; unfold twoF; rw [Bool.eq_iff_iff]; simp
  refine right_of (h := 2055) (by rw [ho]; decide) (by decide) (by unfold opF; simp; omega) (w := true) (by unfold writesF; rw [Bool.eq_iff_iff]; simp; omega) (t := true) (by unfold abF oneF twoF; rw [Bool.eq_iff_iff]; simp; omega) hb (s := false) (by unfold checkF; rw [Bool.eq_iff_iff]; simp; omega) ?_
  obtain ⟨b1, b2, b4, b8, b16, b32, b64, b128, b256, b512, b1024, b2048⟩ := bd2055
  have hf : fits0 (decide (i.m ≠ 21)) i.b = decide (0 ≤ i.b ∧ (i.m = 21 → i.b = 0)) := by unfold fits0; rw [Bool.eq_iff_iff]; simp; omega
  rw [hf]
  simp only [Int.reduceEq, ↓reduceIte, decide_false, decide_true, fits0_t, fits0_f, fieldsF, fieldsA, fieldsB, fitF, argsF, tailF, tailA, tellsF, b1, b2, b4, b8, b16, b32, b64, b128, b256, b512, b1024, b2048, show ¬ i.op = 20 by omega, show ¬ i.op = 21 by omega, show ¬ i.op = 30 by omega, show ¬ i.op = 39 by omega, show ¬ i.op = 41 by omega, show ¬ i.op = 42 by omega, show ¬ i.op = 44 by omega, ho]
  rw [Bool.eq_iff_iff]
  simp
  have l0 := @len0 i.args
  all_goals first | done | omega | (constructor <;> intro hh <;> simp_all <;> omega) | grind
theorem right_eq (i : Ins) : rightF i = right15 i := by
  cases ho : opF i.op with
  | false => unfold rightF right15; rw [hasF_zero ho, ho]; rfl
  | true =>
    unfold opF at ho
    simp at ho
    have : (3 ≤ i.op ∧ i.op ≤ 16) ∨ (23 ≤ i.op ∧ i.op ≤ 28) ∨ i.op = 20 ∨ i.op = 21 ∨ i.op = 22 ∨ i.op = 29 ∨ i.op = 30 ∨ i.op = 31 ∨ i.op = 32 ∨ i.op = 33 ∨ i.op = 34 ∨ i.op = 35 ∨ i.op = 36 ∨ i.op = 37 ∨ i.op = 38 ∨ i.op = 39 ∨ i.op = 40 ∨ i.op = 41 ∨ i.op = 42 ∨ i.op = 43 ∨ i.op = 44 ∨ i.op = 45 := by omega
    rcases this with h | h | h | h | h | h | h | h | h | h | h | h | h | h | h | h | h | h | h | h | h | h
    · exact right_3 h
    · exact right_23 h
    · exact right_20 h
    · exact right_21 h
    · exact right_22 h
    · exact right_29 h
    · exact right_30 h
    · exact right_31 h
    · exact right_32 h
    · exact right_33 h
    · exact right_34 h
    · exact right_35 h
    · exact right_36 h
    · exact right_37 h
    · exact right_38 h
    · exact right_39 h
    · exact right_40 h
    · exact right_41 h
    · exact right_42 h
    · exact right_43 h
    · exact right_44 h
    · exact right_45 h
theorem def_eq (i : Ins) : defF i = def15 i := by
  unfold defF def15
  rw [right_eq]
  cases hr : right15 i with
  | false => simp
  | true =>
    have ho : opF i.op = true := by unfold right15 at hr; simp at hr; exact hr.1
    have : (band (hasF i.op) 1 ≠ 0) ↔ writesF i.op = true := by
      unfold opF at ho
      simp at ho
      have hh : (3 ≤ i.op ∧ i.op ≤ 16) ∨ (23 ≤ i.op ∧ i.op ≤ 28) ∨ i.op = 20 ∨ i.op = 21 ∨ i.op = 22 ∨ i.op = 29 ∨ i.op = 30 ∨ i.op = 31 ∨ i.op = 32 ∨ i.op = 33 ∨ i.op = 34 ∨ i.op = 35 ∨ i.op = 36 ∨ i.op = 37 ∨ i.op = 38 ∨ i.op = 39 ∨ i.op = 40 ∨ i.op = 41 ∨ i.op = 42 ∨ i.op = 43 ∨ i.op = 44 ∨ i.op = 45 := by omega
      unfold writesF
      rcases hh with h | h | h | h | h | h | h | h | h | h | h | h | h | h | h | h | h | h | h | h | h | h
      · rw [show hasF i.op = 7 by unfold hasF; rw [if_pos (by omega)], bd7.1]; simp; omega
      · rw [show hasF i.op = 3 by unfold hasF; rw [if_neg (by omega), if_pos (by omega)], bd3.1]; simp; omega
      all_goals (rw [h]; decide)
    simp [this]
end Go.Proofs.Ytnfkdilmoppbpaa

/- Blocks and where they go, as the document's answer says it. No program is in sight here. -/
namespace Go.Proofs.Ytnfkdilmoppbpaa
open Go.Ax

def lst (l : List Int) : List AV := [ints l]
def olst (l : List Int) : List AV := [.osl 1 (l.map int1)]
def below (n : Nat) (l : List Int) : List Int := l.filter (fun t => decide (t < (n : Int)))
def succ1 (n : Nat) (b : List Ins) : List Int := match b[b.length - 1]? with
  | some i => below n (targetsF i)
  | none => []
def succsF (f : Fun) : List (List Int) := f.blocks.map (succ1 f.blocks.length)
theorem targetsF_len (i : Ins) : (targetsF i).length ≤ 2 := by unfold targetsF; split <;> (try split) <;> simp
theorem succsF_len (f : Fun) : (succsF f).length = f.blocks.length := by unfold succsF; simp
/-- What is reached without a block. -/
inductive Reaches (s : List (List Int)) (x : Int) : Int → Prop
  | zero : s ≠ [] → x ≠ 0 → Reaches s x 0
  | step {k : Nat} {t : Int} {l : List Int} : Reaches s x k → s[k]? = some l → t ∈ l → t ≠ x → Reaches s x t
/-- All that is gone to is there. -/
def Closed (s : List (List Int)) : Prop := ∀ l ∈ s, ∀ t ∈ l, 0 ≤ t ∧ t < s.length
theorem targetsF_pos (i : Ins) : ∀ t ∈ targetsF i, 0 ≤ t := by
  intro t ht
  unfold targetsF at ht
  split at ht
  · rename_i h
    unfold right15 tailF tailA at h
    simp at ht
    simp [h.2] at h
    omega
  · split at ht
    · rename_i h
      unfold right15 tailF tailA at h
      simp at ht
      simp [h.2] at h
      omega
    · simp at ht
theorem succsF_closed (f : Fun) : Closed (succsF f) := by
  intro l hl t ht
  rw [succsF_len]
  unfold succsF at hl
  obtain ⟨b, _, rfl⟩ := List.mem_map.1 hl
  unfold succ1 at ht
  split at ht
  · unfold below at ht
    obtain ⟨h1, h2⟩ := List.mem_filter.1 ht
    exact ⟨targetsF_pos _ _ h1, by simpa using h2⟩
  · simp at ht
theorem Reaches.lt {s : List (List Int)} {x t : Int} (hs : Closed s) (h : Reaches s x t) : 0 ≤ t ∧ t < s.length := by
  cases h with
  | zero h _ => have := List.length_pos_iff.2 h; omega
  | step _ hl ht _ => exact hs _ (List.mem_of_getElem? hl) _ ht

def tb (b : Bool) : List AV := [tru b]
/-- How many are not marked. -/
def falses (l : List Bool) : Nat := l.count false
/-- What is marked is reached. -/
def Sound (s : List (List Int)) (x : Int) (l : List Bool) : Prop := l.length = s.length ∧ ∀ t : Nat, l[t]? = some true → Reaches s x t
/-- These are the marks of what is reached. -/
def Marks (s : List (List Int)) (x : Int) (l : List Bool) : Prop := l.length = s.length ∧ ∀ t : Nat, l[t]? = some true ↔ Reaches s x t
theorem falses_set {l : List Bool} {t : Nat} (h : l[t]? = some false) : falses (l.set t true) < falses l := by
  unfold falses
  induction l generalizing t with
  | nil => simp at h
  | cons a l ih =>
    cases t with
    | zero => simp at h; subst h; simp
    | succ t =>
      simp at h
      have := ih h
      simp only [List.set_cons_succ, List.count_cons]; omega
theorem Sound.set {s : List (List Int)} {x : Int} {l : List Bool} {t : Nat} (h : Sound s x l) (ht : Reaches s x t) : Sound s x (l.set t true) := by
  refine ⟨by rw [List.length_set]; exact h.1, fun u hu => ?_⟩
  rw [List.getElem?_set] at hu
  split at hu
  · rename_i e; subst e; exact ht
  · exact h.2 u hu
/-- All ways from what is marked, up to one, lead to what is marked. -/
def Shut (s : List (List Int)) (x : Int) (l : List Bool) (k j : Nat) : Prop := ∀ (a : Nat) (r : List Int) (b : Nat) (t : Int), s[a]? = some r → r[b]? = some t → (a < k ∨ (a = k ∧ b < j)) → l[a]? = some true → t ≠ x → l[t.toNat]? = some true
theorem marks_of {s : List (List Int)} {x : Int} {l : List Bool} (hs : Closed s) (h : Sound s x l) (h0 : s ≠ [] → x ≠ 0 → l[0]? = some true) (hc : Shut s x l s.length 0) : Marks s x l := by
  refine ⟨h.1, fun t => ⟨h.2 t, fun ht => ?_⟩⟩
  have key : ∀ u : Int, Reaches s x u → l[u.toNat]? = some true := by
    intro u hu
    induction hu with
    | zero a b => exact h0 a b
    | step hk hl ht hne ih =>
      obtain ⟨b, hb⟩ := List.getElem?_of_mem ht
      refine hc _ _ b _ hl hb (.inl ?_) (by simpa using ih) hne
      exact (List.getElem?_eq_some_iff.1 hl).1
  simpa using key _ ht
end Go.Proofs.Ytnfkdilmoppbpaa

/- Marks of what is reached: how they grow. No program is in sight here. -/
namespace Go.Proofs.Ytnfkdilmoppbpaa
open Go.Ax
theorem set_keep {l : List Bool} {t u : Nat} (h : l[u]? = some true) : (l.set t true)[u]? = some true := by
  rw [List.getElem?_set]
  have hu := (List.getElem?_eq_some_iff.1 h).1
  split
  · rename_i e; subst e; rw [if_pos hu]
  · exact h
theorem Shut.zero {s : List (List Int)} {x : Int} {l : List Bool} : Shut s x l 0 0 := fun a r b t _ _ h => by omega
theorem Shut.step {s : List (List Int)} {x : Int} {l : List Bool} {k j : Nat} {r : List Int} {t : Int} (h : Shut s x l k j) (hr : s[k]? = some r) (ht : r[j]? = some t) (hm : l[k]? = some true → t ≠ x → l[t.toNat]? = some true) : Shut s x l k (j + 1) := by
  intro a r' b u ha hb hlt hl hne
  by_cases e : a = k ∧ b = j
  · obtain ⟨rfl, rfl⟩ := e
    rw [hr] at ha; cases ha
    rw [ht] at hb; cases hb
    exact hm hl hne
  · exact h a r' b u ha hb (by omega) hl hne
theorem Shut.row {s : List (List Int)} {x : Int} {l : List Bool} {k j : Nat} {r : List Int} (h : Shut s x l k j) (hr : s[k]? = some r) (hj : r.length ≤ j) : Shut s x l (k + 1) 0 := by
  intro a r' b u ha hb hlt hl hne
  refine h a r' b u ha hb ?_ hl hne
  by_cases e : a = k
  · subst e
    rw [hr] at ha; cases ha
    have := (List.getElem?_eq_some_iff.1 hb).1
    right; exact ⟨rfl, by omega⟩
  · left; omega
theorem Shut.none {s : List (List Int)} {x : Int} {l : List Bool} {k j : Nat} (h : ∀ u : Nat, l[u]? ≠ some true) : Shut s x l k j := fun a _ _ _ _ _ _ hl _ => absurd hl (h a)
theorem succsF_small (f : Fun) : ∀ l ∈ succsF f, l.length ≤ 2 := by
  intro l hl
  unfold succsF at hl
  obtain ⟨b, _, rfl⟩ := List.mem_map.1 hl
  unfold succ1
  split
  · unfold below
    exact Nat.le_trans (List.length_filter_le _ _) (targetsF_len _)
  · simp
theorem rep_false {n u : Nat} : (List.replicate n false)[u]? ≠ some true := by
  intro h
  rw [List.getElem?_replicate] at h
  split at h <;> simp at h
end Go.Proofs.Ytnfkdilmoppbpaa

/- Dominators, predecessors, writers, as the document's answer says them. No program is in sight here. -/
namespace Go.Proofs.Ytnfkdilmoppbpaa
open Go.Ax
/-- One block dominates another: both are reached, the one not without the other. -/
def Dom (s : List (List Int)) (a b : Int) : Prop := Reaches s (-1) a ∧ Reaches s (-1) b ∧ ¬ Reaches s a b
def predOf (s : List (List Int)) (k : Nat) (n : Nat) : List Int := ((List.range n).filter (fun j => decide ((k : Int) ∈ s[j]?.getD []))).map (fun j : Nat => (j : Int))
def predsF (s : List (List Int)) : List (List Int) := (List.range s.length).map (fun k => predOf s k s.length)
theorem predOf_len (s : List (List Int)) (k n : Nat) : (predOf s k n).length ≤ n := by
  unfold predOf
  rw [List.length_map]
  have := List.length_filter_le (fun j => decide ((k : Int) ∈ s[j]?.getD [])) (List.range n)
  rw [List.length_range] at this; exact this
theorem predOf_lt {s : List (List Int)} {k n : Nat} {p : Int} (h : p ∈ predOf s k n) : 0 ≤ p ∧ p < n := by
  unfold predOf at h
  obtain ⟨j, hj, rfl⟩ := List.mem_map.1 h
  have := List.mem_range.1 (List.mem_filter.1 hj).1
  omega
theorem predOf_succ {s : List (List Int)} {k n : Nat} {l : List Int} (h : s[n]? = some l) : predOf s k (n + 1) = predOf s k n ++ if (k : Int) ∈ l then [(n : Int)] else [] := by
  unfold predOf
  rw [List.range_succ, List.filter_append, List.map_append]
  congr 1
  by_cases hk : (k : Int) ∈ l <;> simp [h, hk]
theorem predsF_len (s : List (List Int)) : (predsF s).length = s.length := by unfold predsF; simp
theorem predsF_take {s : List (List Int)} {k : Nat} (h : k < s.length) : (predsF s).take (k + 1) = (predsF s).take k ++ [predOf s k s.length] := by
  refine take_succ ?_
  unfold predsF
  rw [List.getElem?_map, List.getElem?_range h]; rfl
/-- Where a register is written first: block, place. -/
def WrittenAt (f : Fun) (reg : Int) (k at_ : Nat) : Prop := ∃ b i, f.blocks[k]? = some b ∧ b[at_]? = some i ∧ def15 i = reg
/-- The first writer. -/
def FirstAt (f : Fun) (reg : Int) (k at_ : Nat) : Prop := WrittenAt f reg k at_ ∧ ∀ k' a', WrittenAt f reg k' a' → k < k' ∨ (k = k' ∧ at_ ≤ a')
/-- What is told of a writer. -/
def WriterIs (f : Fun) (reg k at_ : Int) (is : Bool) : Prop :=
  (is = true → ∃ k' a' : Nat, k = k' ∧ at_ = a' ∧ 0 ≤ reg ∧ FirstAt f reg k' a') ∧ (is = false → k = 0 ∧ at_ = 0 ∧ (0 ≤ reg → ∀ k' a', ¬ WrittenAt f reg k' a'))
end Go.Proofs.Ytnfkdilmoppbpaa

/- What a name has, what an instruction reads, as the document's answer says it. No program is in sight here. -/
namespace Go.Proofs.Ytnfkdilmoppbpaa
open Go.Ax
theorem FirstAt.uniq {f : Fun} {reg : Int} {k a k' a' : Nat} (h : FirstAt f reg k a) (h' : FirstAt f reg k' a') : k = k' ∧ a = a' := by
  have h1 := h.2 _ _ h'.1
  have h2 := h'.2 _ _ h.1
  omega
/-- Has a register a value ahead of a place? -/
def HasP (f : Fun) (reg block at_ : Int) : Prop := reg < f.params ∨ (0 ≤ reg ∧ ∃ k i : Nat, FirstAt f reg k i ∧ (((k : Int) = block ∧ (i : Int) < at_) ∨ ((k : Int) ≠ block ∧ Dom (succsF f) k block)))
theorem HasP.of {f : Fun} {reg block at_ k i : Int} (hp : ¬ reg < f.params) (h : WriterIs f reg k i true) : HasP f reg block at_ ↔ ((k = block ∧ i < at_) ∨ (k ≠ block ∧ Dom (succsF f) k block)) := by
  obtain ⟨k1, a1, rfl, rfl, h0, h1⟩ := h.1 rfl
  constructor
  · rintro (h2 | ⟨_, k2, a2, h3, h4⟩)
    · exact absurd h2 hp
    · obtain ⟨rfl, rfl⟩ := h1.uniq h3
      exact h4
  · intro h2
    exact .inr ⟨h0, k1, a1, h1, h2⟩
theorem HasP.no {f : Fun} {reg block at_ k i : Int} (hp : ¬ reg < f.params) (h : WriterIs f reg k i false) : ¬ HasP f reg block at_ := by
  rintro (h2 | ⟨h0, k2, a2, h3, _⟩)
  · exact hp h2
  · exact (h.2 rfl).2.2 h0 _ _ h3.1
end Go.Proofs.Ytnfkdilmoppbpaa

/- What a program is that nothing is wrong with, as the document's answer says it. No program is in sight here. -/
namespace Go.Proofs.Ytnfkdilmoppbpaa
open Go.Ax
def goesTo (block : Int) (b : List Ins) : Bool := match b[b.length - 1]? with
  | some i => decide (block ∈ targetsF i)
  | none => false
def predCount (f : Fun) (block : Int) : Nat := f.blocks.countP (goesTo block)
theorem countP_take_succ {α : Type} {l : List α} {k : Nat} {x : α} {p : α → Bool} (h : l[k]? = some x) : (l.take (k + 1)).countP p = (l.take k).countP p + if p x = true then 1 else 0 := by
  rw [take_succ h, List.countP_append]; simp
theorem countP_take_le {α : Type} {l : List α} {k : Nat} {p : α → Bool} : (l.take k).countP p ≤ k := by
  have := List.countP_le_length (p := p) (l := l.take k)
  rw [List.length_take] at this; omega
/-- An instruction stands as it may. -/
def formF (b : List Ins) (j : Nat) (i : Ins) : Prop := right15 i = true ∧ (endsF i.op = true ↔ j + 1 = b.length) ∧ (i.op = 44 → ∀ x ∈ b.take j, x.op = 44)
theorem site_pos {i : Ins} (h : right15 i = true) : 0 ≤ i.site := by
  unfold right15 fitsF at h
  simp at h
  have := h.2.1.2.2.2.2
  unfold fits0 at this
  simp at this
  omega
/-- All is there that an instruction names. -/
def thereP (p : Pro) (f : Fun) (block : Int) (i : Ins) : Prop :=
  def15 i < f.regs.length ∧ (∀ u ∈ usesF i, u < f.regs.length) ∧ (∀ t ∈ targetsF i, t ≠ 0 ∧ t < f.blocks.length) ∧
  (checkF i.op = true → i.site < p.sites.length ∧ (p.sites.getD i.site.toNat (0, 0)).1 = trapF i.op) ∧ (i.op = 39 → i.n < p.funcs.length) ∧ (i.op = 44 → (i.args.length : Int) = predCount f block)
def fun0 : Fun := ⟨⟨#[]⟩, 0, 0, [], []⟩
theorem fits0_pos {h : Bool} {n : Int} (e : fits0 h n = true) : 0 ≤ n := by
  unfold fits0 at e; simp at e; omega
theorem right_pos {i : Ins} (h : right15 i = true) : 0 ≤ i.dst ∧ 0 ≤ i.a ∧ 0 ≤ i.b ∧ 0 ≤ i.c := by
  unfold right15 fitsF at h
  simp only [Bool.and_eq_true] at h
  obtain ⟨_, ⟨h1, h2, h3, h4, _⟩, _⟩ := h
  exact ⟨fits0_pos h1, fits0_pos h2, fits0_pos h3, fits0_pos h4⟩
theorem right_n {i : Ins} (h : right15 i = true) (e : i.op = 39) : 0 ≤ i.n := by
  unfold right15 tailF at h
  simp only [Bool.and_eq_true, e, if_true, decide_eq_true_eq] at h
  exact h.2.2.2.1
theorem right_def {i : Ins} (h : right15 i = true) (e : writesF i.op = true) : def15 i = i.dst := by unfold def15; rw [if_pos ⟨h, e⟩]
theorem uses_a {i : Ins} (h : right15 i = true) (e : (abF i.op || oneF i.op) = true) : i.a ∈ usesF i := by
  unfold usesF; rw [if_pos h, if_pos e]; simp
/-- The kinds that an instruction reads. -/
def kindsF (p : Pro) (f : Fun) (i : Ins) : List Int :=
  if i.op = 3 ∨ i.op = 4 then [f.regs.getD i.a.toNat 0, f.regs.getD i.a.toNat 0]
  else if i.op = 23 then [f.regs.getD i.dst.toNat 0]
  else if i.op = 25 ∨ i.op = 42 then [2]
  else if i.op = 26 ∨ i.op = 27 ∨ i.op = 31 then [3]
  else if i.op = 29 ∨ i.op = 32 then [3, 1]
  else if i.op = 30 then [3, 1, 1]
  else if i.op = 39 then (p.funcs.getD i.n.toNat fun0).regs.take (max 0 (min (p.funcs.getD i.n.toNat fun0).params (p.funcs.getD i.n.toNat fun0).regs.length)).toNat
  else if i.op = 43 then [f.ret]
  else if i.op = 45 ∧ i.m = 21 then [3]
  else if i.op = 45 ∧ i.m = 20 then [1, 3]
  else List.replicate (usesF i).length (if i.op = 44 then f.regs.getD i.dst.toNat 0 else 1)
/-- The kind that an instruction writes. -/
def kindF (p : Pro) (f : Fun) (i : Ins) : Int :=
  if i.op ≤ 8 ∨ i.op = 21 ∨ i.op = 25 ∨ i.op = 26 then 2
  else if i.op = 22 ∨ i.op = 28 ∨ (i.op = 45 ∧ i.m = 21) then 3
  else if i.op = 39 then (p.funcs.getD i.n.toNat fun0).ret
  else if i.op = 23 ∨ i.op = 44 then f.regs.getD i.dst.toNat 0
  else 1
end Go.Proofs.Ytnfkdilmoppbpaa

/- Nothing is wrong with an instruction. No program is in sight here. -/
namespace Go.Proofs.Ytnfkdilmoppbpaa
open Go.Ax
/-- Nothing is wrong with an instruction. -/
def oneP (p : Pro) (f : Fun) (k : Nat) (b : List Ins) (j : Nat) (i : Ins) : Prop :=
  formF b j i ∧ thereP p f k i ∧ (usesF i).map (fun r => f.regs.getD r.toNat 0) = kindsF p f i ∧ (writesF i.op = true → f.regs.getD i.dst.toNat 0 = kindF p f i)
theorem uses_pos {i : Ins} (h : right15 i = true) : ∀ u ∈ usesF i, 0 ≤ u := by
  obtain ⟨h1, h2, h3, h4⟩ := right_pos h
  have h5 : ∀ x ∈ i.args, 0 ≤ x := by
    unfold right15 at h
    simp only [Bool.and_eq_true, decide_eq_true_eq] at h
    exact h.2.2.1
  intro u hu
  unfold usesF at hu
  rw [if_pos h] at hu
  simp only [List.mem_append] at hu
  rcases hu with hu | hu | hu | hu
  · split at hu <;> simp at hu; omega
  · split at hu <;> simp at hu; omega
  · split at hu <;> simp at hu; omega
  · exact h5 u hu
theorem kindsF_len {p : Pro} {f : Fun} {i : Ins} (hi : i.args.length < 100000) (hg : ∀ g ∈ p.funcs, g.regs.length < 1000000) : (kindsF p f i).length < 1000000 := by
  have hu := usesF_len i
  have h1 : (p.funcs.getD i.n.toNat fun0).regs.length < 1000000 := by
    rw [List.getD_eq_getElem?_getD]
    cases hc : p.funcs[i.n.toNat]? with
    | none => simp [fun0]
    | some g => exact hg g (List.mem_of_getElem? hc)
  unfold kindsF
  repeat' split
  all_goals first
    | (simp; done)
    | (rw [List.length_take]; omega)
    | (rw [List.length_replicate]; omega)
end Go.Proofs.Ytnfkdilmoppbpaa

/- What is wrong with a program, as the document's answer says it. No program is in sight here. -/
namespace Go.Proofs.Ytnfkdilmoppbpaa
open Go.Ax
instance (b : List Ins) (j : Nat) (i : Ins) : Decidable (formF b j i) := by unfold formF; infer_instance
instance (p : Pro) (f : Fun) (k : Int) (i : Ins) : Decidable (thereP p f k i) := by unfold thereP; infer_instance
def typeP (p : Pro) (f : Fun) (i : Ins) : Prop := (usesF i).map (fun r => f.regs.getD r.toNat 0) = kindsF p f i ∧ (writesF i.op = true → f.regs.getD i.dst.toNat 0 = kindF p f i)
instance (p : Pro) (f : Fun) (i : Ins) : Decidable (typeP p f i) := by unfold typeP; infer_instance
/-- What is wrong with an instruction. -/
def oneE (p : Pro) (f : Fun) (k : Nat) (b : List Ins) (j : Nat) (i : Ins) : Int :=
  if formF b j i then (if thereP p f k i then (if typeP p f i then 0 else 11) else 2) else 5
theorem oneE_zero {p : Pro} {f : Fun} {k : Nat} {b : List Ins} {j : Nat} {i : Ins} : oneE p f k b j i = 0 ↔ oneP p f k b j i := by
  unfold oneE oneP
  constructor
  · intro h
    split at h
    · split at h
      · split at h
        · rename_i h1 h2 h3; exact ⟨h1, h2, h3.1, h3.2⟩
        · cases h
      · cases h
    · cases h
  · rintro ⟨h1, h2, h3, h4⟩
    rw [if_pos h1, if_pos h2, if_pos (show typeP p f i from ⟨h3, h4⟩)]
/-- Nothing is wrong with a function itself. -/
def longP (f : Fun) : Prop := 0 ≤ f.params ∧ f.params ≤ 8 ∧ f.params ≤ f.regs.length ∧ f.regs.length ≤ 65536 ∧ f.blocks.length ≤ 65536 ∧ f.count ≤ 262144
def kindP (f : Fun) : Prop := (∀ x ∈ f.regs, 1 ≤ x ∧ x ≤ 3) ∧ (1 ≤ f.ret ∧ f.ret ≤ 3)
instance (f : Fun) : Decidable (longP f) := by unfold longP; infer_instance
instance (f : Fun) : Decidable (kindP f) := by unfold kindP; infer_instance
def headP (f : Fun) : Prop := longP f ∧ kindP f ∧ f.blocks ≠ []
/-- What is wrong with a function itself. -/
def headE (f : Fun) : Int := if longP f then (if kindP f then (if f.blocks.length = 0 then 5 else 0) else 11) else 3
theorem headE_zero {f : Fun} : headE f = 0 ↔ headP f := by
  unfold headE headP
  constructor
  · intro h
    split at h
    · split at h
      · split at h
        · cases h
        · rename_i h1 h2 h3; exact ⟨h1, h2, fun e => h3 (by rw [e]; rfl)⟩
      · cases h
    · cases h
  · rintro ⟨h1, h2, h3⟩
    rw [if_pos h1, if_pos h2, if_neg (fun e => h3 (List.eq_nil_of_length_eq_zero e))]

structure Wrong where
  fn : Int
  block : Int
  at_ : Int
  err : Int
deriving DecidableEq
def Wrong.cs (w : Wrong) : List AV := [num w.fn, num w.block, num w.at_, num w.err]
def Wrong.no : Wrong := ⟨0, 0, 0, 0⟩

/-- The first one of some that tells something. -/
def firstN {α : Type} (g : Nat → Option α) (n : Nat) : Option α := (List.range n).findSome? g
theorem firstN_zero {α : Type} (g : Nat → Option α) : firstN g 0 = none := rfl
theorem firstN_succ {α : Type} (g : Nat → Option α) (n : Nat) : firstN g (n + 1) = (firstN g n).or (g n) := by
  unfold firstN; rw [List.range_succ, List.findSome?_append]; simp [List.findSome?]
  cases g n <;> rfl
theorem firstN_mono {α : Type} {g : Nat → Option α} {m n : Nat} {w : α} (h : firstN g m = some w) (hm : m ≤ n) : firstN g n = some w := by
  induction n with
  | zero => obtain rfl : m = 0 := by omega
            exact h
  | succ n ih =>
    by_cases e : m = n + 1
    · subst e; exact h
    · rw [firstN_succ, ih (by omega)]; rfl
theorem firstN_hit {α : Type} {g : Nat → Option α} {m n : Nat} {w : α} (h : firstN g m = none) (hg : g m = some w) (hm : m < n) : firstN g n = some w :=
  firstN_mono (m := m + 1) (by rw [firstN_succ, h, hg]; rfl) hm
theorem firstN_next {α : Type} {g : Nat → Option α} {m : Nat} (h : firstN g m = none) (hg : g m = none) : firstN g (m + 1) = none := by rw [firstN_succ, h, hg]; rfl
theorem firstN_none {α : Type} {g : Nat → Option α} {n : Nat} (h : firstN g n = none) : ∀ m, m < n → g m = none := by
  intro m hm
  cases e : g m with
  | none => rfl
  | some w =>
    cases e2 : firstN g m with
    | none => rw [firstN_hit e2 e hm] at h; cases h
    | some w2 => rw [firstN_mono e2 (by omega)] at h; cases h
theorem firstN_all {α : Type} {g : Nat → Option α} : ∀ {n : Nat}, (∀ m, m < n → g m = none) → firstN g n = none
  | 0, _ => rfl
  | n + 1, h => firstN_next (firstN_all fun m hm => h m (by omega)) (h n (by omega))

def insW (p : Pro) (f : Fun) (n k : Nat) (b : List Ins) (j : Nat) : Option Wrong := match b[j]? with
  | some i => if oneE p f k b j i = 0 then none else some ⟨n, k, j, oneE p f k b j i⟩
  | none => none
def blkE (p : Pro) (f : Fun) (n k : Nat) : Option Wrong := match f.blocks[k]? with
  | some b => if b.length = 0 then some ⟨n, k, -1, 5⟩ else firstN (insW p f n k b) b.length
  | none => none
def funE (p : Pro) (n : Nat) : Option Wrong := match p.funcs[n]? with
  | some f => if headE f = 0 then firstN (blkE p f n) f.blocks.length else some ⟨n, -1, -1, headE f⟩
  | none => none
/-- The main one is as it must be. -/
def mainP (p : Pro) : Prop := 0 ≤ p.main ∧ p.main < p.funcs.length ∧ (p.funcs.getD p.main.toNat fun0).params = 1 ∧ (p.funcs.getD p.main.toNat fun0).regs.length ≠ 0 ∧ (p.funcs.getD p.main.toNat fun0).regs.getD 0 0 = 3 ∧ (p.funcs.getD p.main.toNat fun0).ret = 1
instance (p : Pro) : Decidable (mainP p) := by unfold mainP; infer_instance
/-- What is wrong with a program. -/
def checkE (p : Pro) : Wrong :=
  if 200 < p.funcs.length ∨ 262144 < p.sites.length then ⟨-1, -1, -1, 3⟩
  else if mainP p then (firstN (funE p) p.funcs.length).getD Wrong.no
  else ⟨-1, -1, -1, 13⟩
theorem insW_some {p : Pro} {f : Fun} {n k : Nat} {b : List Ins} {j : Nat} {i : Ins} (gi : b[j]? = some i) (h : oneE p f k b j i ≠ 0) : insW p f n k b j = some ⟨n, k, j, oneE p f k b j i⟩ := by unfold insW; rw [gi]; exact if_neg h
theorem insW_none {p : Pro} {f : Fun} {n k : Nat} {b : List Ins} {j : Nat} {i : Ins} (gi : b[j]? = some i) (h : oneE p f k b j i = 0) : insW p f n k b j = none := by unfold insW; rw [gi]; exact if_pos h
theorem blkE_empty {p : Pro} {f : Fun} {n k : Nat} {b : List Ins} (gb : f.blocks[k]? = some b) (h : b.length = 0) : blkE p f n k = some ⟨n, k, -1, 5⟩ := by unfold blkE; rw [gb]; exact if_pos h
theorem blkE_first {p : Pro} {f : Fun} {n k : Nat} {b : List Ins} (gb : f.blocks[k]? = some b) (h : b.length ≠ 0) : blkE p f n k = firstN (insW p f n k b) b.length := by unfold blkE; rw [gb]; exact if_neg h
theorem funE_head {p : Pro} {n : Nat} {f : Fun} (gf : p.funcs[n]? = some f) (h : headE f ≠ 0) : funE p n = some ⟨n, -1, -1, headE f⟩ := by unfold funE; rw [gf]; exact if_neg h
theorem funE_first {p : Pro} {n : Nat} {f : Fun} (gf : p.funcs[n]? = some f) (h : headE f = 0) : funE p n = firstN (blkE p f n) f.blocks.length := by unfold funE; rw [gf]; exact if_pos h
theorem checkE_hit {p : Pro} {n : Nat} {w : Wrong} (h1 : p.funcs.length ≤ 200) (h2 : p.sites.length ≤ 262144) (hm : mainP p) (h : firstN (funE p) n = none) (hn : n < p.funcs.length) (hw : funE p n = some w) : checkE p = w := by
  unfold checkE; rw [if_neg (by omega), if_pos hm, firstN_hit h hw hn]; rfl
/-- Nothing is wrong with a function. -/
def funP (p : Pro) (f : Fun) : Prop := headP f ∧ ∀ (k : Nat) (b : List Ins), f.blocks[k]? = some b → b.length ≠ 0 ∧ ∀ (j : Nat) (i : Ins), b[j]? = some i → oneP p f k b j i
/-- Nothing is wrong with a program. -/
def proP (p : Pro) : Prop := p.funcs.length ≤ 200 ∧ p.sites.length ≤ 262144 ∧ mainP p ∧ ∀ f ∈ p.funcs, funP p f
theorem insW_err {p : Pro} {f : Fun} {n k : Nat} {b : List Ins} {j : Nat} {w : Wrong} (h : insW p f n k b j = some w) : w.err ≠ 0 := by
  unfold insW at h
  split at h
  · split at h
    · cases h
    · rename_i h1; cases h; exact h1
  · cases h
theorem firstN_some {α : Type} {g : Nat → Option α} {n : Nat} {w : α} (h : firstN g n = some w) : ∃ m, m < n ∧ g m = some w := by
  unfold firstN at h
  obtain ⟨m, hm, hg⟩ := List.exists_of_findSome?_eq_some h
  exact ⟨m, List.mem_range.1 hm, hg⟩
theorem blkE_err {p : Pro} {f : Fun} {n k : Nat} {w : Wrong} (h : blkE p f n k = some w) : w.err ≠ 0 := by
  unfold blkE at h
  split at h
  · split at h
    · cases h; exact (by decide : (5 : Int) ≠ 0)
    · obtain ⟨m, _, hm⟩ := firstN_some h; exact insW_err hm
  · cases h
theorem funE_err {p : Pro} {n : Nat} {w : Wrong} (h : funE p n = some w) : w.err ≠ 0 := by
  unfold funE at h
  split at h
  · split at h
    · obtain ⟨m, _, hm⟩ := firstN_some h; exact blkE_err hm
    · rename_i h1; cases h; exact h1
  · cases h
theorem blkE_none {p : Pro} {f : Fun} {n k : Nat} {b : List Ins} (gb : f.blocks[k]? = some b) : blkE p f n k = none ↔ b.length ≠ 0 ∧ ∀ (j : Nat) (i : Ins), b[j]? = some i → oneP p f k b j i := by
  by_cases hb : b.length = 0
  · rw [blkE_empty gb hb]
    exact ⟨fun h => (by cases h), fun h => absurd hb h.1⟩
  · rw [blkE_first gb hb]
    constructor
    · intro h
      refine ⟨hb, fun j i gi => ?_⟩
      have h1 := firstN_none h j (List.getElem?_eq_some_iff.1 gi).1
      rw [← oneE_zero]
      exact Classical.byContradiction fun h2 => by rw [insW_some gi h2] at h1; cases h1
    · intro h
      refine firstN_all fun j hj => ?_
      exact insW_none (List.getElem?_eq_getElem hj) (oneE_zero.2 (h.2 _ _ (List.getElem?_eq_getElem hj)))
theorem funE_none {p : Pro} {n : Nat} {f : Fun} (gf : p.funcs[n]? = some f) : funE p n = none ↔ funP p f := by
  by_cases hh : headE f = 0
  · rw [funE_first gf hh]
    constructor
    · intro h
      refine ⟨headE_zero.1 hh, fun k b gb => ?_⟩
      exact (blkE_none gb).1 (firstN_none h k (List.getElem?_eq_some_iff.1 gb).1)
    · intro h
      exact firstN_all fun k hk => (blkE_none (List.getElem?_eq_getElem hk)).2 (h.2 _ _ (List.getElem?_eq_getElem hk))
  · rw [funE_head gf hh]
    exact ⟨fun h => (by cases h), fun h => absurd (headE_zero.2 h.1) hh⟩
theorem checkE_zero {p : Pro} : (checkE p).err = 0 ↔ proP p := by
  unfold checkE proP
  by_cases h1 : 200 < p.funcs.length ∨ 262144 < p.sites.length
  · rw [if_pos h1]
    exact ⟨fun h => absurd h (by decide), fun h => by omega⟩
  rw [if_neg h1]
  by_cases h2 : mainP p
  · rw [if_pos h2]
    constructor
    · intro h
      refine ⟨by omega, by omega, h2, fun f hf => ?_⟩
      obtain ⟨n, hn, rfl⟩ := List.getElem_of_mem hf
      rw [← funE_none (List.getElem?_eq_getElem hn)]
      refine firstN_none (n := p.funcs.length) ?_ n hn
      cases e : firstN (funE p) p.funcs.length with
      | none => rfl
      | some w =>
        rw [e] at h
        obtain ⟨m, _, hm⟩ := firstN_some e
        exact absurd h (funE_err hm)
    · intro h
      rw [firstN_all (g := funE p) fun n hn => (funE_none (List.getElem?_eq_getElem hn)).2 (h.2.2.2 _ (List.getElem_mem hn))]
      rfl
  · rw [if_neg h2]
    exact ⟨fun h => absurd h (by decide), fun h => absurd h.2.2.1 h2⟩
/-- Small enough for the machine. -/
def Pro.slim (p : Pro) : Prop := p.fits ∧ ∀ f ∈ p.funcs, f.count ≤ 100000000000000000 ∧ f.regs.length < 1000000 ∧ ∀ b ∈ f.blocks, ∀ i ∈ b, i.args.length < 100000
theorem Pro.few.slim {p : Pro} {most : Int} (h : p.few most) (hm : most ≤ 100000) (hp : p.fits) : p.slim := by
  refine ⟨hp, fun f hf => ?_⟩
  have h1 := Pro.count_fun hf
  have h2 := h.2.2.1
  obtain ⟨h3, _, _, h4⟩ := h.2.2.2 f hf
  exact ⟨by omega, by omega, fun b hb i hi => by have := h4 b hb i hi; omega⟩
end Go.Proofs.Ytnfkdilmoppbpaa

/- What a proper program is, and what its names are, as the document's answer says it. No program is in sight here. -/
namespace Go.Proofs.Ytnfkdilmoppbpaa
open Go.Ax
/-- A function is proper. -/
def properF (f : Fun) : Prop := (∀ k : Nat, k < f.blocks.length → Reaches (succsF f) (-1) k) ∧ ∀ (k : Nat) (b : List Ins), f.blocks[k]? = some b → ∀ (j : Nat) (i : Ins), b[j]? = some i →
  (0 ≤ def15 i → f.params ≤ def15 i ∧ FirstAt f (def15 i) k j) ∧ (i.op ≠ 44 → ∀ u ∈ usesF i, HasP f u k j)
def properP (p : Pro) : Prop := proP p ∧ ∀ f ∈ p.funcs, properF f
theorem uses_phi {i : Ins} (e : i.op = 44) : (usesF i).length ≤ i.args.length := by
  unfold usesF
  split
  · have h1 : (abF i.op || oneF i.op) = false := by unfold abF twoF oneF; simp [e]
    have h2 : bF i = false := by unfold bF abF twoF; simp [e]
    rw [if_neg (by rw [h1]; simp), if_neg (by rw [h2]; simp), if_neg (by omega)]
    simp
  · simp
theorem countP_range {α : Type} (p : α → Bool) (l : List α) : ∀ n, n ≤ l.length → (l.take n).countP p = ((List.range n).filter (fun j => match l[j]? with | some x => p x | none => false)).length
  | 0, _ => rfl
  | n + 1, h => by
    rw [countP_take_succ (List.getElem?_eq_getElem (by omega)), List.range_succ, List.filter_append, List.length_append, countP_range p l n (by omega)]
    congr 1
    simp only [List.filter_cons, List.filter_nil]
    rw [List.getElem?_eq_getElem (by omega)]
    dsimp only
    split <;> rfl
theorem mem_succ1 {n k : Nat} {b : List Ins} (hk : k < n) : (k : Int) ∈ succ1 n b ↔ goesTo k b = true := by
  unfold succ1 goesTo below
  cases b[b.length - 1]? with
  | none => simp
  | some i =>
    simp only [decide_eq_true_iff, List.mem_filter]
    constructor
    · rintro ⟨h, _⟩; exact h
    · intro h; exact ⟨h, by omega⟩
theorem predCount_len (f : Fun) (k : Nat) (hk : k < f.blocks.length) : (predOf (succsF f) k (succsF f).length).length = predCount f k := by
  unfold predOf predCount
  have h1 := countP_range (goesTo k) f.blocks f.blocks.length (Nat.le_refl _)
  rw [List.take_length] at h1
  rw [List.length_map, h1, succsF_len]
  congr 1
  refine List.filter_congr fun j hj => ?_
  have hj := List.mem_range.1 hj
  unfold succsF
  rw [List.getElem?_map, List.getElem?_eq_getElem hj]
  simp only [Option.map_some, Option.getD_some]
  rw [Bool.eq_iff_iff, decide_eq_true_iff]
  exact mem_succ1 hk
theorem phi_preds {p : Pro} {f : Fun} {k j : Nat} {b : List Ins} {i : Ins} (gb : f.blocks[k]? = some b) (h : oneP p f k b j i) (e : i.op = 44) : (usesF i).length ≤ (predOf (succsF f) k (succsF f).length).length := by
  rw [predCount_len f k (List.getElem?_eq_some_iff.1 gb).1]
  have h1 := h.2.1.2.2.2.2.2 e
  have h2 := uses_phi e
  omega

/-- A way of so many steps. -/
inductive PathN (s : List (List Int)) : Nat → Int → Prop
  | zero : s ≠ [] → PathN s 0 0
  | step {n k : Nat} {t : Int} {l : List Int} : PathN s n k → s[k]? = some l → t ∈ l → PathN s (n + 1) t
theorem Reaches.path {s : List (List Int)} {x t : Int} (h : Reaches s x t) : ∃ n, PathN s n t := by
  induction h with
  | zero h _ => exact ⟨0, .zero h⟩
  | step _ hl ht _ ih => obtain ⟨n, ih⟩ := ih; exact ⟨n + 1, .step ih hl ht⟩
theorem PathN.thru {s : List (List Int)} {n : Nat} {t : Int} (a : Int) (h : PathN s n t) : Reaches s a t ∨ ∃ m, m ≤ n ∧ PathN s m a ∧ (m = n → a = t) := by
  induction h with
  | zero h =>
    by_cases e : a = 0
    · subst e; exact .inr ⟨0, by omega, .zero h, fun _ => rfl⟩
    · exact .inl (.zero h e)
  | @step n k t l hp hl ht ih =>
    by_cases e : t = a
    · subst e; exact .inr ⟨n + 1, by omega, .step hp hl ht, fun _ => rfl⟩
    · rcases ih with ih | ⟨m, h1, h2, h3⟩
      · exact .inl (.step ih hl ht e)
      · exact .inr ⟨m, by omega, h2, fun h => by omega⟩
theorem Dom.path {s : List (List Int)} {n : Nat} {a b : Int} (h : Dom s a b) (hn : a ≠ b) (hp : PathN s n b) : ∃ m, m < n ∧ PathN s m a := by
  rcases hp.thru a with h1 | ⟨m, h1, h2, h3⟩
  · exact absurd h1 h.2.2
  · refine ⟨m, ?_, h2⟩
    by_cases e : m = n
    · exact absurd (h3 e) hn
    · omega

/-- Of writers up to a place: what is known. -/
def WsAt (f : Fun) (ws : List Wr) (k j : Nat) : Prop := ws.length = f.regs.length ∧ ∀ d : Nat, d < f.regs.length →
  ((ws.getD d Wr0).is = true → ∃ k' a' b i, f.blocks[k']? = some b ∧ b[a']? = some i ∧ FirstAt f d k' a' ∧ ws.getD d Wr0 = ⟨i, k', true⟩) ∧
  ((ws.getD d Wr0).is = false → ws.getD d Wr0 = Wr0 ∧ ∀ k' a', WrittenAt f d k' a' → k < k' ∨ (k = k' ∧ j ≤ a'))
theorem WsAt.step {f : Fun} {ws : List Wr} {k j : Nat} {b : List Ins} {i : Ins} (h : WsAt f ws k j) (gb : f.blocks[k]? = some b) (gi : b[j]? = some i) : WsAt f (setW ws k i) k (j + 1) := by
  refine ⟨by rw [setW_len]; exact h.1, fun d hd => ?_⟩
  obtain ⟨h1, h2⟩ := h.2 d hd
  have keep : (setW ws k i).getD d Wr0 = ws.getD d Wr0 → (def15 i = d → (ws.getD d Wr0).is = true) → 
      (((setW ws k i).getD d Wr0).is = true → ∃ k' a' b i', f.blocks[k']? = some b ∧ b[a']? = some i' ∧ FirstAt f d k' a' ∧ (setW ws k i).getD d Wr0 = ⟨i', k', true⟩) ∧
      (((setW ws k i).getD d Wr0).is = false → (setW ws k i).getD d Wr0 = Wr0 ∧ ∀ k' a', WrittenAt f d k' a' → k < k' ∨ (k = k' ∧ j + 1 ≤ a')) := by
    intro e hw
    rw [e]
    refine ⟨h1, fun hf => ⟨(h2 hf).1, fun k' a' h' => ?_⟩⟩
    rcases (h2 hf).2 k' a' h' with h3 | ⟨rfl, h3⟩
    · exact .inl h3
    · refine .inr ⟨rfl, ?_⟩
      by_cases ej : j = a'
      · subst ej
        obtain ⟨b', i', e1, e2, e3⟩ := h'
        rw [gb] at e1; cases e1
        rw [gi] at e2; cases e2
        rw [hw e3] at hf; cases hf
      · omega
  by_cases hc : 0 ≤ defF i ∧ defF i < ws.length ∧ (ws.getD (defF i).toNat Wr0).is = false
  · have es : setW ws k i = ws.set (defF i).toNat ⟨i, k, true⟩ := if_pos hc
    by_cases ed : (defF i).toNat = d
    · have edI : def15 i = d := by rw [← def_eq]; omega
      have eg : (setW ws k i).getD d Wr0 = ⟨i, k, true⟩ := by
        rw [es, ed, List.getD_eq_getElem?_getD, List.getElem?_set_self (by omega)]; rfl
      rw [eg]
      refine ⟨fun _ => ⟨k, j, b, i, gb, gi, ⟨⟨b, i, gb, gi, edI⟩, fun k' a' h' => ?_⟩, rfl⟩, fun h => by cases h⟩
      have hf := hc.2.2
      rw [ed] at hf
      exact (h2 hf).2 k' a' h'
    · refine keep ?_ ?_
      · rw [es, List.getD_eq_getElem?_getD, List.getElem?_set_ne ed, ← List.getD_eq_getElem?_getD]
      · intro e; rw [← def_eq] at e; omega
  · have es : setW ws k i = ws := if_neg hc
    refine keep (by rw [es]) fun e => ?_
    rw [← def_eq] at e
    rw [e] at hc
    cases hf : (ws.getD d Wr0).is with
    | true => rfl
    | false => exact absurd ⟨by omega, by have := h.1; omega, by simpa using hf⟩ hc
theorem WsAt.blk {f : Fun} {ws : List Wr} {k : Nat} {b : List Ins} (h : WsAt f ws k 0) (gb : f.blocks[k]? = some b) : ∀ j, j ≤ b.length → WsAt f (blkW ws k b j) k j
  | 0, _ => h
  | j + 1, hj => by
    rw [blkW_succ (List.getElem?_eq_getElem (by omega))]
    exact (WsAt.blk h gb j (by omega)).step gb (List.getElem?_eq_getElem (by omega))
theorem WsAt.out {f : Fun} : ∀ k, k ≤ f.blocks.length → WsAt f (outW f k) k 0
  | 0, _ => by
    refine ⟨by simp [outW], fun d hd => ?_⟩
    have e : (outW f 0).getD d Wr0 = Wr0 := by simp only [outW, List.getD_eq_getElem?_getD, List.getElem?_replicate]; split <;> rfl
    rw [e]
    exact ⟨fun h => (by cases h), fun _ => ⟨rfl, fun k' a' _ => by omega⟩⟩
  | k + 1, hk => by
    have gb := List.getElem?_eq_getElem (l := f.blocks) (i := k) (by omega)
    rw [outW_succ gb]
    have h := (WsAt.out k (by omega)).blk gb _ (Nat.le_refl _)
    refine ⟨h.1, fun d hd => ⟨(h.2 d hd).1, fun hf => ⟨((h.2 d hd).2 hf).1, fun k' a' h' => ?_⟩⟩⟩
    rcases ((h.2 d hd).2 hf).2 k' a' h' with h3 | ⟨rfl, h3⟩
    · omega
    · obtain ⟨b', i', e1, e2, _⟩ := h'
      rw [gb] at e1; cases e1
      have := (List.getElem?_eq_some_iff.1 e2).1
      omega
/-- What is told of a name's writer. -/
theorem newF_of {f : Fun} {x k a : Int} {v : Bool} (h : WriterIs f x k a v) : (0 ≤ x ∧ x < f.regs.length → v = true → ∃ (k' a' : Nat) (b : List Ins) (i : Ins), k = k' ∧ a = a' ∧ f.blocks[k']? = some b ∧ b[a']? = some i ∧ (newF f).of x = ⟨i, k', true⟩) ∧
    ((v = false ∨ ¬ (0 ≤ x ∧ x < f.regs.length)) → (newF f).of x = Wr0) := by
  have hw := WsAt.out (f := f) _ (Nat.le_refl _)
  have hl : (newF f).ws.length = f.regs.length := newF_len f
  constructor
  · intro hx hv
    obtain ⟨k', a', rfl, rfl, h0, h1⟩ := h.1 hv
    obtain ⟨⟨b, i, gb, gi, ed⟩, h2⟩ := h1
    refine ⟨k', a', b, i, rfl, rfl, gb, gi, ?_⟩
    obtain ⟨g1, g2⟩ := hw.2 x.toNat (by omega)
    have ex : ((x.toNat : Nat) : Int) = x := by omega
    unfold Names.of
    rw [if_pos (by omega)]
    show (outW f f.blocks.length).getD _ _ = _
    cases hi : ((outW f f.blocks.length).getD x.toNat Wr0).is with
    | true =>
      obtain ⟨k2, a2, b2, i2, e1, e2, e3, e4⟩ := g1 hi
      rw [e4]
      rw [ex] at e3
      obtain ⟨rfl, rfl⟩ := e3.uniq ⟨⟨b, i, gb, gi, ed⟩, h2⟩
      rw [gb] at e1; cases e1
      rw [gi] at e2; cases e2
      rfl
    | false =>
      have := (g2 hi).2 k' a' (by rw [ex]; exact ⟨b, i, gb, gi, ed⟩)
      have := (List.getElem?_eq_some_iff.1 gb).1
      omega
  · intro hx
    unfold Names.of
    split
    · rename_i hr
      rcases hx with hv | hx
      · obtain ⟨g1, g2⟩ := hw.2 x.toNat (by omega)
        have ex : ((x.toNat : Nat) : Int) = x := by omega
        show (outW f f.blocks.length).getD _ _ = _
        cases hi : ((outW f f.blocks.length).getD x.toNat Wr0).is with
        | true =>
          obtain ⟨k2, a2, b2, i2, e1, e2, e3, e4⟩ := g1 hi
          rw [ex] at e3
          exact absurd e3.1 ((h.2 hv).2.2 hr.1 k2 a2)
        | false => exact (g2 hi).1
      · rw [hl] at hr; exact absurd hr hx
    · rfl

/-- A name's chain. -/
def Names.cp (n : Names) (x : Int) : Prop := (n.of x).is = true ∧ ((n.of x).i.op = 23 ∨ (n.of x).i.op = 45)
def Names.inR (n : Names) (x : Int) : Prop := 0 ≤ x ∧ x < n.ws.length
inductive ChainR (n : Names) : Int → List Int → Prop
  | stop {x} : n.inR x → ¬ n.cp x → ChainR n x [x]
  | step {x l} : n.inR x → n.cp x → ChainR n (n.of x).i.a l → ChainR n x (x :: l)
theorem ChainR.det {n : Names} {x : Int} {l l' : List Int} (h : ChainR n x l) (h' : ChainR n x l') : l = l' := by
  induction h generalizing l' with
  | stop h1 h2 => cases h' with
    | stop => rfl
    | step _ h3 _ => exact absurd h3 h2
  | step h1 h2 _ ih => cases h' with
    | stop _ h3 => exact absurd h2 h3
    | step _ _ h4 => rw [ih h4]
theorem ChainR.mem {n : Names} {x y : Int} {l : List Int} (h : ChainR n x l) (hy : y ∈ l) : n.inR y ∧ ∃ l', ChainR n y l' ∧ l'.length ≤ l.length := by
  induction h with
  | stop h1 h2 => simp at hy; subst hy; exact ⟨h1, _, .stop h1 h2, Nat.le_refl _⟩
  | step h1 h2 h3 ih =>
    rcases List.mem_cons.1 hy with rfl | hy
    · exact ⟨h1, _, .step h1 h2 h3, Nat.le_refl _⟩
    · obtain ⟨g1, l', g2, g3⟩ := ih hy
      exact ⟨g1, l', g2, by simp; omega⟩
theorem ChainR.nodup {n : Names} {x : Int} {l : List Int} (h : ChainR n x l) : l.Nodup := by
  induction h with
  | stop => simp
  | @step x l h1 h2 h3 ih =>
    refine List.nodup_cons.2 ⟨fun hm => ?_, ih⟩
    obtain ⟨_, l', g2, g3⟩ := h3.mem hm
    have := g2.det (.step h1 h2 h3)
    subst this; simp at g3
    omega
theorem nodup_len : ∀ (n : Nat) (l : List Int), l.Nodup → (∀ x ∈ l, 0 ≤ x ∧ x < n) → l.length ≤ n
  | 0, l, _, h => by
    cases l with
    | nil => simp
    | cons x l => have := h x (List.mem_cons_self ..); omega
  | n + 1, l, hn, h => by
    have ih := nodup_len n (l.erase (n : Int)) (hn.erase _) fun x hx => by
      have h1 := (hn.mem_erase_iff).1 hx
      have := h x h1.2
      have := h1.1
      omega
    by_cases hm : (n : Int) ∈ l
    · rw [List.length_erase_of_mem hm] at ih; omega
    · rw [List.erase_of_not_mem hm] at ih; omega
theorem ChainR.up {n : Names} {x : Int} {l : List Int} (h : ChainR n x l) : ∀ k, l.length ≤ k + 1 → n.up k x = l := by
  induction h with
  | stop h1 h2 =>
    intro k _
    cases k with
    | zero => rfl
    | succ k => unfold Names.up; exact if_neg h2
  | @step x l h1 h2 h3 ih =>
    intro k hk
    have : l ≠ [] := by cases h3 <;> simp
    have := List.length_pos_iff.2 this
    simp only [List.length_cons] at hk
    cases k with
    | zero => omega
    | succ k => unfold Names.up; rw [← ih k (by omega)]; exact if_pos h2
theorem ChainR.chain {n : Names} {x : Int} {l : List Int} (h : ChainR n x l) : n.chain x = l := by
  have h1 : n.inR x := by cases h <;> assumption
  have h2 := nodup_len n.ws.length l h.nodup fun y hy => (h.mem hy).1
  unfold Names.chain
  rw [← h.up n.ws.length (by omega)]; exact if_pos h1

theorem uses_copy {i : Ins} (h : right15 i = true) (e : i.op = 23 ∨ i.op = 45) : i.a ∈ usesF i := uses_a h (by unfold abF oneF; rcases e with e | e <;> simp [e])
theorem writer_is {f : Fun} {x : Int} {k a : Nat} (h0 : 0 ≤ x) (h : FirstAt f x k a) : WriterIs f x k a true := ⟨fun _ => ⟨k, a, rfl, rfl, h0, h⟩, fun h => by cases h⟩
theorem right_of_def {i : Ins} (h : 0 ≤ def15 i) : right15 i = true := by
  unfold def15 at h
  split at h
  · rename_i h1; exact h1.1
  · omega
theorem writer_all (f : Fun) (x : Int) : (∃ k a : Nat, FirstAt f x k a) ∨ ∀ k a, ¬ WrittenAt f x k a := by
  have hw : ∀ K, (∃ k a : Nat, FirstAt f x k a) ∨ ∀ k a, k < K → ¬ WrittenAt f x k a := by
    intro K
    induction K with
    | zero => exact .inr fun k a h => by omega
    | succ K ih =>
      rcases ih with ih | ih
      · exact .inl ih
      · have h2 : ∀ A, (∃ k a : Nat, FirstAt f x k a) ∨ ∀ a, a < A → ¬ WrittenAt f x K a := by
          intro A
          induction A with
          | zero => exact .inr fun a h => by omega
          | succ A ih2 =>
            rcases ih2 with ih2 | ih2
            · exact .inl ih2
            · by_cases h : WrittenAt f x K A
              · refine .inl ⟨K, A, h, fun k' a' h' => ?_⟩
                by_cases e : k' < K
                · exact absurd h' (ih k' a' e)
                · by_cases e2 : k' = K
                  · subst e2
                    by_cases e3 : a' < A
                    · exact absurd h' (ih2 a' e3)
                    · omega
                  · omega
              · refine .inr fun a ha => ?_
                by_cases e : a = A
                · subst e; exact h
                · exact ih2 a (by omega)
        cases gb : f.blocks[K]? with
        | none =>
          refine .inr fun k a hk h => ?_
          by_cases e : k = K
          · subst e; obtain ⟨b, i, e1, _⟩ := h; rw [gb] at e1; cases e1
          · exact ih k a (by omega) h
        | some b =>
          rcases h2 b.length with h2 | h2
          · exact .inl h2
          · refine .inr fun k a hk h => ?_
            by_cases e : k = K
            · subst e
              obtain ⟨b', i, e1, e2, e3⟩ := h
              rw [gb] at e1; cases e1
              exact h2 a (List.getElem?_eq_some_iff.1 e2).1 ⟨b, i, gb, e2, e3⟩
            · exact ih k a (by omega) h
  rcases hw f.blocks.length with h | h
  · exact .inl h
  · refine .inr fun k a h' => ?_
    obtain ⟨b, i, e1, _⟩ := id h'
    exact h k a (List.getElem?_eq_some_iff.1 e1).1 h'
theorem chain_ends {p : Pro} {f : Fun} (hf : funP p f) (hp : properF f) : ∀ x, (newF f).inR x → ∃ l, ChainR (newF f) x l := by
  have hl : (newF f).ws.length = f.regs.length := newF_len f
  have none : ∀ x, (newF f).inR x → (∀ k a, ¬ WrittenAt f x k a) → ∃ l, ChainR (newF f) x l := fun x hx h => by
    have := (newF_of (f := f) (x := x) (k := 0) (a := 0) (v := false) ⟨fun h => absurd h (by decide), fun _ => ⟨rfl, rfl, fun _ => h⟩⟩).2 (.inl rfl)
    exact ⟨_, .stop hx fun hc => by unfold Names.cp at hc; rw [this] at hc; cases hc.1⟩
  have key : ∀ n, ∀ j, ∀ x (k : Nat), (newF f).inR x → FirstAt f x k j → PathN (succsF f) n k → ∃ l, ChainR (newF f) x l := by
    intro n
    induction n using Nat.strongRecOn with
    | ind n ihn =>
      intro j
      induction j using Nat.strongRecOn with
      | ind j ihj =>
        intro x k hx hfirst hpath
        have hxr := hx
        unfold Names.inR at hxr
        obtain ⟨k', a', b, i, e1, e2, gb, gi, eo⟩ := (newF_of (writer_is hxr.1 hfirst)).1 (by rw [← hl]; exact hxr) rfl
        obtain rfl : k = k' := by omega
        obtain rfl : j = a' := by omega
        by_cases hc : (newF f).cp x
        · have hop : i.op = 23 ∨ i.op = 45 := by
            have := hc.2; rw [eo] at this; exact this
          have hone := (hf.2 k b gb).2 j i gi
          have hr := hone.1.1
          have hu := uses_copy hr hop
          have hub := hone.2.1.2.1 i.a hu
          have hup := uses_pos hr i.a hu
          have hin : (newF f).inR i.a := ⟨hup, by rw [hl]; exact hub⟩
          have hh := (hp.2 k b gb j i gi).2 (by omega) i.a hu
          have fin : (∃ l, ChainR (newF f) i.a l) → ∃ l, ChainR (newF f) x l := fun ⟨l, h⟩ => ⟨_, .step hx hc (by rw [eo]; exact h)⟩
          refine fin ?_
          rcases hh with h1 | ⟨h0, k2, i2, h3, h4⟩
          · refine none _ hin fun k2 a2 ⟨b2, j2, g1, g2, g3⟩ => ?_
            have := ((hp.2 k2 b2 g1 a2 j2 g2).1 (by omega)).1
            omega
          · rcases h4 with ⟨h4, h5⟩ | ⟨h4, h5⟩
            · obtain rfl : k2 = k := by omega
              exact ihj i2 (by omega) i.a k2 hin h3 hpath
            · obtain ⟨m, hm, hpm⟩ := h5.path h4 hpath
              exact ihn m hm i2 i.a k2 hin h3 hpm
        · exact ⟨_, .stop hx hc⟩
  intro x hx
  rcases writer_all f x with ⟨k, a, h⟩ | h
  · obtain ⟨b, i, e1, _⟩ := h.1
    obtain ⟨n, hn⟩ := (hp.1 k (List.getElem?_eq_some_iff.1 e1).1).path
    exact key n a x k hx h hn
  · exact none x hx h
end Go.Proofs.Ytnfkdilmoppbpaa

/- What an instruction reads, as the program says it. No program is in sight here. -/
namespace Go.Proofs.Ytnfkdilmoppbpaa
open Go.Ax
theorem bits {op : Int} (ho : opF op = true) : (band (hasF op) 2 ≠ 0 ↔ (abF op || oneF op) = true) ∧ (band (hasF op) 4 ≠ 0 ↔ abF op = true) ∧ (band (hasF op) 8 ≠ 0 ↔ op = 30) ∧ (band (hasF op) 2048 = 0 ↔ op ≠ 45) := by
  unfold opF at ho
  simp at ho
  have hh : (3 ≤ op ∧ op ≤ 16) ∨ (23 ≤ op ∧ op ≤ 28) ∨ op = 20 ∨ op = 21 ∨ op = 22 ∨ op = 29 ∨ op = 30 ∨ op = 31 ∨ op = 32 ∨ op = 33 ∨ op = 34 ∨ op = 35 ∨ op = 36 ∨ op = 37 ∨ op = 38 ∨ op = 39 ∨ op = 40 ∨ op = 41 ∨ op = 42 ∨ op = 43 ∨ op = 44 ∨ op = 45 := by omega
  unfold abF oneF twoF
  rcases hh with h | h | h | h | h | h | h | h | h | h | h | h | h | h | h | h | h | h | h | h | h | h
  · obtain ⟨b1, b2, b4, b8, b16, b32, b64, b128, b256, b512, b1024, b2048⟩ := bd7
    rw [show hasF op = 7 by unfold hasF; rw [if_pos (by omega)], b2, b4, b8, b2048]; simp; omega
  · obtain ⟨b1, b2, b4, b8, b16, b32, b64, b128, b256, b512, b1024, b2048⟩ := bd3
    rw [show hasF op = 3 by unfold hasF; rw [if_neg (by omega), if_pos (by omega)], b2, b4, b8, b2048]; simp; omega
  all_goals (rw [h]; decide)
def usesA (i : Ins) : List Int := if band (hasF i.op) 2 ≠ 0 then [i.a] else []
def usesB (i : Ins) : List Int := if band (hasF i.op) 4 ≠ 0 ∧ (band (hasF i.op) 2048 = 0 ∨ i.m ≠ 21) then [i.b] else []
def usesC (i : Ins) : List Int := if band (hasF i.op) 8 ≠ 0 then [i.c] else []
theorem uses_eq {i : Ins} (h : rightF i = true) : usesF i = usesA i ++ (usesB i ++ (usesC i ++ i.args)) := by
  rw [right_eq] at h
  have ho : opF i.op = true := by unfold right15 at h; simp at h; exact h.1
  obtain ⟨h1, h2, h3, h4⟩ := bits ho
  unfold usesF usesA usesB usesC
  rw [if_pos h]
  have hb : bF i = true ↔ (band (hasF i.op) 4 ≠ 0 ∧ (band (hasF i.op) 2048 = 0 ∨ i.m ≠ 21)) := by
    rw [h2, h4]; unfold bF; simp
  congr 1
  · by_cases e : (abF i.op || oneF i.op) = true
    · rw [if_pos e, if_pos (h1.2 e)]
    · rw [if_neg e, if_neg fun x => e (h1.1 x)]
  · congr 1
    · by_cases e : bF i = true
      · rw [if_pos e, if_pos (hb.1 e)]
      · rw [if_neg e, if_neg fun x => e (hb.2 x)]
    · congr 1
      by_cases e : i.op = 30
      · rw [if_pos e, if_pos (h3.2 e)]
      · rw [if_neg e, if_neg fun x => e (h3.1 x)]
theorem usesA_len (i : Ins) : (usesA i).length ≤ 1 := by unfold usesA; split <;> simp
theorem usesB_len (i : Ins) : (usesB i).length ≤ 1 := by unfold usesB; split <;> simp
theorem usesC_len (i : Ins) : (usesC i).length ≤ 1 := by unfold usesC; split <;> simp
end Go.Proofs.Ytnfkdilmoppbpaa

/- Where blocks go and come from, as the program reckons it: lists that are filled. No program is in sight here. -/
namespace Go.Proofs.Ytnfkdilmoppbpaa
open Go.Ax
/-- Lists, the first ones of which are done. -/
def outS {α : Type} (s : List (List α)) (k : Nat) : List (List α) := s.take k ++ List.replicate (s.length - k) []
theorem outS_len {α : Type} (s : List (List α)) {k : Nat} (h : k ≤ s.length) : (outS s k).length = s.length := by
  unfold outS; rw [List.length_append, List.length_take, List.length_replicate]; omega
theorem outS_at {α : Type} (s : List (List α)) {k : Nat} (h : k < s.length) : (outS s k)[k]? = some [] := by
  unfold outS
  rw [List.getElem?_append_right (by rw [List.length_take]; omega), List.length_take, List.getElem?_replicate, if_pos (by omega)]
theorem outS_succ {α : Type} {s : List (List α)} {k : Nat} {l : List α} (h : s[k]? = some l) : outS s (k + 1) = (outS s k).set k l := by
  have hk := (List.getElem?_eq_some_iff.1 h).1
  unfold outS
  rw [take_succ h, show s.length - k = (s.length - (k + 1)) + 1 by omega, List.replicate_succ, List.set_append_right _ _ (by rw [List.length_take]; omega), List.length_take, show k - min k s.length = 0 by omega, List.append_assoc]
  rfl
theorem outS_all {α : Type} (s : List (List α)) : outS s s.length = s := by unfold outS; simp
theorem outS_nil {α : Type} {s : List (List α)} {k : Nat} (h : s[k]? = some []) : outS s (k + 1) = outS s k := by
  have hk := (List.getElem?_eq_some_iff.1 h).1
  rw [outS_succ h]
  refine List.ext_getElem? fun j => ?_
  rw [List.getElem?_set]
  split
  · rename_i e; subst e; rw [if_pos (by rw [outS_len s (by omega)]; exact hk), outS_at s hk]
  · rfl
theorem set_at {α : Type} {s : List α} {k : Nat} {a b : α} (h : s[k]? = some b) : (s.set k a)[k]? = some a := by
  rw [List.getElem?_set_self (List.getElem?_eq_some_iff.1 h).1]
theorem below_succ {n : Nat} {l : List Int} {j : Nat} {t : Int} (h : l[j]? = some t) : below n (l.take (j + 1)) = if t < n then below n (l.take j) ++ [t] else below n (l.take j) := by
  unfold below
  rw [take_succ h, List.filter_append]
  split <;> simp_all
theorem below_len (n : Nat) (l : List Int) : (below n l).length ≤ l.length := List.length_filter_le _ _
/-- The blocks that go to each one, up to a block, and to a place in its list. -/
def predP (s : List (List Int)) (k j : Nat) (t : Nat) : List Int := ((List.range k).flatMap fun a : Nat => ((s[a]?.getD []).filter (· = (t : Int))).map fun _ => (a : Int)) ++ (((s[k]?.getD []).take j).filter (· = (t : Int))).map fun _ => (k : Int)
def predsP (s : List (List Int)) (k j : Nat) : List (List Int) := (List.range s.length).map fun t => predP s k j t
theorem predsP_len (s : List (List Int)) (k j : Nat) : (predsP s k j).length = s.length := by unfold predsP; simp
theorem predsP_zero (s : List (List Int)) : predsP s 0 0 = List.replicate s.length [] := by
  unfold predsP predP
  refine List.ext_getElem (by simp) fun i h1 h2 => ?_
  simp
theorem predsP_at {s : List (List Int)} {k j t : Nat} (h : t < s.length) : (predsP s k j)[t]? = some (predP s k j t) := by
  unfold predsP; rw [List.getElem?_map, List.getElem?_range h]; rfl
theorem predP_step {s : List (List Int)} {k j : Nat} {l : List Int} {t : Int} (hl : s[k]? = some l) (ht : l[j]? = some t) (u : Nat) : predP s k (j + 1) u = if (u : Int) = t then predP s k j u ++ [(k : Int)] else predP s k j u := by
  unfold predP
  simp only [hl, Option.getD_some]
  rw [take_succ ht, List.filter_append, List.map_append]
  by_cases e : (u : Int) = t
  · subst e; simp
  · rw [if_neg e]
    have : ¬ t = (u : Int) := fun h => e h.symm
    simp [this]
theorem predsP_step {s : List (List Int)} {k j : Nat} {l : List Int} {t : Nat} (hl : s[k]? = some l) (ht : l[j]? = some (t : Int)) (h : t < s.length) : predsP s k (j + 1) = (predsP s k j).set t (predP s k j t ++ [(k : Int)]) := by
  refine List.ext_getElem? fun u => ?_
  rw [List.getElem?_set]
  by_cases hu : u < s.length
  · rw [predsP_at hu, predP_step hl ht]
    by_cases e : t = u
    · subst e; rw [if_pos rfl, if_pos rfl, if_pos (by rw [predsP_len]; exact h)]
    · rw [if_neg (by omega), if_neg e, predsP_at hu]
  · rw [List.getElem?_eq_none (by rw [predsP_len]; omega)]
    rw [if_neg (by omega), List.getElem?_eq_none (by rw [predsP_len]; omega)]
theorem predsP_next {s : List (List Int)} {k : Nat} {l : List Int} (hl : s[k]? = some l) : predsP s k l.length = predsP s (k + 1) 0 := by
  unfold predsP
  refine List.map_congr_left fun t _ => ?_
  unfold predP
  rw [List.range_succ, List.flatMap_append]
  simp [hl]
theorem predP_len {s : List (List Int)} (hs : ∀ l ∈ s, l.length ≤ 2) (k j t : Nat) : (predP s k j t).length ≤ 2 * k + 2 := by
  have h1 : ∀ a : Nat, (s[a]?.getD []).length ≤ 2 := fun a => by
    cases h : s[a]? with
    | none => simp
    | some l => exact hs l (List.mem_of_getElem? h)
  unfold predP
  rw [List.length_append, List.length_map]
  have h2 : (((s[k]?.getD []).take j).filter (· = (t : Int))).length ≤ 2 := Nat.le_trans (List.length_filter_le _ _) (Nat.le_trans (by rw [List.length_take]; omega) (h1 k))
  have h3 : ∀ k : Nat, ((List.range k).flatMap fun a : Nat => ((s[a]?.getD []).filter (· = (t : Int))).map fun _ => (a : Int)).length ≤ 2 * k := by
    intro k
    induction k with
    | zero => simp
    | succ k ih =>
      rw [List.range_succ, List.flatMap_append, List.length_append]
      have := Nat.le_trans (List.length_filter_le (· = (t : Int)) (s[k]?.getD [])) (h1 k)
      simp only [List.flatMap_cons, List.flatMap_nil, List.append_nil, List.length_map]
      omega
  have := h3 k
  omega
theorem filter_nodup {l : List Int} (h : l.Nodup) (t : Int) (a : Int) : ((l.filter (· = t)).map fun _ => a) = if t ∈ l then [a] else [] := by
  induction l with
  | nil => simp
  | cons x l ih =>
    obtain ⟨h1, h2⟩ := List.nodup_cons.1 h
    by_cases e : x = t
    · subst e
      have : l.filter (· = x) = [] := List.filter_eq_nil_iff.2 fun y hy => by
        simp only [decide_eq_true_eq]
        exact fun e => h1 (e ▸ hy)
      simp [this]
    · rw [List.filter_cons_of_neg (by simpa using e), ih h2]
      have : ¬ t = x := fun h => e h.symm
      simp [this]
/-- Each list names none twice: then so do these. -/
theorem predP_eq {s : List (List Int)} (hs : ∀ l ∈ s, l.Nodup) (t : Nat) : ∀ k, predP s k 0 t = predOf s t k
  | 0 => by unfold predP predOf; simp
  | k + 1 => by
    have ih := predP_eq hs t k
    unfold predP predOf at *
    rw [List.range_succ, List.flatMap_append, List.filter_append, List.map_append, ← ih]
    simp only [List.take_zero, List.filter_nil, List.map_nil, List.append_nil, List.flatMap_cons, List.flatMap_nil, List.filter_cons, List.filter_nil]
    congr 1
    have h2 : (s[k]?.getD []).Nodup := by
      cases h : s[k]? with
      | none => simp
      | some l => exact hs l (List.mem_of_getElem? h)
    rw [filter_nodup h2]
    by_cases e : (t : Int) ∈ s[k]?.getD []
    · simp [e]
    · simp [e]
theorem targetsF_nodup (i : Ins) : (targetsF i).Nodup := by
  unfold targetsF
  split
  · simp
  · split
    · rename_i h
      have h2 := h.1
      unfold right15 tailF tailA at h2
      simp [h.2] at h2
      simp
      omega
    · simp
theorem succsF_nodup (f : Fun) : ∀ l ∈ succsF f, l.Nodup := by
  intro l hl
  unfold succsF at hl
  obtain ⟨b, _, rfl⟩ := List.mem_map.1 hl
  unfold succ1
  split
  · exact (targetsF_nodup _).filter _
  · simp
/-- The blocks that go to each one, as often as they do. -/
def predsD (s : List (List Int)) : List (List Int) := predsP s s.length 0
theorem predsD_eq (f : Fun) : predsD (succsF f) = predsF (succsF f) := by
  unfold predsD predsP predsF
  exact List.map_congr_left fun t _ => predP_eq (succsF_nodup f) t _
theorem predsD_len (s : List (List Int)) : (predsD s).length = s.length := predsP_len _ _ _
end Go.Proofs.Ytnfkdilmoppbpaa

/- What a block's branch tells, as the program reckons it. No program is in sight here. -/
namespace Go.Proofs.Ytnfkdilmoppbpaa
open Go.Ax
def againstF (op : Int) : Int := if op = 3 then 4 else if op = 4 then 3 else if op = 5 then 8 else if op = 8 then 5 else if op = 6 then 7 else if op = 7 then 6 else 0
def turnedF (op : Int) : Int := if op = 3 ∨ op = 4 then op else if op = 5 then 7 else if op = 7 then 5 else if op = 6 then 8 else if op = 8 then 6 else 0
/-- Is a register written in a list? -/
def wrF (b : List Ins) (r : Int) : Bool := b.any fun i => decide (defF i = r)
/-- Who of the first ones writes a register last. -/
def lastW (b : List Ins) (x : Int) : Nat → Option Nat
  | 0 => none
  | n + 1 => match b[n]? with
    | some i => if defF i = x then some n else lastW b x n
    | none => lastW b x n
theorem lastW_hit {b : List Ins} {x : Int} {n : Nat} {i : Ins} (gi : b[n]? = some i) (h : defF i = x) : lastW b x (n + 1) = some n := by simp only [lastW, gi]; exact if_pos h
theorem lastW_miss {b : List Ins} {x : Int} {n : Nat} {i : Ins} (gi : b[n]? = some i) (h : defF i ≠ x) : lastW b x (n + 1) = lastW b x n := by simp only [lastW, gi]; exact if_neg h
theorem lastW_some {b : List Ins} {x : Int} : ∀ {n m : Nat}, lastW b x n = some m → m < n ∧ ∃ i, b[m]? = some i ∧ defF i = x
  | 0, m, h => by cases h
  | n + 1, m, h => by
    simp only [lastW] at h
    split at h
    · rename_i i gi
      split at h
      · cases h; exact ⟨by omega, i, gi, by assumption⟩
      · obtain ⟨h1, h2⟩ := lastW_some h; exact ⟨by omega, h2⟩
    · obtain ⟨h1, h2⟩ := lastW_some h; exact ⟨by omega, h2⟩
/-- What was asked ahead of a block's end, and whether it tells something. -/
def askAt (f : Fun) (b : List Ins) (m : Nat) : Ins × Bool := match b[m]? with
  | some i => (i, !((usesF i).any fun u => wrF (b.drop (m + 1)) u) && (decide (i.op = 26) || (decide (3 ≤ i.op ∧ i.op ≤ 8) && decide (f.regs.getD i.a.toNat 0 = 1))))
  | none => (Ins.none, false)
def askF (f : Fun) (b : List Ins) : Ins × Bool := match lastW b (b.getLastD Ins.none).a (b.length - 1) with
  | some m => askAt f b m
  | none => (Ins.none, false)
end Go.Proofs.Ytnfkdilmoppbpaa

/- What is inserted into a function, as the program reckons it. No program is in sight here. -/
namespace Go.Proofs.Ytnfkdilmoppbpaa
open Go.Ax
def Ins.ocs (i : Ins) : List AV := [num i.op, num i.dst, num i.a, num i.b, num i.c, num i.n, num i.m, num i.site, .osl 1 (i.args.map int1)]
def oblk (b : List Ins) : List AV := [.osl 9 (b.map Ins.ocs)]
def Fun.ocs (f : Fun) : List AV := [.lit (.string f.name), num f.params, num f.ret, .osl 1 (f.regs.map int1), .osl 1 (f.blocks.map oblk)]
def piIns (x y m : Int) : Ins := ⟨45, x, x, y, 0, 0, m, 0, []⟩
def tellI (op : Int) (i : Ins) : List Ins := if op = 4 then [] else piIns i.a i.b op :: if i.a = i.b then [] else [piIns i.b i.a (turnedF op)]
def tellB (f : Fun) (k : Nat) (b : List Ins) : List Ins :=
  if (b.getLastD Ins.none).op ≠ 42 then [] else
  if (askF f b).2 = false then [] else
  if (askF f b).1.op = 26 then (if (b.getLastD Ins.none).n = k then [] else [piIns (askF f b).1.a 0 21]) else
  tellI (if (b.getLastD Ins.none).n = k then (askF f b).1.op else againstF (askF f b).1.op) (askF f b).1
/-- What stands at a block's beginning. -/
def toldF (f : Fun) (k : Nat) (p : List (List Int)) : List Ins := if k = 0 then [] else match p[k]? with
  | some [x] => tellB f k (f.blocks.getD x.toNat [])
  | _ => []
def aft (i : Ins) : List Ins := i :: if i.op = 32 then [piIns i.b i.a 20] else []
def insB (f : Fun) (p : List (List Int)) (k : Nat) (b : List Ins) : List Ins := toldF f k p ++ b.flatMap aft
def insF (f : Fun) : Fun := { f with blocks := f.blocks.mapIdx (insB f (predsF (succsF f))) }
def Fun.okP (f : Fun) : Prop := ∀ b ∈ f.blocks, ∀ i ∈ b, right15 i = true ∧ i.args.length ≤ 1000000 ∧ ∀ u ∈ usesF i, u < f.regs.length
theorem tellI_len (op : Int) (i : Ins) : (tellI op i).length ≤ 2 := by unfold tellI; split <;> (try split) <;> simp
theorem tellB_len (f : Fun) (k : Nat) (b : List Ins) : (tellB f k b).length ≤ 2 := by
  unfold tellB
  repeat' split
  all_goals first | exact tellI_len _ _ | simp
theorem toldF_len (f : Fun) (k : Nat) (p : List (List Int)) : (toldF f k p).length ≤ 2 := by
  unfold toldF
  repeat' split
  all_goals first | exact tellB_len _ _ _ | simp
theorem aft_len (b : List Ins) : (b.flatMap aft).length ≤ 2 * b.length := by
  induction b with
  | nil => simp
  | cons i b ih =>
    rw [List.flatMap_cons, List.length_append, List.length_cons]
    have : (aft i).length ≤ 2 := by unfold aft; split <;> simp
    omega
theorem flatMap_take_succ {α β : Type} {l : List α} {k : Nat} {x : α} (g : α → List β) (h : l[k]? = some x) : (l.take (k + 1)).flatMap g = (l.take k).flatMap g ++ g x := by
  rw [take_succ h, List.flatMap_append]; simp
end Go.Proofs.Ytnfkdilmoppbpaa

/- Going through blocks, each once: what is marked. No program is in sight here. -/
namespace Go.Proofs.Ytnfkdilmoppbpaa
open Go.Ax
def Grows (l l' : List Bool) : Prop := l'.length = l.length ∧ ∀ u : Nat, l[u]? = some true → l'[u]? = some true
theorem Grows.refl {l : List Bool} : Grows l l := ⟨rfl, fun _ h => h⟩
theorem Grows.trans {a b c : List Bool} (h : Grows a b) (g : Grows b c) : Grows a c := ⟨g.1.trans h.1, fun u hu => g.2 u (h.2 u hu)⟩
theorem Grows.set {l : List Bool} {k : Nat} : Grows l (l.set k true) := ⟨by simp, fun _ h => set_keep h⟩
theorem Grows.falses : ∀ {l l' : List Bool}, Grows l l' → falses l' ≤ falses l
  | [], [], _ => Nat.le_refl _
  | [], _ :: _, h => by simp [Grows] at h
  | _ :: _, [], h => by simp [Grows] at h
  | a :: l, b :: l', ⟨h1, h2⟩ => by
    have ih : Go.Proofs.Ytnfkdilmoppbpaa.falses l' ≤ Go.Proofs.Ytnfkdilmoppbpaa.falses l := Grows.falses ⟨by simpa using h1, fun u hu => by simpa using h2 (u + 1) (by simpa using hu)⟩
    have h0 := h2 0
    unfold Go.Proofs.Ytnfkdilmoppbpaa.falses at *
    simp only [List.count_cons]
    cases a <;> cases b <;> simp_all <;> omega
/-- What going into a block comes to. -/
structure Into (s : List (List Int)) (x : Int) (l : List Bool) (k : Int) (l' : List Bool) : Prop where
  grows : Grows l l'
  sound : ∀ u : Nat, l'[u]? = some true → l[u]? = some true ∨ Reaches s x u
  here : k ≠ x → l'[k.toNat]? = some true
  shut : ∀ u : Nat, l'[u]? = some true → l[u]? ≠ some true → ∀ r, s[u]? = some r → ∀ t ∈ r, t ≠ x → l'[t.toNat]? = some true
/-- The same, within its loop. -/
structure Mid (s : List (List Int)) (x : Int) (l : List Bool) (k : Nat) (j : Nat) (l' : List Bool) : Prop where
  grows : Grows (l.set k true) l'
  sound : ∀ u : Nat, l'[u]? = some true → l[u]? = some true ∨ Reaches s x u
  shut : ∀ u : Nat, u ≠ k → l'[u]? = some true → l[u]? ≠ some true → ∀ r, s[u]? = some r → ∀ t ∈ r, t ≠ x → l'[t.toNat]? = some true
  done : ∀ r, s[k]? = some r → ∀ (i : Nat) (t : Int), i < j → r[i]? = some t → t ≠ x → l'[t.toNat]? = some true
theorem Into.stays {s : List (List Int)} {x : Int} {l : List Bool} {k : Int} (h : k ≠ x → l[k.toNat]? = some true) : Into s x l k l :=
  ⟨.refl, fun _ h => .inl h, h, fun u h1 h2 => absurd h1 h2⟩
theorem Mid.start {s : List (List Int)} {x : Int} {l : List Bool} {k : Nat} (h : Reaches s x k) : Mid s x l k 0 (l.set k true) := by
  refine ⟨.refl, fun u hu => ?_, fun u hne hu hn => ?_, fun _ _ i _ hi => absurd hi (Nat.not_lt_zero _)⟩
  · rw [List.getElem?_set] at hu
    split at hu
    · rename_i e; subst e; exact .inr h
    · exact .inl hu
  · rw [List.getElem?_set, if_neg (fun e => hne e.symm)] at hu
    exact absurd hu hn
theorem Mid.next {s : List (List Int)} {x : Int} {l l1 l2 : List Bool} {k j : Nat} {r : List Int} {t : Int} (h : Mid s x l k j l1) (hr : s[k]? = some r) (ht : r[j]? = some t) (hi : Into s x l1 t l2) : Mid s x l k (j + 1) l2 := by
  refine ⟨h.grows.trans hi.grows, fun u hu => ?_, fun u hne hu hn r' hr' t' ht' hx => ?_, fun r' hr' i t' hlt ht' hx => ?_⟩
  · rcases hi.sound u hu with h1 | h1
    · exact h.sound u h1
    · exact .inr h1
  · by_cases h1 : l1[u]? = some true
    · exact hi.grows.2 _ (h.shut u hne h1 hn r' hr' t' ht' hx)
    · exact hi.shut u hu h1 r' hr' t' ht' hx
  · rw [hr] at hr'; cases hr'
    by_cases e : i = j
    · subst e
      rw [ht] at ht'; cases ht'
      exact hi.here hx
    · exact hi.grows.2 _ (h.done r hr i t' (by omega) ht' hx)
theorem Mid.end {s : List (List Int)} {x : Int} {l l1 : List Bool} {k j : Nat} {r : List Int} (h : Mid s x l k j l1) (hr : s[k]? = some r) (hj : r.length ≤ j) (hk : k < l.length) : Into s x l (k : Int) l1 := by
  have hm : l1[k]? = some true := h.grows.2 k (by rw [List.getElem?_set]; simp [hk])
  refine ⟨Grows.set.trans h.grows, h.sound, fun _ => by simpa using hm, fun u hu hn r' hr' t ht hx => ?_⟩
  by_cases e : u = k
  · subst e
    rw [hr] at hr'; cases hr'
    obtain ⟨i, hi⟩ := List.getElem?_of_mem ht
    have := (List.getElem?_eq_some_iff.1 hi).1
    exact h.done r hr i t (by omega) hi hx
  · exact h.shut u e hu hn r' hr' t ht hx
theorem Into.marks {s : List (List Int)} {x : Int} {l' : List Bool} (hs : Closed s) (h : Into s x (List.replicate s.length false) 0 l') : Marks s x l' := by
  have hf : ∀ u : Nat, (List.replicate s.length false)[u]? ≠ some true := fun u hu => by rw [List.getElem?_replicate] at hu; split at hu <;> simp at hu
  refine marks_of hs ⟨by have := h.grows.1; simpa using this, fun u hu => (h.sound u hu).resolve_left (hf u)⟩ (fun _ hx => by have := h.here (fun e => hx e.symm); simpa using this) ?_
  intro a r b t ha hb _ hl hne
  exact h.shut a hl (hf a) r ha t (List.mem_of_getElem? hb) hne
theorem marks_nil {x : Int} : Marks [] x [] := ⟨rfl, fun t => ⟨fun h => by simp at h, fun h => by cases h with | zero h => exact absurd rfl h | step _ h => simp at h⟩⟩
end Go.Proofs.Ytnfkdilmoppbpaa

/- A tidy function, as the program reckons it. No program is in sight here. -/
namespace Go.Proofs.Ytnfkdilmoppbpaa
open Go.Ax
open Classical in
noncomputable def marksF (s : List (List Int)) (x : Int) : List Bool := (List.range s.length).map fun (k : Nat) => decide (Reaches s x k)
theorem marksF_len (s : List (List Int)) (x : Int) : (marksF s x).length = s.length := by unfold marksF; simp
theorem marksF_at {s : List (List Int)} {x : Int} {k : Nat} : (marksF s x)[k]? = some true ↔ k < s.length ∧ Reaches s x k := by
  unfold marksF
  rw [List.getElem?_map]
  by_cases h : k < s.length
  · rw [List.getElem?_range h]; simp [h]
  · rw [List.getElem?_eq_none (by simpa using h)]; simp [h]
theorem Marks.eq {s : List (List Int)} {x : Int} {l : List Bool} (h : Marks s x l) : l = marksF s x := by
  refine List.ext_getElem? fun k => ?_
  by_cases hk : k < s.length
  · obtain ⟨b, hb⟩ : ∃ b, l[k]? = some b := ⟨l[k]'(by rw [h.1]; exact hk), by simp [h.1, hk]⟩
    obtain ⟨c, hc⟩ : ∃ c, (marksF s x)[k]? = some c := ⟨(marksF s x)[k]'(by rw [marksF_len]; exact hk), by simp [marksF_len, hk]⟩
    have h1 := h.2 k
    have h2 := marksF_at (s := s) (x := x) (k := k)
    rw [hb] at h1 ⊢; rw [hc] at h2 ⊢
    cases b <;> cases c <;> simp_all
  · rw [List.getElem?_eq_none (by rw [h.1]; omega), List.getElem?_eq_none (by rw [marksF_len]; omega)]
/-- New numbers. -/
def numF : Int → List Bool → List Int
  | _, [] => []
  | n, true :: l => n :: numF (n + 1) l
  | n, false :: l => -1 :: numF n l
theorem numF_len : ∀ (l : List Bool) (n : Int), (numF n l).length = l.length
  | [], _ => rfl
  | true :: l, n => by simp [numF, numF_len l]
  | false :: l, n => by simp [numF, numF_len l]
theorem numF_app : ∀ (l : List Bool) (n : Int) (b : Bool), numF n (l ++ [b]) = numF n l ++ [if b = true then n + (l.count true : Nat) else -1]
  | [], n, b => by cases b <;> simp [numF]
  | true :: l, n, b => by
    simp only [List.cons_append, numF, numF_app l]
    congr 2
    cases b
    · simp
    · simp; omega
  | false :: l, n, b => by
    simp only [List.cons_append, numF, numF_app l]
    simp
noncomputable def mapF (f : Fun) : List Int := numF 0 (marksF (succsF f) (-1))
theorem mapF_len (f : Fun) : (mapF f).length = f.blocks.length := by unfold mapF; rw [numF_len, marksF_len, succsF_len]
/-- New numbers, so far. -/
def numK (l : List Bool) (k : Nat) : List Int := numF 0 (l.take k) ++ List.replicate (l.length - k) 0
theorem numK_zero (l : List Bool) : numK l 0 = List.replicate l.length 0 := by unfold numK; simp [numF]
theorem numK_all (l : List Bool) : numK l l.length = numF 0 l := by unfold numK; simp
theorem numK_len (l : List Bool) (k : Nat) (h : k ≤ l.length) : (numK l k).length = l.length := by unfold numK; rw [List.length_append, numF_len, List.length_take, List.length_replicate]; omega
theorem numK_at {l : List Bool} {k : Nat} {b : Bool} (h : l[k]? = some b) (v : Int) : (numK l k).set k v = numF 0 (l.take k) ++ v :: List.replicate (l.length - (k + 1)) 0 := by
  have hk := (List.getElem?_eq_some_iff.1 h).1
  unfold numK
  rw [show l.length - k = (l.length - (k + 1)) + 1 by omega, List.replicate_succ, List.set_append_right _ _ (by rw [numF_len, List.length_take]; omega)]
  rw [numF_len, List.length_take, show k - min k l.length = 0 by omega]
  rfl
theorem numK_succ {l : List Bool} {k : Nat} {b : Bool} (h : l[k]? = some b) : (numK l k).set k (if b = true then ((l.take k).count true : Nat) else -1) = numK l (k + 1) := by
  rw [numK_at h]
  unfold numK
  rw [take_succ h, numF_app]
  simp
end Go.Proofs.Ytnfkdilmoppbpaa

/- A tidy function, as the program reckons it. No program is in sight here. -/
namespace Go.Proofs.Ytnfkdilmoppbpaa
open Go.Ax
def fitI (n : Nat) (q : List Int) (i : Ins) : Bool := !(decide (i.op = 44) && decide (i.args.length ≠ q.length)) && (targetsF i).all fun t => decide (t < (n : Int))
/-- Do blocks go to blocks, and have phis their args? -/
def fitsB (f : Fun) (p : List (List Int)) : Bool := (f.blocks.zip p).all fun x => x.1.all (fitI f.blocks.length x.2)
def keptA (m q args : List Int) : List Int := ((q.zip args).filter fun x => decide (0 ≤ m.getD x.1.toNat 0)).map Prod.snd
def movedN (i : Ins) (m : List Int) : Int := match targetsF i with
  | t :: _ => m.getD t.toNat 0
  | [] => i.n
def movedM (i : Ins) (m : List Int) : Int := match targetsF i with
  | _ :: u :: _ => m.getD u.toNat 0
  | _ => i.m
/-- An instruction with the blocks' new numbers. -/
def movedF (i : Ins) (q m : List Int) : Ins := { i with n := movedN i m, m := movedM i m, args := if i.op = 44 then keptA m q i.args else i.args }
def tidyTo (f : Fun) (p : List (List Int)) (m : List Int) : Nat → List (List Ins)
  | 0 => []
  | k + 1 => tidyTo f p m k ++ if 0 ≤ m.getD k 0 then [(f.blocks.getD k []).map fun i => movedF i (p.getD k []) m] else []
noncomputable def tidyF (f : Fun) : Fun := { f with blocks := tidyTo f (predsF (succsF f)) (mapF f) f.blocks.length }
noncomputable def tidyR (f : Fun) : List AV := if fitsB f (predsF (succsF f)) then (tidyF f).ocs else f.cs
theorem tidyTo_len (f : Fun) (p : List (List Int)) (m : List Int) : ∀ k, (tidyTo f p m k).length ≤ k
  | 0 => by simp [tidyTo]
  | k + 1 => by
    have := tidyTo_len f p m k
    simp only [tidyTo, List.length_append]
    split <;> simp <;> omega
theorem keptA_app {m q args : List Int} {j : Nat} {x a : Int} (hq : q[j]? = some x) (ha : args[j]? = some a) :
    keptA m (q.take (j + 1)) (args.take (j + 1)) = keptA m (q.take j) (args.take j) ++ if 0 ≤ m.getD x.toNat 0 then [a] else [] := by
  unfold keptA
  have hj1 := (List.getElem?_eq_some_iff.1 hq).1
  have hj2 := (List.getElem?_eq_some_iff.1 ha).1
  rw [take_succ hq, take_succ ha, List.zip_append (by rw [List.length_take, List.length_take]; omega), List.filter_append, List.map_append]
  congr 1
  by_cases h : 0 ≤ m.getD x.toNat 0
  · rw [if_pos h]; simp at h; simp [h]
  · rw [if_neg h]; simp at h; simp; omega
theorem keptA_len (m q args : List Int) : (keptA m q args).length ≤ args.length := by
  unfold keptA
  rw [List.length_map]
  have := List.length_filter_le (fun x : Int × Int => decide (0 ≤ m.getD x.1.toNat 0)) (q.zip args)
  rw [List.length_zip] at this
  omega
end Go.Proofs.Ytnfkdilmoppbpaa

/- Where nothing is wrong, blocks go to blocks. No program is in sight here. -/
namespace Go.Proofs.Ytnfkdilmoppbpaa
open Go.Ax
theorem proP.right {p : Pro} {f : Fun} (h : proP p) (hf : f ∈ p.funcs) : ∀ b ∈ f.blocks, ∀ i ∈ b, right15 i = true := by
  intro b hb i hi
  obtain ⟨k, gb⟩ := List.getElem?_of_mem hb
  obtain ⟨j, gi⟩ := List.getElem?_of_mem hi
  exact (((h.2.2.2 f hf).2 k b gb).2 j i gi).1.1
theorem proP.fit {p : Pro} {f : Fun} (h : proP p) (hf : f ∈ p.funcs) : fitsB f (predsF (succsF f)) = true := by
  unfold fitsB
  rw [List.all_eq_true]
  rintro ⟨b, q⟩ hx
  obtain ⟨k, hk⟩ := List.getElem?_of_mem hx
  rw [List.getElem?_zip_eq_some] at hk
  obtain ⟨gb, gq⟩ := hk
  have hkl := (List.getElem?_eq_some_iff.1 gb).1
  have hq : q = predOf (succsF f) k (succsF f).length := by
    unfold predsF at gq
    rw [List.getElem?_map, List.getElem?_range (by rw [succsF_len]; exact hkl)] at gq
    exact (Option.some.inj gq).symm
  rw [List.all_eq_true]
  intro i hi
  obtain ⟨j, gi⟩ := List.getElem?_of_mem hi
  have h1 := ((h.2.2.2 f hf).2 k b gb).2 j i gi
  unfold fitI
  rw [Bool.and_eq_true]
  constructor
  · rw [Bool.not_eq_true', Bool.and_eq_false_iff, decide_eq_false_iff_not, decide_eq_false_iff_not]
    by_cases e : i.op = 44
    · right
      have h2 := h1.2.1.2.2.2.2.2 e
      rw [hq, predCount_len f k hkl]
      simp only [ne_eq, Decidable.not_not]
      omega
    · exact .inl e
  · rw [List.all_eq_true]
    intro t ht
    exact decide_eq_true (h1.2.1.2.2.1 t ht).2
theorem fzm (l : List Int) : AV.fzLL (l.map int1) = l.map int1 := fzLL_map (enc2 := int1) (fun _ => rfl) l
theorem fz_iocs (i : Ins) : AV.fzL i.ocs = i.cs := by
  show [_, _, _, _, _, _, _, _, AV.sl false 1 (AV.fzLL (i.args.map int1))] = _
  rw [fzm]; rfl
theorem fz_oblk (b : List Ins) : AV.fzL (oblk b) = blk b := by
  show AV.sl false 9 (AV.fzLL (b.map Ins.ocs)) :: _ = _
  rw [fzLL_map fz_iocs]; rfl
theorem fz_focs (f : Fun) : AV.fzL f.ocs = f.cs := by
  show [_, _, _, AV.sl false 1 (AV.fzLL (f.regs.map int1)), AV.sl false 1 (AV.fzLL (f.blocks.map oblk))] = _
  rw [fzm, fzLL_map fz_oblk]; rfl
theorem tidyR_fit {f : Fun} (h : fitsB f (predsF (succsF f)) = true) : tidyR f = (tidyF f).ocs := by unfold tidyR; rw [if_pos h]
theorem fz_site (s : Int × Int) : AV.fzL (site s) = site s := rfl
theorem tidyTo_mem (f : Fun) (p : List (List Int)) (m : List Int) : ∀ (k : Nat), ∀ c ∈ tidyTo f p m k, ∃ (n : Nat) (b : List Ins), n < k ∧ c = b.map (fun i => movedF i (p.getD n []) m) ∧ b = f.blocks.getD n []
  | 0, c, h => by simp [tidyTo] at h
  | k + 1, c, h => by
    simp only [tidyTo, List.mem_append] at h
    rcases h with h | h
    · obtain ⟨n, b, h1, h2, h3⟩ := tidyTo_mem f p m k c h
      exact ⟨n, b, by omega, h2, h3⟩
    · split at h
      · simp only [List.mem_singleton] at h
        exact ⟨k, _, by omega, h, rfl⟩
      · simp at h
/-- A tidy function is no greater. -/
theorem tidyF_fits {f : Fun} (hf : f.fits) (hb : ∀ b ∈ f.blocks, b.length ≤ 1000000 ∧ ∀ i ∈ b, i.args.length ≤ 1000000) : (tidyF f).fits ∧ (tidyF f).blocks.length ≤ f.blocks.length ∧ ∀ b ∈ (tidyF f).blocks, b.length ≤ 1000000 ∧ ∀ i ∈ b, i.args.length ≤ 1000000 := by
  have h1 := tidyTo_len f (predsF (succsF f)) (mapF f) f.blocks.length
  have key : ∀ b ∈ (tidyF f).blocks, b.length ≤ 1000000 ∧ ∀ i ∈ b, i.args.length ≤ 1000000 := by
    intro c hc
    obtain ⟨n, b, hn, rfl, hbe⟩ := tidyTo_mem f _ _ _ c hc
    have hbm : b ∈ f.blocks := by rw [hbe, List.getD_eq_getElem?_getD, List.getElem?_eq_getElem hn]; exact List.getElem_mem hn
    refine ⟨by rw [List.length_map]; exact (hb b hbm).1, fun i hi => ?_⟩
    obtain ⟨x, hx, rfl⟩ := List.mem_map.1 hi
    have h2 := (hb b hbm).2 x hx
    show (if x.op = 44 then keptA _ _ x.args else x.args).length ≤ _
    split
    · have := keptA_len (mapF f) ((predsF (succsF f)).getD n []) x.args; omega
    · exact h2
  refine ⟨⟨?_, hf.2.1, fun b hb2 => ⟨?_, fun i hi => ?_⟩⟩, h1, key⟩
  · have := hf.1; show (tidyTo _ _ _ _).length < _; omega
  · have := (key b hb2).1; omega
  · have := (key b hb2).2 i hi; unfold Ins.fits; omega
end Go.Proofs.Ytnfkdilmoppbpaa
