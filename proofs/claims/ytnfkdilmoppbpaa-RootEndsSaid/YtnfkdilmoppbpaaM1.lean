/- Instructions, functions and programs, as plain data; what an instruction is. No program is in sight here. -/
import Derived.Test.YtnfkdilmoppbpaaAxZ
namespace Go.Proofs.Ytnfkdilmoppbpaa
open Go.Ax

def int1 (n : Int) : List AV := [.lit (.int .i64 n)]
def ints (l : List Int) : AV := .sl false 1 (l.map int1)
def num (n : Int) : AV := .lit (.int .i64 n)
def tru (b : Bool) : AV := .lit (.bool b)

structure Ins where
  op : Int
  dst : Int
  a : Int
  b : Int
  c : Int
  n : Int
  m : Int
  site : Int
  args : List Int
deriving DecidableEq

def Ins.cs (i : Ins) : List AV := [num i.op, num i.dst, num i.a, num i.b, num i.c, num i.n, num i.m, num i.site, ints i.args]
def insA (i : Ins) : AV := .agg i.cs

structure Fun where
  name : ByteArray
  params : Int
  ret : Int
  regs : List Int
  blocks : List (List Ins)

structure Pro where
  funcs : List Fun
  main : Int
  sites : List (Int × Int)

def blk (b : List Ins) : List AV := [.sl false 9 (b.map Ins.cs)]
def Fun.cs (f : Fun) : List AV := [.lit (.string f.name), num f.params, num f.ret, ints f.regs, .sl false 1 (f.blocks.map blk)]
def funA (f : Fun) : AV := .agg f.cs
def site (s : Int × Int) : List AV := [num s.1, num s.2]
def Pro.cs (p : Pro) : List AV := [.sl false 5 (p.funcs.map Fun.cs), num p.main, .sl false 2 (p.sites.map site)]
def proA (p : Pro) : AV := .agg p.cs

def Fun.count (f : Fun) : Nat := (f.blocks.map List.length).sum
def Pro.count (p : Pro) : Nat := (p.funcs.map Fun.count).sum

/-- The lists are no longer than a machine's. -/
def Ins.fits (i : Ins) : Prop := i.args.length < 9223372036854775807
def Fun.fits (f : Fun) : Prop := f.blocks.length < 9223372036854775807 ∧ f.regs.length < 9223372036854775807 ∧ ∀ b ∈ f.blocks, b.length < 9223372036854775807 ∧ ∀ i ∈ b, i.fits
def Pro.fits (p : Pro) : Prop := p.funcs.length < 9223372036854775807 ∧ p.sites.length < 9223372036854775807 ∧ ∀ f ∈ p.funcs, f.fits

theorem sum_take_succ {l : List Nat} {k n : Nat} (h : l[k]? = some n) : (l.take (k + 1)).sum = (l.take k).sum + n := by
  rw [List.take_add_one, h, List.sum_append]; simp
theorem sum_take_le {l : List Nat} {k : Nat} : (l.take k).sum ≤ l.sum := by
  have := congrArg List.sum (List.take_append_drop k l)
  rw [List.sum_append] at this; omega
theorem take_succ {α : Type} {l : List α} {k : Nat} {x : α} (h : l[k]? = some x) : l.take (k + 1) = l.take k ++ [x] := by
  rw [List.take_add_one, h]; rfl
theorem all_take_succ {α : Type} {l : List α} {k : Nat} {x : α} {q : α → Prop} (h : l[k]? = some x) (h1 : ∀ y ∈ l.take k, q y) (h2 : q x) : ∀ y ∈ l.take (k + 1), q y := by
  intro y hy
  rw [take_succ h] at hy
  rcases List.mem_append.1 hy with hy | hy
  · exact h1 y hy
  · simp at hy; subst hy; exact h2
theorem take_all {α : Type} {l : List α} {k : Nat} (h : l.length ≤ k) : l.take k = l := List.take_of_length_le h

/-- Few: what 16's bound asks. -/
def Fun.few (f : Fun) (most : Int) : Prop := f.regs.length ≤ 100 ∧ (f.blocks.length : Int) ≤ most ∧ f.name.size ≤ 100 ∧ ∀ b ∈ f.blocks, ∀ i ∈ b, i.args.length ≤ 40
def Pro.few (p : Pro) (most : Int) : Prop := p.funcs.length ≤ 10 ∧ p.sites.length ≤ 200 ∧ (p.count : Int) ≤ most ∧ ∀ f ∈ p.funcs, f.few most
def Pro.light (p : Pro) : Prop := ∀ f ∈ p.funcs, f.blocks.length ≤ 1000 → f.count ≤ 100000000000000000

theorem Pro.count_le (p : Pro) (h : p.funcs.length ≤ 10) (c : Nat) (hc : ∀ f ∈ p.funcs, f.count ≤ c) : p.count ≤ p.funcs.length * c := by
  have : ∀ l : List Fun, (∀ f ∈ l, f.count ≤ c) → (l.map Fun.count).sum ≤ l.length * c := by
    intro l
    induction l with
    | nil => simp
    | cons f l ih =>
      intro h
      have h1 := h f (List.mem_cons_self ..)
      have h2 := ih fun g hg => h g (List.mem_cons_of_mem _ hg)
      simp only [List.map_cons, List.sum_cons, List.length_cons, Nat.add_mul]; omega
  exact this _ hc

theorem Fun.count_take (f : Fun) (k : Nat) : ((f.blocks.map List.length).take k).sum ≤ f.count := sum_take_le
theorem Fun.len_le {f : Fun} {b : List Ins} (h : b ∈ f.blocks) : b.length ≤ f.count := by
  obtain ⟨k, hk, rfl⟩ := List.getElem_of_mem h
  have h1 : (f.blocks.map List.length)[k]? = some f.blocks[k].length := by simp [List.getElem?_eq_getElem hk]
  have := sum_take_succ h1
  have := f.count_take (k + 1)
  omega
theorem Pro.count_fun {p : Pro} {f : Fun} (h : f ∈ p.funcs) : f.count ≤ p.count := by
  obtain ⟨k, hk, rfl⟩ := List.getElem_of_mem h
  have h1 : (p.funcs.map Fun.count)[k]? = some p.funcs[k].count := by simp [List.getElem?_eq_getElem hk]
  have := sum_take_succ h1
  have : ((p.funcs.map Fun.count).take (k + 1)).sum ≤ p.count := sum_take_le
  omega

/-- What an Op has. -/
def hasTable : List (Int × Int) := [(20, 17), (21, 33), (22, 1), (30, 14), (31, 258), (32, 262), (33, 262), (34, 262), (35, 262), (36, 258), (37, 262), (38, 258), (39, 577), (40, 2), (41, 64), (42, 194), (43, 2), (44, 1537), (45, 2055)]
def hasF (op : Int) : Int := if (3 ≤ op ∧ op ≤ 16) ∨ op = 29 then 7 else if 23 ≤ op ∧ op ≤ 28 then 3 else (mget hasTable op).getD 0
def tellsF (m : Int) : Bool := (decide (3 ≤ m) && decide (m ≤ 8)) || decide (m = 20) || decide (m = 21)
/-- Two numbers' common bits. -/
def band (x y : Int) : Int := IntKind.i64.wrap (BitVec.ofInt IntKind.i64.bits x &&& BitVec.ofInt IntKind.i64.bits y).toNat
def fieldsA (i : Ins) (h : Int) : Bool := if band h 16 ≠ 0 then true else if band h 32 ≠ 0 then decide (i.n = 0 ∨ i.n = 1) else decide (0 ≤ i.n ∧ (band h 64 = 0 → i.n = 0))
def fieldsB (i : Ins) (h : Int) : Bool := if band h 128 ≠ 0 then decide (0 ≤ i.m ∧ i.m ≠ i.n) else if band h 2048 ≠ 0 then tellsF i.m && decide (i.m = 21 → i.b = 0) else decide (i.m = 0)
def fieldsF (i : Ins) (h : Int) : Bool := fieldsA i h && fieldsB i h
def fitF (h bit v : Int) : Bool := decide (0 ≤ v ∧ (band h bit = 0 → v = 0))
def argsF (i : Ins) (h : Int) : Bool := decide (((band h 512 = 0 → i.args.length = 0) ∧ (band h 1024 ≠ 0 → i.args.length ≠ 0) ∧ (i.op = 39 → i.args.length ≤ 8)) ∧ ∀ x ∈ i.args, 0 ≤ x)
def rightF (i : Ins) : Bool :=
  decide (hasF i.op ≠ 0) && fieldsF i (hasF i.op) && (fitF (hasF i.op) 1 i.dst && fitF (hasF i.op) 2 i.a && fitF (hasF i.op) 4 i.b && fitF (hasF i.op) 8 i.c && fitF (hasF i.op) 256 i.site) && argsF i (hasF i.op)
def defF (i : Ins) : Int := if rightF i = true ∧ band (hasF i.op) 1 ≠ 0 then i.dst else -1
end Go.Proofs.Ytnfkdilmoppbpaa
