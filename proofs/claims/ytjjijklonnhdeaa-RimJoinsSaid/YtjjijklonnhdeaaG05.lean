/- Instructions, functions and programs, as plain data; what an instruction is. No program is in sight here. -/
import Derived.Test.YtjjijklonnhdeaaG03
set_option linter.unusedVariables false
set_option linter.unusedSimpArgs false

namespace Go.Proofs.Ytjjijklonnhdeaa
open Go.Ax

def int1 (n : Int) : List AV := [.lit (.int .i64 n)]
def ints (l : List Int) : AV := .sl false 1 (l.map int1)
def num (n : Int) : AV := .lit (.int .i64 n)
def tru (b : Bool) : AV := .lit (.bool b)

structure Ins where
  op : Int
  dst : Int
  a : Int
  b : Int
  c : Int
  n : Int
  m : Int
  site : Int
  args : List Int
deriving DecidableEq

def Ins.cs (i : Ins) : List AV := [num i.op, num i.dst, num i.a, num i.b, num i.c, num i.n, num i.m, num i.site, ints i.args]
def insA (i : Ins) : AV := .agg i.cs

structure Fun where
  name : ByteArray
  params : Int
  ret : Int
  regs : List Int
  blocks : List (List Ins)

structure Pro where
  funcs : List Fun
  main : Int
  sites : List (Int × Int)

def blk (b : List Ins) : List AV := [.sl false 9 (b.map Ins.cs)]
def Fun.cs (f : Fun) : List AV := [.lit (.string f.name), num f.params, num f.ret, ints f.regs, .sl false 1 (f.blocks.map blk)]
def funA (f : Fun) : AV := .agg f.cs
def site (s : Int × Int) : List AV := [num s.1, num s.2]
def Pro.cs (p : Pro) : List AV := [.sl false 5 (p.funcs.map Fun.cs), num p.main, .sl false 2 (p.sites.map site)]
def proA (p : Pro) : AV := .agg p.cs

def Fun.count (f : Fun) : Nat := (f.blocks.map List.length).sum
def Pro.count (p : Pro) : Nat := (p.funcs.map Fun.count).sum

/-- The lists are no longer than a machine's. -/
def Ins.fits (i : Ins) : Prop := i.args.length < 9223372036854775807
def Fun.fits (f : Fun) : Prop := f.blocks.length < 9223372036854775807 ∧ f.regs.length < 9223372036854775807 ∧ ∀ b ∈ f.blocks, b.length < 9223372036854775807 ∧ ∀ i ∈ b, i.fits
def Pro.fits (p : Pro) : Prop := p.funcs.length < 9223372036854775807 ∧ p.sites.length < 9223372036854775807 ∧ ∀ f ∈ p.funcs, f.fits

theorem sum_take_succ {l : List Nat} {k n : Nat} (h : l[k]? = some n) : (l.take (k + 1)).sum = (l.take k).sum + n := by
  rw [List.take_add_one, h, List.sum_append]; simp
theorem sum_take_le {l : List Nat} {k : Nat} : (l.take k).sum ≤ l.sum := by
  have := congrArg List.sum (List.take_append_drop k l)
  rw [List.sum_append] at this; omega
theorem take_succ {α : Type} {l : List α} {k : Nat} {x : α} (h : l[k]? = some x) : l.take (k + 1) = l.take k ++ [x] := by
  rw [List.take_add_one, h]; rfl
theorem all_take_succ {α : Type} {l : List α} {k : Nat} {x : α} {q : α → Prop} (h : l[k]? = some x) (h1 : ∀ y ∈ l.take k, q y) (h2 : q x) : ∀ y ∈ l.take (k + 1), q y := by
  intro y hy
  rw [take_succ h] at hy
  rcases List.mem_append.1 hy with hy | hy
  · exact h1 y hy
  · simp at hy; subst hy; exact h2
theorem take_all {α : Type} {l : List α} {k : Nat} (h : l.length ≤ k) : l.take k = l := List.take_of_length_le h

/-- Few: what 16's bound asks. -/
def Fun.few (f : Fun) (most : Int) : Prop := f.regs.length ≤ 100 ∧ (f.blocks.length : Int) ≤ most ∧ f.name.size ≤ 100 ∧ ∀ b ∈ f.blocks, ∀ i ∈ b, i.args.length ≤ 40
def Pro.few (p : Pro) (most : Int) : Prop := p.funcs.length ≤ 10 ∧ p.sites.length ≤ 200 ∧ (p.count : Int) ≤ most ∧ ∀ f ∈ p.funcs, f.few most
def Pro.light (p : Pro) : Prop := ∀ f ∈ p.funcs, f.blocks.length ≤ 1000 → f.count ≤ 100000000000000000

theorem Pro.count_le (p : Pro) (h : p.funcs.length ≤ 10) (c : Nat) (hc : ∀ f ∈ p.funcs, f.count ≤ c) : p.count ≤ p.funcs.length * c := by
  have : ∀ l : List Fun, (∀ f ∈ l, f.count ≤ c) → (l.map Fun.count).sum ≤ l.length * c := by
    intro l
    induction l with
    | nil => simp
    | cons f l ih =>
      intro h
      have h1 := h f (List.mem_cons_self ..)
      have h2 := ih fun g hg => h g (List.mem_cons_of_mem _ hg)
      simp only [List.map_cons, List.sum_cons, List.length_cons, Nat.add_mul]; omega
  exact this _ hc

theorem Fun.count_take (f : Fun) (k : Nat) : ((f.blocks.map List.length).take k).sum ≤ f.count := sum_take_le
theorem Fun.len_le {f : Fun} {b : List Ins} (h : b ∈ f.blocks) : b.length ≤ f.count := by
  obtain ⟨k, hk, rfl⟩ := List.getElem_of_mem h
  have h1 : (f.blocks.map List.length)[k]? = some f.blocks[k].length := by simp [List.getElem?_eq_getElem hk]
  have := sum_take_succ h1
  have := f.count_take (k + 1)
  omega
theorem Pro.count_fun {p : Pro} {f : Fun} (h : f ∈ p.funcs) : f.count ≤ p.count := by
  obtain ⟨k, hk, rfl⟩ := List.getElem_of_mem h
  have h1 : (p.funcs.map Fun.count)[k]? = some p.funcs[k].count := by simp [List.getElem?_eq_getElem hk]
  have := sum_take_succ h1
  have : ((p.funcs.map Fun.count).take (k + 1)).sum ≤ p.count := sum_take_le
  omega

/-- What an Op has. -/
def hasTable : List (Int × Int) := [(20, 17), (21, 33), (22, 1), (30, 14), (31, 258), (32, 262), (33, 262), (34, 262), (35, 262), (36, 258), (37, 262), (38, 258), (39, 577), (40, 2), (41, 64), (42, 194), (43, 2), (44, 1537), (45, 2055)]
def hasF (op : Int) : Int := if (3 ≤ op ∧ op ≤ 16) ∨ op = 29 then 7 else if 23 ≤ op ∧ op ≤ 28 then 3 else (mget hasTable op).getD 0
def tellsF (m : Int) : Bool := (decide (3 ≤ m) && decide (m ≤ 8)) || decide (m = 20) || decide (m = 21)
/-- Two numbers' common bits. -/
def band (x y : Int) : Int := IntKind.i64.wrap (BitVec.ofInt IntKind.i64.bits x &&& BitVec.ofInt IntKind.i64.bits y).toNat
def fieldsA (i : Ins) (h : Int) : Bool := if band h 16 ≠ 0 then true else if band h 32 ≠ 0 then decide (i.n = 0 ∨ i.n = 1) else decide (0 ≤ i.n ∧ (band h 64 = 0 → i.n = 0))
def fieldsB (i : Ins) (h : Int) : Bool := if band h 128 ≠ 0 then decide (0 ≤ i.m ∧ i.m ≠ i.n) else if band h 2048 ≠ 0 then tellsF i.m && decide (i.m = 21 → i.b = 0) else decide (i.m = 0)
def fieldsF (i : Ins) (h : Int) : Bool := fieldsA i h && fieldsB i h
def fitF (h bit v : Int) : Bool := decide (0 ≤ v ∧ (band h bit = 0 → v = 0))
def argsF (i : Ins) (h : Int) : Bool := decide (((band h 512 = 0 → i.args.length = 0) ∧ (band h 1024 ≠ 0 → i.args.length ≠ 0) ∧ (i.op = 39 → i.args.length ≤ 8)) ∧ ∀ x ∈ i.args, 0 ≤ x)
def rightF (i : Ins) : Bool :=
  decide (hasF i.op ≠ 0) && fieldsF i (hasF i.op) && (fitF (hasF i.op) 1 i.dst && fitF (hasF i.op) 2 i.a && fitF (hasF i.op) 4 i.b && fitF (hasF i.op) 8 i.c && fitF (hasF i.op) 256 i.site) && argsF i (hasF i.op)
def defF (i : Ins) : Int := if rightF i = true ∧ band (hasF i.op) 1 ≠ 0 then i.dst else -1
end Go.Proofs.Ytjjijklonnhdeaa

/- What an instruction is, as the document's answer says it. No program is in sight here. -/
namespace Go.Proofs.Ytjjijklonnhdeaa
open Go.Ax

def twoF (op : Int) : Bool := decide ((3 ≤ op ∧ op ≤ 16) ∨ op ∈ [(29 : Int), 32, 33, 34, 35, 37])
def oneF (op : Int) : Bool := decide (op ∈ [(23 : Int), 24, 25, 26, 27, 28, 31, 36, 38, 40, 42, 43])
def writesF (op : Int) : Bool := decide ((3 ≤ op ∧ op ≤ 16) ∨ (20 ≤ op ∧ op ≤ 29) ∨ op = 39 ∨ op = 44 ∨ op = 45)
def checkF (op : Int) : Bool := decide (31 ≤ op ∧ op ≤ 38)
def endsF (op : Int) : Bool := decide (41 ≤ op ∧ op ≤ 43)
def trapF (op : Int) : Int := if checkF op = true then (if op = 31 then 1 else if op = 32 then 2 else if op ≤ 36 then 3 else if op = 37 then 4 else 5) else 0
def fits0 (h : Bool) (n : Int) : Bool := decide (n = 0 ∨ (h = true ∧ 0 < n))
/-- Has an Op an A and a B? -/
def abF (op : Int) : Bool := twoF op || decide (op = 30 ∨ op = 45)
def bF (i : Ins) : Bool := abF i.op && decide (i.op ≠ 45 ∨ i.m ≠ 21)
def opF (op : Int) : Bool := decide (3 ≤ op ∧ op ≤ 45 ∧ ¬ (16 < op ∧ op < 20))
def fitsF (i : Ins) : Bool := fits0 (writesF i.op) i.dst && (fits0 (abF i.op || oneF i.op) i.a && (fits0 (bF i) i.b && (fits0 (decide (i.op = 30)) i.c && fits0 (checkF i.op) i.site)))
def tailA (i : Ins) : Bool :=
  if i.op = 20 then decide (i.m = 0)
  else if i.op = 21 then decide (i.m = 0 ∧ (i.n = 0 ∨ i.n = 1))
  else if i.op = 41 then decide (i.m = 0 ∧ 0 ≤ i.n)
  else if i.op = 42 then decide (0 ≤ i.m ∧ 0 ≤ i.n ∧ i.m ≠ i.n)
  else decide (i.n = 0 ∧ i.m = 0)
def tailF (i : Ins) : Bool :=
  if i.op = 39 then decide (0 ≤ i.n ∧ i.m = 0 ∧ i.args.length ≤ 8)
  else if i.op = 44 then decide (i.n = 0 ∧ i.m = 0 ∧ 1 ≤ i.args.length)
  else if i.op = 45 then decide (i.n = 0 ∧ ((3 ≤ i.m ∧ i.m ≤ 8) ∨ i.m = 20 ∨ i.m = 21) ∧ i.args.length = 0)
  else decide (i.args.length = 0) && tailA i
def right15 (i : Ins) : Bool := opF i.op && (fitsF i && (decide (∀ x ∈ i.args, 0 ≤ x) && tailF i))
def usesF (i : Ins) : List Int := if right15 i = true then (if abF i.op || oneF i.op then [i.a] else []) ++ ((if bF i then [i.b] else []) ++ ((if i.op = 30 then [i.c] else []) ++ i.args)) else []
def targetsF (i : Ins) : List Int := if right15 i = true ∧ i.op = 41 then [i.n] else if right15 i = true ∧ i.op = 42 then [i.n, i.m] else []
def def15 (i : Ins) : Int := if right15 i = true ∧ writesF i.op = true then i.dst else -1
theorem bF_eq (i : Ins) : bF i = (twoF i.op || (decide (i.op = 30) || (decide (i.op = 45) && !decide (i.m = 21)))) := by
  unfold bF abF twoF
  rw [Bool.eq_iff_iff]; simp; omega
theorem abF_eq (op : Int) : abF op = (twoF op || (decide (op = 30) || decide (op = 45))) := by
  unfold abF
  rw [Bool.eq_iff_iff]; simp
theorem usesF_len (i : Ins) : (usesF i).length ≤ i.args.length + 3 := by
  unfold usesF; split
  · simp only [List.length_append]; split <;> split <;> split <;> simp <;> omega
  · simp
attribute [irreducible] twoF oneF writesF checkF endsF fits0 abF bF opF
end Go.Proofs.Ytjjijklonnhdeaa

/- What the program says an instruction is, and what the document says, are the same. No program is in sight here. -/
namespace Go.Proofs.Ytjjijklonnhdeaa
open Go.Ax
set_option linter.unusedVariables false
set_option linter.unusedSimpArgs false

theorem hasF_zero {op : Int} (h : opF op = false) : hasF op = 0 := by
  unfold opF at h
  simp at h
  unfold hasF
  rw [if_neg (by omega), if_neg (by omega)]
  simp [hasTable, mget, show ¬ op = 20 by omega, show ¬ op = 21 by omega, show ¬ op = 22 by omega, show ¬ op = 30 by omega, show ¬ op = 31 by omega, show ¬ op = 32 by omega, show ¬ op = 33 by omega, show ¬ op = 34 by omega, show ¬ op = 35 by omega, show ¬ op = 36 by omega, show ¬ op = 37 by omega, show ¬ op = 38 by omega, show ¬ op = 39 by omega, show ¬ op = 40 by omega, show ¬ op = 41 by omega, show ¬ op = 42 by omega, show ¬ op = 43 by omega, show ¬ op = 44 by omega, show ¬ op = 45 by omega]
theorem bd1 : band 1 1 = 1 ∧ band 1 2 = 0 ∧ band 1 4 = 0 ∧ band 1 8 = 0 ∧ band 1 16 = 0 ∧ band 1 32 = 0 ∧ band 1 64 = 0 ∧ band 1 128 = 0 ∧ band 1 256 = 0 ∧ band 1 512 = 0 ∧ band 1 1024 = 0 ∧ band 1 2048 = 0 := by decide
theorem bd2 : band 2 1 = 0 ∧ band 2 2 = 2 ∧ band 2 4 = 0 ∧ band 2 8 = 0 ∧ band 2 16 = 0 ∧ band 2 32 = 0 ∧ band 2 64 = 0 ∧ band 2 128 = 0 ∧ band 2 256 = 0 ∧ band 2 512 = 0 ∧ band 2 1024 = 0 ∧ band 2 2048 = 0 := by decide
theorem bd3 : band 3 1 = 1 ∧ band 3 2 = 2 ∧ band 3 4 = 0 ∧ band 3 8 = 0 ∧ band 3 16 = 0 ∧ band 3 32 = 0 ∧ band 3 64 = 0 ∧ band 3 128 = 0 ∧ band 3 256 = 0 ∧ band 3 512 = 0 ∧ band 3 1024 = 0 ∧ band 3 2048 = 0 := by decide
theorem bd7 : band 7 1 = 1 ∧ band 7 2 = 2 ∧ band 7 4 = 4 ∧ band 7 8 = 0 ∧ band 7 16 = 0 ∧ band 7 32 = 0 ∧ band 7 64 = 0 ∧ band 7 128 = 0 ∧ band 7 256 = 0 ∧ band 7 512 = 0 ∧ band 7 1024 = 0 ∧ band 7 2048 = 0 := by decide
theorem bd14 : band 14 1 = 0 ∧ band 14 2 = 2 ∧ band 14 4 = 4 ∧ band 14 8 = 8 ∧ band 14 16 = 0 ∧ band 14 32 = 0 ∧ band 14 64 = 0 ∧ band 14 128 = 0 ∧ band 14 256 = 0 ∧ band 14 512 = 0 ∧ band 14 1024 = 0 ∧ band 14 2048 = 0 := by decide
theorem bd17 : band 17 1 = 1 ∧ band 17 2 = 0 ∧ band 17 4 = 0 ∧ band 17 8 = 0 ∧ band 17 16 = 16 ∧ band 17 32 = 0 ∧ band 17 64 = 0 ∧ band 17 128 = 0 ∧ band 17 256 = 0 ∧ band 17 512 = 0 ∧ band 17 1024 = 0 ∧ band 17 2048 = 0 := by decide
theorem bd33 : band 33 1 = 1 ∧ band 33 2 = 0 ∧ band 33 4 = 0 ∧ band 33 8 = 0 ∧ band 33 16 = 0 ∧ band 33 32 = 32 ∧ band 33 64 = 0 ∧ band 33 128 = 0 ∧ band 33 256 = 0 ∧ band 33 512 = 0 ∧ band 33 1024 = 0 ∧ band 33 2048 = 0 := by decide
theorem bd64 : band 64 1 = 0 ∧ band 64 2 = 0 ∧ band 64 4 = 0 ∧ band 64 8 = 0 ∧ band 64 16 = 0 ∧ band 64 32 = 0 ∧ band 64 64 = 64 ∧ band 64 128 = 0 ∧ band 64 256 = 0 ∧ band 64 512 = 0 ∧ band 64 1024 = 0 ∧ band 64 2048 = 0 := by decide
theorem bd194 : band 194 1 = 0 ∧ band 194 2 = 2 ∧ band 194 4 = 0 ∧ band 194 8 = 0 ∧ band 194 16 = 0 ∧ band 194 32 = 0 ∧ band 194 64 = 64 ∧ band 194 128 = 128 ∧ band 194 256 = 0 ∧ band 194 512 = 0 ∧ band 194 1024 = 0 ∧ band 194 2048 = 0 := by decide
theorem bd258 : band 258 1 = 0 ∧ band 258 2 = 2 ∧ band 258 4 = 0 ∧ band 258 8 = 0 ∧ band 258 16 = 0 ∧ band 258 32 = 0 ∧ band 258 64 = 0 ∧ band 258 128 = 0 ∧ band 258 256 = 256 ∧ band 258 512 = 0 ∧ band 258 1024 = 0 ∧ band 258 2048 = 0 := by decide
theorem bd262 : band 262 1 = 0 ∧ band 262 2 = 2 ∧ band 262 4 = 4 ∧ band 262 8 = 0 ∧ band 262 16 = 0 ∧ band 262 32 = 0 ∧ band 262 64 = 0 ∧ band 262 128 = 0 ∧ band 262 256 = 256 ∧ band 262 512 = 0 ∧ band 262 1024 = 0 ∧ band 262 2048 = 0 := by decide
theorem bd577 : band 577 1 = 1 ∧ band 577 2 = 0 ∧ band 577 4 = 0 ∧ band 577 8 = 0 ∧ band 577 16 = 0 ∧ band 577 32 = 0 ∧ band 577 64 = 64 ∧ band 577 128 = 0 ∧ band 577 256 = 0 ∧ band 577 512 = 512 ∧ band 577 1024 = 0 ∧ band 577 2048 = 0 := by decide
theorem bd1537 : band 1537 1 = 1 ∧ band 1537 2 = 0 ∧ band 1537 4 = 0 ∧ band 1537 8 = 0 ∧ band 1537 16 = 0 ∧ band 1537 32 = 0 ∧ band 1537 64 = 0 ∧ band 1537 128 = 0 ∧ band 1537 256 = 0 ∧ band 1537 512 = 512 ∧ band 1537 1024 = 1024 ∧ band 1537 2048 = 0 := by decide
theorem bd2055 : band 2055 1 = 1 ∧ band 2055 2 = 2 ∧ band 2055 4 = 4 ∧ band 2055 8 = 0 ∧ band 2055 16 = 0 ∧ band 2055 32 = 0 ∧ band 2055 64 = 0 ∧ band 2055 128 = 0 ∧ band 2055 256 = 0 ∧ band 2055 512 = 0 ∧ band 2055 1024 = 0 ∧ band 2055 2048 = 2048 := by decide
theorem right_of {i : Ins} {h : Int} {w t b s : Bool} (h0 : hasF i.op = h) (hne : h ≠ 0) (ho : opF i.op = true) (hw : writesF i.op = w) (ha : (abF i.op || oneF i.op) = t) (hb : bF i = b) (hs : checkF i.op = s) (e : (fieldsF i h && (fitF h 1 i.dst && fitF h 2 i.a && fitF h 4 i.b && fitF h 8 i.c && fitF h 256 i.site) && argsF i h) = (fits0 w i.dst && (fits0 t i.a && (fits0 b i.b && (fits0 (decide (i.op = 30)) i.c && fits0 s i.site))) && (decide (∀ x ∈ i.args, 0 ≤ x) && tailF i))) : rightF i = right15 i := by
  unfold rightF right15 fitsF
  rw [h0, ho, hw, ha, hb, hs, decide_eq_true hne, Bool.true_and, Bool.true_and, e]
theorem fits0_t (n : Int) : fits0 true n = decide (0 ≤ n) := by unfold fits0; rw [Bool.eq_iff_iff]; simp; omega
theorem fits0_f (n : Int) : fits0 false n = decide (n = 0) := by unfold fits0; simp
theorem len0 {l : List Int} : l.length = 0 → ∀ x ∈ l, 0 ≤ x := fun h => by rw [List.eq_nil_of_length_eq_zero h]; simp
theorem right_3 {i : Ins} (ho : 3 ≤ i.op ∧ i.op ≤ 16) : rightF i = right15 i := by
  have hb : bF i = true := by unfold bF abF twoF; rw [Bool.eq_iff_iff]; simp; omega
  refine right_of (h := 7) (by unfold hasF; rw [if_pos (by omega)]) (by decide) (by unfold opF; simp; omega) (w := true) (by unfold writesF; rw [Bool.eq_iff_iff]; simp; omega) (t := true) (by unfold abF oneF twoF; rw [Bool.eq_iff_iff]; simp; omega) hb (s := false) (by unfold checkF; rw [Bool.eq_iff_iff]; simp; omega) ?_
  obtain ⟨b1, b2, b4, b8, b16, b32, b64, b128, b256, b512, b1024, b2048⟩ := bd7
  simp only [Int.reduceEq, ↓reduceIte, decide_false, decide_true, fits0_t, fits0_f, fieldsF, fieldsA, fieldsB, fitF, argsF, tailF, tailA, tellsF, b1, b2, b4, b8, b16, b32, b64, b128, b256, b512, b1024, b2048, show ¬ i.op = 20 by omega, show ¬ i.op = 21 by omega, show ¬ i.op = 30 by omega, show ¬ i.op = 39 by omega, show ¬ i.op = 41 by omega, show ¬ i.op = 42 by omega, show ¬ i.op = 44 by omega, show ¬ i.op = 45 by omega]
  rw [Bool.eq_iff_iff]
  simp
  have l0 := @len0 i.args
  all_goals first | done | omega | (constructor <;> intro hh <;> simp_all <;> omega) | grind
theorem right_23 {i : Ins} (ho : 23 ≤ i.op ∧ i.op ≤ 28) : rightF i = right15 i := by
  have hb : bF i = false := by unfold bF abF twoF; rw [Bool.eq_iff_iff]; simp; omega
  refine right_of (h := 3) (by unfold hasF; rw [if_neg (by omega), if_pos (by omega)]) (by decide) (by unfold opF; simp; omega) (w := true) (by unfold writesF; rw [Bool.eq_iff_iff]; simp; omega) (t := true) (by unfold abF oneF twoF; rw [Bool.eq_iff_iff]; simp; omega) hb (s := false) (by unfold checkF; rw [Bool.eq_iff_iff]; simp; omega) ?_
  obtain ⟨b1, b2, b4, b8, b16, b32, b64, b128, b256, b512, b1024, b2048⟩ := bd3
  simp only [Int.reduceEq, ↓reduceIte, decide_false, decide_true, fits0_t, fits0_f, fieldsF, fieldsA, fieldsB, fitF, argsF, tailF, tailA, tellsF, b1, b2, b4, b8, b16, b32, b64, b128, b256, b512, b1024, b2048, show ¬ i.op = 20 by omega, show ¬ i.op = 21 by omega, show ¬ i.op = 30 by omega, show ¬ i.op = 39 by omega, show ¬ i.op = 41 by omega, show ¬ i.op = 42 by omega, show ¬ i.op = 44 by omega, show ¬ i.op = 45 by omega]
  rw [Bool.eq_iff_iff]
  simp
  have l0 := @len0 i.args
  all_goals first | done | omega | (constructor <;> intro hh <;> simp_all <;> omega) | grind
theorem right_20 {i : Ins} (ho : i.op = 20) : rightF i = right15 i := by
  have hb : bF i = false := by unfold bF abF twoF; rw [Bool.eq_iff_iff]; simp; omega
  refine right_of (h := 17) (by rw [ho]; decide) (by decide) (by unfold opF; simp; omega) (w := true) (by unfold writesF; rw [Bool.eq_iff_iff]; simp; omega) (t := false) (by unfold abF oneF twoF; rw [Bool.eq_iff_iff]; simp; omega) hb (s := false) (by unfold checkF; rw [Bool.eq_iff_iff]; simp; omega) ?_
  obtain ⟨b1, b2, b4, b8, b16, b32, b64, b128, b256, b512, b1024, b2048⟩ := bd17
  simp only [Int.reduceEq, ↓reduceIte, decide_false, decide_true, fits0_t, fits0_f, fieldsF, fieldsA, fieldsB, fitF, argsF, tailF, tailA, tellsF, b1, b2, b4, b8, b16, b32, b64, b128, b256, b512, b1024, b2048, show ¬ i.op = 21 by omega, show ¬ i.op = 30 by omega, show ¬ i.op = 39 by omega, show ¬ i.op = 41 by omega, show ¬ i.op = 42 by omega, show ¬ i.op = 44 by omega, show ¬ i.op = 45 by omega, ho]
  rw [Bool.eq_iff_iff]
  simp
  have l0 := @len0 i.args
  all_goals first | done | omega | (constructor <;> intro hh <;> simp_all <;> omega) | grind
theorem right_21 {i : Ins} (ho : i.op = 21) : rightF i = right15 i := by
  have hb : bF i = false := by unfold bF abF twoF; rw [Bool.eq_iff_iff]; simp; omega
  refine right_of (h := 33) (by rw [ho]; decide) (by decide) (by unfold opF; simp; omega) (w := true) (by unfold writesF; rw [Bool.eq_iff_iff]; simp; omega) (t := false) (by unfold abF oneF twoF; rw [Bool.eq_iff_iff]; simp; omega) hb (s := false) (by unfold checkF; rw [Bool.eq_iff_iff]; simp; omega) ?_
  obtain ⟨b1, b2, b4, b8, b16, b32, b64, b128, b256, b512, b1024, b2048⟩ := bd33
  simp only [Int.reduceEq, ↓reduceIte, decide_false, decide_true, fits0_t, fits0_f, fieldsF, fieldsA, fieldsB, fitF, argsF, tailF, tailA, tellsF, b1, b2, b4, b8, b16, b32, b64, b128, b256, b512, b1024, b2048, show ¬ i.op = 20 by omega, show ¬ i.op = 30 by omega, show ¬ i.op = 39 by omega, show ¬ i.op = 41 by omega, show ¬ i.op = 42 by omega, show ¬ i.op = 44 by omega, show ¬ i.op = 45 by omega, ho]
  rw [Bool.eq_iff_iff]
  simp
  have l0 := @len0 i.args
  all_goals first | done | omega | (constructor <;> intro hh <;> simp_all <;> omega) | grind
theorem right_22 {i : Ins} (ho : i.op = 22) : rightF i = right15 i := by
  have hb : bF i = false := by unfold bF abF twoF; rw [Bool.eq_iff_iff]; simp; omega
  refine right_of (h := 1) (by rw [ho]; decide) (by decide) (by unfold opF; simp; omega) (w := true) (by unfold writesF; rw [Bool.eq_iff_iff]; simp; omega) (t := false) (by unfold abF oneF twoF; rw [Bool.eq_iff_iff]; simp; omega) hb (s := false) (by unfold checkF; rw [Bool.eq_iff_iff]; simp; omega) ?_
  obtain ⟨b1, b2, b4, b8, b16, b32, b64, b128, b256, b512, b1024, b2048⟩ := bd1
  simp only [Int.reduceEq, ↓reduceIte, decide_false, decide_true, fits0_t, fits0_f, fieldsF, fieldsA, fieldsB, fitF, argsF, tailF, tailA, tellsF, b1, b2, b4, b8, b16, b32, b64, b128, b256, b512, b1024, b2048, show ¬ i.op = 20 by omega, show ¬ i.op = 21 by omega, show ¬ i.op = 30 by omega, show ¬ i.op = 39 by omega, show ¬ i.op = 41 by omega, show ¬ i.op = 42 by omega, show ¬ i.op = 44 by omega, show ¬ i.op = 45 by omega]
  rw [Bool.eq_iff_iff]
  simp
  have l0 := @len0 i.args
  all_goals first | done | omega | (constructor <;> intro hh <;> simp_all <;> omega) | grind
theorem right_29 {i : Ins} (ho : i.op = 29) : rightF i = right15 i := by
  have hb : bF i = true := by unfold bF abF twoF; rw [Bool.eq_iff_iff]; simp; omega
  refine right_of (h := 7) (by unfold hasF; rw [if_pos (by omega)]) (by decide) (by unfold opF; simp; omega) (w := true) (by unfold writesF; rw [Bool.eq_iff_iff]; simp; omega) (t := true) (by unfold abF oneF twoF; rw [Bool.eq_iff_iff]; simp; omega) hb (s := false) (by unfold checkF; rw [Bool.eq_iff_iff]; simp; omega) ?_
  obtain ⟨b1, b2, b4, b8, b16, b32, b64, b128, b256, b512, b1024, b2048⟩ := bd7
  simp only [Int.reduceEq, ↓reduceIte, decide_false, decide_true, fits0_t, fits0_f, fieldsF, fieldsA, fieldsB, fitF, argsF, tailF, tailA, tellsF, b1, b2, b4, b8, b16, b32, b64, b128, b256, b512, b1024, b2048, show ¬ i.op = 20 by omega, show ¬ i.op = 21 by omega, show ¬ i.op = 30 by omega, show ¬ i.op = 39 by omega, show ¬ i.op = 41 by omega, show ¬ i.op = 42 by omega, show ¬ i.op = 44 by omega, show ¬ i.op = 45 by omega]
  rw [Bool.eq_iff_iff]
  simp
  have l0 := @len0 i.args
  all_goals first | done | omega | (constructor <;> intro hh <;> simp_all <;> omega) | grind
theorem right_30 {i : Ins} (ho : i.op = 30) : rightF i = right15 i := by
  have hb : bF i = true := by unfold bF abF twoF; rw [Bool.eq_iff_iff]; simp; omega
  refine right_of (h := 14) (by rw [ho]; decide) (by decide) (by unfold opF; simp; omega) (w := false) (by unfold writesF; rw [Bool.eq_iff_iff]; simp; omega) (t := true) (by unfold abF oneF twoF; rw [Bool.eq_iff_iff]; simp; omega) hb (s := false) (by unfold checkF; rw [Bool.eq_iff_iff]; simp; omega) ?_
  obtain ⟨b1, b2, b4, b8, b16, b32, b64, b128, b256, b512, b1024, b2048⟩ := bd14
  simp only [Int.reduceEq, ↓reduceIte, decide_false, decide_true, fits0_t, fits0_f, fieldsF, fieldsA, fieldsB, fitF, argsF, tailF, tailA, tellsF, b1, b2, b4, b8, b16, b32, b64, b128, b256, b512, b1024, b2048, show ¬ i.op = 20 by omega, show ¬ i.op = 21 by omega, show ¬ i.op = 39 by omega, show ¬ i.op = 41 by omega, show ¬ i.op = 42 by omega, show ¬ i.op = 44 by omega, show ¬ i.op = 45 by omega, ho]
  rw [Bool.eq_iff_iff]
  simp
  have l0 := @len0 i.args
  all_goals first | done | omega | (constructor <;> intro hh <;> simp_all <;> omega) | grind
theorem right_31 {i : Ins} (ho : i.op = 31) : rightF i = right15 i := by
  have hb : bF i = false := by unfold bF abF twoF; rw [Bool.eq_iff_iff]; simp; omega
  refine right_of (h := 258) (by rw [ho]; decide) (by decide) (by unfold opF; simp; omega) (w := false) (by unfold writesF; rw [Bool.eq_iff_iff]; simp; omega) (t := true) (by unfold abF oneF twoF; rw [Bool.eq_iff_iff]; simp; omega) hb (s := true) (by unfold checkF; rw [Bool.eq_iff_iff]; simp; omega) ?_
  obtain ⟨b1, b2, b4, b8, b16, b32, b64, b128, b256, b512, b1024, b2048⟩ := bd258
  simp only [Int.reduceEq, ↓reduceIte, decide_false, decide_true, fits0_t, fits0_f, fieldsF, fieldsA, fieldsB, fitF, argsF, tailF, tailA, tellsF, b1, b2, b4, b8, b16, b32, b64, b128, b256, b512, b1024, b2048, show ¬ i.op = 20 by omega, show ¬ i.op = 21 by omega, show ¬ i.op = 30 by omega, show ¬ i.op = 39 by omega, show ¬ i.op = 41 by omega, show ¬ i.op = 42 by omega, show ¬ i.op = 44 by omega, show ¬ i.op = 45 by omega]
  rw [Bool.eq_iff_iff]
  simp
  have l0 := @len0 i.args
  all_goals first | done | omega | (constructor <;> intro hh <;> simp_all <;> omega) | grind
theorem right_32 {i : Ins} (ho : i.op = 32) : rightF i = right15 i := by
  have hb : bF i = true := by unfold bF abF twoF; rw [Bool.eq_iff_iff]; simp; omega
  refine right_of (h := 262) (by rw [ho]; decide) (by decide) (by unfold opF; simp; omega) (w := false) (by unfold writesF; rw [Bool.eq_iff_iff]; simp; omega) (t := true) (by unfold abF oneF twoF; rw [Bool.eq_iff_iff]; simp; omega) hb (s := true) (by unfold checkF; rw [Bool.eq_iff_iff]; simp; omega) ?_
  obtain ⟨b1, b2, b4, b8, b16, b32, b64, b128, b256, b512, b1024, b2048⟩ := bd262
  simp only [Int.reduceEq, ↓reduceIte, decide_false, decide_true, fits0_t, fits0_f, fieldsF, fieldsA, fieldsB, fitF, argsF, tailF, tailA, tellsF, b1, b2, b4, b8, b16, b32, b64, b128, b256, b512, b1024, b2048, show ¬ i.op = 20 by omega, show ¬ i.op = 21 by omega, show ¬ i.op = 30 by omega, show ¬ i.op = 39 by omega, show ¬ i.op = 41 by omega, show ¬ i.op = 42 by omega, show ¬ i.op = 44 by omega, show ¬ i.op = 45 by omega]
  rw [Bool.eq_iff_iff]
  simp
  have l0 := @len0 i.args
  all_goals first | done | omega | (constructor <;> intro hh <;> simp_all <;> omega) | grind
theorem right_33 {i : Ins} (ho : i.op = 33) : rightF i = right15 i := by
  have hb : bF i = true := by unfold bF abF twoF; rw [Bool.eq_iff_iff]; simp; omega
  refine right_of (h := 262) (by rw [ho]; decide) (by decide) (by unfold opF; simp; omega) (w := false) (by unfold writesF; rw [Bool.eq_iff_iff]; simp; omega) (t := true) (by unfold abF oneF twoF; rw [Bool.eq_iff_iff]; simp; omega) hb (s := true) (by unfold checkF; rw [Bool.eq_iff_iff]; simp; omega) ?_
  obtain ⟨b1, b2, b4, b8, b16, b32, b64, b128, b256, b512, b1024, b2048⟩ := bd262
  simp only [Int.reduceEq, ↓reduceIte, decide_false, decide_true, fits0_t, fits0_f, fieldsF, fieldsA, fieldsB, fitF, argsF, tailF, tailA, tellsF, b1, b2, b4, b8, b16, b32, b64, b128, b256, b512, b1024, b2048, show ¬ i.op = 20 by omega, show ¬ i.op = 21 by omega, show ¬ i.op = 30 by omega, show ¬ i.op = 39 by omega, show ¬ i.op = 41 by omega, show ¬ i.op = 42 by omega, show ¬ i.op = 44 by omega, show ¬ i.op = 45 by omega]
  rw [Bool.eq_iff_iff]
  simp
  have l0 := @len0 i.args
  all_goals first | done | omega | (constructor <;> intro hh <;> simp_all <;> omega) | grind
theorem right_34 {i : Ins} (ho : i.op = 34) : rightF i = right15 i := by
  have hb : bF i = true := by unfold bF abF twoF; rw [Bool.eq_iff_iff]; simp; omega
  refine right_of (h := 262) (by rw [ho]; decide) (by decide) (by unfold opF; simp; omega) (w := false) (by unfold writesF; rw [Bool.eq_iff_iff]; simp; omega) (t := true) (by unfold abF oneF twoF; rw [Bool.eq_iff_iff]; simp; omega) hb (s := true) (by unfold checkF; rw [Bool.eq_iff_iff]; simp; omega) ?_
  obtain ⟨b1, b2, b4, b8, b16, b32, b64, b128, b256, b512, b1024, b2048⟩ := bd262
  simp only [Int.reduceEq, ↓reduceIte, decide_false, decide_true, fits0_t, fits0_f, fieldsF, fieldsA, fieldsB, fitF, argsF, tailF, tailA, tellsF, b1, b2, b4, b8, b16, b32, b64, b128, b256, b512, b1024, b2048, show ¬ i.op = 20 by omega, show ¬ i.op = 21 by omega, show ¬ i.op = 30 by omega, show ¬ i.op = 39 by omega, show ¬ i.op = 41 by omega, show ¬ i.op = 42 by omega, show ¬ i.op = 44 by omega, show ¬ i.op = 45 by omega]
  rw [Bool.eq_iff_iff]
  simp
  have l0 := @len0 i.args
  all_goals first | done | omega | (constructor <;> intro hh <;> simp_all <;> omega) | grind
theorem right_35 {i : Ins} (ho : i.op = 35) : rightF i = right15 i := by
  have hb : bF i = true := by unfold bF abF twoF; rw [Bool.eq_iff_iff]; simp; omega
  refine right_of (h := 262) (by rw [ho]; decide) (by decide) (by unfold opF; simp; omega) (w := false) (by unfold writesF; rw [Bool.eq_iff_iff]; simp; omega) (t := true) (by unfold abF oneF twoF; rw [Bool.eq_iff_iff]; simp; omega) hb (s := true) (by unfold checkF; rw [Bool.eq_iff_iff]; simp; omega) ?_
  obtain ⟨b1, b2, b4, b8, b16, b32, b64, b128, b256, b512, b1024, b2048⟩ := bd262
  simp only [Int.reduceEq, ↓reduceIte, decide_false, decide_true, fits0_t, fits0_f, fieldsF, fieldsA, fieldsB, fitF, argsF, tailF, tailA, tellsF, b1, b2, b4, b8, b16, b32, b64, b128, b256, b512, b1024, b2048, show ¬ i.op = 20 by omega, show ¬ i.op = 21 by omega, show ¬ i.op = 30 by omega, show ¬ i.op = 39 by omega, show ¬ i.op = 41 by omega, show ¬ i.op = 42 by omega, show ¬ i.op = 44 by omega, show ¬ i.op = 45 by omega]
  rw [Bool.eq_iff_iff]
  simp
  have l0 := @len0 i.args
  all_goals first | done | omega | (constructor <;> intro hh <;> simp_all <;> omega) | grind
theorem right_36 {i : Ins} (ho : i.op = 36) : rightF i = right15 i := by
  have hb : bF i = false := by unfold bF abF twoF; rw [Bool.eq_iff_iff]; simp; omega
  refine right_of (h := 258) (by rw [ho]; decide) (by decide) (by unfold opF; simp; omega) (w := false) (by unfold writesF; rw [Bool.eq_iff_iff]; simp; omega) (t := true) (by unfold abF oneF twoF; rw [Bool.eq_iff_iff]; simp; omega) hb (s := true) (by unfold checkF; rw [Bool.eq_iff_iff]; simp; omega) ?_
  obtain ⟨b1, b2, b4, b8, b16, b32, b64, b128, b256, b512, b1024, b2048⟩ := bd258
  simp only [Int.reduceEq, ↓reduceIte, decide_false, decide_true, fits0_t, fits0_f, fieldsF, fieldsA, fieldsB, fitF, argsF, tailF, tailA, tellsF, b1, b2, b4, b8, b16, b32, b64, b128, b256, b512, b1024, b2048, show ¬ i.op = 20 by omega, show ¬ i.op = 21 by omega, show ¬ i.op = 30 by omega, show ¬ i.op = 39 by omega, show ¬ i.op = 41 by omega, show ¬ i.op = 42 by omega, show ¬ i.op = 44 by omega, show ¬ i.op = 45 by omega]
  rw [Bool.eq_iff_iff]
  simp
  have l0 := @len0 i.args
  all_goals first | done | omega | (constructor <;> intro hh <;> simp_all <;> omega) | grind
theorem right_37 {i : Ins} (ho : i.op = 37) : rightF i = right15 i := by
  have hb : bF i = true := by unfold bF abF twoF; rw [Bool.eq_iff_iff]; simp; omega
  refine right_of (h := 262) (by rw [ho]; decide) (by decide) (by unfold opF; simp; omega) (w := false) (by unfold writesF; rw [Bool.eq_iff_iff]; simp; omega) (t := true) (by unfold abF oneF twoF; rw [Bool.eq_iff_iff]; simp; omega) hb (s := true) (by unfold checkF; rw [Bool.eq_iff_iff]; simp; omega) ?_
  obtain ⟨b1, b2, b4, b8, b16, b32, b64, b128, b256, b512, b1024, b2048⟩ := bd262
  simp only [Int.reduceEq, ↓reduceIte, decide_false, decide_true, fits0_t, fits0_f, fieldsF, fieldsA, fieldsB, fitF, argsF, tailF, tailA, tellsF, b1, b2, b4, b8, b16, b32, b64, b128, b256, b512, b1024, b2048, show ¬ i.op = 20 by omega, show ¬ i.op = 21 by omega, show ¬ i.op = 30 by omega, show ¬ i.op = 39 by omega, show ¬ i.op = 41 by omega, show ¬ i.op = 42 by omega, show ¬ i.op = 44 by omega, show ¬ i.op = 45 by omega]
  rw [Bool.eq_iff_iff]
  simp
  have l0 := @len0 i.args
  all_goals first | done | omega | (constructor <;> intro hh <;> simp_all <;> omega) | grind
theorem right_38 {i : Ins} (ho : i.op = 38) : rightF i = right15 i := by
  have hb : bF i = false := by unfold bF abF twoF; rw [Bool.eq_iff_iff]; simp; omega
  refine right_of (h := 258) (by rw [ho]; decide) (by decide) (by unfold opF; simp; omega) (w := false) (by unfold writesF; rw [Bool.eq_iff_iff]; simp; omega) (t := true) (by unfold abF oneF twoF; rw [Bool.eq_iff_iff]; simp; omega) hb (s := true) (by unfold checkF; rw [Bool.eq_iff_iff]; simp; omega) ?_
  obtain ⟨b1, b2, b4, b8, b16, b32, b64, b128, b256, b512, b1024, b2048⟩ := bd258
  simp only [Int.reduceEq, ↓reduceIte, decide_false, decide_true, fits0_t, fits0_f, fieldsF, fieldsA, fieldsB, fitF, argsF, tailF, tailA, tellsF, b1, b2, b4, b8, b16, b32, b64, b128, b256, b512, b1024, b2048, show ¬ i.op = 20 by omega, show ¬ i.op = 21 by omega, show ¬ i.op = 30 by omega, show ¬ i.op = 39 by omega, show ¬ i.op = 41 by omega, show ¬ i.op = 42 by omega, show ¬ i.op = 44 by omega, show ¬ i.op = 45 by omega]
  rw [Bool.eq_iff_iff]
  simp
  have l0 := @len0 i.args
  all_goals first | done | omega | (constructor <;> intro hh <;> simp_all <;> omega) | grind
theorem right_39 {i : Ins} (ho : i.op = 39) : rightF i = right15 i := by
  have hb : bF i = false := by unfold bF abF twoF; rw [Bool.eq_iff_iff]; simp; omega
  refine right_of (h := 577) (by rw [ho]; decide) (by decide) (by unfold opF; simp; omega) (w := true) (by unfold writesF; rw [Bool.eq_iff_iff]; simp; omega) (t := false) (by unfold abF oneF twoF; rw [Bool.eq_iff_iff]; simp; omega) hb (s := false) (by unfold checkF; rw [Bool.eq_iff_iff]; simp; omega) ?_
  obtain ⟨b1, b2, b4, b8, b16, b32, b64, b128, b256, b512, b1024, b2048⟩ := bd577
  simp only [Int.reduceEq, ↓reduceIte, decide_false, decide_true, fits0_t, fits0_f, fieldsF, fieldsA, fieldsB, fitF, argsF, tailF, tailA, tellsF, b1, b2, b4, b8, b16, b32, b64, b128, b256, b512, b1024, b2048, show ¬ i.op = 20 by omega, show ¬ i.op = 21 by omega, show ¬ i.op = 30 by omega, show ¬ i.op = 41 by omega, show ¬ i.op = 42 by omega, show ¬ i.op = 44 by omega, show ¬ i.op = 45 by omega, ho]
  rw [Bool.eq_iff_iff]
  simp
  have l0 := @len0 i.args
  all_goals first | done | omega | (constructor <;> intro hh <;> simp_all <;> omega) | grind
theorem right_40 {i : Ins} (ho : i.op = 40) : rightF i = right15 i := by
  have hb : bF i = false := by unfold bF abF twoF; rw [Bool.eq_iff_iff]; simp; omega
  refine right_of (h := 2) (by rw [ho]; decide) (by decide) (by unfold opF; simp; omega) (w := false) (by unfold writesF; rw [Bool.eq_iff_iff]; simp; omega) (t := true) (by unfold abF oneF twoF; rw [Bool.eq_iff_iff]; simp; omega) hb (s := false) (by unfold checkF; rw [Bool.eq_iff_iff]; simp; omega) ?_
  obtain ⟨b1, b2, b4, b8, b16, b32, b64, b128, b256, b512, b1024, b2048⟩ := bd2
  simp only [Int.reduceEq, ↓reduceIte, decide_false, decide_true, fits0_t, fits0_f, fieldsF, fieldsA, fieldsB, fitF, argsF, tailF, tailA, tellsF, b1, b2, b4, b8, b16, b32, b64, b128, b256, b512, b1024, b2048, show ¬ i.op = 20 by omega, show ¬ i.op = 21 by omega, show ¬ i.op = 30 by omega, show ¬ i.op = 39 by omega, show ¬ i.op = 41 by omega, show ¬ i.op = 42 by omega, show ¬ i.op = 44 by omega, show ¬ i.op = 45 by omega]
  rw [Bool.eq_iff_iff]
  simp
  have l0 := @len0 i.args
  all_goals first | done | omega | (constructor <;> intro hh <;> simp_all <;> omega) | grind
theorem right_41 {i : Ins} (ho : i.op = 41) : rightF i = right15 i := by
  have hb : bF i = false := by unfold bF abF twoF; rw [Bool.eq_iff_iff]; simp; omega
  refine right_of (h := 64) (by rw [ho]; decide) (by decide) (by unfold opF; simp; omega) (w := false) (by unfold writesF; rw [Bool.eq_iff_iff]; simp; omega) (t := false) (by unfold abF oneF twoF; rw [Bool.eq_iff_iff]; simp; omega) hb (s := false) (by unfold checkF; rw [Bool.eq_iff_iff]; simp; omega) ?_
  obtain ⟨b1, b2, b4, b8, b16, b32, b64, b128, b256, b512, b1024, b2048⟩ := bd64
  simp only [Int.reduceEq, ↓reduceIte, decide_false, decide_true, fits0_t, fits0_f, fieldsF, fieldsA, fieldsB, fitF, argsF, tailF, tailA, tellsF, b1, b2, b4, b8, b16, b32, b64, b128, b256, b512, b1024, b2048, show ¬ i.op = 20 by omega, show ¬ i.op = 21 by omega, show ¬ i.op = 30 by omega, show ¬ i.op = 39 by omega, show ¬ i.op = 42 by omega, show ¬ i.op = 44 by omega, show ¬ i.op = 45 by omega, ho]
  rw [Bool.eq_iff_iff]
  simp
  have l0 := @len0 i.args
  all_goals first | done | omega | (constructor <;> intro hh <;> simp_all <;> omega) | grind
theorem right_42 {i : Ins} (ho : i.op = 42) : rightF i = right15 i := by
  have hb : bF i = false := by unfold bF abF twoF; rw [Bool.eq_iff_iff]; simp; omega
  refine right_of (h := 194) (by rw [ho]; decide) (by decide) (by unfold opF; simp; omega) (w := false) (by unfold writesF; rw [Bool.eq_iff_iff]; simp; omega) (t := true) (by unfold abF oneF twoF; rw [Bool.eq_iff_iff]; simp; omega) hb (s := false) (by unfold checkF; rw [Bool.eq_iff_iff]; simp; omega) ?_
  obtain ⟨b1, b2, b4, b8, b16, b32, b64, b128, b256, b512, b1024, b2048⟩ := bd194
  simp only [Int.reduceEq, ↓reduceIte, decide_false, decide_true, fits0_t, fits0_f, fieldsF, fieldsA, fieldsB, fitF, argsF, tailF, tailA, tellsF, b1, b2, b4, b8, b16, b32, b64, b128, b256, b512, b1024, b2048, show ¬ i.op = 20 by omega, show ¬ i.op = 21 by omega, show ¬ i.op = 30 by omega, show ¬ i.op = 39 by omega, show ¬ i.op = 41 by omega, show ¬ i.op = 44 by omega, show ¬ i.op = 45 by omega, ho]
  rw [Bool.eq_iff_iff]
  simp
  have l0 := @len0 i.args
  all_goals first | done | omega | (constructor <;> intro hh <;> simp_all <;> omega) | grind
theorem right_43 {i : Ins} (ho : i.op = 43) : rightF i = right15 i := by
  have hb : bF i = false := by unfold bF abF twoF; rw [Bool.eq_iff_iff]; simp; omega
  refine right_of (h := 2) (by rw [ho]; decide) (by decide) (by unfold opF; simp; omega) (w := false) (by unfold writesF; rw [Bool.eq_iff_iff]; simp; omega) (t := true) (by unfold abF oneF twoF; rw [Bool.eq_iff_iff]; simp; omega) hb (s := false) (by unfold checkF; rw [Bool.eq_iff_iff]; simp; omega) ?_
  obtain ⟨b1, b2, b4, b8, b16, b32, b64, b128, b256, b512, b1024, b2048⟩ := bd2
  simp only [Int.reduceEq, ↓reduceIte, decide_false, decide_true, fits0_t, fits0_f, fieldsF, fieldsA, fieldsB, fitF, argsF, tailF, tailA, tellsF, b1, b2, b4, b8, b16, b32, b64, b128, b256, b512, b1024, b2048, show ¬ i.op = 20 by omega, show ¬ i.op = 21 by omega, show ¬ i.op = 30 by omega, show ¬ i.op = 39 by omega, show ¬ i.op = 41 by omega, show ¬ i.op = 42 by omega, show ¬ i.op = 44 by omega, show ¬ i.op = 45 by omega]
  rw [Bool.eq_iff_iff]
  simp
  have l0 := @len0 i.args
  all_goals first | done | omega | (constructor <;> intro hh <;> simp_all <;> omega) | grind
theorem right_44 {i : Ins} (ho : i.op = 44) : rightF i = right15 i := by
  have hb : bF i = false := by unfold bF abF twoF; rw [Bool.eq_iff_iff]; simp; omega
  refine right_of (h := 1537) (by rw [ho]; decide) (by decide) (by unfold opF; simp; omega) (w := true) (by unfold writesF; rw [Bool.eq_iff_iff]; simp; omega) (t := false) (by unfold abF oneF twoF; rw [Bool.eq_iff_iff]; simp; omega) hb (s := false) (by unfold checkF; rw [Bool.eq_iff_iff]; simp; omega) ?_
  obtain ⟨b1, b2, b4, b8, b16, b32, b64, b128, b256, b512, b1024, b2048⟩ := bd1537
  simp only [Int.reduceEq, ↓reduceIte, decide_false, decide_true, fits0_t, fits0_f, fieldsF, fieldsA, fieldsB, fitF, argsF, tailF, tailA, tellsF, b1, b2, b4, b8, b16, b32, b64, b128, b256, b512, b1024, b2048, show ¬ i.op = 20 by omega, show ¬ i.op = 21 by omega, show ¬ i.op = 30 by omega, show ¬ i.op = 39 by omega, show ¬ i.op = 41 by omega, show ¬ i.op = 42 by omega, show ¬ i.op = 45 by omega, ho]
  rw [Bool.eq_iff_iff]
  simp
  have l0 := @len0 i.args
  all_goals first | done | omega | (constructor <;> intro hh <;> simp_all <;> omega) | grind
theorem right_45 {i : Ins} (ho : i.op = 45) : rightF i = right15 i := by
  have hb : bF i = decide (i.m ≠ 21) := by unfold bF abF; rw [ho]; unfold twoF; rw [Bool.eq_iff_iff]; simp
  refine right_of (h := 2055) (by rw [ho]; decide) (by decide) (by unfold opF; simp; omega) (w := true) (by unfold writesF; rw [Bool.eq_iff_iff]; simp; omega) (t := true) (by unfold abF oneF twoF; rw [Bool.eq_iff_iff]; simp; omega) hb (s := false) (by unfold checkF; rw [Bool.eq_iff_iff]; simp; omega) ?_
  obtain ⟨b1, b2, b4, b8, b16, b32, b64, b128, b256, b512, b1024, b2048⟩ := bd2055
  have hf : fits0 (decide (i.m ≠ 21)) i.b = decide (0 ≤ i.b ∧ (i.m = 21 → i.b = 0)) := by unfold fits0; rw [Bool.eq_iff_iff]; simp; omega
  rw [hf]
  simp only [Int.reduceEq, ↓reduceIte, decide_false, decide_true, fits0_t, fits0_f, fieldsF, fieldsA, fieldsB, fitF, argsF, tailF, tailA, tellsF, b1, b2, b4, b8, b16, b32, b64, b128, b256, b512, b1024, b2048, show ¬ i.op = 20 by omega, show ¬ i.op = 21 by omega, show ¬ i.op = 30 by omega, show ¬ i.op = 39 by omega, show ¬ i.op = 41 by omega, show ¬ i.op = 42 by omega, show ¬ i.op = 44 by omega, ho]
  rw [Bool.eq_iff_iff]
  simp
  have l0 := @len0 i.args
  all_goals first | done | omega | (constructor <;> intro hh <;> simp_all <;> omega) | grind
theorem right_eq (i : Ins) : rightF i = right15 i := by
  cases ho : opF i.op with
  | false => unfold rightF right15; rw [hasF_zero ho, ho]; rfl
  | true =>
    unfold opF at ho
    simp at ho
    have : (3 ≤ i.op ∧ i.op ≤ 16) ∨ (23 ≤ i.op ∧ i.op ≤ 28) ∨ i.op = 20 ∨ i.op = 21 ∨ i.op = 22 ∨ i.op = 29 ∨ i.op = 30 ∨ i.op = 31 ∨ i.op = 32 ∨ i.op = 33 ∨ i.op = 34 ∨ i.op = 35 ∨ i.op = 36 ∨ i.op = 37 ∨ i.op = 38 ∨ i.op = 39 ∨ i.op = 40 ∨ i.op = 41 ∨ i.op = 42 ∨ i.op = 43 ∨ i.op = 44 ∨ i.op = 45 := by omega
    rcases this with h | h | h | h | h | h | h | h | h | h | h | h | h | h | h | h | h | h | h | h | h | h
    · exact right_3 h
    · exact right_23 h
    · exact right_20 h
    · exact right_21 h
    · exact right_22 h
    · exact right_29 h
    · exact right_30 h
    · exact right_31 h
    · exact right_32 h
    · exact right_33 h
    · exact right_34 h
    · exact right_35 h
    · exact right_36 h
    · exact right_37 h
    · exact right_38 h
    · exact right_39 h
    · exact right_40 h
    · exact right_41 h
    · exact right_42 h
    · exact right_43 h
    · exact right_44 h
    · exact right_45 h
theorem def_eq (i : Ins) : defF i = def15 i := by
  unfold defF def15
  rw [right_eq]
  cases hr : right15 i with
  | false => simp
  | true =>
    have ho : opF i.op = true := by unfold right15 at hr; simp at hr; exact hr.1
    have : (band (hasF i.op) 1 ≠ 0) ↔ writesF i.op = true := by
      unfold opF at ho
      simp at ho
      have hh : (3 ≤ i.op ∧ i.op ≤ 16) ∨ (23 ≤ i.op ∧ i.op ≤ 28) ∨ i.op = 20 ∨ i.op = 21 ∨ i.op = 22 ∨ i.op = 29 ∨ i.op = 30 ∨ i.op = 31 ∨ i.op = 32 ∨ i.op = 33 ∨ i.op = 34 ∨ i.op = 35 ∨ i.op = 36 ∨ i.op = 37 ∨ i.op = 38 ∨ i.op = 39 ∨ i.op = 40 ∨ i.op = 41 ∨ i.op = 42 ∨ i.op = 43 ∨ i.op = 44 ∨ i.op = 45 := by omega
      unfold writesF
      rcases hh with h | h | h | h | h | h | h | h | h | h | h | h | h | h | h | h | h | h | h | h | h | h
      · rw [show hasF i.op = 7 by unfold hasF; rw [if_pos (by omega)], bd7.1]; simp; omega
      · rw [show hasF i.op = 3 by unfold hasF; rw [if_neg (by omega), if_pos (by omega)], bd3.1]; simp; omega
      all_goals (rw [h]; decide)
    simp [this]
end Go.Proofs.Ytjjijklonnhdeaa

/- Blocks and where they go, as the document's answer says it. No program is in sight here. -/
namespace Go.Proofs.Ytjjijklonnhdeaa
open Go.Ax

def lst (l : List Int) : List AV := [ints l]
def olst (l : List Int) : List AV := [.osl 1 (l.map int1)]
def below (n : Nat) (l : List Int) : List Int := l.filter (fun t => decide (t < (n : Int)))
def succ1 (n : Nat) (b : List Ins) : List Int := match b[b.length - 1]? with
  | some i => below n (targetsF i)
  | none => []
def succsF (f : Fun) : List (List Int) := f.blocks.map (succ1 f.blocks.length)
theorem targetsF_len (i : Ins) : (targetsF i).length ≤ 2 := by unfold targetsF; split <;> (try split) <;> simp
theorem succsF_len (f : Fun) : (succsF f).length = f.blocks.length := by unfold succsF; simp
/-- What is reached without a block. -/
inductive Reaches (s : List (List Int)) (x : Int) : Int → Prop
  | zero : s ≠ [] → x ≠ 0 → Reaches s x 0
  | step {k : Nat} {t : Int} {l : List Int} : Reaches s x k → s[k]? = some l → t ∈ l → t ≠ x → Reaches s x t
/-- All that is gone to is there. -/
def Closed (s : List (List Int)) : Prop := ∀ l ∈ s, ∀ t ∈ l, 0 ≤ t ∧ t < s.length
theorem targetsF_pos (i : Ins) : ∀ t ∈ targetsF i, 0 ≤ t := by
  intro t ht
  unfold targetsF at ht
  split at ht
  · rename_i h
    unfold right15 tailF tailA at h
    simp at ht
    simp [h.2] at h
    omega
  · split at ht
    · rename_i h
      unfold right15 tailF tailA at h
      simp at ht
      simp [h.2] at h
      omega
    · simp at ht
theorem succsF_closed (f : Fun) : Closed (succsF f) := by
  intro l hl t ht
  rw [succsF_len]
  unfold succsF at hl
  obtain ⟨b, _, rfl⟩ := List.mem_map.1 hl
  unfold succ1 at ht
  split at ht
  · unfold below at ht
    obtain ⟨h1, h2⟩ := List.mem_filter.1 ht
    exact ⟨targetsF_pos _ _ h1, by simpa using h2⟩
  · simp at ht
theorem Reaches.lt {s : List (List Int)} {x t : Int} (hs : Closed s) (h : Reaches s x t) : 0 ≤ t ∧ t < s.length := by
  cases h with
  | zero h _ => have := List.length_pos_iff.2 h; omega
  | step _ hl ht _ => exact hs _ (List.mem_of_getElem? hl) _ ht

def tb (b : Bool) : List AV := [tru b]
/-- How many are not marked. -/
def falses (l : List Bool) : Nat := l.count false
/-- What is marked is reached. -/
def Sound (s : List (List Int)) (x : Int) (l : List Bool) : Prop := l.length = s.length ∧ ∀ t : Nat, l[t]? = some true → Reaches s x t
/-- These are the marks of what is reached. -/
def Marks (s : List (List Int)) (x : Int) (l : List Bool) : Prop := l.length = s.length ∧ ∀ t : Nat, l[t]? = some true ↔ Reaches s x t
theorem falses_set {l : List Bool} {t : Nat} (h : l[t]? = some false) : falses (l.set t true) < falses l := by
  unfold falses
  induction l generalizing t with
  | nil => simp at h
  | cons a l ih =>
    cases t with
    | zero => simp at h; subst h; simp
    | succ t =>
      simp at h
      have := ih h
      simp only [List.set_cons_succ, List.count_cons]; omega
theorem Sound.set {s : List (List Int)} {x : Int} {l : List Bool} {t : Nat} (h : Sound s x l) (ht : Reaches s x t) : Sound s x (l.set t true) := by
  refine ⟨by rw [List.length_set]; exact h.1, fun u hu => ?_⟩
  rw [List.getElem?_set] at hu
  split at hu
  · rename_i e; subst e; exact ht
  · exact h.2 u hu
/-- All ways from what is marked, up to one, lead to what is marked. -/
def Shut (s : List (List Int)) (x : Int) (l : List Bool) (k j : Nat) : Prop := ∀ (a : Nat) (r : List Int) (b : Nat) (t : Int), s[a]? = some r → r[b]? = some t → (a < k ∨ (a = k ∧ b < j)) → l[a]? = some true → t ≠ x → l[t.toNat]? = some true
theorem marks_of {s : List (List Int)} {x : Int} {l : List Bool} (hs : Closed s) (h : Sound s x l) (h0 : s ≠ [] → x ≠ 0 → l[0]? = some true) (hc : Shut s x l s.length 0) : Marks s x l := by
  refine ⟨h.1, fun t => ⟨h.2 t, fun ht => ?_⟩⟩
  have key : ∀ u : Int, Reaches s x u → l[u.toNat]? = some true := by
    intro u hu
    induction hu with
    | zero a b => exact h0 a b
    | step hk hl ht hne ih =>
      obtain ⟨b, hb⟩ := List.getElem?_of_mem ht
      refine hc _ _ b _ hl hb (.inl ?_) (by simpa using ih) hne
      exact (List.getElem?_eq_some_iff.1 hl).1
  simpa using key _ ht
end Go.Proofs.Ytjjijklonnhdeaa

/- Marks of what is reached: how they grow. No program is in sight here. -/
namespace Go.Proofs.Ytjjijklonnhdeaa
open Go.Ax
theorem set_keep {l : List Bool} {t u : Nat} (h : l[u]? = some true) : (l.set t true)[u]? = some true := by
  rw [List.getElem?_set]
  have hu := (List.getElem?_eq_some_iff.1 h).1
  split
  · rename_i e; subst e; rw [if_pos hu]
  · exact h
theorem Shut.zero {s : List (List Int)} {x : Int} {l : List Bool} : Shut s x l 0 0 := fun a r b t _ _ h => by omega
theorem Shut.step {s : List (List Int)} {x : Int} {l : List Bool} {k j : Nat} {r : List Int} {t : Int} (h : Shut s x l k j) (hr : s[k]? = some r) (ht : r[j]? = some t) (hm : l[k]? = some true → t ≠ x → l[t.toNat]? = some true) : Shut s x l k (j + 1) := by
  intro a r' b u ha hb hlt hl hne
  by_cases e : a = k ∧ b = j
  · obtain ⟨rfl, rfl⟩ := e
    rw [hr] at ha; cases ha
    rw [ht] at hb; cases hb
    exact hm hl hne
  · exact h a r' b u ha hb (by omega) hl hne
theorem Shut.row {s : List (List Int)} {x : Int} {l : List Bool} {k j : Nat} {r : List Int} (h : Shut s x l k j) (hr : s[k]? = some r) (hj : r.length ≤ j) : Shut s x l (k + 1) 0 := by
  intro a r' b u ha hb hlt hl hne
  refine h a r' b u ha hb ?_ hl hne
  by_cases e : a = k
  · subst e
    rw [hr] at ha; cases ha
    have := (List.getElem?_eq_some_iff.1 hb).1
    right; exact ⟨rfl, by omega⟩
  · left; omega
theorem Shut.none {s : List (List Int)} {x : Int} {l : List Bool} {k j : Nat} (h : ∀ u : Nat, l[u]? ≠ some true) : Shut s x l k j := fun a _ _ _ _ _ _ hl _ => absurd hl (h a)
theorem succsF_small (f : Fun) : ∀ l ∈ succsF f, l.length ≤ 2 := by
  intro l hl
  unfold succsF at hl
  obtain ⟨b, _, rfl⟩ := List.mem_map.1 hl
  unfold succ1
  split
  · unfold below
    exact Nat.le_trans (List.length_filter_le _ _) (targetsF_len _)
  · simp
theorem rep_false {n u : Nat} : (List.replicate n false)[u]? ≠ some true := by
  intro h
  rw [List.getElem?_replicate] at h
  split at h <;> simp at h
end Go.Proofs.Ytjjijklonnhdeaa

/- Going through blocks, each once: what is marked. No program is in sight here. -/
namespace Go.Proofs.Ytjjijklonnhdeaa
open Go.Ax
def Grows (l l' : List Bool) : Prop := l'.length = l.length ∧ ∀ u : Nat, l[u]? = some true → l'[u]? = some true
theorem Grows.refl {l : List Bool} : Grows l l := ⟨rfl, fun _ h => h⟩
theorem Grows.trans {a b c : List Bool} (h : Grows a b) (g : Grows b c) : Grows a c := ⟨g.1.trans h.1, fun u hu => g.2 u (h.2 u hu)⟩
theorem Grows.set {l : List Bool} {k : Nat} : Grows l (l.set k true) := ⟨by simp, fun _ h => set_keep h⟩
theorem Grows.falses : ∀ {l l' : List Bool}, Grows l l' → falses l' ≤ falses l
  | [], [], _ => Nat.le_refl _
  | [], _ :: _, h => by simp [Grows] at h
  | _ :: _, [], h => by simp [Grows] at h
  | a :: l, b :: l', ⟨h1, h2⟩ => by
    have ih : Go.Proofs.Ytjjijklonnhdeaa.falses l' ≤ Go.Proofs.Ytjjijklonnhdeaa.falses l := Grows.falses ⟨by simpa using h1, fun u hu => by simpa using h2 (u + 1) (by simpa using hu)⟩
    have h0 := h2 0
    unfold Go.Proofs.Ytjjijklonnhdeaa.falses at *
    simp only [List.count_cons]
    cases a <;> cases b <;> simp_all <;> omega
/-- What going into a block comes to. -/
structure Into (s : List (List Int)) (x : Int) (l : List Bool) (k : Int) (l' : List Bool) : Prop where
  grows : Grows l l'
  sound : ∀ u : Nat, l'[u]? = some true → l[u]? = some true ∨ Reaches s x u
  here : k ≠ x → l'[k.toNat]? = some true
  shut : ∀ u : Nat, l'[u]? = some true → l[u]? ≠ some true → ∀ r, s[u]? = some r → ∀ t ∈ r, t ≠ x → l'[t.toNat]? = some true
/-- The same, within its loop. -/
structure Mid (s : List (List Int)) (x : Int) (l : List Bool) (k : Nat) (j : Nat) (l' : List Bool) : Prop where
  grows : Grows (l.set k true) l'
  sound : ∀ u : Nat, l'[u]? = some true → l[u]? = some true ∨ Reaches s x u
  shut : ∀ u : Nat, u ≠ k → l'[u]? = some true → l[u]? ≠ some true → ∀ r, s[u]? = some r → ∀ t ∈ r, t ≠ x → l'[t.toNat]? = some true
  done : ∀ r, s[k]? = some r → ∀ (i : Nat) (t : Int), i < j → r[i]? = some t → t ≠ x → l'[t.toNat]? = some true
theorem Into.stays {s : List (List Int)} {x : Int} {l : List Bool} {k : Int} (h : k ≠ x → l[k.toNat]? = some true) : Into s x l k l :=
  ⟨.refl, fun _ h => .inl h, h, fun u h1 h2 => absurd h1 h2⟩
theorem Mid.start {s : List (List Int)} {x : Int} {l : List Bool} {k : Nat} (h : Reaches s x k) : Mid s x l k 0 (l.set k true) := by
  refine ⟨.refl, fun u hu => ?_, fun u hne hu hn => ?_, fun _ _ i _ hi => absurd hi (Nat.not_lt_zero _)⟩
  · rw [List.getElem?_set] at hu
    split at hu
    · rename_i e; subst e; exact .inr h
    · exact .inl hu
  · rw [List.getElem?_set, if_neg (fun e => hne e.symm)] at hu
    exact absurd hu hn
theorem Mid.next {s : List (List Int)} {x : Int} {l l1 l2 : List Bool} {k j : Nat} {r : List Int} {t : Int} (h : Mid s x l k j l1) (hr : s[k]? = some r) (ht : r[j]? = some t) (hi : Into s x l1 t l2) : Mid s x l k (j + 1) l2 := by
  refine ⟨h.grows.trans hi.grows, fun u hu => ?_, fun u hne hu hn r' hr' t' ht' hx => ?_, fun r' hr' i t' hlt ht' hx => ?_⟩
  · rcases hi.sound u hu with h1 | h1
    · exact h.sound u h1
    · exact .inr h1
  · by_cases h1 : l1[u]? = some true
    · exact hi.grows.2 _ (h.shut u hne h1 hn r' hr' t' ht' hx)
    · exact hi.shut u hu h1 r' hr' t' ht' hx
  · rw [hr] at hr'; cases hr'
    by_cases e : i = j
    · subst e
      rw [ht] at ht'; cases ht'
      exact hi.here hx
    · exact hi.grows.2 _ (h.done r hr i t' (by omega) ht' hx)
theorem Mid.end {s : List (List Int)} {x : Int} {l l1 : List Bool} {k j : Nat} {r : List Int} (h : Mid s x l k j l1) (hr : s[k]? = some r) (hj : r.length ≤ j) (hk : k < l.length) : Into s x l (k : Int) l1 := by
  have hm : l1[k]? = some true := h.grows.2 k (by rw [List.getElem?_set]; simp [hk])
  refine ⟨Grows.set.trans h.grows, h.sound, fun _ => by simpa using hm, fun u hu hn r' hr' t ht hx => ?_⟩
  by_cases e : u = k
  · subst e
    rw [hr] at hr'; cases hr'
    obtain ⟨i, hi⟩ := List.getElem?_of_mem ht
    have := (List.getElem?_eq_some_iff.1 hi).1
    exact h.done r hr i t (by omega) hi hx
  · exact h.shut u e hu hn r' hr' t ht hx
theorem Into.marks {s : List (List Int)} {x : Int} {l' : List Bool} (hs : Closed s) (h : Into s x (List.replicate s.length false) 0 l') : Marks s x l' := by
  have hf : ∀ u : Nat, (List.replicate s.length false)[u]? ≠ some true := fun u hu => by rw [List.getElem?_replicate] at hu; split at hu <;> simp at hu
  refine marks_of hs ⟨by have := h.grows.1; simpa using this, fun u hu => (h.sound u hu).resolve_left (hf u)⟩ (fun _ hx => by have := h.here (fun e => hx e.symm); simpa using this) ?_
  intro a r b t ha hb _ hl hne
  exact h.shut a hl (hf a) r ha t (List.mem_of_getElem? hb) hne
theorem marks_nil {x : Int} : Marks [] x [] := ⟨rfl, fun t => ⟨fun h => by simp at h, fun h => by cases h with | zero h => exact absurd rfl h | step _ h => simp at h⟩⟩
end Go.Proofs.Ytjjijklonnhdeaa
