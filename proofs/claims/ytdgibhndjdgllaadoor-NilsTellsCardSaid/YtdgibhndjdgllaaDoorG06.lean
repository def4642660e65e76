/- Instructions, functions and programs, as plain data; what an instruction is. No program is in sight here. -/
import Derived.Test.YtdgibhndjdgllaaDoorG03
import Derived.Test.YtdgibhndjdgllaaDoorDTy2
set_option linter.unusedVariables false
set_option linter.unusedSimpArgs false

namespace Go.Proofs.YtdgibhndjdgllaaDoor
open Go.Ax

def int1 (n : Int) : List AV := [.lit (.int .i64 n)]
def ints (l : List Int) : AV := .sl false 1 (l.map int1)
def num (n : Int) : AV := .lit (.int .i64 n)
def tru (b : Bool) : AV := .lit (.bool b)

structure Ins where
  op : Int
  dst : Int
  a : Int
  b : Int
  c : Int
  n : Int
  m : Int
  site : Int
  args : List Int
deriving DecidableEq

def Ins.cs (i : Ins) : List AV := [num i.op, num i.dst, num i.a, num i.b, num i.c, num i.n, num i.m, num i.site, ints i.args]
def insA (i : Ins) : AV := .agg i.cs

structure Fun where
  name : ByteArray
  params : Int
  ret : Int
  regs : List Int
  blocks : List (List Ins)

structure Pro where
  funcs : List Fun
  main : Int
  sites : List (Int × Int)

def blk (b : List Ins) : List AV := [.sl false 9 (b.map Ins.cs)]
def Fun.cs (f : Fun) : List AV := [.lit (.string f.name), num f.params, num f.ret, ints f.regs, .sl false 1 (f.blocks.map blk)]
def funA (f : Fun) : AV := .agg f.cs
def site (s : Int × Int) : List AV := [num s.1, num s.2]
def Pro.cs (p : Pro) : List AV := [.sl false 5 (p.funcs.map Fun.cs), num p.main, .sl false 2 (p.sites.map site)]
def proA (p : Pro) : AV := .agg p.cs

def Fun.count (f : Fun) : Nat := (f.blocks.map List.length).sum
def Pro.count (p : Pro) : Nat := (p.funcs.map Fun.count).sum

/-- The lists are no longer than a machine's. -/
def Ins.fits (i : Ins) : Prop := i.args.length < 9223372036854775807
def Fun.fits (f : Fun) : Prop := f.blocks.length < 9223372036854775807 ∧ f.regs.length < 9223372036854775807 ∧ ∀ b ∈ f.blocks, b.length < 9223372036854775807 ∧ ∀ i ∈ b, i.fits
def Pro.fits (p : Pro) : Prop := p.funcs.length < 9223372036854775807 ∧ p.sites.length < 9223372036854775807 ∧ ∀ f ∈ p.funcs, f.fits

theorem sum_take_succ {l : List Nat} {k n : Nat} (h : l[k]? = some n) : (l.take (k + 1)).sum = (l.take k).sum + n := by
  rw [List.take_add_one, h, List.sum_append]; simp
theorem sum_take_le {l : List Nat} {k : Nat} : (l.take k).sum ≤ l.sum := by
  have := congrArg List.sum (List.take_append_drop k l)
  rw [List.sum_append] at this; omega
theorem take_succ {α : Type} {l : List α} {k : Nat} {x : α} (h : l[k]? = some x) : l.take (k + 1) = l.take k ++ [x] := by
  rw [List.take_add_one, h]; rfl
theorem all_take_succ {α : Type} {l : List α} {k : Nat} {x : α} {q : α → Prop} (h : l[k]? = some x) (h1 : ∀ y ∈ l.take k, q y) (h2 : q x) : ∀ y ∈ l.take (k + 1), q y := by
  intro y hy
  rw [take_succ h] at hy
  rcases List.mem_append.1 hy with hy | hy
  · exact h1 y hy
  · simp at hy; subst hy; exact h2
theorem take_all {α : Type} {l : List α} {k : Nat} (h : l.length ≤ k) : l.take k = l := List.take_of_length_le h

/-- Few: what 16's bound asks. -/
def Fun.few (f : Fun) (most : Int) : Prop := f.regs.length ≤ 100 ∧ (f.blocks.length : Int) ≤ most ∧ f.name.size ≤ 100 ∧ ∀ b ∈ f.blocks, ∀ i ∈ b, i.args.length ≤ 40
def Pro.few (p : Pro) (most : Int) : Prop := p.funcs.length ≤ 10 ∧ p.sites.length ≤ 200 ∧ (p.count : Int) ≤ most ∧ ∀ f ∈ p.funcs, f.few most
def Pro.light (p : Pro) : Prop := ∀ f ∈ p.funcs, f.blocks.length ≤ 1000 → f.count ≤ 100000000000000000

theorem Pro.count_le (p : Pro) (h : p.funcs.length ≤ 10) (c : Nat) (hc : ∀ f ∈ p.funcs, f.count ≤ c) : p.count ≤ p.funcs.length * c := by
  have : ∀ l : List Fun, (∀ f ∈ l, f.count ≤ c) → (l.map Fun.count).sum ≤ l.length * c := by
    intro l
    induction l with
    | nil => simp
    | cons f l ih =>
      intro h
      have h1 := h f (List.mem_cons_self ..)
      have h2 := ih fun g hg => h g (List.mem_cons_of_mem _ hg)
      simp only [List.map_cons, List.sum_cons, List.length_cons, Nat.add_mul]; omega
  exact this _ hc

theorem Fun.count_take (f : Fun) (k : Nat) : ((f.blocks.map List.length).take k).sum ≤ f.count := sum_take_le
theorem Pro.count_fun {p : Pro} {f : Fun} (h : f ∈ p.funcs) : f.count ≤ p.count := by
  obtain ⟨k, hk, rfl⟩ := List.getElem_of_mem h
  have h1 : (p.funcs.map Fun.count)[k]? = some p.funcs[k].count := by simp [List.getElem?_eq_getElem hk]
  have := sum_take_succ h1
  have : ((p.funcs.map Fun.count).take (k + 1)).sum ≤ p.count := sum_take_le
  omega

/-- What an Op has. -/
def hasTable : List (Int × Int) := [(20, 17), (21, 33), (22, 1), (30, 14), (31, 258), (32, 262), (33, 262), (34, 262), (35, 262), (36, 258), (37, 262), (38, 258), (39, 577), (40, 2), (41, 64), (42, 194), (43, 2), (44, 1537), (45, 2055)]
def hasF (op : Int) : Int := if (3 ≤ op ∧ op ≤ 16) ∨ op = 29 then 7 else if 23 ≤ op ∧ op ≤ 28 then 3 else (mget hasTable op).getD 0
def tellsF (m : Int) : Bool := (decide (3 ≤ m) && decide (m ≤ 8)) || decide (m = 20) || decide (m = 21)
/-- Two numbers' common bits. -/
def band (x y : Int) : Int := IntKind.i64.wrap (BitVec.ofInt IntKind.i64.bits x &&& BitVec.ofInt IntKind.i64.bits y).toNat
def fieldsA (i : Ins) (h : Int) : Bool := if band h 16 ≠ 0 then true else if band h 32 ≠ 0 then decide (i.n = 0 ∨ i.n = 1) else decide (0 ≤ i.n ∧ (band h 64 = 0 → i.n = 0))
def fieldsB (i : Ins) (h : Int) : Bool := if band h 128 ≠ 0 then decide (0 ≤ i.m ∧ i.m ≠ i.n) else if band h 2048 ≠ 0 then tellsF i.m && decide (i.m = 21 → i.b = 0) else decide (i.m = 0)
def fieldsF (i : Ins) (h : Int) : Bool := fieldsA i h && fieldsB i h
def fitF (h bit v : Int) : Bool := decide (0 ≤ v ∧ (band h bit = 0 → v = 0))
def argsF (i : Ins) (h : Int) : Bool := decide (((band h 512 = 0 → i.args.length = 0) ∧ (band h 1024 ≠ 0 → i.args.length ≠ 0) ∧ (i.op = 39 → i.args.length ≤ 8)) ∧ ∀ x ∈ i.args, 0 ≤ x)
def rightF (i : Ins) : Bool :=
  decide (hasF i.op ≠ 0) && fieldsF i (hasF i.op) && (fitF (hasF i.op) 1 i.dst && fitF (hasF i.op) 2 i.a && fitF (hasF i.op) 4 i.b && fitF (hasF i.op) 8 i.c && fitF (hasF i.op) 256 i.site) && argsF i (hasF i.op)
def defF (i : Ins) : Int := if rightF i = true ∧ band (hasF i.op) 1 ≠ 0 then i.dst else -1
end Go.Proofs.YtdgibhndjdgllaaDoor

/- Sets of numbers, a bit each, in words: what their operations come to. No program is in sight here. -/
namespace Go.Proofs.YtdgibhndjdgllaaDoor
open Go.Ax
abbrev W := BitVec 64
def w64 (b : W) : AV := .lit (.int .u64 (b.toNat : Int))
def u1 (b : W) : List AV := [w64 b]
def sets (s : List W) : AV := .sl false 1 (s.map u1)
theorem ofI (b : W) : BitVec.ofInt IntKind.u64.bits (b.toNat : Int) = b := by
  show BitVec.ofInt 64 _ = _
  simp
theorem wrapB (b : W) : IntKind.u64.wrap (b.toNat : Int) = b.toNat := wrap_u64 (by omega) (by have := b.isLt; omega)
theorem orI (a b : W) : IntKind.u64.wrap ((BitVec.ofInt IntKind.u64.bits (a.toNat : Int) ||| BitVec.ofInt IntKind.u64.bits (b.toNat : Int)).toNat : Int) = ((a ||| b).toNat : Int) := by
  rw [ofI, ofI]; exact wrapB (a ||| b)
theorem andI (a b : W) : IntKind.u64.wrap ((BitVec.ofInt IntKind.u64.bits (a.toNat : Int) &&& BitVec.ofInt IntKind.u64.bits (b.toNat : Int)).toNat : Int) = ((a &&& b).toNat : Int) := by
  rw [ofI, ofI]; exact wrapB (a &&& b)
theorem lessI (a b : W) : IntKind.u64.wrap ((BitVec.ofInt IntKind.u64.bits (a.toNat : Int) &&& ~~~BitVec.ofInt IntKind.u64.bits (b.toNat : Int)).toNat : Int) = ((a &&& ~~~b).toNat : Int) := by
  rw [ofI, ofI]; exact wrapB (a &&& ~~~b)
/-- The first k of n words are there. -/
def fillW (n k : Nat) (f : Nat → W) : List W := (List.range n).map fun i => if i < k then f i else 0
theorem fillW_len (n k : Nat) (f : Nat → W) : (fillW n k f).length = n := by simp [fillW]
theorem fillW_zero (n : Nat) (f : Nat → W) : fillW n 0 f = List.replicate n 0 := by
  unfold fillW
  induction n with
  | zero => rfl
  | succ n ih => rw [List.range_succ, List.map_append, ih, List.replicate_succ']; rfl
theorem fillW_set {n k : Nat} {f : Nat → W} (hk : k < n) : (fillW n k f).set k (f k) = fillW n (k + 1) f := by
  refine List.ext_getElem? fun i => ?_
  rw [List.getElem?_set]
  unfold fillW
  by_cases h : k = i
  · subst h
    rw [if_pos rfl, if_pos (by simpa using hk), List.getElem?_map, List.getElem?_range hk]
    simp
  · rw [if_neg h, List.getElem?_map, List.getElem?_map]
    by_cases hi : i < n
    · rw [List.getElem?_range hi]
      simp only [Option.map_some]
      by_cases h2 : i < k
      · rw [if_pos h2, if_pos (by omega)]
      · rw [if_neg h2, if_neg (by omega)]
    · rw [List.getElem?_eq_none (by simpa using hi)]; rfl
theorem fillW_at {n k i : Nat} {f : Nat → W} (hi : i < n) : (fillW n k f)[i]? = some (if i < k then f i else 0) := by
  unfold fillW
  rw [List.getElem?_map, List.getElem?_range hi]; rfl
def orW (a b : List W) : List W := fillW (max a.length b.length) (max a.length b.length) fun i => a.getD i 0 ||| b.getD i 0
def andW (a b : List W) : List W := fillW (min a.length b.length) (min a.length b.length) fun i => a.getD i 0 &&& b.getD i 0
def lessW (a b : List W) : List W := fillW a.length a.length fun i => a.getD i 0 &&& ~~~b.getD i 0
theorem Len.rep {n : Nat} {x : List AV} {k : Nat → Prop} (h : k n) : Len (List.replicate n x) k := ⟨_, by simp, h⟩
/-- How many words there are. -/
def wn (n : Nat) : Nat := (n + 63) / 64
def newW (n : Nat) : List W := List.replicate (wn n) 0
end Go.Proofs.YtdgibhndjdgllaaDoor

/- Which numbers are in a set of bits. No program is in sight here. -/
namespace Go.Proofs.YtdgibhndjdgllaaDoor
open Go.Ax
def ones64 : W := BitVec.allOnes 64
theorem ones_nat : (ones64.toNat : Int) = 18446744073709551615 := by decide
def fullAt (n i : Nat) : W := if i + 1 = wn n ∧ 0 < n % 64 then ones64 >>> (64 - n % 64) else ones64
def fullW (n : Nat) : List W := (List.range (wn n)).map (fullAt n)
theorem fullW_len (n : Nat) : (fullW n).length = wn n := by simp [fullW]
theorem newW_len (n : Nat) : (newW n).length = wn n := by simp [newW]
def hasW (s : List W) (i : Nat) : Bool := (s.getD (i / 64) 0).getLsbD (i % 64)
theorem fillW_getD {n i : Nat} {f : Nat → W} (hi : i < n) : (fillW n n f).getD i 0 = f i := by
  rw [List.getD_eq_getElem?_getD, fillW_at hi, if_pos hi]; rfl
theorem fillW_out {n i : Nat} {f : Nat → W} (hi : n ≤ i) : (fillW n n f).getD i 0 = 0 := by
  rw [List.getD_eq_getElem?_getD, List.getElem?_eq_none (by rw [fillW_len]; exact hi)]; rfl
theorem getD_out {s : List W} {i : Nat} (h : s.length ≤ i) : s.getD i 0 = 0 := by
  rw [List.getD_eq_getElem?_getD, List.getElem?_eq_none h]; rfl
theorem orW_at (a b : List W) (i : Nat) : (orW a b).getD i 0 = a.getD i 0 ||| b.getD i 0 := by
  unfold orW
  by_cases h : i < max a.length b.length
  · rw [fillW_getD h]
  · rw [fillW_out (by omega), getD_out (by omega), getD_out (s := b) (by omega)]; rfl
theorem andW_at (a b : List W) (i : Nat) : (andW a b).getD i 0 = a.getD i 0 &&& b.getD i 0 := by
  unfold andW
  by_cases h : i < min a.length b.length
  · rw [fillW_getD h]
  · rw [fillW_out (by omega)]
    by_cases h2 : a.length ≤ i
    · rw [getD_out h2]; simp
    · rw [getD_out (s := b) (by omega)]; simp
theorem lessW_at (a b : List W) (i : Nat) : (lessW a b).getD i 0 = a.getD i 0 &&& ~~~b.getD i 0 := by
  unfold lessW
  by_cases h : i < a.length
  · rw [fillW_getD h]
  · rw [fillW_out (by omega), getD_out (s := a) (by omega)]; simp
theorem hasW_or (a b : List W) (i : Nat) : hasW (orW a b) i = (hasW a i || hasW b i) := by
  unfold hasW; rw [orW_at]; simp
theorem hasW_and (a b : List W) (i : Nat) : hasW (andW a b) i = (hasW a i && hasW b i) := by
  unfold hasW; rw [andW_at]; simp
theorem hasW_less (a b : List W) (i : Nat) : hasW (lessW a b) i = (hasW a i && !hasW b i) := by
  unfold hasW; rw [lessW_at]
  have : i % 64 < 64 := Nat.mod_lt _ (by decide)
  simp [this]
theorem hasW_new (n i : Nat) : hasW (newW n) i = false := by
  unfold hasW newW
  rw [List.getD_eq_getElem?_getD, List.getElem?_replicate]
  split <;> simp
theorem hasW_full (n i : Nat) : hasW (fullW n) i = decide (i < n) := by
  have hm : i % 64 < 64 := Nat.mod_lt _ (by decide)
  unfold hasW
  by_cases h : i / 64 < wn n
  · have e : (fullW n).getD (i / 64) 0 = fullAt n (i / 64) := by
      unfold fullW
      rw [List.getD_eq_getElem?_getD, List.getElem?_map, List.getElem?_range h]; rfl
    rw [e]
    unfold fullAt
    split
    · rename_i h2
      unfold wn at h2
      rw [ones64, BitVec.getLsbD_ushiftRight, BitVec.getLsbD_allOnes]
      congr 1
      simp only [eq_iff_iff]
      omega
    · rename_i h2
      rw [ones64, BitVec.getLsbD_allOnes, decide_eq_true hm]
      symm
      rw [decide_eq_true_iff]
      unfold wn at h h2
      omega
  · rw [getD_out (by rw [fullW_len]; omega)]
    unfold wn at h
    simp; omega
/-- A set of that width. -/
def RightW (s : List W) (n : Nat) : Prop := s.length = wn n ∧ ∀ i, hasW s i = true → i < n
theorem zero_of {s : List W} (h : ∀ i, hasW s i = false) : ∀ w ∈ s, w = 0 := by
  intro w hw
  obtain ⟨k, hk, rfl⟩ := List.getElem_of_mem hw
  refine BitVec.eq_of_getLsbD_eq fun j hj => ?_
  have := h (k * 64 + j)
  unfold hasW at this
  rw [show (k * 64 + j) / 64 = k by omega, show (k * 64 + j) % 64 = j by omega, List.getD_eq_getElem?_getD, List.getElem?_eq_getElem hk, Option.getD_some] at this
  rw [this]; simp
theorem RightW.less {s : List W} {n : Nat} (h : RightW s n) : ∀ w ∈ lessW s (fullW n), w = 0 := zero_of fun i => by
  rw [hasW_less, hasW_full]
  cases hi : hasW s i with
  | false => rfl
  | true => simp [h.2 i hi]
theorem wn_le {n : Nat} (h : n ≤ 65536) : wn n ≤ 1024 := by unfold wn; omega
theorem shrI (m : Nat) (hm : 0 < m) (h : m < 64) : (18446744073709551615 : Int).fdiv (2 ^ min ((64 : Int) - m).toNat 64) = ((ones64 >>> (64 - m)).toNat : Int) := by
  rw [show ((64 : Int) - m).toNat = 64 - m by omega, show min (64 - m) 64 = 64 - m by omega, BitVec.toNat_ushiftRight, Nat.shiftRight_eq_div_pow]
  rw [Int.fdiv_eq_ediv_of_nonneg _ (Int.pow_nonneg (by decide))]
  rw [show ones64.toNat = 18446744073709551615 from by decide]
  rw [Int.natCast_ediv, Int.natCast_pow]
  rfl
theorem fullW_plain {n : Nat} (h : ¬ 0 < n % 64) : fullW n = fillW (wn n) (wn n) fun _ => ones64 := by
  refine List.ext_getElem? fun i => ?_
  by_cases hi : i < wn n
  · rw [fillW_at hi, if_pos hi]
    unfold fullW
    rw [List.getElem?_map, List.getElem?_range hi]
    show some (fullAt n i) = _
    unfold fullAt
    rw [if_neg (fun h2 => h h2.2)]
  · rw [List.getElem?_eq_none (by rw [fullW_len]; omega), List.getElem?_eq_none (by rw [fillW_len]; omega)]
theorem fullW_last {n : Nat} (h : 0 < n % 64) : fullW n = (fillW (wn n) (wn n) fun _ => ones64).set (wn n - 1) (ones64 >>> (64 - n % 64)) := by
  refine List.ext_getElem? fun i => ?_
  rw [List.getElem?_set]
  by_cases hi : i < wn n
  · rw [fillW_at hi, if_pos hi, fillW_len]
    unfold fullW
    rw [List.getElem?_map, List.getElem?_range hi]
    show some (fullAt n i) = _
    unfold fullAt
    by_cases he : wn n - 1 = i
    · have h1 : i + 1 = wn n := by omega
      have h2 : wn n - 1 < wn n := by omega
      rw [if_pos ⟨h1, h⟩, if_pos he, if_pos h2]
    · have h1 : ¬ (i + 1 = wn n ∧ 0 < n % 64) := fun h2 => he (by omega)
      rw [if_neg h1, if_neg he]
  · rw [List.getElem?_eq_none (by rw [fullW_len]; omega)]
    by_cases he : wn n - 1 = i
    · rw [if_pos he, fillW_len, if_neg (by omega)]
    · rw [if_neg he, List.getElem?_eq_none (by rw [fillW_len]; omega)]
/-- The same numbers, whatever words are missing. -/
def sameW (a b : List W) : Prop := ∀ i : Nat, a.getD i 0 = b.getD i 0
theorem sameW_bits {a b : List W} : sameW a b ↔ ∀ i, hasW a i = hasW b i := by
  constructor
  · intro h i
    unfold hasW; rw [h]
  · intro h k
    refine BitVec.eq_of_getLsbD_eq fun j hj => ?_
    have := h (k * 64 + j)
    unfold hasW at this
    rwa [show (k * 64 + j) / 64 = k by omega, show (k * 64 + j) % 64 = j by omega] at this
end Go.Proofs.YtdgibhndjdgllaaDoor

/- Small functions, by their contracts: lists and instructions the same, what an Op has. -/
namespace Go.Proofs.YtdgibhndjdgllaaDoor
open Go.Ax
set_option maxRecDepth 10000
set_option linter.unusedVariables false

theorem SameInts_spec (xs ys : List Int) (hl : xs.length ≤ 9223372036854775807) : FnSpec Tryd.prog 22 [ints xs, ints ys] (fun r => r = tru (decide (xs = ys))) := by
  refine spec_of 1000 Tryd.func22 rfl rfl ?_
  repeat' first | refine Len.map ?_ | refine Len.nil ?_ | refine Len.cons ?_ | refine Br.t rfl ?_ | refine Br.f rfl ?_ | refine Fit.au ?_ | refine Cv.au ?_ | refine Need.ne ?_ | refine Need.au ?_ | refine Pick.map (by assumption) ?_ | refine Pick.mapI (by omega) (by assumption) ?_ | refine PickN.mk _ (by assumption) ?_ | refine PickN.mk _ rfl ?_ | refine PickN.au ?_ | refine App.au rfl ?_ | refine App.au (own_map (fun _ => rfl) _) ?_ | refine Both.mk ?_ ?_ | exact True.intro | refine Br.d (fun h => ?_) (fun h => ?_) | refine Br.nd (fun h => ?_) (fun h => ?_) | refine Br.mk (fun h => ?_) (fun h => ?_)
  · have : xs ≠ ys := fun e => h (by rw [e])
    show _ = _
    simp [asRes, tru, this]
  · refine Stop.mk (loop_in (fun k : Nat => [(0, ints xs), (1, ints ys), (5, num k)]) (fun k => []) 0 (fun k => k ≤ xs.length ∧ xs.take k = ys.take k) (fun k => xs.length - k) 0 ⟨by omega, rfl⟩ (g := []) ⟨rfl, (by repeat' first | exact trivial | refine ⟨rfl, ?_⟩ | refine ⟨congrArg (fun n => AV.lit (.int .i64 n)) (by omega), ?_⟩ | refine ⟨congrArg (fun l => some (Row.row 1 l)) (by simp [int1, num, tru]), ?_⟩), (by repeat' first | exact trivial | refine ⟨rfl, ?_⟩ | refine ⟨congrArg (fun n => AV.lit (.int .i64 n)) (by omega), ?_⟩ | refine ⟨congrArg (fun l => some (Row.row 1 l)) (by simp [int1, num, tru]), ?_⟩)⟩ (fun k hk ih => ?_))
    obtain ⟨hk1, hk2⟩ := hk
    refine go 1000 Tryd.func22 ?_
    repeat' first | refine Len.map ?_ | refine Len.nil ?_ | refine Len.cons ?_ | refine Br.t rfl ?_ | refine Br.f rfl ?_ | refine Fit.au ?_ | refine Cv.au ?_ | refine Need.ne ?_ | refine Need.au ?_ | refine Pick.map (by assumption) ?_ | refine Pick.mapI (by omega) (by assumption) ?_ | refine PickN.mk _ (by assumption) ?_ | refine PickN.mk _ rfl ?_ | refine PickN.au ?_ | refine App.au rfl ?_ | refine App.au (own_map (fun _ => rfl) _) ?_ | refine Both.mk ?_ ?_ | exact True.intro
    refine Br.d (fun h2 => ?_) (fun h2 => ?_)
    · obtain ⟨x, gx, -⟩ := getK (l := xs) (k := k) (by omega)
      obtain ⟨y, gy, -⟩ := getK (l := ys) (k := k) (by omega)
      refine Draw.mk (sch 9 []) (by kernel_rfl) ?_
      refine Pick.map gx ?_
      refine Pick.map gy ?_
      refine Br.nd (fun h3 => ?_) (fun h3 => ?_)
      · have : xs ≠ ys := fun e => h3 (by subst e; rw [gx] at gy; exact Option.some.inj gy)
        show _ = _
        simp [asRes, tru, this]
      · repeat' first | refine Len.map ?_ | refine Len.nil ?_ | refine Len.cons ?_ | refine Br.t rfl ?_ | refine Br.f rfl ?_ | refine Fit.au ?_ | refine Cv.au ?_ | refine Need.ne ?_ | refine Need.au ?_ | refine Pick.map (by assumption) ?_ | refine Pick.mapI (by omega) (by assumption) ?_ | refine PickN.mk _ (by assumption) ?_ | refine PickN.mk _ rfl ?_ | refine PickN.au ?_ | refine App.au rfl ?_ | refine App.au (own_map (fun _ => rfl) _) ?_ | refine Both.mk ?_ ?_ | exact True.intro
        refine Stop.mk (ih (k + 1) _ _ _ ⟨by omega, ?_⟩ (by omega) (g := []) ⟨rfl, (by repeat' first | exact trivial | refine ⟨rfl, ?_⟩ | refine ⟨congrArg (fun n => AV.lit (.int .i64 n)) (by omega), ?_⟩ | refine ⟨congrArg (fun l => some (Row.row 1 l)) (by simp [int1, num, tru]), ?_⟩), (by repeat' first | exact trivial | refine ⟨rfl, ?_⟩ | refine ⟨congrArg (fun n => AV.lit (.int .i64 n)) (by omega), ?_⟩ | refine ⟨congrArg (fun l => some (Row.row 1 l)) (by simp [int1, num, tru]), ?_⟩)⟩)
        rw [take_succ gx, take_succ gy, hk2, h3]
    · repeat' first | refine Len.map ?_ | refine Len.nil ?_ | refine Len.cons ?_ | refine Br.t rfl ?_ | refine Br.f rfl ?_ | refine Fit.au ?_ | refine Cv.au ?_ | refine Need.ne ?_ | refine Need.au ?_ | refine Pick.map (by assumption) ?_ | refine Pick.mapI (by omega) (by assumption) ?_ | refine PickN.mk _ (by assumption) ?_ | refine PickN.mk _ rfl ?_ | refine PickN.au ?_ | refine App.au rfl ?_ | refine App.au (own_map (fun _ => rfl) _) ?_ | refine Both.mk ?_ ?_ | exact True.intro
      have e1 := take_all (l := xs) (k := k) (by omega)
      have e2 := take_all (l := ys) (k := k) (by omega)
      have : xs = ys := by rw [← e1, ← e2, hk2]
      show _ = _
      simp [asRes, tru, this]

theorem Count_spec (p : Pro) (hp : p.fits) (hc : p.count ≤ 9223372036854775807) : FnSpec Tryd.prog 55 [proA p] (fun r => r = num p.count) := by
  have hp1 := hp.1
  refine spec_of 1000 Tryd.func55 rfl rfl ?_
  repeat' first | refine Len.map ?_ | refine Len.nil ?_ | refine Len.cons ?_ | refine Br.t rfl ?_ | refine Br.f rfl ?_ | refine Fit.au ?_ | refine Cv.au ?_ | refine Need.ne ?_ | refine Need.au ?_ | refine Pick.map (by assumption) ?_ | refine Pick.mapI (by omega) (by assumption) ?_ | refine PickN.mk _ (by assumption) ?_ | refine PickN.mk _ rfl ?_ | refine PickN.au ?_ | refine App.au rfl ?_ | refine App.au (own_map (fun _ => rfl) _) ?_ | refine Both.mk ?_ ?_ | exact True.intro
  refine Stop.mk (loop_in (fun k : Nat => [(1, .hp 0 0), (3, num (((p.funcs.map Fun.count).take k).sum : Nat)), (4, num k)]) (fun k => [(0, .var p.cs)]) 1 (fun k => k ≤ p.funcs.length) (fun k => p.funcs.length - k) 0 (by omega) (g := []) ⟨rfl, (by repeat' first | exact trivial | refine ⟨rfl, ?_⟩ | refine ⟨congrArg (fun n => AV.lit (.int .i64 n)) (by omega), ?_⟩ | refine ⟨congrArg (fun l => some (Row.row 1 l)) (by simp [int1, num, tru]), ?_⟩), (by repeat' first | exact trivial | refine ⟨rfl, ?_⟩ | refine ⟨congrArg (fun n => AV.lit (.int .i64 n)) (by omega), ?_⟩ | refine ⟨congrArg (fun l => some (Row.row 1 l)) (by simp [int1, num, tru]), ?_⟩)⟩ (fun k hk ih => ?_))
  refine go 1000 Tryd.func55 ?_
  repeat' first | refine Len.map ?_ | refine Len.nil ?_ | refine Len.cons ?_ | refine Br.t rfl ?_ | refine Br.f rfl ?_ | refine Fit.au ?_ | refine Cv.au ?_ | refine Need.ne ?_ | refine Need.au ?_ | refine Pick.map (by assumption) ?_ | refine Pick.mapI (by omega) (by assumption) ?_ | refine PickN.mk _ (by assumption) ?_ | refine PickN.mk _ rfl ?_ | refine PickN.au ?_ | refine App.au rfl ?_ | refine App.au (own_map (fun _ => rfl) _) ?_ | refine Both.mk ?_ ?_ | exact True.intro
  refine Br.d (fun h2 => ?_) (fun h2 => ?_)
  · obtain ⟨f, gf, gm⟩ := getK (l := p.funcs) (k := k) (by omega)
    obtain ⟨hb1, _, hb2⟩ := hp.2.2 f gm
    have e1 := sum_take_succ (l := p.funcs.map Fun.count) (k := k) (n := f.count) (by simp [gf])
    have e2 : ((p.funcs.map Fun.count).take (k + 1)).sum ≤ p.count := sum_take_le
    repeat' first | refine Len.map ?_ | refine Len.nil ?_ | refine Len.cons ?_ | refine Br.t rfl ?_ | refine Br.f rfl ?_ | refine Fit.au ?_ | refine Cv.au ?_ | refine Need.ne ?_ | refine Need.au ?_ | refine Pick.map (by assumption) ?_ | refine Pick.mapI (by omega) (by assumption) ?_ | refine PickN.mk _ (by assumption) ?_ | refine PickN.mk _ rfl ?_ | refine PickN.au ?_ | refine App.au rfl ?_ | refine App.au (own_map (fun _ => rfl) _) ?_ | refine Both.mk ?_ ?_ | exact True.intro
    refine Stop.mk (loop_in (fun j : Nat => [(1, .hp 0 0), (3, num ((((p.funcs.map Fun.count).take k).sum + ((f.blocks.map List.length).take j).sum : Nat) : Int)), (4, num k), (5, num j)]) (fun k => [(0, .var p.cs)]) 1 (fun j => j ≤ f.blocks.length) (fun j => f.blocks.length - j) 0 (by omega) (g := []) ⟨rfl, (by repeat' first | exact trivial | refine ⟨rfl, ?_⟩ | refine ⟨congrArg (fun n => AV.lit (.int .i64 n)) (by omega), ?_⟩ | refine ⟨congrArg (fun l => some (Row.row 1 l)) (by simp [int1, num, tru]), ?_⟩), (by repeat' first | exact trivial | refine ⟨rfl, ?_⟩ | refine ⟨congrArg (fun n => AV.lit (.int .i64 n)) (by omega), ?_⟩ | refine ⟨congrArg (fun l => some (Row.row 1 l)) (by simp [int1, num, tru]), ?_⟩)⟩ (fun j hj ih2 => ?_))
    refine go 1000 Tryd.func55 ?_
    repeat' first | refine Len.map ?_ | refine Len.nil ?_ | refine Len.cons ?_ | refine Br.t rfl ?_ | refine Br.f rfl ?_ | refine Fit.au ?_ | refine Cv.au ?_ | refine Need.ne ?_ | refine Need.au ?_ | refine Pick.map (by assumption) ?_ | refine Pick.mapI (by omega) (by assumption) ?_ | refine PickN.mk _ (by assumption) ?_ | refine PickN.mk _ rfl ?_ | refine PickN.au ?_ | refine App.au rfl ?_ | refine App.au (own_map (fun _ => rfl) _) ?_ | refine Both.mk ?_ ?_ | exact True.intro
    refine Br.d (fun h3 => ?_) (fun h3 => ?_)
    · obtain ⟨b, gb, gbm⟩ := getK (l := f.blocks) (k := j) (by omega)
      have e3 := sum_take_succ (l := f.blocks.map List.length) (k := j) (n := b.length) (by simp [gb])
      have e4 := f.count_take (j + 1)
      repeat' first | refine Len.map ?_ | refine Len.nil ?_ | refine Len.cons ?_ | refine Br.t rfl ?_ | refine Br.f rfl ?_ | refine Fit.au ?_ | refine Cv.au ?_ | refine Need.ne ?_ | refine Need.au ?_ | refine Pick.map (by assumption) ?_ | refine Pick.mapI (by omega) (by assumption) ?_ | refine PickN.mk _ (by assumption) ?_ | refine PickN.mk _ rfl ?_ | refine PickN.au ?_ | refine App.au rfl ?_ | refine App.au (own_map (fun _ => rfl) _) ?_ | refine Both.mk ?_ ?_ | exact True.intro
      exact Stop.mk (ih2 (j + 1) _ _ _ (by omega) (by omega) (g := []) ⟨rfl, (by repeat' first | exact trivial | refine ⟨rfl, ?_⟩ | refine ⟨congrArg (fun n => AV.lit (.int .i64 n)) (by omega), ?_⟩ | refine ⟨congrArg (fun l => some (Row.row 1 l)) (by simp [int1, num, tru]), ?_⟩), (by repeat' first | exact trivial | refine ⟨rfl, ?_⟩ | refine ⟨congrArg (fun n => AV.lit (.int .i64 n)) (by omega), ?_⟩ | refine ⟨congrArg (fun l => some (Row.row 1 l)) (by simp [int1, num, tru]), ?_⟩)⟩)
    · have e3 : ((f.blocks.map List.length).take j).sum = f.count := by rw [take_all (by simp; omega)]; rfl
      repeat' first | refine Len.map ?_ | refine Len.nil ?_ | refine Len.cons ?_ | refine Br.t rfl ?_ | refine Br.f rfl ?_ | refine Fit.au ?_ | refine Cv.au ?_ | refine Need.ne ?_ | refine Need.au ?_ | refine Pick.map (by assumption) ?_ | refine Pick.mapI (by omega) (by assumption) ?_ | refine PickN.mk _ (by assumption) ?_ | refine PickN.mk _ rfl ?_ | refine PickN.au ?_ | refine App.au rfl ?_ | refine App.au (own_map (fun _ => rfl) _) ?_ | refine Both.mk ?_ ?_ | exact True.intro
      exact Stop.mk (ih (k + 1) _ _ _ (by omega) (by omega) (g := []) ⟨rfl, (by repeat' first | exact trivial | refine ⟨rfl, ?_⟩ | refine ⟨congrArg (fun n => AV.lit (.int .i64 n)) (by omega), ?_⟩ | refine ⟨congrArg (fun l => some (Row.row 1 l)) (by simp [int1, num, tru]), ?_⟩), (by repeat' first | exact trivial | refine ⟨rfl, ?_⟩ | refine ⟨congrArg (fun n => AV.lit (.int .i64 n)) (by omega), ?_⟩ | refine ⟨congrArg (fun l => some (Row.row 1 l)) (by simp [int1, num, tru]), ?_⟩)⟩)
  · have e3 : ((p.funcs.map Fun.count).take k).sum = p.count := by rw [take_all (by simp; omega)]; rfl
    repeat' first | refine Len.map ?_ | refine Len.nil ?_ | refine Len.cons ?_ | refine Br.t rfl ?_ | refine Br.f rfl ?_ | refine Fit.au ?_ | refine Cv.au ?_ | refine Need.ne ?_ | refine Need.au ?_ | refine Pick.map (by assumption) ?_ | refine Pick.mapI (by omega) (by assumption) ?_ | refine PickN.mk _ (by assumption) ?_ | refine PickN.mk _ rfl ?_ | refine PickN.au ?_ | refine App.au rfl ?_ | refine App.au (own_map (fun _ => rfl) _) ?_ | refine Both.mk ?_ ?_ | exact True.intro
    show _ = _
    simp [asRes, e3, num]

theorem Few_spec (p : Pro) (most : Int) (hm : most ≤ 1000) (hp : p.fits) (hl : p.light) : FnSpec Tryd.prog 24 [proA p, num most] (fun r => ∃ b, r = tru b ∧ (b = true → p.few most)) := by
  have hp1 := hp.1
  refine spec_of 1000 Tryd.func24 rfl rfl ?_
  repeat' first | refine Len.map ?_ | refine Len.nil ?_ | refine Len.cons ?_ | refine Br.t rfl ?_ | refine Br.f rfl ?_ | refine Fit.au ?_ | refine Cv.au ?_ | refine Need.ne ?_ | refine Need.au ?_ | refine Pick.map (by assumption) ?_ | refine Pick.mapI (by omega) (by assumption) ?_ | refine PickN.mk _ (by assumption) ?_ | refine PickN.mk _ rfl ?_ | refine PickN.au ?_ | refine App.au rfl ?_ | refine App.au (own_map (fun _ => rfl) _) ?_ | refine Both.mk ?_ ?_ | exact True.intro
  refine Stop.mk (loop_in (fun k : Nat => [(2, .hp 0 0), (1, num most), (5, num k)]) (fun k => [(0, .var p.cs)]) 1 (fun k => k ≤ p.funcs.length ∧ ∀ f ∈ p.funcs.take k, f.few most) (fun k => p.funcs.length - k) 0 ⟨by omega, by simp⟩ (g := []) ⟨rfl, (by repeat' first | exact trivial | refine ⟨rfl, ?_⟩ | refine ⟨congrArg (fun n => AV.lit (.int .i64 n)) (by omega), ?_⟩ | refine ⟨congrArg (fun l => some (Row.row 1 l)) (by simp [int1, num, tru]), ?_⟩), (by repeat' first | exact trivial | refine ⟨rfl, ?_⟩ | refine ⟨congrArg (fun n => AV.lit (.int .i64 n)) (by omega), ?_⟩ | refine ⟨congrArg (fun l => some (Row.row 1 l)) (by simp [int1, num, tru]), ?_⟩)⟩ (fun k hk ih => ?_))
  obtain ⟨hk1, hk2⟩ := hk
  refine go 1000 Tryd.func24 ?_
  repeat' first | refine Len.map ?_ | refine Len.nil ?_ | refine Len.cons ?_ | refine Br.t rfl ?_ | refine Br.f rfl ?_ | refine Fit.au ?_ | refine Cv.au ?_ | refine Need.ne ?_ | refine Need.au ?_ | refine Pick.map (by assumption) ?_ | refine Pick.mapI (by omega) (by assumption) ?_ | refine PickN.mk _ (by assumption) ?_ | refine PickN.mk _ rfl ?_ | refine PickN.au ?_ | refine App.au rfl ?_ | refine App.au (own_map (fun _ => rfl) _) ?_ | refine Both.mk ?_ ?_ | exact True.intro
  refine Br.d (fun h2 => ?_) (fun h2 => ?_)
  · obtain ⟨f, gf, gm⟩ := getK (l := p.funcs) (k := k) (by omega)
    obtain ⟨hb1, _, hb2⟩ := hp.2.2 f gm
    repeat' first | refine Len.map ?_ | refine Len.nil ?_ | refine Len.cons ?_ | refine Br.t rfl ?_ | refine Br.f rfl ?_ | refine Fit.au ?_ | refine Cv.au ?_ | refine Need.ne ?_ | refine Need.au ?_ | refine Pick.map (by assumption) ?_ | refine Pick.mapI (by omega) (by assumption) ?_ | refine PickN.mk _ (by assumption) ?_ | refine PickN.mk _ rfl ?_ | refine PickN.au ?_ | refine App.au rfl ?_ | refine App.au (own_map (fun _ => rfl) _) ?_ | refine Both.mk ?_ ?_ | exact True.intro | refine Br.d (fun h => ?_) (fun h => ?_) | refine Br.nd (fun h => ?_) (fun h => ?_) | refine Br.mk (fun h => ?_) (fun h => ?_)
    any_goals first | exact ⟨false, rfl, fun h => by cases h⟩ | skip
    rename_i h3 h4
    have h5 := h
    refine Stop.mk (loop_in (fun j : Nat => [(2, .hp 0 0), (1, num most), (5, num k), (6, .hp 1 0), (7, num j)]) (fun k => [(0, .var p.cs), (1, .var f.cs)]) 2 (fun j => j ≤ f.blocks.length ∧ ∀ b ∈ f.blocks.take j, ∀ i ∈ b, i.args.length ≤ 40) (fun j => f.blocks.length - j) 0 ⟨by omega, by simp⟩ (g := []) ⟨rfl, (by repeat' first | exact trivial | refine ⟨rfl, ?_⟩ | refine ⟨congrArg (fun n => AV.lit (.int .i64 n)) (by omega), ?_⟩ | refine ⟨congrArg (fun l => some (Row.row 1 l)) (by simp [int1, num, tru]), ?_⟩), (by repeat' first | exact trivial | refine ⟨rfl, ?_⟩ | refine ⟨congrArg (fun n => AV.lit (.int .i64 n)) (by omega), ?_⟩ | refine ⟨congrArg (fun l => some (Row.row 1 l)) (by simp [int1, num, tru]), ?_⟩)⟩ (fun j hj ih2 => ?_))
    obtain ⟨hj1, hj2⟩ := hj
    refine go 1000 Tryd.func24 ?_
    repeat' first | refine Len.map ?_ | refine Len.nil ?_ | refine Len.cons ?_ | refine Br.t rfl ?_ | refine Br.f rfl ?_ | refine Fit.au ?_ | refine Cv.au ?_ | refine Need.ne ?_ | refine Need.au ?_ | refine Pick.map (by assumption) ?_ | refine Pick.mapI (by omega) (by assumption) ?_ | refine PickN.mk _ (by assumption) ?_ | refine PickN.mk _ rfl ?_ | refine PickN.au ?_ | refine App.au rfl ?_ | refine App.au (own_map (fun _ => rfl) _) ?_ | refine Both.mk ?_ ?_ | exact True.intro
    refine Br.d (fun h6 => ?_) (fun h6 => ?_)
    · obtain ⟨b, gb, gbm⟩ := getK (l := f.blocks) (k := j) (by omega)
      obtain ⟨hb3, hb4⟩ := hb2 b gbm
      repeat' first | refine Len.map ?_ | refine Len.nil ?_ | refine Len.cons ?_ | refine Br.t rfl ?_ | refine Br.f rfl ?_ | refine Fit.au ?_ | refine Cv.au ?_ | refine Need.ne ?_ | refine Need.au ?_ | refine Pick.map (by assumption) ?_ | refine Pick.mapI (by omega) (by assumption) ?_ | refine PickN.mk _ (by assumption) ?_ | refine PickN.mk _ rfl ?_ | refine PickN.au ?_ | refine App.au rfl ?_ | refine App.au (own_map (fun _ => rfl) _) ?_ | refine Both.mk ?_ ?_ | exact True.intro
      refine Stop.mk (loop_in (fun m : Nat => [(2, .hp 0 0), (1, num most), (5, num k), (6, .hp 1 0), (7, num j), (8, num m)]) (fun k => [(0, .var p.cs), (1, .var f.cs)]) 2 (fun m => m ≤ b.length ∧ ∀ i ∈ b.take m, i.args.length ≤ 40) (fun m => b.length - m) 0 ⟨by omega, by simp⟩ (g := []) ⟨rfl, (by repeat' first | exact trivial | refine ⟨rfl, ?_⟩ | refine ⟨congrArg (fun n => AV.lit (.int .i64 n)) (by omega), ?_⟩ | refine ⟨congrArg (fun l => some (Row.row 1 l)) (by simp [int1, num, tru]), ?_⟩), (by repeat' first | exact trivial | refine ⟨rfl, ?_⟩ | refine ⟨congrArg (fun n => AV.lit (.int .i64 n)) (by omega), ?_⟩ | refine ⟨congrArg (fun l => some (Row.row 1 l)) (by simp [int1, num, tru]), ?_⟩)⟩ (fun m hm' ih3 => ?_))
      obtain ⟨hm1, hm2⟩ := hm'
      refine go 1000 Tryd.func24 ?_
      repeat' first | refine Len.map ?_ | refine Len.nil ?_ | refine Len.cons ?_ | refine Br.t rfl ?_ | refine Br.f rfl ?_ | refine Fit.au ?_ | refine Cv.au ?_ | refine Need.ne ?_ | refine Need.au ?_ | refine Pick.map (by assumption) ?_ | refine Pick.mapI (by omega) (by assumption) ?_ | refine PickN.mk _ (by assumption) ?_ | refine PickN.mk _ rfl ?_ | refine PickN.au ?_ | refine App.au rfl ?_ | refine App.au (own_map (fun _ => rfl) _) ?_ | refine Both.mk ?_ ?_ | exact True.intro
      refine Br.d (fun h7 => ?_) (fun h7 => ?_)
      · obtain ⟨i, gi, gim⟩ := getK (l := b) (k := m) (by omega)
        have hb5 := hb4 i gim
        repeat' first | refine Len.map ?_ | refine Len.nil ?_ | refine Len.cons ?_ | refine Br.t rfl ?_ | refine Br.f rfl ?_ | refine Fit.au ?_ | refine Cv.au ?_ | refine Need.ne ?_ | refine Need.au ?_ | refine Pick.map (by assumption) ?_ | refine Pick.mapI (by omega) (by assumption) ?_ | refine PickN.mk _ (by assumption) ?_ | refine PickN.mk _ rfl ?_ | refine PickN.au ?_ | refine App.au rfl ?_ | refine App.au (own_map (fun _ => rfl) _) ?_ | refine Both.mk ?_ ?_ | exact True.intro | refine Br.d (fun h => ?_) (fun h => ?_) | refine Br.nd (fun h => ?_) (fun h => ?_) | refine Br.mk (fun h => ?_) (fun h => ?_)
        · exact ⟨false, rfl, fun h => by cases h⟩
        · exact Stop.mk (ih3 (m + 1) _ _ _ ⟨by omega, all_take_succ gi hm2 (by omega)⟩ (by omega) (g := []) ⟨rfl, (by repeat' first | exact trivial | refine ⟨rfl, ?_⟩ | refine ⟨congrArg (fun n => AV.lit (.int .i64 n)) (by omega), ?_⟩ | refine ⟨congrArg (fun l => some (Row.row 1 l)) (by simp [int1, num, tru]), ?_⟩), (by repeat' first | exact trivial | refine ⟨rfl, ?_⟩ | refine ⟨congrArg (fun n => AV.lit (.int .i64 n)) (by omega), ?_⟩ | refine ⟨congrArg (fun l => some (Row.row 1 l)) (by simp [int1, num, tru]), ?_⟩)⟩)
      · rw [take_all (by omega)] at hm2
        repeat' first | refine Len.map ?_ | refine Len.nil ?_ | refine Len.cons ?_ | refine Br.t rfl ?_ | refine Br.f rfl ?_ | refine Fit.au ?_ | refine Cv.au ?_ | refine Need.ne ?_ | refine Need.au ?_ | refine Pick.map (by assumption) ?_ | refine Pick.mapI (by omega) (by assumption) ?_ | refine PickN.mk _ (by assumption) ?_ | refine PickN.mk _ rfl ?_ | refine PickN.au ?_ | refine App.au rfl ?_ | refine App.au (own_map (fun _ => rfl) _) ?_ | refine Both.mk ?_ ?_ | exact True.intro
        exact Stop.mk (ih2 (j + 1) _ _ _ ⟨by omega, all_take_succ gb hj2 hm2⟩ (by omega) (g := []) ⟨rfl, (by repeat' first | exact trivial | refine ⟨rfl, ?_⟩ | refine ⟨congrArg (fun n => AV.lit (.int .i64 n)) (by omega), ?_⟩ | refine ⟨congrArg (fun l => some (Row.row 1 l)) (by simp [int1, num, tru]), ?_⟩), (by repeat' first | exact trivial | refine ⟨rfl, ?_⟩ | refine ⟨congrArg (fun n => AV.lit (.int .i64 n)) (by omega), ?_⟩ | refine ⟨congrArg (fun l => some (Row.row 1 l)) (by simp [int1, num, tru]), ?_⟩)⟩)
    · rw [take_all (by omega)] at hj2
      repeat' first | refine Len.map ?_ | refine Len.nil ?_ | refine Len.cons ?_ | refine Br.t rfl ?_ | refine Br.f rfl ?_ | refine Fit.au ?_ | refine Cv.au ?_ | refine Need.ne ?_ | refine Need.au ?_ | refine Pick.map (by assumption) ?_ | refine Pick.mapI (by omega) (by assumption) ?_ | refine PickN.mk _ (by assumption) ?_ | refine PickN.mk _ rfl ?_ | refine PickN.au ?_ | refine App.au rfl ?_ | refine App.au (own_map (fun _ => rfl) _) ?_ | refine Both.mk ?_ ?_ | exact True.intro
      exact Stop.mk (ih (k + 1) _ _ _ ⟨by omega, all_take_succ gf hk2 ⟨by omega, by omega, by omega, hj2⟩⟩ (by omega) (g := []) ⟨rfl, (by repeat' first | exact trivial | refine ⟨rfl, ?_⟩ | refine ⟨congrArg (fun n => AV.lit (.int .i64 n)) (by omega), ?_⟩ | refine ⟨congrArg (fun l => some (Row.row 1 l)) (by simp [int1, num, tru]), ?_⟩), (by repeat' first | exact trivial | refine ⟨rfl, ?_⟩ | refine ⟨congrArg (fun n => AV.lit (.int .i64 n)) (by omega), ?_⟩ | refine ⟨congrArg (fun l => some (Row.row 1 l)) (by simp [int1, num, tru]), ?_⟩)⟩)
  · rw [take_all (by omega)] at hk2
    have hs := hp.2.1
    have hcount : p.funcs.length ≤ 10 → p.count ≤ 9223372036854775807 := fun h3 => by
      have h5 : ∀ f ∈ p.funcs, f.count ≤ 100000000000000000 := fun f hf => hl f hf (by have := (hk2 f hf).2.1; omega)
      have h6 := Pro.count_le p h3 _ h5
      have h7 : p.funcs.length * 100000000000000000 ≤ 10 * 100000000000000000 := Nat.mul_le_mul_right _ h3
      omega
    repeat' first | refine Call.eq (Count_spec p hp (hcount (by omega))) rfl ?_ | refine Len.map ?_ | refine Len.nil ?_ | refine Len.cons ?_ | refine Br.t rfl ?_ | refine Br.f rfl ?_ | refine Fit.au ?_ | refine Cv.au ?_ | refine Need.ne ?_ | refine Need.au ?_ | refine Pick.map (by assumption) ?_ | refine Pick.mapI (by omega) (by assumption) ?_ | refine PickN.mk _ (by assumption) ?_ | refine PickN.mk _ rfl ?_ | refine PickN.au ?_ | refine App.au rfl ?_ | refine App.au (own_map (fun _ => rfl) _) ?_ | refine Both.mk ?_ ?_ | exact True.intro | refine Br.d (fun h => ?_) (fun h => ?_) | refine Br.nd (fun h => ?_) (fun h => ?_) | refine Br.mk (fun h => ?_) (fun h => ?_)
    any_goals first | exact ⟨false, rfl, fun h => by cases h⟩ | skip
    exact ⟨_, rfl, fun h => ⟨by omega, by omega, by simpa using h, hk2⟩⟩
end Go.Proofs.YtdgibhndjdgllaaDoor

/- What an Op has, and whether an instruction is right, by contracts. -/
namespace Go.Proofs.YtdgibhndjdgllaaDoor
open Go.Ax
set_option maxRecDepth 10000
set_option linter.unusedVariables false

theorem ty_ok {t : Nat} {i : TyI} (h : tys.find t = some i) : TyOK Tryd.prog t i := TyT.find_ok (HasT.ok (P := Tryd.prog)) h

theorem has_spec (op : Int) : FnSpec Tryd.prog 91 [num op] (fun r => r = num (hasF op)) := by
  refine spec_of 1000 Tryd.func91 rfl rfl ?_
  repeat' first | refine Len.map ?_ | refine Len.nil ?_ | refine Len.cons ?_ | refine Br.t rfl ?_ | refine Br.f rfl ?_ | refine Fit.au ?_ | refine Cv.au ?_ | refine Need.ne ?_ | refine Need.au ?_ | refine Pick.map (by assumption) ?_ | refine Pick.mapI (by omega) (by assumption) ?_ | refine PickN.mk _ (by assumption) ?_ | refine PickN.mk _ rfl ?_ | refine PickN.au ?_ | refine App.au rfl ?_ | refine App.au (own_map (fun _ => rfl) _) ?_ | refine Both.mk ?_ ?_ | exact True.intro | refine Br.d (fun h => ?_) (fun h => ?_) | refine Br.nd (fun h => ?_) (fun h => ?_) | refine Br.mk (fun h => ?_) (fun h => ?_)
  all_goals first
    | (refine Stop.mk ?_
       refine run_makeMap rfl rfl ?_
       repeat' refine runM_insert rfl (ty_ok rfl) rfl (ty_ok rfl) rfl rfl ?_
       refine runM_done ?_
       refine go 1000 Tryd.func91 ?_
       refine Stop.mk ?_
       refine run_op rfl want_none rfl (Reads.ok (rd_lookup rfl (ty_ok rfl) rfl (ty_ok rfl) rfl (by kernel_rfl) rfl rfl rfl)) ?_
       refine go 1000 Tryd.func91 ?_
       show _ = _
       unfold hasF; rw [if_neg (by omega), if_neg (by omega)]; rfl)
    | (show _ = _
       unfold hasF; first | (rw [if_pos (by omega)]; rfl) | (rw [if_neg (by omega), if_pos (by omega)]; rfl))

theorem tells_spec (m : Int) : FnSpec Tryd.prog 115 [num m] (fun r => r = tru (tellsF m)) := by
  refine spec_of 1000 Tryd.func115 rfl rfl ?_
  repeat' first | refine Len.map ?_ | refine Len.nil ?_ | refine Len.cons ?_ | refine Br.t rfl ?_ | refine Br.f rfl ?_ | refine Fit.au ?_ | refine Cv.au ?_ | refine Need.ne ?_ | refine Need.au ?_ | refine Pick.map (by assumption) ?_ | refine Pick.mapI (by omega) (by assumption) ?_ | refine PickN.mk _ (by assumption) ?_ | refine PickN.mk _ rfl ?_ | refine PickN.au ?_ | refine App.au rfl ?_ | refine App.au (own_map (fun _ => rfl) _) ?_ | refine Both.mk ?_ ?_ | exact True.intro | refine Br.d (fun h => ?_) (fun h => ?_) | refine Br.nd (fun h => ?_) (fun h => ?_) | refine Br.mk (fun h => ?_) (fun h => ?_)
  all_goals (show _ = _; simp_all [asRes, tellsF, tru]; try omega)

set_option maxHeartbeats 4000000 in
theorem fields_spec (i : Ins) (h : Int) : FnSpec Tryd.prog 100 [insA i, num h] (fun r => r = tru (fieldsF i h)) := by
  refine spec_of 1000 Tryd.func100 rfl rfl ?_
  repeat' first | refine Call.eq (tells_spec _) rfl ?_ | refine Len.map ?_ | refine Len.nil ?_ | refine Len.cons ?_ | refine Br.t rfl ?_ | refine Br.f rfl ?_ | refine Fit.au ?_ | refine Cv.au ?_ | refine Need.ne ?_ | refine Need.au ?_ | refine Pick.map (by assumption) ?_ | refine Pick.mapI (by omega) (by assumption) ?_ | refine PickN.mk _ (by assumption) ?_ | refine PickN.mk _ rfl ?_ | refine PickN.au ?_ | refine App.au rfl ?_ | refine App.au (own_map (fun _ => rfl) _) ?_ | refine Both.mk ?_ ?_ | exact True.intro | refine Br.d (fun h => ?_) (fun h => ?_) | refine Br.nd (fun h => ?_) (fun h => ?_) | refine Br.mk (fun h => ?_) (fun h => ?_)
  all_goals
    show _ = _
    have e : ∀ x y, IntKind.i64.wrap (((BitVec.ofInt IntKind.i64.bits x &&& BitVec.ofInt IntKind.i64.bits y).toNat : Nat) : Int) = band x y := fun _ _ => rfl
    simp only [e] at *
    clear e
    simp only [asRes, fieldsF, fieldsA, fieldsB, tru]
    simp_all
    try omega

theorem Min_spec (l : List Int) (h0 : l ≠ []) (hl : l.length < 9223372036854775807) : FnSpec Tryd.prog 101 [ints l] (fun r => ∃ m, r = num m ∧ m ∈ l ∧ ∀ x ∈ l, m ≤ x) := by
  have h1 : 0 < l.length := List.length_pos_iff.2 h0
  obtain ⟨m0, g0, gm⟩ := getK (l := l) (k := 0) h1
  refine spec_of 1000 Tryd.func101 rfl rfl ?_
  refine Len.map ?_
  refine Br.d (fun h => by omega) (fun h => ?_)
  refine Pick.map (n := 0) g0 ?_
  repeat' first | refine Len.map ?_ | refine Len.nil ?_ | refine Len.cons ?_ | refine Br.t rfl ?_ | refine Br.f rfl ?_ | refine Fit.au ?_ | refine Cv.au ?_ | refine Need.ne ?_ | refine Need.au ?_ | refine Pick.map (by assumption) ?_ | refine Pick.mapI (by omega) (by assumption) ?_ | refine PickN.mk _ (by assumption) ?_ | refine PickN.mk _ rfl ?_ | refine PickN.au ?_ | refine App.au rfl ?_ | refine App.au (own_map (fun _ => rfl) _) ?_ | refine Both.mk ?_ ?_ | exact True.intro
  refine Stop.mk (loop_in (fun p : Nat × Int => [(0, ints l), (3, num p.2), (4, num p.1)]) (fun _ => []) 0 (fun p => p.1 ≤ l.length ∧ p.2 ∈ l ∧ ∀ x ∈ l.take p.1, p.2 ≤ x) (fun p => l.length - p.1) (1, m0) ⟨by dsimp only; omega, gm, ?_⟩ (g := []) ⟨rfl, (by repeat' first | exact trivial | refine ⟨rfl, ?_⟩ | refine ⟨congrArg (fun n => AV.lit (.int .i64 n)) (by omega), ?_⟩ | refine ⟨congrArg (fun l => some (Row.row 1 l)) (by simp [int1, num, tru]), ?_⟩), (by repeat' first | exact trivial | refine ⟨rfl, ?_⟩ | refine ⟨congrArg (fun n => AV.lit (.int .i64 n)) (by omega), ?_⟩ | refine ⟨congrArg (fun l => some (Row.row 1 l)) (by simp [int1, num, tru]), ?_⟩)⟩ (fun p hp ih => ?_))
  · intro x hx
    cases l with
    | nil => exact absurd rfl h0
    | cons a l => simp at g0 hx; omega
  · obtain ⟨k, m⟩ := p
    obtain ⟨hk, hm, hx⟩ := hp
    dsimp only at hk hm hx ih
    refine go 1000 Tryd.func101 ?_
    repeat' first | refine Len.map ?_ | refine Len.nil ?_ | refine Len.cons ?_ | refine Br.t rfl ?_ | refine Br.f rfl ?_ | refine Fit.au ?_ | refine Cv.au ?_ | refine Need.ne ?_ | refine Need.au ?_ | refine Pick.map (by assumption) ?_ | refine Pick.mapI (by omega) (by assumption) ?_ | refine PickN.mk _ (by assumption) ?_ | refine PickN.mk _ rfl ?_ | refine PickN.au ?_ | refine App.au rfl ?_ | refine App.au (own_map (fun _ => rfl) _) ?_ | refine Both.mk ?_ ?_ | exact True.intro
    refine Br.d (fun h => ?_) (fun h => ?_)
    · obtain ⟨x, gx, gxm⟩ := getK (l := l) (k := k) (by omega)
      repeat' first | refine Len.map ?_ | refine Len.nil ?_ | refine Len.cons ?_ | refine Br.t rfl ?_ | refine Br.f rfl ?_ | refine Fit.au ?_ | refine Cv.au ?_ | refine Need.ne ?_ | refine Need.au ?_ | refine Pick.map (by assumption) ?_ | refine Pick.mapI (by omega) (by assumption) ?_ | refine PickN.mk _ (by assumption) ?_ | refine PickN.mk _ rfl ?_ | refine PickN.au ?_ | refine App.au rfl ?_ | refine App.au (own_map (fun _ => rfl) _) ?_ | refine Both.mk ?_ ?_ | exact True.intro
      refine Stop.mk (ih (k + 1, min m x) _ _ _ ⟨by dsimp only; omega, ?_, ?_⟩ (by dsimp only; omega) (g := []) ⟨rfl, (by repeat' first | exact trivial | refine ⟨rfl, ?_⟩ | refine ⟨congrArg (fun n => AV.lit (.int .i64 n)) (by omega), ?_⟩ | refine ⟨congrArg (fun l => some (Row.row 1 l)) (by simp [int1, num, tru]), ?_⟩), (by repeat' first | exact trivial | refine ⟨rfl, ?_⟩ | refine ⟨congrArg (fun n => AV.lit (.int .i64 n)) (by omega), ?_⟩ | refine ⟨congrArg (fun l => some (Row.row 1 l)) (by simp [int1, num, tru]), ?_⟩)⟩)
      · dsimp only
        rcases Int.le_total m x with hh | hh
        · rw [Int.min_eq_left hh]; exact hm
        · rw [Int.min_eq_right hh]; exact gxm
      · exact all_take_succ gx (fun y hy => by have := hx y hy; dsimp only; omega) (by dsimp only; omega)
    · rw [take_all (by omega)] at hx
      repeat' first | refine Len.map ?_ | refine Len.nil ?_ | refine Len.cons ?_ | refine Br.t rfl ?_ | refine Br.f rfl ?_ | refine Fit.au ?_ | refine Cv.au ?_ | refine Need.ne ?_ | refine Need.au ?_ | refine Pick.map (by assumption) ?_ | refine Pick.mapI (by omega) (by assumption) ?_ | refine PickN.mk _ (by assumption) ?_ | refine PickN.mk _ rfl ?_ | refine PickN.au ?_ | refine App.au rfl ?_ | refine App.au (own_map (fun _ => rfl) _) ?_ | refine Both.mk ?_ ?_ | exact True.intro
      exact ⟨m, rfl, hm, hx⟩

def fl (i : Ins) : List (Int × Int) := [(1, i.dst), (2, i.a), (4, i.b), (8, i.c), (256, i.site)]
def two (p : Int × Int) : List AV := [num p.1, num p.2]

theorem band_eq (x y : Int) : IntKind.i64.wrap (((BitVec.ofInt IntKind.i64.bits x &&& BitVec.ofInt IntKind.i64.bits y).toNat : Nat) : Int) = band x y := rfl

set_option maxHeartbeats 4000000 in
theorem Right_spec (i : Ins) (hi : i.fits) : FnSpec Tryd.prog 70 [insA i] (fun r => r = tru (rightF i)) := by
  refine spec_of 3000 Tryd.func70 rfl rfl ?_
  repeat' first | refine Call.eq (has_spec _) rfl ?_ | refine Call.eq (fields_spec i _) rfl ?_ | refine Len.map ?_ | refine Len.nil ?_ | refine Len.cons ?_ | refine Br.t rfl ?_ | refine Br.f rfl ?_ | refine Fit.au ?_ | refine Cv.au ?_ | refine Need.ne ?_ | refine Need.au ?_ | refine Pick.map (by assumption) ?_ | refine Pick.mapI (by omega) (by assumption) ?_ | refine PickN.mk _ (by assumption) ?_ | refine PickN.mk _ rfl ?_ | refine PickN.au ?_ | refine App.au rfl ?_ | refine App.au (own_map (fun _ => rfl) _) ?_ | refine Both.mk ?_ ?_ | exact True.intro
  refine Br.d (fun h0 => ?_) (fun h0 => ?_)
  · repeat' first | refine Len.map ?_ | refine Len.nil ?_ | refine Len.cons ?_ | refine Br.t rfl ?_ | refine Br.f rfl ?_ | refine Fit.au ?_ | refine Cv.au ?_ | refine Need.ne ?_ | refine Need.au ?_ | refine Pick.map (by assumption) ?_ | refine Pick.mapI (by omega) (by assumption) ?_ | refine PickN.mk _ (by assumption) ?_ | refine PickN.mk _ rfl ?_ | refine PickN.au ?_ | refine App.au rfl ?_ | refine App.au (own_map (fun _ => rfl) _) ?_ | refine Both.mk ?_ ?_ | exact True.intro
    show _ = _
    simp [asRes, rightF, h0, tru]
  repeat' first | refine Call.eq (has_spec _) rfl ?_ | refine Call.eq (fields_spec i _) rfl ?_ | refine Len.map ?_ | refine Len.nil ?_ | refine Len.cons ?_ | refine Br.t rfl ?_ | refine Br.f rfl ?_ | refine Fit.au ?_ | refine Cv.au ?_ | refine Need.ne ?_ | refine Need.au ?_ | refine Pick.map (by assumption) ?_ | refine Pick.mapI (by omega) (by assumption) ?_ | refine PickN.mk _ (by assumption) ?_ | refine PickN.mk _ rfl ?_ | refine PickN.au ?_ | refine App.au rfl ?_ | refine App.au (own_map (fun _ => rfl) _) ?_ | refine Both.mk ?_ ?_ | exact True.intro
  refine Br.mk (fun h1 => ?_) (fun h1 => ?_)
  · show _ = _
    simp at h1
    simp [asRes, rightF, h0, h1, tru]
  simp at h1
  repeat' first | refine Len.map ?_ | refine Len.nil ?_ | refine Len.cons ?_ | refine Br.t rfl ?_ | refine Br.f rfl ?_ | refine Fit.au ?_ | refine Cv.au ?_ | refine Need.ne ?_ | refine Need.au ?_ | refine Pick.map (by assumption) ?_ | refine Pick.mapI (by omega) (by assumption) ?_ | refine PickN.mk _ (by assumption) ?_ | refine PickN.mk _ rfl ?_ | refine PickN.au ?_ | refine App.au rfl ?_ | refine App.au (own_map (fun _ => rfl) _) ?_ | refine Both.mk ?_ ?_ | exact True.intro
  refine Stop.mk (loop_in (fun k : Nat => [(1, .hp 0 0), (3, num (hasF i.op)), (33, .hw 1), (34, num 5), (35, num k)]) (fun k => [(1, .row 2 ((fl i).map two)), (0, .var i.cs)]) 2 (fun k => k ≤ 5 ∧ ∀ p ∈ (fl i).take k, fitF (hasF i.op) p.1 p.2 = true) (fun k => 5 - k) 0 ⟨by omega, by simp⟩ (g := []) ⟨rfl, (by repeat' first | exact trivial | refine ⟨rfl, ?_⟩ | refine ⟨congrArg (fun n => AV.lit (.int .i64 n)) (by omega), ?_⟩ | refine ⟨congrArg (fun l => some (Row.row 1 l)) (by simp [int1, num, tru]), ?_⟩), (by repeat' first | exact trivial | refine ⟨rfl, ?_⟩ | refine ⟨congrArg (fun n => AV.lit (.int .i64 n)) (by omega), ?_⟩ | refine ⟨congrArg (fun l => some (Row.row 1 l)) (by simp [int1, num, tru]), ?_⟩)⟩ (fun k hk ih => ?_))
  obtain ⟨hk1, hk2⟩ := hk
  refine go 1000 Tryd.func70 ?_
  refine Br.d (fun h2 => ?_) (fun h2 => ?_)
  · obtain ⟨p, gp, gm⟩ := getK (l := fl i) (k := k) (by simp [fl]; omega)
    have gp2 : ((fl i).map two)[k]? = some (two p) := by simp [gp]
    refine Need.mk ⟨by omega, by simp [fl]; omega⟩ ?_
    refine PickN.mk _ gp2 ?_
    have bad : fitF (hasF i.op) p.1 p.2 = false → (asRes [tru false] : AV) = tru (rightF i) := fun hb => by
      have : rightF i = false := by
        simp only [fl, List.mem_cons, List.not_mem_nil, or_false] at gm
        rcases gm with rfl | rfl | rfl | rfl | rfl <;> simp [rightF, hb]
      rw [this]; rfl
    repeat' first | refine Len.map ?_ | refine Len.nil ?_ | refine Len.cons ?_ | refine Br.t rfl ?_ | refine Br.f rfl ?_ | refine Fit.au ?_ | refine Cv.au ?_ | refine Need.ne ?_ | refine Need.au ?_ | refine Pick.map (by assumption) ?_ | refine Pick.mapI (by omega) (by assumption) ?_ | refine PickN.mk _ (by assumption) ?_ | refine PickN.mk _ rfl ?_ | refine PickN.au ?_ | refine App.au rfl ?_ | refine App.au (own_map (fun _ => rfl) _) ?_ | refine Both.mk ?_ ?_ | exact True.intro | refine Br.d (fun h => ?_) (fun h => ?_) | refine Br.nd (fun h => ?_) (fun h => ?_) | refine Br.mk (fun h => ?_) (fun h => ?_)
    · show _ = _
      exact bad (by simp [fitF]; omega)
    · show _ = _
      exact bad (by simp only [band_eq] at *; simp [fitF]; omega)
    · refine Stop.mk (ih (k + 1) _ _ _ ⟨by omega, all_take_succ gp hk2 ?_⟩ (by omega) (g := []) ⟨rfl, (by repeat' first | exact trivial | refine ⟨rfl, ?_⟩ | refine ⟨congrArg (fun n => AV.lit (.int .i64 n)) (by omega), ?_⟩ | refine ⟨congrArg (fun l => some (Row.row 1 l)) (by simp [int1, num, tru]), ?_⟩), (by repeat' first | exact trivial | refine ⟨rfl, ?_⟩ | refine ⟨congrArg (fun n => AV.lit (.int .i64 n)) (by omega), ?_⟩ | refine ⟨congrArg (fun l => some (Row.row 1 l)) (by simp [int1, num, tru]), ?_⟩)⟩)
      simp only [band_eq] at *; simp [fitF]; omega
    · refine Stop.mk (ih (k + 1) _ _ _ ⟨by omega, all_take_succ gp hk2 ?_⟩ (by omega) (g := []) ⟨rfl, (by repeat' first | exact trivial | refine ⟨rfl, ?_⟩ | refine ⟨congrArg (fun n => AV.lit (.int .i64 n)) (by omega), ?_⟩ | refine ⟨congrArg (fun l => some (Row.row 1 l)) (by simp [int1, num, tru]), ?_⟩), (by repeat' first | exact trivial | refine ⟨rfl, ?_⟩ | refine ⟨congrArg (fun n => AV.lit (.int .i64 n)) (by omega), ?_⟩ | refine ⟨congrArg (fun l => some (Row.row 1 l)) (by simp [int1, num, tru]), ?_⟩)⟩)
      simp only [band_eq] at *; simp [fitF]; omega
  · rw [take_all (by simp [fl]; omega)] at hk2
    have hfit : (fitF (hasF i.op) 1 i.dst && fitF (hasF i.op) 2 i.a && fitF (hasF i.op) 4 i.b && fitF (hasF i.op) 8 i.c && fitF (hasF i.op) 256 i.site) = true := by
      simp only [fl, List.forall_mem_cons] at hk2
      simp [hk2]
    have hr : rightF i = argsF i (hasF i.op) := by
      unfold rightF; rw [hfit, h1]; simp [h0]
    have hargs : i.args.length ≠ 0 → i.args ≠ [] := fun h e => by rw [e] at h; exact h rfl
    have bad : ¬ ((band (hasF i.op) 512 = 0 → i.args.length = 0) ∧ (band (hasF i.op) 1024 ≠ 0 → i.args.length ≠ 0) ∧ (i.op = 39 → i.args.length ≤ 8)) → (asRes [tru false] : AV) = tru (rightF i) := fun hb => by
      have : argsF i (hasF i.op) = false := decide_eq_false fun h => hb h.1
      rw [hr, this]; rfl
    have good : ∀ b : Bool, ((band (hasF i.op) 512 = 0 → i.args.length = 0) ∧ (band (hasF i.op) 1024 ≠ 0 → i.args.length ≠ 0) ∧ (i.op = 39 → i.args.length ≤ 8)) → (b = true ↔ ∀ x ∈ i.args, 0 ≤ x) → (asRes [tru b] : AV) = tru (rightF i) := fun b h1 h2 => by
      rw [hr]
      show tru b = tru _
      congr 1
      rw [Bool.eq_iff_iff, h2]; unfold argsF; rw [decide_eq_true_iff]; exact ⟨fun h => ⟨h1, h⟩, fun h => h.2⟩
    have none : i.args.length = 0 → ∀ x ∈ i.args, 0 ≤ x := fun h => by rw [List.eq_nil_of_length_eq_zero h]; simp
    repeat' first | (refine Call.of (Min_spec i.args (hargs (by omega)) hi) ?_; rintro r ⟨m, rfl, hm, hx⟩; refine ⟨rfl, ?_⟩) | refine Len.map ?_ | refine Len.nil ?_ | refine Len.cons ?_ | refine Br.t rfl ?_ | refine Br.f rfl ?_ | refine Fit.au ?_ | refine Cv.au ?_ | refine Need.ne ?_ | refine Need.au ?_ | refine Pick.map (by assumption) ?_ | refine Pick.mapI (by omega) (by assumption) ?_ | refine PickN.mk _ (by assumption) ?_ | refine PickN.mk _ rfl ?_ | refine PickN.au ?_ | refine App.au rfl ?_ | refine App.au (own_map (fun _ => rfl) _) ?_ | refine Both.mk ?_ ?_ | exact True.intro | refine Br.d (fun h => ?_) (fun h => ?_) | refine Br.nd (fun h => ?_) (fun h => ?_) | refine Br.mk (fun h => ?_) (fun h => ?_)
    clear ih
    all_goals (show _ = _; try simp only [band_eq] at *)
    all_goals first
      | exact bad (by omega)
      | exact good _ (by omega) (by rename_i m hm hx; simp; exact ⟨fun h x hx' => by have := hx x hx'; omega, fun h => h m hm⟩)
      | exact good _ (by omega) (by simp; exact none (by omega))

theorem Def_spec (i : Ins) (hi : i.fits) : FnSpec Tryd.prog 60 [insA i] (fun r => r = num (defF i)) := by
  refine spec_of 1000 Tryd.func60 rfl rfl ?_
  repeat' first | refine Call.eq (Right_spec i hi) rfl ?_ | refine Call.eq (has_spec _) rfl ?_ | refine Len.map ?_ | refine Len.nil ?_ | refine Len.cons ?_ | refine Br.t rfl ?_ | refine Br.f rfl ?_ | refine Fit.au ?_ | refine Cv.au ?_ | refine Need.ne ?_ | refine Need.au ?_ | refine Pick.map (by assumption) ?_ | refine Pick.mapI (by omega) (by assumption) ?_ | refine PickN.mk _ (by assumption) ?_ | refine PickN.mk _ rfl ?_ | refine PickN.au ?_ | refine App.au rfl ?_ | refine App.au (own_map (fun _ => rfl) _) ?_ | refine Both.mk ?_ ?_ | exact True.intro | refine Br.d (fun h => ?_) (fun h => ?_) | refine Br.nd (fun h => ?_) (fun h => ?_) | refine Br.mk (fun h => ?_) (fun h => ?_)
  all_goals (show _ = _; try simp only [band_eq] at *)
  all_goals (simp_all [asRes, defF, num])
end Go.Proofs.YtdgibhndjdgllaaDoor

/- What an instruction is, as the document's answer says it. No program is in sight here. -/
namespace Go.Proofs.YtdgibhndjdgllaaDoor
open Go.Ax

def twoF (op : Int) : Bool := decide ((3 ≤ op ∧ op ≤ 16) ∨ op ∈ [(29 : Int), 32, 33, 34, 35, 37])
def oneF (op : Int) : Bool := decide (op ∈ [(23 : Int), 24, 25, 26, 27, 28, 31, 36, 38, 40, 42, 43])
def writesF (op : Int) : Bool := decide ((3 ≤ op ∧ op ≤ 16) ∨ (20 ≤ op ∧ op ≤ 29) ∨ op = 39 ∨ op = 44 ∨ op = 45)
def checkF (op : Int) : Bool := decide (31 ≤ op ∧ op ≤ 38)
def endsF (op : Int) : Bool := decide (41 ≤ op ∧ op ≤ 43)
def trapF (op : Int) : Int := if checkF op = true then (if op = 31 then 1 else if op = 32 then 2 else if op ≤ 36 then 3 else if op = 37 then 4 else 5) else 0
def fits0 (h : Bool) (n : Int) : Bool := decide (n = 0 ∨ (h = true ∧ 0 < n))
/-- Has an Op an A and a B? -/
def abF (op : Int) : Bool := twoF op || decide (op = 30 ∨ op = 45)
def bF (i : Ins) : Bool := abF i.op && decide (i.op ≠ 45 ∨ i.m ≠ 21)
def opF (op : Int) : Bool := decide (3 ≤ op ∧ op ≤ 45 ∧ ¬ (16 < op ∧ op < 20))
def fitsF (i : Ins) : Bool := fits0 (writesF i.op) i.dst && (fits0 (abF i.op || oneF i.op) i.a && (fits0 (bF i) i.b && (fits0 (decide (i.op = 30)) i.c && fits0 (checkF i.op) i.site)))
def tailA (i : Ins) : Bool :=
  if i.op = 20 then decide (i.m = 0)
  else if i.op = 21 then decide (i.m = 0 ∧ (i.n = 0 ∨ i.n = 1))
  else if i.op = 41 then decide (i.m = 0 ∧ 0 ≤ i.n)
  else if i.op = 42 then decide (0 ≤ i.m ∧ 0 ≤ i.n ∧ i.m ≠ i.n)
  else decide (i.n = 0 ∧ i.m = 0)
def tailF (i : Ins) : Bool :=
  if i.op = 39 then decide (0 ≤ i.n ∧ i.m = 0 ∧ i.args.length ≤ 8)
  else if i.op = 44 then decide (i.n = 0 ∧ i.m = 0 ∧ 1 ≤ i.args.length)
  else if i.op = 45 then decide (i.n = 0 ∧ ((3 ≤ i.m ∧ i.m ≤ 8) ∨ i.m = 20 ∨ i.m = 21) ∧ i.args.length = 0)
  else decide (i.args.length = 0) && tailA i
def right15 (i : Ins) : Bool := opF i.op && (fitsF i && (decide (∀ x ∈ i.args, 0 ≤ x) && tailF i))
def usesF (i : Ins) : List Int := if right15 i = true then (if abF i.op || oneF i.op then [i.a] else []) ++ ((if bF i then [i.b] else []) ++ ((if i.op = 30 then [i.c] else []) ++ i.args)) else []
def targetsF (i : Ins) : List Int := if right15 i = true ∧ i.op = 41 then [i.n] else if right15 i = true ∧ i.op = 42 then [i.n, i.m] else []
def def15 (i : Ins) : Int := if right15 i = true ∧ writesF i.op = true then i.dst else -1
theorem bF_eq (i : Ins) : bF i = (twoF i.op || (decide (i.op = 30) || (decide (i.op = 45) && !decide (i.m = 21)))) := by
  unfold bF abF twoF
  rw [Bool.eq_iff_iff]; simp; omega
theorem abF_eq (op : Int) : abF op = (twoF op || (decide (op = 30) || decide (op = 45))) := by
  unfold abF
  rw [Bool.eq_iff_iff]; simp
theorem usesF_len (i : Ins) : (usesF i).length ≤ i.args.length + 3 := by
  unfold usesF; split
  · simp only [List.length_append]; split <;> split <;> split <;> simp <;> omega
  · simp
attribute [irreducible] twoF oneF writesF checkF endsF fits0 abF bF opF
end Go.Proofs.YtdgibhndjdgllaaDoor

/- The document's answer for instructions, by contracts. -/
namespace Go.Proofs.YtdgibhndjdgllaaDoor
open Go.Ax
set_option maxRecDepth 10000
set_option linter.unusedVariables false

theorem HasInt_spec (l : List Int) (x : Int) (hl : l.length < 9223372036854775807) : FnSpec Tryd.prog 34 [ints l, num x] (fun r => r = tru (decide (x ∈ l))) := by
  refine spec_of 1000 Tryd.func34 rfl rfl ?_
  repeat' first | refine Len.map ?_ | refine Len.nil ?_ | refine Len.cons ?_ | refine Br.t rfl ?_ | refine Br.f rfl ?_ | refine Fit.au ?_ | refine Cv.au ?_ | refine Need.ne ?_ | refine Need.au ?_ | refine Pick.map (by assumption) ?_ | refine Pick.mapI (by omega) (by assumption) ?_ | refine PickN.mk _ (by assumption) ?_ | refine PickN.mk _ rfl ?_ | refine PickN.au ?_ | refine App.au rfl ?_ | refine App.au (own_map (fun _ => rfl) _) ?_ | refine Both.mk ?_ ?_ | exact True.intro
  refine Stop.mk (loop_in (fun k : Nat => [(0, ints l), (1, num x), (5, num k)]) (fun _ => []) 0 (fun k => k ≤ l.length ∧ x ∉ l.take k) (fun k => l.length - k) 0 ⟨by omega, by simp⟩ (g := []) ⟨rfl, (by repeat' first | exact trivial | refine ⟨rfl, ?_⟩ | refine ⟨congrArg (fun n => AV.lit (.int .i64 n)) (by omega), ?_⟩ | refine ⟨congrArg (fun l => some (Row.row 1 l)) (by simp [int1, num, tru]), ?_⟩), (by repeat' first | exact trivial | refine ⟨rfl, ?_⟩ | refine ⟨congrArg (fun n => AV.lit (.int .i64 n)) (by omega), ?_⟩ | refine ⟨congrArg (fun l => some (Row.row 1 l)) (by simp [int1, num, tru]), ?_⟩)⟩ (fun k hk ih => ?_))
  obtain ⟨hk1, hk2⟩ := hk
  refine go 1000 Tryd.func34 ?_
  repeat' first | refine Len.map ?_ | refine Len.nil ?_ | refine Len.cons ?_ | refine Br.t rfl ?_ | refine Br.f rfl ?_ | refine Fit.au ?_ | refine Cv.au ?_ | refine Need.ne ?_ | refine Need.au ?_ | refine Pick.map (by assumption) ?_ | refine Pick.mapI (by omega) (by assumption) ?_ | refine PickN.mk _ (by assumption) ?_ | refine PickN.mk _ rfl ?_ | refine PickN.au ?_ | refine App.au rfl ?_ | refine App.au (own_map (fun _ => rfl) _) ?_ | refine Both.mk ?_ ?_ | exact True.intro
  refine Br.d (fun h2 => ?_) (fun h2 => ?_)
  · obtain ⟨y, gy, gm⟩ := getK (l := l) (k := k) (by omega)
    repeat' first | refine Len.map ?_ | refine Len.nil ?_ | refine Len.cons ?_ | refine Br.t rfl ?_ | refine Br.f rfl ?_ | refine Fit.au ?_ | refine Cv.au ?_ | refine Need.ne ?_ | refine Need.au ?_ | refine Pick.map (by assumption) ?_ | refine Pick.mapI (by omega) (by assumption) ?_ | refine PickN.mk _ (by assumption) ?_ | refine PickN.mk _ rfl ?_ | refine PickN.au ?_ | refine App.au rfl ?_ | refine App.au (own_map (fun _ => rfl) _) ?_ | refine Both.mk ?_ ?_ | exact True.intro
    refine Br.d (fun h3 => ?_) (fun h3 => ?_)
    · subst h3
      show _ = _
      simp [asRes, tru, gm]
    · repeat' first | refine Len.map ?_ | refine Len.nil ?_ | refine Len.cons ?_ | refine Br.t rfl ?_ | refine Br.f rfl ?_ | refine Fit.au ?_ | refine Cv.au ?_ | refine Need.ne ?_ | refine Need.au ?_ | refine Pick.map (by assumption) ?_ | refine Pick.mapI (by omega) (by assumption) ?_ | refine PickN.mk _ (by assumption) ?_ | refine PickN.mk _ rfl ?_ | refine PickN.au ?_ | refine App.au rfl ?_ | refine App.au (own_map (fun _ => rfl) _) ?_ | refine Both.mk ?_ ?_ | exact True.intro
      refine Stop.mk (ih (k + 1) _ _ _ ⟨by omega, ?_⟩ (by omega) (g := []) ⟨rfl, (by repeat' first | exact trivial | refine ⟨rfl, ?_⟩ | refine ⟨congrArg (fun n => AV.lit (.int .i64 n)) (by omega), ?_⟩ | refine ⟨congrArg (fun l => some (Row.row 1 l)) (by simp [int1, num, tru]), ?_⟩), (by repeat' first | exact trivial | refine ⟨rfl, ?_⟩ | refine ⟨congrArg (fun n => AV.lit (.int .i64 n)) (by omega), ?_⟩ | refine ⟨congrArg (fun l => some (Row.row 1 l)) (by simp [int1, num, tru]), ?_⟩)⟩)
      rw [take_succ gy]; simp [hk2]; omega
  · rw [take_all (by omega)] at hk2
    repeat' first | refine Len.map ?_ | refine Len.nil ?_ | refine Len.cons ?_ | refine Br.t rfl ?_ | refine Br.f rfl ?_ | refine Fit.au ?_ | refine Cv.au ?_ | refine Need.ne ?_ | refine Need.au ?_ | refine Pick.map (by assumption) ?_ | refine Pick.mapI (by omega) (by assumption) ?_ | refine PickN.mk _ (by assumption) ?_ | refine PickN.mk _ rfl ?_ | refine PickN.au ?_ | refine App.au rfl ?_ | refine App.au (own_map (fun _ => rfl) _) ?_ | refine Both.mk ?_ ?_ | exact True.intro
    show _ = _
    simp [asRes, tru, hk2]

theorem two_spec (op : Int) : FnSpec Tryd.prog 92 [num op] (fun r => r = tru (twoF op)) := by
  refine spec_of 1000 Tryd.func92 rfl rfl ?_
  repeat' first | refine Look.yes (View.mk _ rfl ?_) | refine CallV.eq (HasInt_spec [29, 32, 33, 34, 35, 37] op (by decide)) rfl (Free.lit _) ?_ | refine Len.map ?_ | refine Len.nil ?_ | refine Len.cons ?_ | refine Br.t rfl ?_ | refine Br.f rfl ?_ | refine Fit.au ?_ | refine Cv.au ?_ | refine Need.ne ?_ | refine Need.au ?_ | refine Pick.map (by assumption) ?_ | refine Pick.mapI (by omega) (by assumption) ?_ | refine PickN.mk _ (by assumption) ?_ | refine PickN.mk _ rfl ?_ | refine PickN.au ?_ | refine App.au rfl ?_ | refine App.au (own_map (fun _ => rfl) _) ?_ | refine Both.mk ?_ ?_ | exact True.intro | refine Br.d (fun h => ?_) (fun h => ?_) | refine Br.nd (fun h => ?_) (fun h => ?_) | refine Br.mk (fun h => ?_) (fun h => ?_)
  all_goals (show _ = _; try simp_all [asRes, tru, num, twoF]; try first | done | omega | (rw [Bool.eq_iff_iff]; simp; omega) | (simp; omega))
theorem one_spec (op : Int) : FnSpec Tryd.prog 93 [num op] (fun r => r = tru (oneF op)) := by
  refine spec_of 1000 Tryd.func93 rfl rfl ?_
  repeat' first | refine Look.yes (View.mk _ rfl ?_) | refine CallV.eq (HasInt_spec [23, 24, 25, 26, 27, 28, 31, 36, 38, 40, 42, 43] op (by decide)) rfl (Free.lit _) ?_ | refine Len.map ?_ | refine Len.nil ?_ | refine Len.cons ?_ | refine Br.t rfl ?_ | refine Br.f rfl ?_ | refine Fit.au ?_ | refine Cv.au ?_ | refine Need.ne ?_ | refine Need.au ?_ | refine Pick.map (by assumption) ?_ | refine Pick.mapI (by omega) (by assumption) ?_ | refine PickN.mk _ (by assumption) ?_ | refine PickN.mk _ rfl ?_ | refine PickN.au ?_ | refine App.au rfl ?_ | refine App.au (own_map (fun _ => rfl) _) ?_ | refine Both.mk ?_ ?_ | exact True.intro | refine Br.d (fun h => ?_) (fun h => ?_) | refine Br.nd (fun h => ?_) (fun h => ?_) | refine Br.mk (fun h => ?_) (fun h => ?_)
  all_goals (show _ = _; try simp_all [asRes, tru, num, oneF]; try first | done | omega | (rw [Bool.eq_iff_iff]; simp; omega) | (simp; omega))
theorem fits_spec (h : Bool) (n : Int) : FnSpec Tryd.prog 107 [tru h, num n] (fun r => r = tru (fits0 h n)) := by
  refine spec_of 1000 Tryd.func107 rfl rfl ?_
  repeat' first | refine Len.map ?_ | refine Len.nil ?_ | refine Len.cons ?_ | refine Br.t rfl ?_ | refine Br.f rfl ?_ | refine Fit.au ?_ | refine Cv.au ?_ | refine Need.ne ?_ | refine Need.au ?_ | refine Pick.map (by assumption) ?_ | refine Pick.mapI (by omega) (by assumption) ?_ | refine PickN.mk _ (by assumption) ?_ | refine PickN.mk _ rfl ?_ | refine PickN.au ?_ | refine App.au rfl ?_ | refine App.au (own_map (fun _ => rfl) _) ?_ | refine Both.mk ?_ ?_ | exact True.intro | refine Br.d (fun h => ?_) (fun h => ?_) | refine Br.nd (fun h => ?_) (fun h => ?_) | refine Br.mk (fun h => ?_) (fun h => ?_)
  all_goals (show _ = _; try simp_all [asRes, tru, num, fits0]; try first | done | omega | (rw [Bool.eq_iff_iff]; simp; omega) | (simp; omega))
theorem Writes_spec (op : Int) : FnSpec Tryd.prog 84 [num op] (fun r => r = tru (writesF op)) := by
  refine spec_of 1000 Tryd.func84 rfl rfl ?_
  repeat' first | refine Len.map ?_ | refine Len.nil ?_ | refine Len.cons ?_ | refine Br.t rfl ?_ | refine Br.f rfl ?_ | refine Fit.au ?_ | refine Cv.au ?_ | refine Need.ne ?_ | refine Need.au ?_ | refine Pick.map (by assumption) ?_ | refine Pick.mapI (by omega) (by assumption) ?_ | refine PickN.mk _ (by assumption) ?_ | refine PickN.mk _ rfl ?_ | refine PickN.au ?_ | refine App.au rfl ?_ | refine App.au (own_map (fun _ => rfl) _) ?_ | refine Both.mk ?_ ?_ | exact True.intro | refine Br.d (fun h => ?_) (fun h => ?_) | refine Br.nd (fun h => ?_) (fun h => ?_) | refine Br.mk (fun h => ?_) (fun h => ?_)
  all_goals (show _ = _; try simp_all [asRes, tru, num, writesF]; try first | done | omega | (rw [Bool.eq_iff_iff]; simp; omega) | (simp; omega))
theorem Ends_spec (op : Int) : FnSpec Tryd.prog 109 [num op] (fun r => r = tru (endsF op)) := by
  refine spec_of 1000 Tryd.func109 rfl rfl ?_
  repeat' first | refine Len.map ?_ | refine Len.nil ?_ | refine Len.cons ?_ | refine Br.t rfl ?_ | refine Br.f rfl ?_ | refine Fit.au ?_ | refine Cv.au ?_ | refine Need.ne ?_ | refine Need.au ?_ | refine Pick.map (by assumption) ?_ | refine Pick.mapI (by omega) (by assumption) ?_ | refine PickN.mk _ (by assumption) ?_ | refine PickN.mk _ rfl ?_ | refine PickN.au ?_ | refine App.au rfl ?_ | refine App.au (own_map (fun _ => rfl) _) ?_ | refine Both.mk ?_ ?_ | exact True.intro | refine Br.d (fun h => ?_) (fun h => ?_) | refine Br.nd (fun h => ?_) (fun h => ?_) | refine Br.mk (fun h => ?_) (fun h => ?_)
  all_goals (show _ = _; try simp_all [asRes, tru, num, endsF]; try first | done | omega | (rw [Bool.eq_iff_iff]; simp; omega) | (simp; omega))
theorem Check_spec (op : Int) : FnSpec Tryd.prog 108 [num op] (fun r => r = tru (checkF op)) := by
  refine spec_of 1000 Tryd.func108 rfl rfl ?_
  repeat' first | refine Len.map ?_ | refine Len.nil ?_ | refine Len.cons ?_ | refine Br.t rfl ?_ | refine Br.f rfl ?_ | refine Fit.au ?_ | refine Cv.au ?_ | refine Need.ne ?_ | refine Need.au ?_ | refine Pick.map (by assumption) ?_ | refine Pick.mapI (by omega) (by assumption) ?_ | refine PickN.mk _ (by assumption) ?_ | refine PickN.mk _ rfl ?_ | refine PickN.au ?_ | refine App.au rfl ?_ | refine App.au (own_map (fun _ => rfl) _) ?_ | refine Both.mk ?_ ?_ | exact True.intro | refine Br.d (fun h => ?_) (fun h => ?_) | refine Br.nd (fun h => ?_) (fun h => ?_) | refine Br.mk (fun h => ?_) (fun h => ?_)
  all_goals (show _ = _; try simp_all [asRes, tru, num, checkF]; try first | done | omega | (rw [Bool.eq_iff_iff]; simp; omega) | (simp; omega))
theorem Trap_spec (op : Int) : FnSpec Tryd.prog 110 [num op] (fun r => r = num (trapF op)) := by
  refine spec_of 1000 Tryd.func110 rfl rfl ?_
  repeat' first | refine Call.eq (Check_spec _) rfl ?_ | refine Len.map ?_ | refine Len.nil ?_ | refine Len.cons ?_ | refine Br.t rfl ?_ | refine Br.f rfl ?_ | refine Fit.au ?_ | refine Cv.au ?_ | refine Need.ne ?_ | refine Need.au ?_ | refine Pick.map (by assumption) ?_ | refine Pick.mapI (by omega) (by assumption) ?_ | refine PickN.mk _ (by assumption) ?_ | refine PickN.mk _ rfl ?_ | refine PickN.au ?_ | refine App.au rfl ?_ | refine App.au (own_map (fun _ => rfl) _) ?_ | refine Both.mk ?_ ?_ | exact True.intro
  refine Br.mk (fun h => ?_) (fun h => ?_)
  · repeat' first | refine Len.map ?_ | refine Len.nil ?_ | refine Len.cons ?_ | refine Br.t rfl ?_ | refine Br.f rfl ?_ | refine Fit.au ?_ | refine Cv.au ?_ | refine Need.ne ?_ | refine Need.au ?_ | refine Pick.map (by assumption) ?_ | refine Pick.mapI (by omega) (by assumption) ?_ | refine PickN.mk _ (by assumption) ?_ | refine PickN.mk _ rfl ?_ | refine PickN.au ?_ | refine App.au rfl ?_ | refine App.au (own_map (fun _ => rfl) _) ?_ | refine Both.mk ?_ ?_ | exact True.intro
    show _ = _
    simp_all [asRes, trapF, num]
  · simp [checkF] at h
    have : op = 31 ∨ op = 32 ∨ op = 33 ∨ op = 34 ∨ op = 35 ∨ op = 36 ∨ op = 37 ∨ op = 38 := by omega
    rcases this with rfl | rfl | rfl | rfl | rfl | rfl | rfl | rfl
    all_goals
      repeat' first | refine Len.map ?_ | refine Len.nil ?_ | refine Len.cons ?_ | refine Br.t rfl ?_ | refine Br.f rfl ?_ | refine Fit.au ?_ | refine Cv.au ?_ | refine Need.ne ?_ | refine Need.au ?_ | refine Pick.map (by assumption) ?_ | refine Pick.mapI (by omega) (by assumption) ?_ | refine PickN.mk _ (by assumption) ?_ | refine PickN.mk _ rfl ?_ | refine PickN.au ?_ | refine App.au rfl ?_ | refine App.au (own_map (fun _ => rfl) _) ?_ | refine Both.mk ?_ ?_ | exact True.intro
      show _ = _
      simp [asRes, trapF, num, checkF]
end Go.Proofs.YtdgibhndjdgllaaDoor

/- Sets of bits: by contracts. -/
namespace Go.Proofs.YtdgibhndjdgllaaDoor
open Go.Ax
set_option maxRecDepth 10000
set_option linter.unusedVariables false

theorem word64_spec (s : List W) (i : Nat) (hs : s.length ≤ 1000000000) : FnSpec Tryd.prog 64 [sets s, num i] (fun r => r = w64 (s.getD i 0)) := by
  refine spec_of 1000 Tryd.func64 rfl rfl ?_
  repeat' first | refine Len.map ?_ | refine Len.nil ?_ | refine Len.cons ?_ | refine Br.t rfl ?_ | refine Br.f rfl ?_ | refine Fit.au ?_ | refine Cv.au ?_ | refine Need.ne ?_ | refine Need.au ?_ | refine Pick.map (by assumption) ?_ | refine Pick.mapI (by omega) (by assumption) ?_ | refine PickN.mk _ (by assumption) ?_ | refine PickN.mk _ rfl ?_ | refine PickN.au ?_ | refine App.au rfl ?_ | refine App.au (own_map (fun _ => rfl) _) ?_ | refine Both.mk ?_ ?_ | exact True.intro
  refine Br.d (fun h => ?_) (fun h => ?_)
  · obtain ⟨w, gw, -⟩ := getK (l := s) (k := i) (by omega)
    repeat' first | refine Pick.map gw ?_ | refine Len.map ?_ | refine Len.nil ?_ | refine Len.cons ?_ | refine Br.t rfl ?_ | refine Br.f rfl ?_ | refine Fit.au ?_ | refine Cv.au ?_ | refine Need.ne ?_ | refine Need.au ?_ | refine Pick.map (by assumption) ?_ | refine Pick.mapI (by omega) (by assumption) ?_ | refine PickN.mk _ (by assumption) ?_ | refine PickN.mk _ rfl ?_ | refine PickN.au ?_ | refine App.au rfl ?_ | refine App.au (own_map (fun _ => rfl) _) ?_ | refine Both.mk ?_ ?_ | exact True.intro
    show _ = _
    rw [List.getD_eq_getElem?_getD, gw]; rfl
  · repeat' first | refine Len.map ?_ | refine Len.nil ?_ | refine Len.cons ?_ | refine Br.t rfl ?_ | refine Br.f rfl ?_ | refine Fit.au ?_ | refine Cv.au ?_ | refine Need.ne ?_ | refine Need.au ?_ | refine Pick.map (by assumption) ?_ | refine Pick.mapI (by omega) (by assumption) ?_ | refine PickN.mk _ (by assumption) ?_ | refine PickN.mk _ rfl ?_ | refine PickN.au ?_ | refine App.au rfl ?_ | refine App.au (own_map (fun _ => rfl) _) ?_ | refine Both.mk ?_ ?_ | exact True.intro
    show _ = _
    rw [List.getD_eq_getElem?_getD, List.getElem?_eq_none (by omega)]; rfl
theorem New35_spec (n : Nat) (hn : n ≤ 65536) : FnSpec Tryd.prog 35 [num n] (fun r => r = .osl 1 ((newW n).map u1)) := by
  refine spec_of 1000 Tryd.func35 rfl rfl ?_
  repeat' first | (refine Br.f ?_ ?_; focus (simp; omega)) | refine Len.map ?_ | refine Len.nil ?_ | refine Len.cons ?_ | refine Br.t rfl ?_ | refine Br.f rfl ?_ | refine Fit.au ?_ | refine Cv.au ?_ | refine Need.ne ?_ | refine Need.au ?_ | refine Pick.map (by assumption) ?_ | refine Pick.mapI (by omega) (by assumption) ?_ | refine PickN.mk _ (by assumption) ?_ | refine PickN.mk _ rfl ?_ | refine PickN.au ?_ | refine App.au rfl ?_ | refine App.au (own_map (fun _ => rfl) _) ?_ | refine Both.mk ?_ ?_ | exact True.intro
  have hq : ((n : Int) + 64 - 1).tdiv 64 = ((wn n : Nat) : Int) := by
    rw [Int.tdiv_eq_ediv_of_nonneg (by omega)]; unfold wn; omega
  have hw : wn n ≤ 1024 := by unfold wn; omega
  rw [hq]
  refine Cv.au ?_
  repeat' first | refine MkS.mk (wn n) rfl rfl (by omega) (by omega) ?_ | refine Len.map ?_ | refine Len.nil ?_ | refine Len.cons ?_ | refine Br.t rfl ?_ | refine Br.f rfl ?_ | refine Fit.au ?_ | refine Cv.au ?_ | refine Need.ne ?_ | refine Need.au ?_ | refine Pick.map (by assumption) ?_ | refine Pick.mapI (by omega) (by assumption) ?_ | refine PickN.mk _ (by assumption) ?_ | refine PickN.mk _ rfl ?_ | refine PickN.au ?_ | refine App.au rfl ?_ | refine App.au (own_map (fun _ => rfl) _) ?_ | refine Both.mk ?_ ?_ | exact True.intro
  show _ = _
  unfold newW
  rw [List.map_replicate]
  rfl
theorem Or36_spec (a b : List W) (ha : a.length ≤ 1000000) (hb : b.length ≤ 1000000) : FnSpec Tryd.prog 36 [sets a, sets b] (fun r => r = .osl 1 ((orW a b).map u1)) := by
  have wa := fun i : Nat => word64_spec a i (by omega)
  have wb := fun i : Nat => word64_spec b i (by omega)
  refine spec_of 1000 Tryd.func36 rfl rfl ?_
  repeat' first | refine Len.map ?_ | refine Len.nil ?_ | refine Len.cons ?_ | refine Br.t rfl ?_ | refine Br.f rfl ?_ | refine Fit.au ?_ | refine Cv.au ?_ | refine Need.ne ?_ | refine Need.au ?_ | refine Pick.map (by assumption) ?_ | refine Pick.mapI (by omega) (by assumption) ?_ | refine PickN.mk _ (by assumption) ?_ | refine PickN.mk _ rfl ?_ | refine PickN.au ?_ | refine App.au rfl ?_ | refine App.au (own_map (fun _ => rfl) _) ?_ | refine Both.mk ?_ ?_ | exact True.intro
  obtain ⟨M, hM⟩ : ∃ M, M = max a.length b.length := ⟨_, rfl⟩
  obtain ⟨f, hf⟩ : ∃ f : Nat → W, f = fun i => a.getD i 0 ||| b.getD i 0 := ⟨_, rfl⟩
  have hfk : ∀ k, f k = a.getD k 0 ||| b.getD k 0 := fun k => by rw [hf]
  have hor : orW a b = fillW M M f := by rw [hM, hf]; rfl
  rw [hor]
  refine MkS.mk M (by omega) (by omega) (by omega) (by omega) ?_
  repeat' first | refine Len.rep ?_ | refine Len.map ?_ | refine Len.nil ?_ | refine Len.cons ?_ | refine Br.t rfl ?_ | refine Br.f rfl ?_ | refine Fit.au ?_ | refine Cv.au ?_ | refine Need.ne ?_ | refine Need.au ?_ | refine Pick.map (by assumption) ?_ | refine Pick.mapI (by omega) (by assumption) ?_ | refine PickN.mk _ (by assumption) ?_ | refine PickN.mk _ rfl ?_ | refine PickN.au ?_ | refine App.au rfl ?_ | refine App.au (own_map (fun _ => rfl) _) ?_ | refine Both.mk ?_ ?_ | exact True.intro
  refine Stop.mk (loop_in (g := []) (fun k : Nat => [(0, sets a), (1, sets b), (5, .hw 0), (14, num M), (15, num k)]) (fun k => [(0, .row 1 ((fillW M k f).map u1))]) 1 (fun k => k ≤ M) (fun k => M - k) 0 (by omega) ⟨rfl, (by repeat' first | exact trivial | refine ⟨rfl, ?_⟩), by refine ⟨congrArg (fun l => some (Row.row 1 l)) ?_, trivial⟩; rw [fillW_zero, List.map_replicate]; rfl⟩ (fun k hk ih => ?_))
  have hfl := fillW_len M k f
  refine go 1000 Tryd.func36 ?_
  repeat' first | refine Len.map ?_ | refine Len.nil ?_ | refine Len.cons ?_ | refine Br.t rfl ?_ | refine Br.f rfl ?_ | refine Fit.au ?_ | refine Cv.au ?_ | refine Need.ne ?_ | refine Need.au ?_ | refine Pick.map (by assumption) ?_ | refine Pick.mapI (by omega) (by assumption) ?_ | refine PickN.mk _ (by assumption) ?_ | refine PickN.mk _ rfl ?_ | refine PickN.au ?_ | refine App.au rfl ?_ | refine App.au (own_map (fun _ => rfl) _) ?_ | refine Both.mk ?_ ?_ | exact True.intro
  refine Br.d (fun h => ?_) (fun h => ?_)
  · have gk := fillW_at (n := M) (k := k) (i := k) (f := f) (by omega)
    have hset := fillW_set (n := M) (k := k) (f := f) (by omega)
    have h2 : ((fillW M k f).map u1).set k [.lit (.int .u64 (IntKind.u64.wrap ((BitVec.ofInt IntKind.u64.bits ((a.getD k 0).toNat : Int) ||| BitVec.ofInt IntKind.u64.bits ((b.getD k 0).toNat : Int)).toNat : Int)))] = (fillW M (k + 1) f).map u1 := by
      rw [← hset, List.map_set, hfk, orI]; rfl
    repeat' first | refine Call.eq (wa _) rfl ?_ | refine Call.eq (wb _) rfl ?_ | refine Need.mk ⟨by omega, by rw [List.length_map, hfl, Int.toNat_natCast]; omega⟩ ?_ | refine PickN.map gk ?_ | refine Len.map ?_ | refine Len.nil ?_ | refine Len.cons ?_ | refine Br.t rfl ?_ | refine Br.f rfl ?_ | refine Fit.au ?_ | refine Cv.au ?_ | refine Need.ne ?_ | refine Need.au ?_ | refine Pick.map (by assumption) ?_ | refine Pick.mapI (by omega) (by assumption) ?_ | refine PickN.mk _ (by assumption) ?_ | refine PickN.mk _ rfl ?_ | refine PickN.au ?_ | refine App.au rfl ?_ | refine App.au (own_map (fun _ => rfl) _) ?_ | refine Both.mk ?_ ?_ | exact True.intro
    refine Stop.mk (ih (k + 1) (g := []) _ _ _ (by omega) (by omega) ⟨rfl, (by repeat' first | exact trivial | refine ⟨rfl, ?_⟩), by refine ⟨congrArg (fun l => some (Row.row 1 l)) h2, trivial⟩⟩)
  · obtain rfl : k = M := by omega
    repeat' first | refine Len.map ?_ | refine Len.nil ?_ | refine Len.cons ?_ | refine Br.t rfl ?_ | refine Br.f rfl ?_ | refine Fit.au ?_ | refine Cv.au ?_ | refine Need.ne ?_ | refine Need.au ?_ | refine Pick.map (by assumption) ?_ | refine Pick.mapI (by omega) (by assumption) ?_ | refine PickN.mk _ (by assumption) ?_ | refine PickN.mk _ rfl ?_ | refine PickN.au ?_ | refine App.au rfl ?_ | refine App.au (own_map (fun _ => rfl) _) ?_ | refine Both.mk ?_ ?_ | exact True.intro
    rfl
theorem And104_spec (a b : List W) (ha : a.length ≤ 1000000) (hb : b.length ≤ 1000000) : FnSpec Tryd.prog 104 [sets a, sets b] (fun r => r = .osl 1 ((andW a b).map u1)) := by
  refine spec_of 1000 Tryd.func104 rfl rfl ?_
  repeat' first | refine Len.map ?_ | refine Len.nil ?_ | refine Len.cons ?_ | refine Br.t rfl ?_ | refine Br.f rfl ?_ | refine Fit.au ?_ | refine Cv.au ?_ | refine Need.ne ?_ | refine Need.au ?_ | refine Pick.map (by assumption) ?_ | refine Pick.mapI (by omega) (by assumption) ?_ | refine PickN.mk _ (by assumption) ?_ | refine PickN.mk _ rfl ?_ | refine PickN.au ?_ | refine App.au rfl ?_ | refine App.au (own_map (fun _ => rfl) _) ?_ | refine Both.mk ?_ ?_ | exact True.intro
  obtain ⟨M, hM⟩ : ∃ M, M = min a.length b.length := ⟨_, rfl⟩
  obtain ⟨f, hf⟩ : ∃ f : Nat → W, f = fun i => a.getD i 0 &&& b.getD i 0 := ⟨_, rfl⟩
  have hfk : ∀ k, f k = a.getD k 0 &&& b.getD k 0 := fun k => by rw [hf]
  have hor : andW a b = fillW M M f := by rw [hM, hf]; rfl
  rw [hor]
  refine MkS.mk M (by omega) (by omega) (by omega) (by omega) ?_
  repeat' first | refine Len.rep ?_ | refine Len.map ?_ | refine Len.nil ?_ | refine Len.cons ?_ | refine Br.t rfl ?_ | refine Br.f rfl ?_ | refine Fit.au ?_ | refine Cv.au ?_ | refine Need.ne ?_ | refine Need.au ?_ | refine Pick.map (by assumption) ?_ | refine Pick.mapI (by omega) (by assumption) ?_ | refine PickN.mk _ (by assumption) ?_ | refine PickN.mk _ rfl ?_ | refine PickN.au ?_ | refine App.au rfl ?_ | refine App.au (own_map (fun _ => rfl) _) ?_ | refine Both.mk ?_ ?_ | exact True.intro
  refine Stop.mk (loop_in (g := []) (fun k : Nat => [(0, sets a), (1, sets b), (5, .hw 0), (14, num M), (15, num k)]) (fun k => [(0, .row 1 ((fillW M k f).map u1))]) 1 (fun k => k ≤ M) (fun k => M - k) 0 (by omega) ⟨rfl, (by repeat' first | exact trivial | refine ⟨rfl, ?_⟩), by refine ⟨congrArg (fun l => some (Row.row 1 l)) ?_, trivial⟩; rw [fillW_zero, List.map_replicate]; rfl⟩ (fun k hk ih => ?_))
  have hfl := fillW_len M k f
  refine go 1000 Tryd.func104 ?_
  repeat' first | refine Len.map ?_ | refine Len.nil ?_ | refine Len.cons ?_ | refine Br.t rfl ?_ | refine Br.f rfl ?_ | refine Fit.au ?_ | refine Cv.au ?_ | refine Need.ne ?_ | refine Need.au ?_ | refine Pick.map (by assumption) ?_ | refine Pick.mapI (by omega) (by assumption) ?_ | refine PickN.mk _ (by assumption) ?_ | refine PickN.mk _ rfl ?_ | refine PickN.au ?_ | refine App.au rfl ?_ | refine App.au (own_map (fun _ => rfl) _) ?_ | refine Both.mk ?_ ?_ | exact True.intro
  refine Br.d (fun h => ?_) (fun h => ?_)
  · have gk := fillW_at (n := M) (k := k) (i := k) (f := f) (by omega)
    have hset := fillW_set (n := M) (k := k) (f := f) (by omega)
    obtain ⟨x, gx, -⟩ := getK (l := a) (k := k) (by omega)
    obtain ⟨y, gy, -⟩ := getK (l := b) (k := k) (by omega)
    have ex : a.getD k 0 = x := by rw [List.getD_eq_getElem?_getD, gx]; rfl
    have ey : b.getD k 0 = y := by rw [List.getD_eq_getElem?_getD, gy]; rfl
    have h2 : ((fillW M k f).map u1).set k [.lit (.int .u64 (IntKind.u64.wrap ((BitVec.ofInt IntKind.u64.bits (x.toNat : Int) &&& BitVec.ofInt IntKind.u64.bits (y.toNat : Int)).toNat : Int)))] = (fillW M (k + 1) f).map u1 := by
      rw [← hset, List.map_set, hfk, ex, ey, andI]; rfl
    repeat' first | refine Draw.mk (ordL [12] [0, 1, 2, 3, 4, 5, 6, 7, 8, 9, 10, 11, 12]) (by decide +kernel) ?_ | refine Pick.map gx ?_ | refine Pick.map gy ?_ | refine Need.mk ⟨by omega, by rw [List.length_map, hfl, Int.toNat_natCast]; omega⟩ ?_ | refine PickN.map gk ?_ | refine Len.map ?_ | refine Len.nil ?_ | refine Len.cons ?_ | refine Br.t rfl ?_ | refine Br.f rfl ?_ | refine Fit.au ?_ | refine Cv.au ?_ | refine Need.ne ?_ | refine Need.au ?_ | refine Pick.map (by assumption) ?_ | refine Pick.mapI (by omega) (by assumption) ?_ | refine PickN.mk _ (by assumption) ?_ | refine PickN.mk _ rfl ?_ | refine PickN.au ?_ | refine App.au rfl ?_ | refine App.au (own_map (fun _ => rfl) _) ?_ | refine Both.mk ?_ ?_ | exact True.intro
    refine Stop.mk (ih (k + 1) (g := []) _ _ _ (by omega) (by omega) ⟨rfl, (by repeat' first | exact trivial | refine ⟨rfl, ?_⟩), by refine ⟨congrArg (fun l => some (Row.row 1 l)) h2, trivial⟩⟩)
  · obtain rfl : k = M := by omega
    repeat' first | refine Len.map ?_ | refine Len.nil ?_ | refine Len.cons ?_ | refine Br.t rfl ?_ | refine Br.f rfl ?_ | refine Fit.au ?_ | refine Cv.au ?_ | refine Need.ne ?_ | refine Need.au ?_ | refine Pick.map (by assumption) ?_ | refine Pick.mapI (by omega) (by assumption) ?_ | refine PickN.mk _ (by assumption) ?_ | refine PickN.mk _ rfl ?_ | refine PickN.au ?_ | refine App.au rfl ?_ | refine App.au (own_map (fun _ => rfl) _) ?_ | refine Both.mk ?_ ?_ | exact True.intro
    rfl
theorem Less45_spec (a b : List W) (ha : a.length ≤ 1000000) (hb : b.length ≤ 1000000) : FnSpec Tryd.prog 45 [sets a, sets b] (fun r => r = .osl 1 ((lessW a b).map u1)) := by
  have wb := fun i : Nat => word64_spec b i (by omega)
  refine spec_of 1000 Tryd.func45 rfl rfl ?_
  repeat' first | refine Len.map ?_ | refine Len.nil ?_ | refine Len.cons ?_ | refine Br.t rfl ?_ | refine Br.f rfl ?_ | refine Fit.au ?_ | refine Cv.au ?_ | refine Need.ne ?_ | refine Need.au ?_ | refine Pick.map (by assumption) ?_ | refine Pick.mapI (by omega) (by assumption) ?_ | refine PickN.mk _ (by assumption) ?_ | refine PickN.mk _ rfl ?_ | refine PickN.au ?_ | refine App.au rfl ?_ | refine App.au (own_map (fun _ => rfl) _) ?_ | refine Both.mk ?_ ?_ | exact True.intro
  obtain ⟨M, hM⟩ : ∃ M, M = a.length := ⟨_, rfl⟩
  obtain ⟨f, hf⟩ : ∃ f : Nat → W, f = fun i => a.getD i 0 &&& ~~~b.getD i 0 := ⟨_, rfl⟩
  have hfk : ∀ k, f k = a.getD k 0 &&& ~~~b.getD k 0 := fun k => by rw [hf]
  have hor : lessW a b = fillW M M f := by rw [hM, hf]; rfl
  rw [hor]
  refine MkS.mk M (by omega) (by omega) (by omega) (by omega) ?_
  repeat' first | refine Len.rep ?_ | refine Len.map ?_ | refine Len.nil ?_ | refine Len.cons ?_ | refine Br.t rfl ?_ | refine Br.f rfl ?_ | refine Fit.au ?_ | refine Cv.au ?_ | refine Need.ne ?_ | refine Need.au ?_ | refine Pick.map (by assumption) ?_ | refine Pick.mapI (by omega) (by assumption) ?_ | refine PickN.mk _ (by assumption) ?_ | refine PickN.mk _ rfl ?_ | refine PickN.au ?_ | refine App.au rfl ?_ | refine App.au (own_map (fun _ => rfl) _) ?_ | refine Both.mk ?_ ?_ | exact True.intro
  refine Stop.mk (loop_in (g := []) (fun k : Nat => [(0, sets a), (1, sets b), (5, .hw 0), (11, num M), (12, num k)]) (fun k => [(0, .row 1 ((fillW M k f).map u1))]) 1 (fun k => k ≤ M) (fun k => M - k) 0 (by omega) ⟨rfl, (by repeat' first | exact trivial | refine ⟨rfl, ?_⟩), by refine ⟨congrArg (fun l => some (Row.row 1 l)) ?_, trivial⟩; rw [fillW_zero, List.map_replicate]; rfl⟩ (fun k hk ih => ?_))
  have hfl := fillW_len M k f
  refine go 1000 Tryd.func45 ?_
  repeat' first | refine Len.map ?_ | refine Len.nil ?_ | refine Len.cons ?_ | refine Br.t rfl ?_ | refine Br.f rfl ?_ | refine Fit.au ?_ | refine Cv.au ?_ | refine Need.ne ?_ | refine Need.au ?_ | refine Pick.map (by assumption) ?_ | refine Pick.mapI (by omega) (by assumption) ?_ | refine PickN.mk _ (by assumption) ?_ | refine PickN.mk _ rfl ?_ | refine PickN.au ?_ | refine App.au rfl ?_ | refine App.au (own_map (fun _ => rfl) _) ?_ | refine Both.mk ?_ ?_ | exact True.intro
  refine Br.d (fun h => ?_) (fun h => ?_)
  · have gk := fillW_at (n := M) (k := k) (i := k) (f := f) (by omega)
    have hset := fillW_set (n := M) (k := k) (f := f) (by omega)
    obtain ⟨x, gx, -⟩ := getK (l := a) (k := k) (by omega)
    have ex : a.getD k 0 = x := by rw [List.getD_eq_getElem?_getD, gx]; rfl
    have h2 : ((fillW M k f).map u1).set k [.lit (.int .u64 (IntKind.u64.wrap ((BitVec.ofInt IntKind.u64.bits (x.toNat : Int) &&& ~~~BitVec.ofInt IntKind.u64.bits ((b.getD k 0).toNat : Int)).toNat : Int)))] = (fillW M (k + 1) f).map u1 := by
      rw [← hset, List.map_set, hfk, ex, lessI]; rfl
    repeat' first | refine Draw.mk (ordL [8, 11] [0, 1, 2, 3, 4, 5, 6, 7, 8, 9, 10, 11]) (by decide +kernel) ?_ | refine Pick.map gx ?_ | refine Call.eq (wb _) rfl ?_ | refine Need.mk ⟨by omega, by rw [List.length_map, hfl, Int.toNat_natCast]; omega⟩ ?_ | refine PickN.map gk ?_ | refine Len.map ?_ | refine Len.nil ?_ | refine Len.cons ?_ | refine Br.t rfl ?_ | refine Br.f rfl ?_ | refine Fit.au ?_ | refine Cv.au ?_ | refine Need.ne ?_ | refine Need.au ?_ | refine Pick.map (by assumption) ?_ | refine Pick.mapI (by omega) (by assumption) ?_ | refine PickN.mk _ (by assumption) ?_ | refine PickN.mk _ rfl ?_ | refine PickN.au ?_ | refine App.au rfl ?_ | refine App.au (own_map (fun _ => rfl) _) ?_ | refine Both.mk ?_ ?_ | exact True.intro
    all_goals refine Stop.mk (ih (k + 1) (g := []) _ _ _ (by omega) (by omega) ⟨rfl, (by repeat' first | exact trivial | refine ⟨rfl, ?_⟩), by refine ⟨congrArg (fun l => some (Row.row 1 l)) h2, trivial⟩⟩)
  · obtain rfl : k = M := by omega
    repeat' first | refine Len.map ?_ | refine Len.nil ?_ | refine Len.cons ?_ | refine Br.t rfl ?_ | refine Br.f rfl ?_ | refine Fit.au ?_ | refine Cv.au ?_ | refine Need.ne ?_ | refine Need.au ?_ | refine Pick.map (by assumption) ?_ | refine Pick.mapI (by omega) (by assumption) ?_ | refine PickN.mk _ (by assumption) ?_ | refine PickN.mk _ rfl ?_ | refine PickN.au ?_ | refine App.au rfl ?_ | refine App.au (own_map (fun _ => rfl) _) ?_ | refine Both.mk ?_ ?_ | exact True.intro
    rfl
theorem Same79_spec (a b : List W) (ha : a.length ≤ 1000000) (hb : b.length ≤ 1000000) : FnSpec Tryd.prog 79 [sets a, sets b] (fun r => ∃ v, r = tru v ∧ (v = true ↔ sameW a b)) := by
  have wa := fun i : Nat => word64_spec a i (by omega)
  have wb := fun i : Nat => word64_spec b i (by omega)
  obtain ⟨M, hM⟩ : ∃ M, M = max a.length b.length := ⟨_, rfl⟩
  refine spec_of 1000 Tryd.func79 rfl rfl ?_
  repeat' first | refine Len.map ?_ | refine Len.nil ?_ | refine Len.cons ?_ | refine Br.t rfl ?_ | refine Br.f rfl ?_ | refine Fit.au ?_ | refine Cv.au ?_ | refine Need.ne ?_ | refine Need.au ?_ | refine Pick.map (by assumption) ?_ | refine Pick.mapI (by omega) (by assumption) ?_ | refine PickN.mk _ (by assumption) ?_ | refine PickN.mk _ rfl ?_ | refine PickN.au ?_ | refine App.au rfl ?_ | refine App.au (own_map (fun _ => rfl) _) ?_ | refine Both.mk ?_ ?_ | exact True.intro
  refine Stop.mk (loop_in (g := []) (fun k : Nat => [(0, sets a), (1, sets b), (10, num (max (a.length : Int) (b.length : Int))), (11, num k)]) (fun k => []) 0 (fun k => k ≤ M ∧ ∀ i, i < k → a.getD i 0 = b.getD i 0) (fun k => M - k) 0 ⟨by omega, by simp⟩ ⟨rfl, (by repeat' first | exact trivial | refine ⟨rfl, ?_⟩ | refine ⟨congrArg (fun n => AV.lit (.int .i64 n)) (by omega), ?_⟩ | refine ⟨congrArg (fun l => some (Row.row 1 l)) (by simp [int1, num, tru]), ?_⟩), (by repeat' first | exact trivial | refine ⟨rfl, ?_⟩ | refine ⟨congrArg (fun n => AV.lit (.int .i64 n)) (by omega), ?_⟩ | refine ⟨congrArg (fun l => some (Row.row 1 l)) (by simp [int1, num, tru]), ?_⟩)⟩ (fun k hk ih => ?_))
  obtain ⟨hk, he⟩ := hk
  refine go 1000 Tryd.func79 ?_
  repeat' first | refine Len.map ?_ | refine Len.nil ?_ | refine Len.cons ?_ | refine Br.t rfl ?_ | refine Br.f rfl ?_ | refine Fit.au ?_ | refine Cv.au ?_ | refine Need.ne ?_ | refine Need.au ?_ | refine Pick.map (by assumption) ?_ | refine Pick.mapI (by omega) (by assumption) ?_ | refine PickN.mk _ (by assumption) ?_ | refine PickN.mk _ rfl ?_ | refine PickN.au ?_ | refine App.au rfl ?_ | refine App.au (own_map (fun _ => rfl) _) ?_ | refine Both.mk ?_ ?_ | exact True.intro
  refine Br.d (fun h => ?_) (fun h => ?_)
  · repeat' first | refine Call.eq (wa _) rfl ?_ | refine Call.eq (wb _) rfl ?_ | refine Len.map ?_ | refine Len.nil ?_ | refine Len.cons ?_ | refine Br.t rfl ?_ | refine Br.f rfl ?_ | refine Fit.au ?_ | refine Cv.au ?_ | refine Need.ne ?_ | refine Need.au ?_ | refine Pick.map (by assumption) ?_ | refine Pick.mapI (by omega) (by assumption) ?_ | refine PickN.mk _ (by assumption) ?_ | refine PickN.mk _ rfl ?_ | refine PickN.au ?_ | refine App.au rfl ?_ | refine App.au (own_map (fun _ => rfl) _) ?_ | refine Both.mk ?_ ?_ | exact True.intro
    refine Br.mk (fun h3 => ?_) (fun h3 => ?_)
    · repeat' first | refine Len.map ?_ | refine Len.nil ?_ | refine Len.cons ?_ | refine Br.t rfl ?_ | refine Br.f rfl ?_ | refine Fit.au ?_ | refine Cv.au ?_ | refine Need.ne ?_ | refine Need.au ?_ | refine Pick.map (by assumption) ?_ | refine Pick.mapI (by omega) (by assumption) ?_ | refine PickN.mk _ (by assumption) ?_ | refine PickN.mk _ rfl ?_ | refine PickN.au ?_ | refine App.au rfl ?_ | refine App.au (own_map (fun _ => rfl) _) ?_ | refine Both.mk ?_ ?_ | exact True.intro
      refine ⟨false, rfl, ⟨fun e => (by cases e), fun hs => ?_⟩⟩
      rw [hs k] at h3
      simp at h3
    · have e2 : a.getD k 0 = b.getD k 0 := by
        have h4 : ((a.getD k 0).toNat : Int) = ((b.getD k 0).toNat : Int) := by simpa using h3
        exact BitVec.eq_of_toNat_eq (by omega)
      repeat' first | refine Len.map ?_ | refine Len.nil ?_ | refine Len.cons ?_ | refine Br.t rfl ?_ | refine Br.f rfl ?_ | refine Fit.au ?_ | refine Cv.au ?_ | refine Need.ne ?_ | refine Need.au ?_ | refine Pick.map (by assumption) ?_ | refine Pick.mapI (by omega) (by assumption) ?_ | refine PickN.mk _ (by assumption) ?_ | refine PickN.mk _ rfl ?_ | refine PickN.au ?_ | refine App.au rfl ?_ | refine App.au (own_map (fun _ => rfl) _) ?_ | refine Both.mk ?_ ?_ | exact True.intro
      refine Stop.mk (ih (k + 1) (g := []) _ _ _ ⟨by omega, fun i hi => ?_⟩ (by omega) ⟨rfl, (by repeat' first | exact trivial | refine ⟨rfl, ?_⟩ | refine ⟨congrArg (fun n => AV.lit (.int .i64 n)) (by omega), ?_⟩ | refine ⟨congrArg (fun l => some (Row.row 1 l)) (by simp [int1, num, tru]), ?_⟩), (by repeat' first | exact trivial | refine ⟨rfl, ?_⟩ | refine ⟨congrArg (fun n => AV.lit (.int .i64 n)) (by omega), ?_⟩ | refine ⟨congrArg (fun l => some (Row.row 1 l)) (by simp [int1, num, tru]), ?_⟩)⟩)
      by_cases e : i = k
      · rw [e]; exact e2
      · exact he i (by omega)
  · repeat' first | refine Len.map ?_ | refine Len.nil ?_ | refine Len.cons ?_ | refine Br.t rfl ?_ | refine Br.f rfl ?_ | refine Fit.au ?_ | refine Cv.au ?_ | refine Need.ne ?_ | refine Need.au ?_ | refine Pick.map (by assumption) ?_ | refine Pick.mapI (by omega) (by assumption) ?_ | refine PickN.mk _ (by assumption) ?_ | refine PickN.mk _ rfl ?_ | refine PickN.au ?_ | refine App.au rfl ?_ | refine App.au (own_map (fun _ => rfl) _) ?_ | refine Both.mk ?_ ?_ | exact True.intro
    refine ⟨true, rfl, fun _ i => ?_, fun _ => rfl⟩
    by_cases hi : i < M
    · exact he i (by omega)
    · rw [List.getD_eq_getElem?_getD, List.getD_eq_getElem?_getD, List.getElem?_eq_none (by omega), List.getElem?_eq_none (by omega)]
end Go.Proofs.YtdgibhndjdgllaaDoor

/- What the program says an instruction is, and what the document says, are the same. No program is in sight here. -/
namespace Go.Proofs.YtdgibhndjdgllaaDoor
open Go.Ax
set_option linter.unusedVariables false
set_option linter.unusedSimpArgs false

theorem hasF_zero {op : Int} (h : opF op = false) : hasF op = 0 := by
  unfold opF at h
  simp at h
  unfold hasF
  rw [if_neg (by omega), if_neg (by omega)]
  simp [hasTable, mget, show ¬ op = 20 by omega, show ¬ op = 21 by omega, show ¬ op = 22 by omega, show ¬ op = 30 by omega, show ¬ op = 31 by omega, show ¬ op = 32 by omega, show ¬ op = 33 by omega, show ¬ op = 34 by omega, show ¬ op = 35 by omega, show ¬ op = 36 by omega, show ¬ op = 37 by omega, show ¬ op = 38 by omega, show ¬ op = 39 by omega, show ¬ op = 40 by omega, show ¬ op = 41 by omega, show ¬ op = 42 by omega, show ¬ op = 43 by omega, show ¬ op = 44 by omega, show ¬ op = 45 by omega]
theorem bd1 : band 1 1 = 1 ∧ band 1 2 = 0 ∧ band 1 4 = 0 ∧ band 1 8 = 0 ∧ band 1 16 = 0 ∧ band 1 32 = 0 ∧ band 1 64 = 0 ∧ band 1 128 = 0 ∧ band 1 256 = 0 ∧ band 1 512 = 0 ∧ band 1 1024 = 0 ∧ band 1 2048 = 0 := by decide
theorem bd2 : band 2 1 = 0 ∧ band 2 2 = 2 ∧ band 2 4 = 0 ∧ band 2 8 = 0 ∧ band 2 16 = 0 ∧ band 2 32 = 0 ∧ band 2 64 = 0 ∧ band 2 128 = 0 ∧ band 2 256 = 0 ∧ band 2 512 = 0 ∧ band 2 1024 = 0 ∧ band 2 2048 = 0 := by decide
theorem bd3 : band 3 1 = 1 ∧ band 3 2 = 2 ∧ band 3 4 = 0 ∧ band 3 8 = 0 ∧ band 3 16 = 0 ∧ band 3 32 = 0 ∧ band 3 64 = 0 ∧ band 3 128 = 0 ∧ band 3 256 = 0 ∧ band 3 512 = 0 ∧ band 3 1024 = 0 ∧ band 3 2048 = 0 := by decide
theorem bd7 : band 7 1 = 1 ∧ band 7 2 = 2 ∧ band 7 4 = 4 ∧ band 7 8 = 0 ∧ band 7 16 = 0 ∧ band 7 32 = 0 ∧ band 7 64 = 0 ∧ band 7 128 = 0 ∧ band 7 256 = 0 ∧ band 7 512 = 0 ∧ band 7 1024 = 0 ∧ band 7 2048 = 0 := by decide
theorem bd14 : band 14 1 = 0 ∧ band 14 2 = 2 ∧ band 14 4 = 4 ∧ band 14 8 = 8 ∧ band 14 16 = 0 ∧ band 14 32 = 0 ∧ band 14 64 = 0 ∧ band 14 128 = 0 ∧ band 14 256 = 0 ∧ band 14 512 = 0 ∧ band 14 1024 = 0 ∧ band 14 2048 = 0 := by decide
theorem bd17 : band 17 1 = 1 ∧ band 17 2 = 0 ∧ band 17 4 = 0 ∧ band 17 8 = 0 ∧ band 17 16 = 16 ∧ band 17 32 = 0 ∧ band 17 64 = 0 ∧ band 17 128 = 0 ∧ band 17 256 = 0 ∧ band 17 512 = 0 ∧ band 17 1024 = 0 ∧ band 17 2048 = 0 := by decide
theorem bd33 : band 33 1 = 1 ∧ band 33 2 = 0 ∧ band 33 4 = 0 ∧ band 33 8 = 0 ∧ band 33 16 = 0 ∧ band 33 32 = 32 ∧ band 33 64 = 0 ∧ band 33 128 = 0 ∧ band 33 256 = 0 ∧ band 33 512 = 0 ∧ band 33 1024 = 0 ∧ band 33 2048 = 0 := by decide
theorem bd64 : band 64 1 = 0 ∧ band 64 2 = 0 ∧ band 64 4 = 0 ∧ band 64 8 = 0 ∧ band 64 16 = 0 ∧ band 64 32 = 0 ∧ band 64 64 = 64 ∧ band 64 128 = 0 ∧ band 64 256 = 0 ∧ band 64 512 = 0 ∧ band 64 1024 = 0 ∧ band 64 2048 = 0 := by decide
theorem bd194 : band 194 1 = 0 ∧ band 194 2 = 2 ∧ band 194 4 = 0 ∧ band 194 8 = 0 ∧ band 194 16 = 0 ∧ band 194 32 = 0 ∧ band 194 64 = 64 ∧ band 194 128 = 128 ∧ band 194 256 = 0 ∧ band 194 512 = 0 ∧ band 194 1024 = 0 ∧ band 194 2048 = 0 := by decide
theorem bd258 : band 258 1 = 0 ∧ band 258 2 = 2 ∧ band 258 4 = 0 ∧ band 258 8 = 0 ∧ band 258 16 = 0 ∧ band 258 32 = 0 ∧ band 258 64 = 0 ∧ band 258 128 = 0 ∧ band 258 256 = 256 ∧ band 258 512 = 0 ∧ band 258 1024 = 0 ∧ band 258 2048 = 0 := by decide
theorem bd262 : band 262 1 = 0 ∧ band 262 2 = 2 ∧ band 262 4 = 4 ∧ band 262 8 = 0 ∧ band 262 16 = 0 ∧ band 262 32 = 0 ∧ band 262 64 = 0 ∧ band 262 128 = 0 ∧ band 262 256 = 256 ∧ band 262 512 = 0 ∧ band 262 1024 = 0 ∧ band 262 2048 = 0 := by decide
theorem bd577 : band 577 1 = 1 ∧ band 577 2 = 0 ∧ band 577 4 = 0 ∧ band 577 8 = 0 ∧ band 577 16 = 0 ∧ band 577 32 = 0 ∧ band 577 64 = 64 ∧ band 577 128 = 0 ∧ band 577 256 = 0 ∧ band 577 512 = 512 ∧ band 577 1024 = 0 ∧ band 577 2048 = 0 := by decide
theorem bd1537 : band 1537 1 = 1 ∧ band 1537 2 = 0 ∧ band 1537 4 = 0 ∧ band 1537 8 = 0 ∧ band 1537 16 = 0 ∧ band 1537 32 = 0 ∧ band 1537 64 = 0 ∧ band 1537 128 = 0 ∧ band 1537 256 = 0 ∧ band 1537 512 = 512 ∧ band 1537 1024 = 1024 ∧ band 1537 2048 = 0 := by decide
theorem bd2055 : band 2055 1 = 1 ∧ band 2055 2 = 2 ∧ band 2055 4 = 4 ∧ band 2055 8 = 0 ∧ band 2055 16 = 0 ∧ band 2055 32 = 0 ∧ band 2055 64 = 0 ∧ band 2055 128 = 0 ∧ band 2055 256 = 0 ∧ band 2055 512 = 0 ∧ band 2055 1024 = 0 ∧ band 2055 2048 = 2048 := by decide
theorem right_of {i : Ins} {h : Int} {w t b s : Bool} (h0 : hasF i.op = h) (hne : h ≠ 0) (ho : opF i.op = true) (hw : writesF i.op = w) (ha : (abF i.op || oneF i.op) = t) (hb : bF i = b) (hs : checkF i.op = s) (e : (fieldsF i h && (fitF h 1 i.dst && fitF h 2 i.a && fitF h 4 i.b && fitF h 8 i.c && fitF h 256 i.site) && argsF i h) = (fits0 w i.dst && (fits0 t i.a && (fits0 b i.b && (fits0 (decide (i.op = 30)) i.c && fits0 s i.site))) && (decide (∀ x ∈ i.args, 0 ≤ x) && tailF i))) : rightF i = right15 i := by
  unfold rightF right15 fitsF
  rw [h0, ho, hw, ha, hb, hs, decide_eq_true hne, Bool.true_and, Bool.true_and, e]
theorem fits0_t (n : Int) : fits0 true n = decide (0 ≤ n) := by unfold fits0; rw [Bool.eq_iff_iff]; simp; omega
theorem fits0_f (n : Int) : fits0 false n = decide (n = 0) := by unfold fits0; simp
theorem len0 {l : List Int} : l.length = 0 → ∀ x ∈ l, 0 ≤ x := fun h => by rw [List.eq_nil_of_length_eq_zero h]; simp
theorem right_3 {i : Ins} (ho : 3 ≤ i.op ∧ i.op ≤ 16) : rightF i = right15 i := by
  have hb : bF i = true := by unfold bF abF twoF; rw [Bool.eq_iff_iff]; simp; omega
  refine right_of (h := 7) (by unfold hasF; rw [if_pos (by omega)]) (by decide) (by unfold opF; simp; omega) (w := true) (by unfold writesF; rw [Bool.eq_iff_iff]; simp; omega) (t := true) (by unfold abF oneF twoF; rw [Bool.eq_iff_iff]; simp; omega) hb (s := false) (by unfold checkF; rw [Bool.eq_iff_iff]; simp; omega) ?_
  obtain ⟨b1, b2, b4, b8, b16, b32, b64, b128, b256, b512, b1024, b2048⟩ := bd7
  simp only [Int.reduceEq, ↓reduceIte, decide_false, decide_true, fits0_t, fits0_f, fieldsF, fieldsA, fieldsB, fitF, argsF, tailF, tailA, tellsF, b1, b2, b4, b8, b16, b32, b64, b128, b256, b512, b1024, b2048, show ¬ i.op = 20 by omega, show ¬ i.op = 21 by omega, show ¬ i.op = 30 by omega, show ¬ i.op = 39 by omega, show ¬ i.op = 41 by omega, show ¬ i.op = 42 by omega, show ¬ i.op = 44 by omega, show ¬ i.op = 45 by omega]
  rw [Bool.eq_iff_iff]
  simp
  have l0 := @len0 i.args
  all_goals first | done | omega | (constructor <;> intro hh <;> simp_all <;> omega) | grind
theorem right_23 {i : Ins} (ho : 23 ≤ i.op ∧ i.op ≤ 28) : rightF i = right15 i := by
  have hb : bF i = false := by unfold bF abF twoF; rw [Bool.eq_iff_iff]; simp; omega
  refine right_of (h := 3) (by unfold hasF; rw [if_neg (by omega), if_pos (by omega)]) (by decide) (by unfold opF; simp; omega) (w := true) (by unfold writesF; rw [Bool.eq_iff_iff]; simp; omega) (t := true) (by unfold abF oneF twoF; rw [Bool.eq_iff_iff]; simp; omega) hb (s := false) (by unfold checkF; rw [Bool.eq_iff_iff]; simp; omega) ?_
  obtain ⟨b1, b2, b4, b8, b16, b32, b64, b128, b256, b512, b1024, b2048⟩ := bd3
  simp only [Int.reduceEq, ↓reduceIte, decide_false, decide_true, fits0_t, fits0_f, fieldsF, fieldsA, fieldsB, fitF, argsF, tailF, tailA, tellsF, b1, b2, b4, b8, b16, b32, b64, b128, b256, b512, b1024, b2048, show ¬ i.op = 20 by omega, show ¬ i.op = 21 by omega, show ¬ i.op = 30 by omega, show ¬ i.op = 39 by omega, show ¬ i.op = 41 by omega, show ¬ i.op = 42 by omega, show ¬ i.op = 44 by omega, show ¬ i.op = 45 by omega]
  rw [Bool.eq_iff_iff]
  simp
  have l0 := @len0 i.args
  all_goals first | done | omega | (constructor <;> intro hh <;> simp_all <;> omega) | grind
theorem right_20 {i : Ins} (ho : i.op = 20) : rightF i = right15 i := by
  have hb : bF i = false := by unfold bF abF twoF; rw [Bool.eq_iff_iff]; simp; omega
  refine right_of (h := 17) (by rw [ho]; decide) (by decide) (by unfold opF; simp; omega) (w := true) (by unfold writesF; rw [Bool.eq_iff_iff]; simp; omega) (t := false) (by unfold abF oneF twoF; rw [Bool.eq_iff_iff]; simp; omega) hb (s := false) (by unfold checkF; rw [Bool.eq_iff_iff]; simp; omega) ?_
  obtain ⟨b1, b2, b4, b8, b16, b32, b64, b128, b256, b512, b1024, b2048⟩ := bd17
  simp only [Int.reduceEq, ↓reduceIte, decide_false, decide_true, fits0_t, fits0_f, fieldsF, fieldsA, fieldsB, fitF, argsF, tailF, tailA, tellsF, b1, b2, b4, b8, b16, b32, b64, b128, b256, b512, b1024, b2048, show ¬ i.op = 21 by omega, show ¬ i.op = 30 by omega, show ¬ i.op = 39 by omega, show ¬ i.op = 41 by omega, show ¬ i.op = 42 by omega, show ¬ i.op = 44 by omega, show ¬ i.op = 45 by omega, ho]
  rw [Bool.eq_iff_iff]
  simp
  have l0 := @len0 i.args
  all_goals first | done | omega | (constructor <;> intro hh <;> simp_all <;> omega) | grind
theorem right_21 {i : Ins} (ho : i.op = 21) : rightF i = right15 i := by
  have hb : bF i = false := by unfold bF abF twoF; rw [Bool.eq_iff_iff]; simp; omega
  refine right_of (h := 33) (by rw [ho]; decide) (by decide) (by unfold opF; simp; omega) (w := true) (by unfold writesF; rw [Bool.eq_iff_iff]; simp; omega) (t := false) (by unfold abF oneF twoF; rw [Bool.eq_iff_iff]; simp; omega) hb (s := false) (by unfold checkF; rw [Bool.eq_iff_iff]; simp; omega) ?_
  obtain ⟨b1, b2, b4, b8, b16, b32, b64, b128, b256, b512, b1024, b2048⟩ := bd33
  simp only [Int.reduceEq, ↓reduceIte, decide_false, decide_true, fits0_t, fits0_f, fieldsF, fieldsA, fieldsB, fitF, argsF, tailF, tailA, tellsF, b1, b2, b4, b8, b16, b32, b64, b128, b256, b512, b1024, b2048, show ¬ i.op = 20 by omega, show ¬ i.op = 30 by omega, show ¬ i.op = 39 by omega, show ¬ i.op = 41 by omega, show ¬ i.op = 42 by omega, show ¬ i.op = 44 by omega, show ¬ i.op = 45 by omega, ho]
  rw [Bool.eq_iff_iff]
  simp
  have l0 := @len0 i.args
  all_goals first | done | omega | (constructor <;> intro hh <;> simp_all <;> omega) | grind
theorem right_22 {i : Ins} (ho : i.op = 22) : rightF i = right15 i := by
  have hb : bF i = false := by unfold bF abF twoF; rw [Bool.eq_iff_iff]; simp; omega
  refine right_of (h := 1) (by rw [ho]; decide) (by decide) (by unfold opF; simp; omega) (w := true) (by unfold writesF; rw [Bool.eq_iff_iff]; simp; omega) (t := false) (by unfold abF oneF twoF; rw [Bool.eq_iff_iff]; simp; omega) hb (s := false) (by unfold checkF; rw [Bool.eq_iff_iff]; simp; omega) ?_
  obtain ⟨b1, b2, b4, b8, b16, b32, b64, b128, b256, b512, b1024, b2048⟩ := bd1
  simp only [Int.reduceEq, ↓reduceIte, decide_false, decide_true, fits0_t, fits0_f, fieldsF, fieldsA, fieldsB, fitF, argsF, tailF, tailA, tellsF, b1, b2, b4, b8, b16, b32, b64, b128, b256, b512, b1024, b2048, show ¬ i.op = 20 by omega, show ¬ i.op = 21 by omega, show ¬ i.op = 30 by omega, show ¬ i.op = 39 by omega, show ¬ i.op = 41 by omega, show ¬ i.op = 42 by omega, show ¬ i.op = 44 by omega, show ¬ i.op = 45 by omega]
  rw [Bool.eq_iff_iff]
  simp
  have l0 := @len0 i.args
  all_goals first | done | omega | (constructor <;> intro hh <;> simp_all <;> omega) | grind
theorem right_29 {i : Ins} (ho : i.op = 29) : rightF i = right15 i := by
  have hb : bF i = true := by unfold bF abF twoF; rw [Bool.eq_iff_iff]; simp; omega
  refine right_of (h := 7) (by unfold hasF; rw [if_pos (by omega)]) (by decide) (by unfold opF; simp; omega) (w := true) (by unfold writesF; rw [Bool.eq_iff_iff]; simp; omega) (t := true) (by unfold abF oneF twoF; rw [Bool.eq_iff_iff]; simp; omega) hb (s := false) (by unfold checkF; rw [Bool.eq_iff_iff]; simp; omega) ?_
  obtain ⟨b1, b2, b4, b8, b16, b32, b64, b128, b256, b512, b1024, b2048⟩ := bd7
  simp only [Int.reduceEq, ↓reduceIte, decide_false, decide_true, fits0_t, fits0_f, fieldsF, fieldsA, fieldsB, fitF, argsF, tailF, tailA, tellsF, b1, b2, b4, b8, b16, b32, b64, b128, b256, b512, b1024, b2048, show ¬ i.op = 20 by omega, show ¬ i.op = 21 by omega, show ¬ i.op = 30 by omega, show ¬ i.op = 39 by omega, show ¬ i.op = 41 by omega, show ¬ i.op = 42 by omega, show ¬ i.op = 44 by omega, show ¬ i.op = 45 by omega]
  rw [Bool.eq_iff_iff]
  simp
  have l0 := @len0 i.args
  all_goals first | done | omega | (constructor <;> intro hh <;> simp_all <;> omega) | grind
theorem right_30 {i : Ins} (ho : i.op = 30) : rightF i = right15 i := by
  have hb : bF i = true := by unfold bF abF twoF; rw [Bool.eq_iff_iff]; simp; omega
  refine right_of (h := 14) (by rw [ho]; decide) (by decide) (by unfold opF; simp; omega) (w := false) (by unfold writesF; rw [Bool.eq_iff_iff]; simp; omega) (t := true) (by unfold abF oneF twoF; rw [Bool.eq_iff_iff]; simp; omega) hb (s := false) (by unfold checkF; rw [Bool.eq_iff_iff]; simp; omega) ?_
  obtain ⟨b1, b2, b4, b8, b16, b32, b64, b128, b256, b512, b1024, b2048⟩ := bd14
  simp only [Int.reduceEq, ↓reduceIte, decide_false, decide_true, fits0_t, fits0_f, fieldsF, fieldsA, fieldsB, fitF, argsF, tailF, tailA, tellsF, b1, b2, b4, b8, b16, b32, b64, b128, b256, b512, b1024, b2048, show ¬ i.op = 20 by omega, show ¬ i.op = 21 by omega, show ¬ i.op = 39 by omega, show ¬ i.op = 41 by omega, show ¬ i.op = 42 by omega, show ¬ i.op = 44 by omega, show ¬ i.op = 45 by omega, ho]
  rw [Bool.eq_iff_iff]
  simp
  have l0 := @len0 i.args
  all_goals first | done | omega | (constructor <;> intro hh <;> simp_all <;> omega) | grind
theorem right_31 {i : Ins} (ho : i.op = 31) : rightF i = right15 i := by
  have hb : bF i = false := by unfold bF abF twoF; rw [Bool.eq_iff_iff]; simp; omega
  refine right_of (h := 258) (by rw [ho]; decide) (by decide) (by unfold opF; simp; omega) (w := false) (by unfold writesF; rw [Bool.eq_iff_iff]; simp; omega) (t := true) (by unfold abF oneF twoF; rw [Bool.eq_iff_iff]; simp; omega) hb (s := true) (by unfold checkF; rw [Bool.eq_iff_iff]; simp; omega) ?_
  obtain ⟨b1, b2, b4, b8, b16, b32, b64, b128, b256, b512, b1024, b2048⟩ := bd258
  simp only [Int.reduceEq, ↓reduceIte, decide_false, decide_true, fits0_t, fits0_f, fieldsF, fieldsA, fieldsB, fitF, argsF, tailF, tailA, tellsF, b1, b2, b4, b8, b16, b32, b64, b128, b256, b512, b1024, b2048, show ¬ i.op = 20 by omega, show ¬ i.op = 21 by omega, show ¬ i.op = 30 by omega, show ¬ i.op = 39 by omega, show ¬ i.op = 41 by omega, show ¬ i.op = 42 by omega, show ¬ i.op = 44 by omega, show ¬ i.op = 45 by omega]
  rw [Bool.eq_iff_iff]
  simp
  have l0 := @len0 i.args
  all_goals first | done | omega | (constructor <;> intro hh <;> simp_all <;> omega) | grind
theorem right_32 {i : Ins} (ho : i.op = 32) : rightF i = right15 i := by
  have hb : bF i = true := by unfold bF abF twoF; rw [Bool.eq_iff_iff]; simp; omega
  refine right_of (h := 262) (by rw [ho]; decide) (by decide) (by unfold opF; simp; omega) (w := false) (by unfold writesF; rw [Bool.eq_iff_iff]; simp; omega) (t := true) (by unfold abF oneF twoF; rw [Bool.eq_iff_iff]; simp; omega) hb (s := true) (by unfold checkF; rw [Bool.eq_iff_iff]; simp; omega) ?_
  obtain ⟨b1, b2, b4, b8, b16, b32, b64, b128, b256, b512, b1024, b2048⟩ := bd262
  simp only [Int.reduceEq, ↓reduceIte, decide_false, decide_true, fits0_t, fits0_f, fieldsF, fieldsA, fieldsB, fitF, argsF, tailF, tailA, tellsF, b1, b2, b4, b8, b16, b32, b64, b128, b256, b512, b1024, b2048, show ¬ i.op = 20 by omega, show ¬ i.op = 21 by omega, show ¬ i.op = 30 by omega, show ¬ i.op = 39 by omega, show ¬ i.op = 41 by omega, show ¬ i.op = 42 by omega, show ¬ i.op = 44 by omega, show ¬ i.op = 45 by omega]
  rw [Bool.eq_iff_iff]
  simp
  have l0 := @len0 i.args
  all_goals first | done | omega | (constructor <;> intro hh <;> simp_all <;> omega) | grind
theorem right_33 {i : Ins} (ho : i.op = 33) : rightF i = right15 i := by
  have hb : bF i = true := by unfold bF abF twoF; rw [Bool.eq_iff_iff]; simp; omega
  refine right_of (h := 262) (by rw [ho]; decide) (by decide) (by unfold opF; simp; omega) (w := false) (by unfold writesF; rw [Bool.eq_iff_iff]; simp; omega) (t := true) (by unfold abF oneF twoF; rw [Bool.eq_iff_iff]; simp; omega) hb (s := true) (by unfold checkF; rw [Bool.eq_iff_iff]; simp; omega) ?_
  obtain ⟨b1, b2, b4, b8, b16, b32, b64, b128, b256, b512, b1024, b2048⟩ := bd262
  simp only [Int.reduceEq, ↓reduceIte, decide_false, decide_true, fits0_t, fits0_f, fieldsF, fieldsA, fieldsB, fitF, argsF, tailF, tailA, tellsF, b1, b2, b4, b8, b16, b32, b64, b128, b256, b512, b1024, b2048, show ¬ i.op = 20 by omega, show ¬ i.op = 21 by omega, show ¬ i.op = 30 by omega, show ¬ i.op = 39 by omega, show ¬ i.op = 41 by omega, show ¬ i.op = 42 by omega, show ¬ i.op = 44 by omega, show ¬ i.op = 45 by omega]
  rw [Bool.eq_iff_iff]
  simp
  have l0 := @len0 i.args
  all_goals first | done | omega | (constructor <;> intro hh <;> simp_all <;> omega) | grind
theorem right_34 {i : Ins} (ho : i.op = 34) : rightF i = right15 i := by
  have hb : bF i = true := by unfold bF abF twoF; rw [Bool.eq_iff_iff]; simp; omega
  refine right_of (h := 262) (by rw [ho]; decide) (by decide) (by unfold opF; simp; omega) (w := false) (by unfold writesF; rw [Bool.eq_iff_iff]; simp; omega) (t := true) (by unfold abF oneF twoF; rw [Bool.eq_iff_iff]; simp; omega) hb (s := true) (by unfold checkF; rw [Bool.eq_iff_iff]; simp; omega) ?_
  obtain ⟨b1, b2, b4, b8, b16, b32, b64, b128, b256, b512, b1024, b2048⟩ := bd262
  simp only [Int.reduceEq, ↓reduceIte, decide_false, decide_true, fits0_t, fits0_f, fieldsF, fieldsA, fieldsB, fitF, argsF, tailF, tailA, tellsF, b1, b2, b4, b8, b16, b32, b64, b128, b256, b512, b1024, b2048, show ¬ i.op = 20 by omega, show ¬ i.op = 21 by omega, show ¬ i.op = 30 by omega, show ¬ i.op = 39 by omega, show ¬ i.op = 41 by omega, show ¬ i.op = 42 by omega, show ¬ i.op = 44 by omega, show ¬ i.op = 45 by omega]
  rw [Bool.eq_iff_iff]
  simp
  have l0 := @len0 i.args
  all_goals first | done | omega | (constructor <;> intro hh <;> simp_all <;> omega) | grind
theorem right_35 {i : Ins} (ho : i.op = 35) : rightF i = right15 i := by
  have hb : bF i = true := by unfold bF abF twoF; rw [Bool.eq_iff_iff]; simp; omega
  refine right_of (h := 262) (by rw [ho]; decide) (by decide) (by unfold opF; simp; omega) (w := false) (by unfold writesF; rw [Bool.eq_iff_iff]; simp; omega) (t := true) (by unfold abF oneF twoF; rw [Bool.eq_iff_iff]; simp; omega) hb (s := true) (by unfold checkF; rw [Bool.eq_iff_iff]; simp; omega) ?_
  obtain ⟨b1, b2, b4, b8, b16, b32, b64, b128, b256, b512, b1024, b2048⟩ := bd262
  simp only [Int.reduceEq, ↓reduceIte, decide_false, decide_true, fits0_t, fits0_f, fieldsF, fieldsA, fieldsB, fitF, argsF, tailF, tailA, tellsF, b1, b2, b4, b8, b16, b32, b64, b128, b256, b512, b1024, b2048, show ¬ i.op = 20 by omega, show ¬ i.op = 21 by omega, show ¬ i.op = 30 by omega, show ¬ i.op = 39 by omega, show ¬ i.op = 41 by omega, show ¬ i.op = 42 by omega, show ¬ i.op = 44 by omega, show ¬ i.op = 45 by omega]
  rw [Bool.eq_iff_iff]
  simp
  have l0 := @len0 i.args
  all_goals first | done | omega | (constructor <;> intro hh <;> simp_all <;> omega) | grind
theorem right_36 {i : Ins} (ho : i.op = 36) : rightF i = right15 i := by
  have hb : bF i = false := by unfold bF abF twoF; rw [Bool.eq_iff_iff]; simp; omega
  refine right_of (h := 258) (by rw [ho]; decide) (by decide) (by unfold opF; simp; omega) (w := false) (by unfold writesF; rw [Bool.eq_iff_iff]; simp; omega) (t := true) (by unfold abF oneF twoF; rw [Bool.eq_iff_iff]; simp; omega) hb (s := true) (by unfold checkF; rw [Bool.eq_iff_iff]; simp; omega) ?_
  obtain ⟨b1, b2, b4, b8, b16, b32, b64, b128, b256, b512, b1024, b2048⟩ := bd258
  simp only [Int.reduceEq, ↓reduceIte, decide_false, decide_true, fits0_t, fits0_f, fieldsF, fieldsA, fieldsB, fitF, argsF, tailF, tailA, tellsF, b1, b2, b4, b8, b16, b32, b64, b128, b256, b512, b1024, b2048, show ¬ i.op = 20 by omega, show ¬ i.op = 21 by omega, show ¬ i.op = 30 by omega, show ¬ i.op = 39 by omega, show ¬ i.op = 41 by omega, show ¬ i.op = 42 by omega, show ¬ i.op = 44 by omega, show ¬ i.op = 45 by omega]
  rw [Bool.eq_iff_iff]
  simp
  have l0 := @len0 i.args
  all_goals first | done | omega | (constructor <;> intro hh <;> simp_all <;> omega) | grind
theorem right_37 {i : Ins} (ho : i.op = 37) : rightF i = right15 i := by
  have hb : bF i = true := by unfold bF abF twoF; rw [Bool.eq_iff_iff]; simp; omega
  refine right_of (h := 262) (by rw [ho]; decide) (by decide) (by unfold opF; simp; omega) (w := false) (by unfold writesF; rw [Bool.eq_iff_iff]; simp; omega) (t := true) (by unfold abF oneF twoF; rw [Bool.eq_iff_iff]; simp; omega) hb (s := true) (by unfold checkF; rw [Bool.eq_iff_iff]; simp; omega) ?_
  obtain ⟨b1, b2, b4, b8, b16, b32, b64, b128, b256, b512, b1024, b2048⟩ := bd262
  simp only [Int.reduceEq, ↓reduceIte, decide_false, decide_true, fits0_t, fits0_f, fieldsF, fieldsA, fieldsB, fitF, argsF, tailF, tailA, tellsF, b1, b2, b4, b8, b16, b32, b64, b128, b256, b512, b1024, b2048, show ¬ i.op = 20 by omega, show ¬ i.op = 21 by omega, show ¬ i.op = 30 by omega, show ¬ i.op = 39 by omega, show ¬ i.op = 41 by omega, show ¬ i.op = 42 by omega, show ¬ i.op = 44 by omega, show ¬ i.op = 45 by omega]
  rw [Bool.eq_iff_iff]
  simp
  have l0 := @len0 i.args
  all_goals first | done | omega | (constructor <;> intro hh <;> simp_all <;> omega) | grind
theorem right_38 {i : Ins} (ho : i.op = 38) : rightF i = right15 i := by
  have hb : bF i = false := by unfold bF abF twoF; rw [Bool.eq_iff_iff]; simp; omega
  refine right_of (h := 258) (by rw [ho]; decide) (by decide) (by unfold opF; simp; omega) (w := false) (by unfold writesF; rw [Bool.eq_iff_iff]; simp; omega) (t := true) (by unfold abF oneF twoF; rw [Bool.eq_iff_iff]; simp; omega) hb (s := true) (by unfold checkF; rw [Bool.eq_iff_iff]; simp; omega) ?_
  obtain ⟨b1, b2, b4, b8, b16, b32, b64, b128, b256, b512, b1024, b2048⟩ := bd258
  simp only [Int.reduceEq, ↓reduceIte, decide_false, decide_true, fits0_t, fits0_f, fieldsF, fieldsA, fieldsB, fitF, argsF, tailF, tailA, tellsF, b1, b2, b4, b8, b16, b32, b64, b128, b256, b512, b1024, b2048, show ¬ i.op = 20 by omega, show ¬ i.op = 21 by omega, show ¬ i.op = 30 by omega, show ¬ i.op = 39 by omega, show ¬ i.op = 41 by omega, show ¬ i.op = 42 by omega, show ¬ i.op = 44 by omega, show ¬ i.op = 45 by omega]
  rw [Bool.eq_iff_iff]
  simp
  have l0 := @len0 i.args
  all_goals first | done | omega | (constructor <;> intro hh <;> simp_all <;> omega) | grind
theorem right_39 {i : Ins} (ho : i.op = 39) : rightF i = right15 i := by
  have hb : bF i = false := by unfold bF abF twoF; rw [Bool.eq_iff_iff]; simp; omega
  refine right_of (h := 577) (by rw [ho]; decide) (by decide) (by unfold opF; simp; omega) (w := true) (by unfold writesF; rw [Bool.eq_iff_iff]; simp; omega) (t := false) (by unfold abF oneF twoF; rw [Bool.eq_iff_iff]; simp; omega) hb (s := false) (by unfold checkF; rw [Bool.eq_iff_iff]; simp; omega) ?_
  obtain ⟨b1, b2, b4, b8, b16, b32, b64, b128, b256, b512, b1024, b2048⟩ := bd577
  simp only [Int.reduceEq, ↓reduceIte, decide_false, decide_true, fits0_t, fits0_f, fieldsF, fieldsA, fieldsB, fitF, argsF, tailF, tailA, tellsF, b1, b2, b4, b8, b16, b32, b64, b128, b256, b512, b1024, b2048, show ¬ i.op = 20 by omega, show ¬ i.op = 21 by omega, show ¬ i.op = 30 by omega, show ¬ i.op = 41 by omega, show ¬ i.op = 42 by omega, show ¬ i.op = 44 by omega, show ¬ i.op = 45 by omega, ho]
  rw [Bool.eq_iff_iff]
  simp
  have l0 := @len0 i.args
  all_goals first | done | omega | (constructor <;> intro hh <;> simp_all <;> omega) | grind
theorem right_40 {i : Ins} (ho : i.op = 40) : rightF i = right15 i := by
  have hb : bF i = false := by unfold bF abF twoF; rw [Bool.eq_iff_iff]; simp; omega
  refine right_of (h := 2) (by rw [ho]; decide) (by decide) (by unfold opF; simp; omega) (w := false) (by unfold writesF; rw [Bool.eq_iff_iff]; simp; omega) (t := true) (by unfold abF oneF twoF; rw [Bool.eq_iff_iff]; simp; omega) hb (s := false) (by unfold checkF; rw [Bool.eq_iff_iff]; simp; omega) ?_
  obtain ⟨b1, b2, b4, b8, b16, b32, b64, b128, b256, b512, b1024, b2048⟩ := bd2
  simp only [Int.reduceEq, ↓reduceIte, decide_false, decide_true, fits0_t, fits0_f, fieldsF, fieldsA, fieldsB, fitF, argsF, tailF, tailA, tellsF, b1, b2, b4, b8, b16, b32, b64, b128, b256, b512, b1024, b2048, show ¬ i.op = 20 by omega, show ¬ i.op = 21 by omega, show ¬ i.op = 30 by omega, show ¬ i.op = 39 by omega, show ¬ i.op = 41 by omega, show ¬ i.op = 42 by omega, show ¬ i.op = 44 by omega, show ¬ i.op = 45 by omega]
  rw [Bool.eq_iff_iff]
  simp
  have l0 := @len0 i.args
  all_goals first | done | omega | (constructor <;> intro hh <;> simp_all <;> omega) | grind
theorem right_41 {i : Ins} (ho : i.op = 41) : rightF i = right15 i := by
  have hb : bF i = false := by unfold bF abF twoF; rw [Bool.eq_iff_iff]; simp; omega
  refine right_of (h := 64) (by rw [ho]; decide) (by decide) (by unfold opF; simp; omega) (w := false) (by unfold writesF; rw [Bool.eq_iff_iff]; simp; omega) (t := false) (by unfold abF oneF twoF; rw [Bool.eq_iff_iff]; simp; omega) hb (s := false) (by unfold checkF; rw [Bool.eq_iff_iff]; simp; omega) ?_
  obtain ⟨b1, b2, b4, b8, b16, b32, b64, b128, b256, b512, b1024, b2048⟩ := bd64
  simp only [Int.reduceEq, ↓reduceIte, decide_false, decide_true, fits0_t, fits0_f, fieldsF, fieldsA, fieldsB, fitF, argsF, tailF, tailA, tellsF, b1, b2, b4, b8, b16, b32, b64, b128, b256, b512, b1024, b2048, show ¬ i.op = 20 by omega, show ¬ i.op = 21 by omega, show ¬ i.op = 30 by omega, show ¬ i.op = 39 by omega, show ¬ i.op = 42 by omega, show ¬ i.op = 44 by omega, show ¬ i.op = 45 by omega, ho]
  rw [Bool.eq_iff_iff]
  simp
  have l0 := @len0 i.args
  all_goals first | done | omega | (constructor <;> intro hh <;> simp_all <;> omega) | grind
theorem right_42 {i : Ins} (ho : i.op = 42) : rightF i = right15 i := by
  have hb : bF i = false := by unfold bF abF twoF; rw [Bool.eq_iff_iff]; simp; omega
  refine right_of (h := 194) (by rw [ho]; decide) (by decide) (by unfold opF; simp; omega) (w := false) (by unfold writesF; rw [Bool.eq_iff_iff]; simp; omega) (t := true) (by unfold abF oneF twoF; rw [Bool.eq_iff_iff]; simp; omega) hb (s := false) (by unfold checkF; rw [Bool.eq_iff_iff]; simp; omega) ?_
  obtain ⟨b1, b2, b4, b8, b16, b32, b64, b128, b256, b512, b1024, b2048⟩ := bd194
  simp only [Int.reduceEq, ↓reduceIte, decide_false, decide_true, fits0_t, fits0_f, fieldsF, fieldsA, fieldsB, fitF, argsF, tailF, tailA, tellsF, b1, b2, b4, b8, b16, b32, b64, b128, b256, b512, b1024, b2048, show ¬ i.op = 20 by omega, show ¬ i.op = 21 by omega, show ¬ i.op = 30 by omega, show ¬ i.op = 39 by omega, show ¬ i.op = 41 by omega, show ¬ i.op = 44 by omega, show ¬ i.op = 45 by omega, ho]
  rw [Bool.eq_iff_iff]
  simp
  have l0 := @len0 i.args
  all_goals first | done | omega | (constructor <;> intro hh <;> simp_all <;> omega) | grind
theorem right_43 {i : Ins} (ho : i.op = 43) : rightF i = right15 i := by
  have hb : bF i = false := by unfold bF abF twoF; rw [Bool.eq_iff_iff]; simp; omega
  refine right_of (h := 2) (by rw [ho]; decide) (by decide) (by unfold opF; simp; omega) (w := false) (by unfold writesF; rw [Bool.eq_iff_iff]; simp; omega) (t := true) (by unfold abF oneF twoF; rw [Bool.eq_iff_iff]; simp; omega) hb (s := false) (by unfold checkF; rw [Bool.eq_iff_iff]; simp; omega) ?_
  obtain ⟨b1, b2, b4, b8, b16, b32, b64, b128, b256, b512, b1024, b2048⟩ := bd2
  simp only [Int.reduceEq, ↓reduceIte, decide_false, decide_true, fits0_t, fits0_f, fieldsF, fieldsA, fieldsB, fitF, argsF, tailF, tailA, tellsF, b1, b2, b4, b8, b16, b32, b64, b128, b256, b512, b1024, b2048, show ¬ i.op = 20 by omega, show ¬ i.op = 21 by omega, show ¬ i.op = 30 by omega, show ¬ i.op = 39 by omega, show ¬ i.op = 41 by omega, show ¬ i.op = 42 by omega, show ¬ i.op = 44 by omega, show ¬ i.op = 45 by omega]
  rw [Bool.eq_iff_iff]
  simp
  have l0 := @len0 i.args
  all_goals first | done | omega | (constructor <;> intro hh <;> simp_all <;> omega) | grind
theorem right_44 {i : Ins} (ho : i.op = 44) : rightF i = right15 i := by
  have hb : bF i = false := by unfold bF abF twoF; rw [Bool.eq_iff_iff]; simp; omega
  refine right_of (h := 1537) (by rw [ho]; decide) (by decide) (by unfold opF; simp; omega) (w := true) (by unfold writesF; rw [Bool.eq_iff_iff]; simp; omega) (t := false) (by unfold abF oneF twoF; rw [Bool.eq_iff_iff]; simp; omega) hb (s := false) (by unfold checkF; rw [Bool.eq_iff_iff]; simp; omega) ?_
  obtain ⟨b1, b2, b4, b8, b16, b32, b64, b128, b256, b512, b1024, b2048⟩ := bd1537
  simp only [Int.reduceEq, ↓reduceIte, decide_false, decide_true, fits0_t, fits0_f, fieldsF, fieldsA, fieldsB, fitF, argsF, tailF, tailA, tellsF, b1, b2, b4, b8, b16, b32, b64, b128, b256, b512, b1024, b2048, show ¬ i.op = 20 by omega, show ¬ i.op = 21 by omega, show ¬ i.op = 30 by omega, show ¬ i.op = 39 by omega, show ¬ i.op = 41 by omega, show ¬ i.op = 42 by omega, show ¬ i.op = 45 by omega, ho]
  rw [Bool.eq_iff_iff]
  simp
  have l0 := @len0 i.args
  all_goals first | done | omega | (constructor <;> intro hh <;> simp_all <;> omega) | grind
theorem right_45 {i : Ins} (ho : i.op = 45) : rightF i = right15 i := by
  have hb : bF i = decide (i.m ≠ 21) := by unfold bF abF; rw [ho]; unfold twoF; rw [Bool.eq_iff_iff]; simp
  refine right_of (h := 2055) (by rw [ho]; decide) (by decide) (by unfold opF; simp; omega) (w := true) (by unfold writesF; rw [Bool.eq_iff_iff]; simp; omega) (t := true) (by unfold abF oneF twoF; rw [Bool.eq_iff_iff]; simp; omega) hb (s := false) (by unfold checkF; rw [Bool.eq_iff_iff]; simp; omega) ?_
  obtain ⟨b1, b2, b4, b8, b16, b32, b64, b128, b256, b512, b1024, b2048⟩ := bd2055
  have hf : fits0 (decide (i.m ≠ 21)) i.b = decide (0 ≤ i.b ∧ (i.m = 21 → i.b = 0)) := by unfold fits0; rw [Bool.eq_iff_iff]; simp; omega
  rw [hf]
  simp only [Int.reduceEq, ↓reduceIte, decide_false, decide_true, fits0_t, fits0_f, fieldsF, fieldsA, fieldsB, fitF, argsF, tailF, tailA, tellsF, b1, b2, b4, b8, b16, b32, b64, b128, b256, b512, b1024, b2048, show ¬ i.op = 20 by omega, show ¬ i.op = 21 by omega, show ¬ i.op = 30 by omega, show ¬ i.op = 39 by omega, show ¬ i.op = 41 by omega, show ¬ i.op = 42 by omega, show ¬ i.op = 44 by omega, ho]
  rw [Bool.eq_iff_iff]
  simp
  have l0 := @len0 i.args
  all_goals first | done | omega | (constructor <;> intro hh <;> simp_all <;> omega) | grind
theorem right_eq (i : Ins) : rightF i = right15 i := by
  cases ho : opF i.op with
  | false => unfold rightF right15; rw [hasF_zero ho, ho]; rfl
  | true =>
    unfold opF at ho
    simp at ho
    have : (3 ≤ i.op ∧ i.op ≤ 16) ∨ (23 ≤ i.op ∧ i.op ≤ 28) ∨ i.op = 20 ∨ i.op = 21 ∨ i.op = 22 ∨ i.op = 29 ∨ i.op = 30 ∨ i.op = 31 ∨ i.op = 32 ∨ i.op = 33 ∨ i.op = 34 ∨ i.op = 35 ∨ i.op = 36 ∨ i.op = 37 ∨ i.op = 38 ∨ i.op = 39 ∨ i.op = 40 ∨ i.op = 41 ∨ i.op = 42 ∨ i.op = 43 ∨ i.op = 44 ∨ i.op = 45 := by omega
    rcases this with h | h | h | h | h | h | h | h | h | h | h | h | h | h | h | h | h | h | h | h | h | h
    · exact right_3 h
    · exact right_23 h
    · exact right_20 h
    · exact right_21 h
    · exact right_22 h
    · exact right_29 h
    · exact right_30 h
    · exact right_31 h
    · exact right_32 h
    · exact right_33 h
    · exact right_34 h
    · exact right_35 h
    · exact right_36 h
    · exact right_37 h
    · exact right_38 h
    · exact right_39 h
    · exact right_40 h
    · exact right_41 h
    · exact right_42 h
    · exact right_43 h
    · exact right_44 h
    · exact right_45 h
theorem def_eq (i : Ins) : defF i = def15 i := by
  unfold defF def15
  rw [right_eq]
  cases hr : right15 i with
  | false => simp
  | true =>
    have ho : opF i.op = true := by unfold right15 at hr; simp at hr; exact hr.1
    have : (band (hasF i.op) 1 ≠ 0) ↔ writesF i.op = true := by
      unfold opF at ho
      simp at ho
      have hh : (3 ≤ i.op ∧ i.op ≤ 16) ∨ (23 ≤ i.op ∧ i.op ≤ 28) ∨ i.op = 20 ∨ i.op = 21 ∨ i.op = 22 ∨ i.op = 29 ∨ i.op = 30 ∨ i.op = 31 ∨ i.op = 32 ∨ i.op = 33 ∨ i.op = 34 ∨ i.op = 35 ∨ i.op = 36 ∨ i.op = 37 ∨ i.op = 38 ∨ i.op = 39 ∨ i.op = 40 ∨ i.op = 41 ∨ i.op = 42 ∨ i.op = 43 ∨ i.op = 44 ∨ i.op = 45 := by omega
      unfold writesF
      rcases hh with h | h | h | h | h | h | h | h | h | h | h | h | h | h | h | h | h | h | h | h | h | h
      · rw [show hasF i.op = 7 by unfold hasF; rw [if_pos (by omega)], bd7.1]; simp; omega
      · rw [show hasF i.op = 3 by unfold hasF; rw [if_neg (by omega), if_pos (by omega)], bd3.1]; simp; omega
      all_goals (rw [h]; decide)
    simp [this]
end Go.Proofs.YtdgibhndjdgllaaDoor
