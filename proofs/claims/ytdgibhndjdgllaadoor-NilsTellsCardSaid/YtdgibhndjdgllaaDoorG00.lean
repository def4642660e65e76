/- The abstract values of a symbolic run, and what they say of the machine's memory: plain definitions and how they last. -/
import Derived.Below
import Derived.Calls
import Derived.MapKept
import Derived.AtR
import Derived.Laws.Small
set_option linter.unusedVariables false
set_option linter.unusedSimpArgs false

namespace Go.Ax
open Go.RowKit

/-- An abstract value. -/
inductive AV where
  | any
  | lit (v : Value)
  | agg (cs : List AV)
  | tup (cs : List AV)
  | sl (full : Bool) (sz : Nat) (xs : List (List AV))
  | pt (cs : List AV)
  | osl (sz : Nat) (xs : List (List AV))
  | opt (cs : List AV)
  | hw (id : Nat)
  | hs (id lo n : Nat)
  | hp (id off : Nat)
  | hq (id i off : Nat)
  | fn (f : Nat) (cs : List AV)
  | mp (kvs : List (Int × Int))
  | hm (id : Nat)
  | hc (id : Nat)

/-- A loop over a function: its record, its block of deferred calls, and the slots that its rounds begin with. -/
structure Lp where
  l : Nat
  D : Nat
  f : Nat
  nt : Nat
  tm : List (Nat × AV)
  ps : Array Nat
  assign : Code
  body : Code
  s : LoopState
  pend : Option Code

/-- What a heap's entry holds: a variable's cells, or a row of elements of sz cells each, or a loop's record. -/
inductive Row where
  | var (cs : List AV)
  | row (sz : Nat) (xs : List (List AV))
  | foc (sz : Nat) (xs : List (List AV)) (cs : List AV) (n off j : Nat)
  | lp (L : Lp)
  | mpr (kvs : List (Int × Int))
  | chn (cap : Nat) (xs : List Int)
  | itr (left : List (Int × Int)) (cur : Option (Int × Int))
  | tab (b : Nat) (vs : List Value)

/-- Which blocks stay as they are, and where the entries lie. -/
structure Interp where
  S : Nat → Prop
  at_ : Nat → Option (Nat × Nat)
  ln : Nat → Nat
  sz : Nat → Nat
  nx : Nat

/-- What is asked: of one value, of a list of values, of the cells from an address on. -/
inductive Ask where
  | v (a : AV) (x : Value)
  | l (as : List AV) (xs : List Value)
  | c (b o : Nat) (as : List AV)

/-- Block b is a row of cells that may be written. -/
def Blk (w : World) (b : Nat) (c : Array Value) : Prop := ∃ e, w.heap[b]? = some (.cells c e (0, 0))

/-- What does not hang on entries: all of it lies in blocks that stay. -/
inductive Std (S : Nat → Prop) (w : World) : Ask → Prop
  | any (x) : Std S w (.v .any x)
  | lit (x) : Std S w (.v (.lit x) x)
  | agg {cs vs} : Std S w (.l cs vs) → Std S w (.v (.agg cs) (.agg vs.toArray))
  | tup {cs vs} : Std S w (.l cs vs) → Std S w (.v (.tup cs) (.tuple vs.toArray))
  | sl0 {full sz a cap} : (full = true → cap = 0) → (a = none → cap = 0) → Std S w (.v (.sl full sz []) (.slice a 0 cap))
  | sl {full sz xs b o cap} : (full = true → cap = xs.length) → xs.length ≤ cap → (∀ x ∈ xs, x.length = sz) → S b →
      Std S w (.c b o xs.flatten) → Std S w (.v (.sl full sz xs) (.slice (some ⟨b, o, none⟩) xs.length cap))
  | pt {cs b o} : S b → Std S w (.c b o cs) → Std S w (.v (.pt cs) (.pointer (some ⟨b, o, none⟩)))
  | fn {f cs vs} : Std S w (.l cs vs) → Std S w (.v (.fn f cs) (.func (.func f) #[] vs.toArray))
  | mp {r es clock kvs} : S r → w.heap[r]? = some (.map es clock) → es.toList.map (fun e => (e.key, e.val)) = kvs.map (fun p => (Value.int .i64 p.1, Value.int .i64 p.2)) → Std S w (.v (.mp kvs) (.map (some r)))
  | nil : Std S w (.l [] [])
  | cons {a x as xs} : Std S w (.v a x) → Std S w (.l as xs) → Std S w (.l (a :: as) (x :: xs))
  | cnil {b o} : Std S w (.c b o [])
  | ccons {b o a x as} : w.cell? ⟨b, o, none⟩ = some x → Std S w (.v a x) → Std S w (.c b (o + 1) as) → Std S w (.c b o (a :: as))

theorem Std.mono {S S' : Nat → Prop} {w w' : World} {q : Ask} (h : Std S w q) (hS : ∀ b, S b → S' b) (hw : ∀ b, S b → w'.heap[b]? = w.heap[b]?) : (∀ b o as, q = .c b o as → S b) → Std S' w' q := by
  induction h with
  | any => exact fun _ => .any _
  | lit => exact fun _ => .lit _
  | agg _ ih => exact fun _ => .agg (ih (by simp))
  | tup _ ih => exact fun _ => .tup (ih (by simp))
  | sl0 h h2 => exact fun _ => .sl0 h h2
  | sl h1 h2 h3 hb _ ih => exact fun _ => .sl h1 h2 h3 (hS _ hb) (ih (fun _ _ _ e => by cases e; exact hb))
  | pt hb _ ih => exact fun _ => .pt (hS _ hb) (ih (fun _ _ _ e => by cases e; exact hb))
  | fn _ ih => exact fun _ => .fn (ih (by simp))
  | mp h1 h2 h3 => exact fun _ => .mp (hS _ h1) ((hw _ h1).trans h2) h3
  | nil => exact fun _ => .nil
  | cons _ _ ih1 ih2 => exact fun _ => .cons (ih1 (by simp)) (ih2 (by simp))
  | cnil => exact fun _ => .cnil
  | ccons hc _ _ ih1 ih2 =>
    intro hq
    have hb := hq _ _ _ rfl
    refine .ccons ?_ (ih1 (by simp)) (ih2 (fun _ _ _ e => by cases e; exact hb))
    rw [← hc]
    exact World.cell?_of_block (w := w) (hw _ hb)

/-- What may hang on entries, too. -/
inductive Rep (I : Interp) (w : World) : Ask → Prop
  | std {a x} : Std I.S w (.v a x) → Rep I w (.v a x)
  | agg {cs vs} : Rep I w (.l cs vs) → Rep I w (.v (.agg cs) (.agg vs.toArray))
  | tup {cs vs} : Rep I w (.l cs vs) → Rep I w (.v (.tup cs) (.tuple vs.toArray))
  | fn {f cs vs} : Rep I w (.l cs vs) → Rep I w (.v (.fn f cs) (.func (.func f) #[] vs.toArray))
  | nil : Rep I w (.l [] [])
  | cons {a x as xs} : Rep I w (.v a x) → Rep I w (.l as xs) → Rep I w (.l (a :: as) (x :: xs))
  | hw0 {id a} : id < I.nx → I.at_ id = none → I.ln id = 0 → True → Rep I w (.v (.hw id) (.slice a 0 0))
  | hw {id cap c b o} : id < I.nx → I.at_ id = some (b, o) → I.ln id ≤ cap → Blk w b c → o + cap * I.sz id ≤ c.size → Rep I w (.v (.hw id) (.slice (some ⟨b, o, none⟩) (I.ln id) cap))
  | hs0 {id lo a} : id < I.nx → True → Rep I w (.v (.hs id lo 0) (.slice a 0 0))
  | hs {id lo n cap c b o} : id < I.nx → I.at_ id = some (b, o) → n ≤ cap → Blk w b c → o + (lo + cap) * I.sz id ≤ c.size → Rep I w (.v (.hs id lo n) (.slice (some ⟨b, o + lo * I.sz id, none⟩) n cap))
  | hp {id off b o} : id < I.nx → I.at_ id = some (b, o) → Rep I w (.v (.hp id off) (.pointer (some ⟨b, o + off, none⟩)))
  | hq {id i off b o} : id < I.nx → I.at_ id = some (b, o) → Rep I w (.v (.hq id i off) (.pointer (some ⟨b, o + i * I.sz id + off, none⟩)))
  | hm {id r} : id < I.nx → I.at_ id = some (r, 0) → Rep I w (.v (.hm id) (.map (some r)))
  | hc {id r} : id < I.nx → I.at_ id = some (r, 0) → Rep I w (.v (.hc id) (.chan (some r)))

/-- What an entry's blocks still are later: rows of cells of the same number. -/
def Lasts (w w' : World) : Prop := ∀ b c, Blk w b c → ∃ c', Blk w' b c' ∧ c'.size = c.size

/-- One standing goes on in another. -/
structure Ext (I : Interp) (w : World) (I' : Interp) (w' : World) : Prop where
  S : ∀ b, I.S b → I'.S b
  hold : ∀ b, I.S b → w'.heap[b]? = w.heap[b]?
  nx : I.nx ≤ I'.nx
  at_ : ∀ id, id < I.nx → I'.at_ id = I.at_ id
  ln : ∀ id, id < I.nx → I'.ln id = I.ln id
  sz : ∀ id, id < I.nx → I'.sz id = I.sz id
  last : Lasts w w'

theorem Std.monoV {S S' : Nat → Prop} {w w' : World} {a : AV} {x : Value} (h : Std S w (.v a x)) (hS : ∀ b, S b → S' b) (hw : ∀ b, S b → w'.heap[b]? = w.heap[b]?) : Std S' w' (.v a x) := h.mono hS hw (by simp)

theorem Rep.mono {I I' : Interp} {w w' : World} {q : Ask} (h : Rep I w q) (e : Ext I w I' w') : Rep I' w' q := by
  induction h with
  | std h => exact .std (h.monoV e.S e.hold)
  | agg _ ih => exact .agg ih
  | tup _ ih => exact .tup ih
  | fn _ ih => exact .fn ih
  | nil => exact .nil
  | cons _ _ ih1 ih2 => exact .cons ih1 ih2
  | hw0 h ha h0 hc => exact .hw0 (Nat.lt_of_lt_of_le h e.nx) ((e.at_ _ h).trans ha) ((e.ln _ h).trans h0) hc
  | hw h ha hn hb hs =>
    obtain ⟨c', hb', hc'⟩ := e.last _ _ hb
    rw [← e.sz _ h] at hs
    rw [← e.ln _ h] at hn ⊢
    exact .hw (Nat.lt_of_lt_of_le h e.nx) ((e.at_ _ h).trans ha) hn hb' (by omega)
  | hs0 h hc => exact .hs0 (Nat.lt_of_lt_of_le h e.nx) hc
  | hs h ha hn hb hs =>
    obtain ⟨c', hb', hc'⟩ := e.last _ _ hb
    rw [← e.sz _ h] at hs ⊢
    exact .hs (Nat.lt_of_lt_of_le h e.nx) ((e.at_ _ h).trans ha) hn hb' (by omega)
  | hp h ha => exact .hp (Nat.lt_of_lt_of_le h e.nx) ((e.at_ _ h).trans ha)
  | hq h ha => rw [← e.sz _ h]; exact .hq (Nat.lt_of_lt_of_le h e.nx) ((e.at_ _ h).trans ha)
  | hm h ha => exact .hm (Nat.lt_of_lt_of_le h e.nx) ((e.at_ _ h).trans ha)
  | hc h ha => exact .hc (Nat.lt_of_lt_of_le h e.nx) ((e.at_ _ h).trans ha)

/-- What is one's own: which blocks it takes. -/
inductive Own (S : Nat → Prop) (w : World) : Ask → List Nat → Prop
  | std {a x} : Std S w (.v a x) → Own S w (.v a x) []
  | agg {cs vs F} : Own S w (.l cs vs) F → Own S w (.v (.agg cs) (.agg vs.toArray)) F
  | tup {cs vs F} : Own S w (.l cs vs) F → Own S w (.v (.tup cs) (.tuple vs.toArray)) F
  | osl0 {sz a} : True → Own S w (.v (.osl sz []) (.slice a 0 0)) []
  | osl {sz xs b o cap c F} : Blk w b c → xs.length ≤ cap → (∀ x ∈ xs, x.length = sz) → o + cap * sz ≤ c.size → Own S w (.c b o xs.flatten) F →
      Own S w (.v (.osl sz xs) (.slice (some ⟨b, o, none⟩) xs.length cap)) (b :: F)
  | opt {cs b o c F} : Blk w b c → o + cs.length ≤ c.size → Own S w (.c b o cs) F → Own S w (.v (.opt cs) (.pointer (some ⟨b, o, none⟩))) (b :: F)
  | nil : Own S w (.l [] []) []
  | cons {a x as xs F G} : Own S w (.v a x) F → Own S w (.l as xs) G → Own S w (.l (a :: as) (x :: xs)) (F ++ G)
  | cnil {b o} : Own S w (.c b o []) []
  | ccons {b o a x as F G} : w.cell? ⟨b, o, none⟩ = some x → Own S w (.v a x) F → Own S w (.c b (o + 1) as) G → Own S w (.c b o (a :: as)) (F ++ G)

theorem Own.mono {S S' : Nat → Prop} {w w' : World} {q : Ask} {F : List Nat} (h : Own S w q F) (hS : ∀ b, S b → S' b) (hw : ∀ b, S b → w'.heap[b]? = w.heap[b]?)
    (hF : ∀ b ∈ F, w'.heap[b]? = w.heap[b]?) : (∀ b o as, q = .c b o as → w'.heap[b]? = w.heap[b]?) → Own S' w' q F := by
  induction h with
  | std h => exact fun _ => .std (h.monoV hS hw)
  | agg _ ih => exact fun _ => .agg (ih hF (by simp))
  | tup _ ih => exact fun _ => .tup (ih hF (by simp))
  | osl0 h => exact fun _ => .osl0 h
  | osl hb h1 h2 h3 _ ih =>
    intro _
    have hbb := hF _ (List.mem_cons_self ..)
    obtain ⟨e, he⟩ := hb
    exact .osl ⟨e, hbb.trans he⟩ h1 h2 h3 (ih (fun b hb => hF b (List.mem_cons_of_mem _ hb)) (fun _ _ _ e => by cases e; exact hbb))
  | opt hb h1 _ ih =>
    intro _
    have hbb := hF _ (List.mem_cons_self ..)
    obtain ⟨e, he⟩ := hb
    exact .opt ⟨e, hbb.trans he⟩ h1 (ih (fun b hb => hF b (List.mem_cons_of_mem _ hb)) (fun _ _ _ e => by cases e; exact hbb))
  | nil => exact fun _ => .nil
  | cons _ _ ih1 ih2 => exact fun _ => .cons (ih1 (fun b hb => hF b (List.mem_append_left _ hb)) (by simp)) (ih2 (fun b hb => hF b (List.mem_append_right _ hb)) (by simp))
  | cnil => exact fun _ => .cnil
  | ccons hc _ _ ih1 ih2 =>
    intro hq
    have hbb := hq _ _ _ rfl
    refine .ccons ?_ (ih1 (fun b hb => hF b (List.mem_append_left _ hb)) (by simp)) (ih2 (fun b hb => hF b (List.mem_append_right _ hb)) (fun _ _ _ e => by cases e; exact hbb))
    rw [← hc]
    exact World.cell?_of_block (w := w) hbb

end Go.Ax

/- The abstract states of a symbolic run, when they stand for the machine's, and what it is that such a run shows. -/
namespace Go.Ax
open Go.RowKit

/-- An abstract state: the slots, the heap's entries, the next entry's number, how many slots there are. -/
structure St where
  tm : List (Nat × AV)
  hp : List (Nat × Row)
  nx : Nat
  nt : Nat

def get : Nat → List (Nat × AV) → AV
  | _, [] => .any
  | d, (k, v) :: r => bif Nat.beq k d then v else get d r

def St.get (st : St) (d : Nat) : AV := Ax.get d st.tm

def St.ev (st : St) : Operand → AV
  | .tmp t => Ax.get t st.tm
  | .const v => .lit v
  | .func f => .fn f []
  | .global _ => .any

def St.set (st : St) (d : Nat) (v : AV) : St := { st with tm := (d, v) :: st.tm }

def row : Nat → List (Nat × Row) → Option Row
  | _, [] => none
  | d, (k, v) :: r => bif Nat.beq k d then some v else row d r

def rem : Nat → List (Nat × Row) → List (Nat × Row)
  | _, [] => []
  | d, (k, v) :: r => bif Nat.beq k d then r else (k, v) :: rem d r

/-- A cell of a variable: what may hang on entries, or is the variable's own. -/
def Leaf (I : Interp) (w : World) (a : AV) (x : Value) (F : List Nat) : Prop := (Rep I w (.v a x) ∧ F = []) ∨ Own I.S w (.v a x) F

inductive VarC (I : Interp) (w : World) (b : Nat) : Nat → List AV → List Nat → Prop
  | nil {o} : VarC I w b o [] []
  | cons {o a x as F G} : w.cell? ⟨b, o, none⟩ = some x → Leaf I w a x F → VarC I w b (o + 1) as G → VarC I w b o (a :: as) (F ++ G)

def PairsOf (l : List MapEntry) (kvs : List (Int × Int)) : Prop := l.map (fun e => (e.key, e.val)) = kvs.map (fun p => (Value.int .i64 p.1, Value.int .i64 p.2))
def CurOf (es : List MapEntry) (seen : Array Nat) (c0 clock : Nat) : Option (Int × Int) → Prop
  | none => True
  | some p => ∃ e ∈ es, ∃ s : Array Nat, seen = s.push e.born ∧ c0 = clock ∧ e.key = .int .i64 p.1 ∧ e.val = .int .i64 p.2

inductive RowOK (I : Interp) (w : World) : Nat → Row → List Nat → Prop
  | var {id b o cs c F} : id < I.nx → I.at_ id = some (b, o) → Blk w b c → o + cs.length ≤ c.size → VarC I w b o cs F → RowOK I w id (.var cs) (b :: F)
  | row0 {id sz} : id < I.nx → I.at_ id = none → I.ln id = 0 → I.sz id = sz → RowOK I w id (.row sz []) []
  | row {id b o sz xs c F} : id < I.nx → I.at_ id = some (b, o) → I.ln id = xs.length → I.sz id = sz → Blk w b c → o + xs.length * sz ≤ c.size → (∀ x ∈ xs, x.length = sz) → Own I.S w (.c b o xs.flatten) F →
      RowOK I w id (.row sz xs) (b :: F)
  | foc {id b o sz xs c n off j x cs a As Cs F1 F2} : id < I.nx → I.at_ id = some (b, o) → I.ln id = xs.length → I.sz id = sz → Blk w b c → o + xs.length * sz ≤ c.size → (∀ x ∈ xs, x.length = sz) → xs[n]? = some cs → off < sz →
      xs.flatten = As ++ a :: Cs → As.length = n * sz + off → Own I.S w (.c b o As) F1 → w.cell? ⟨b, o + (n * sz + off), none⟩ = some x → Rep I w (.v (.hw j) x) → Own I.S w (.c b (o + (n * sz + off) + 1) Cs) F2 →
      RowOK I w id (.foc sz xs cs n off j) (b :: (F1 ++ F2))
  | lp {id L us df} : id < I.nx → I.at_ id = some (L.l, L.D) → w.heap[L.l]? = some (.loop { state := L.s, pending := L.pend, fn := L.f, tmps := us, params := L.ps, assign := L.assign, body := L.body, defers := df }) → w.heap[L.D]? = some (.deferred (some [])) → us.size = L.nt →
      (∀ d, Rep I w (.v (get d L.tm) (us.getD d undef))) → RowOK I w id (.lp L) [L.l, L.D]
  | mpr {id r es clock kvs} : id < I.nx → I.at_ id = some (r, 0) → w.heap[r]? = some (.map es clock) → MapKept.Stamped es clock → PairsOf es.toList kvs → RowOK I w id (.mpr kvs) [r]
  | chn {id r cap buf s rc xs} : id < I.nx → I.at_ id = some (r, 0) → w.heap[r]? = some (.chan cap buf false s rc false) → buf.toList = xs.map (fun n => Value.int .i64 n) → RowOK I w id (.chn cap xs) [r]
  | itr {id r m es clock since seen c0 left cur} : id < I.nx → I.at_ id = some (r, 0) → w.heap[r]? = some (.mapIter (some m) since seen c0) → w.heap[m]? = some (.map es clock) → MapKept.Stamped es clock →
      (∀ x ∈ es.toList, x.born < since) → since ≤ c0 ∧ since ≤ clock → PairsOf (es.toList.filter fun e => !seen.contains e.born) left → CurOf es.toList seen c0 clock cur → RowOK I w id (.itr left cur) [r, m]
  | tab {id b vs} : id < I.nx → I.S b → (∀ (j : Nat) v, vs[j]? = some v → w.cell? ⟨b, j, none⟩ = some v) → RowOK I w id (.tab b vs) []

inductive HeapOK (I : Interp) (w : World) : List (Nat × Row) → List Nat → Prop
  | nil : HeapOK I w [] []
  | cons {id r hp F T} : RowOK I w id r F → HeapOK I w hp T → HeapOK I w ((id, r) :: hp) (F ++ T)

theorem Leaf.mono {I I' : Interp} {w w' : World} {a : AV} {x : Value} {F : List Nat} (h : Leaf I w a x F) (e : Ext I w I' w') (hF : ∀ b ∈ F, w'.heap[b]? = w.heap[b]?) : Leaf I' w' a x F :=
  h.imp (fun h => ⟨h.1.mono e, h.2⟩) (fun h => h.mono e.S e.hold hF (by simp))

theorem VarC.mono {I I' : Interp} {w w' : World} {b o : Nat} {as : List AV} {F : List Nat} (h : VarC I w b o as F) (e : Ext I w I' w') (hF : ∀ b ∈ F, w'.heap[b]? = w.heap[b]?)
    (hb : w'.heap[b]? = w.heap[b]?) : VarC I' w' b o as F := by
  induction h with
  | nil => exact .nil
  | cons hc hr _ ih => exact .cons ((World.cell?_of_block (w := w) hb).trans hc) (hr.mono e (fun b h => hF b (List.mem_append_left _ h))) (ih (fun b h => hF b (List.mem_append_right _ h)))

theorem RowOK.mono {I I' : Interp} {w w' : World} {id : Nat} {r : Row} {F : List Nat} (h : RowOK I w id r F) (e : Ext I w I' w') (hF : ∀ b ∈ F, w'.heap[b]? = w.heap[b]?) : RowOK I' w' id r F := by
  cases h with
  | var hi ha hb hs hv =>
    have hbb := hF _ (List.mem_cons_self ..)
    have hv' := hv.mono e (fun b h => hF b (List.mem_cons_of_mem _ h)) hbb
    obtain ⟨t, ht⟩ := hb
    exact .var (Nat.lt_of_lt_of_le hi e.nx) ((e.at_ _ hi).trans ha) ⟨t, hbb.trans ht⟩ hs hv'
  | row0 hi ha h0 hz => exact .row0 (Nat.lt_of_lt_of_le hi e.nx) ((e.at_ _ hi).trans ha) ((e.ln _ hi).trans h0) ((e.sz _ hi).trans hz)
  | row hi ha hl hz hb hs hx hv =>
    have hbb := hF _ (List.mem_cons_self ..)
    have hv' := hv.mono e.S e.hold (fun b h => hF b (List.mem_cons_of_mem _ h)) (fun _ _ _ e => by cases e; exact hbb)
    obtain ⟨t, ht⟩ := hb
    exact .row (Nat.lt_of_lt_of_le hi e.nx) ((e.at_ _ hi).trans ha) ((e.ln _ hi).trans hl) ((e.sz _ hi).trans hz) ⟨t, hbb.trans ht⟩ hs hx hv'
  | foc hi ha hl hz hb hs hx hn ho hf hA o1 hc hr o2 =>
    have hbb := hF _ (List.mem_cons_self ..)
    have k1 := o1.mono e.S e.hold (fun b h => hF b (List.mem_cons_of_mem _ (List.mem_append_left _ h))) (fun _ _ _ e => by cases e; exact hbb)
    have k2 := o2.mono e.S e.hold (fun b h => hF b (List.mem_cons_of_mem _ (List.mem_append_right _ h))) (fun _ _ _ e => by cases e; exact hbb)
    obtain ⟨t, ht⟩ := hb
    exact .foc (Nat.lt_of_lt_of_le hi e.nx) ((e.at_ _ hi).trans ha) ((e.ln _ hi).trans hl) ((e.sz _ hi).trans hz) ⟨t, hbb.trans ht⟩ hs hx hn ho hf hA k1 ((World.cell?_of_block (w := w) hbb).trans hc) (hr.mono e) k2
  | lp hi ha h1 h2 hu hr =>
    exact .lp (Nat.lt_of_lt_of_le hi e.nx) ((e.at_ _ hi).trans ha) ((hF _ (by simp)).trans h1) ((hF _ (by simp)).trans h2) hu (fun d => (hr d).mono e)
  | mpr hi ha h1 h2 h3 => exact .mpr (Nat.lt_of_lt_of_le hi e.nx) ((e.at_ _ hi).trans ha) ((hF _ (by simp)).trans h1) h2 h3
  | chn hi ha h1 h2 => exact .chn (Nat.lt_of_lt_of_le hi e.nx) ((e.at_ _ hi).trans ha) ((hF _ (by simp)).trans h1) h2
  | itr hi ha h1 h2 h3 h4 h5 h6 h7 => exact .itr (Nat.lt_of_lt_of_le hi e.nx) ((e.at_ _ hi).trans ha) ((hF _ (by simp)).trans h1) ((hF _ (by simp)).trans h2) h3 h4 h5 h6 h7
  | tab hi hs h1 => exact .tab (Nat.lt_of_lt_of_le hi e.nx) (e.S _ hs) fun j v hj => (World.cell?_of_block (w := w) (e.hold _ hs)).trans (h1 j v hj)

theorem HeapOK.mono {I I' : Interp} {w w' : World} {hp : List (Nat × Row)} {T : List Nat} (h : HeapOK I w hp T) (e : Ext I w I' w') (hT : ∀ b ∈ T, w'.heap[b]? = w.heap[b]?) : HeapOK I' w' hp T := by
  induction h with
  | nil => exact .nil
  | cons h _ ih => exact .cons (h.mono e fun b hb => hT b (List.mem_append_left _ hb)) (ih fun b hb => hT b (List.mem_append_right _ hb))

theorem HeapOK.take {I : Interp} {w : World} {hp : List (Nat × Row)} {T : List Nat} (h : HeapOK I w hp T) {id : Nat} {r : Row} (hr : row id hp = some r) :
    ∃ F T', RowOK I w id r F ∧ HeapOK I w (rem id hp) T' ∧ T.Perm (F ++ T') := by
  induction h with
  | nil => simp [row] at hr
  | @cons id' r' hp F T h h' ih =>
    cases hb : Nat.beq id' id with
    | true =>
      obtain rfl := Nat.eq_of_beq_eq_true hb
      simp only [row, hb, cond_true, Option.some.injEq] at hr
      subst hr
      exact ⟨F, T, h, by simpa [rem, hb] using h', List.Perm.refl _⟩
    | false =>
      simp only [row, hb, cond_false] at hr
      obtain ⟨F2, T2, h1, h2, h3⟩ := ih hr
      refine ⟨F2, F ++ T2, h1, by simpa [rem, hb] using HeapOK.cons h h2, ?_⟩
      refine (List.Perm.append_left F h3).trans ?_
      rw [← List.append_assoc, ← List.append_assoc]
      exact List.Perm.append_right _ List.perm_append_comm

/-- When an abstract state stands for the machine's. B: where the call's own blocks begin; S0: the standing in which it began. -/
structure Rel (S0 : Interp) (B : Nat) (w0 : World) (I : Interp) (st : St) (a : Act) (w : World) : Prop where
  tm : ∀ d, Rep I w (.v (get d st.tm) (a.tmps.getD d undef))
  nt : a.tmps.size = st.nt
  nx : I.nx = st.nx
  hp : ∃ T, HeapOK I w st.hp T ∧ T.Nodup ∧ ∀ b ∈ T, B ≤ b ∧ ¬ I.S b ∧ b < w.heap.size
  ss : ∀ b, I.S b → b < w.heap.size
  ext : Ext S0 w0 I w
  sb : ∀ b, I.S b → S0.S b ∨ B ≤ b
  bl : Below B w0 w
  bs : B ≤ w.heap.size

/-- What a call has come to: it hands back r, which is its own but for what stays as it is; nothing that was there has turned. -/
def Fin (S0 : Nat → Prop) (B : Nat) (w0 : World) (r : AV) (e : Ending) (w' : World) : Prop :=
  ∃ v S F, e = .returned v ∧ Own S w' (.v r v) F ∧ F.Nodup ∧ (∀ b ∈ F, B ≤ b ∧ ¬ S b ∧ b < w'.heap.size) ∧ (∀ b, S b → b < w'.heap.size) ∧ (∀ b, S0 b → S b) ∧
    (∀ b, S b → S0 b ∨ B ≤ b) ∧ Below B w0 w'

/-- Called with such arguments, f hands back what is told by Q. -/
def Good (P : Program) (f : Nat) (args : List AV) (Q : AV → Prop) : Prop :=
  ∀ (S0 : Nat → Prop) (w : World) (vs : List Value), (∀ b, S0 b → b < w.heap.size) → Std S0 w (.l args vs) →
    Calls P f vs.toArray w fun e w' => ∃ r, Q r ∧ Fin S0 w.heap.size w r e w'

/-- What a frame comes to; lo: how many entries there were when it began. -/
structure Post where
  lo : Nat
  R : Interp → Nat → World → Ending → World → Prop
  ro : Option Nat := none
  ds : List Deferred := []

/-- It hands back what Q tells. -/
def Post.one (Q : AV → Prop) : Post := { lo := 0, R := fun S0 B w0 e w' => ∃ r, Q r ∧ Fin S0.S B w0 r e w' }

/-- A frame comes to an ending: a function's own one, or a round's. -/
def Goes (P : Program) (f : Nat) (ro : Option Nat) (fr0 : Frame) (cs : List Frame) (w : World) (e : Ending) (w' : World) : Prop :=
  match ro with
  | none => ∃ fr, Comes P (lone fr0 cs w) (lone fr cs w') e ∧ fr.fn = f ∧ fr.leaving P w' e
  | some _ => ∃ v, e = .returned v ∧ ∀ c cs', cs = c :: cs' → Steps P (lone fr0 cs w) (lone (c.finish v) cs' w')
theorem Goes.of_steps {P : Program} {f : Nat} {ro : Option Nat} {fr0 fr1 : Frame} {cs : List Frame} {w w1 w' : World} {e : Ending} (h : Steps P (lone fr0 cs w) (lone fr1 cs w1)) (g : Goes P f ro fr1 cs w1 e w') : Goes P f ro fr0 cs w e w' := by
  cases ro with
  | none => obtain ⟨fr, g1, g2, g3⟩ := g; exact ⟨fr, Comes.of_steps h g1, g2, g3⟩
  | some l => obtain ⟨v, g1, g2⟩ := g; exact ⟨v, g1, fun c cs' e => Steps.trans h (g2 c cs' e)⟩

/-- From such a state on, a frame of f comes to what Q tells. -/
def Run (P : Program) (f : Nat) (Q : Post) (todo : List Item) (st : St) : Prop :=
  ∀ S0 B w0 I a w, S0.nx = Q.lo → Rel S0 B w0 I st a w → a.defers = Q.ds → ∀ (b : Frame), b.fn = f → b.kind = .normal → b.roundOf = Q.ro → ∀ cs, ∃ e w',
    Q.R S0 B w0 e w' ∧ Goes P f Q.ro (b.atR a todo) cs w e w'

section
variable {P : Program} {f : Nat} {Q : Post} {k : List Item} {st st' : St}

/-- One step of the machine that a step of the abstract state follows. -/
theorem run_by {todo todo' : List Item} (h : Run P f Q todo' st')
    (hs : ∀ S0 B w0 I a w, Rel S0 B w0 I st a w → ∃ I' a' w', Rel S0 B w0 I' st' a' w' ∧ a'.defers = a.defers ∧ ∀ (b : Frame) (cs : List Frame), b.fn = f → Steps P (lone (b.atR a todo) cs w) (lone (b.atR a' todo') cs w')) :
    Run P f Q todo st := by
  intro S0 B w0 I a w hlo hr hds b hb hk hro cs
  obtain ⟨I', a', w', hr', hd', hst⟩ := hs S0 B w0 I a w hr
  obtain ⟨e, w2, h1, h2⟩ := h S0 B w0 I' a' w' hlo hr' (hd'.trans hds) b hb hk hro cs
  exact ⟨e, w2, h1, h2.of_steps (hst b cs hb)⟩

/-- What is plain control. -/
theorem run_move' {todo todo' : List Item} (h : Run P f Q todo' st) (hs : ∀ (b : Frame) (a : Act) (cs : List Frame) (w : World), step P (lone (b.atR a todo) cs w) = .next (lone (b.atR a todo') cs w)) : Run P f Q todo st :=
  run_by h fun _ _ _ I a w hr => ⟨I, a, w, hr, rfl, fun b cs _ => .one (hs b a cs w)⟩

theorem run_skip (h : Run P f Q k st) : Run P f Q (.code .skip :: k) st := run_move' h fun _ _ _ _ => stepR_skip
theorem run_label {l : Nat} (h : Run P f Q k st) : Run P f Q (.code (.label l) :: k) st := run_move' h fun _ _ _ _ => stepR_label
theorem run_inBlock {id : Nat} (h : Run P f Q k st) : Run P f Q (.inBlock id :: k) st := run_move' h fun _ _ _ _ => stepR_inBlock
theorem run_seq {x y : Code} (h : Run P f Q (.code x :: .code y :: k) st) : Run P f Q (.code (.seq x y) :: k) st := run_move' h fun _ _ _ _ => stepR_seq
theorem run_block {id : Nat} {c : Code} (h : Run P f Q (.code c :: .inBlock id :: k) st) : Run P f Q (.code (.block id c) :: k) st := run_move' h fun _ _ _ _ => stepR_block
theorem run_loop {c : Code} (h : Run P f Q (.code c :: .inLoop c :: k) st) : Run P f Q (.code (.loop c) :: k) st := run_move' h fun _ _ _ _ => stepR_loop
theorem run_inLoop {c : Code} (h : Run P f Q (.code c :: .inLoop c :: k) st) : Run P f Q (.inLoop c :: k) st := run_move' h fun _ _ _ _ => stepR_inLoop
theorem run_exit {id : Nat} {k' : List Item} (he : exitTo id k = some k') (h : Run P f Q k' st) : Run P f Q (.code (.exit id) :: k) st := run_move' h fun _ _ _ _ => stepR_exit he
theorem run_region {id : Nat} {ops : Array Oper} (h : Run P f Q (.inRegion ops (List.range ops.size) :: k) st) : Run P f Q (.code (.region id ops false) :: k) st := run_move' h fun _ _ _ _ => stepR_region
theorem run_end {ops : Array Oper} (h : Run P f Q k st) : Run P f Q (.inRegion ops [] :: k) st := run_move' h fun _ _ _ _ => stepR_region_end

theorem Std.lit_inv {S : Nat → Prop} {w : World} {x y : Value} (h : Std S w (.v (.lit x) y)) : y = x := by cases h; rfl
theorem Rep.lit_inv {I : Interp} {w : World} {x y : Value} (h : Rep I w (.v (.lit x) y)) : y = x := by cases h with | std h => exact h.lit_inv

theorem Rel.ev {S0 : Interp} {B : Nat} {w0 : World} {I : Interp} {a : Act} {w : World} (h : Rel S0 B w0 I st a w) (x : Operand) : Rep I w (.v (st.ev x) (a.eval x)) := by
  cases x with
  | tmp t => exact h.tm t
  | const v => exact .std (.lit v)
  | func g => exact .std (.fn (vs := []) .nil)
  | global g => exact .std (.any _)

theorem run_cond {c : Operand} {x y : Code} {t : Bool} (hc : st.ev c = .lit (.bool t)) (h : Run P f Q (.code (bif t then x else y) :: k) st) : Run P f Q (.code (.cond c x y) :: k) st := by
  refine run_by h fun _ _ _ I a w hr => ⟨I, a, w, hr, rfl, fun b cs _ => .one ?_⟩
  have := hr.ev c
  rw [hc] at this
  rw [stepR_cond this.lit_inv]
  cases t <;> rfl

theorem run_cond_split {c : Operand} {x y : Code} {t : Bool} (hc : st.ev c = .lit (.bool t)) (ht : t = true → Run P f Q (.code x :: k) st) (hf : t = false → Run P f Q (.code y :: k) st) : Run P f Q (.code (.cond c x y) :: k) st := by
  refine run_cond hc ?_
  cases t
  · exact hf rfl
  · exact ht rfl

theorem get_cons (d j : Nat) (v : AV) (r : List (Nat × AV)) : get d ((j, v) :: r) = if j = d then v else get d r := by
  show (bif Nat.beq j d then v else get d r) = _
  cases h : Nat.beq j d with
  | true => simp [Nat.eq_of_beq_eq_true h]
  | false => simp [Nat.ne_of_beq_eq_false h]

theorem Rel.put {S0 : Interp} {B : Nat} {w0 : World} {I : Interp} {a : Act} {w : World} (h : Rel S0 B w0 I st a w) {d : Nat} (hd : Nat.blt d st.nt = true) {v : AV} {x : Value} (hv : Rep I w (.v v x)) :
    Rel S0 B w0 I (st.set d v) (a.put (some d) x) w := by
  have hd' : d < a.tmps.size := by rw [h.nt]; simpa using hd
  refine { h with tm := fun j => ?_, nt := by simpa [Act.put, St.set] using h.nt }
  show Rep I w (.v (get j ((d, v) :: st.tm)) ((a.tmps.setIfInBounds d x).getD j undef))
  rw [get_cons]
  by_cases e : d = j
  · subst e; simp [hd', hv]
  · rw [if_neg e]
    have h1 := h.tm j
    have h2 : (a.tmps.setIfInBounds d x).getD j undef = a.tmps.getD j undef := by simp [Array.getD_eq_getD_getElem?, e]
    rw [h2]; exact h1
end

end Go.Ax

/- Operations, one by one: what each makes of an abstract state; a step of a region by each. -/
namespace Go.Ax
open Go.RowKit
set_option linter.unusedVariables false
set_option linter.unusedSimpArgs false

/-- What is known of a type: its description (of a struct: where its fields begin, and their types), its cells, its bytes, its zero. -/
inductive TD where
  | td (d : TypeDesc)
  | agg (fs : List (Nat × Nat))

structure TyI where
  td : TD
  size : Nat
  bytes : Nat
  zero : List Value

def plainD : TypeDesc → Bool
  | .struct _ | .array _ _ => false
  | _ => true

def TD.holds (P : Program) (t : Nat) : TD → Prop
  | .td d => P.underlying t = some d ∧ plainD d = true
  | .agg fs => ∃ fields : Array Field, P.underlying t = some (.struct fields) ∧ fields.toList.map (fun f => (f.offset, f.type)) = fs

def TyOK (P : Program) (t : Nat) (i : TyI) : Prop :=
  i.td.holds P t ∧ i.zero.length = i.size ∧ ∃ info, P.info? t = some info ∧ info.size = i.size ∧ info.bytes = i.bytes ∧ ∃ z, info.zero = some z ∧ z.cells = i.zero.toArray

/-- All that is said of types. -/
class Types (P : Program) where
  ty : Nat → Option TyI
  ok : ∀ t i, ty t = some i → TyOK P t i

/-- Operations that leave all blocks that are there as they are. -/
def kp : Op → Bool
  | .store .. | .entryStore .. | .mapUpdate .. | .insert .. | .mapEntry .. => false
  | .call c => match c.callee with
    | .builtin .len | .builtin .cap | .builtin .min | .builtin .max => true
    | .value (.func _) => true
    | _ => false
  | _ => true

def Same (w w' : World) : Prop := ∀ b, b < w.heap.size → w'.heap[b]? = w.heap[b]?

theorem Same.refl (w : World) : Same w w := fun _ _ => rfl

/-- An operation hands on v. -/
def OpOK (P : Program) (st : St) (o : Oper) (v : AV) (st' : St) : Prop :=
  st'.nt = st.nt ∧ ∀ S0 B w0 I a w, Rel S0 B w0 I st a w → ∃ x w' I', (execOp a.eval o).run P w = .ok (.value x) w' ∧ Rel S0 B w0 I' st' a w' ∧ Rep I' w' (.v v x) ∧ (kp o.op = true → Same w w')

/-- Operations that look at no memory. -/
def memFree : Op → Bool
  | .load .. | .lookup .. => false
  | _ => true

/-- What an operation reads, whatever comes between. -/
def Reads (P : Program) (st : St) (o : Oper) (v : AV) : Prop :=
  ∀ S0 B w0 I a w, Rel S0 B w0 I st a w → ∃ x, (∀ w', (memFree o.op = true ∨ Same w w') → (execOp a.eval o).run P w' = .ok (.value x) w') ∧ Rep I w (.v v x)

theorem Same.size {a b : World} (h : Same a b) : a.heap.size ≤ b.heap.size := by
  rcases Nat.lt_or_ge b.heap.size a.heap.size with hlt | hge
  · have := h b.heap.size hlt
    rw [Array.getElem?_eq_none (Nat.le_refl _)] at this
    rw [Array.getElem?_eq_getElem hlt] at this
    cases this
  · exact hge

theorem Same.cell {w w' : World} (h : Same w w') {b o : Nat} {v : Value} (hc : w.cell? ⟨b, o, none⟩ = some v) : w'.cell? ⟨b, o, none⟩ = some v := by
  have hb : b < w.heap.size := by
    rcases Nat.lt_or_ge b w.heap.size with h1 | h1
    · exact h1
    · simp [World.cell?, Array.getElem?_eq_none h1] at hc
  rw [← hc]
  exact World.cell?_of_block (w := w) (h b hb)

theorem Reads.ok {P : Program} {st : St} {o : Oper} {v : AV} (h : Reads P st o v) : OpOK P st o v st := ⟨rfl, fun S0 B w0 I a w hr =>
  let ⟨x, h1, h2⟩ := h S0 B w0 I a w hr
  ⟨x, w, I, h1 w (.inr (Same.refl w)), hr, h2, fun _ => Same.refl w⟩⟩

/-- An operation that hands on nothing. -/
def OpDo (P : Program) (st : St) (o : Oper) (st' : St) : Prop :=
  ∀ S0 B w0 I a w, Rel S0 B w0 I st a w → ∃ w' I', (execOp a.eval o).run P w = .ok .skip w' ∧ Rel S0 B w0 I' st' a w'

/-- An operation is wanted. -/
def Want (A : Array Oper) (st : St) (g : Option (Nat × Bool)) : Prop :=
  match g with
  | none => True
  | some (j, want) => ∃ d, (A[j]?).bind (·.dst) = some d ∧ Nat.blt d st.nt = true ∧ get d st.tm = .lit (.bool want)

section
variable {P : Program} {f : Nat} {Q : Post} {k : List Item} {st st' : St} {A : Array Oper} {i : Nat} {rest : List Nat}

theorem want_none : Want A st none := trivial
theorem Rel.yield {S0 : Interp} {B : Nat} {w0 : World} {I : Interp} {a : Act} {w : World} (h : Rel S0 B w0 I st a w) {j d : Nat} {b : Bool} (hj : (A[j]?).bind (·.dst) = some d) (hd : Nat.blt d st.nt = true)
    (hv : get d st.tm = .lit (.bool b)) : yielded A a.tmps j = some b := by
  have hd' : d < a.tmps.size := by rw [h.nt]; simpa using hd
  have := h.tm d
  rw [hv] at this
  have h2 := this.lit_inv
  simp only [yielded, hj, Option.bind_some]
  have h3 : a.tmps[d]? = some (.bool b) := by
    rw [Array.getElem?_eq_getElem hd']
    rw [Array.getD_eq_getD_getElem?, Array.getElem?_eq_getElem hd', Option.getD_some] at h2
    exact congrArg some h2
  rw [h3]

theorem Rel.wanted {S0 : Interp} {B : Nat} {w0 : World} {I : Interp} {a : Act} {w : World} (h : Rel S0 B w0 I st a w) {o : Oper} (hw : Want A st o.guard) : Region.wanted o (yielded A a.tmps) = true := by
  unfold Want at hw
  unfold Region.wanted
  cases hg : o.guard with
  | none => rfl
  | some g =>
    obtain ⟨j, b⟩ := g
    rw [hg] at hw
    obtain ⟨d, h1, h2, h3⟩ := hw
    simp only [h.yield h1 h2 h3]
    simp

theorem put_defers (a : Act) (d : Option Nat) (v : Value) : (a.put d v).defers = a.defers := by cases d <;> rfl
/-- What does not put off a call is in a round what it is elsewhere. -/
theorem semAt_of {ro : Option Nat} {ρ : Operand → Value} {o : Oper} {w w' : World} {x : Next} (h : (execOp ρ o).run P w = .ok x w') (hx : ∀ d, x ≠ .defer d) : Oper.semAt ro ρ o = execOp ρ o := by
  refine Oper.semAt_eq ro ρ o fun c hc => ?_
  have : execOp ρ o = (do let d ← resolve ρ c o.type; pure (.defer d)) := by unfold execOp; rw [hc]
  rw [this, Sem.run_bind] at h
  cases hr : (resolve ρ c o.type).run P w with
  | ok d w1 => rw [hr] at h; simp only [Result.andThen_ok, Sem.run_pure] at h; cases h; exact hx d rfl
  | halt s w1 => rw [hr] at h; cases h

theorem step_op_value {b : Frame} {a : Act} {cs : List Frame} {w w' : World} {o : Oper} {v : Value} (ho : A[i]? = some o) (hw : Region.wanted o (yielded A a.tmps) = true) (hr : (execOp a.eval o).run P w = .ok (.value v) w') :
    step P (lone (b.atR a (.inRegion A (i :: rest) :: k)) cs w) = .next (lone (b.atR (a.put o.dst v) (.inRegion A rest :: k)) cs w') := by
  have hg := stepGR_op (P := P) (b := b) (k := k) (cs := cs) (w := w) (rest := rest) ho hw
  rw [semAt_of hr (by intro d h; cases h)] at hg
  have hfin : (b.atR a (.inRegion A (i :: rest) :: k)).finish v = b.atR (a.put o.dst v) (.inRegion A rest :: k) := by rw [Frame.finish_atR, ho]; rfl
  refine step_lone_go ?_
  rw [hg, ← hfin]; simp [stepG.apply, hr]

theorem step_op_do {b : Frame} {a : Act} {cs : List Frame} {w w' : World} {o : Oper} (ho : A[i]? = some o) (hw : Region.wanted o (yielded A a.tmps) = true) (hr : (execOp a.eval o).run P w = .ok .skip w') :
    step P (lone (b.atR a (.inRegion A (i :: rest) :: k)) cs w) = .next (lone (b.atR (a.put o.dst undef) (.inRegion A rest :: k)) cs w') := by
  have hg := stepGR_op (P := P) (b := b) (k := k) (cs := cs) (w := w) (rest := rest) ho hw
  rw [semAt_of hr (by intro d h; cases h)] at hg
  have hfin : (b.atR a (.inRegion A (i :: rest) :: k)).finish undef = b.atR (a.put o.dst undef) (.inRegion A rest :: k) := by rw [Frame.finish_atR, ho]; rfl
  refine step_lone_go ?_
  rw [hg, ← hfin]; simp [stepG.apply, hr]

theorem run_op {d : Nat} {op : Op} {t : Nat} {pos : String} {af : Array Edge} {g : Option (Nat × Bool)} {v : AV} (ho : A[i]? = some ⟨some d, op, t, pos, af, g⟩) (hw : Want A st g) (hd : Nat.blt d st.nt = true)
    (hop : OpOK P st ⟨some d, op, t, pos, af, g⟩ v st') (h : Run P f Q (.inRegion A rest :: k) (st'.set d v)) : Run P f Q (.inRegion A (i :: rest) :: k) st := by
  refine run_by h fun S0 B w0 I a w hr => ?_
  obtain ⟨hn, hop⟩ := hop
  obtain ⟨x, w', I', h1, h2, h3, _⟩ := hop S0 B w0 I a w hr
  exact ⟨I', a.put (some d) x, w', h2.put (by rw [hn]; exact hd) h3, rfl, fun b cs _ => .one (step_op_value ho (hr.wanted hw) h1)⟩

theorem run_do {op : Op} {t : Nat} {pos : String} {af : Array Edge} {g : Option (Nat × Bool)} (ho : A[i]? = some ⟨none, op, t, pos, af, g⟩) (hw : Want A st g)
    (hop : OpDo P st ⟨none, op, t, pos, af, g⟩ st') (h : Run P f Q (.inRegion A rest :: k) st') : Run P f Q (.inRegion A (i :: rest) :: k) st := by
  refine run_by h fun S0 B w0 I a w hr => ?_
  obtain ⟨w', I', h1, h2⟩ := hop S0 B w0 I a w hr
  exact ⟨I', a, w', h2, rfl, fun b cs _ => .one (step_op_do ho (hr.wanted hw) h1)⟩

/-- A guard's value is that which is wanted. -/
def asks (v : Value) (want : Bool) : Bool := match v with | .bool b => b == want | _ => false

theorem Rel.yieldL {S0 : Interp} {B : Nat} {w0 : World} {I : Interp} {a : Act} {w : World} (h : Rel S0 B w0 I st a w) {j d : Nat} {v : Value} (hj : (A[j]?).bind (·.dst) = some d) (hd : Nat.blt d st.nt = true)
    (hv : get d st.tm = .lit v) {o : Oper} {want : Bool} (hg : o.guard = some (j, want)) (hb : asks v want = false) : Region.wanted o (yielded A a.tmps) = false := by
  have hd' : d < a.tmps.size := by rw [h.nt]; simpa using hd
  have := h.tm d
  rw [hv] at this
  have h2 := this.lit_inv
  have h3 : a.tmps[d]? = some v := by
    rw [Array.getElem?_eq_getElem hd']
    rw [Array.getD_eq_getD_getElem?, Array.getElem?_eq_getElem hd', Option.getD_some] at h2
    exact congrArg some h2
  unfold Region.wanted
  simp only [hg, yielded, hj, Option.bind_some, h3]
  cases v <;> simp_all [asks]

/-- An operation that is not wanted. -/
theorem run_skipped {o : Oper} {j d : Nat} {want : Bool} {v : Value} (ho : A[i]? = some o) (hg : o.guard = some (j, want)) (hj : (A[j]?).bind (·.dst) = some d) (hd : Nat.blt d st.nt = true)
    (hv : get d st.tm = .lit v) (hb : asks v want = false) (hdst : ∀ d, o.dst = some d → Nat.blt d st.nt = true) (h : Run P f Q (.inRegion A rest :: k) (match o.dst with | some d => st.set d (.lit undef) | none => st)) :
    Run P f Q (.inRegion A (i :: rest) :: k) st := by
  refine run_by h fun S0 B w0 I a w hr => ?_
  refine ⟨I, a.put o.dst undef, w, ?_, put_defers _ _ _, fun bf cs _ => .one ?_⟩
  · cases hdd : o.dst with
    | none => exact hr
    | some d => exact hr.put (hdst d hdd) (.std (.lit _))
  · have hs := stepR_op_skip (P := P) (b := bf) (a := a) (k := k) (cs := cs) (w := w) (ops := A) (i := i) (rest := rest) (by
      simp only [ho, Option.map_some, Option.getD_some]
      exact hr.yieldL hj hd hv hg hb)
    simpa only [ho, Option.bind_some] using hs

/-- A guard that is not known: both ways. -/
theorem run_guard_split {d : Nat} {b : Bool} (hd : Nat.blt d st.nt = true) (hv : get d st.tm = .lit (.bool b)) {todo : List Item} (ht : b = true → Run P f Q todo (st.set d (.lit (.bool true))))
    (hf : b = false → Run P f Q todo (st.set d (.lit (.bool false)))) : Run P f Q todo st := by
  intro S0 B w0 I a w hlo hr
  have hx := hr.tm d
  have hx2 := hx
  rw [hv] at hx2
  have hx3 := hx2.lit_inv
  have key : Rel S0 B w0 I (st.set d (.lit (.bool b))) a w := by
    refine { hr with tm := fun j => ?_ }
    show Rep I w (.v (get j ((d, _) :: st.tm)) _)
    rw [get_cons]
    by_cases e : d = j
    · subst e; rw [if_pos rfl, hx3]; exact .std (.lit _)
    · rw [if_neg e]; exact hr.tm j
  cases b
  · exact hf rfl S0 B w0 I a w hlo key
  · exact ht rfl S0 B w0 I a w hlo key

theorem rd_move {o : Oper} {x : Operand} {v : AV} (h : o.op = .move x) (hx : st.ev x = v) : Reads P st o v :=
  hx ▸ fun S0 B w0 I a w hr => ⟨a.eval x, fun w' _ => by simp [execOp, h, Sem.run, pure], hr.ev x⟩
theorem rd_assign {o : Oper} {x : Operand} {v : AV} (h : o.op = .assign x) (hx : st.ev x = v) : Reads P st o v :=
  hx ▸ fun S0 B w0 I a w hr => ⟨a.eval x, fun w' _ => by simp [execOp, h, Sem.run, pure], hr.ev x⟩

theorem rd_pick {o : Oper} {c x y : Operand} {b : Bool} {v : AV} (h : o.op = .pick c x y) (hc : st.ev c = .lit (.bool b)) (hv : (bif b then st.ev x else st.ev y) = v) : Reads P st o v := by
  subst hv
  intro S0 B w0 I a w hr
  refine ⟨if b then a.eval x else a.eval y, fun w' _ => ?_, ?_⟩
  · have := hr.ev c
    rw [hc] at this
    simp [execOp, h, this.lit_inv, asBool, Sem.run, pure, bind, Sem.bind]
  · cases b
    · exact hr.ev y
    · exact hr.ev x

/-- What an operation on numbers, truths and texts alone comes to. -/
theorem rd_pure {o : Oper} {v : Value} (h : ∀ S0 B w0 I a w0', Rel S0 B w0 I st a w0' → ∀ w, (execOp a.eval o).run P w = .ok (.value v) w) : Reads P st o (.lit v) :=
  fun S0 B w0 I a w hr => ⟨v, fun w' _ => h _ _ _ _ _ _ hr w', .std (.lit _)⟩

/-- Operators of two numbers. -/
def bin2 : BinOp → IntKind → Int → Int → Option Value
  | .add, k, x, y => some (.int k (k.wrap (x + y)))
  | .sub, k, x, y => some (.int k (k.wrap (x - y)))
  | .mul, k, x, y => some (.int k (k.wrap (x * y)))
  | .eql, _, x, y => some (.bool (x == y))
  | .neq, _, x, y => some (.bool (x != y))
  | .lss, _, x, y => some (.bool (decide (x < y)))
  | .leq, _, x, y => some (.bool (decide (x ≤ y)))
  | .gtr, _, x, y => some (.bool (decide (x > y)))
  | .geq, _, x, y => some (.bool (decide (x ≥ y)))
  | .and, k, x, y => some (.int k (k.wrap (BitVec.ofInt k.bits x &&& BitVec.ofInt k.bits y).toNat))
  | _, _, _, _ => none

theorem rd_bin {o : Oper} {op : BinOp} {t t2 : Nat} {x y : Operand} {k : IntKind} {m n : Int} {v : Value} (h : o.op = .binOp op t x y t2) (hx : st.ev x = .lit (.int k m)) (hy : st.ev y = .lit (.int k n)) (hv : bin2 op k m n = some v) :
    Reads P st o (.lit v) := by
  refine rd_pure fun S0 B w0 I a w1 hr w => ?_
  have h1 := hr.ev x
  have h2 := hr.ev y
  rw [hx] at h1; rw [hy] at h2
  have e1 := h1.lit_inv
  have e2 := h2.lit_inv
  cases op <;> simp only [bin2, Option.some.injEq, reduceCtorEq] at hv <;> subst hv <;>
    simp [execOp, h, e1, e2, eqGuard, binOp, Op.intArith, Op.intCmp, Op.intBits, Sem.run, pure, bind, Sem.bind]

theorem rd_eq_bool {o : Oper} {t t2 : Nat} {x y : Operand} {m n : Bool} (h : o.op = .binOp .eql t x y t2) (ht : P.underlying t = some .bool) (hx : st.ev x = .lit (.bool m)) (hy : st.ev y = .lit (.bool n)) :
    Reads P st o (.lit (.bool (m == n))) := by
  refine rd_pure fun S0 B w0 I a w1 hr w => ?_
  have h1 := hr.ev x
  have h2 := hr.ev y
  rw [hx] at h1; rw [hy] at h2
  simp only [execOp, h]
  rw [h1.lit_inv, h2.lit_inv]
  simp only [Sem.run_bind]
  simp only [eqGuard, bne, binOp]
  simp [run_equal_bool w t m n ht]

theorem rd_ne_bool {o : Oper} {t t2 : Nat} {x y : Operand} {m n : Bool} (h : o.op = .binOp .neq t x y t2) (ht : P.underlying t = some .bool) (hx : st.ev x = .lit (.bool m)) (hy : st.ev y = .lit (.bool n)) :
    Reads P st o (.lit (.bool (m != n))) := by
  refine rd_pure fun S0 B w0 I a w1 hr w => ?_
  have h1 := hr.ev x
  have h2 := hr.ev y
  rw [hx] at h1; rw [hy] at h2
  simp only [execOp, h]
  rw [h1.lit_inv, h2.lit_inv]
  simp only [Sem.run_bind]
  simp only [eqGuard, bne, binOp]
  simp [run_equal_bool w t m n ht]

theorem rd_not {o : Oper} {t : Nat} {x : Operand} {b : Bool} (h : o.op = .unOp .not t x) (hx : st.ev x = .lit (.bool b)) : Reads P st o (.lit (.bool !b)) := by
  refine rd_pure fun S0 B w0 I a w1 hr w => ?_
  have h1 := hr.ev x
  rw [hx] at h1
  simp [execOp, h, h1.lit_inv, Op.unary, Sem.run, pure, bind, Sem.bind]

theorem rd_neg {o : Oper} {t : Nat} {x : Operand} {k : IntKind} {n : Int} (h : o.op = .unOp .neg t x) (hx : st.ev x = .lit (.int k n)) : Reads P st o (.lit (.int k (k.wrap (0 - n)))) := by
  refine rd_pure fun S0 B w0 I a w1 hr w => ?_
  have h1 := hr.ev x
  rw [hx] at h1
  simp [execOp, h, h1.lit_inv, Op.unary, Op.intArith, Sem.run, pure, bind, Sem.bind]
end
end Go.Ax

/- Reads of memory, and new variables. -/
namespace Go.Ax
open Go.RowKit
set_option linter.unusedVariables false
set_option linter.unusedSimpArgs false

section types
variable {P : Program} {w : World} {t : Nat} {i : TyI}

theorem run_under {d : TypeDesc} (h : P.underlying t = some d) : (underlying t).run P w = .ok d w := by
  simp only [underlying, Sem.run_bind, run_program, Result.andThen_ok, h, Sem.run_pure]

theorem run_size (h : TyOK P t i) : (sizeOf t).run P w = .ok i.size w := by
  obtain ⟨_, _, info, h1, h2, _⟩ := h
  simp only [sizeOf, typeInfo, Sem.run_bind, run_program, Result.andThen_ok, h1, Sem.run_pure, h2]

theorem run_zero (h : TyOK P t i) : ∃ z : Value, (zeroValue t).run P w = .ok z w ∧ z.cells = i.zero.toArray := by
  obtain ⟨_, _, info, h1, _, _, z, h3, h4⟩ := h
  exact ⟨z, by simp only [zeroValue, typeInfo, Sem.run_bind, run_program, Result.andThen_ok, h1, Sem.run_pure, h3], h4⟩

theorem run_bytes (h : TyOK P t i) : ∃ info : TypeInfo, (typeInfo t).run P w = .ok info w ∧ info.bytes = i.bytes := by
  obtain ⟨_, _, info, h1, _, h2, _⟩ := h
  exact ⟨info, by simp only [typeInfo, Sem.run_bind, run_program, Result.andThen_ok, h1, Sem.run_pure], h2⟩

def TyI.isAgg (i : TyI) : Bool := match i.td with | .agg _ => true | .td _ => false

theorem run_isAgg (h : TyOK P t i) : (isAgg t).run P w = .ok i.isAgg w := by
  obtain ⟨h, _⟩ := h
  unfold TyI.isAgg
  cases hd : i.td with
  | td d =>
    rw [hd] at h
    obtain ⟨h1, h2⟩ := h
    simp only [isAgg, Sem.run_bind, run_under h1, Result.andThen_ok]
    cases d <;> simp_all [plainD]
  | agg fs =>
    rw [hd] at h
    obtain ⟨fields, h1, _⟩ := h
    simp only [isAgg, Sem.run_bind, run_under h1, Result.andThen_ok, Sem.run_pure]
end types

theorem addr_add (b o n : Nat) : (⟨b, o, none⟩ : Addr).add n = ⟨b, o + n, none⟩ := by
  unfold Addr.add; split
  · subst_vars; rfl
  · rfl

/-- The cells from an address on hold these values. -/
def CellsAt (w : World) (b o : Nat) (vs : List Value) : Prop := ∀ j v, vs[j]? = some v → w.cell? ⟨b, o + j, none⟩ = some v

theorem CellsAt.nil {w : World} {b o : Nat} : CellsAt w b o [] := by intro j v h; simp at h
theorem CellsAt.cons {w : World} {b o : Nat} {v : Value} {vs : List Value} (h : w.cell? ⟨b, o, none⟩ = some v) (h2 : CellsAt w b (o + 1) vs) : CellsAt w b o (v :: vs) := by
  intro j u hj
  cases j with
  | zero => simp at hj; subst hj; exact h
  | succ j =>
    have := h2 j u (by simpa using hj)
    rw [show o + (j + 1) = o + 1 + j from by omega]; exact this

theorem CellsAt.same {w w' : World} {b o : Nat} {vs : List Value} (h : CellsAt w b o vs) (hw : Same w w') : CellsAt w' b o vs := fun j v hj => hw.cell (h j v hj)

theorem run_cellsFrom {P : Program} {w : World} {b o : Nat} : ∀ (vs : List Value) (i : Nat) (acc : Array Value), CellsAt w b (o + i) vs → (loadCellsFrom ⟨b, o, none⟩ i vs.length acc).run P w = .ok (acc ++ vs.toArray) w
  | [], i, acc, _ => by simp [loadCellsFrom]
  | v :: vs, i, acc, h => by
    have h0 : w.cell? ⟨b, o + i, none⟩ = some v := h 0 v (by simp)
    have h1 : CellsAt w b (o + (i + 1)) vs := by
      intro j u hj
      have := h (j + 1) u (by simpa using hj)
      rw [show o + i + (j + 1) = o + (i + 1) + j from by omega] at this
      exact this
    have ih := run_cellsFrom (P := P) vs (i + 1) (acc.push v) h1
    simp only [List.length_cons, loadCellsFrom, Sem.run_bind, addr_add, run_load, h0, Result.andThen_ok, ih]
    simp

theorem run_cells {P : Program} {w : World} {b o : Nat} (vs : List Value) (h : CellsAt w b o vs) : (loadCells ⟨b, o, none⟩ vs.length).run P w = .ok vs.toArray w := by
  have := run_cellsFrom (P := P) vs 0 #[] h
  simpa [loadCells] using this

/-- What stays: its cells. -/
theorem Std.cells {S : Nat → Prop} {w : World} {b o : Nat} {as : List AV} (h : Std S w (.c b o as)) : ∃ vs, Std S w (.l as vs) ∧ CellsAt w b o vs ∧ vs.length = as.length := by
  induction as generalizing o with
  | nil => exact ⟨[], .nil, .nil, rfl⟩
  | cons a as ih =>
    cases h with
    | ccons hc ha hr =>
      obtain ⟨vs, h1, h2, h3⟩ := ih hr
      exact ⟨_ :: vs, .cons ha h1, .cons hc h2, by simp [h3]⟩

theorem Std.drop {S : Nat → Prop} {w : World} {b o : Nat} {as : List AV} (h : Std S w (.c b o as)) (n : Nat) : Std S w (.c b (o + n) (as.drop n)) := by
  induction n generalizing o as with
  | zero => simpa using h
  | succ n ih =>
    cases as with
    | nil => simpa using (Std.cnil (S := S) (w := w) (b := b) (o := o + (n + 1)))
    | cons a as =>
      cases h with
      | ccons hc ha hr =>
        have := ih hr
        rw [show o + 1 + n = o + (n + 1) from by omega] at this
        simpa using this

theorem Std.take {S : Nat → Prop} {w : World} {b o : Nat} {as : List AV} (h : Std S w (.c b o as)) (n : Nat) : Std S w (.c b o (as.take n)) := by
  induction n generalizing o as with
  | zero => simpa using (Std.cnil (S := S) (w := w) (b := b) (o := o))
  | succ n ih =>
    cases as with
    | nil => simpa using h
    | cons a as =>
      cases h with
      | ccons hc ha hr => simpa using Std.ccons hc ha (ih hr)

theorem Std.app {S : Nat → Prop} {w : World} {b o : Nat} {as bs : List AV} (h : Std S w (.c b o as)) (h2 : Std S w (.c b (o + as.length) bs)) : Std S w (.c b o (as ++ bs)) := by
  induction as generalizing o with
  | nil => simpa using h2
  | cons a as ih =>
    cases h with
    | ccons hc ha hr => exact .ccons hc ha (ih hr (by rw [show o + 1 + as.length = o + (a :: as).length from by simp; omega]; exact h2))

/-- Element i of a row whose elements have sz cells each. -/
theorem flatten_at {xs : List (List AV)} {sz : Nat} (hx : ∀ x ∈ xs, x.length = sz) {i : Nat} {cs : List AV} (h : xs[i]? = some cs) : xs.flatten.drop (i * sz) = cs ++ (xs.drop (i + 1)).flatten := by
  induction xs generalizing i with
  | nil => simp at h
  | cons x xs ih =>
    have hl := hx x (List.mem_cons_self ..)
    cases i with
    | zero => simp at h; subst h; simp
    | succ i =>
      have := ih (fun y hy => hx y (List.mem_cons_of_mem _ hy)) (by simpa using h)
      rw [List.flatten_cons, show (i + 1) * sz = x.length + i * sz from by rw [hl, Nat.add_mul]; omega, List.drop_append, List.drop_eq_nil_of_le (by omega), List.nil_append, Nat.add_sub_cancel_left]
      simpa using this

section
variable {P : Program} {f : Nat} {Q : Post} {k : List Item} {st st' : St} {A : Array Oper}

theorem Rep.pt_inv {I : Interp} {w : World} {cs : List AV} {x : Value} (h : Rep I w (.v (.pt cs) x)) : ∃ b o, x = .pointer (some ⟨b, o, none⟩) ∧ I.S b ∧ Std I.S w (.c b o cs) := by
  cases h with | std h => cases h with | pt hb hc => exact ⟨_, _, rfl, hb, hc⟩

theorem Std.l_rep {I : Interp} {w : World} {as : List AV} {xs : List Value} (h : Std I.S w (.l as xs)) : Rep I w (.l as xs) := by
  induction as generalizing xs with
  | nil => cases h; exact .nil
  | cons a as ih => cases h with | cons h1 h2 => exact .cons (.std h1) (ih h2)

/-- A leaf is read of what stays. -/
theorem rd_load_pt {o : Oper} {t : Nat} {x : Operand} {i : TyI} {v : AV} {cs : List AV} (h : o.op = .load t x) (ht : TyOK P t i) (ha : i.isAgg = false) (hx : st.ev x = .pt (v :: cs)) : Reads P st o v := by
  intro S0 B w0 I a w hr
  have h1 := hr.ev x
  rw [hx] at h1
  obtain ⟨b, of, e, hb, hc⟩ := h1.pt_inv
  cases hc with
  | ccons hc hv hrest =>
    refine ⟨_, fun w' hw0 => ?_, .std hv⟩
    have hw : Same _ w' := hw0.resolve_left (by rw [h]; simp [memFree])
    simp only [execOp, h, e, Instr.loadAt, Instr.sureAddr, loadVar, Sem.run_bind, Sem.run_pure, Result.andThen_ok, run_isAgg ht, ha, if_false, Bool.false_eq_true, run_load, hw.cell hc]

/-- A struct is read of what stays. -/
theorem rd_loads_pt {o : Oper} {t : Nat} {x : Operand} {i : TyI} {cs : List AV} (h : o.op = .load t x) (ht : TyOK P t i) (ha : i.isAgg = true) (hx : st.ev x = .pt cs) (hn : Nat.ble i.size cs.length = true) : Reads P st o (.agg (cs.take i.size)) := by
  intro S0 B w0 I a w hr
  have h1 := hr.ev x
  rw [hx] at h1
  obtain ⟨b, of, e, hb, hc⟩ := h1.pt_inv
  obtain ⟨vs, h2, h3, h4⟩ := (hc.take i.size).cells
  have h5 : vs.length = i.size := by rw [h4, List.length_take]; have := Nat.le_of_ble_eq_true hn; omega
  refine ⟨.agg vs.toArray, fun w' hw0 => ?_, .std (.agg h2)⟩
  have hw : Same _ w' := hw0.resolve_left (by rw [h]; simp [memFree])
  have := run_cells (P := P) vs (h3.same hw)
  rw [h5] at this
  simp only [execOp, h, e, Instr.loadAt, Instr.sureAddr, loadVar, Sem.run_bind, Sem.run_pure, Result.andThen_ok, run_isAgg ht, ha, if_true, run_size ht, this]

theorem run_fieldPlace {w : World} {b o t : Nat} {fd : Field} {i : TyI} (ht : TyOK P fd.type i) (hs : i.size ≠ 0) : (fieldPlace ⟨b, o, none⟩ fd).run P w = .ok ⟨b, o + fd.offset, none⟩ w := by
  simp only [fieldPlace, Sem.run_bind, run_size ht, Result.andThen_ok, hs, if_false, Sem.run_pure, addr_add]

theorem TyOK.field {t : Nat} {i : TyI} {fs : List (Nat × Nat)} (h : TyOK P t i) (hd : i.td = .agg fs) {j off ft : Nat} (hj : fs[j]? = some (off, ft)) :
    ∃ fields : Array Field, P.underlying t = some (.struct fields) ∧ ∃ fd, fields[j]? = some fd ∧ fd.offset = off ∧ fd.type = ft := by
  obtain ⟨h, _⟩ := h
  rw [hd] at h
  obtain ⟨fields, h1, h2⟩ := h
  refine ⟨fields, h1, ?_⟩
  rw [← h2, List.getElem?_map] at hj
  cases hf : fields.toList[j]? with
  | none => simp [hf] at hj
  | some fd =>
    rw [hf] at hj
    simp at hj
    exact ⟨fd, by simpa using hf, hj.1, hj.2⟩

theorem rd_field_pt {o : Oper} {t j off ft : Nat} {x : Operand} {i ift : TyI} {fs : List (Nat × Nat)} {cs : List AV} (h : o.op = .fieldAddr t x j) (ht : TyOK P t i) (hd : i.td = .agg fs) (hj : fs[j]? = some (off, ft))
    (hft : TyOK P ft ift) (hs : Nat.beq ift.size 0 = false) (hx : st.ev x = .pt cs) : Reads P st o (.pt (cs.drop off)) := by
  intro S0 B w0 I a w hr
  have h1 := hr.ev x
  rw [hx] at h1
  obtain ⟨b, of, e, hb, hc⟩ := h1.pt_inv
  obtain ⟨fields, h2, fd, h3, rfl, rfl⟩ := ht.field hd hj
  refine ⟨_, fun w' hw => ?_, .std (.pt hb (hc.drop _))⟩
  simp only [execOp, h, e, Instr.fieldAt, Instr.sureAddr, Sem.run_bind, run_under h2, Result.andThen_ok, h3, Sem.run_pure, run_fieldPlace (t := t) hft (Nat.ne_of_beq_eq_false hs)]

theorem rd_field_hp {o : Oper} {t j off ft id of : Nat} {x : Operand} {i ift : TyI} {fs : List (Nat × Nat)} (h : o.op = .fieldAddr t x j) (ht : TyOK P t i) (hd : i.td = .agg fs) (hj : fs[j]? = some (off, ft))
    (hft : TyOK P ft ift) (hs : Nat.beq ift.size 0 = false) (hx : st.ev x = .hp id of) : Reads P st o (.hp id (of + off)) := by
  intro S0 B w0 I a w hr
  have h1 := hr.ev x
  rw [hx] at h1
  obtain ⟨fields, h2, fd, h3, rfl, rfl⟩ := ht.field hd hj
  generalize e : a.eval x = y at h1
  cases h1 with
  | std h1 => cases h1
  | hp hi ha =>
    refine ⟨_, fun w' hw => ?_, .hp hi ha⟩
    simp only [execOp, h, e, Instr.fieldAt, Instr.sureAddr, Sem.run_bind, run_under h2, Result.andThen_ok, h3, Sem.run_pure, run_fieldPlace (t := t) hft (Nat.ne_of_beq_eq_false hs), Nat.add_assoc]
end
end Go.Ax

/- Variables of one's own: made, read, written. -/
namespace Go.Ax
open Go.RowKit
set_option linter.unusedVariables false
set_option linter.unusedSimpArgs false

/-- The entries, and the blocks that they take. -/
def HOK (B : Nat) (I : Interp) (w : World) (hp : List (Nat × Row)) : Prop := ∃ T, HeapOK I w hp T ∧ T.Nodup ∧ ∀ b ∈ T, B ≤ b ∧ ¬ I.S b ∧ b < w.heap.size

/-- One entry more. -/
def Interp.add (I : Interp) (at_ : Option (Nat × Nat)) (ln sz : Nat) : Interp :=
  { S := I.S, at_ := fun id => if id = I.nx then at_ else I.at_ id, ln := fun id => if id = I.nx then ln else I.ln id, sz := fun id => if id = I.nx then sz else I.sz id, nx := I.nx + 1 }

theorem Ext.add {I : Interp} {w w' : World} (at_ : Option (Nat × Nat)) (ln sz : Nat) (h1 : ∀ b, I.S b → w'.heap[b]? = w.heap[b]?) (h2 : Lasts w w') : Ext I w (I.add at_ ln sz) w' :=
  ⟨fun _ h => h, h1, Nat.le_succ _, fun id h => by simp [Interp.add, Nat.ne_of_lt h], fun id h => by simp [Interp.add, Nat.ne_of_lt h], fun id h => by simp [Interp.add, Nat.ne_of_lt h], h2⟩

theorem Lasts.refl (w : World) : Lasts w w := fun b c h => ⟨c, h, rfl⟩
theorem Lasts.trans {a b c : World} (h : Lasts a b) (k : Lasts b c) : Lasts a c := fun x y hy => by
  obtain ⟨c1, h1, h2⟩ := h x y hy
  obtain ⟨c2, h3, h4⟩ := k x c1 h1
  exact ⟨c2, h3, h4.trans h2⟩

theorem Ext.refl (I : Interp) (w : World) : Ext I w I w := ⟨fun _ h => h, fun _ _ => rfl, Nat.le_refl _, fun _ _ => rfl, fun _ _ => rfl, fun _ _ => rfl, .refl w⟩
theorem Ext.trans {I J K : Interp} {w x y : World} (h : Ext I w J x) (k : Ext J x K y) : Ext I w K y :=
  ⟨fun b hb => k.S b (h.S b hb), fun b hb => (k.hold b (h.S b hb)).trans (h.hold b hb), Nat.le_trans h.nx k.nx, fun id hi => (k.at_ id (Nat.lt_of_lt_of_le hi h.nx)).trans (h.at_ id hi),
    fun id hi => (k.ln id (Nat.lt_of_lt_of_le hi h.nx)).trans (h.ln id hi), fun id hi => (k.sz id (Nat.lt_of_lt_of_le hi h.nx)).trans (h.sz id hi), h.last.trans k.last⟩

theorem heap_push (w : World) (o : Obj) (b : Nat) (h : b < w.heap.size) : ({ w with heap := w.heap.push o } : World).heap[b]? = w.heap[b]? := by
  show (w.heap.push o)[b]? = _
  rw [Array.getElem?_push, if_neg (by omega)]

theorem Blk.lt {w : World} {b : Nat} {c : Array Value} (h : Blk w b c) : b < w.heap.size := by
  obtain ⟨e, h⟩ := h
  rcases Nat.lt_or_ge b w.heap.size with h1 | h1
  · exact h1
  · rw [Array.getElem?_eq_none h1] at h; cases h

theorem Lasts.push (w : World) (o : Obj) : Lasts w { w with heap := w.heap.push o } := fun b c h => by
  have hl := h.lt
  obtain ⟨e, h⟩ := h
  exact ⟨c, ⟨e, (heap_push w o b hl).trans h⟩, rfl⟩

theorem Below.push (B : Nat) (w : World) (o : Obj) (hB : B ≤ w.heap.size) : Below B w { w with heap := w.heap.push o } :=
  ⟨rfl, rfl, rfl, by simp, fun k hk => heap_push w o k (by omega)⟩

section
variable {S0 : Interp} {B : Nat} {w0 : World} {I : Interp} {st : St} {a : Act} {w : World}

theorem Rel.next (hr : Rel S0 B w0 I st a w) {I' : Interp} {w' : World} {hp : List (Nat × Row)} (e : Ext I w I' w') (hb : Below B w w') (hS : ∀ b, I'.S b → I.S b ∨ B ≤ b) (hss : ∀ b, I'.S b → b < w'.heap.size)
    (hh : HOK B I' w' hp) : Rel S0 B w0 I' ⟨st.tm, hp, I'.nx, st.nt⟩ a w' :=
  ⟨fun d => (hr.tm d).mono e, hr.nt, rfl, hh, hss, hr.ext.trans e, fun b h => (hS b h).elim (hr.sb b) .inr, hr.bl.trans hb, Nat.le_trans hr.bs hb.size⟩

theorem HOK.mono {I' : Interp} {w' : World} {hp : List (Nat × Row)} (h : HOK B I w hp) (e : Ext I w I' w') (hw : ∀ b, b < w.heap.size → w'.heap[b]? = w.heap[b]?) (hs : ∀ b, I'.S b → I.S b) (hz : w.heap.size ≤ w'.heap.size) : HOK B I' w' hp := by
  obtain ⟨T, h1, h2, h3⟩ := h
  exact ⟨T, h1.mono e (fun b hb => hw b (h3 b hb).2.2), h2, fun b hb => ⟨(h3 b hb).1, fun h => (h3 b hb).2.1 (hs b h), Nat.lt_of_lt_of_le (h3 b hb).2.2 hz⟩⟩

end

/-- Values of one's own, side by side. -/
inductive Leaves (I : Interp) (w : World) : List AV → List Value → List Nat → Prop
  | nil : Leaves I w [] [] []
  | cons {a x as xs F G} : Leaf I w a x F → Leaves I w as xs G → Leaves I w (a :: as) (x :: xs) (F ++ G)

theorem Leaves.mono {I I' : Interp} {w w' : World} {as : List AV} {xs : List Value} {F : List Nat} (h : Leaves I w as xs F) (e : Ext I w I' w') (hF : ∀ b ∈ F, w'.heap[b]? = w.heap[b]?) : Leaves I' w' as xs F := by
  induction h with
  | nil => exact .nil
  | cons h _ ih => exact .cons (h.mono e fun b hb => hF b (List.mem_append_left _ hb)) (ih fun b hb => hF b (List.mem_append_right _ hb))

/-- A row that is one's own goes into the variable in which it is laid. -/
def fold1 (hp : List (Nat × Row)) : AV → AV × List (Nat × Row)
  | .hw id => match row id hp with
    | some (.row sz xs) => (.osl sz xs, rem id hp)
    | _ => (.hw id, hp)
  | v => (v, hp)

def foldL : List (Nat × Row) → List AV → List AV × List (Nat × Row)
  | hp, [] => ([], hp)
  | hp, a :: as => ((fold1 hp a).1 :: (foldL (fold1 hp a).2 as).1, (foldL (fold1 hp a).2 as).2)

theorem fold1_ok {I : Interp} {w : World} {hp : List (Nat × Row)} {T : List Nat} (h : HeapOK I w hp T) {a : AV} {x : Value} (hr : Rep I w (.v a x)) :
    ∃ F T', Leaf I w (fold1 hp a).1 x F ∧ HeapOK I w (fold1 hp a).2 T' ∧ T.Perm (F ++ T') := by
  have plain : ∃ F T', Leaf I w a x F ∧ HeapOK I w hp T' ∧ T.Perm (F ++ T') := ⟨[], T, .inl ⟨hr, rfl⟩, h, List.Perm.refl _⟩
  cases a with
  | hw id =>
    cases hrow : row id hp with
    | none => simpa [fold1, hrow] using plain
    | some r =>
      cases r with
      | var cs => simpa [fold1, hrow] using plain
      | foc => simpa [fold1, hrow] using plain
      | lp => simpa [fold1, hrow] using plain
      | mpr => simpa [fold1, hrow] using plain
      | chn => simpa [fold1, hrow] using plain
      | itr => simpa [fold1, hrow] using plain
      | tab => simpa [fold1, hrow] using plain
      | row sz xs =>
        obtain ⟨F, T', h1, h2, h3⟩ := h.take hrow
        have e1 : fold1 hp (.hw id) = (.osl sz xs, rem id hp) := by simp [fold1, hrow]
        rw [e1]
        refine ⟨F, T', .inr ?_, h2, h3⟩
        cases hr with
        | std hr => cases hr
        | hw0 hi ha h0 hx =>
          cases h1 with
          | row0 _ _ _ hz => exact .osl0 hx
          | row _ ha' => rw [ha] at ha'; cases ha'
        | hw hi ha hn hb hs =>
          cases h1 with
          | row0 _ ha' => rw [ha] at ha'; cases ha'
          | row _ ha' hl hz hb' hs' hx ho =>
            rw [ha] at ha'
            cases ha'
            rw [hl] at hn ⊢
            rw [hz] at hs
            exact .osl hb hn hx hs ho
  | _ => exact plain

theorem foldL_ok {I : Interp} {w : World} {as : List AV} {xs : List Value} (hr : Rep I w (.l as xs)) : ∀ {hp : List (Nat × Row)} {T : List Nat}, HeapOK I w hp T →
    ∃ F T', Leaves I w (foldL hp as).1 xs F ∧ HeapOK I w (foldL hp as).2 T' ∧ T.Perm (F ++ T') := by
  induction as generalizing xs with
  | nil => intro hp T h; cases hr; exact ⟨[], T, .nil, h, List.Perm.refl _⟩
  | cons a as ih =>
    intro hp T h
    cases hr with
    | cons h1 h2 =>
      obtain ⟨F, T1, g1, g2, g3⟩ := fold1_ok h h1
      obtain ⟨G, T2, k1, k2, k3⟩ := ih h2 g2
      refine ⟨F ++ G, T2, .cons g1 k1, k2, g3.trans ?_⟩
      rw [List.append_assoc]
      exact List.Perm.append_left F k3

/-- The cells of a value. -/
def AV.cells : AV → List AV
  | .agg cs => cs
  | v => [v]

/-- A value whose cells are known. -/
def AV.known : AV → Bool
  | .any | .tup _ => false
  | _ => true

theorem Rep.cells {I : Interp} {w : World} {v : AV} {x : Value} (h : Rep I w (.v v x)) (hk : v.known = true) (hl : ∀ u, v = .lit u → u.cells = #[u]) : Rep I w (.l v.cells x.cells.toList) := by
  have one : v.cells = [v] → x.cells = #[x] → Rep I w (.l v.cells x.cells.toList) := fun e1 e2 => by rw [e1, e2]; exact .cons h .nil
  cases v with
  | any => cases hk
  | tup _ => cases hk
  | agg cs =>
    cases h with
    | std h => cases h with | agg h => exact h.l_rep
    | agg h => exact h
  | lit u => exact one rfl (by rw [h.lit_inv]; exact hl u rfl)
  | sl f s xs => exact one rfl (by cases h with | std h => cases h <;> rfl)
  | pt cs => exact one rfl (by cases h with | std h => cases h; rfl)
  | osl s xs => cases h with | std h => cases h
  | opt cs => cases h with | std h => cases h
  | hw id => exact one rfl (by cases h with | std h => cases h | hw0 => rfl | hw => rfl)
  | hs id lo n => exact one rfl (by cases h with | std h => cases h | hs0 => rfl | hs => rfl)
  | hp id o => exact one rfl (by cases h with | std h => cases h | hp => rfl)
  | hq id i o => exact one rfl (by cases h with | std h => cases h | hq => rfl)
  | fn f cs => exact one rfl (by cases h with | std h => cases h; rfl | fn => rfl)
  | mp kvs => exact one rfl (by cases h with | std h => cases h; rfl)
  | hm id => exact one rfl (by cases h with | std h => cases h | hm => rfl)
  | hc id => exact one rfl (by cases h with | std h => cases h | hc => rfl)

theorem Leaves.length {I : Interp} {w : World} {as : List AV} {xs : List Value} {F : List Nat} (h : Leaves I w as xs F) : as.length = xs.length := by
  induction h with
  | nil => rfl
  | cons _ _ ih => simp [ih]

theorem Leaves.varC {I : Interp} {w : World} {b : Nat} {as : List AV} {xs : List Value} {F : List Nat} (h : Leaves I w as xs F) : ∀ {o : Nat}, CellsAt w b o xs → VarC I w b o as F := by
  induction h with
  | nil => exact fun _ => .nil
  | cons h _ ih =>
    intro o hc
    refine .cons (hc 0 _ rfl) h (ih fun j v hj => ?_)
    have := hc (j + 1) v (by simpa using hj)
    rw [show o + 1 + j = o + (j + 1) from by omega]; exact this

theorem cellsAt_new (w : World) (cs : Array Value) (e : Nat) : CellsAt { w with heap := w.heap.push (.cells cs e) } w.heap.size 0 cs.toList := by
  intro j v hj
  simp only [World.cell?, Array.getElem?_push_size, Nat.zero_add]
  simpa using hj

/-- A new variable with these cells. -/
theorem Rel.newVar {S0 : Interp} {B : Nat} {w0 : World} {I : Interp} {st : St} {a : Act} {w : World} (hr : Rel S0 B w0 I st a w) {as : List AV} {xs : List Value} (hv : Rep I w (.l as xs)) (e : Nat) :
    Rel S0 B w0 (I.add (some (w.heap.size, 0)) 0 0) ⟨st.tm, (st.nx, .var (foldL st.hp as).1) :: (foldL st.hp as).2, st.nx + 1, st.nt⟩ a { w with heap := w.heap.push (.cells xs.toArray e) } ∧
    Rep (I.add (some (w.heap.size, 0)) 0 0) { w with heap := w.heap.push (.cells xs.toArray e) } (.v (.hp st.nx 0) (.pointer (some ⟨w.heap.size, 0, none⟩))) := by
  obtain ⟨T, h1, h2, h3⟩ := hr.hp
  obtain ⟨F, T', g1, g2, g3⟩ := foldL_ok hv h1
  have hold : ∀ b, I.S b → ({ w with heap := w.heap.push (.cells xs.toArray e) } : World).heap[b]? = w.heap[b]? := fun b hb => heap_push _ _ _ (hr.ss b hb)
  have he : Ext I w (I.add (some (w.heap.size, 0)) 0 0) { w with heap := w.heap.push (.cells xs.toArray e) } := .add _ _ _ hold (.push _ _)
  have hlt : ∀ b ∈ F ++ T', b < w.heap.size := fun b hb => (h3 b (g3.mem_iff.2 hb)).2.2
  have hnx : I.nx = st.nx := hr.nx
  have hn : (I.add (some (w.heap.size, 0)) 0 0).nx = st.nx + 1 := by show I.nx + 1 = _; rw [hnx]
  have hat : (I.add (some (w.heap.size, 0)) 0 0).at_ st.nx = some (w.heap.size, 0) := by simp [Interp.add, hnx]
  have hlen : (foldL st.hp as).1.length = xs.length := g1.length
  have hrow : RowOK (I.add (some (w.heap.size, 0)) 0 0) { w with heap := w.heap.push (.cells xs.toArray e) } st.nx (.var (foldL st.hp as).1) (w.heap.size :: F) := by
    refine .var (by rw [hn]; omega) hat (c := xs.toArray) ⟨e, by simp⟩ (by simp [hlen]) ?_
    refine Leaves.varC (xs := xs) (g1.mono he fun b hb => heap_push _ _ _ (hlt b (List.mem_append_left _ hb))) ?_
    simpa using cellsAt_new w xs.toArray e
  refine ⟨?_, .hp (by rw [hn]; omega) hat⟩
  have := hr.next he (Below.push B w _ hr.bs) (fun b h => .inl h) (fun b h => by have := hr.ss b h; simp; omega)
    (hp := (st.nx, .var (foldL st.hp as).1) :: (foldL st.hp as).2) ⟨(w.heap.size :: F) ++ T', .cons hrow (g2.mono he fun b hb => heap_push _ _ _ (hlt b (List.mem_append_right _ hb))), ?_, ?_⟩
  · rw [hn] at this; exact this
  · have hnd : (F ++ T').Nodup := g3.nodup_iff.1 h2
    refine List.nodup_cons.2 ⟨fun hm => ?_, hnd⟩
    have := hlt _ hm; omega
  · intro b hb
    rcases List.mem_cons.1 hb with rfl | hb
    · exact ⟨hr.bs, fun h => by have := hr.ss _ h; omega, by simp⟩
    · have := h3 b (g3.mem_iff.2 hb)
      exact ⟨this.1, this.2.1, by have := this.2.2; simp; omega⟩

section
variable {P : Program} {st : St}

theorem ok_box {o : Oper} {t : Nat} {x : Operand} {v : AV} (h : o.op = .box t x) (hx : st.ev x = v) (hk : v.known = true) (hl : ∀ u, v = .lit u → u.cells = #[u]) :
    OpOK P st o (.hp st.nx 0) ⟨st.tm, (st.nx, .var (foldL st.hp v.cells).1) :: (foldL st.hp v.cells).2, st.nx + 1, st.nt⟩ := by
  refine ⟨rfl, fun S0 B w0 I a w hr => ?_⟩
  have h1 := hr.ev x
  rw [hx] at h1
  obtain ⟨g1, g2⟩ := hr.newVar (h1.cells hk hl) t
  refine ⟨_, _, _, ?_, g1, g2, fun _ b hb => heap_push _ _ _ hb⟩
  simp only [execOp, h, Instr.box, newVar, newRow, Sem.run_bind, run_newObj, Result.andThen_ok, Sem.run_pure, Array.toArray_toList]

theorem lits_rep (I : Interp) (w : World) (vs : List Value) : Rep I w (.l (vs.map .lit) vs) := by
  induction vs with
  | nil => exact .nil
  | cons v vs ih => exact .cons (.std (.lit _)) ih

theorem ok_alloc {o : Oper} {t : Nat} {i : TyI} (h : o.op = .alloc t) (ht : TyOK P t i) :
    OpOK P st o (.hp st.nx 0) ⟨st.tm, (st.nx, .var (foldL st.hp (i.zero.map .lit)).1) :: (foldL st.hp (i.zero.map .lit)).2, st.nx + 1, st.nt⟩ := by
  refine ⟨rfl, fun S0 B w0 I a w hr => ?_⟩
  obtain ⟨z, hz, hc⟩ := run_zero (w := w) ht
  obtain ⟨g1, g2⟩ := hr.newVar (lits_rep I w i.zero) t
  refine ⟨_, _, _, ?_, g1, g2, fun _ b hb => heap_push _ _ _ hb⟩
  simp only [execOp, h, Instr.alloc, newVar, newRow, Sem.run_bind, run_newObj, Result.andThen_ok, Sem.run_pure, hz, hc]
end
end Go.Ax

/- Reads and writes of one's own variables. -/
namespace Go.Ax
open Go.RowKit
set_option linter.unusedVariables false
set_option linter.unusedSimpArgs false

/-- w' is w, but for the cells of block b from o on, which hold vs. -/
structure Wrote (w w' : World) (b o : Nat) (vs : List Value) : Prop where
  os : w'.os = w.os
  tape : w'.tape = w.tape
  output : w'.output = w.output
  size : w'.heap.size = w.heap.size
  other : ∀ k, k ≠ b → w'.heap[k]? = w.heap[k]?
  blk : ∀ c, Blk w b c → ∃ c', Blk w' b c' ∧ c'.size = c.size
  cell : ∀ j, (j < o ∨ o + vs.length ≤ j) → w'.cell? ⟨b, j, none⟩ = w.cell? ⟨b, j, none⟩
  new : CellsAt w' b o vs

theorem Blk.cell {w : World} {b : Nat} {c : Array Value} (h : Blk w b c) (j : Nat) : w.cell? ⟨b, j, none⟩ = c[j]? := by
  obtain ⟨e, h⟩ := h
  simp [World.cell?, h]

theorem Blk.frozen {w : World} {b : Nat} {c : Array Value} (h : Blk w b c) (j : Nat) : w.frozen? ⟨b, j, none⟩ = false := by
  obtain ⟨e, h⟩ := h
  simp [World.frozen?, h]

theorem Wrote.refl (w : World) (b o : Nat) : Wrote w w b o [] := ⟨rfl, rfl, rfl, rfl, fun _ _ => rfl, fun c h => ⟨c, h, rfl⟩, fun _ _ => rfl, .nil⟩

theorem Wrote.one {w : World} {b o : Nat} {c : Array Value} {v : Value} (h : Blk w b c) (ho : o < c.size) : Wrote w (w.setCell ⟨b, o, none⟩ v) b o [v] := by
  refine ⟨rfl, rfl, rfl, World.size_setCell .., fun k hk => Below.heap_setCell _ _ _ _ hk, fun c' h' => ?_, fun j hj => ?_, ?_⟩
  · obtain ⟨e, h'⟩ := h'
    refine ⟨c'.setIfInBounds o v, ⟨e, ?_⟩, by simp⟩
    simp [World.setCell, Array.getElem?_modify, h']
  · refine World.cell?_setCell_other (w := w) (a := ⟨b, o, none⟩) (b := ⟨b, j, none⟩) v ?_
    intro e
    have : o = j := by injection e
    simp at hj; omega
  · refine .cons ?_ .nil
    have : w.cell? ⟨b, o, none⟩ = some c[o] := by rw [h.cell]; simp [ho]
    exact World.cell?_setCell_same w _ v this

theorem run_store1 {P : Program} {w : World} {b o : Nat} {c : Array Value} {v : Value} (h : Blk w b c) (ho : o < c.size) (hv : v.oneCell' = true) : (store ⟨b, o, none⟩ v).run P w = .ok () (w.setCell ⟨b, o, none⟩ v) := by
  rw [run_store P w _ v _ hv, h.cell, h.frozen]
  simp [ho]

theorem run_stores {P : Program} {b o : Nat} : ∀ (vs : List Value) (i : Nat) (w : World) (c : Array Value), Blk w b c → o + i + vs.length ≤ c.size → (∀ v ∈ vs, v.oneCell' = true) →
    ∃ w', (storeCells ⟨b, o, none⟩ vs i).run P w = .ok () w' ∧ Wrote w w' b (o + i) vs
  | [], i, w, c, h, _, _ => ⟨w, rfl, .refl w b _⟩
  | v :: vs, i, w, c, h, hs, hv => by
    have hlt : o + i < c.size := by simp at hs; omega
    have h1 := Wrote.one (v := v) h hlt
    obtain ⟨c1, g1, g2⟩ := h1.blk c h
    obtain ⟨w', k1, k2⟩ := run_stores (P := P) (b := b) (o := o) vs (i + 1) _ c1 g1 (by simp at hs; omega) (fun u hu => hv u (List.mem_cons_of_mem _ hu))
    refine ⟨w', ?_, ?_⟩
    · simp only [storeCells, Sem.run_bind, addr_add, run_store1 h hlt (hv v (List.mem_cons_self ..)), Result.andThen_ok, k1]
    · refine ⟨k2.os.trans h1.os, k2.tape.trans h1.tape, k2.output.trans h1.output, k2.size.trans h1.size, fun k hk => (k2.other k hk).trans (h1.other k hk), fun c' h' => ?_, fun j hj => ?_, .cons ?_ ?_⟩
      · obtain ⟨c2, e1, e2⟩ := h1.blk c' h'
        obtain ⟨c3, e3, e4⟩ := k2.blk c2 e1
        exact ⟨c3, e3, e4.trans e2⟩
      · rw [k2.cell j (by simp at hj; omega), h1.cell j (by simp at hj ⊢; omega)]
      · rw [k2.cell _ (by omega)]; exact h1.new 0 v rfl
      · have := k2.new; rw [show o + (i + 1) = o + i + 1 from by omega] at this; exact this

theorem Wrote.below {w w' : World} {b o B : Nat} {vs : List Value} (h : Wrote w w' b o vs) (hb : B ≤ b) : Below B w w' :=
  ⟨h.os, h.tape, h.output, by rw [h.size]; exact Nat.le_refl _, fun k hk => h.other k (by omega)⟩

theorem Wrote.lasts {w w' : World} {b o : Nat} {vs : List Value} (h : Wrote w w' b o vs) : Lasts w w' := fun k c hk => by
  by_cases e : k = b
  · subst e; exact h.blk c hk
  · obtain ⟨t, hk⟩ := hk
    exact ⟨c, ⟨t, (h.other k e).trans hk⟩, rfl⟩

theorem Wrote.ext {I : Interp} {w w' : World} {b o : Nat} {vs : List Value} (h : Wrote w w' b o vs) (hb : ¬ I.S b) : Ext I w I w' :=
  ⟨fun _ h => h, fun k hk => h.other k (fun e => hb (e ▸ hk)), Nat.le_refl _, fun _ _ => rfl, fun _ _ => rfl, fun _ _ => rfl, h.lasts⟩

/-- A leaf: what one cell may hold. -/
def AV.leaf : AV → Bool
  | .lit u => u.oneCell'
  | .sl .. | .pt _ | .hw _ | .hs .. | .hp .. | .hq .. | .fn .. | .hm .. | .hc .. => true
  | _ => false

theorem Rep.one {I : Interp} {w : World} {a : AV} {x : Value} (h : Rep I w (.v a x)) (hl : a.leaf = true) : x.oneCell' = true := by
  cases a with
  | lit u => rw [h.lit_inv]; exact hl
  | sl => cases h with | std h => cases h <;> rfl
  | pt => cases h with | std h => cases h; rfl
  | hw => cases h with | std h => cases h | hw0 => rfl | hw => rfl
  | hs => cases h with | std h => cases h | hs0 => rfl | hs => rfl
  | hp => cases h with | std h => cases h | hp => rfl
  | hq => cases h with | std h => cases h | hq => rfl
  | hm => cases h with | std h => cases h | hm => rfl
  | hc => cases h with | std h => cases h | hc => rfl
  | fn => cases h with | std h => cases h; rfl | fn => rfl
  | _ => cases hl

theorem Rep.ones {I : Interp} {w : World} {as : List AV} {xs : List Value} (h : Rep I w (.l as xs)) (hl : as.all AV.leaf = true) : ∀ x ∈ xs, x.oneCell' = true := by
  induction as generalizing xs with
  | nil => cases h; simp
  | cons a as ih =>
    cases h with
    | cons h1 h2 =>
      simp only [List.all_cons, Bool.and_eq_true] at hl
      intro x hx
      rcases List.mem_cons.1 hx with rfl | hx
      · exact h1.one hl.1
      · exact ih h2 hl.2 x hx

theorem VarC.split {I : Interp} {w : World} {b : Nat} {as bs : List AV} : ∀ {o : Nat} {F : List Nat}, VarC I w b o (as ++ bs) F → ∃ F1 F2, F = F1 ++ F2 ∧ VarC I w b o as F1 ∧ VarC I w b (o + as.length) bs F2 := by
  induction as with
  | nil => intro o F h; exact ⟨[], F, rfl, .nil, h⟩
  | cons a as ih =>
    intro o F h
    cases h with
    | cons hc hl hr =>
      obtain ⟨F1, F2, rfl, h1, h2⟩ := ih hr
      refine ⟨_ ++ F1, F2, by rw [List.append_assoc], .cons hc hl h1, ?_⟩
      rw [show o + (a :: as).length = o + 1 + as.length from by simp; omega]; exact h2

theorem VarC.app {I : Interp} {w : World} {b : Nat} {as bs : List AV} {o : Nat} {F1 F2 : List Nat} (h1 : VarC I w b o as F1) (h2 : VarC I w b (o + as.length) bs F2) : VarC I w b o (as ++ bs) (F1 ++ F2) := by
  induction h1 with
  | nil => exact h2
  | cons hc hl _ ih =>
    rw [List.append_assoc]
    exact .cons hc hl (ih (by rw [show ∀ n m : Nat, n + 1 + m = n + (m + 1) from by omega]; exact h2))

theorem VarC.leaves {I : Interp} {w : World} {b : Nat} {as : List AV} {o : Nat} {F : List Nat} (h : VarC I w b o as F) : ∃ xs, Leaves I w as xs F ∧ CellsAt w b o xs ∧ xs.length = as.length := by
  induction h with
  | nil => exact ⟨[], .nil, .nil, rfl⟩
  | cons hc hl _ ih =>
    obtain ⟨xs, h1, h2, h3⟩ := ih
    exact ⟨_ :: xs, .cons hl h1, .cons hc h2, by simp [h3]⟩

theorem VarC.keep {I I' : Interp} {w w' : World} {b o : Nat} {as : List AV} {F : List Nat} (h : VarC I w b o as F) (e : Ext I w I' w') (hF : ∀ b ∈ F, w'.heap[b]? = w.heap[b]?)
    (hc : ∀ j, o ≤ j → j < o + as.length → w'.cell? ⟨b, j, none⟩ = w.cell? ⟨b, j, none⟩) : VarC I' w' b o as F := by
  obtain ⟨xs, h1, h2, h3⟩ := h.leaves
  refine Leaves.varC (h1.mono e hF) fun j v hj => ?_
  rw [hc (o + j) (by omega) (by have := (List.getElem?_eq_some_iff.1 hj).1; omega)]
  exact h2 j v hj

/-- What is read without being taken. -/
def AV.plain : AV → Bool
  | .osl .. | .opt _ | .agg _ | .tup _ | .any => false
  | _ => true

theorem Leaf.rep {I : Interp} {w : World} {a : AV} {x : Value} {F : List Nat} (h : Leaf I w a x F) (hp : a.plain = true) : Rep I w (.v a x) := by
  rcases h with h | h
  · exact h.1
  · cases h with
    | std h => exact .std h
    | agg => cases hp
    | tup => cases hp
    | osl0 => cases hp
    | osl => cases hp
    | opt => cases hp

theorem Leaves.rep {I : Interp} {w : World} {as : List AV} {xs : List Value} {F : List Nat} (h : Leaves I w as xs F) (hp : as.all AV.plain = true) : Rep I w (.l as xs) := by
  induction h with
  | nil => exact .nil
  | cons h _ ih =>
    simp only [List.all_cons, Bool.and_eq_true] at hp
    exact .cons (h.rep hp.1) (ih hp.2)

section
variable {P : Program} {st : St}

theorem Rep.hp_inv {I : Interp} {w : World} {id off : Nat} {x : Value} (h : Rep I w (.v (.hp id off) x)) : ∃ b o, id < I.nx ∧ I.at_ id = some (b, o) ∧ x = .pointer (some ⟨b, o + off, none⟩) := by
  cases h with
  | std h => cases h
  | hp hi ha => exact ⟨_, _, hi, ha, rfl⟩

theorem RowOK.var_inv {I : Interp} {w : World} {id b o : Nat} {cs : List AV} {F : List Nat} (h : RowOK I w id (.var cs) F) (ha : I.at_ id = some (b, o)) :
    ∃ c G, id < I.nx ∧ Blk w b c ∧ o + cs.length ≤ c.size ∧ VarC I w b o cs G ∧ F = b :: G := by
  cases h with
  | var hi ha' hb hs hv =>
    rw [ha] at ha'
    cases ha'
    exact ⟨_, _, hi, hb, hs, hv, rfl⟩

theorem drop_split {α : Type} {l : List α} {n : Nat} {a : α} {r : List α} (h : l.drop n = a :: r) : ∃ p, l = p ++ (a :: r) ∧ p.length = n := by
  refine ⟨l.take n, by rw [← h, List.take_append_drop], ?_⟩
  rw [List.length_take]
  have : l.length - n = (a :: r).length := by rw [← h, List.length_drop]
  simp at this; omega

theorem rd_load_hp {o : Oper} {t id off : Nat} {x : Operand} {i : TyI} {cs : List AV} {v : AV} {r : List AV} (h : o.op = .load t x) (ht : TyOK P t i) (ha : i.isAgg = false) (hx : st.ev x = .hp id off)
    (hrow : row id st.hp = some (.var cs)) (hd : cs.drop off = v :: r) (hp : v.plain = true) : Reads P st o v := by
  intro S0 B w0 I a w hr
  have h1 := hr.ev x
  rw [hx] at h1
  obtain ⟨b, of, hi, hat, e⟩ := h1.hp_inv
  obtain ⟨T, k1, k2, k3⟩ := hr.hp
  obtain ⟨F, T', g1, g2, g3⟩ := k1.take hrow
  obtain ⟨c, G, _, hb, hs, hv, rfl⟩ := g1.var_inv hat
  obtain ⟨p, hcs, hpl⟩ := drop_split hd
  rw [hcs] at hv
  obtain ⟨F1, F2, _, _, hv2⟩ := hv.split
  cases hv2 with
  | cons hc hl _ =>
    rw [hpl] at hc
    refine ⟨_, fun w' hw0 => ?_, hl.rep hp⟩
    have hw : Same _ w' := hw0.resolve_left (by rw [h]; simp [memFree])
    simp only [execOp, h, e, Instr.loadAt, Instr.sureAddr, loadVar, Sem.run_bind, Sem.run_pure, Result.andThen_ok, run_isAgg ht, ha, if_false, Bool.false_eq_true, run_load, hw.cell hc]

theorem rd_loads_hp {o : Oper} {t id off : Nat} {x : Operand} {i : TyI} {cs : List AV} (h : o.op = .load t x) (ht : TyOK P t i) (ha : i.isAgg = true) (hx : st.ev x = .hp id off)
    (hrow : row id st.hp = some (.var cs)) (hn : Nat.ble (off + i.size) cs.length = true) (hp : ((cs.drop off).take i.size).all AV.plain = true) : Reads P st o (.agg ((cs.drop off).take i.size)) := by
  intro S0 B w0 I a w hr
  have h1 := hr.ev x
  rw [hx] at h1
  have hn' := Nat.le_of_ble_eq_true hn
  obtain ⟨b, of, hi, hat, e⟩ := h1.hp_inv
  obtain ⟨T, k1, k2, k3⟩ := hr.hp
  obtain ⟨F, T', g1, g2, g3⟩ := k1.take hrow
  obtain ⟨c, G, _, hb, hs, hv, rfl⟩ := g1.var_inv hat
  rw [← List.take_append_drop off cs, ← List.take_append_drop i.size (cs.drop off)] at hv
  obtain ⟨F1, F2, _, _, hv2⟩ := hv.split
  obtain ⟨F3, F4, _, hv3, _⟩ := hv2.split
  obtain ⟨xs, hl, hc, hlen⟩ := hv3.leaves
  have hlen2 : xs.length = i.size := by rw [hlen, List.length_take, List.length_drop]; omega
  have hoff : (cs.take off).length = off := by rw [List.length_take]; omega
  rw [hoff] at hc
  refine ⟨.agg xs.toArray, fun w' hw0 => ?_, .agg (hl.rep hp)⟩
  have hw : Same _ w' := hw0.resolve_left (by rw [h]; simp [memFree])
  have := run_cells (P := P) xs (hc.same hw)
  rw [hlen2] at this
  simp only [execOp, h, e, Instr.loadAt, Instr.sureAddr, loadVar, Sem.run_bind, Sem.run_pure, Result.andThen_ok, run_isAgg ht, ha, if_true, run_size ht, this]

/-- One's own row is taken out of a variable: the variable's cell leads to it from now on. -/
theorem ok_take_hp {o : Oper} {t id off sz : Nat} {x : Operand} {i : TyI} {cs : List AV} {xs : List (List AV)} {r : List AV} (h : o.op = .load t x) (ht : TyOK P t i) (ha : i.isAgg = false) (hx : st.ev x = .hp id off)
    (hrow : row id st.hp = some (.var cs)) (hd : cs.drop off = .osl sz xs :: r) :
    OpOK P st o (.hw st.nx) ⟨st.tm, (st.nx, .row sz xs) :: (id, .var (cs.set off (.hw st.nx))) :: rem id st.hp, st.nx + 1, st.nt⟩ := by
  refine ⟨rfl, fun S0 B w0 I a w hr => ?_⟩
  have h1 := hr.ev x
  rw [hx] at h1
  obtain ⟨b, of, hi, hat, e⟩ := h1.hp_inv
  obtain ⟨T, k1, k2, k3⟩ := hr.hp
  obtain ⟨F, T', g1, g2, g3⟩ := k1.take hrow
  obtain ⟨c, G, _, hb, hs, hv, rfl⟩ := g1.var_inv hat
  obtain ⟨p, hcs, hpl⟩ := drop_split hd
  rw [hcs] at hv
  obtain ⟨F1, F2, rfl, hv1, hv2⟩ := hv.split
  have hset : cs.set off (.hw st.nx) = p ++ (.hw st.nx :: r) := by rw [hcs, ← hpl]; simp
  cases hv2 with
  | @cons _ _ y _ Fv Fr hc hl hr2 =>
    rw [hpl] at hc hr2
    have hnx := hr.nx
    -- the row's own standing
    have key : ∃ at_ : Option (Nat × Nat), ∃ I', I' = I.add at_ xs.length sz ∧ Rep I' w (.v (.hw st.nx) y) ∧ RowOK I' w st.nx (.row sz xs) Fv := by
      rcases hl with hl | hl
      · cases hl.1 with | std h => cases h
      cases hl with
      | std h => cases h
      | osl0 ha0 =>
        refine ⟨none, _, rfl, ?_, ?_⟩
        · exact .hw0 (by show st.nx < I.nx + 1; omega) (by simp [Interp.add, hnx]) (by simp [Interp.add, hnx]) ha0
        · exact .row0 (by show st.nx < I.nx + 1; omega) (by simp [Interp.add, hnx]) (by simp [Interp.add, hnx]) (by simp [Interp.add, hnx])
      | osl hb1 hc1 hx1 hs1 ho1 =>
        rename_i b1 o1 cap1 c1 F3
        have hln : (I.add (some (b1, o1)) xs.length sz).ln st.nx = xs.length := by simp [Interp.add, hnx]
        refine ⟨some (b1, o1), _, rfl, ?_, ?_⟩
        · have := Rep.hw (I := I.add (some (b1, o1)) xs.length sz) (w := w) (id := st.nx) (cap := cap1) (c := c1) (b := b1) (o := o1) (by show st.nx < I.nx + 1; omega) (by simp [Interp.add, hnx]) (by rw [hln]; exact hc1) hb1
            (by simp only [Interp.add, hnx, if_true]; exact hs1)
          rw [hln] at this; exact this
        · refine .row (by show st.nx < I.nx + 1; omega) (by simp [Interp.add, hnx]) hln (by simp [Interp.add, hnx]) hb1 ?_ hx1 ho1
          have : xs.length * sz ≤ cap1 * sz := Nat.mul_le_mul_right _ hc1
          omega
    obtain ⟨at_, I', rfl, hrep, hrowok⟩ := key
    have he : Ext I w (I.add at_ xs.length sz) w := .add _ _ _ (fun _ _ => rfl) (.refl w)
    have hvar : RowOK (I.add at_ xs.length sz) w id (.var (cs.set off (.hw st.nx))) (b :: (F1 ++ ([] ++ Fr))) := by
      refine .var (by show id < I.nx + 1; omega) ((he.at_ id hi).trans hat) hb (by simpa using hs) ?_
      rw [hset]
      refine (hv1.mono he (fun _ _ => rfl) rfl).app ?_
      rw [hpl]
      exact .cons hc (.inl ⟨hrep, rfl⟩) (hr2.mono he (fun _ _ => rfl) rfl)
    refine ⟨y, w, I.add at_ xs.length sz, ?_, ?_, hrep, fun _ => Same.refl w⟩
    · simp only [execOp, h, e, Instr.loadAt, Instr.sureAddr, loadVar, Sem.run_bind, Sem.run_pure, Result.andThen_ok, run_isAgg ht, ha, if_false, Bool.false_eq_true, run_load, hc]
    · have hperm : T.Perm (Fv ++ ((b :: (F1 ++ ([] ++ Fr))) ++ T')) := by
        refine g3.trans (List.perm_iff_count.2 fun z => ?_)
        simp only [List.count_append, List.count_cons, List.count_nil]; omega
      have := hr.next he (Below.refl B w) (fun b h => .inl h) hr.ss (hp := (st.nx, .row sz xs) :: (id, .var (cs.set off (.hw st.nx))) :: rem id st.hp)
        ⟨_, .cons hrowok (.cons hvar (g2.mono he fun _ _ => rfl)), hperm.nodup_iff.1 k2, fun z hz => k3 z (hperm.mem_iff.2 hz)⟩
      have e2 : (I.add at_ xs.length sz).nx = st.nx + 1 := by show I.nx + 1 = _; rw [hnx]
      rw [e2] at this; exact this
end
end Go.Ax

/- Writes into one's own variables. -/
namespace Go.Ax
open Go.RowKit
set_option linter.unusedVariables false
set_option linter.unusedSimpArgs false

/-- A list in which others stand from a place on. -/
def splice : List AV → Nat → List AV → List AV
  | cs, _, [] => cs
  | [], _, _ => []
  | _ :: cs, 0, v :: vs => v :: splice cs 0 vs
  | c :: cs, n + 1, v :: vs => c :: splice cs n (v :: vs)

theorem splice_eq : ∀ (cs : List AV) (n : Nat) (vs : List AV), n + vs.length ≤ cs.length → splice cs n vs = cs.take n ++ (vs ++ cs.drop (n + vs.length))
  | cs, n, [], h => by simp [splice]
  | [], n, v :: vs, h => by simp at h
  | c :: cs, 0, v :: vs, h => by
    have := splice_eq cs 0 vs (by simp at h ⊢; omega)
    simp [splice, this]
  | c :: cs, n + 1, v :: vs, h => by
    have := splice_eq cs n (v :: vs) (by simp at h ⊢; omega)
    simp only [splice, this, List.take_succ_cons, List.cons_append, List.length_cons]
    rw [show n + 1 + (vs.length + 1) = (n + (vs.length + 1)) + 1 from by omega, List.drop_succ_cons]

section
variable {P : Program} {st : St}

theorem ok_store_hp {o : Oper} {t id off : Nat} {x y : Operand} {i : TyI} {v : AV} {cs cs' : List AV} {hp1 : List (Nat × Row)} {vs : List AV} (h : o.op = .store t x y) (ht : TyOK P t i) (hx : st.ev x = .hp id off)
    (hy : st.ev y = v) (hk : v.known = true) (hl : v.cells.all AV.leaf = true) (hsz : Nat.beq v.cells.length i.size = true) (hf : foldL st.hp v.cells = (vs, hp1))
    (hrow : row id hp1 = some (.var cs)) (hn : Nat.ble (off + i.size) cs.length = true) (hcs : splice cs off vs = cs') : OpDo P st o ⟨st.tm, (id, .var cs') :: rem id hp1, st.nx, st.nt⟩ := by
  intro S0 B w0 I a w hr
  have h1 := hr.ev x
  have h2 := hr.ev y
  rw [hx] at h1
  rw [hy] at h2
  obtain ⟨b, of, hi, hat, e⟩ := h1.hp_inv
  have hcells := h2.cells hk (fun u hu => by subst hu; simp [AV.cells, AV.leaf] at hl; cases u <;> simp_all [Value.oneCell', Value.cells])
  obtain ⟨T, k1, k2, k3⟩ := hr.hp
  obtain ⟨Fv, T1, f1, f2, f3⟩ := foldL_ok hcells k1
  rw [hf] at f1 f2
  obtain ⟨F, T', g1, g2, g3⟩ := f2.take hrow
  obtain ⟨c, G, _, hb, hs, hv, rfl⟩ := g1.var_inv hat
  have hn' := Nat.le_of_ble_eq_true hn
  have hlx : (a.eval y).cells.toList.length = v.cells.length := by
    clear f1 hl
    generalize (a.eval y).cells.toList = xs at hcells
    generalize v.cells = as at hcells
    induction as generalizing xs with
    | nil => cases hcells; rfl
    | cons _ _ ih => cases hcells with | cons _ h => simp [ih _ h]
  have hsz' : v.cells.length = i.size := Nat.eq_of_beq_eq_true hsz
  have hlv : vs.length = i.size := by rw [f1.length, hlx, hsz']
  have hall : T.Perm (Fv ++ ((b :: G) ++ T')) := f3.trans (List.Perm.append_left Fv g3)
  obtain ⟨w', r1, r2⟩ := run_stores (P := P) (b := b) (o := of + off) (a.eval y).cells.toList 0 w c hb (by rw [hlx, hsz']; omega) (hcells.ones hl)
  have hbB := k3 b (hall.mem_iff.2 (by simp))
  have he : Ext I w I w' := r2.ext hbB.2.1
  have hnd : (Fv ++ ((b :: G) ++ T')).Nodup := hall.nodup_iff.1 k2
  have hne : ∀ z ∈ Fv ++ (G ++ T'), w'.heap[z]? = w.heap[z]? := by
    intro z hz
    refine r2.other z fun ez => ?_
    subst ez
    have hc : (Fv ++ ((z :: G) ++ T')).count z ≤ 1 := List.nodup_iff_count.1 hnd z
    have hm : 0 < (Fv ++ (G ++ T')).count z := List.count_pos_iff.2 hz
    simp only [List.count_append, List.count_cons, beq_self_eq_true, if_true] at hc hm
    omega
  obtain ⟨c', hb', hs'⟩ := r2.blk c hb
  rw [← List.take_append_drop off cs, ← List.take_append_drop i.size (cs.drop off)] at hv
  obtain ⟨F1, F2', rfl, hv1, hv2⟩ := hv.split
  obtain ⟨Fo, F2, rfl, _, hv3⟩ := hv2.split
  have hoff : (cs.take off).length = off := by rw [List.length_take]; omega
  have hmid : ((cs.drop off).take i.size).length = i.size := by rw [List.length_take, List.length_drop]; omega
  rw [hoff, hmid] at hv3
  have hvar : VarC I w' b of cs' (F1 ++ (Fv ++ F2)) := by
    rw [← hcs, splice_eq cs off vs (by omega), hlv]
    refine VarC.app (hv1.keep he (fun z hz => hne z (by simp [hz])) (fun j h1 h2 => r2.cell j (by rw [hoff] at h2; omega))) ?_
    rw [hoff]
    refine VarC.app ((f1.mono he (fun z hz => hne z (by simp [hz]))).varC r2.new) ?_
    rw [hlv]
    rw [List.drop_drop] at hv3
    exact hv3.keep he (fun z hz => hne z (by simp [hz])) (fun j h1 h2 => r2.cell j (by rw [hlx, hsz']; omega))
  have hlen : cs'.length = cs.length := by
    rw [← hcs, splice_eq cs off vs (by omega)]; simp only [List.length_append, List.length_take, List.length_drop]; omega
  refine ⟨w', I, ?_, ?_⟩
  · have hsz2 : (a.eval y).cells.size = i.size := by rw [← Array.length_toList, hlx, hsz']
    simp only [execOp, h, e, Instr.storeAt, Instr.sureAddr, storeVar, Sem.run_bind, Sem.run_pure, Result.andThen_ok, run_size ht, hsz2, ne_eq, not_true, if_false, r1]
  · have hrowok : RowOK I w' id (.var cs') (b :: (F1 ++ (Fv ++ F2))) := .var hi hat hb' (by rw [hlen]; omega) hvar
    have hnew : ((b :: (F1 ++ (Fv ++ F2))) ++ T').Nodup := by
      refine List.nodup_iff_count.2 fun z => ?_
      have := List.nodup_iff_count.1 hnd z
      simp only [List.count_append, List.count_cons] at this ⊢
      omega
    have := hr.next he (r2.below hbB.1) (fun b h => .inl h) (fun z hz => by rw [r2.size]; exact hr.ss z hz) (hp := (id, .var cs') :: rem id hp1)
      ⟨_, .cons hrowok (g2.mono he fun z hz => hne z (by simp [hz])), hnew, fun z hz => by
        rw [r2.size]
        refine k3 z (hall.mem_iff.2 ?_)
        simp only [List.mem_append, List.mem_cons] at hz ⊢
        rcases hz with (h | h | h | h) | h <;> simp [h]⟩
    rw [hr.nx] at this; exact this
end
end Go.Ax

/- Rows that stay: their lengths and elements; parts of values; how a call begins and ends; a call of a function that is told. -/
namespace Go.Ax
open Go.RowKit
set_option linter.unusedVariables false
set_option linter.unusedSimpArgs false

section
variable {P : Program} {st : St}

theorem TyOK.sliceE {t e : Nat} {i : TyI} (h : TyOK P t i) (hd : i.td = .td (.slice e)) : P.underlying t = some (.slice e) := by
  obtain ⟨h, _⟩ := h; rw [hd] at h; exact h.1

theorem rd_index_sl {o : Oper} {t e : Nat} {x ix : Operand} {it ie : TyI} {full : Bool} {sz : Nat} {xs : List (List AV)} {kk : IntKind} {n : Int} {cs : List AV} (h : o.op = .indexAddr t x ix) (ht : TyOK P t it)
    (hd : it.td = .td (.slice e)) (he : TyOK P e ie) (hsz : Nat.beq ie.size sz = true) (hx : st.ev x = .sl full sz xs) (hi : st.ev ix = .lit (.int kk n)) (h0 : 0 ≤ n) (hg : xs[n.toNat]? = some cs) : Reads P st o (.pt cs) := by
  intro S0 B w0 I a w hr
  have h1 := hr.ev x
  have h2 := hr.ev ix
  rw [hx] at h1
  rw [hi] at h2
  have hsz' := Nat.eq_of_beq_eq_true hsz
  have hlt : n.toNat < xs.length := (List.getElem?_eq_some_iff.1 hg).1
  generalize ex : a.eval x = y at h1
  cases h1 with
  | std h1 =>
    cases h1 with
    | sl0 => simp at hg
    | @sl _ _ _ b of cap _ _ hx2 hb hc =>
      have hc2 := (hc.drop (n.toNat * sz))
      rw [flatten_at hx2 hg] at hc2
      have hc3 := hc2.take cs.length
      rw [List.take_left] at hc3
      refine ⟨_, fun w' hw => ?_, .std (.pt hb hc3)⟩
      have hlt2 : n < (xs.length : Int) := by omega
      simp only [execOp, h, ex, h2.lit_inv, Instr.indexAt, asIntOf, Sem.run_bind, run_under (ht.sliceE hd), Result.andThen_ok, Sem.run_pure, h0, hlt2, and_self, if_true, run_size he, hsz', addr_add, decide_eq_true_eq]

theorem rd_len_sl {o : Oper} {t e : Nat} {x : Operand} {it : TyI} {full : Bool} {sz : Nat} {xs : List (List AV)} (h : o.op = .call { callee := .builtin .len, args := #[x], argTypes := #[t] }) (ht : TyOK P t it)
    (hd : it.td = .td (.slice e)) (hx : st.ev x = .sl full sz xs) : Reads P st o (.lit (.int .i64 xs.length)) := by
  refine rd_pure fun S0 B w0 I a w1 hr w => ?_
  have h1 := hr.ev x
  rw [hx] at h1
  generalize ex : a.eval x = y at h1
  have : ∃ ad cap, y = .slice ad xs.length cap := by
    cases h1 with | std h1 => cases h1 with | sl0 => exact ⟨_, _, rfl⟩ | sl => exact ⟨_, _, rfl⟩
  obtain ⟨ad, cap, rfl⟩ := this
  simp [execOp, h, ex, resolve, invoke, builtin, Builtin.len_, goInt, run_under (ht.sliceE hd)]

theorem rd_len_nil {o : Oper} {t e : Nat} {x : Operand} {it : TyI} (h : o.op = .call { callee := .builtin .len, args := #[x], argTypes := #[t] }) (ht : TyOK P t it)
    (hd : it.td = .td (.slice e)) (hx : st.ev x = .lit (.slice none 0 0)) : Reads P st o (.lit (.int .i64 0)) := by
  refine rd_pure fun S0 B w0 I a w1 hr w => ?_
  have h1 := hr.ev x
  rw [hx] at h1
  simp [execOp, h, h1.lit_inv, resolve, invoke, builtin, Builtin.len_, goInt, run_under (ht.sliceE hd)]

theorem rd_len_str {o : Oper} {t : Nat} {x : Operand} {it : TyI} {s : ByteArray} (h : o.op = .call { callee := .builtin .len, args := #[x], argTypes := #[t] }) (ht : TyOK P t it)
    (hd : it.td = .td .string) (hx : st.ev x = .lit (.string s)) : Reads P st o (.lit (.int .i64 s.size)) := by
  refine rd_pure fun S0 B w0 I a w1 hr w => ?_
  have h1 := hr.ev x
  rw [hx] at h1
  obtain ⟨hd2, _⟩ := ht; rw [hd] at hd2
  simp [execOp, h, h1.lit_inv, resolve, invoke, builtin, Builtin.len_, goInt, run_under hd2.1]

theorem Rep.tup_inv {I : Interp} {w : World} {cs : List AV} {x : Value} (h : Rep I w (.v (.tup cs) x)) : ∃ vs, x = .tuple vs.toArray ∧ Rep I w (.l cs vs) := by
  cases h with
  | std h => cases h with | tup h => exact ⟨_, rfl, h.l_rep⟩
  | tup h => exact ⟨_, rfl, h⟩

theorem Rep.agg_inv {I : Interp} {w : World} {cs : List AV} {x : Value} (h : Rep I w (.v (.agg cs) x)) : ∃ vs, x = .agg vs.toArray ∧ Rep I w (.l cs vs) := by
  cases h with
  | std h => cases h with | agg h => exact ⟨_, rfl, h.l_rep⟩
  | agg h => exact ⟨_, rfl, h⟩

theorem Rep.l_at {I : Interp} {w : World} {cs : List AV} {vs : List Value} (h : Rep I w (.l cs vs)) {j : Nat} {c : AV} (hj : cs[j]? = some c) : ∃ v, vs[j]? = some v ∧ Rep I w (.v c v) := by
  induction cs generalizing vs j with
  | nil => simp at hj
  | cons a as ih =>
    cases h with
    | cons h1 h2 =>
      cases j with
      | zero => simp at hj; subst hj; exact ⟨_, rfl, h1⟩
      | succ j => simpa using ih h2 (by simpa using hj)

theorem Rep.l_len {I : Interp} {w : World} {cs : List AV} {vs : List Value} (h : Rep I w (.l cs vs)) : vs.length = cs.length := by
  induction cs generalizing vs with
  | nil => cases h; rfl
  | cons a as ih => cases h with | cons _ h2 => simp [ih h2]

theorem Rep.l_drop {I : Interp} {w : World} {cs : List AV} {vs : List Value} (h : Rep I w (.l cs vs)) (n : Nat) : Rep I w (.l (cs.drop n) (vs.drop n)) := by
  induction n generalizing cs vs with
  | zero => simpa using h
  | succ n ih =>
    cases cs with
    | nil => cases h; exact .nil
    | cons a as => cases h with | cons _ h2 => simpa using ih h2

theorem Rep.l_take {I : Interp} {w : World} {cs : List AV} {vs : List Value} (h : Rep I w (.l cs vs)) (n : Nat) : Rep I w (.l (cs.take n) (vs.take n)) := by
  induction n generalizing cs vs with
  | zero => simpa using (Rep.nil (I := I) (w := w))
  | succ n ih =>
    cases cs with
    | nil => cases h; exact .nil
    | cons a as => cases h with | cons h1 h2 => simpa using Rep.cons h1 (ih h2)

theorem Rep.l_app {I : Interp} {w : World} {cs ds : List AV} {vs us : List Value} (h : Rep I w (.l cs vs)) (h2 : Rep I w (.l ds us)) : Rep I w (.l (cs ++ ds) (vs ++ us)) := by
  induction cs generalizing vs with
  | nil => cases h; exact h2
  | cons a as ih => cases h with | cons h1 h3 => exact .cons h1 (ih h3)

theorem rd_extract {o : Oper} {x : Operand} {j : Nat} {cs : List AV} {c : AV} (h : o.op = .extract x j) (hx : st.ev x = .tup cs) (hj : cs[j]? = some c) : Reads P st o c := by
  intro S0 B w0 I a w hr
  have h1 := hr.ev x
  rw [hx] at h1
  obtain ⟨vs, e, h2⟩ := h1.tup_inv
  obtain ⟨v, h3, h4⟩ := h2.l_at hj
  refine ⟨v, fun w' hw => ?_, h4⟩
  simp [execOp, h, e, Instr.extract, h3]

theorem rd_nilCheck_pt {o : Oper} {x : Operand} {cs : List AV} (h : o.op = .nilCheck x) (hx : st.ev x = .pt cs) : Reads P st o (.pt cs) := by
  intro S0 B w0 I a w hr
  have h1 := hr.ev x
  have h2 := h1
  rw [hx] at h1
  obtain ⟨b, of, e, _⟩ := h1.pt_inv
  rw [hx, e] at h2
  exact ⟨_, fun w' hw => by simp [execOp, h, e], h2⟩

theorem rd_nilCheck_hp {o : Oper} {x : Operand} {id off : Nat} (h : o.op = .nilCheck x) (hx : st.ev x = .hp id off) : Reads P st o (.hp id off) := by
  intro S0 B w0 I a w hr
  have h1 := hr.ev x
  have h2 := h1
  rw [hx] at h1
  obtain ⟨b, of, _, _, e⟩ := h1.hp_inv
  rw [hx, e] at h2
  exact ⟨_, fun w' hw => by simp [execOp, h, e], h2⟩

/-- A field of a struct's value. -/
theorem rd_field {o : Oper} {t j off ft : Nat} {x : Operand} {i ift : TyI} {fs : List (Nat × Nat)} {cs : List AV} {c : AV} (h : o.op = .field t x j) (ht : TyOK P t i) (hd : i.td = .agg fs) (hj : fs[j]? = some (off, ft))
    (hft : TyOK P ft ift) (ha : ift.isAgg = false) (hx : st.ev x = .agg cs) (hc : cs[off]? = some c) : Reads P st o c := by
  intro S0 B w0 I a w hr
  have h1 := hr.ev x
  rw [hx] at h1
  obtain ⟨vs, e, h2⟩ := h1.agg_inv
  obtain ⟨v, h3, h4⟩ := h2.l_at hc
  obtain ⟨fields, g2, fd, g3, rfl, rfl⟩ := ht.field hd hj
  refine ⟨v, fun w' hw => ?_, h4⟩
  simp [execOp, h, e, Instr.field, run_under g2, g3, asAgg, part, run_isAgg hft, ha, h3]

theorem rd_field_agg {o : Oper} {t j off ft : Nat} {x : Operand} {i ift : TyI} {fs : List (Nat × Nat)} {cs : List AV} (h : o.op = .field t x j) (ht : TyOK P t i) (hd : i.td = .agg fs) (hj : fs[j]? = some (off, ft))
    (hft : TyOK P ft ift) (ha : ift.isAgg = true) (hx : st.ev x = .agg cs) : Reads P st o (.agg ((cs.drop off).take ift.size)) := by
  intro S0 B w0 I a w hr
  have h1 := hr.ev x
  rw [hx] at h1
  obtain ⟨vs, e, h2⟩ := h1.agg_inv
  obtain ⟨fields, g2, fd, g3, rfl, rfl⟩ := ht.field hd hj
  have h4 := (h2.l_drop fd.offset).l_take ift.size
  refine ⟨_, fun w' hw => ?_, .agg h4⟩
  have e2 : vs.toArray.extract fd.offset (fd.offset + ift.size) = ((vs.drop fd.offset).take ift.size).toArray := by
    rw [List.extract_toArray]; simp [List.extract_eq_drop_take']
  simp [execOp, h, e, Instr.field, run_under g2, g3, asAgg, part, run_isAgg hft, ha, run_size hft, e2]

end

section
variable {P : Program} {f : Nat} {Q : Post} {st st' : St}

/-- How a call begins. -/
theorem good_of_run {Q : AV → Prop} {fn : Func} {c : Code} {args : List AV} (hf : P.funcs[f]? = some fn) (hb : fn.body = some c) (hn : Nat.ble args.length fn.ntmps = true)
    (h : Run P f (Post.one Q) [.code c] ⟨(List.range args.length).zip args, [], 0, fn.ntmps⟩) : Good P f args Q := by
  intro S0 w vs hS hv cs
  have hn' := Nat.le_of_ble_eq_true hn
  have hlen : vs.length = args.length := (hv.l_rep (I := ⟨S0, fun _ => none, fun _ => 0, fun _ => 0, 0⟩)).l_len
  let b : Frame := { (default : Frame) with fn := f, kind := .normal, roundOf := none }
  have henter : Frame.enter P f vs.toArray .normal = b.atR { tmps := vs.toArray ++ Array.replicate (fn.ntmps - vs.toArray.size) undef, defers := [] } [.code c] := by
    simp [Frame.enter, Frame.atR, hf, hb, b]
  rw [henter]
  suffices hrel : Rel ⟨S0, fun _ => none, fun _ => 0, fun _ => 0, 0⟩ w.heap.size w ⟨S0, fun _ => none, fun _ => 0, fun _ => 0, 0⟩ ⟨(List.range args.length).zip args, [], 0, fn.ntmps⟩ { tmps := vs.toArray ++ Array.replicate (fn.ntmps - vs.toArray.size) undef, defers := [] } w by
    obtain ⟨e, w', h1, fr, h2, h3, h4⟩ := h _ _ w _ _ w rfl hrel rfl b rfl rfl rfl cs
    exact ⟨e, w', fr, h1, h2, h3, h4⟩
  refine ⟨fun d => ?_, by simp; omega, rfl, ⟨[], .nil, List.nodup_nil, by simp⟩, hS, Ext.refl _ _, fun _ h => .inl h, Below.refl _ _, Nat.le_refl _⟩
  have key : ∀ (n : Nat) (as : List AV) (xs : List Value), Std S0 w (.l as xs) → ∀ d, (∃ v x, get d ((List.range' n as.length).zip as) = v ∧ n ≤ d ∧ xs[d - n]? = some x ∧ Std S0 w (.v v x)) ∨ get d ((List.range' n as.length).zip as) = .any := by
    intro n as
    induction as generalizing n with
    | nil => intro xs _ d; right; rfl
    | cons a as ih =>
      intro xs hx d
      cases hx with
      | cons h1 h2 =>
        simp only [List.length_cons, List.range'_succ, List.zip_cons_cons]
        rw [get_cons]
        by_cases e : n = d
        · subst e; left; exact ⟨a, _, by simp, Nat.le_refl _, by simp, h1⟩
        · rw [if_neg e]
          rcases ih (n + 1) _ h2 d with ⟨v, x, g1, g2, g3, g4⟩ | g
          · left; refine ⟨v, x, g1, by omega, ?_, g4⟩
            rw [show d - n = (d - (n + 1)) + 1 from by omega]; simpa using g3
          · right; exact g
  rw [List.range_eq_range']
  rcases key 0 args vs hv d with ⟨v, x, g1, g2, g3, g4⟩ | g
  · rw [g1]
    have : (vs.toArray ++ Array.replicate (fn.ntmps - vs.toArray.size) undef).getD d undef = x := by
      have hd : d < vs.length := (List.getElem?_eq_some_iff.1 g3).1
      simp at g3
      simp [Array.getD_eq_getD_getElem?, Array.getElem?_append, hd]
      obtain ⟨_, g3⟩ := List.getElem?_eq_some_iff.1 g3
      exact g3
    rw [this]; exact .std g4
  · rw [g]; exact .std (.any _)
end
end Go.Ax

/- How a call ends, and what a call of a told function comes to. -/
namespace Go.Ax
open Go.RowKit
set_option linter.unusedVariables false
set_option linter.unusedSimpArgs false

/-- What hangs on no entry. -/
inductive Closed : AV → Prop
  | lit (v) : Closed (.lit v)
  | sl (f s xs) : Closed (.sl f s xs)
  | pt (cs) : Closed (.pt cs)
  | osl (s xs) : Closed (.osl s xs)
  | opt (cs) : Closed (.opt cs)
  | any : Closed .any

def AV.closed : AV → Bool
  | .lit _ | .sl .. | .pt _ | .osl .. | .opt _ | .any | .fn _ [] => true
  | _ => false

theorem Rep.std_of {I : Interp} {w : World} {a : AV} {x : Value} (h : Rep I w (.v a x)) (hc : a.closed = true) : Std I.S w (.v a x) := by
  cases h with
  | std h => exact h
  | @fn f cs vs h =>
    cases cs with
    | nil => cases h; exact .fn .nil
    | cons a l => cases hc
  | _ => cases hc

theorem Leaf.own {I : Interp} {w : World} {a : AV} {x : Value} {F : List Nat} (h : Leaf I w a x F) (hc : a.closed = true) : Own I.S w (.v a x) F := by
  rcases h with ⟨h, rfl⟩ | h
  · exact .std (h.std_of hc)
  · exact h

theorem Leaves.own {I : Interp} {w : World} {as : List AV} {xs : List Value} {F : List Nat} (h : Leaves I w as xs F) (hc : as.all AV.closed = true) : Own I.S w (.l as xs) F := by
  induction h with
  | nil => exact .nil
  | cons h _ ih =>
    simp only [List.all_cons, Bool.and_eq_true] at hc
    exact .cons (h.own hc.1) (ih hc.2)

def resVar (rv : ResultVar) (tmps : Array Value) : Sem Value :=
  match rv with
  | .tmp t => pure (tmps.getD t undef)
  | .cell a t => do loadVar t (← asAddr (tmps.getD a undef))

/-- A result, and the entries that are left. -/
def Res (P : Program) (st : St) (hp : List (Nat × Row)) (rv : ResultVar) (r : AV) (hp' : List (Nat × Row)) : Prop :=
  ∀ (I : Interp) (w : World) (tmps : Array Value) (T : List Nat), (∀ d, Rep I w (.v (get d st.tm) (tmps.getD d undef))) → HeapOK I w hp T → (∀ id b o, I.at_ id = some (b, o) → True) →
    ∃ x F T' G, (resVar rv tmps).run P w = .ok x w ∧ Own I.S w (.v r x) F ∧ HeapOK I w hp' T' ∧ T.Perm (F ++ (T' ++ G))

section
variable {P : Program} {st : St} {hp : List (Nat × Row)}

theorem res_tmp {d : Nat} {v : AV} (hv : get d st.tm = v) {r : AV} {hp' : List (Nat × Row)} (hf : fold1 hp v = (r, hp')) (hc : r.closed = true) : Res P st hp (.tmp d) r hp' := by
  intro I w tmps T hr hh _
  have h1 := hr d
  rw [hv] at h1
  obtain ⟨F, T', g1, g2, g3⟩ := fold1_ok hh h1
  rw [hf] at g1 g2
  exact ⟨_, F, T', [], rfl, g1.own hc, g2, by simpa using g3⟩

theorem res_agg {d : Nat} {cs : List AV} (hv : get d st.tm = .agg cs) {rs : List AV} {hp' : List (Nat × Row)} (hf : foldL hp cs = (rs, hp')) (hc : rs.all AV.closed = true) : Res P st hp (.tmp d) (.agg rs) hp' := by
  intro I w tmps T hr hh _
  have h1 := hr d
  rw [hv] at h1
  obtain ⟨vs, e, h2⟩ := h1.agg_inv
  obtain ⟨F, T', g1, g2, g3⟩ := foldL_ok h2 hh
  rw [hf] at g1 g2
  exact ⟨_, F, T', [], rfl, by rw [e]; exact .agg (g1.own hc), g2, by simpa using g3⟩

theorem res_cell {d t id : Nat} {i : TyI} {cs : List AV} (hv : get d st.tm = .hp id 0) (ht : TyOK P t i) (ha : i.isAgg = false) (hrow : row id hp = some (.var cs)) {r : AV} {rest : List AV} (hcs : cs = r :: rest) (hc : r.closed = true) :
    Res P st hp (.cell d t) r (rem id hp) := by
  intro I w tmps T hr hh _
  have h1 := hr d
  rw [hv] at h1
  obtain ⟨b, of, hi, hat, e⟩ := h1.hp_inv
  obtain ⟨F, T', g1, g2, g3⟩ := hh.take hrow
  obtain ⟨c, G, _, hb, hs, hvc, rfl⟩ := g1.var_inv hat
  subst hcs
  cases hvc with
  | @cons _ _ x _ F1 F2 hce hl hr2 =>
    refine ⟨x, F1, T', b :: F2, ?_, hl.own hc, g2, g3.trans (List.perm_iff_count.2 fun z => by simp only [List.count_append, List.count_cons]; omega)⟩
    simp only [resVar, e, asAddr, loadVar, Sem.run_bind, Sem.run_pure, Result.andThen_ok, run_isAgg ht, ha, if_false, Bool.false_eq_true, run_load, Nat.add_zero, hce]

theorem res_cells {d t id : Nat} {i : TyI} {cs : List AV} (hv : get d st.tm = .hp id 0) (ht : TyOK P t i) (ha : i.isAgg = true) (hrow : row id hp = some (.var cs)) (hn : Nat.beq i.size cs.length = true) (hc : cs.all AV.closed = true) :
    Res P st hp (.cell d t) (.agg cs) (rem id hp) := by
  intro I w tmps T hr hh _
  have h1 := hr d
  rw [hv] at h1
  obtain ⟨b, of, hi, hat, e⟩ := h1.hp_inv
  obtain ⟨F, T', g1, g2, g3⟩ := hh.take hrow
  obtain ⟨c, G, _, hb, hs, hvc, rfl⟩ := g1.var_inv hat
  obtain ⟨xs, l1, l2, l3⟩ := hvc.leaves
  refine ⟨.agg xs.toArray, G, T', [b], ?_, .agg (l1.own hc), g2, g3.trans (List.perm_iff_count.2 fun z => by simp only [List.count_append, List.count_cons, List.count_nil]; omega)⟩
  have := run_cells (P := P) xs l2
  rw [l3, ← Nat.eq_of_beq_eq_true hn] at this
  simp only [resVar, e, asAddr, loadVar, Sem.run_bind, Sem.run_pure, Result.andThen_ok, run_isAgg ht, ha, if_true, run_size ht, Nat.add_zero, this]

end
/-- One result more. -/
inductive ResL (P : Program) (st : St) : List (Nat × Row) → List ResultVar → List AV → Prop
  | nil {hp} : ResL P st hp [] []
  | cons {hp hp' rv rvs r rs} : Res P st hp rv r hp' → ResL P st hp' rvs rs → ResL P st hp (rv :: rvs) (r :: rs)

section
variable {P : Program} {st : St} {hp : List (Nat × Row)}
theorem ResL.run {rvs : List ResultVar} {rs : List AV} (h : ResL P st hp rvs rs) : ∀ (I : Interp) (w : World) (tmps : Array Value) (T : List Nat), (∀ d, Rep I w (.v (get d st.tm) (tmps.getD d undef))) → HeapOK I w hp T →
    ∃ xs F G, (rvs.mapM fun rv => resVar rv tmps).run P w = .ok xs w ∧ Own I.S w (.l rs xs) F ∧ T.Perm (F ++ G) ∧ xs.length = rvs.length := by
  induction h with
  | nil => intro I w tmps T hr hh; exact ⟨[], [], T, by simp, .nil, List.Perm.refl _, rfl⟩
  | cons h _ ih =>
    intro I w tmps T hr hh
    obtain ⟨x, F, T', G, h1, h2, h3, h4⟩ := h I w tmps T hr hh (fun _ _ _ _ => trivial)
    obtain ⟨xs, F2, G2, k1, k2, k3, k4⟩ := ih I w tmps T' hr h3
    refine ⟨x :: xs, F ++ F2, G2 ++ G, ?_, .cons h2 k2, ?_, by simp [k4]⟩
    · simp only [List.mapM_cons, Sem.run_bind, h1, Result.andThen_ok, k1, Sem.run_pure]
    · refine h4.trans ?_
      rw [List.append_assoc]
      refine List.Perm.append_left F ?_
      rw [← List.append_assoc]
      exact List.Perm.append_right G k3

/-- What a call hands back: one result by itself, else all of them together. -/
def asRes : List AV → AV
  | [r] => r
  | rs => .tup rs

theorem leave_of {f : Nat} {fn : Func} {rs : List AV} (hf : P.funcs[f]? = some fn) (h : ResL P st st.hp fn.results.toList rs) {S0 : Interp} {B : Nat} {w0 : World} {I : Interp} {a : Act} {w : World} (hr : Rel S0 B w0 I st a w) (hds : a.defers = [])
    (b : Frame) (hb : b.fn = f) (hk : b.kind = .normal) (todo : List Item) : ∃ v, Fin S0.S B w0 (asRes rs) (.returned v) w ∧ Frame.leaving P { b.atR a todo with mode := .returning } w (.returned v) := by
  obtain ⟨T, k1, k2, k3⟩ := hr.hp
  obtain ⟨xs, F, G, h1, h2, h3, h4⟩ := h.run I w a.tmps T hr.tm k1
  have hres : (results fn a.tmps).run P w = .ok (if h : xs.toArray.size = 1 then xs.toArray[0] else .tuple xs.toArray) w := by
    have e : results fn a.tmps = (do let vs ← fn.results.mapM (fun rv => resVar rv a.tmps); pure (if h : vs.size = 1 then vs[0] else .tuple vs)) := rfl
    rw [e, ← Array.toArray_toList (xs := fn.results), List.mapM_toArray]
    simp only [Sem.run_bind, Sem.run_map, h1, Result.andThen_ok, Sem.run_pure]
  have hF : ∀ z ∈ F, z ∈ T := fun z hz => h3.mem_iff.2 (List.mem_append_left _ hz)
  have hnd : F.Nodup := (List.nodup_append.1 (h3.nodup_iff.1 k2)).1
  have fin : ∀ v, Own I.S w (.v (asRes rs) v) F → Fin S0.S B w0 (asRes rs) (.returned v) w := fun v hv => ⟨v, I.S, F, rfl, hv, hnd, fun z hz => k3 z (hF z hz), hr.ss, hr.ext.S, hr.sb, hr.bl⟩
  refine ⟨_, fin _ ?_, rfl, hds, hk, fn, by subst hb; exact hf, hres⟩
  clear hres
  cases h2 with
  | nil => exact .tup .nil
  | cons g1 g2 =>
    cases g2 with
    | nil => simpa [asRes] using g1
    | cons g2 g3 => simpa [asRes] using Own.tup (.cons g1 (.cons g2 g3))

variable {f : Nat} {Q : AV → Prop} {k : List Item}

theorem run_ret {fn : Func} {rs : List AV} (hf : P.funcs[f]? = some fn) (h : ResL P st st.hp fn.results.toList rs) (hq : Q (asRes rs)) : Run P f (Post.one Q) (.code .ret :: k) st := by
  intro S0 B w0 I a w hlo hr hds b hb hk hro cs
  obtain ⟨v, h1, h2⟩ := leave_of hf h hr hds b hb hk (.code .ret :: k)
  exact ⟨_, w, ⟨_, hq, h1⟩, _, Steps.one (stepR_ret hro), hb, h2⟩

theorem run_fall {fn : Func} {rs : List AV} (hf : P.funcs[f]? = some fn) (h : ResL P st st.hp fn.results.toList rs) (hq : Q (asRes rs)) : Run P f (Post.one Q) [] st := by
  intro S0 B w0 I a w hlo hr hds b hb hk hro cs
  obtain ⟨v, h1, h2⟩ := leave_of hf h hr hds b hb hk []
  exact ⟨_, w, ⟨_, hq, h1⟩, _, Steps.one (stepR_end hro), hb, h2⟩
end
end Go.Ax
