/- The abstract values of a symbolic run, and what they say of the machine's memory: plain definitions and how they last. -/
import Derived.Below
import Derived.Calls
namespace Go.Ax
open Go.RowKit

/-- An abstract value. -/
inductive AV where
  | any
  | lit (v : Value)
  | agg (cs : List AV)
  | tup (cs : List AV)
  | sl (full : Bool) (sz : Nat) (xs : List (List AV))
  | pt (cs : List AV)
  | osl (sz : Nat) (xs : List (List AV))
  | opt (cs : List AV)
  | hw (id : Nat)
  | hs (id lo n : Nat)
  | hp (id off : Nat)
  | hq (id i off : Nat)
  | fn (f : Nat) (cs : List AV)
  | mp (kvs : List (Int × Int))

/-- What a heap's entry holds: a variable's cells, or a row of elements of sz cells each. -/
inductive Row where
  | var (cs : List AV)
  | row (sz : Nat) (xs : List (List AV))
  | foc (sz : Nat) (xs : List (List AV)) (cs : List AV) (n off j : Nat)

/-- Which blocks stay as they are, and where the entries lie. -/
structure Interp where
  S : Nat → Prop
  at_ : Nat → Option (Nat × Nat)
  ln : Nat → Nat
  sz : Nat → Nat
  nx : Nat

/-- What is asked: of one value, of a list of values, of the cells from an address on. -/
inductive Ask where
  | v (a : AV) (x : Value)
  | l (as : List AV) (xs : List Value)
  | c (b o : Nat) (as : List AV)

/-- Block b is a row of cells that may be written. -/
def Blk (w : World) (b : Nat) (c : Array Value) : Prop := ∃ e, w.heap[b]? = some (.cells c e (0, 0))

/-- What does not hang on entries: all of it lies in blocks that stay. -/
inductive Std (S : Nat → Prop) (w : World) : Ask → Prop
  | any (x) : Std S w (.v .any x)
  | lit (x) : Std S w (.v (.lit x) x)
  | agg {cs vs} : Std S w (.l cs vs) → Std S w (.v (.agg cs) (.agg vs.toArray))
  | tup {cs vs} : Std S w (.l cs vs) → Std S w (.v (.tup cs) (.tuple vs.toArray))
  | sl0 {full sz a cap} : (full = true → cap = 0) → (a = none → cap = 0) → Std S w (.v (.sl full sz []) (.slice a 0 cap))
  | sl {full sz xs b o cap} : (full = true → cap = xs.length) → xs.length ≤ cap → (∀ x ∈ xs, x.length = sz) → S b →
      Std S w (.c b o xs.flatten) → Std S w (.v (.sl full sz xs) (.slice (some ⟨b, o, none⟩) xs.length cap))
  | pt {cs b o} : S b → Std S w (.c b o cs) → Std S w (.v (.pt cs) (.pointer (some ⟨b, o, none⟩)))
  | fn {f cs vs} : Std S w (.l cs vs) → Std S w (.v (.fn f cs) (.func (.func f) #[] vs.toArray))
  | mp {r es clock kvs} : S r → w.heap[r]? = some (.map es clock) → es.toList.map (fun e => (e.key, e.val)) = kvs.map (fun p => (Value.int .i64 p.1, Value.int .i64 p.2)) → Std S w (.v (.mp kvs) (.map (some r)))
  | nil : Std S w (.l [] [])
  | cons {a x as xs} : Std S w (.v a x) → Std S w (.l as xs) → Std S w (.l (a :: as) (x :: xs))
  | cnil {b o} : Std S w (.c b o [])
  | ccons {b o a x as} : w.cell? ⟨b, o, none⟩ = some x → Std S w (.v a x) → Std S w (.c b (o + 1) as) → Std S w (.c b o (a :: as))

theorem Std.mono {S S' : Nat → Prop} {w w' : World} {q : Ask} (h : Std S w q) (hS : ∀ b, S b → S' b) (hw : ∀ b, S b → w'.heap[b]? = w.heap[b]?) : (∀ b o as, q = .c b o as → S b) → Std S' w' q := by
  induction h with
  | any => exact fun _ => .any _
  | lit => exact fun _ => .lit _
  | agg _ ih => exact fun _ => .agg (ih (by simp))
  | tup _ ih => exact fun _ => .tup (ih (by simp))
  | sl0 h h2 => exact fun _ => .sl0 h h2
  | sl h1 h2 h3 hb _ ih => exact fun _ => .sl h1 h2 h3 (hS _ hb) (ih (fun _ _ _ e => by cases e; exact hb))
  | pt hb _ ih => exact fun _ => .pt (hS _ hb) (ih (fun _ _ _ e => by cases e; exact hb))
  | fn _ ih => exact fun _ => .fn (ih (by simp))
  | mp h1 h2 h3 => exact fun _ => .mp (hS _ h1) ((hw _ h1).trans h2) h3
  | nil => exact fun _ => .nil
  | cons _ _ ih1 ih2 => exact fun _ => .cons (ih1 (by simp)) (ih2 (by simp))
  | cnil => exact fun _ => .cnil
  | ccons hc _ _ ih1 ih2 =>
    intro hq
    have hb := hq _ _ _ rfl
    refine .ccons ?_ (ih1 (by simp)) (ih2 (fun _ _ _ e => by cases e; exact hb))
    rw [← hc]
    exact World.cell?_of_block (w := w) (hw _ hb)

/-- What may hang on entries, too. -/
inductive Rep (I : Interp) (w : World) : Ask → Prop
  | std {a x} : Std I.S w (.v a x) → Rep I w (.v a x)
  | agg {cs vs} : Rep I w (.l cs vs) → Rep I w (.v (.agg cs) (.agg vs.toArray))
  | tup {cs vs} : Rep I w (.l cs vs) → Rep I w (.v (.tup cs) (.tuple vs.toArray))
  | fn {f cs vs} : Rep I w (.l cs vs) → Rep I w (.v (.fn f cs) (.func (.func f) #[] vs.toArray))
  | nil : Rep I w (.l [] [])
  | cons {a x as xs} : Rep I w (.v a x) → Rep I w (.l as xs) → Rep I w (.l (a :: as) (x :: xs))
  | hw0 {id a} : id < I.nx → I.at_ id = none → I.ln id = 0 → True → Rep I w (.v (.hw id) (.slice a 0 0))
  | hw {id cap c b o} : id < I.nx → I.at_ id = some (b, o) → I.ln id ≤ cap → Blk w b c → o + cap * I.sz id ≤ c.size → Rep I w (.v (.hw id) (.slice (some ⟨b, o, none⟩) (I.ln id) cap))
  | hs0 {id lo a} : id < I.nx → True → Rep I w (.v (.hs id lo 0) (.slice a 0 0))
  | hs {id lo n cap c b o} : id < I.nx → I.at_ id = some (b, o) → n ≤ cap → Blk w b c → o + (lo + cap) * I.sz id ≤ c.size → Rep I w (.v (.hs id lo n) (.slice (some ⟨b, o + lo * I.sz id, none⟩) n cap))
  | hp {id off b o} : id < I.nx → I.at_ id = some (b, o) → Rep I w (.v (.hp id off) (.pointer (some ⟨b, o + off, none⟩)))
  | hq {id i off b o} : id < I.nx → I.at_ id = some (b, o) → Rep I w (.v (.hq id i off) (.pointer (some ⟨b, o + i * I.sz id + off, none⟩)))

/-- What an entry's blocks still are later: rows of cells of the same number. -/
def Lasts (w w' : World) : Prop := ∀ b c, Blk w b c → ∃ c', Blk w' b c' ∧ c'.size = c.size

/-- One standing goes on in another. -/
structure Ext (I : Interp) (w : World) (I' : Interp) (w' : World) : Prop where
  S : ∀ b, I.S b → I'.S b
  hold : ∀ b, I.S b → w'.heap[b]? = w.heap[b]?
  nx : I.nx ≤ I'.nx
  at_ : ∀ id, id < I.nx → I'.at_ id = I.at_ id
  ln : ∀ id, id < I.nx → I'.ln id = I.ln id
  sz : ∀ id, id < I.nx → I'.sz id = I.sz id
  last : Lasts w w'

theorem Std.monoV {S S' : Nat → Prop} {w w' : World} {a : AV} {x : Value} (h : Std S w (.v a x)) (hS : ∀ b, S b → S' b) (hw : ∀ b, S b → w'.heap[b]? = w.heap[b]?) : Std S' w' (.v a x) := h.mono hS hw (by simp)

theorem Rep.mono {I I' : Interp} {w w' : World} {q : Ask} (h : Rep I w q) (e : Ext I w I' w') : Rep I' w' q := by
  induction h with
  | std h => exact .std (h.monoV e.S e.hold)
  | agg _ ih => exact .agg ih
  | tup _ ih => exact .tup ih
  | fn _ ih => exact .fn ih
  | nil => exact .nil
  | cons _ _ ih1 ih2 => exact .cons ih1 ih2
  | hw0 h ha h0 hc => exact .hw0 (Nat.lt_of_lt_of_le h e.nx) ((e.at_ _ h).trans ha) ((e.ln _ h).trans h0) hc
  | hw h ha hn hb hs =>
    obtain ⟨c', hb', hc'⟩ := e.last _ _ hb
    rw [← e.sz _ h] at hs
    rw [← e.ln _ h] at hn ⊢
    exact .hw (Nat.lt_of_lt_of_le h e.nx) ((e.at_ _ h).trans ha) hn hb' (by omega)
  | hs0 h hc => exact .hs0 (Nat.lt_of_lt_of_le h e.nx) hc
  | hs h ha hn hb hs =>
    obtain ⟨c', hb', hc'⟩ := e.last _ _ hb
    rw [← e.sz _ h] at hs ⊢
    exact .hs (Nat.lt_of_lt_of_le h e.nx) ((e.at_ _ h).trans ha) hn hb' (by omega)
  | hp h ha => exact .hp (Nat.lt_of_lt_of_le h e.nx) ((e.at_ _ h).trans ha)
  | hq h ha => rw [← e.sz _ h]; exact .hq (Nat.lt_of_lt_of_le h e.nx) ((e.at_ _ h).trans ha)

/-- What is one's own: which blocks it takes. -/
inductive Own (S : Nat → Prop) (w : World) : Ask → List Nat → Prop
  | std {a x} : Std S w (.v a x) → Own S w (.v a x) []
  | agg {cs vs F} : Own S w (.l cs vs) F → Own S w (.v (.agg cs) (.agg vs.toArray)) F
  | tup {cs vs F} : Own S w (.l cs vs) F → Own S w (.v (.tup cs) (.tuple vs.toArray)) F
  | osl0 {sz a} : True → Own S w (.v (.osl sz []) (.slice a 0 0)) []
  | osl {sz xs b o cap c F} : Blk w b c → xs.length ≤ cap → (∀ x ∈ xs, x.length = sz) → o + cap * sz ≤ c.size → Own S w (.c b o xs.flatten) F →
      Own S w (.v (.osl sz xs) (.slice (some ⟨b, o, none⟩) xs.length cap)) (b :: F)
  | opt {cs b o c F} : Blk w b c → o + cs.length ≤ c.size → Own S w (.c b o cs) F → Own S w (.v (.opt cs) (.pointer (some ⟨b, o, none⟩))) (b :: F)
  | nil : Own S w (.l [] []) []
  | cons {a x as xs F G} : Own S w (.v a x) F → Own S w (.l as xs) G → Own S w (.l (a :: as) (x :: xs)) (F ++ G)
  | cnil {b o} : Own S w (.c b o []) []
  | ccons {b o a x as F G} : w.cell? ⟨b, o, none⟩ = some x → Own S w (.v a x) F → Own S w (.c b (o + 1) as) G → Own S w (.c b o (a :: as)) (F ++ G)

theorem Own.mono {S S' : Nat → Prop} {w w' : World} {q : Ask} {F : List Nat} (h : Own S w q F) (hS : ∀ b, S b → S' b) (hw : ∀ b, S b → w'.heap[b]? = w.heap[b]?)
    (hF : ∀ b ∈ F, w'.heap[b]? = w.heap[b]?) : (∀ b o as, q = .c b o as → w'.heap[b]? = w.heap[b]?) → Own S' w' q F := by
  induction h with
  | std h => exact fun _ => .std (h.monoV hS hw)
  | agg _ ih => exact fun _ => .agg (ih hF (by simp))
  | tup _ ih => exact fun _ => .tup (ih hF (by simp))
  | osl0 h => exact fun _ => .osl0 h
  | osl hb h1 h2 h3 _ ih =>
    intro _
    have hbb := hF _ (List.mem_cons_self ..)
    obtain ⟨e, he⟩ := hb
    exact .osl ⟨e, hbb.trans he⟩ h1 h2 h3 (ih (fun b hb => hF b (List.mem_cons_of_mem _ hb)) (fun _ _ _ e => by cases e; exact hbb))
  | opt hb h1 _ ih =>
    intro _
    have hbb := hF _ (List.mem_cons_self ..)
    obtain ⟨e, he⟩ := hb
    exact .opt ⟨e, hbb.trans he⟩ h1 (ih (fun b hb => hF b (List.mem_cons_of_mem _ hb)) (fun _ _ _ e => by cases e; exact hbb))
  | nil => exact fun _ => .nil
  | cons _ _ ih1 ih2 => exact fun _ => .cons (ih1 (fun b hb => hF b (List.mem_append_left _ hb)) (by simp)) (ih2 (fun b hb => hF b (List.mem_append_right _ hb)) (by simp))
  | cnil => exact fun _ => .cnil
  | ccons hc _ _ ih1 ih2 =>
    intro hq
    have hbb := hq _ _ _ rfl
    refine .ccons ?_ (ih1 (fun b hb => hF b (List.mem_append_left _ hb)) (by simp)) (ih2 (fun b hb => hF b (List.mem_append_right _ hb)) (fun _ _ _ e => by cases e; exact hbb))
    rw [← hc]
    exact World.cell?_of_block (w := w) hbb

end Go.Ax
