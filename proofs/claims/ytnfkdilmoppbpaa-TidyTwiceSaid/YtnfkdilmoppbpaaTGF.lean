/- A symbolic run, reckoned by a function: what one operation comes to, and what it asks. -/
import Derived.Test.YtnfkdilmoppbpaaTGE
import Derived.Laws.StructEq
set_option linter.unusedVariables false
set_option linter.unusedSimpArgs false

namespace Go.Ax
open Go.RowKit
set_option linter.unusedVariables false
set_option linter.unusedSimpArgs false

/-- What is to be shown, and how it goes on. -/
inductive Need (c k : Prop) : Prop
  | mk : c → k → Need c k
inductive Br (b : Bool) (t f : Prop) : Prop
  | mk : (b = true → t) → (b = false → f) → Br b t f
inductive Pick (xs : List (List AV)) (n : Int) (k : List AV → Prop) : Prop
  | mk (cs : List AV) : 0 ≤ n → xs[n.toNat]? = some cs → k cs → Pick xs n k
inductive PickN (xs : List (List AV)) (n : Nat) (k : List AV → Prop) : Prop
  | mk (cs : List AV) : xs[n]? = some cs → k cs → PickN xs n k
inductive Len (xs : List (List AV)) (k : Nat → Prop) : Prop
  | mk (n : Nat) : xs.length = n → k n → Len xs k
inductive MkS (m m2 : Int) (bytes : Nat) (k : Nat → Prop) : Prop
  | mk (n : Nat) : m = (n : Int) → m2 = (n : Int) → (n : Int) * bytes ≤ 281474976710656 → (n : Int) ≤ 9223372036854775807 → k n → MkS m m2 bytes k
inductive App (xs ys : List (List AV)) (bytes : Nat) (k : Prop) : Prop
  | mk : ys.flatten.all AV.own1 = true → (xs.length + ys.length) * bytes ≤ 140737488355328 → xs.length + ys.length ≤ 9223372036854775807 → k → App xs ys bytes k
inductive NilT (xs : List (List AV)) (neg : Bool) (k : Bool → Prop) : Prop
  | mk : (∀ b : Bool, (b = true → xs = []) → k (neg != b)) → NilT xs neg k
inductive Sub (xs : List (List AV)) (l m : Int) (k : List (List AV) → Prop) : Prop
  | mk (ys : List (List AV)) : 0 ≤ l → l ≤ m → m ≤ xs.length → (xs.drop l.toNat).take (m.toNat - l.toNat) = ys → k ys → Sub xs l m k
inductive SubFrom (xs : List (List AV)) (l : Int) (k : List (List AV) → Prop) : Prop
  | mk (ys : List (List AV)) : 0 ≤ l → l ≤ xs.length → xs.drop l.toNat = ys → k ys → SubFrom xs l k
inductive View (xs : List (List AV)) (k : List (List AV) → Prop) : Prop
  | mk (ys : List (List AV)) : AV.fzLL xs = ys → k ys → View xs k
inductive Look (F k : Prop) : Prop
  | yes : k → Look F k
  | stop : F → Look F k
inductive Stop (p : Prop) : Prop
  | mk : p → Stop p

theorem Br.t {b : Bool} {t f : Prop} (h : b = true) (k : t) : Br b t f := ⟨fun _ => k, fun e => by rw [h] at e; cases e⟩
theorem Br.f {b : Bool} {t f : Prop} (h : b = false) (k : f) : Br b t f := ⟨fun e => (by rw [h] at e; cases e), fun _ => k⟩
theorem Len.map {α : Type} {enc : α → List AV} {l : List α} {k : Nat → Prop} (h : k l.length) : Len (l.map enc) k := ⟨_, by simp, h⟩
theorem Pick.map {α : Type} {enc : α → List AV} {l : List α} {n : Nat} {k : List AV → Prop} {e : α} (h : l[n]? = some e) (hk : k (enc e)) : Pick (l.map enc) (n : Int) k := ⟨_, by omega, by simp [h], hk⟩
theorem Sub.map {α : Type} {enc : α → List AV} {l : List α} {a b : Nat} {k : List (List AV) → Prop} (h : a ≤ b) (h2 : b ≤ l.length) (hk : k (((l.drop a).take (b - a)).map enc)) : Sub (l.map enc) (a : Int) (b : Int) k :=
  ⟨_, by omega, by omega, by simp; omega, by simp [List.map_drop, List.map_take], hk⟩
theorem SubFrom.map {α : Type} {enc : α → List AV} {l : List α} {a : Nat} {k : List (List AV) → Prop} (h : a ≤ l.length) (hk : k ((l.drop a).map enc)) : SubFrom (l.map enc) (a : Int) k :=
  ⟨_, by omega, by simp; omega, by simp [List.map_drop], hk⟩
theorem fzLL_map {α : Type} {enc enc2 : α → List AV} (h : ∀ e, AV.fzL (enc e) = enc2 e) : ∀ (l : List α), AV.fzLL (l.map enc) = l.map enc2
  | [] => rfl
  | e :: l => by simp only [List.map_cons, AV.fzLL, h e, fzLL_map h l]
theorem View.map {α : Type} {enc enc2 : α → List AV} {l : List α} {k : List (List AV) → Prop} (h : ∀ e, AV.fzL (enc e) = enc2 e) (hk : k (l.map enc2)) : View (l.map enc) k := ⟨_, fzLL_map h l, hk⟩
theorem Pick.mapI {α : Type} {enc : α → List AV} {l : List α} {n : Int} {k : List AV → Prop} {e : α} (h0 : 0 ≤ n) (h : l[n.toNat]? = some e) (hk : k (enc e)) : Pick (l.map enc) n k := ⟨_, h0, by simp [h], hk⟩

/-- A value, and how it goes on: its head is reckoned first. -/
def AV.on (v : AV) (k : AV → Prop) : Prop := match v with
  | .any => k .any | .lit u => k (.lit u) | .agg cs => k (.agg cs) | .tup cs => k (.tup cs) | .sl f s xs => k (.sl f s xs) | .pt cs => k (.pt cs) | .osl s xs => k (.osl s xs) | .opt cs => k (.opt cs)
  | .hw i => k (.hw i) | .hs i l n => k (.hs i l n) | .hp i o => k (.hp i o) | .hq i j o => k (.hq i j o) | .fn f cs => k (.fn f cs) | .mp kvs => k (.mp kvs)
theorem AV.on_eq (v : AV) (k : AV → Prop) : v.on k = k v := by cases v <;> rfl

def onL : List AV → (List AV → Prop) → Prop
  | [], k => k []
  | a :: as, k => a.on fun a' => onL as fun as' => k (a' :: as')
theorem onL_eq (l : List AV) : ∀ (k : List AV → Prop), onL l k = k l := by
  induction l with
  | nil => intro k; rfl
  | cons a as ih => intro k; simp only [onL, AV.on_eq, ih]

def onLL : List (List AV) → (List (List AV) → Prop) → Prop
  | [], k => k []
  | a :: as, k => onL a fun a' => onLL as fun as' => k (a' :: as')
theorem onLL_eq (l : List (List AV)) : ∀ (k : List (List AV) → Prop), onLL l k = k l := by
  induction l with
  | nil => intro k; rfl
  | cons a as ih => intro k; simp only [onLL, onL_eq, ih]

/-- The same, a struct's or a tuple's parts too. -/
def AV.onD (v : AV) (k : AV → Prop) : Prop := match v with
  | .agg cs => onL cs fun cs => k (.agg cs)
  | .tup cs => onL cs fun cs => k (.tup cs)
  | v => v.on k
theorem AV.onD_eq (v : AV) (k : AV → Prop) : v.onD k = k v := by cases v <;> simp only [AV.onD, onL_eq, AV.on_eq]

def onH : List (Nat × Row) → (List (Nat × Row) → Prop) → Prop
  | [], k => k []
  | (i, .var cs) :: r, k => onH r fun r' => k ((i, .var cs) :: r')
  | (i, .row s xs) :: r, k => onH r fun r' => k ((i, .row s xs) :: r')
  | (i, .foc s xs cs n o j) :: r, k => onH r fun r' => k ((i, .foc s xs cs n o j) :: r')
  | (i, .lp L) :: r, k => onH r fun r' => k ((i, .lp L) :: r')
theorem onH_eq (l : List (Nat × Row)) : ∀ (k : List (Nat × Row) → Prop), onH l k = k l := by
  induction l with
  | nil => intro k; rfl
  | cons a as ih => obtain ⟨i, r⟩ := a; intro k; cases r <;> simp only [onH, ih]

/-- The types, by their numbers. -/
inductive TyT where
  | leaf
  | node (l : TyT) (k : Nat) (i : TyI) (r : TyT)
def TyT.find : TyT → Nat → Option TyI
  | .leaf, _ => none
  | .node l k i r, t => bif Nat.beq t k then some i else bif Nat.blt t k then l.find t else r.find t
def TyT.OK (P : Program) : TyT → Prop
  | .leaf => True
  | .node l k i r => l.OK P ∧ TyOK P k i ∧ r.OK P
theorem TyT.find_ok {P : Program} {t : Nat} {i : TyI} : ∀ {tr : TyT}, tr.OK P → tr.find t = some i → TyOK P t i
  | .leaf, _, h => by simp [TyT.find] at h
  | .node l k j r, h, e => by
    obtain ⟨h1, h2, h3⟩ := h
    simp only [TyT.find] at e
    cases hb : Nat.beq t k with
    | true => rw [hb] at e; simp at e; rw [Nat.eq_of_beq_eq_true hb, ← e]; exact h2
    | false =>
      rw [hb] at e
      cases hc : Nat.blt t k with
      | true => rw [hc] at e; exact TyT.find_ok h1 (by simpa using e)
      | false => rw [hc] at e; exact TyT.find_ok h3 (by simpa using e)
class HasT (P : Program) where
  tr : TyT
  ok : tr.OK P

def okNum (n : Int) : Prop := -9223372036854775808 ≤ n ∧ n ≤ 9223372036854775807

def arith (op : BinOp) (k : IntKind) (m n : Int) (K : AV → Prop) (F : Prop) : Prop :=
  match op, k with
  | .add, .i64 => Need (okNum (m + n)) (K (.lit (.int .i64 (m + n))))
  | .sub, .i64 => Need (okNum (m - n)) (K (.lit (.int .i64 (m - n))))
  | .mul, .i64 => Need (okNum (m * n)) (K (.lit (.int .i64 (m * n))))
  | .eql, _ => K (.lit (.bool (decide (m = n))))
  | .neq, _ => K (.lit (.bool (!decide (m = n))))
  | .lss, _ => K (.lit (.bool (decide (m < n))))
  | .leq, _ => K (.lit (.bool (decide (m ≤ n))))
  | .gtr, _ => K (.lit (.bool (decide (n < m))))
  | .geq, _ => K (.lit (.bool (decide (n ≤ m))))
  | .and, k => K (.lit (.int k (k.wrap (BitVec.ofInt k.bits m &&& BitVec.ofInt k.bits n).toNat)))
  | _, _ => F

def beqK : IntKind → IntKind → Bool
  | .i8, .i8 | .i16, .i16 | .i32, .i32 | .i64, .i64 | .u8, .u8 | .u16, .u16 | .u32, .u32 | .u64, .u64 => true
  | _, _ => false
theorem beqK_eq {a b : IntKind} (h : beqK a b = true) : a = b := by cases a <;> cases b <;> first | rfl | cases h

def truths (tr : TyT) (t : Nat) (op : BinOp) (m n : Bool) (K : AV → Prop) (F : Prop) : Prop :=
  match tr.find t with
  | some ⟨.td .bool, _, _, _⟩ => match op with
    | .eql => K (.lit (.bool (m == n)))
    | .neq => K (.lit (.bool (m != n)))
    | _ => F
  | _ => F

def slnil (tr : TyT) (st : St) (t : Nat) (op : BinOp) (v : AV) (K : AV → Prop) (F : Prop) : Prop :=
  match tr.find t with
  | some ⟨.td (.slice _), _, _, _⟩ => match op, v with
    | .eql, .sl _ _ xs => NilT xs false fun b => K (.lit (.bool b))
    | .neq, .sl _ _ xs => NilT xs true fun b => K (.lit (.bool b))
    | .eql, .hw id => match row id st.hp with
      | some (.row _ xs) => NilT xs false fun b => K (.lit (.bool b))
      | _ => F
    | .neq, .hw id => match row id st.hp with
      | some (.row _ xs) => NilT xs true fun b => K (.lit (.bool b))
      | _ => F
    | _, _ => F
  | _ => F

def ptrnil (tr : TyT) (t : Nat) (op : BinOp) (v : AV) (K : AV → Prop) (F : Prop) : Prop :=
  match tr.find t with
  | some ⟨.td (.pointer _), _, _, _⟩ => match op, v with
    | .eql, .lit (.pointer none) => K (.lit (.bool true))
    | .neq, .lit (.pointer none) => K (.lit (.bool false))
    | .eql, .pt _ => K (.lit (.bool false))
    | .neq, .pt _ => K (.lit (.bool true))
    | .eql, .hp _ _ => K (.lit (.bool false))
    | .neq, .hp _ _ => K (.lit (.bool true))
    | _, _ => F
  | _ => F

def texts (tr : TyT) (t : Nat) (op : BinOp) (m n : ByteArray) (K : AV → Prop) (F : Prop) : Prop :=
  match tr.find t with
  | some ⟨.td .string, _, _, _⟩ => match op with
    | .eql => K (.lit (.bool (m.toList == n.toList)))
    | .neq => K (.lit (.bool (!(m.toList == n.toList))))
    | _ => F
  | _ => F

def sliceV (tr : TyT) (st : St) (t : Nat) (x : Operand) (lo hi : Option Operand) (K : AV → Prop) (F : Prop) : Prop :=
  match tr.find t with
  | some ⟨.td (.slice e), _, _, _⟩ => match tr.find e with
    | some ie => match st.ev x with
      | .sl _ sz xs => bif Nat.beq ie.size sz then match lo, hi with
        | none, none => K (.sl false sz xs)
        | some y, none => match st.ev y with
          | .lit (.int .i64 l) => SubFrom xs l fun ys => K (.sl false sz ys)
          | _ => F
        | none, some z => match st.ev z with
          | .lit (.int .i64 m) => Sub xs 0 m fun ys => K (.sl false sz ys)
          | _ => F
        | some y, some z => match st.ev y, st.ev z with
          | .lit (.int .i64 l), .lit (.int .i64 m) => Sub xs l m fun ys => K (.sl false sz ys)
          | _, _ => F
        else F
      | _ => F
    | _ => F
  | _ => F

def fieldA (tr : TyT) (st : St) (t j : Nat) (x : Operand) (K : AV → Prop) (F : Prop) : Prop :=
  match tr.find t with
  | some ⟨.agg fs, _, _, _⟩ => match fs[j]? with
    | some (off, ft) => match tr.find ft with
      | some ⟨_, sz, _, _⟩ => bif Nat.beq sz 0 then F else match st.ev x with
        | .pt cs => onL (cs.drop off) fun cs => K (.pt cs)
        | .hp id o => K (.hp id (o + off))
        | .hq id n o => K (.hq id n (o + off))
        | _ => F
      | _ => F
    | _ => F
  | _ => F

def fieldV (tr : TyT) (st : St) (t j : Nat) (x : Operand) (K : AV → Prop) (F : Prop) : Prop :=
  match tr.find t with
  | some ⟨.agg fs, _, _, _⟩ => match fs[j]? with
    | some (off, ft) => match tr.find ft with
      | some i => match st.ev x with
        | .agg cs => bif i.isAgg then onL ((cs.drop off).take i.size) fun cs => K (.agg cs) else match cs[off]? with
          | some c => c.on K
          | none => F
        | _ => F
      | _ => F
    | _ => F
  | _ => F

/-- A part of a value's cells: one cell, or a struct's. -/
def part (i : TyI) (cs : List AV) (off : Nat) (K : AV → Prop) (F : Prop) : Prop :=
  bif i.isAgg then (bif Nat.ble (off + i.size) cs.length && ((cs.drop off).take i.size).all AV.plain then onL ((cs.drop off).take i.size) fun cs => K (.agg cs) else F)
  else match cs.drop off with
    | v :: _ => bif v.plain then v.on K else F
    | [] => F

def loadV (tr : TyT) (st : St) (t : Nat) (x : Operand) (K : AV → Prop) (F : Prop) : Prop :=
  match tr.find t with
  | some i => match st.ev x with
    | .pt cs => bif i.isAgg then (bif Nat.ble i.size cs.length then onL (cs.take i.size) fun cs => K (.agg cs) else F) else match cs with
      | v :: _ => v.on K
      | [] => F
    | .hp id off => match row id st.hp with
      | some (.var cs) => part i cs off K F
      | _ => F
    | .hq id n off => match row id st.hp with
      | some (.row _ xs) => PickN xs n fun cs => part i cs off K F
      | _ => F
    | _ => F
  | _ => F

def indexA (tr : TyT) (st : St) (t : Nat) (x ix : Operand) (K : AV → Prop) (F : Prop) : Prop :=
  match tr.find t with
  | some ⟨.td (.slice e), _, _, _⟩ => match tr.find e with
    | some ie => match st.ev ix with
      | .lit (.int _ n) => match st.ev x with
        | .sl _ sz xs => bif Nat.beq ie.size sz then Pick xs n fun cs => onL cs fun cs => K (.pt cs) else F
        | .hw id => match row id st.hp with
          | some (.row sz xs) => bif Nat.beq ie.size sz then Need (0 ≤ n ∧ n.toNat < xs.length) (K (.hq id n.toNat 0)) else F
          | some (.foc sz xs _ _ _ _) => bif Nat.beq ie.size sz then Need (0 ≤ n ∧ n.toNat < xs.length) (K (.hq id n.toNat 0)) else F
          | _ => F
        | _ => F
      | _ => F
    | _ => F
  | _ => F

def lenV (tr : TyT) (st : St) (t : Nat) (x : Operand) (K : AV → Prop) (F : Prop) : Prop :=
  match tr.find t with
  | some ⟨.td (.slice _), _, _, _⟩ => match st.ev x with
    | .sl _ _ xs => Len xs fun n => K (.lit (.int .i64 n))
    | .hw id => match row id st.hp with
      | some (.row _ xs) => Len xs fun n => K (.lit (.int .i64 n))
      | _ => F
    | .lit (.slice none 0 0) => K (.lit (.int .i64 0))
    | _ => F
  | some ⟨.td .string, _, _, _⟩ => match st.ev x with
    | .lit (.string s) => K (.lit (.int .i64 s.size))
    | _ => F
  | _ => F

/-- The sizes of a struct's fields. -/
def sizesOf (tr : TyT) : List (Nat × Nat) → Option (List Nat)
  | [] => some []
  | (_, t) :: r => match tr.find t with
    | some i => match sizesOf tr r with
      | some l => some (i.size :: l)
      | none => none
    | none => none

def buildV (tr : TyT) (st : St) (t : Nat) (ps : List (Nat × Operand)) (K : AV → Prop) (F : Prop) : Prop :=
  match tr.find t with
  | some ⟨.agg fs, _, _, zero⟩ => match sizesOf tr fs with
    | some ss => bif litOK st ps then match lay (placeOf fs ss) (zero.map .lit) (ps.map fun p => (p.1, st.ev p.2)) with
        | some cs => onL cs fun cs => K (.agg cs)
        | none => F
      else F
    | none => F
  | _ => F

/-- Structs of known words, compared. -/
def AggEq1 (P : Program) (t : Nat) (us vs : List Value) (b : Bool) : Prop :=
  P.eqGuardType P.depth t = false ∧ ∀ w, (Op.equalIn 10000 t (.agg us.toArray) (.agg vs.toArray)).run P w = .ok b w
inductive AggEq (P : Program) (t : Nat) (xs ys : List AV) (k : Bool → Prop) : Prop
  | mk (us vs : List Value) (b : Bool) : xs = us.map .lit → ys = vs.map .lit → AggEq1 P t us vs b → k b → AggEq P t xs ys k
def aggs (P : Program) (op : BinOp) (t : Nat) (xs ys : List AV) (K : AV → Prop) (F : Prop) : Prop :=
  match op with
  | .eql => AggEq P t xs ys fun b => K (.lit (.bool b))
  | .neq => AggEq P t xs ys fun b => K (.lit (.bool !b))
  | _ => F

/-- What only reads. -/
def rdOp (P : Program) (tr : TyT) (st : St) (op : Op) (K : AV → Prop) (F : Prop) : Prop :=
  match op with
  | .move x => (st.ev x).on K
  | .assign x => (st.ev x).on K
  | .pick c x y => match st.ev c with
    | .lit (.bool b) => Br b ((st.ev x).on K) ((st.ev y).on K)
    | _ => F
  | .nilCheck x => match st.ev x with
    | .pt cs => K (.pt cs)
    | .hp i o => K (.hp i o)
    | _ => F
  | .binOp op t x y _ => match st.ev x, st.ev y with
    | .lit (.int k m), .lit (.int k2 n) => bif beqK k k2 then arith op k m n K F else F
    | .lit (.bool m), .lit (.bool n) => truths tr t op m n K F
    | .lit (.string m), .lit (.string n) => texts tr t op m n K F
    | .agg xs, .agg ys => aggs P op t xs ys K F
    | v, .lit (.slice none 0 0) => slnil tr st t op v K F
    | v, .lit (.pointer none) => ptrnil tr t op v K F
    | _, _ => F
  | .unOp u _ x => match u, st.ev x with
    | .not, .lit (.bool b) => K (.lit (.bool !b))
    | .neg, .lit (.int .i64 n) => Need (okNum (0 - n)) (K (.lit (.int .i64 (0 - n))))
    | _, _ => F
  | .fieldAddr t x j => fieldA tr st t j x K F
  | .field t x j => fieldV tr st t j x K F
  | .load t x => loadV tr st t x K F
  | .indexAddr t x ix => indexA tr st t x ix K F
  | .extract x j => match st.ev x with
    | .tup cs => match cs[j]? with
      | some c => c.onD K
      | none => F
    | _ => F
  | .makeFunc (.func g) first xs => match first.toList with
    | [] => onL (xs.toList.map st.ev) fun cs => K (.fn g cs)
    | _ => F
  | .build t ps => buildV tr st t ps.toList K F
  | .call c => match c.callee with
    | .builtin .len => match c.args.toList, c.argTypes.toList with
      | [x], [t] => lenV tr st t x K F
      | _, _ => F
    | .builtin .min => match c.args.toList with
      | [x, y] => match st.ev x, st.ev y with
        | .lit (.int k m), .lit (.int k2 n) => bif beqK k k2 then K (.lit (.int k (min m n))) else F
        | _, _ => F
      | _ => F
    | .builtin .max => match c.args.toList with
      | [x, y] => match st.ev x, st.ev y with
        | .lit (.int k m), .lit (.int k2 n) => bif beqK k k2 then K (.lit (.int k (max m n))) else F
        | _, _ => F
      | _ => F
    | _ => F
  | .slice t x lo hi none => sliceV tr st t x lo hi K F
  | _ => F

section
variable {P : Program} {tr : TyT} {st : St} {K : AV → Prop} {F : Prop} {o : Oper}

/-- What is read, or that it stops. -/
def Rd (P : Program) (st : St) (o : Oper) (K : AV → Prop) (F : Prop) : Prop := (∃ V, ReadsN P st o V ∧ ∀ v, V v → K v) ∨ F
theorem Rd.of {v : AV} (h : Reads P st o v) (hk : K v) : Rd P st o K F := .inl ⟨_, h.n, fun _ e => by rw [e]; exact hk⟩

theorem arith_ok {op : BinOp} {t t2 : Nat} {x y : Operand} {k : IntKind} {m n : Int} (h : o.op = .binOp op t x y t2) (hx : st.ev x = .lit (.int k m)) (hy : st.ev y = .lit (.int k n)) (hk : arith op k m n K F) : Rd P st o K F := by
  have key : ∀ v, bin2 op k m n = some v → K (.lit v) → Rd P st o K F := fun v h1 h2 => .of (rd_bin h hx hy h1) h2
  unfold arith at hk
  split at hk
  · obtain ⟨h1, h2⟩ := hk; exact key _ (by simp only [bin2, wrap_in h1.1 h1.2]) h2
  · obtain ⟨h1, h2⟩ := hk; exact key _ (by simp only [bin2, wrap_in h1.1 h1.2]) h2
  · obtain ⟨h1, h2⟩ := hk; exact key _ (by simp only [bin2, wrap_in h1.1 h1.2]) h2
  · exact key _ rfl hk
  · exact key _ rfl hk
  · exact key _ rfl hk
  · exact key _ rfl hk
  · exact key _ rfl hk
  · exact key _ rfl hk
  · exact key _ rfl hk
  · exact .inr hk

theorem truths_ok (hT : tr.OK P) {op : BinOp} {t t2 : Nat} {x y : Operand} {m n : Bool} (h : o.op = .binOp op t x y t2) (hx : st.ev x = .lit (.bool m)) (hy : st.ev y = .lit (.bool n)) (hk : truths tr t op m n K F) : Rd P st o K F := by
  unfold truths at hk
  split at hk
  · rename_i hf
    have ht := TyT.find_ok hT hf
    obtain ⟨⟨hu, _⟩, _⟩ := ht
    split at hk
    · exact .of (rd_eq_bool h hu hx hy) hk
    · exact .of (rd_ne_bool h hu hx hy) hk
    · exact .inr hk
  · exact .inr hk

theorem slnil_ok (hT : tr.OK P) {op : BinOp} {t t2 : Nat} {x y : Operand} {v : AV} (h : o.op = .binOp op t x y t2) (hx : st.ev x = v) (hy : st.ev y = .lit (.slice none 0 0)) (hk : slnil tr st t op v K F) : Rd P st o K F := by
  unfold slnil at hk
  split at hk
  · rename_i hf
    have ht := TyT.find_ok hT hf
    have key : ∀ (neg : Bool) xs, o.op = .binOp (bif neg then .neq else .eql) t x y t2 → SlOf st v xs → NilT xs neg (fun b => K (.lit (.bool b))) → Rd P st o K F := fun neg xs h1 h2 ⟨h3⟩ =>
      .inl ⟨_, rd_slnil h1 ht rfl hx h2 hy, fun u ⟨b, hb, e⟩ => by rw [e]; exact h3 b hb⟩
    split at hk
    · exact key false _ h slOf_sl hk
    · exact key true _ h slOf_sl hk
    · split at hk
      · rename_i hrow; exact key false _ h (slOf_hw hrow) hk
      · exact .inr hk
    · split at hk
      · rename_i hrow; exact key true _ h (slOf_hw hrow) hk
      · exact .inr hk
    · exact .inr hk
  · exact .inr hk

theorem ptrnil_ok (hT : tr.OK P) {op : BinOp} {t t2 : Nat} {x y : Operand} {v : AV} (h : o.op = .binOp op t x y t2) (hx : st.ev x = v) (hy : st.ev y = .lit (.pointer none)) (hk : ptrnil tr t op v K F) : Rd P st o K F := by
  unfold ptrnil at hk
  split at hk
  · rename_i hf
    have ht := TyT.find_ok hT hf
    split at hk
    · exact .of (rd_ptrnil (neg := false) (b := true) h ht rfl hx (fun I w z hr => ⟨none, hr.lit_inv, rfl⟩) hy) hk
    · exact .of (rd_ptrnil (neg := true) (b := true) h ht rfl hx (fun I w z hr => ⟨none, hr.lit_inv, rfl⟩) hy) hk
    · exact .of (rd_ptrnil (neg := false) (b := false) h ht rfl hx (fun I w z hr => by obtain ⟨b, o, e, _⟩ := hr.pt_inv; exact ⟨_, e, rfl⟩) hy) hk
    · exact .of (rd_ptrnil (neg := true) (b := false) h ht rfl hx (fun I w z hr => by obtain ⟨b, o, e, _⟩ := hr.pt_inv; exact ⟨_, e, rfl⟩) hy) hk
    · exact .of (rd_ptrnil (neg := false) (b := false) h ht rfl hx (fun I w z hr => by obtain ⟨b, o, _, _, e⟩ := hr.hp_inv; exact ⟨_, e, rfl⟩) hy) hk
    · exact .of (rd_ptrnil (neg := true) (b := false) h ht rfl hx (fun I w z hr => by obtain ⟨b, o, _, _, e⟩ := hr.hp_inv; exact ⟨_, e, rfl⟩) hy) hk
    · exact .inr hk
  · exact .inr hk

theorem texts_ok (hT : tr.OK P) {op : BinOp} {t t2 : Nat} {x y : Operand} {m n : ByteArray} (h : o.op = .binOp op t x y t2) (hx : st.ev x = .lit (.string m)) (hy : st.ev y = .lit (.string n)) (hk : texts tr t op m n K F) : Rd P st o K F := by
  unfold texts at hk
  split at hk
  · rename_i hf
    have ht := TyT.find_ok hT hf
    obtain ⟨⟨hu, _⟩, _⟩ := ht
    split at hk
    · refine .of (rd_eq_text (neg := false) h hu hx hy) ?_; rw [Bool.false_bne]; exact hk
    · refine .of (rd_eq_text (neg := true) h hu hx hy) ?_; rw [Bool.true_bne]; exact hk
    · exact .inr hk
  · exact .inr hk

theorem sliceV_ok (hT : tr.OK P) {t : Nat} {x : Operand} {lo hi : Option Operand} (h : o.op = .slice t x lo hi none) (hk : sliceV tr st t x lo hi K F) : Rd P st o K F := by
  unfold sliceV at hk
  split at hk
  · rename_i hf
    have ht := TyT.find_ok hT hf
    split at hk
    · rename_i ie hf2
      have he := TyT.find_ok hT hf2
      split at hk
      · rename_i f sz xs hx
        cases hb : Nat.beq ie.size sz with
        | false => rw [hb] at hk; exact .inr hk
        | true =>
          rw [hb] at hk; dsimp only [cond_true] at hk
          split at hk
          · refine .of (rd_slice h ht rfl he hb hx (l := 0) (m := xs.length) rfl rfl (by omega) (by omega) (by omega)) ?_
            simpa using hk
          · split at hk
            · rename_i y l hy
              obtain ⟨ys, h0, h1, rfl, hk⟩ := hk
              refine .of (rd_slice h ht rfl he hb hx (m := xs.length) hy rfl h0 h1 (by omega)) ?_
              rw [List.take_of_length_le (by rw [List.length_drop]; omega)]; exact hk
            · exact .inr hk
          · split at hk
            · rename_i z m hz
              obtain ⟨ys, h0, h1, h2, rfl, hk⟩ := hk
              exact .of (rd_slice h ht rfl he hb hx (l := 0) rfl hz h0 h1 h2) hk
            · exact .inr hk
          · split at hk
            · rename_i hy hz
              obtain ⟨ys, h0, h1, h2, rfl, hk⟩ := hk
              exact .of (rd_slice h ht rfl he hb hx hy hz h0 h1 h2) hk
            · exact .inr hk
      · exact .inr hk
    · exact .inr hk
  · exact .inr hk

theorem fieldA_ok (hT : tr.OK P) {t j : Nat} {x : Operand} (h : o.op = .fieldAddr t x j) (hk : fieldA tr st t j x K F) : Rd P st o K F := by
  unfold fieldA at hk
  split at hk
  · rename_i hf
    have ht := TyT.find_ok hT hf
    split at hk
    · rename_i hj
      split at hk
      · rename_i hf2
        have hft := TyT.find_ok hT hf2
        cases hb : Nat.beq _ 0 with
        | true => rw [hb] at hk; exact .inr hk
        | false =>
          rw [hb] at hk
          dsimp only [cond_false] at hk
          split at hk
          · rename_i hx; rw [onL_eq] at hk; exact .of (rd_field_pt h ht rfl hj hft hb hx) hk
          · rename_i hx; exact .of (rd_field_hp h ht rfl hj hft hb hx) hk
          · rename_i hx; exact .of (rd_field_hq h ht rfl hj hft hb hx) hk
          · exact .inr hk
      · exact .inr hk
    · exact .inr hk
  · exact .inr hk

theorem fieldV_ok (hT : tr.OK P) {t j : Nat} {x : Operand} (h : o.op = .field t x j) (hk : fieldV tr st t j x K F) : Rd P st o K F := by
  unfold fieldV at hk
  split at hk
  · rename_i hf
    have ht := TyT.find_ok hT hf
    split at hk
    · rename_i hj
      split at hk
      · rename_i i hf2
        have hft := TyT.find_ok hT hf2
        split at hk
        · rename_i hx
          cases hb : i.isAgg with
          | true => rw [hb] at hk; dsimp only [cond_true] at hk; rw [onL_eq] at hk; exact .of (rd_field_agg h ht rfl hj hft hb hx) hk
          | false =>
            rw [hb] at hk
            dsimp only [cond_false] at hk
            split at hk
            · rename_i hc; rw [AV.on_eq] at hk; exact .of (rd_field h ht rfl hj hft hb hx hc) hk
            · exact .inr hk
        · exact .inr hk
      · exact .inr hk
    · exact .inr hk
  · exact .inr hk

theorem loadV_ok (hT : tr.OK P) {t : Nat} {x : Operand} (h : o.op = .load t x) (hk : loadV tr st t x K F) : Rd P st o K F := by
  unfold loadV at hk
  split at hk
  · rename_i i hf
    have ht := TyT.find_ok hT hf
    split at hk
    · rename_i hx
      cases hb : i.isAgg with
      | true =>
        rw [hb] at hk; dsimp only [cond_true] at hk
        cases hn : Nat.ble i.size _ with
        | true => rw [hn] at hk; dsimp only [cond_true] at hk; rw [onL_eq] at hk; exact .of (rd_loads_pt h ht hb hx hn) hk
        | false => rw [hn] at hk; exact .inr hk
      | false =>
        rw [hb] at hk; dsimp only [cond_false] at hk
        split at hk
        · rw [AV.on_eq] at hk; exact .of (rd_load_pt h ht hb hx) hk
        · exact .inr hk
    · rename_i hx
      split at hk
      · rename_i hrow
        unfold part at hk
        cases hb : i.isAgg with
        | true =>
          rw [hb] at hk; dsimp only [cond_true] at hk
          cases hn : (Nat.ble _ _ && List.all _ _ : Bool) with
          | true =>
            rw [hn] at hk; dsimp only [cond_true] at hk; rw [onL_eq] at hk
            rw [Bool.and_eq_true] at hn
            exact .of (rd_loads_hp h ht hb hx hrow hn.1 hn.2) hk
          | false => rw [hn] at hk; exact .inr hk
        | false =>
          rw [hb] at hk; dsimp only [cond_false] at hk
          split at hk
          · rename_i v r hd
            cases hp : v.plain with
            | true => rw [hp] at hk; dsimp only [cond_true] at hk; rw [AV.on_eq] at hk; exact .of (rd_load_hp h ht hb hx hrow hd hp) hk
            | false => rw [hp] at hk; exact .inr hk
          · exact .inr hk
      · exact .inr hk
    · rename_i hx
      split at hk
      · rename_i hrow
        obtain ⟨cs, hg, hk⟩ := hk
        unfold part at hk
        cases hb : i.isAgg with
        | true =>
          rw [hb] at hk; dsimp only [cond_true] at hk
          cases hn : (Nat.ble _ _ && List.all _ _ : Bool) with
          | true =>
            rw [hn] at hk; dsimp only [cond_true] at hk; rw [onL_eq] at hk
            rw [Bool.and_eq_true] at hn
            exact .of (rd_loads_hq h ht hb hx hrow hg hn.1 hn.2) hk
          | false => rw [hn] at hk; exact .inr hk
        | false =>
          rw [hb] at hk; dsimp only [cond_false] at hk
          split at hk
          · rename_i v r hd
            cases hp : v.plain with
            | true => rw [hp] at hk; dsimp only [cond_true] at hk; rw [AV.on_eq] at hk; exact .of (rd_load_hq h ht hb hx hrow hg hd hp) hk
            | false => rw [hp] at hk; exact .inr hk
          · exact .inr hk
      · exact .inr hk
    · exact .inr hk
  · exact .inr hk

theorem rd_index_foc {o : Oper} {t e id sz n2 off j : Nat} {x ix : Operand} {it ie : TyI} {xs : List (List AV)} {cs : List AV} {kk : IntKind} {n : Int} (h : o.op = .indexAddr t x ix) (ht : TyOK P t it)
    (hd : it.td = .td (.slice e)) (he : TyOK P e ie) (hx : st.ev x = .hw id) (hrow : row id st.hp = some (.foc sz xs cs n2 off j)) (hsz : Nat.beq ie.size sz = true) (hi : st.ev ix = .lit (.int kk n)) (h0 : 0 ≤ n) (hg : n.toNat < xs.length) : Reads P st o (.hq id n.toNat 0) := by
  intro S0 B w0 I a w hr
  have h1 := hr.ev x
  have h2 := hr.ev ix
  rw [hx] at h1
  rw [hi] at h2
  have hsz' := Nat.eq_of_beq_eq_true hsz
  obtain ⟨T, k1, _, _⟩ := hr.hp
  obtain ⟨F, T', g1, _, _⟩ := k1.take hrow
  have hln : I.ln id = xs.length := by cases g1; assumption
  have hszz : I.sz id = sz := by cases g1; assumption
  obtain ⟨hid, ⟨_, h0', ad, _⟩ | ⟨b, of, cap, c, ha, _, _, _, ex⟩⟩ := h1.hw_inv
  · omega
  · refine ⟨_, fun w' hw => ?_, .hq hid ha⟩
    have hlt2 : n < (I.ln id : Int) := by omega
    simp only [execOp, h, ex, h2.lit_inv, Instr.indexAt, asIntOf, Sem.run_bind, run_under (ht.sliceE hd), Result.andThen_ok, Sem.run_pure, h0, hlt2, and_self, if_true, run_size he, hsz', addr_add, decide_eq_true_eq, hszz, Nat.add_zero]

theorem indexA_ok (hT : tr.OK P) {t : Nat} {x ix : Operand} (h : o.op = .indexAddr t x ix) (hk : indexA tr st t x ix K F) : Rd P st o K F := by
  unfold indexA at hk
  split at hk
  · rename_i hf
    have ht := TyT.find_ok hT hf
    split at hk
    · rename_i ie hf2
      have he := TyT.find_ok hT hf2
      split at hk
      · rename_i hi
        split at hk
        · rename_i hx
          cases hb : Nat.beq ie.size _ with
          | true =>
            rw [hb] at hk; dsimp only [cond_true] at hk
            obtain ⟨cs, h0, hg, hk⟩ := hk
            rw [onL_eq] at hk
            exact .of (rd_index_sl h ht rfl he hb hx hi h0 hg) hk
          | false => rw [hb] at hk; exact .inr hk
        · rename_i hx
          split at hk
          · rename_i hrow
            cases hb : Nat.beq ie.size _ with
            | true =>
              rw [hb] at hk; dsimp only [cond_true] at hk
              obtain ⟨⟨h0, hg⟩, hk⟩ := hk
              exact .of (rd_index_hw h ht rfl he hx hrow hb hi h0 hg) hk
            | false => rw [hb] at hk; exact .inr hk
          · rename_i hrow
            cases hb : Nat.beq ie.size _ with
            | true =>
              rw [hb] at hk; dsimp only [cond_true] at hk
              obtain ⟨⟨h0, hg⟩, hk⟩ := hk
              exact .of (rd_index_foc h ht rfl he hx hrow hb hi h0 hg) hk
            | false => rw [hb] at hk; exact .inr hk
          · exact .inr hk
        · exact .inr hk
      · exact .inr hk
    · exact .inr hk
  · exact .inr hk

theorem lenV_ok (hT : tr.OK P) {t : Nat} {x : Operand} (h : o.op = .call { callee := .builtin .len, args := #[x], argTypes := #[t] }) (hk : lenV tr st t x K F) : Rd P st o K F := by
  unfold lenV at hk
  split at hk
  · rename_i hf
    have ht := TyT.find_ok hT hf
    split at hk
    · rename_i hx; obtain ⟨n, rfl, hk⟩ := hk; exact .of (rd_len_sl h ht rfl hx) hk
    · rename_i hx
      split at hk
      · rename_i hrow; obtain ⟨n, rfl, hk⟩ := hk; exact .of (rd_len_hw h ht rfl hx hrow) hk
      · exact .inr hk
    · rename_i hx; exact .of (rd_len_nil h ht rfl hx) hk
    · exact .inr hk
  · rename_i hf
    have ht := TyT.find_ok hT hf
    split at hk
    · rename_i hx; exact .of (rd_len_str h ht rfl hx) hk
    · exact .inr hk
  · exact .inr hk

theorem sizesOf_ok (hT : tr.OK P) : ∀ {fs : List (Nat × Nat)} {ss : List Nat}, sizesOf tr fs = some ss → Sizes P fs ss
  | [], ss, h => by simp [sizesOf] at h; subst h; exact .nil
  | (off, t) :: r, ss, h => by
    simp only [sizesOf] at h
    split at h
    · rename_i i hf
      split at h
      · rename_i l hl
        simp at h; subst h
        exact .cons (TyT.find_ok hT hf) (sizesOf_ok hT hl)
      · cases h
    · cases h

theorem buildV_ok (hT : tr.OK P) {t : Nat} {ps : Array (Nat × Operand)} (h : o.op = .build t ps) (hk : buildV tr st t ps.toList K F) : Rd P st o K F := by
  unfold buildV at hk
  split at hk
  · rename_i hf
    have ht := TyT.find_ok hT hf
    split at hk
    · rename_i hs
      cases hb : litOK st ps.toList with
      | true =>
        rw [hb] at hk; dsimp only [cond_true] at hk
        split at hk
        · rename_i hc; rw [onL_eq] at hk; exact .of (rd_build h ht rfl (sizesOf_ok hT hs) hb hc) hk
        · exact .inr hk
      | false => rw [hb] at hk; exact .inr hk
    · exact .inr hk
  · exact .inr hk

theorem Rep.lits_inv {I : Interp} {w : World} {us vs : List Value} (h : Rep I w (.l (us.map .lit) vs)) : vs = us := by
  refine List.ext_getElem? fun j => ?_
  cases hj : us[j]? with
  | none =>
    have hl := h.l_len
    rw [List.length_map] at hl
    rw [List.getElem?_eq_none_iff] at hj ⊢
    omega
  | some u =>
    obtain ⟨v, h1, h2⟩ := h.l_at (j := j) (c := .lit u) (by rw [List.getElem?_map, hj]; rfl)
    rw [h1, h2.lit_inv]

theorem rd_agg_eq {t t2 : Nat} {x y : Operand} {us vs : List Value} {b neg : Bool} (h : o.op = .binOp (bif neg then .neq else .eql) t x y t2) (hx : st.ev x = .agg (us.map .lit)) (hy : st.ev y = .agg (vs.map .lit)) (hq : AggEq1 P t us vs b) :
    Reads P st o (.lit (.bool (neg != b))) := by
  refine rd_pure fun S0 B w0 I a w1 hr w => ?_
  have h1 := hr.ev x
  have h2 := hr.ev y
  rw [hx] at h1; rw [hy] at h2
  obtain ⟨us', e1, h3⟩ := h1.agg_inv
  obtain ⟨vs', e2, h4⟩ := h2.agg_inv
  obtain rfl := h3.lits_inv
  obtain rfl := h4.lits_inv
  obtain ⟨hg, hq⟩ := hq
  cases neg with
  | false =>
    simp only [execOp, h, cond_false]
    rw [e1, e2]
    simp only [Sem.run_bind, run_eqGuard_agg w _ _ _ _ _ _ hg, Result.andThen_ok, run_eql_struct, hq]
    simp
  | true =>
    simp only [execOp, h, cond_true]
    rw [e1, e2]
    simp only [Sem.run_bind, run_eqGuard_agg w _ _ _ _ _ _ hg, Result.andThen_ok, run_neq_struct, hq]
    simp

theorem aggs_ok {op : BinOp} {t t2 : Nat} {x y : Operand} {xs ys : List AV} (h : o.op = .binOp op t x y t2) (hx : st.ev x = .agg xs) (hy : st.ev y = .agg ys) (hk : aggs P op t xs ys K F) : Rd P st o K F := by
  unfold aggs at hk
  split at hk
  · obtain ⟨us, vs, b, rfl, rfl, hq, hk⟩ := hk
    refine .of (rd_agg_eq (neg := false) h hx hy hq) ?_; rw [Bool.false_bne]; exact hk
  · obtain ⟨us, vs, b, rfl, rfl, hq, hk⟩ := hk
    refine .of (rd_agg_eq (neg := true) h hx hy hq) ?_; rw [Bool.true_bne]; exact hk
  · exact .inr hk

theorem rdOp_ok (hT : tr.OK P) (hk : rdOp P tr st o.op K F) : Rd P st o K F := by
  generalize ho : o.op = op at hk
  unfold rdOp at hk
  split at hk
  · rw [AV.on_eq] at hk; exact .of (rd_move ho rfl) hk
  · rw [AV.on_eq] at hk; exact .of (rd_assign ho rfl) hk
  · split at hk
    · rename_i b hc
      obtain ⟨h1, h2⟩ := hk
      cases b with
      | true => have := h1 rfl; rw [AV.on_eq] at this; exact .of (rd_pick ho hc rfl) this
      | false => have := h2 rfl; rw [AV.on_eq] at this; exact .of (rd_pick ho hc rfl) this
    · exact .inr hk
  · split at hk
    · rename_i hx; exact .of (rd_nilCheck_pt ho hx) hk
    · rename_i hx; exact .of (rd_nilCheck_hp ho hx) hk
    · exact .inr hk
  · split at hk
    · rename_i k m k2 n hx hy
      cases hb : beqK k k2 with
      | true => rw [hb] at hk; obtain rfl := beqK_eq hb; exact arith_ok ho hx hy hk
      | false => rw [hb] at hk; exact .inr hk
    · rename_i hx hy; exact truths_ok hT ho hx hy hk
    · rename_i hx hy; exact texts_ok hT ho hx hy hk
    · rename_i hx hy; exact aggs_ok ho hx hy hk
    · rename_i hx; exact slnil_ok hT ho rfl hx hk
    · rename_i hx; exact ptrnil_ok hT ho rfl hx hk
    · exact .inr hk
  · split at hk
    · rename_i hx; exact .of (rd_not ho hx) hk
    · rename_i hx; obtain ⟨h1, hk⟩ := hk; refine .of (rd_neg ho hx) ?_; rw [wrap_in h1.1 h1.2]; exact hk
    · exact .inr hk
  · exact fieldA_ok hT ho hk
  · exact fieldV_ok hT ho hk
  · exact loadV_ok hT ho hk
  · exact indexA_ok hT ho hk
  · split at hk
    · rename_i hx
      split at hk
      · rename_i hj; rw [AV.onD_eq] at hk; exact .of (rd_extract ho hx hj) hk
      · exact .inr hk
    · exact .inr hk
  · split at hk
    · rename_i first xs _ hfirst
      rw [onL_eq] at hk
      have : first = #[] := by cases first; simp_all
      subst this
      exact .of (rd_makeFunc ho rfl) hk
    · exact .inr hk
  · exact buildV_ok hT ho hk
  · rename_i c
    obtain ⟨callee, args, argTypes⟩ := c
    dsimp only at hk
    split at hk
    · split at hk
      · rename_i x t h1 h2
        have e1 : args = #[x] := by cases args; simp_all
        have e2 : argTypes = #[t] := by cases argTypes; simp_all
        subst e1 e2
        exact lenV_ok hT ho hk
      · exact .inr hk
    · split at hk
      · rename_i x y h1
        split at hk
        · rename_i k m k2 n hx hy
          cases hb : beqK k k2 with
          | true =>
            rw [hb] at hk; obtain rfl := beqK_eq hb
            have e1 : args = #[x, y] := by cases args; simp_all
            subst e1
            exact .of (rd_min ho hx hy) hk
          | false => rw [hb] at hk; exact .inr hk
        · exact .inr hk
      · exact .inr hk
    · split at hk
      · rename_i x y h1
        split at hk
        · rename_i k m k2 n hx hy
          cases hb : beqK k k2 with
          | true =>
            rw [hb] at hk; obtain rfl := beqK_eq hb
            have e1 : args = #[x, y] := by cases args; simp_all
            subst e1
            exact .of (rd_max ho hx hy) hk
          | false => rw [hb] at hk; exact .inr hk
        · exact .inr hk
      · exact .inr hk
    · exact .inr hk
  · exact sliceV_ok hT ho hk
  · exact .inr hk
end
end Go.Ax

/- A symbolic run, reckoned by a function: operations that make memory or write it, results, and the run itself. -/
namespace Go.Ax
open Go.RowKit
set_option linter.unusedVariables false
set_option linter.unusedSimpArgs false

def varK (st : St) (cs : List AV) (K : AV → List (Nat × Row) → Prop) : Prop := match st with
  | ⟨_, hp, nx, _⟩ => onL (foldL hp cs).1 fun cs' => onH (foldL hp cs).2 fun h => K (.hp nx 0) ((nx, .var cs') :: h)

def oneOK : AV → Bool
  | .lit u => u.oneCell'
  | _ => true
theorem oneOK_spec {v : AV} (h : oneOK v = true) : ∀ u, v = .lit u → u.cells = #[u] := by
  intro u e; subst e
  cases u <;> first | rfl | (simp [oneOK, Value.oneCell'] at h)

def takeV (tr : TyT) (st : St) (t : Nat) (x : Operand) (K : AV → List (Nat × Row) → Prop) (F : Prop) : Prop := match st with
  | ⟨tm0, hp0, nx, nt0⟩ =>
    match tr.find t with
    | some i => bif i.isAgg then F else match St.ev ⟨tm0, hp0, nx, nt0⟩ x with
      | .hp id off => match row id hp0 with
        | some (.var cs) => match cs.drop off with
          | .osl sz xs :: _ => onL (cs.set off (.hw nx)) fun cs' => onH (rem id hp0) fun h => K (.hw nx) ((nx, .row sz xs) :: (id, .var cs') :: h)
          | _ => F
        | _ => F
      | .hq id n off => match row id hp0 with
        | some (.row sz xs) => PickN xs n fun cs => onL cs fun cs => match cs.drop off with
          | .osl sz2 ys :: _ => onH (rem id hp0) fun h => K (.hw nx) ((nx, .row sz2 ys) :: (id, .foc sz xs cs n off nx) :: h)
          | _ => F
        | _ => F
      | _ => F
    | none => F

def ixs : List (Nat × Operand) → Nat → Bool
  | [], _ => true
  | (j, _) :: r, s => Nat.beq j s && ixs r (s + 1)
theorem ixs_spec : ∀ {ps : List (Nat × Operand)} {s : Nat}, ixs ps s = true → ps.map Prod.fst = upTo ps.length s
  | [], _, _ => rfl
  | (j, x) :: r, s, h => by
    simp only [ixs, Bool.and_eq_true] at h
    simp only [List.map_cons, List.length_cons, upTo, ixs_spec h.2, Nat.eq_of_beq_eq_true h.1]

def rowLit (tr : TyT) (st : St) (t n : Nat) (ps : List (Nat × Operand)) (K : AV → List (Nat × Row) → Prop) (F : Prop) : Prop := match st with
  | ⟨tm0, hp0, nx, nt0⟩ =>
    match tr.find t with
    | some ⟨.td (.slice e), _, _, _⟩ => match tr.find e with
      | some ⟨_, isz, iby, izero⟩ => bif ixs ps 0 && Nat.beq ps.length n && Nat.ble (n * isz) 16777216 && ps.all (fun p => (St.ev ⟨tm0, hp0, nx, nt0⟩ p.2).known) && litOK ⟨tm0, hp0, nx, nt0⟩ ps && (elems ⟨tm0, hp0, nx, nt0⟩ ps).all (fun x => Nat.beq x.length isz) then
          onLL (foldLL hp0 (elems ⟨tm0, hp0, nx, nt0⟩ ps)).1 fun xs => bif xs.flatten.all AV.closed then onH (foldLL hp0 (elems ⟨tm0, hp0, nx, nt0⟩ ps)).2 fun h => K (.hw nx) ((nx, .row isz xs) :: h) else F
        else F
      | none => F
    | _ => F

def firstK (st : St) (x : AV) (sz : Nat) (K : List (List AV) → List (Nat × Row) → Prop) (F : Prop) : Prop :=
  match x with
  | .lit (.slice none 0 0) => K [] st.hp
  | .sl true _ [] => K [] st.hp
  | .hw id => match row id st.hp with
    | some (.row s xs) => bif Nat.beq s sz then K xs (rem id st.hp) else F
    | _ => F
  | _ => F

def srcK (hp : List (Nat × Row)) (y : AV) (sz : Nat) (K : List (List AV) → List (Nat × Row) → Prop) (F : Prop) : Prop :=
  match y with
  | .lit (.slice none 0 0) => K [] hp
  | .sl _ s ys => bif Nat.beq s sz then K ys hp else F
  | .hw id => match row id hp with
    | some (.row s ys) => bif Nat.beq s sz then K ys (rem id hp) else F
    | _ => F
  | _ => F

def appendV (tr : TyT) (st : St) (t t2 : Nat) (x y : Operand) (K : AV → List (Nat × Row) → Prop) (F : Prop) : Prop := match st with
  | ⟨tm0, hp0, nx, nt0⟩ =>
    match tr.find t with
    | some ⟨.td (.slice e), _, _, _⟩ => match tr.find e with
      | some ⟨_, isz, iby, izero⟩ => match tr.find t2 with
        | some ⟨.td (.slice _), _, _, _⟩ => firstK ⟨tm0, hp0, nx, nt0⟩ (St.ev ⟨tm0, hp0, nx, nt0⟩ x) isz (fun xs h1 => srcK h1 (St.ev ⟨tm0, hp0, nx, nt0⟩ y) isz (fun ys h2 => App xs ys iby (onH h2 fun h => K (.hw nx) ((nx, .row isz (xs ++ ys)) :: h))) F) F
        | _ => F
      | none => F
    | _ => F

def makeK (tr : TyT) (st : St) (t : Nat) (x y : Operand) (K : AV → List (Nat × Row) → Prop) (F : Prop) : Prop := match st with
  | ⟨tm0, hp0, nx, nt0⟩ =>
    match tr.find t with
    | some ⟨.td (.slice e), _, _, _⟩ => match tr.find e with
      | some ⟨_, isz, iby, izero⟩ => match St.ev ⟨tm0, hp0, nx, nt0⟩ x, St.ev ⟨tm0, hp0, nx, nt0⟩ y with
        | .lit (.int _ m), .lit (.int _ m2) => MkS m m2 iby fun n => K (.hw nx) ((nx, .row isz (List.replicate n (izero.map .lit))) :: hp0)
        | _, _ => F
      | none => F
    | _ => F

/-- What makes an entry of the heap. -/
def okOp (tr : TyT) (st : St) (op : Op) (K : AV → List (Nat × Row) → Prop) (F : Prop) : Prop :=
  match op with
  | .box _ x => (st.ev x).onD fun v => bif v.known && oneOK v then varK st v.cells K else F
  | .alloc t => match tr.find t with
    | some i => varK st (i.zero.map .lit) K
    | none => F
  | .load t x => takeV tr st t x K F
  | .makeSlice t x y => makeK tr st t x y K F
  | .buildSlice t n ps => rowLit tr st t n ps.toList K F
  | .call c => match c.callee with
    | .builtin .append => match c.args.toList, c.argTypes.toList with
      | [x, y], [t, t2] => appendV tr st t t2 x y K F
      | _, _ => F
    | _ => F
  | _ => F

def storeV (tr : TyT) (st : St) (t : Nat) (x y : Operand) (K : List (Nat × Row) → Prop) (F : Prop) : Prop :=
  match tr.find t with
  | some i => match st.ev x with
    | .hp id off => (st.ev y).onD fun v => bif v.known && v.cells.all AV.leaf && Nat.beq v.cells.length i.size then
        match row id (foldL st.hp v.cells).2 with
        | some (.var cs) => bif Nat.ble (off + i.size) cs.length then onL (splice cs off (foldL st.hp v.cells).1) fun cs' => onH (rem id (foldL st.hp v.cells).2) fun h => K ((id, .var cs') :: h) else F
        | _ => F
      else F
    | .hq id n off => (st.ev y).onD fun v => bif v.known && v.cells.all AV.leaf && Nat.beq v.cells.length i.size then
        match row id (foldL st.hp v.cells).2 with
        | some (.row sz xs) => PickN xs n fun cs => bif (foldL st.hp v.cells).1.all AV.closed && Nat.ble (off + i.size) cs.length then onL (splice cs off (foldL st.hp v.cells).1) fun cs' => onH (rem id (foldL st.hp v.cells).2) fun h => K ((id, .row sz (xs.set n cs')) :: h) else F
        | some (.foc sz xs cs n2 off2 _) => match (foldL st.hp v.cells).1 with
          | [u] => bif u.closed && Nat.beq off off2 then Need (n = n2) (onL (cs.set off u) fun cs' => onH (rem id (foldL st.hp v.cells).2) fun h => K ((id, .row sz (xs.set n cs')) :: h)) else F
          | _ => F
        | _ => F
      else F
    | _ => F
  | none => F

/-- What writes. -/
def doOp (tr : TyT) (st : St) (op : Op) (K : List (Nat × Row) → Prop) (F : Prop) : Prop :=
  match op with
  | .store t x y => storeV tr st t x y K F
  | _ => F

section
variable {P : Program} {tr : TyT} {st : St} {F : Prop} {o : Oper}

def Ok (P : Program) (st : St) (o : Oper) (K : AV → List (Nat × Row) → Prop) (F : Prop) : Prop := (∃ v hp, OpOK P st o v ⟨st.tm, hp, st.nx + 1, st.nt⟩ ∧ K v hp) ∨ F
def Wr (P : Program) (st : St) (o : Oper) (K : List (Nat × Row) → Prop) (F : Prop) : Prop := (∃ hp, OpDo P st o ⟨st.tm, hp, st.nx, st.nt⟩ ∧ K hp) ∨ F

theorem takeV_ok {K : AV → List (Nat × Row) → Prop} (hT : tr.OK P) {t : Nat} {x : Operand} (h : o.op = .load t x) (hk : takeV tr st t x K F) : Ok P st o K F := by
  obtain ⟨tm0, hp0, nx, nt0⟩ := st
  unfold takeV at hk
  dsimp only at hk
  split at hk
  · rename_i i hf
    have ht := TyT.find_ok hT hf
    cases hb : i.isAgg with
    | true => rw [hb] at hk; exact .inr hk
    | false =>
      rw [hb] at hk; dsimp only [cond_false] at hk
      split at hk
      · rename_i hx
        split at hk
        · rename_i hrow
          split at hk
          · rename_i hd; rw [onL_eq, onH_eq] at hk; exact .inl ⟨_, _, ok_take_hp h ht hb hx hrow hd, hk⟩
          · exact .inr hk
        · exact .inr hk
      · rename_i hx
        split at hk
        · rename_i hrow
          obtain ⟨cs, hg, hk⟩ := hk
          rw [onL_eq] at hk
          split at hk
          · rename_i hd; rw [onH_eq] at hk; exact .inl ⟨_, _, ok_focus h ht hb hx hrow hg hd, hk⟩
          · exact .inr hk
        · exact .inr hk
      · exact .inr hk
  · exact .inr hk

theorem rowLit_ok {K : AV → List (Nat × Row) → Prop} (hT : tr.OK P) {t n : Nat} {ps : Array (Nat × Operand)} (h : o.op = .buildSlice t n ps) (hk : rowLit tr st t n ps.toList K F) : Ok P st o K F := by
  obtain ⟨tm0, hp0, nx, nt0⟩ := st
  unfold rowLit at hk
  dsimp only at hk
  split at hk
  · rename_i hf
    have ht := TyT.find_ok hT hf
    split at hk
    · rename_i itd isz iby izero hf2
      have he := TyT.find_ok hT hf2
      cases hc : (ixs ps.toList 0 && Nat.beq ps.toList.length n && Nat.ble (n * isz) 16777216 && ps.toList.all (fun p => (St.ev ⟨tm0, hp0, nx, nt0⟩ p.2).known) && litOK ⟨tm0, hp0, nx, nt0⟩ ps.toList && (elems ⟨tm0, hp0, nx, nt0⟩ ps.toList).all (fun x => Nat.beq x.length isz)) with
      | false => rw [hc] at hk; exact .inr hk
      | true =>
        rw [hc] at hk; dsimp only [cond_true] at hk
        rw [onLL_eq] at hk
        simp only [Bool.and_eq_true] at hc
        obtain ⟨⟨⟨⟨⟨c1, c2⟩, c3⟩, c4⟩, c5⟩, c6⟩ := hc
        cases hcl : (foldLL hp0 (elems ⟨tm0, hp0, nx, nt0⟩ ps.toList)).1.flatten.all AV.closed with
        | false => rw [hcl] at hk; exact .inr hk
        | true =>
          rw [hcl] at hk; dsimp only [cond_true] at hk; rw [onH_eq] at hk
          have hix := ixs_spec c1
          rw [Nat.eq_of_beq_eq_true c2] at hix
          exact .inl ⟨_, _, ok_buildSlice h ht rfl he hix c3 c4 c5 c6 rfl hcl, hk⟩
    · exact .inr hk
  · exact .inr hk

theorem firstK_ok {x : AV} {sz : Nat} {K : List (List AV) → List (Nat × Row) → Prop} (hk : firstK st x sz K F) : (∃ xs h, FirstA st st.hp x sz xs h ∧ K xs h) ∨ F := by
  unfold firstK at hk
  split at hk
  · exact .inl ⟨_, _, first_nil, hk⟩
  · exact .inl ⟨_, _, first_full, hk⟩
  · split at hk
    · rename_i hrow
      cases hb : Nat.beq _ sz with
      | true => rw [hb] at hk; obtain rfl := Nat.eq_of_beq_eq_true hb; exact .inl ⟨_, _, first_hw hrow, hk⟩
      | false => rw [hb] at hk; exact .inr hk
    · exact .inr hk
  · exact .inr hk

theorem srcK_ok {hp : List (Nat × Row)} {x : AV} {sz : Nat} {K : List (List AV) → List (Nat × Row) → Prop} (hk : srcK hp x sz K F) : (∃ xs h, SrcA st hp x sz xs h ∧ K xs h) ∨ F := by
  unfold srcK at hk
  split at hk
  · exact .inl ⟨_, _, src_nil, hk⟩
  · cases hb : Nat.beq _ sz with
    | true => rw [hb] at hk; obtain rfl := Nat.eq_of_beq_eq_true hb; exact .inl ⟨_, _, src_sl, hk⟩
    | false => rw [hb] at hk; exact .inr hk
  · split at hk
    · rename_i hrow
      cases hb : Nat.beq _ sz with
      | true => rw [hb] at hk; obtain rfl := Nat.eq_of_beq_eq_true hb; exact .inl ⟨_, _, src_hw hrow, hk⟩
      | false => rw [hb] at hk; exact .inr hk
    · exact .inr hk
  · exact .inr hk

theorem appendV_ok {K : AV → List (Nat × Row) → Prop} (hT : tr.OK P) {dst : Option Nat} {t t2 ty : Nat} {x y : Operand} {pos : String} {af : Array Edge} {gd : Option (Nat × Bool)}
    (h : o = ⟨dst, .call { callee := .builtin .append, args := #[x, y], argTypes := #[t, t2] }, ty, pos, af, gd⟩) (hk : appendV tr st t t2 x y K F) : Ok P st o K F := by
  obtain ⟨tm0, hp0, nx, nt0⟩ := st
  unfold appendV at hk
  dsimp only at hk
  split at hk
  · rename_i hf
    have ht := TyT.find_ok hT hf
    split at hk
    · rename_i itd isz iby izero hf2
      have he := TyT.find_ok hT hf2
      split at hk
      · rename_i hf3
        have ht2 := TyT.find_ok hT hf3
        rcases firstK_ok hk with ⟨xs, h1, g1, hk⟩ | hk
        · rcases srcK_ok (st := ⟨tm0, hp0, nx, nt0⟩) hk with ⟨ys, h2, g2, hk⟩ | hk
          · obtain ⟨a1, a2, a3, hk⟩ := hk
            rw [onH_eq] at hk
            exact .inl ⟨_, _, ok_append h ht rfl he ht2 rfl (Nat.beq_refl _) g1 g2 a1 a2 a3, hk⟩
          · exact .inr hk
        · exact .inr hk
      · exact .inr hk
    · exact .inr hk
  · exact .inr hk

theorem makeK_ok {K : AV → List (Nat × Row) → Prop} (hT : tr.OK P) {t : Nat} {x y : Operand} (h : o.op = .makeSlice t x y) (hk : makeK tr st t x y K F) : Ok P st o K F := by
  obtain ⟨tm0, hp0, nx, nt0⟩ := st
  unfold makeK at hk
  dsimp only at hk
  split at hk
  · rename_i hf
    have ht := TyT.find_ok hT hf
    split at hk
    · rename_i itd isz iby izero hf2
      have he := TyT.find_ok hT hf2
      split at hk
      · rename_i hx hy
        obtain ⟨n, rfl, rfl, h1, h2, hk⟩ := hk
        exact .inl ⟨_, _, ok_makeSlice h ht rfl he hx hy h1 h2, hk⟩
      · exact .inr hk
    · exact .inr hk
  · exact .inr hk

theorem okOp_ok {K : AV → List (Nat × Row) → Prop} (hT : tr.OK P) (hk : okOp tr st o.op K F) : Ok P st o K F := by
  obtain ⟨tm0, hp0, nx, nt0⟩ := st
  generalize ho : o.op = op at hk
  unfold okOp at hk
  split at hk
  · rw [AV.onD_eq] at hk
    cases hb : ((St.ev ⟨tm0, hp0, nx, nt0⟩ _).known && oneOK (St.ev ⟨tm0, hp0, nx, nt0⟩ _)) with
    | false => rw [hb] at hk; exact .inr hk
    | true =>
      rw [hb] at hk; dsimp only [cond_true] at hk
      unfold varK at hk
      dsimp only at hk
      rw [onL_eq, onH_eq] at hk
      rw [Bool.and_eq_true] at hb
      exact .inl ⟨_, _, ok_box ho rfl hb.1 (oneOK_spec hb.2), hk⟩
  · split at hk
    · rename_i hf
      unfold varK at hk
      dsimp only at hk
      rw [onL_eq, onH_eq] at hk
      exact .inl ⟨_, _, ok_alloc ho (TyT.find_ok hT hf), hk⟩
    · exact .inr hk
  · exact takeV_ok hT ho hk
  · exact makeK_ok hT ho hk
  · exact rowLit_ok hT ho hk
  · rename_i c
    obtain ⟨callee, args, argTypes⟩ := c
    dsimp only at hk
    split at hk
    · split at hk
      · rename_i x y t t2 h1 h2
        have e1 : args = #[x, y] := by cases args; simp_all
        have e2 : argTypes = #[t, t2] := by cases argTypes; simp_all
        subst e1 e2
        obtain ⟨dst, op, ty, pos, af, gd⟩ := o
        dsimp only at ho
        subst ho
        exact appendV_ok hT rfl hk
      · exact .inr hk
    · exact .inr hk
  · exact .inr hk

theorem storeV_ok {K : List (Nat × Row) → Prop} (hT : tr.OK P) {t : Nat} {x y : Operand} (h : o.op = .store t x y) (hk : storeV tr st t x y K F) : Wr P st o K F := by
  unfold storeV at hk
  split at hk
  · rename_i i hf
    have ht := TyT.find_ok hT hf
    split at hk
    · rename_i id off hx
      rw [AV.onD_eq] at hk
      cases hc : ((st.ev y).known && (st.ev y).cells.all AV.leaf && Nat.beq (st.ev y).cells.length i.size) with
      | false => rw [hc] at hk; exact .inr hk
      | true =>
        rw [hc] at hk; dsimp only [cond_true] at hk
        simp only [Bool.and_eq_true] at hc
        obtain ⟨⟨c1, c2⟩, c3⟩ := hc
        split at hk
        · rename_i cs hrow
          cases hb : Nat.ble (off + i.size) cs.length with
          | false => rw [hb] at hk; exact .inr hk
          | true =>
            rw [hb] at hk; dsimp only [cond_true] at hk
            rw [onL_eq, onH_eq] at hk
            exact .inl ⟨_, ok_store_hp h ht hx rfl c1 c2 c3 rfl hrow hb rfl, hk⟩
        · exact .inr hk
    · rename_i id n off hx
      rw [AV.onD_eq] at hk
      cases hc : ((st.ev y).known && (st.ev y).cells.all AV.leaf && Nat.beq (st.ev y).cells.length i.size) with
      | false => rw [hc] at hk; exact .inr hk
      | true =>
        rw [hc] at hk; dsimp only [cond_true] at hk
        simp only [Bool.and_eq_true] at hc
        obtain ⟨⟨c1, c2⟩, c3⟩ := hc
        split at hk
        · rename_i sz xs hrow
          obtain ⟨cs, hg, hk⟩ := hk
          cases hb : ((foldL st.hp (st.ev y).cells).1.all AV.closed && Nat.ble (off + i.size) cs.length) with
          | false => rw [hb] at hk; exact .inr hk
          | true =>
            rw [hb] at hk; dsimp only [cond_true] at hk
            rw [onL_eq, onH_eq] at hk
            rw [Bool.and_eq_true] at hb
            exact .inl ⟨_, ok_store_hq h ht hx rfl c1 c2 c3 rfl hb.1 hrow hg hb.2 rfl, hk⟩
        · rename_i sz xs cs n2 off2 j hrow
          split at hk
          · rename_i u hu
            cases hb : (u.closed && Nat.beq off off2) with
            | false => rw [hb] at hk; exact .inr hk
            | true =>
              rw [hb] at hk; dsimp only [cond_true] at hk
              rw [Bool.and_eq_true] at hb
              obtain ⟨rfl, hk⟩ := hk
              obtain rfl := Nat.eq_of_beq_eq_true hb.2
              rw [onL_eq, onH_eq] at hk
              exact .inl ⟨_, ok_store_foc h ht hx rfl c1 c2 c3 (Prod.ext hu rfl) hb.1 hrow, hk⟩
          · exact .inr hk
        · exact .inr hk
    · exact .inr hk
  · exact .inr hk

theorem doOp_ok {K : List (Nat × Row) → Prop} (hT : tr.OK P) (hk : doOp tr st o.op K F) : Wr P st o K F := by
  generalize ho : o.op = op at hk
  unfold doOp at hk
  split at hk
  · exact storeV_ok hT ho hk
  · exact .inr hk
end

theorem doOp_store {tr : TyT} {st : St} {op : Op} {K : List (Nat × Row) → Prop} (h : doOp tr st op K False) : kp op = false := by
  unfold doOp at h
  split at h
  · rfl
  · exact h.elim

/-- A function that has a body. -/
def HasF (P : Program) (g : Nat) : Prop := ∃ fn c, P.funcs[g]? = some fn ∧ fn.body = some c ∧ (fn.name == "runtime.NumGoroutine") = false

/-- A function's contract. -/
structure FnSpec (P : Program) (g : Nat) (as : List AV) (Q : AV → Prop) : Prop where
  has : HasF P g
  good : Good P g as Q

inductive CallV (P : Program) (g : Nat) (as : List AV) (k : AV → Prop) : Prop
  | mk (Q : AV → Prop) : FnSpec P g as Q → (∀ r, Q r → r.flat3 = true ∧ r.Free ∧ k r) → CallV P g as k
theorem CallV.eq {P : Program} {g : Nat} {as : List AV} {k : AV → Prop} {v : AV} (h : FnSpec P g as (fun r => r = v)) (hf : v.flat3 = true) (h2 : v.Free) (hk : k v) : CallV P g as k := ⟨_, h, fun r e => by rw [e]; exact ⟨hf, h2, hk⟩⟩

theorem CallV.of {P : Program} {g : Nat} {as : List AV} {k : AV → Prop} {Q : AV → Prop} (h : FnSpec P g as Q) (hk : ∀ r, Q r → r.flat3 = true ∧ r.Free ∧ k r) : CallV P g as k := ⟨Q, h, hk⟩
theorem CallV.le {P : Program} {g : Nat} {as bs : List AV} {k : AV → Prop} (hl : LeL as bs) (h : CallV P g bs k) : CallV P g as k := by
  obtain ⟨Q, h, hk⟩ := h
  exact ⟨Q, ⟨h.has, h.good.le hl⟩, hk⟩

inductive Call (P : Program) (g : Nat) (as : List AV) (k : AV → Prop) : Prop
  | mk (Q : AV → Prop) : FnSpec P g as Q → (∀ r, Q r → r.flat3 = true ∧ k r) → Call P g as k
theorem Call.of {P : Program} {g : Nat} {as : List AV} {k : AV → Prop} {Q : AV → Prop} (h : FnSpec P g as Q) (hk : ∀ r, Q r → r.flat3 = true ∧ k r) : Call P g as k := ⟨Q, h, hk⟩
theorem Call.eq {P : Program} {g : Nat} {as : List AV} {k : AV → Prop} {v : AV} (h : FnSpec P g as (fun r => r = v)) (hf : v.flat3 = true) (hk : k v) : Call P g as k := ⟨_, h, fun r e => by rw [e]; exact ⟨hf, hk⟩⟩
theorem Call.le {P : Program} {g : Nat} {as bs : List AV} {k : AV → Prop} (hl : LeL as bs) (h : Call P g bs k) : Call P g as k := by
  obtain ⟨Q, h, hk⟩ := h
  exact ⟨Q, ⟨h.has, h.good.le hl⟩, hk⟩

/-- Results, one by one. -/
def resK (tr : TyT) (st : St) : List ResultVar → List (Nat × Row) → (List AV → Prop) → Prop → Prop
  | [], _, K, F => K []
  | rv :: rvs, hp, K, F => match rv with
    | .tmp d => match get d st.tm with
      | .agg cs => onL (foldL hp cs).1 fun rs => bif rs.all AV.closed then onH (foldL hp cs).2 fun h => resK tr st rvs h (fun l => K (.agg rs :: l)) F else F
      | .hp id 0 => match row id hp with
        | some (.var cs) => onL (foldL (rem id hp) cs).1 fun rs => bif rs.all AV.closed then onH (foldL (rem id hp) cs).2 fun h => resK tr st rvs h (fun l => K (.opt rs :: l)) F else F
        | _ => F
      | v => (fold1 hp v).1.on fun r => bif r.closed then onH (fold1 hp v).2 fun h => resK tr st rvs h (fun l => K (r :: l)) F else F
    | .cell d t => match get d st.tm with
      | .hp id 0 => match row id hp with
        | some (.var cs) => match tr.find t with
          | some i => bif i.isAgg then (bif Nat.beq i.size cs.length && cs.all AV.closed then onH (rem id hp) fun h => resK tr st rvs h (fun l => K (.agg cs :: l)) F else F)
            else match cs with
              | r :: _ => bif r.closed then onH (rem id hp) fun h => resK tr st rvs h (fun l => K (r :: l)) F else F
              | [] => F
          | none => F
        | _ => F
      | _ => F

section
variable {P : Program} {tr : TyT} {st : St} {hp : List (Nat × Row)}

theorem resK_ok (hT : tr.OK P) {F : Prop} : ∀ {rvs : List ResultVar} {hp : List (Nat × Row)} {K : List AV → Prop}, resK tr st rvs hp K F → (∃ rs, ResL P st hp rvs rs ∧ K rs) ∨ F
  | [], hp, K, hk => .inl ⟨[], .nil, hk⟩
  | rv :: rvs, hp, K, hk => by
    have step : ∀ {r : AV} {h : List (Nat × Row)}, Res P st hp rv r h → resK tr st rvs h (fun l => K (r :: l)) F → (∃ rs, ResL P st hp (rv :: rvs) rs ∧ K rs) ∨ F := fun h1 h2 => by
      rcases resK_ok hT h2 with ⟨rs, g1, g2⟩ | g
      · exact .inl ⟨_, .cons h1 g1, g2⟩
      · exact .inr g
    unfold resK at hk
    split at hk
    · rename_i d
      split at hk
      · rename_i cs hv
        rw [onL_eq] at hk
        cases hc : (foldL hp cs).1.all AV.closed with
        | false => rw [hc] at hk; exact .inr hk
        | true => rw [hc] at hk; dsimp only [cond_true] at hk; rw [onH_eq] at hk; exact step (res_agg hv rfl hc) hk
      · rename_i id hv
        split at hk
        · rename_i cs hrow
          rw [onL_eq] at hk
          cases hc : (foldL (rem id hp) cs).1.all AV.closed with
          | false => rw [hc] at hk; exact .inr hk
          | true => rw [hc] at hk; dsimp only [cond_true] at hk; rw [onH_eq] at hk; exact step (res_ptr hv hrow rfl hc) hk
        · exact .inr hk
      · rw [AV.on_eq] at hk
        cases hc : (fold1 hp (get d st.tm)).1.closed with
        | false => rw [hc] at hk; exact .inr hk
        | true => rw [hc] at hk; dsimp only [cond_true] at hk; rw [onH_eq] at hk; exact step (res_tmp rfl rfl hc) hk
    · rename_i d t
      split at hk
      · rename_i id hv
        split at hk
        · rename_i cs hrow
          split at hk
          · rename_i i hf
            have ht := TyT.find_ok hT hf
            cases hb : i.isAgg with
            | true =>
              rw [hb] at hk; dsimp only [cond_true] at hk
              cases hc : (Nat.beq i.size cs.length && cs.all AV.closed) with
              | false => rw [hc] at hk; exact .inr hk
              | true =>
                rw [hc] at hk; dsimp only [cond_true] at hk; rw [onH_eq] at hk
                rw [Bool.and_eq_true] at hc
                exact step (res_cells hv ht hb hrow hc.1 hc.2) hk
            | false =>
              rw [hb] at hk; dsimp only [cond_false] at hk
              split at hk
              · rename_i r rest
                cases hc : r.closed with
                | false => rw [hc] at hk; exact .inr hk
                | true => rw [hc] at hk; dsimp only [cond_true] at hk; rw [onH_eq] at hk; exact step (res_cell hv ht hb hrow rfl hc) hk
              · exact .inr hk
          · exact .inr hk
        · exact .inr hk
      · exact .inr hk
end
end Go.Ax
