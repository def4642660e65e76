/- Operations, one by one: what each makes of an abstract state; a step of a region by each. -/
import Derived.Test.YtnfkdilmoppbpaaAxB
import Derived.Laws.Small
namespace Go.Ax
open Go.RowKit
set_option linter.unusedVariables false
set_option linter.unusedSimpArgs false

/-- What is known of a type: its description (of a struct: where its fields begin, and their types), its cells, its bytes, its zero. -/
inductive TD where
  | td (d : TypeDesc)
  | agg (fs : List (Nat × Nat))

structure TyI where
  td : TD
  size : Nat
  bytes : Nat
  zero : List Value

def plainD : TypeDesc → Bool
  | .struct _ | .array _ _ => false
  | _ => true

def TD.holds (P : Program) (t : Nat) : TD → Prop
  | .td d => P.underlying t = some d ∧ plainD d = true
  | .agg fs => ∃ fields : Array Field, P.underlying t = some (.struct fields) ∧ fields.toList.map (fun f => (f.offset, f.type)) = fs

def TyOK (P : Program) (t : Nat) (i : TyI) : Prop :=
  i.td.holds P t ∧ i.zero.length = i.size ∧ ∃ info, P.info? t = some info ∧ info.size = i.size ∧ info.bytes = i.bytes ∧ ∃ z, info.zero = some z ∧ z.cells = i.zero.toArray

/-- All that is said of types. -/
class Types (P : Program) where
  ty : Nat → Option TyI
  ok : ∀ t i, ty t = some i → TyOK P t i

/-- Operations that leave all blocks that are there as they are. -/
def kp : Op → Bool
  | .store .. | .entryStore .. | .mapUpdate .. | .insert .. | .mapEntry .. => false
  | .call c => match c.callee with
    | .builtin .len | .builtin .cap | .builtin .min | .builtin .max => true
    | .value (.func _) => true
    | _ => false
  | _ => true

def Same (w w' : World) : Prop := ∀ b, b < w.heap.size → w'.heap[b]? = w.heap[b]?

theorem Same.refl (w : World) : Same w w := fun _ _ => rfl

/-- An operation hands on v. -/
def OpOK (P : Program) (st : St) (o : Oper) (v : AV) (st' : St) : Prop :=
  st'.nt = st.nt ∧ ∀ S0 B w0 I a w, Rel S0 B w0 I st a w → ∃ x w' I', (execOp a.eval o).run P w = .ok (.value x) w' ∧ Rel S0 B w0 I' st' a w' ∧ Rep I' w' (.v v x) ∧ (kp o.op = true → Same w w')

/-- Operations that look at no memory. -/
def memFree : Op → Bool
  | .load .. | .lookup .. => false
  | _ => true

/-- What an operation reads, whatever comes between. -/
def Reads (P : Program) (st : St) (o : Oper) (v : AV) : Prop :=
  ∀ S0 B w0 I a w, Rel S0 B w0 I st a w → ∃ x, (∀ w', (memFree o.op = true ∨ Same w w') → (execOp a.eval o).run P w' = .ok (.value x) w') ∧ Rep I w (.v v x)

theorem Same.size {a b : World} (h : Same a b) : a.heap.size ≤ b.heap.size := by
  rcases Nat.lt_or_ge b.heap.size a.heap.size with hlt | hge
  · have := h b.heap.size hlt
    rw [Array.getElem?_eq_none (Nat.le_refl _)] at this
    rw [Array.getElem?_eq_getElem hlt] at this
    cases this
  · exact hge

theorem Same.cell {w w' : World} (h : Same w w') {b o : Nat} {v : Value} (hc : w.cell? ⟨b, o, none⟩ = some v) : w'.cell? ⟨b, o, none⟩ = some v := by
  have hb : b < w.heap.size := by
    rcases Nat.lt_or_ge b w.heap.size with h1 | h1
    · exact h1
    · simp [World.cell?, Array.getElem?_eq_none h1] at hc
  rw [← hc]
  exact World.cell?_of_block (w := w) (h b hb)

theorem Reads.ok {P : Program} {st : St} {o : Oper} {v : AV} (h : Reads P st o v) : OpOK P st o v st := ⟨rfl, fun S0 B w0 I a w hr =>
  let ⟨x, h1, h2⟩ := h S0 B w0 I a w hr
  ⟨x, w, I, h1 w (.inr (Same.refl w)), hr, h2, fun _ => Same.refl w⟩⟩

/-- An operation that hands on nothing. -/
def OpDo (P : Program) (st : St) (o : Oper) (st' : St) : Prop :=
  ∀ S0 B w0 I a w, Rel S0 B w0 I st a w → ∃ w' I', (execOp a.eval o).run P w = .ok .skip w' ∧ Rel S0 B w0 I' st' a w'

/-- An operation is wanted. -/
def Want (A : Array Oper) (st : St) (g : Option (Nat × Bool)) : Prop :=
  match g with
  | none => True
  | some (j, want) => ∃ d, (A[j]?).bind (·.dst) = some d ∧ Nat.blt d st.nt = true ∧ get d st.tm = .lit (.bool want)

section
variable {P : Program} {f : Nat} {Q : Post} {k : List Item} {st st' : St} {A : Array Oper} {i : Nat} {rest : List Nat}

theorem want_none : Want A st none := trivial
theorem want_some {j : Nat} {b : Bool} {d : Nat} (h : (A[j]?).bind (·.dst) = some d) (hd : Nat.blt d st.nt = true) (hv : get d st.tm = .lit (.bool b)) : Want A st (some (j, b)) := ⟨d, h, hd, hv⟩

theorem Rel.yield {S0 : Interp} {B : Nat} {w0 : World} {I : Interp} {a : Act} {w : World} (h : Rel S0 B w0 I st a w) {j d : Nat} {b : Bool} (hj : (A[j]?).bind (·.dst) = some d) (hd : Nat.blt d st.nt = true)
    (hv : get d st.tm = .lit (.bool b)) : yielded A a.tmps j = some b := by
  have hd' : d < a.tmps.size := by rw [h.nt]; simpa using hd
  have := h.tm d
  rw [hv] at this
  have h2 := this.lit_inv
  simp only [yielded, hj, Option.bind_some]
  have h3 : a.tmps[d]? = some (.bool b) := by
    rw [Array.getElem?_eq_getElem hd']
    rw [Array.getD_eq_getD_getElem?, Array.getElem?_eq_getElem hd', Option.getD_some] at h2
    exact congrArg some h2
  rw [h3]

theorem Rel.wanted {S0 : Interp} {B : Nat} {w0 : World} {I : Interp} {a : Act} {w : World} (h : Rel S0 B w0 I st a w) {o : Oper} (hw : Want A st o.guard) : Region.wanted o (yielded A a.tmps) = true := by
  unfold Want at hw
  unfold Region.wanted
  cases hg : o.guard with
  | none => rfl
  | some g =>
    obtain ⟨j, b⟩ := g
    rw [hg] at hw
    obtain ⟨d, h1, h2, h3⟩ := hw
    simp only [h.yield h1 h2 h3]
    simp

theorem step_op_value {b : Frame} {a : Act} {cs : List Frame} {w w' : World} {o : Oper} {v : Value} (ho : A[i]? = some o) (hw : Region.wanted o (yielded A a.tmps) = true) (hr : (execOp a.eval o).run P w = .ok (.value v) w') :
    step P (lone (b.at a (.inRegion A (i :: rest) :: k)) cs w) = .next (lone (b.at (a.put o.dst v) (.inRegion A rest :: k)) cs w') := by
  have hg := stepG_op (P := P) (b := b) (k := k) (cs := cs) (w := w) (rest := rest) ho hw
  have hfin : (b.at a (.inRegion A (i :: rest) :: k)).finish v = b.at (a.put o.dst v) (.inRegion A rest :: k) := by rw [Frame.finish_at, ho]; rfl
  refine step_lone_go ?_
  rw [hg, ← hfin]; simp [stepG.apply, hr]

theorem step_op_do {b : Frame} {a : Act} {cs : List Frame} {w w' : World} {o : Oper} (ho : A[i]? = some o) (hw : Region.wanted o (yielded A a.tmps) = true) (hr : (execOp a.eval o).run P w = .ok .skip w') :
    step P (lone (b.at a (.inRegion A (i :: rest) :: k)) cs w) = .next (lone (b.at (a.put o.dst undef) (.inRegion A rest :: k)) cs w') := by
  have hg := stepG_op (P := P) (b := b) (k := k) (cs := cs) (w := w) (rest := rest) ho hw
  have hfin : (b.at a (.inRegion A (i :: rest) :: k)).finish undef = b.at (a.put o.dst undef) (.inRegion A rest :: k) := by rw [Frame.finish_at, ho]; rfl
  refine step_lone_go ?_
  rw [hg, ← hfin]; simp [stepG.apply, hr]

theorem run_op {d : Nat} {op : Op} {t : Nat} {pos : String} {af : Array Edge} {g : Option (Nat × Bool)} {v : AV} (ho : A[i]? = some ⟨some d, op, t, pos, af, g⟩) (hw : Want A st g) (hd : Nat.blt d st.nt = true)
    (hop : OpOK P st ⟨some d, op, t, pos, af, g⟩ v st') (h : Run P f Q (.inRegion A rest :: k) (st'.set d v)) : Run P f Q (.inRegion A (i :: rest) :: k) st := by
  refine run_by h fun S0 B w0 I a w hr => ?_
  obtain ⟨hn, hop⟩ := hop
  obtain ⟨x, w', I', h1, h2, h3, _⟩ := hop S0 B w0 I a w hr
  exact ⟨I', a.put (some d) x, w', h2.put (by rw [hn]; exact hd) h3, fun b cs _ => .one (step_op_value ho (hr.wanted hw) h1)⟩

theorem run_do {op : Op} {t : Nat} {pos : String} {af : Array Edge} {g : Option (Nat × Bool)} (ho : A[i]? = some ⟨none, op, t, pos, af, g⟩) (hw : Want A st g)
    (hop : OpDo P st ⟨none, op, t, pos, af, g⟩ st') (h : Run P f Q (.inRegion A rest :: k) st') : Run P f Q (.inRegion A (i :: rest) :: k) st := by
  refine run_by h fun S0 B w0 I a w hr => ?_
  obtain ⟨w', I', h1, h2⟩ := hop S0 B w0 I a w hr
  exact ⟨I', a, w', h2, fun b cs _ => .one (step_op_do ho (hr.wanted hw) h1)⟩

/-- A guard's value is that which is wanted. -/
def asks (v : Value) (want : Bool) : Bool := match v with | .bool b => b == want | _ => false

theorem Rel.yieldL {S0 : Interp} {B : Nat} {w0 : World} {I : Interp} {a : Act} {w : World} (h : Rel S0 B w0 I st a w) {j d : Nat} {v : Value} (hj : (A[j]?).bind (·.dst) = some d) (hd : Nat.blt d st.nt = true)
    (hv : get d st.tm = .lit v) {o : Oper} {want : Bool} (hg : o.guard = some (j, want)) (hb : asks v want = false) : Region.wanted o (yielded A a.tmps) = false := by
  have hd' : d < a.tmps.size := by rw [h.nt]; simpa using hd
  have := h.tm d
  rw [hv] at this
  have h2 := this.lit_inv
  have h3 : a.tmps[d]? = some v := by
    rw [Array.getElem?_eq_getElem hd']
    rw [Array.getD_eq_getD_getElem?, Array.getElem?_eq_getElem hd', Option.getD_some] at h2
    exact congrArg some h2
  unfold Region.wanted
  simp only [hg, yielded, hj, Option.bind_some, h3]
  cases v <;> simp_all [asks]

/-- An operation that is not wanted. -/
theorem run_skipped {o : Oper} {j d : Nat} {want : Bool} {v : Value} (ho : A[i]? = some o) (hg : o.guard = some (j, want)) (hj : (A[j]?).bind (·.dst) = some d) (hd : Nat.blt d st.nt = true)
    (hv : get d st.tm = .lit v) (hb : asks v want = false) (hdst : ∀ d, o.dst = some d → Nat.blt d st.nt = true) (h : Run P f Q (.inRegion A rest :: k) (match o.dst with | some d => st.set d (.lit undef) | none => st)) :
    Run P f Q (.inRegion A (i :: rest) :: k) st := by
  refine run_by h fun S0 B w0 I a w hr => ?_
  refine ⟨I, a.put o.dst undef, w, ?_, fun bf cs _ => .one ?_⟩
  · cases hdd : o.dst with
    | none => exact hr
    | some d => exact hr.put (hdst d hdd) (.std (.lit _))
  · have hs := step_op_skip (P := P) (b := bf) (a := a) (k := k) (cs := cs) (w := w) (ops := A) (i := i) (rest := rest) (by
      simp only [ho, Option.map_some, Option.getD_some]
      exact hr.yieldL hj hd hv hg hb)
    simpa only [ho, Option.bind_some] using hs

/-- A guard that is not known: both ways. -/
theorem run_guard_split {d : Nat} {b : Bool} (hd : Nat.blt d st.nt = true) (hv : get d st.tm = .lit (.bool b)) {todo : List Item} (ht : b = true → Run P f Q todo (st.set d (.lit (.bool true))))
    (hf : b = false → Run P f Q todo (st.set d (.lit (.bool false)))) : Run P f Q todo st := by
  intro S0 B w0 I a w hlo hr
  have hx := hr.tm d
  have hx2 := hx
  rw [hv] at hx2
  have hx3 := hx2.lit_inv
  have key : Rel S0 B w0 I (st.set d (.lit (.bool b))) a w := by
    refine { hr with tm := fun j => ?_ }
    show Rep I w (.v (get j ((d, _) :: st.tm)) _)
    rw [get_cons]
    by_cases e : d = j
    · subst e; rw [if_pos rfl, hx3]; exact .std (.lit _)
    · rw [if_neg e]; exact hr.tm j
  cases b
  · exact hf rfl S0 B w0 I a w hlo key
  · exact ht rfl S0 B w0 I a w hlo key

/-- The guard of the operation that is next, both ways. -/
theorem run_guard {o : Oper} {j d : Nat} {want b : Bool} (ho : A[i]? = some o) (hg : o.guard = some (j, want)) (hj : (A[j]?).bind (·.dst) = some d) (hd : Nat.blt d st.nt = true) (hv : get d st.tm = .lit (.bool b))
    (ht : b = true → Run P f Q (.inRegion A (i :: rest) :: k) (st.set d (.lit (.bool true)))) (hf : b = false → Run P f Q (.inRegion A (i :: rest) :: k) (st.set d (.lit (.bool false)))) : Run P f Q (.inRegion A (i :: rest) :: k) st :=
  run_guard_split hd hv ht hf

theorem rd_move {o : Oper} {x : Operand} {v : AV} (h : o.op = .move x) (hx : st.ev x = v) : Reads P st o v :=
  hx ▸ fun S0 B w0 I a w hr => ⟨a.eval x, fun w' _ => by simp [execOp, h, Sem.run, pure], hr.ev x⟩
theorem rd_assign {o : Oper} {x : Operand} {v : AV} (h : o.op = .assign x) (hx : st.ev x = v) : Reads P st o v :=
  hx ▸ fun S0 B w0 I a w hr => ⟨a.eval x, fun w' _ => by simp [execOp, h, Sem.run, pure], hr.ev x⟩

theorem rd_pick {o : Oper} {c x y : Operand} {b : Bool} {v : AV} (h : o.op = .pick c x y) (hc : st.ev c = .lit (.bool b)) (hv : (bif b then st.ev x else st.ev y) = v) : Reads P st o v := by
  subst hv
  intro S0 B w0 I a w hr
  refine ⟨if b then a.eval x else a.eval y, fun w' _ => ?_, ?_⟩
  · have := hr.ev c
    rw [hc] at this
    simp [execOp, h, this.lit_inv, asBool, Sem.run, pure, bind, Sem.bind]
  · cases b
    · exact hr.ev y
    · exact hr.ev x

/-- What an operation on numbers, truths and texts alone comes to. -/
theorem rd_pure {o : Oper} {v : Value} (h : ∀ S0 B w0 I a w0', Rel S0 B w0 I st a w0' → ∀ w, (execOp a.eval o).run P w = .ok (.value v) w) : Reads P st o (.lit v) :=
  fun S0 B w0 I a w hr => ⟨v, fun w' _ => h _ _ _ _ _ _ hr w', .std (.lit _)⟩

/-- Operators of two numbers. -/
def bin2 : BinOp → IntKind → Int → Int → Option Value
  | .add, k, x, y => some (.int k (k.wrap (x + y)))
  | .sub, k, x, y => some (.int k (k.wrap (x - y)))
  | .mul, k, x, y => some (.int k (k.wrap (x * y)))
  | .eql, _, x, y => some (.bool (x == y))
  | .neq, _, x, y => some (.bool (x != y))
  | .lss, _, x, y => some (.bool (decide (x < y)))
  | .leq, _, x, y => some (.bool (decide (x ≤ y)))
  | .gtr, _, x, y => some (.bool (decide (x > y)))
  | .geq, _, x, y => some (.bool (decide (x ≥ y)))
  | .and, k, x, y => some (.int k (k.wrap (BitVec.ofInt k.bits x &&& BitVec.ofInt k.bits y).toNat))
  | _, _, _, _ => none

theorem rd_bin {o : Oper} {op : BinOp} {t t2 : Nat} {x y : Operand} {k : IntKind} {m n : Int} {v : Value} (h : o.op = .binOp op t x y t2) (hx : st.ev x = .lit (.int k m)) (hy : st.ev y = .lit (.int k n)) (hv : bin2 op k m n = some v) :
    Reads P st o (.lit v) := by
  refine rd_pure fun S0 B w0 I a w1 hr w => ?_
  have h1 := hr.ev x
  have h2 := hr.ev y
  rw [hx] at h1; rw [hy] at h2
  have e1 := h1.lit_inv
  have e2 := h2.lit_inv
  cases op <;> simp only [bin2, Option.some.injEq, reduceCtorEq] at hv <;> subst hv <;>
    simp [execOp, h, e1, e2, eqGuard, binOp, Op.intArith, Op.intCmp, Op.intBits, Sem.run, pure, bind, Sem.bind]

theorem rd_eq_bool {o : Oper} {t t2 : Nat} {x y : Operand} {m n : Bool} (h : o.op = .binOp .eql t x y t2) (ht : P.underlying t = some .bool) (hx : st.ev x = .lit (.bool m)) (hy : st.ev y = .lit (.bool n)) :
    Reads P st o (.lit (.bool (m == n))) := by
  refine rd_pure fun S0 B w0 I a w1 hr w => ?_
  have h1 := hr.ev x
  have h2 := hr.ev y
  rw [hx] at h1; rw [hy] at h2
  simp only [execOp, h]
  rw [h1.lit_inv, h2.lit_inv]
  simp only [Sem.run_bind]
  simp only [eqGuard, bne, binOp]
  simp [run_equal_bool w t m n ht]

theorem rd_ne_bool {o : Oper} {t t2 : Nat} {x y : Operand} {m n : Bool} (h : o.op = .binOp .neq t x y t2) (ht : P.underlying t = some .bool) (hx : st.ev x = .lit (.bool m)) (hy : st.ev y = .lit (.bool n)) :
    Reads P st o (.lit (.bool (m != n))) := by
  refine rd_pure fun S0 B w0 I a w1 hr w => ?_
  have h1 := hr.ev x
  have h2 := hr.ev y
  rw [hx] at h1; rw [hy] at h2
  simp only [execOp, h]
  rw [h1.lit_inv, h2.lit_inv]
  simp only [Sem.run_bind]
  simp only [eqGuard, bne, binOp]
  simp [run_equal_bool w t m n ht]

theorem rd_not {o : Oper} {t : Nat} {x : Operand} {b : Bool} (h : o.op = .unOp .not t x) (hx : st.ev x = .lit (.bool b)) : Reads P st o (.lit (.bool !b)) := by
  refine rd_pure fun S0 B w0 I a w1 hr w => ?_
  have h1 := hr.ev x
  rw [hx] at h1
  simp [execOp, h, h1.lit_inv, Op.unary, Sem.run, pure, bind, Sem.bind]

theorem rd_neg {o : Oper} {t : Nat} {x : Operand} {k : IntKind} {n : Int} (h : o.op = .unOp .neg t x) (hx : st.ev x = .lit (.int k n)) : Reads P st o (.lit (.int k (k.wrap (0 - n)))) := by
  refine rd_pure fun S0 B w0 I a w1 hr w => ?_
  have h1 := hr.ev x
  rw [hx] at h1
  simp [execOp, h, h1.lit_inv, Op.unary, Op.intArith, Sem.run, pure, bind, Sem.bind]
end
end Go.Ax
