/- A call of a function that is told: what it hands back becomes one's own. -/
import Derived.Test.YtdgibhndjdgllaaDoorG00
import Derived.OrdersHeld
import Derived.OrdersIn
import Derived.Laws.Append
import Derived.Laws.AppendOwn
set_option linter.unusedVariables false
set_option linter.unusedSimpArgs false

namespace Go.Ax
open Go.RowKit
set_option linter.unusedVariables false
set_option linter.unusedSimpArgs false

/-- What stays, by sight. -/
def AV.stays : AV → Bool
  | .lit _ | .sl .. | .pt _ | .any => true
  | _ => false

def AV.std : AV → Bool
  | .agg cs => cs.all AV.stays
  | v => v.stays

theorem Rep.l_std {I : Interp} {w : World} {as : List AV} {xs : List Value} (h : Rep I w (.l as xs)) (hc : as.all AV.stays = true) : Std I.S w (.l as xs) := by
  induction as generalizing xs with
  | nil => cases h; exact .nil
  | cons a as ih =>
    cases h with
    | cons h1 h2 =>
      simp only [List.all_cons, Bool.and_eq_true] at hc
      exact .cons (h1.std_of (by cases a <;> simp_all [AV.stays, AV.closed])) (ih h2 hc.2)

theorem Rep.std_std {I : Interp} {w : World} {a : AV} {x : Value} (h : Rep I w (.v a x)) (hc : a.std = true) : Std I.S w (.v a x) := by
  cases a with
  | agg cs =>
    obtain ⟨vs, rfl, h2⟩ := h.agg_inv
    exact .agg (h2.l_std hc)
  | _ => exact h.std_of (by simp_all [AV.std, AV.stays, AV.closed])

theorem Rep.l_stds {I : Interp} {w : World} {as : List AV} {xs : List Value} (h : Rep I w (.l as xs)) (hc : as.all AV.std = true) : Std I.S w (.l as xs) := by
  induction as generalizing xs with
  | nil => cases h; exact .nil
  | cons a as ih =>
    cases h with
    | cons h1 h2 =>
      simp only [List.all_cons, Bool.and_eq_true] at hc
      exact .cons (h1.std_std hc.1) (ih h2 hc.2)

theorem Std.l_own {S : Nat → Prop} {w : World} {as : List AV} {xs : List Value} (h : Std S w (.l as xs)) : Own S w (.l as xs) [] := by
  induction as generalizing xs with
  | nil => cases h; exact .nil
  | cons a as ih => cases h with | cons h1 h2 => exact .cons (F := []) (G := []) (.std h1) (ih h2)

def imp1 (nx : Nat) : AV → AV × List (Nat × Row) × Nat
  | .osl sz xs => (.hw nx, [(nx, .row sz xs)], nx + 1)
  | .opt cs => (.hp nx 0, [(nx, .var cs)], nx + 1)
  | v => (v, [], nx)

def impL (nx : Nat) : List AV → List AV × List (Nat × Row) × Nat
  | [] => ([], [], nx)
  | a :: as => ((imp1 nx a).1 :: (impL (imp1 nx a).2.2 as).1, (imp1 nx a).2.1 ++ (impL (imp1 nx a).2.2 as).2.1, (impL (imp1 nx a).2.2 as).2.2)

def imp2 (nx : Nat) : AV → AV × List (Nat × Row) × Nat
  | .agg cs => (.agg (impL nx cs).1, (impL nx cs).2)
  | v => imp1 nx v

def impT (nx : Nat) : List AV → List AV × List (Nat × Row) × Nat
  | [] => ([], [], nx)
  | a :: as => ((imp2 nx a).1 :: (impT (imp2 nx a).2.2 as).1, (imp2 nx a).2.1 ++ (impT (imp2 nx a).2.2 as).2.1, (impT (imp2 nx a).2.2 as).2.2)

/-- What was handed back, as an entry of the heap where it is one's own. -/
def imp (nx : Nat) : AV → AV × List (Nat × Row) × Nat
  | .tup cs => (.tup (impT nx cs).1, (impT nx cs).2)
  | v => imp2 nx v

def AV.flat : AV → Bool
  | .agg _ | .tup _ => false
  | _ => true
def AV.flat2 : AV → Bool
  | .agg cs => cs.all AV.flat
  | .tup _ => false
  | _ => true
def AV.flat3 : AV → Bool
  | .tup cs => cs.all AV.flat2
  | v => v.flat2

/-- The standing in which what was handed back has its entries. -/
def Imps (I : Interp) (w : World) (p : List (Nat × Row) × Nat) (F : List Nat) (q : Ask) : Prop :=
  ∃ I', Ext I w I' w ∧ I'.S = I.S ∧ I'.nx = p.2 ∧ Rep I' w q ∧ ∃ F', HeapOK I' w p.1 F' ∧ F'.Perm F

theorem HeapOK.app {I : Interp} {w : World} {hp hp2 : List (Nat × Row)} {T T2 : List Nat} (h : HeapOK I w hp T) (h2 : HeapOK I w hp2 T2) : HeapOK I w (hp ++ hp2) (T ++ T2) := by
  induction h with
  | nil => exact h2
  | cons h _ ih => rw [List.append_assoc]; exact .cons h ih

theorem imp1_ok {I : Interp} {w : World} {a : AV} {x : Value} {F : List Nat} (h : Own I.S w (.v a x) F) (hf : a.flat = true) : Imps I w (imp1 I.nx a).2 F (.v (imp1 I.nx a).1 x) := by
  cases h with
  | std h =>
    have : imp1 I.nx a = (a, [], I.nx) := by cases a <;> first | rfl | cases h
    rw [this]
    exact ⟨I, .refl I w, rfl, rfl, .std h, [], .nil, List.Perm.refl _⟩
  | agg => cases hf
  | tup => cases hf
  | @osl0 sz ad ha0 =>
    refine ⟨I.add none 0 sz, .add _ _ _ (fun _ _ => rfl) (.refl w), rfl, rfl, .hw0 (by show I.nx < I.nx + 1; omega) (by simp [Interp.add]) (by simp [Interp.add]) ha0, [], ?_, List.Perm.refl _⟩
    exact .cons (F := []) (T := []) (.row0 (by show I.nx < I.nx + 1; omega) (by simp [Interp.add]) (by simp [Interp.add]) (by simp [Interp.add])) .nil
  | @osl sz xs b o cap c F hb1 hc1 hx1 hs1 ho1 =>
    have hln : (I.add (some (b, o)) xs.length sz).ln I.nx = xs.length := by simp [Interp.add]
    refine ⟨I.add (some (b, o)) xs.length sz, .add _ _ _ (fun _ _ => rfl) (.refl w), rfl, rfl, ?_, (b :: F) ++ [], ?_, by simp⟩
    · have := Rep.hw (I := I.add (some (b, o)) xs.length sz) (w := w) (id := I.nx) (cap := cap) (c := c) (b := b) (o := o) (by show I.nx < I.nx + 1; omega) (by simp [Interp.add]) (by rw [hln]; exact hc1) hb1
        (by simp only [Interp.add, if_true]; exact hs1)
      rw [hln] at this; exact this
    · refine .cons (.row (by show I.nx < I.nx + 1; omega) (by simp [Interp.add]) hln (by simp [Interp.add]) hb1 ?_ hx1 ho1) .nil
      have : xs.length * sz ≤ cap * sz := Nat.mul_le_mul_right _ hc1
      omega
  | @opt cs b o c F hb1 hc1 ho1 =>
    refine ⟨I.add (some (b, o)) 0 0, .add _ _ _ (fun _ _ => rfl) (.refl w), rfl, rfl, ?_, (b :: F) ++ [], ?_, by simp⟩
    · exact .hp (I := I.add (some (b, o)) 0 0) (w := w) (id := I.nx) (off := 0) (b := b) (o := o) (by show I.nx < I.nx + 1; omega) (by simp [Interp.add])
    · refine .cons (.var (o := o) (by show I.nx < I.nx + 1; omega) (by simp [Interp.add]) hb1 (by omega) ?_) .nil
      clear hc1
      -- one's own cells as a variable's
      have key : ∀ (o0 : Nat) (as : List AV) (o : Nat) (F : List Nat), Own I.S w (.c b o as) F → VarC (I.add (some (b, o0)) 0 0) w b o as F := by
        intro o0 as
        induction as with
        | nil => intro o F h; cases h; exact .nil
        | cons a as ih => intro o F h; cases h with | ccons h1 h2 h3 => exact .cons h1 (.inr h2) (ih _ _ h3)
      exact key o cs o F ho1

theorem Imps.then {I : Interp} {w : World} {a : AV} {as : List AV} {x : Value} {xs : List Value} {p : AV × List (Nat × Row) × Nat} {q : Nat → List AV × List (Nat × Row) × Nat} {F G : List Nat}
    (h1 : Imps I w p.2 F (.v p.1 x)) (h2 : ∀ I', I'.S = I.S → I'.nx = p.2.2 → Imps I' w (q p.2.2).2 G (.l (q p.2.2).1 xs)) : Imps I w (p.2.1 ++ (q p.2.2).2.1, (q p.2.2).2.2) (F ++ G) (.l (p.1 :: (q p.2.2).1) (x :: xs)) := by
  obtain ⟨I1, e1, s1, n1, r1, F1, o1, p1⟩ := h1
  obtain ⟨I2, e2, s2, n2, r2, F2, o2, p2⟩ := h2 I1 s1 n1
  exact ⟨I2, e1.trans e2, s2.trans s1, n2, .cons (r1.mono e2) r2, F1 ++ F2, (o1.mono e2 fun _ _ => rfl).app o2, p1.append p2⟩

theorem impL_ok {w : World} {as : List AV} : ∀ {I : Interp} {xs : List Value} {F : List Nat}, Own I.S w (.l as xs) F → as.all AV.flat = true → Imps I w (impL I.nx as).2 F (.l (impL I.nx as).1 xs) := by
  induction as with
  | nil => intro I xs F h _; cases h; exact ⟨I, .refl I w, rfl, rfl, .nil, [], .nil, List.Perm.refl _⟩
  | cons a as ih =>
    intro I xs F h hf
    simp only [List.all_cons, Bool.and_eq_true] at hf
    cases h with
    | cons h1 h2 =>
      refine Imps.then (q := fun n => impL n as) (a := a) (as := as) (imp1_ok h1 hf.1) fun I' hs hn => ?_
      have := ih (I := I') (by rw [hs]; exact h2) hf.2
      rw [hn] at this; exact this

theorem imp2_ok {I : Interp} {w : World} {a : AV} {x : Value} {F : List Nat} (h : Own I.S w (.v a x) F) (hf : a.flat2 = true) : Imps I w (imp2 I.nx a).2 F (.v (imp2 I.nx a).1 x) := by
  cases a with
  | agg cs =>
    have key : ∃ vs, x = .agg vs.toArray ∧ Own I.S w (.l cs vs) F := by
      cases h with
      | std h => cases h with
        | agg h => exact ⟨_, rfl, h.l_own⟩
      | agg h => exact ⟨_, rfl, h⟩
    obtain ⟨vs, rfl, h2⟩ := key
    obtain ⟨I1, e1, s1, n1, r1, F1, o1, p1⟩ := impL_ok h2 hf
    exact ⟨I1, e1, s1, n1, .agg r1, F1, o1, p1⟩
  | tup _ => cases hf
  | _ => exact imp1_ok h rfl

theorem impT_ok {w : World} {as : List AV} : ∀ {I : Interp} {xs : List Value} {F : List Nat}, Own I.S w (.l as xs) F → as.all AV.flat2 = true → Imps I w (impT I.nx as).2 F (.l (impT I.nx as).1 xs) := by
  induction as with
  | nil => intro I xs F h _; cases h; exact ⟨I, .refl I w, rfl, rfl, .nil, [], .nil, List.Perm.refl _⟩
  | cons a as ih =>
    intro I xs F h hf
    simp only [List.all_cons, Bool.and_eq_true] at hf
    cases h with
    | cons h1 h2 =>
      refine Imps.then (q := fun n => impT n as) (a := a) (as := as) (imp2_ok h1 hf.1) fun I' hs hn => ?_
      have := ih (I := I') (by rw [hs]; exact h2) hf.2
      rw [hn] at this; exact this

theorem imp_ok {I : Interp} {w : World} {a : AV} {x : Value} {F : List Nat} (h : Own I.S w (.v a x) F) (hf : a.flat3 = true) : Imps I w (imp I.nx a).2 F (.v (imp I.nx a).1 x) := by
  cases a with
  | tup cs =>
    have key : ∃ vs, x = .tuple vs.toArray ∧ Own I.S w (.l cs vs) F := by
      cases h with
      | std h => cases h with
        | tup h => exact ⟨_, rfl, h.l_own⟩
      | tup h => exact ⟨_, rfl, h⟩
    obtain ⟨vs, rfl, h2⟩ := key
    obtain ⟨I1, e1, s1, n1, r1, F1, o1, p1⟩ := impT_ok h2 hf
    exact ⟨I1, e1, s1, n1, .tup r1, F1, o1, p1⟩
  | _ => exact imp2_ok h hf

theorem lasts_below {w w' : World} (h : Below w.heap.size w w') : Lasts w w' := fun b c hb => by
  have := hb.lt
  obtain ⟨e, hb⟩ := hb
  exact ⟨c, ⟨e, (h.block b this).trans hb⟩, rfl⟩

section
variable {P : Program} {f : Nat} {Q : Post} {k : List Item} {st : St} {A : Array Oper} {i : Nat} {rest : List Nat}

/-- The state behind a call that handed back r. -/
def St.back (st : St) (r : AV) : St := ⟨st.tm, (imp st.nx r).2.1 ++ st.hp, (imp st.nx r).2.2, st.nt⟩

theorem Rel.back {S0 : Interp} {B : Nat} {w0 : World} {I : Interp} {a : Act} {w : World} (hr : Rel S0 B w0 I st a w) {r : AV} {e : Ending} {w' : World} (hf : Fin I.S w.heap.size w r e w') (hfl : r.flat3 = true) :
    ∃ v I', e = .returned v ∧ Rel S0 B w0 I' (st.back r) a w' ∧ Rep I' w' (.v (imp st.nx r).1 v) := by
  obtain ⟨v, S, F, he, ho, hnd, hF, hSs, hS0, hSb, hbl⟩ := hf
  let I1 : Interp := { I with S := S }
  have e1 : Ext I w I1 w' := ⟨hS0, fun b hb => hbl.block b (hr.ss b hb), Nat.le_refl _, fun _ _ => rfl, fun _ _ => rfl, fun _ _ => rfl, lasts_below hbl⟩
  obtain ⟨I2, e2, s2, n2, r2, F2, o2, p2⟩ := imp_ok (I := I1) ho hfl
  obtain ⟨T, t1, t2, t3⟩ := hr.hp
  have hnx : I1.nx = st.nx := hr.nx
  rw [hnx] at n2 r2 o2
  refine ⟨v, I2, he, ?_, r2⟩
  have := hr.next (e1.trans e2) (hbl.mono hr.bs) (fun b hb => by
    rw [s2] at hb
    rcases hSb b hb with h | h
    · exact .inl h
    · exact .inr (Nat.le_trans hr.bs h)) (fun b hb => by rw [s2] at hb; exact hSs b hb)
    (hp := (imp st.nx r).2.1 ++ st.hp) ⟨F2 ++ T, o2.app (t1.mono (e1.trans e2) fun b hb => hbl.block b (t3 b hb).2.2), ?_, ?_⟩
  · rw [n2] at this; exact this
  · refine List.nodup_append.2 ⟨p2.nodup_iff.2 hnd, t2, fun x hx y hy e => ?_⟩
    subst e
    have := (hF x (p2.mem_iff.1 hx)).1
    have := (t3 x hy).2.2
    omega
  · intro b hb
    rw [s2]
    rcases List.mem_append.1 hb with hb | hb
    · have := hF b (p2.mem_iff.1 hb)
      exact ⟨Nat.le_trans hr.bs this.1, this.2.1, this.2.2⟩
    · have := t3 b hb
      refine ⟨this.1, fun hs => ?_, Nat.lt_of_lt_of_le this.2.2 hbl.size⟩
      rcases hSb b hs with h | h
      · exact this.2.1 h
      · omega

theorem run_callFunc {w : World} {g : Nat} {fn : Func} {c : Code} (hg : P.funcs[g]? = some fn) (hb : fn.body = some c) (hn : (fn.name == "runtime.NumGoroutine") = false) (args : Array Value) :
    (callFunc g args).run P w = .ok (.enter g args) w := by
  simp only [callFunc, Sem.run_bind, run_program, Result.andThen_ok, hg, hn, hb]
  rfl

theorem Rel.evs {S0 : Interp} {B : Nat} {w0 : World} {I : Interp} {a : Act} {w : World} (h : Rel S0 B w0 I st a w) (xs : List Operand) : Rep I w (.l (xs.map st.ev) (xs.map a.eval)) := by
  induction xs with
  | nil => exact .nil
  | cons x xs ih => exact .cons (h.ev x) ih

/-- What is entered comes back, and the region goes on. -/
theorem enter_back {b : Frame} {a : Act} {cs : List Frame} {w w1 w2 : World} {o : Oper} {g : Nat} {args : Array Value} {v : Value} {R : Ending → World → Prop} (ho : A[i]? = some o) (hw : Region.wanted o (yielded A a.tmps) = true)
    (hr : (execOp a.eval o).run P w = .ok (.enter g args) w1) {fr : Frame} (hc : Comes P (lone (Frame.enter P g args .normal) (b.atR a (.inRegion A (i :: rest) :: k) :: cs) w1) (lone fr (b.atR a (.inRegion A (i :: rest) :: k) :: cs) w2) (.returned v))
    (hl : fr.leaving P w2 (.returned v)) : Steps P (lone (b.atR a (.inRegion A (i :: rest) :: k)) cs w) (lone (b.atR (a.put o.dst v) (.inRegion A rest :: k)) cs w2) := by
  have hg := stepGR_op (P := P) (b := b) (k := k) (cs := cs) (w := w) (rest := rest) ho hw
  rw [semAt_of hr (by intro d h; cases h)] at hg
  have hfin : (b.atR a (.inRegion A (i :: rest) :: k)).finish v = b.atR (a.put o.dst v) (.inRegion A rest :: k) := by rw [Frame.finish_atR, ho]; rfl
  have henter : step P (lone (b.atR a (.inRegion A (i :: rest) :: k)) cs w) = .next (lone (Frame.enter P g args .normal) (b.atR a (.inRegion A (i :: rest) :: k) :: cs) w1) :=
    step_lone_go (by rw [hg]; simp [stepG.apply, hr, Frame.atR])
  refine .head henter (Steps.trans hc (.one ?_))
  rw [← hfin]; exact step_leave_returned hl

/-- The tables that are laid. -/
def tabs : List (Nat × Row) → List (Nat × List Value)
  | [] => []
  | (_, .tab b l) :: r => (b, l) :: tabs r
  | (_, .var _) :: r => tabs r
  | (_, .row ..) :: r => tabs r
  | (_, .foc ..) :: r => tabs r
  | (_, .lp _) :: r => tabs r
  | (_, .mpr _) :: r => tabs r
  | (_, .chn _ _) :: r => tabs r
  | (_, .itr _ _) :: r => tabs r
def TabsOK (S : Nat → Prop) (w : World) (tb : List (Nat × List Value)) : Prop := ∀ x ∈ tb, S x.1 ∧ ∀ (j : Nat) v, x.2[j]? = some v → w.cell? ⟨x.1, j, none⟩ = some v
theorem tabs_ok {I : Interp} {w : World} {hp : List (Nat × Row)} {T : List Nat} (h : HeapOK I w hp T) : TabsOK I.S w (tabs hp) := by
  induction h with
  | nil => exact fun x hx => by cases hx
  | @cons id r hp F T h1 _ ih =>
    cases r with
    | tab b l =>
      cases h1 with
      | tab _ h2 h3 =>
        intro x hx
        rcases List.mem_cons.1 hx with rfl | hx
        · exact ⟨h2, h3⟩
        · exact ih x hx
    | _ => exact ih
/-- The contract of a function where tables are laid. -/
def GoodT (P : Program) (tb : List (Nat × List Value)) (f : Nat) (args : List AV) (Q : AV → Prop) : Prop :=
  ∀ (S0 : Nat → Prop) (w : World) (vs : List Value), (∀ b, S0 b → b < w.heap.size) → TabsOK S0 w tb → Std S0 w (.l args vs) →
    Calls P f vs.toArray w fun e w' => ∃ r, Q r ∧ Fin S0 w.heap.size w r e w'
theorem Good.t {P : Program} {tb : List (Nat × List Value)} {f : Nat} {args : List AV} {Q : AV → Prop} (h : Good P f args Q) : GoodT P tb f args Q := fun S0 w vs h1 _ h3 => h S0 w vs h1 h3
theorem run_call {d t g : Nat} {pos : String} {af : Array Edge} {gd : Option (Nat × Bool)} {xs : Array Operand} {ts : Array Nat} {fn : Func} {c : Code} {Qg : AV → Prop} {as : List AV}
    (ho : A[i]? = some ⟨some d, .call { callee := .value (.func g), args := xs, argTypes := ts }, t, pos, af, gd⟩) (hw : Want A st gd) (hd : Nat.blt d st.nt = true)
    (hg : P.funcs[g]? = some fn) (hb : fn.body = some c) (hn : (fn.name == "runtime.NumGoroutine") = false) (has : xs.toList.map st.ev = as) (hstd : as.all AV.std = true) (hgood : GoodT P (tabs st.hp) g as Qg)
    (h : ∀ r, Qg r → r.flat3 = true ∧ Run P f Q (.inRegion A rest :: k) ((st.back r).set d (imp st.nx r).1)) : Run P f Q (.inRegion A (i :: rest) :: k) st := by
  intro S0 B w0 I a w hlo hr hds b hbf hk hro cs
  have h1 := hr.evs xs.toList
  rw [has] at h1
  have htb : TabsOK I.S w (tabs st.hp) := by obtain ⟨T, k1, _, _⟩ := hr.hp; exact tabs_ok k1
  have hcall := hgood I.S w _ hr.ss htb (h1.l_stds hstd)
  obtain ⟨e, w2, fr, ⟨r, hq, hfin⟩, hcomes, _, hleave⟩ := hcall (b.atR a (.inRegion A (i :: rest) :: k) :: cs)
  obtain ⟨hfl, hrun⟩ := h r hq
  obtain ⟨v, I', rfl, hr', hrep⟩ := hr.back hfin hfl
  have hx : (execOp a.eval ⟨some d, .call { callee := .value (.func g), args := xs, argTypes := ts }, t, pos, af, gd⟩).run P w = .ok (.enter g (xs.toList.map a.eval).toArray) w := by
    have e0 : xs.map a.eval = (xs.toList.map a.eval).toArray := by rw [← Array.toList_map, Array.toArray_toList]
    have e1 : a.eval (.func g) = .func (.func g) #[] #[] := rfl
    simp only [execOp, resolve, e0, e1, Deferred.ofValue, Sem.run_bind, Sem.run_pure, Result.andThen_ok, invoke]
    rw [show (#[] ++ (xs.toList.map a.eval).toArray ++ #[] : Array Value) = (xs.toList.map a.eval).toArray from by simp]
    exact run_callFunc hg hb hn _
  have hst := enter_back ho (hr.wanted hw) hx hcomes hleave (R := fun _ _ => True)
  have hrel := hr'.put (d := d) (by exact hd) hrep
  obtain ⟨e3, w3, g1, g2⟩ := hrun S0 B w0 I' _ w2 hlo hrel hds b hbf hk hro cs
  exact ⟨e3, w3, g1, g2.of_steps hst⟩
end
end Go.Ax

/- Facts on types, laid; the end of a symbolic run: how its states are weakened, and how its loops go. -/
namespace Go.Ax
open Go.RowKit
set_option linter.unusedVariables false
set_option linter.unusedSimpArgs false

theorem tyOK_td {P : Program} {t n b : Nat} {d : TypeDesc} {z : Value} {zs : List Value} (h1 : P.underlying t = some d) (hp : plainD d = true) (h2 : (P.info? t).map (fun i => (i.size, i.bytes, i.zero)) = some (n, b, some z))
    (hz : z.cells = zs.toArray) (hl : zs.length = n) : TyOK P t ⟨.td d, n, b, zs⟩ := by
  refine ⟨⟨h1, hp⟩, hl, ?_⟩
  cases h : P.info? t with
  | none => simp [h] at h2
  | some i =>
    simp only [h, Option.map_some, Option.some.injEq, Prod.mk.injEq] at h2
    exact ⟨i, rfl, h2.1, h2.2.1, z, h2.2.2, hz⟩

def offsets : TypeDesc → Option (List (Nat × Nat))
  | .struct fs => some (fs.toList.map fun f => (f.offset, f.type))
  | _ => none

theorem tyOK_agg {P : Program} {t n b : Nat} {fs : List (Nat × Nat)} {z : Value} {zs : List Value} (h1 : (P.underlying t).bind offsets = some fs) (h2 : (P.info? t).map (fun i => (i.size, i.bytes, i.zero)) = some (n, b, some z))
    (hz : z.cells = zs.toArray) (hl : zs.length = n) : TyOK P t ⟨.agg fs, n, b, zs⟩ := by
  refine ⟨?_, hl, ?_⟩
  · cases hu : P.underlying t with
    | none => simp [hu] at h1
    | some d =>
      rw [hu] at h1
      cases d <;> simp [offsets] at h1
      exact ⟨_, hu, h1⟩
  · cases h : P.info? t with
    | none => simp [h] at h2
    | some i =>
      simp only [h, Option.map_some, Option.some.injEq, Prod.mk.injEq] at h2
      exact ⟨i, rfl, h2.1, h2.2.1, z, h2.2.2, hz⟩

/-- The type's facts, found by its number. -/
class TyF (P : Program) (t : Nat) (i : outParam TyI) : Prop where
  ok : TyOK P t i

def upTo : Nat → Nat → List Nat
  | 0, _ => []
  | n + 1, s => s :: upTo n (s + 1)

theorem range_upTo (n : Nat) : List.range n = upTo n 0 := by
  rw [List.range_eq_range']
  have : ∀ m s, List.range' s m = upTo m s := by
    intro m
    induction m with
    | zero => intro s; rfl
    | succ m ih => intro s; simp [List.range'_succ, upTo, ih]
  exact this n 0

section
variable {P : Program} {f : Nat} {Q : Post} {k : List Item} {st : St}

theorem run_reg {id : Nat} {ops : Array Oper} (h : Run P f Q (.inRegion ops (upTo ops.size 0) :: k) st) : Run P f Q (.code (.region id ops false) :: k) st := by
  rw [← range_upTo] at h; exact run_region h

/-- A loop, by induction over a measure: the state at its head is told by a parameter, of which something holds. -/
theorem run_while {α : Type} {c : Code} (J : α → St) (inv : α → Prop) (μ : α → Nat)
    (h : ∀ a, inv a → (∀ a', inv a' → μ a' < μ a → Run P f Q (.inLoop c :: k) (J a')) → Run P f Q (.code c :: .inLoop c :: k) (J a)) (a0 : α) (h0 : inv a0) : Run P f Q (.inLoop c :: k) (J a0) := by
  have key : ∀ n a, μ a = n → inv a → Run P f Q (.inLoop c :: k) (J a) := by
    intro n
    induction n using Nat.strongRecOn with
    | _ n ih => intro a hn hi; exact run_inLoop (h a hi fun a' hi' ha => ih (μ a') (by omega) a' rfl hi')
  exact key _ a0 rfl h0

/-- A loop, entered. -/
theorem run_enter {α : Type} {c : Code} (J : α → St) (inv : α → Prop) (μ : α → Nat)
    (h : ∀ a, inv a → (∀ a', inv a' → μ a' < μ a → Run P f Q (.inLoop c :: k) (J a')) → Run P f Q (.code c :: .inLoop c :: k) (J a)) (a0 : α) (h0 : inv a0) : Run P f Q (.code c :: .inLoop c :: k) (J a0) :=
  h a0 h0 fun a' hi _ => run_while J inv μ h a' hi
end

mutual
def AV.sc (n : Nat) : AV → Bool
  | .hw id | .hs id _ _ | .hp id _ | .hq id _ _ | .hm id | .hc id => Nat.blt id n
  | .agg cs | .tup cs | .fn _ cs => AV.scL n cs
  | _ => true
def AV.scL (n : Nat) : List AV → Bool
  | [] => true
  | a :: as => AV.sc n a && AV.scL n as
end

def Row.sc (n : Nat) : Row → Bool
  | .var cs => AV.scL n cs
  | .row _ _ => true
  | .foc _ _ _ _ _ j => Nat.blt j n
  | .lp L => L.tm.all fun p => p.2.sc n
  | .mpr _ => true
  | .chn _ _ => true
  | .itr _ _ => true
  | .tab _ _ => true

def Interp.cut (I : Interp) (n : Nat) : Interp := { I with nx := n }

theorem Rep.cut {I : Interp} {w : World} {q : Ask} (h : Rep I w q) {n : Nat} (hq : match q with | .v a _ => a.sc n = true | .l as _ => AV.scL n as = true | .c _ _ _ => True) : Rep (I.cut n) w q := by
  induction h with
  | std h => exact .std h
  | agg _ ih => exact .agg (ih (by simpa [AV.sc] using hq))
  | tup _ ih => exact .tup (ih (by simpa [AV.sc] using hq))
  | fn _ ih => exact .fn (ih (by simpa [AV.sc] using hq))
  | nil => exact .nil
  | cons _ _ ih1 ih2 =>
    simp only [AV.scL, Bool.and_eq_true] at hq
    exact .cons (ih1 hq.1) (ih2 hq.2)
  | hw0 h ha h0 hc => exact .hw0 (by simpa [AV.sc, Interp.cut] using hq) ha h0 hc
  | hw h ha hn hb hs => exact .hw (I := I.cut n) (by simpa [AV.sc, Interp.cut] using hq) ha hn hb hs
  | hs0 h hc => exact .hs0 (by simpa [AV.sc, Interp.cut] using hq) hc
  | hs h ha hn hb hs => exact .hs (I := I.cut n) (by simpa [AV.sc, Interp.cut] using hq) ha hn hb hs
  | hp h ha => exact .hp (by simpa [AV.sc, Interp.cut] using hq) ha
  | hq h ha => exact .hq (I := I.cut n) (by simpa [AV.sc, Interp.cut] using hq) ha
  | hm h ha => exact .hm (by simpa [AV.sc, Interp.cut] using hq) ha
  | hc h ha => exact .hc (by simpa [AV.sc, Interp.cut] using hq) ha

theorem VarC.cut {I : Interp} {w : World} {b o : Nat} {as : List AV} {F : List Nat} (h : VarC I w b o as F) {n : Nat} (hs : AV.scL n as = true) : VarC (I.cut n) w b o as F := by
  induction h with
  | nil => exact .nil
  | cons hc hl _ ih =>
    simp only [AV.scL, Bool.and_eq_true] at hs
    exact .cons hc (hl.imp (fun h => ⟨h.1.cut (q := .v _ _) hs.1, h.2⟩) id) (ih hs.2)

theorem get_mem (d : Nat) : ∀ {l : List (Nat × AV)}, get d l = .any ∨ ∃ p ∈ l, get d l = p.2
  | [] => .inl rfl
  | (j, v) :: l => by
    rw [get_cons]
    by_cases e : j = d
    · rw [if_pos e]; exact .inr ⟨_, List.mem_cons_self .., rfl⟩
    · rw [if_neg e]
      rcases get_mem d (l := l) with h | ⟨p, hp, h⟩
      · exact .inl h
      · exact .inr ⟨p, List.mem_cons_of_mem _ hp, h⟩
theorem RowOK.cut {I : Interp} {w : World} {id : Nat} {r : Row} {F : List Nat} (h : RowOK I w id r F) {n : Nat} (hi : id < n) (hs : r.sc n = true) : RowOK (I.cut n) w id r F := by
  cases h with
  | var _ ha hb hz hv => exact .var (I := I.cut n) hi ha hb hz (hv.cut hs)
  | row0 _ ha h0 hz => exact .row0 (I := I.cut n) hi ha h0 hz
  | row _ ha hl hz hb hs2 hx hv => exact .row (I := I.cut n) hi ha hl hz hb hs2 hx hv
  | foc _ ha hl hz hb hs2 hx hn ho hf hA o1 hc hr o2 => exact .foc (I := I.cut n) hi ha hl hz hb hs2 hx hn ho hf hA o1 hc (hr.cut (q := .v _ _) hs) o2
  | mpr _ ha h1 h2 h3 => exact .mpr (I := I.cut n) hi ha h1 h2 h3
  | chn _ ha h1 h2 => exact .chn (I := I.cut n) hi ha h1 h2
  | itr _ ha h1 h2 h3 h4 h5 h6 h7 => exact .itr (I := I.cut n) hi ha h1 h2 h3 h4 h5 h6 h7
  | tab _ hs2 h1 => exact .tab (I := I.cut n) hi hs2 h1
  | lp _ ha h1 h2 hu hr =>
    refine .lp (I := I.cut n) hi ha h1 h2 hu fun d => ?_
    rcases get_mem d (l := _) with e | ⟨p, hp, e⟩
    · rw [e]; exact .std (.any _)
    · have := hr d
      rw [e] at this ⊢
      exact this.cut (q := .v _ _) (List.all_eq_true.1 hs p hp)

/-- These entries are among those, each by its own number. -/
def sub (n : Nat) : List (Nat × Row) → List (Nat × Row) → Prop
  | [], _ => True
  | (id, r) :: l, hp => Nat.blt id n = true ∧ r.sc n = true ∧ row id hp = some r ∧ sub n l (rem id hp)

theorem HeapOK.sub {I : Interp} {w : World} {n : Nat} {l : List (Nat × Row)} : ∀ {hp : List (Nat × Row)} {T : List Nat}, HeapOK I w hp T → sub n l hp → ∃ F G, HeapOK (I.cut n) w l F ∧ T.Perm (F ++ G) := by
  induction l with
  | nil => intro hp T h _; exact ⟨[], T, .nil, List.Perm.refl _⟩
  | cons p l ih =>
    obtain ⟨id, r⟩ := p
    intro hp T h hs
    obtain ⟨h1, h2, h3, h4⟩ := hs
    obtain ⟨F, T', g1, g2, g3⟩ := h.take h3
    obtain ⟨F2, G, k1, k2⟩ := ih g2 h4
    refine ⟨F ++ F2, G, .cons (g1.cut (by simpa using h1) h2) k1, g3.trans ?_⟩
    rw [List.append_assoc]; exact List.Perm.append_left F k2

section
variable {P : Program} {f : Nat} {Q : Post} {k : List Item} {st : St}

theorem wrap_in {n : Int} (h1 : -9223372036854775808 ≤ n) (h2 : n ≤ 9223372036854775807) : IntKind.i64.wrap n = n := by
  simp only [IntKind.wrap, IntKind.bits, IntKind.signed]
  simp
  split <;> omega

end
end Go.Ax

/- Regions whose order is open: what only reads is taken first. -/
namespace Go.Ax
open Go.RowKit
set_option linter.unusedVariables false
set_option linter.unusedSimpArgs false

def kpAt (A : Array Oper) (i : Nat) : Bool := match A[i]? with | some o => kp o.op | none => true

theorem Same.trans {a b c : World} (h : Same a b) (k : Same b c) (hs : a.heap.size ≤ b.heap.size) : Same a c := fun x hx => (k x (by omega)).trans (h x hx)

def NQ (Q : Act → World → Prop) : Exit → Act → World → Prop := fun e a w => e = .normal ∧ Q a w

/-- Whatever order is picked; behind each operation that keeps what is there, all is there. -/
def anyB (P : Program) (A : Array Oper) (Q : Act → World → Prop) : Nat → Array Bool → Act → World → Prop
  | 0, L, a, w => Region.ready .any A L = [] ∧ Q a w
  | n + 1, L, a, w => (Region.ready .any A L = [] → Q a w) ∧
      ∀ i ∈ Region.ready .any A L, wpOp P A (NQ Q) i (fun a' w' => (kpAt A i = true → Same w w') ∧ anyB P A Q n (L.setIfInBounds i true) a' w') a w

section
variable {P : Program} {A : Array Oper} {Q : Act → World → Prop}

theorem wpAny_of_anyB : ∀ (n : Nat) (L : Array Bool) (a : Act) (w : World), anyB P A Q n L a w → wpAny P .any A (NQ Q) n L a w
  | 0, _, _, _, h => ⟨h.1, rfl, h.2⟩
  | n + 1, _, _, _, h => ⟨fun h0 => ⟨rfl, h.1 h0⟩, fun i hi => wpOp_mono (fun a' w' h' => wpAny_of_anyB n _ a' w' h'.2) (h.2 i hi)⟩

theorem yieldsIf_mono {S S' : World → Prop} {o : Oper} {v : Value} {a : Act} (h : YieldsIf P A S o v a) (hs : ∀ w, S' w → S w) : YieldsIf P A S' o v a :=
  h.imp (fun ⟨h1, h2⟩ => ⟨h1, fun w hw => h2 w (hs w hw)⟩) id

/-- What waits for number i, or cannot meddle with it. -/
def clear (A : Array Oper) (L : Array Bool) (i : Nat) : Bool :=
  Region.noSelect A && (Region.ready .any A L).contains i && match A[i]? with
  | none => false
  | some oi => (List.range A.size).all fun j => j == i || L.getD j true || match A[j]? with
    | some oj => oj.after.any (fun e => Region.binds .any e && e.on == i) || (oi.apart A oj && (kp oj.op || memFree oi.op))
    | none => true

theorem clear_spec {L : Array Bool} {i : Nat} {oi : Oper} (hi : A[i]? = some oi) (h : clear A L i = true) :
    (∀ (j : Nat) (o : Oper) cs b, A[j]? = some o → o.op ≠ .select cs b) ∧ i ∈ Region.ready .any A L ∧
    ∀ j oj, A[j]? = some oj → j ≠ i → L.getD j true = false → (∀ e ∈ oj.after, Region.binds .any e = true → e.on ≠ i) → oi.apart A oj = true ∧ (kp oj.op = true ∨ memFree oi.op = true) := by
  simp only [clear, hi, Bool.and_eq_true, List.all_eq_true, List.mem_range] at h
  refine ⟨Region.noSelect_spec h.1.1, by simpa using h.1.2, fun j oj hj hne hun hno => ?_⟩
  have h1 := h.2 j (Array.getElem?_eq_some_iff.1 hj).1
  simp only [hj, Bool.or_eq_true, beq_iff_eq, hne, false_or, hun, Bool.false_eq_true, Bool.and_eq_true] at h1
  rcases h1 with h1 | h1
  · obtain ⟨e, he, hb⟩ := Array.any_eq_true'.1 h1
    simp only [Bool.and_eq_true, beq_iff_eq] at hb
    exact absurd hb.2 (hno e he hb.1)
  · exact h1

theorem anyB_first {i : Nat} {oi : Oper} {v : Value} (hi : A[i]? = some oi) (hsel : ∀ (j : Nat) (o : Oper) cs b, A[j]? = some o → o.op ≠ .select cs b) :
    ∀ (n : Nat) (L : Array Bool) (a : Act) (w : World),
      (∀ j oj, A[j]? = some oj → j ≠ i → L.getD j true = false → (∀ e ∈ oj.after, Region.binds .any e = true → e.on ≠ i) → oi.apart A oj = true ∧ (kp oj.op = true ∨ memFree oi.op = true)) →
      i ∈ Region.ready .any A L → YieldsIf P A (fun w' => memFree oi.op = true ∨ Same w w') oi v a → anyB P A Q n (L.setIfInBounds i true) (a.put oi.dst v) w → anyB P A Q (n + 1) L a w := by
  have hq : ∀ (c : List PanicEntry) (a : Act) (w : World), NQ Q (.panic c) (a.put oi.dst v) w → NQ Q (.panic c) a w := fun c a w h => by cases h.1
  intro n
  induction n with
  | zero =>
    intro L a w _ hr hy H
    refine ⟨fun h => (by rw [h] at hr; cases hr), fun j hj => ?_⟩
    by_cases hji : j = i
    · subst hji; exact hy.wpOp hi (.inr (Same.refl w)) ⟨fun _ => Same.refl w, H⟩
    · have := ready_mono hj hji
      rw [H.1] at this
      cases this
  | succ n ih =>
    intro L a w hfree hr hy H
    refine ⟨fun h => (by rw [h] at hr; cases hr), fun j hj => ?_⟩
    by_cases hji : j = i
    · subst hji; exact hy.wpOp hi (.inr (Same.refl w)) ⟨fun _ => Same.refl w, H⟩
    · obtain ⟨hjun, oj, hoj, hall⟩ := mem_ready.1 hj
      have hnot : ∀ e ∈ oj.after, Region.binds .any e = true → e.on ≠ i := fun e he hb heq => by
        have h1 := hall e he hb
        have h0 := (mem_ready.1 hr).1
        rw [heq] at h1
        rcases Nat.lt_or_ge i L.size with h' | h'
        · simp [h'] at h0 h1; rw [h0] at h1; cases h1
        · simp [Array.getElem?_eq_none h'] at h1
      obtain ⟨hap, hkp⟩ := hfree j oj hoj hji hjun hnot
      have h2 := wpOp_putIf hoj hap (fun cs b => hsel i oi cs b hi) (fun cs b => hsel j oj cs b hoj) hq hy (H.2 j (ready_mono hj hji))
      refine wpOp_mono (fun a' w' h3 => ⟨h3.2.1, ?_⟩) h2
      have hmem : ∀ w2, (memFree oi.op = true ∨ Same w' w2) → memFree oi.op = true ∨ Same w w2 := fun w2 h => h.elim .inl fun h => hkp.elim (fun hk => .inr (by
        have hsame := h3.2.1 (by simp only [kpAt, hoj]; exact hk)
        exact hsame.trans h hsame.size)) .inl
      refine ih (L.setIfInBounds j true) a' w' (fun k ok hk hki hun hno => ?_) (ready_mono hr (Ne.symm hji)) (yieldsIf_mono h3.1 hmem) ?_
      · refine hfree k ok hk hki ?_ hno
        by_cases hjk : j = k
        · subst hjk; exact hjun
        · rw [getD_set_ne true hjk] at hun; exact hun
      · rw [Array.setIfInBounds_comm _ _ hji]
        exact h3.2.2
end

/-- A region, some of whose operations are done: whatever order is picked, it goes on. -/
def Drawn (P : Program) (f : Nat) (Q : Post) (k : List Item) (A : Array Oper) (n : Nat) (L : Array Bool) (st : St) : Prop :=
  ∀ S0 B w0 I a w, S0.nx = Q.lo → Rel S0 B w0 I st a w → a.defers = Q.ds → anyB P A (fun a' w' => ∃ I' st', Rel S0 B w0 I' st' a' w' ∧ a'.defers = Q.ds ∧ Run P f Q k st') n L a w

section
variable {P : Program} {f : Nat} {Q : Post} {k : List Item} {st st' : St} {A : Array Oper} {n : Nat} {L : Array Bool} {i : Nat}

theorem Rel.drawn {S0 : Interp} {B : Nat} {w0 : World} {I : Interp} {a : Act} {w : World} (h : Rel S0 B w0 I st a w) (m : Nat) : Rel S0 B w0 I st a { w with drawn := m } := by
  have e : Ext I w I { w with drawn := m } := ⟨fun _ h => h, fun _ _ => rfl, Nat.le_refl _, fun _ _ => rfl, fun _ _ => rfl, fun _ _ => rfl, fun b c h => ⟨c, h, rfl⟩⟩
  have := h.next (hp := st.hp) e ⟨rfl, rfl, rfl, Nat.le_refl _, fun _ _ => rfl⟩ (fun _ h => .inl h) h.ss (by
    obtain ⟨T, h1, h2, h3⟩ := h.hp
    exact ⟨T, h1.mono e (fun _ _ => rfl), h2, h3⟩)
  rw [h.nx] at this; exact this

/-- No operation puts off a call. -/
def noDefer (ops : Array Oper) : Bool := ops.toList.all fun o => match o.op with | .defer _ => false | _ => true
theorem noDefer_spec {ops : Array Oper} (h : noDefer ops = true) {i : Nat} {o : Oper} (ho : ops[i]? = some o) (c : Call) : o.op ≠ .defer c := by
  intro e
  have := List.all_eq_true.1 h o (by rw [← Array.getElem?_toList] at ho; exact List.mem_of_getElem? ho)
  rw [e] at this; cases this

abbrev wideR (ro : Option Nat) : Fence := { Fence.wide with round := ro }
theorem upon_in {ro : Option Nat} {o : Oper} {a : Act} {K : Act → World → Prop} {Qe : Exit → Act → World → Prop} {r : Result Next} (h : o.upon P a K Qe r) : o.uponIn (wideR ro) 0 P a K Qe r := by
  cases r with
  | ok x w =>
    cases x with
    | value v => exact h
    | skip => exact h
    | defer d => exact h
    | enter g args =>
      refine ⟨fun h => (by cases h), ?_⟩
      have := (callsIn_wide (n := 0)).2 h
      refine ⟨trivial, fun cs hr => ?_⟩
      obtain ⟨e, w', fr, r, s, x⟩ := this.2 cs hr
      exact ⟨e, w', fr, by cases e <;> exact r, s, x⟩
    | row row args =>
      refine ⟨fun h => (by cases h), fun c cs _ => ?_⟩
      obtain ⟨v, w', r, s⟩ := h c cs
      exact ⟨v, w', r, stepsIn_wide.2 s⟩
    | _ => exact h.elim
  | halt e w =>
    cases e with
    | panic v => exact h
    | _ => exact h.elim
theorem wpOp_in {ro : Option Nat} {Qe : Act → World → Prop} {ops : Array Oper} {i : Nat} {K K' : Act → World → Prop} {a : Act} {w : World} (hK : ∀ a w, K a w → K' a w)
    (hns : noDefer ops = true) (h : wpOp P ops (NQ Qe) i K a w) : wpOpIn (wideR ro) 0 P ops (NQ Qe) i K' a w := by
  unfold wpOp at h
  unfold wpOpIn
  split at h
  · rename_i ho; simp only [ho]; exact hK _ _ h
  · rename_i o ho
    simp only [ho]
    split at h
    · rename_i hw
      rw [if_pos hw]
      rcases h with h | ⟨_, a', w', h, _⟩
      · refine ⟨fun _ _ => trivial, ?_⟩
        rw [Oper.semAt_eq _ _ _ (noDefer_spec hns ho)]
        exact upon_in (Oper.wp_mono hK h)
      · cases h
    · rename_i hw
      rw [if_neg hw]
      exact ⟨fun _ _ => trivial, hK _ _ h⟩
theorem wpAny_in {ro : Option Nat} {Qe : Act → World → Prop} {ops : Array Oper} (hns : noDefer ops = true) : ∀ (n : Nat) (L : Array Bool) (a : Act) (w : World), wpAny P .any ops (NQ Qe) n L a w → wpAnyIn (wideR ro) 0 P .any ops (NQ Qe) n L a w
  | 0, _, _, _, h => h
  | n + 1, _, _, _, h => ⟨h.1, fun i hi => wpOp_in (fun a w h => wpAny_in hns n _ a w h) hns (h.2 i hi)⟩
theorem arrive_draw {id : Nat} {ops : Array Oper} {Qe : Act → World → Prop} {a : Act} {w : World} (hm : P.follows .mixedOrders = true) (hns : noDefer ops = true) (h : wpAny P .any ops (NQ Qe) ops.size (Array.replicate ops.size false) a { w with drawn := w.drawn + 1 }) (b : Frame) (k : List Item) (cs : List Frame) :
    ∃ a' w', Qe a' w' ∧ Steps P (lone (b.atR a (.code (.region id ops true) :: k)) cs w) (lone (b.atR a' k) cs w') := by
  have h1 := wpIn_region_any (F := wideR b.roundOf) (n := 0) (id := id) hm (wpAny_in hns _ _ _ _ h)
  obtain ⟨e, a', w', ⟨he, hq⟩, harr⟩ := h1 b k cs rfl trivial (room_wide _)
  subst he
  exact ⟨a', w', hq, stepsIn_wide.1 harr⟩

theorem run_draw {id : Nat} {ops : Array Oper} (hm : P.follows .mixedOrders = true) (hns : noDefer ops = true) (h : Drawn P f Q k ops ops.size (Array.replicate ops.size false) st) : Run P f Q (.code (.region id ops true) :: k) st := by
  intro S0 B w0 I a w hlo hr hds b hb hk hro cs
  obtain ⟨a', w', ⟨I', st', hr', hds', hrun⟩, harr⟩ := arrive_draw (id := id) hm hns (wpAny_of_anyB _ _ _ _ (h S0 B w0 I a _ hlo (hr.drawn (w.drawn + 1)) hds)) b k cs
  obtain ⟨e3, w3, g1, g2⟩ := hrun S0 B w0 I' a' w' hlo hr' hds' b hb hk hro cs
  exact ⟨e3, w3, g1, g2.of_steps harr⟩

theorem drawn_done (h : Run P f Q k st) (hr : Region.ready .any A L = []) : Drawn P f Q k A n L st := by
  intro S0 B w0 I a w hlo hrel hds
  cases n with
  | zero => exact ⟨hr, I, st, hrel, hds, h⟩
  | succ n => exact ⟨fun _ => ⟨I, st, hrel, hds, h⟩, by rw [hr]; simp⟩

theorem drawn_skip {o : Oper} {j d : Nat} {want : Bool} {v : Value} (ho : A[i]? = some o) (hc : clear A L i = true) (hg : o.guard = some (j, want)) (hj : (A[j]?).bind (·.dst) = some d) (hd : Nat.blt d st.nt = true)
    (hv : get d st.tm = .lit v) (hb : asks v want = false) (hdst : ∀ d, o.dst = some d → Nat.blt d st.nt = true) (h : Drawn P f Q k A n (L.setIfInBounds i true) (match o.dst with | some d => st.set d (.lit undef) | none => st)) :
    Drawn P f Q k A (n + 1) L st := by
  intro S0 B w0 I a w hlo hr hds
  obtain ⟨c1, c2, c3⟩ := clear_spec ho hc
  refine anyB_first ho c1 n L a w c3 c2 (v := undef) (.inr ⟨?_, rfl⟩) (h S0 B w0 I _ w hlo ?_ ((put_defers _ _ _).trans hds))
  · exact hr.yieldL hj hd hv hg hb
  · cases hdd : o.dst with
    | none => exact hr
    | some d => exact hr.put (hdst d hdd) (.std (.lit _))

theorem drawn_guard {o : Oper} {j d : Nat} {want b : Bool} (ho : A[i]? = some o) (hg : o.guard = some (j, want)) (hj : (A[j]?).bind (·.dst) = some d) (hd : Nat.blt d st.nt = true) (hv : get d st.tm = .lit (.bool b))
    (ht : b = true → Drawn P f Q k A n L (st.set d (.lit (.bool true)))) (hf : b = false → Drawn P f Q k A n L (st.set d (.lit (.bool false)))) : Drawn P f Q k A n L st := by
  intro S0 B w0 I a w hlo hr hds
  have hx := hr.tm d
  have hx2 := hx
  rw [hv] at hx2
  have hx3 := hx2.lit_inv
  have key : Rel S0 B w0 I (st.set d (.lit (.bool b))) a w := by
    refine { hr with tm := fun j => ?_ }
    show Rep I w (.v (get j ((d, _) :: st.tm)) _)
    rw [get_cons]
    by_cases e : d = j
    · subst e; rw [if_pos rfl, hx3]; exact .std (.lit _)
    · rw [if_neg e]; exact hr.tm j
  cases b
  · exact hf rfl S0 B w0 I a w hlo key hds
  · exact ht rfl S0 B w0 I a w hlo key hds

end
end Go.Ax

/- Structs and rows that are made: out of their parts, of zeros, by appending. -/
namespace Go.Ax
open Go.RowKit
set_option linter.unusedVariables false
set_option linter.unusedSimpArgs false

/-! Parts laid into cells. -/

def spliceV : List Value → Nat → List Value → List Value
  | cs, _, [] => cs
  | [], _, _ => []
  | _ :: cs, 0, v :: vs => v :: spliceV cs 0 vs
  | c :: cs, n + 1, v :: vs => c :: spliceV cs n (v :: vs)

theorem rep_splice {I : Interp} {w : World} : ∀ (cs : List AV) (n : Nat) (vs : List AV) (xs us : List Value), Rep I w (.l cs xs) → Rep I w (.l vs us) → Rep I w (.l (splice cs n vs) (spliceV xs n us))
  | cs, n, [], xs, us, h, h2 => by
    cases h2
    simp only [splice, spliceV]; exact h
  | [], n, v :: vs, xs, us, h, h2 => by
    cases h; cases h2
    exact .nil
  | c :: cs, 0, v :: vs, xs, us, h, h2 => by
    cases h with
    | cons h0 h1 =>
      cases h2 with
      | cons k0 k1 => exact .cons k0 (rep_splice cs 0 vs _ _ h1 k1)
  | c :: cs, n + 1, v :: vs, xs, us, h, h2 => by
    cases h with
    | cons h0 h1 =>
      cases h2 with
      | cons k0 k1 => exact .cons h0 (rep_splice cs n (v :: vs) _ _ h1 (.cons k0 k1))

theorem spliceV_set (cs : List Value) : ∀ (n : Nat) (v : Value) (vs : List Value), n < cs.length → spliceV cs n (v :: vs) = spliceV (cs.set n v) (n + 1) vs := by
  induction cs with
  | nil => intro n v vs h; simp at h
  | cons c cs ih =>
    intro n v vs h
    cases n with
    | zero =>
      cases vs with
      | nil => simp [spliceV]
      | cons u us => simp [spliceV]
    | succ n =>
      have := ih n v vs (by simpa using h)
      cases vs with
      | nil => simpa [spliceV] using this
      | cons u us => simpa [spliceV] using this

theorem foldl_splice (vs : List Value) : ∀ (k off : Nat) (cs : List Value), off + k + vs.length ≤ cs.length →
    ((vs.zipIdx k).foldl (fun (cs : Array Value) p => cs.setIfInBounds (off + p.2) p.1) cs.toArray).toList = spliceV cs (off + k) vs := by
  induction vs with
  | nil => intro k off cs h; simp [spliceV]
  | cons v vs ih =>
    intro k off cs h
    simp only [List.zipIdx_cons, List.foldl_cons]
    have := ih (k + 1) off (cs.set (off + k) v) (by simp at h ⊢; omega)
    rw [List.setIfInBounds_toArray, this, spliceV_set cs (off + k) v vs (by simp at h; omega)]
    rfl

/-- Where parts go, and what they make. -/
def lay (place : Nat → Option (Nat × Nat)) : List AV → List (Nat × AV) → Option (List AV)
  | cs, [] => some cs
  | cs, (j, v) :: r => match place j with
    | none => none
    | some (off, sz) => bif v.known && Nat.beq v.cells.length sz && Nat.ble (off + sz) cs.length then lay place (splice cs off v.cells) r else none

/-- Parts as the machine has them. -/
inductive Parts (I : Interp) (w : World) : List (Nat × AV) → List (Nat × Value) → Prop
  | nil : Parts I w [] []
  | cons {j v x ps xs} : Rep I w (.v v x) → (∀ u, v = .lit u → u.cells = #[u]) → Parts I w ps xs → Parts I w ((j, v) :: ps) ((j, x) :: xs)

theorem spliceV_len (cs : List Value) : ∀ (n : Nat) (vs : List Value), (spliceV cs n vs).length = cs.length := by
  induction cs with
  | nil => intro n vs; cases vs <;> simp [spliceV]
  | cons c cs ih =>
    intro n vs
    cases vs with
    | nil => simp [spliceV]
    | cons v vs => cases n <;> simp [spliceV, ih]

theorem lay_ok {I : Interp} {w : World} {place place' : Nat → Option (Nat × Nat)} (hp : ∀ j, place' j = place j) : ∀ {ps : List (Nat × AV)} {xs : List (Nat × Value)} {cs cs' : List AV} {zs : List Value}, Parts I w ps xs → Rep I w (.l cs zs) →
    lay place cs ps = some cs' → ∃ ys, Instr.fill place' zs.toArray xs = some ys ∧ Rep I w (.l cs' ys.toList) := by
  intro ps
  induction ps with
  | nil =>
    intro xs cs cs' zs h hr hl
    cases h
    simp only [lay, Option.some.injEq] at hl
    subst hl
    exact ⟨zs.toArray, rfl, by simpa using hr⟩
  | cons p ps ih =>
    intro xs cs cs' zs h hr hl
    cases h with
    | @cons j v x _ xs hv hlit hps =>
      simp only [lay] at hl
      cases hpl : place j with
      | none => rw [hpl] at hl; cases hl
      | some q =>
        obtain ⟨off, sz⟩ := q
        rw [hpl] at hl
        dsimp only at hl
        cases hc : (v.known && Nat.beq v.cells.length sz && Nat.ble (off + sz) cs.length) with
        | false => rw [hc] at hl; cases hl
        | true =>
          rw [hc, cond_true] at hl
          simp only [Bool.and_eq_true, Nat.ble_eq] at hc
          obtain ⟨⟨hk, hb⟩, hle⟩ := hc
          have hcells := hv.cells hk hlit
          have hlen : x.cells.toList.length = sz := by rw [hcells.l_len]; exact Nat.eq_of_beq_eq_true hb
          have hzl : zs.length = cs.length := hr.l_len
          obtain ⟨ys, h1, h2⟩ := ih (cs := splice cs off v.cells) (zs := spliceV zs off x.cells.toList) hps (rep_splice _ _ _ _ _ hr hcells) hl
          refine ⟨ys, ?_, h2⟩
          simp only [Instr.fill, hp, hpl]
          have e1 : x.cells.size = sz := by rw [← hlen]; simp
          have e2 : ¬ (off + x.cells.size > zs.toArray.size) := by simp [e1]; omega
          have e3 : (x.cells.size ≠ sz || decide (off + x.cells.size > zs.toArray.size)) = false := by simp [e1]; omega
          rw [if_neg (by simp [e1]; omega)]
          have h3 := foldl_splice x.cells.toList 0 off zs (by rw [hlen]; omega)
          rw [← h1]
          congr 1
          apply Array.ext'
          rw [Nat.add_zero] at h3
          rw [List.toList_toArray, ← h3]
          congr 1
          rw [← Array.foldl_toList]
          simp [Array.toList_zipIdx]

section
variable {P : Program} {st : St}

theorem parts_of {S0 : Interp} {B : Nat} {w0 : World} {I : Interp} {a : Act} {w : World} (hr : Rel S0 B w0 I st a w) (ps : List (Nat × Operand)) (hl : ∀ p ∈ ps, ∀ u, st.ev p.2 = .lit u → u.cells = #[u]) :
    Parts I w (ps.map fun p => (p.1, st.ev p.2)) (ps.map fun p => (p.1, a.eval p.2)) := by
  induction ps with
  | nil => exact .nil
  | cons p ps ih => exact .cons (hr.ev p.2) (hl p (List.mem_cons_self ..)) (ih fun q hq => hl q (List.mem_cons_of_mem _ hq))

def placeOf (fs : List (Nat × Nat)) (szs : List Nat) (j : Nat) : Option (Nat × Nat) :=
  match fs[j]?, szs[j]? with
  | some (off, _), some s => some (off, s)
  | _, _ => none

/-- The sizes of a struct's fields. -/
inductive Sizes (P : Program) : List (Nat × Nat) → List Nat → Prop
  | nil : Sizes P [] []
  | cons {off t i fs ss} : TyOK P t i → Sizes P fs ss → Sizes P ((off, t) :: fs) (i.size :: ss)

/-- All parts that are literals have one cell. -/
def litOK (st : St) : List (Nat × Operand) → Bool
  | [] => true
  | (_, x) :: r => (match st.ev x with | .lit u => u.oneCell' | _ => true) && litOK st r

theorem litOK_spec : ∀ {ps : List (Nat × Operand)}, litOK st ps = true → ∀ p ∈ ps, ∀ u, st.ev p.2 = .lit u → u.cells = #[u]
  | (j, x) :: r, h, p, hp, u, hu => by
    simp only [litOK, Bool.and_eq_true] at h
    rcases List.mem_cons.1 hp with rfl | hp
    · rw [hu] at h
      cases u <;> first | rfl | (have := h.1; simp [Value.oneCell'] at this)
    · exact litOK_spec h.2 p hp u hu
  | [], _, p, hp, _, _ => by simp at hp

theorem run_places {w : World} : ∀ (fields : List Field) (fs : List (Nat × Nat)) (ss : List Nat), fields.map (fun f => (f.offset, f.type)) = fs → Sizes P fs ss →
    (fields.mapM fun f => (do pure (f.offset, ← sizeOf f.type) : Sem (Nat × Nat))).run P w = .ok ((fs.zip ss).map fun p => (p.1.1, p.2)) w
  | [], fs, ss, h, hs => by subst h; cases hs; simp
  | fd :: fields, fs, ss, h, hs => by
    subst h
    cases hs with
    | @cons _ _ i _ ss ht hs =>
      have ih := run_places (w := w) fields _ ss rfl hs
      simp only [List.mapM_cons, Sem.run_bind, run_size ht, Result.andThen_ok, Sem.run_pure, ih, List.map_cons, List.zip_cons_cons]

theorem rd_build {o : Oper} {t : Nat} {parts : Array (Nat × Operand)} {i : TyI} {fs : List (Nat × Nat)} {ss : List Nat} {cs : List AV} (h : o.op = .build t parts) (ht : TyOK P t i) (hd : i.td = .agg fs) (hs : Sizes P fs ss)
    (hl : litOK st parts.toList = true) (hc : lay (placeOf fs ss) (i.zero.map .lit) (parts.toList.map fun p => (p.1, st.ev p.2)) = some cs) : Reads P st o (.agg cs) := by
  intro S0 B w0 I a w hr
  have hparts := parts_of hr parts.toList (litOK_spec hl)
  have hplace : ∀ j, (((fs.zip ss).map fun (p : (Nat × Nat) × Nat) => (p.1.1, p.2)).toArray[j]? : Option (Nat × Nat)) = placeOf fs ss j := by
    intro j
    simp only [List.getElem?_toArray, List.getElem?_map]
    have : ∀ (fs : List (Nat × Nat)) (ss : List Nat), Sizes P fs ss → ∀ j, ((fs.zip ss)[j]?.map fun (p : (Nat × Nat) × Nat) => (p.1.1, p.2)) = placeOf fs ss j := by
      intro fs ss h
      induction h with
      | nil => intro j; rfl
      | cons _ _ ih => intro j; cases j with | zero => rfl | succ j => simpa [placeOf] using ih j
    exact this fs ss hs j
  obtain ⟨ys, h1, h2⟩ := lay_ok hplace hparts (lits_rep I w i.zero) hc
  obtain ⟨h3, _⟩ := id ht
  rw [hd] at h3
  obtain ⟨fields, hu, hf⟩ := h3
  refine ⟨.agg ys, fun w' hw => ?_, ?_⟩
  · obtain ⟨z, hz, hzc⟩ := run_zero (w := w') ht
    have hpl := run_places (P := P) (w := w') fields.toList fs ss hf hs
    have hm : (fields.mapM fun f => (do pure (f.offset, ← sizeOf f.type) : Sem (Nat × Nat))).run P w' = .ok ((fs.zip ss).map fun p => (p.1.1, p.2)).toArray w' := by
      rw [← Array.toArray_toList (xs := fields), List.mapM_toArray]
      simp only [Sem.run_map, hpl, Result.andThen_ok]
    have hmap : (parts.map fun p => (p.1, a.eval p.2)).toList = parts.toList.map fun p => (p.1, a.eval p.2) := by simp
    simp only [execOp, h, Instr.build, Sem.run_bind, hz, Result.andThen_ok, run_under hu, hm, hzc, hmap, h1, Sem.run_pure]
  · have := Rep.agg h2
    simpa using this
end
end Go.Ax

/- Rows of one's own: made, appended to, read, written. -/
namespace Go.Ax
open Go.RowKit
set_option linter.unusedVariables false
set_option linter.unusedSimpArgs false

theorem Own.l_len {S : Nat → Prop} {w : World} {as : List AV} {vs : List Value} {F : List Nat} (h : Own S w (.l as vs) F) : vs.length = as.length := by
  induction as generalizing vs F with
  | nil => cases h; rfl
  | cons a as ih => cases h with | cons _ h2 => simp [ih h2]

theorem Own.cells {S : Nat → Prop} {w : World} {b : Nat} {as : List AV} : ∀ {o : Nat} {F : List Nat}, Own S w (.c b o as) F → ∃ vs, Own S w (.l as vs) F ∧ CellsAt w b o vs := by
  induction as with
  | nil => intro o F h; cases h; exact ⟨[], .nil, .nil⟩
  | cons a as ih =>
    intro o F h
    cases h with
    | ccons hc ha hr =>
      obtain ⟨vs, h1, h2⟩ := ih hr
      exact ⟨_ :: vs, .cons ha h1, .cons hc h2⟩

theorem Own.ofCells {S : Nat → Prop} {w : World} {b : Nat} {as : List AV} : ∀ {o : Nat} {vs : List Value} {F : List Nat}, Own S w (.l as vs) F → CellsAt w b o vs → Own S w (.c b o as) F := by
  induction as with
  | nil => intro o vs F h _; cases h; exact .cnil
  | cons a as ih =>
    intro o vs F h hc
    cases h with
    | cons h1 h2 =>
      refine .ccons (hc 0 _ rfl) h1 (ih h2 fun j v hj => ?_)
      have := hc (j + 1) v (by simpa using hj)
      rw [show o + 1 + j = o + (j + 1) from by omega]; exact this

theorem Own.l_app {S : Nat → Prop} {w : World} {as bs : List AV} : ∀ {vs us : List Value} {F G : List Nat}, Own S w (.l as vs) F → Own S w (.l bs us) G → Own S w (.l (as ++ bs) (vs ++ us)) (F ++ G) := by
  induction as with
  | nil => intro vs us F G h h2; cases h; exact h2
  | cons a as ih =>
    intro vs us F G h h2
    cases h with
    | cons h0 h1 => rw [List.append_assoc]; exact .cons h0 (ih h1 h2)

theorem Own.l_split {S : Nat → Prop} {w : World} {as bs : List AV} : ∀ {vs : List Value} {F : List Nat}, Own S w (.l (as ++ bs) vs) F → ∃ v1 v2 F1 F2, vs = v1 ++ v2 ∧ F = F1 ++ F2 ∧ Own S w (.l as v1) F1 ∧ Own S w (.l bs v2) F2 := by
  induction as with
  | nil => intro vs F h; exact ⟨[], vs, [], F, rfl, rfl, .nil, h⟩
  | cons a as ih =>
    intro vs F h
    cases h with
    | cons h0 h1 =>
      obtain ⟨v1, v2, F1, F2, rfl, rfl, h2, h3⟩ := ih h1
      exact ⟨_ :: v1, v2, _ ++ F1, F2, rfl, by rw [List.append_assoc], .cons h0 h2, h3⟩

theorem Own.l_mono {I I' : Interp} {w w' : World} {as : List AV} {vs : List Value} {F : List Nat} (h : Own I.S w (.l as vs) F) (e : Ext I w I' w') (hF : ∀ b ∈ F, w'.heap[b]? = w.heap[b]?) : Own I'.S w' (.l as vs) F :=
  Own.mono h e.S e.hold hF (by simp)

theorem CellsAt.app {w : World} {b o : Nat} {vs us : List Value} (h : CellsAt w b o vs) (h2 : CellsAt w b (o + vs.length) us) : CellsAt w b o (vs ++ us) := by
  intro j v hj
  rcases Nat.lt_or_ge j vs.length with hlt | hge
  · rw [List.getElem?_append_left hlt] at hj; exact h j v hj
  · rw [List.getElem?_append_right hge] at hj
    have := h2 _ v hj
    rw [show o + vs.length + (j - vs.length) = o + j from by omega] at this; exact this

/-- A new row with these elements. -/
theorem Rel.newRow {S0 : Interp} {B : Nat} {w0 : World} {I : Interp} {st : St} {a : Act} {w : World} (hr : Rel S0 B w0 I st a w) {hp : List (Nat × Row)} {T F : List Nat} {T0 : List Nat} (ht0 : ∀ b ∈ T0, B ≤ b ∧ ¬ I.S b ∧ b < w.heap.size) (hnd : T0.Nodup)
    (hh : HeapOK I w hp T) (hp0 : ∃ G, T0.Perm (F ++ (T ++ G))) {sz : Nat} {xs : List (List AV)} {vs : List Value} {cs : Array Value} (hx : ∀ x ∈ xs, x.length = sz) (ho : Own I.S w (.l xs.flatten vs) F) (hcs : cs.toList = vs ++ cs.toList.drop vs.length)
    (e cap : Nat) (hcap : xs.length ≤ cap) (hsz : cap * sz ≤ cs.size) :
    Rel S0 B w0 (I.add (some (w.heap.size, 0)) xs.length sz) ⟨st.tm, (st.nx, .row sz xs) :: hp, st.nx + 1, st.nt⟩ a { w with heap := w.heap.push (.cells cs e) } ∧
    Rep (I.add (some (w.heap.size, 0)) xs.length sz) { w with heap := w.heap.push (.cells cs e) } (.v (.hw st.nx) (.slice (some ⟨w.heap.size, 0, none⟩) xs.length cap)) := by
  obtain ⟨G, hperm⟩ := hp0
  have hold : ∀ b, I.S b → ({ w with heap := w.heap.push (.cells cs e) } : World).heap[b]? = w.heap[b]? := fun b hb => heap_push _ _ _ (hr.ss b hb)
  have he : Ext I w (I.add (some (w.heap.size, 0)) xs.length sz) { w with heap := w.heap.push (.cells cs e) } := .add _ _ _ hold (.push _ _)
  have hlt : ∀ b ∈ F ++ (T ++ G), b < w.heap.size := fun b hb => (ht0 b (hperm.mem_iff.2 hb)).2.2
  have hnx : I.nx = st.nx := hr.nx
  have hn : (I.add (some (w.heap.size, 0)) xs.length sz).nx = st.nx + 1 := by show I.nx + 1 = _; rw [hnx]
  have hat : (I.add (some (w.heap.size, 0)) xs.length sz).at_ st.nx = some (w.heap.size, 0) := by simp [Interp.add, hnx]
  have hln : (I.add (some (w.heap.size, 0)) xs.length sz).ln st.nx = xs.length := by simp [Interp.add, hnx]
  have hszz : (I.add (some (w.heap.size, 0)) xs.length sz).sz st.nx = sz := by simp [Interp.add, hnx]
  have hblk : Blk { w with heap := w.heap.push (.cells cs e) } w.heap.size cs := ⟨e, by simp⟩
  have hle : xs.length * sz ≤ cap * sz := Nat.mul_le_mul_right _ hcap
  have hcell : CellsAt { w with heap := w.heap.push (.cells cs e) } w.heap.size 0 vs := by
    intro j v hj
    refine cellsAt_new w cs e j v ?_
    rw [hcs, List.getElem?_append_left (List.getElem?_eq_some_iff.1 hj).1]; exact hj
  have hrow : RowOK (I.add (some (w.heap.size, 0)) xs.length sz) { w with heap := w.heap.push (.cells cs e) } st.nx (.row sz xs) (w.heap.size :: F) :=
    .row (by rw [hn]; omega) hat hln hszz hblk (by omega) hx (Own.ofCells (ho.l_mono he fun b hb => heap_push _ _ _ (hlt b (List.mem_append_left _ hb))) hcell)
  have hndF : (F ++ (T ++ G)).Nodup := hperm.nodup_iff.1 hnd
  refine ⟨?_, ?_⟩
  · have := hr.next he (Below.push B w _ hr.bs) (fun b h => .inl h) (fun b h => by have := hr.ss b h; simp; omega)
      (hp := (st.nx, .row sz xs) :: hp) ⟨(w.heap.size :: F) ++ T, .cons hrow (hh.mono he fun b hb => heap_push _ _ _ (hlt b (by simp [hb]))), ?_, ?_⟩
    · rw [hn] at this; exact this
    · refine List.nodup_cons.2 ⟨fun hm => ?_, ?_⟩
      · have := hlt _ (by rw [← List.append_assoc]; exact List.mem_append_left _ hm); omega
      · rw [← List.append_assoc] at hndF; exact (List.nodup_append.1 hndF).1
    · intro b hb
      rcases List.mem_cons.1 hb with rfl | hb
      · exact ⟨hr.bs, fun h => by have := hr.ss _ h; omega, by simp⟩
      · have := ht0 b (hperm.mem_iff.2 (by rw [← List.append_assoc]; exact List.mem_append_left _ hb))
        exact ⟨this.1, this.2.1, by have := this.2.2; simp; omega⟩
  · have := Rep.hw (I := I.add (some (w.heap.size, 0)) xs.length sz) (w := { w with heap := w.heap.push (.cells cs e) }) (id := st.nx) (cap := cap) (c := cs) (b := w.heap.size) (o := 0) (by rw [hn]; omega) hat (by rw [hln]; exact hcap) hblk
      (by rw [hszz]; omega)
    rw [hln] at this; exact this

theorem own_lits (S : Nat → Prop) (w : World) (vs : List Value) : Own S w (.l (vs.map .lit) vs) [] := by
  induction vs with
  | nil => exact .nil
  | cons v vs ih => exact .cons (F := []) (G := []) (.std (.lit _)) ih

theorem flatten_rep {n : Nat} {zs : List Value} : (List.replicate n (zs.map AV.lit)).flatten = ((List.replicate n zs).flatten).map .lit := by
  induction n with
  | zero => rfl
  | succ n ih => rw [List.replicate_succ, List.replicate_succ, List.flatten_cons, List.flatten_cons, List.map_append, ih]

theorem flatten_get {zs : List Value} : ∀ (n j : Nat), j < n * zs.length → (List.replicate n zs).flatten[j]? = zs[j % zs.length]?
  | 0, j, h => by rw [Nat.zero_mul] at h; exact absurd h (Nat.not_lt_zero _)
  | n + 1, j, h => by
    rw [List.replicate_succ, List.flatten_cons]
    rcases Nat.lt_or_ge j zs.length with hlt | hge
    · rw [List.getElem?_append_left hlt, Nat.mod_eq_of_lt hlt]
    · have hm : (n + 1) * zs.length = n * zs.length + zs.length := by rw [Nat.add_mul, Nat.one_mul]
      rw [List.getElem?_append_right hge, flatten_get n (j - zs.length) (by omega), Nat.mod_eq_sub_mod hge]

theorem flatten_len {zs : List Value} (n : Nat) : (List.replicate n zs).flatten.length = n * zs.length := by
  induction n with
  | zero => simp
  | succ n ih => rw [List.replicate_succ, List.flatten_cons, List.length_append, ih, Nat.add_mul]; omega

theorem zeros_eq {z : Array Value} {n : Nat} (h : 0 < n * z.size) : ((Array.range (n * z.size)).map (z[· % z.size]!)).toList = (List.replicate n z.toList).flatten := by
  apply List.ext_getElem?
  intro j
  have hl : (List.replicate n z.toList).flatten.length = n * z.size := by rw [flatten_len]; simp
  rcases Nat.lt_or_ge j (n * z.size) with hlt | hge
  · rw [flatten_get n j (by simpa using hlt)]
    have hz : 0 < z.size := by
      rcases Nat.eq_zero_or_pos z.size with h0 | h0
      · rw [h0, Nat.mul_zero] at h; omega
      · exact h0
    have hm : j % z.size < z.size := Nat.mod_lt _ hz
    have h1 : z.toList[j % z.toList.length]? = some z[j % z.size] := by simp [hm]
    rw [h1, Array.toList_map, Array.toList_range, List.getElem?_map, List.getElem?_range hlt, Option.map_some, getElem!_pos z _ hm]
  · rw [List.getElem?_eq_none (by simpa using hge), List.getElem?_eq_none (by rw [hl]; exact hge)]

section
variable {P : Program} {st : St}

theorem ok_makeSlice {o : Oper} {t e : Nat} {x y : Operand} {it ie : TyI} {k k2 : IntKind} {n : Nat} (h : o.op = .makeSlice t x y) (ht : TyOK P t it) (hd : it.td = .td (.slice e)) (he : TyOK P e ie) (hx : st.ev x = .lit (.int k (n : Int)))
    (hy : st.ev y = .lit (.int k2 (n : Int))) (hb : (n : Int) * ie.bytes ≤ 281474976710656) (hn : (n : Int) ≤ 9223372036854775807) :
    OpOK P st o (.hw st.nx) ⟨st.tm, (st.nx, .row ie.size (List.replicate n (ie.zero.map .lit))) :: st.hp, st.nx + 1, st.nt⟩ := by
  refine ⟨rfl, fun S0 B w0 I a w hr => ?_⟩
  have h1 := hr.ev x
  have h2 := hr.ev y
  rw [hx] at h1
  rw [hy] at h2
  obtain ⟨T, t1, t2, t3⟩ := hr.hp
  obtain ⟨info, hi1, hi2⟩ := run_bytes (w := w) he
  obtain ⟨z, hz, hzc⟩ := run_zero (w := w) he
  have hzl : ie.zero.length = ie.size := he.2.1
  have hzs : z.cells.size = ie.size := by rw [hzc]; simp [hzl]
  have hzt : z.cells.toList = ie.zero := by rw [hzc]
  let cs : Array Value := if n * ie.size = 0 then #[] else (Array.range (n * ie.size)).map (z.cells[· % z.cells.size]!)
  have hcs : cs.toList = (List.replicate n ie.zero).flatten := by
    show (if n * ie.size = 0 then (#[] : Array Value) else _).toList = _
    split
    · rename_i h0
      have := flatten_len (zs := ie.zero) n
      rw [hzl, h0] at this
      exact (List.eq_nil_of_length_eq_zero this).symm
    · rename_i h0
      have h3 : 0 < n * z.cells.size := by rw [hzs]; omega
      have := zeros_eq (z := z.cells) (n := n) h3
      rw [hzt] at this
      rw [← this, hzs]
  have hlen : (List.replicate n ie.zero).flatten.length = n * ie.size := by rw [flatten_len, hzl]
  have hsize : cs.size = n * ie.size := by rw [← Array.length_toList, hcs, hlen]
  have hown : Own I.S w (.l (List.replicate n (ie.zero.map AV.lit)).flatten (List.replicate n ie.zero).flatten) [] := by rw [flatten_rep]; exact own_lits _ _ _
  obtain ⟨g1, g2⟩ := hr.newRow t3 t2 t1 (F := []) ⟨[], by simp⟩ (sz := ie.size) (xs := List.replicate n (ie.zero.map .lit)) (vs := (List.replicate n ie.zero).flatten) (cs := cs)
    (fun x hx => by rw [List.eq_of_mem_replicate hx]; simp [hzl]) hown (by rw [hcs]; simp) e n (by simp) (by rw [hsize]; exact Nat.le_refl _)
  rw [List.length_replicate] at g1 g2
  refine ⟨_, _, _, ?_, g1, g2, fun _ b hb => heap_push _ _ _ hb⟩
  have hw : IntKind.i64.wrap (n : Int) = n := wrap_in (by omega) hn
  have hb2 : ¬ ((ie.bytes : Int) * n > 2 ^ 48) := by rw [Int.mul_comm]; simpa using hb
  have hneg : ¬ ((n : Int) < 0) := by omega
  have e1 : decide ((n : Int) < 0) = false := decide_eq_false hneg
  have e2 : decide ((ie.bytes : Int) * n > 2 ^ 48) = false := decide_eq_false hb2
  have e3 : decide ((n : Int) > n) = false := decide_eq_false (by omega)
  have hcells : (if n * ie.size = 0 then (#[] : Array Value) else z.cells) = if n * ie.size = 0 then #[] else z.cells := rfl
  simp only [execOp, h, h1.lit_inv, h2.lit_inv, Instr.makeSlice, Sem.run_bind, run_under (ht.sliceE hd), Result.andThen_ok, asInt, asIntOf, Sem.run_pure, hi1, hi2, hw, e1, e2, e3, Bool.or_false, Bool.false_eq_true, if_false, run_askRoom, Int.toNat_natCast,
    run_size he]
  by_cases h0 : n * ie.size = 0
  · simp only [h0, if_true, Sem.run_pure, Result.andThen_ok, newRow, Sem.run_bind, run_newObj]
    have : cs = #[] := by show (if n * ie.size = 0 then _ else _) = _; rw [if_pos h0]
    have e0 : ∀ g : Nat → Value, (Array.range 0).map g = #[] := fun g => Array.eq_empty_of_size_eq_zero (by simp)
    rw [this, e0]
  · simp only [h0, if_false, Sem.run_bind, hz, Sem.run_pure, Result.andThen_ok, newRow, run_newObj]
    have : cs = (Array.range (n * ie.size)).map (z.cells[· % z.cells.size]!) := by show (if n * ie.size = 0 then _ else _) = _; rw [if_neg h0]
    rw [this]

/-- The elements that a literal lists, in their order. -/
def elems (st : St) (ps : List (Nat × Operand)) : List (List AV) := ps.map fun p => (st.ev p.2).cells

def foldLL : List (Nat × Row) → List (List AV) → List (List AV) × List (Nat × Row)
  | hp, [] => ([], hp)
  | hp, x :: xs => ((foldL hp x).1 :: (foldLL (foldL hp x).2 xs).1, (foldLL (foldL hp x).2 xs).2)

theorem foldL_app (as bs : List AV) : ∀ (hp : List (Nat × Row)), foldL hp (as ++ bs) = ((foldL hp as).1 ++ (foldL (foldL hp as).2 bs).1, (foldL (foldL hp as).2 bs).2) := by
  induction as with
  | nil => intro hp; rfl
  | cons a as ih => intro hp; simp only [List.cons_append, foldL, ih]

theorem foldLL_flat (xs : List (List AV)) : ∀ (hp : List (Nat × Row)), foldL hp xs.flatten = ((foldLL hp xs).1.flatten, (foldLL hp xs).2) := by
  induction xs with
  | nil => intro hp; rfl
  | cons x xs ih => intro hp; rw [List.flatten_cons, foldL_app, ih]; rfl

theorem foldL_len (as : List AV) : ∀ (hp : List (Nat × Row)), (foldL hp as).1.length = as.length := by
  induction as with
  | nil => intro hp; rfl
  | cons a as ih => intro hp; simp [foldL, ih]

theorem fill_seq {size : Nat} : ∀ (vs : List Value) (k : Nat) (zs : List Value), (∀ v ∈ vs, v.cells.size = size) → (k + vs.length) * size = zs.length →
    Instr.fill (fun i => some (i * size, size)) zs.toArray ((upTo vs.length k).zip vs) = some (zs.take (k * size) ++ (vs.map fun v => v.cells.toList).flatten).toArray
  | [], k, zs, _, h => by
    simp only [List.length_nil, Nat.add_zero] at h
    simp [upTo, Instr.fill, h]
  | v :: vs, k, zs, hv, h => by
    have hs := hv v (List.mem_cons_self ..)
    have hm : (k + 1 + vs.length) * size = zs.length := by rw [← h]; simp; congr 1; omega
    have hk : (k + 1) * size = k * size + size := by rw [Nat.add_mul, Nat.one_mul]
    have hle : k * size + size ≤ zs.length := by
      rw [← hm, ← hk]; exact Nat.mul_le_mul_right _ (by omega)
    have hl2 : v.cells.toList.length = size := by simpa using hs
    have h3 := foldl_splice v.cells.toList 0 (k * size) zs (by rw [hl2]; omega)
    have ih := fill_seq vs (k + 1) (spliceV zs (k * size) v.cells.toList) (fun u hu => hv u (List.mem_cons_of_mem _ hu)) (by rw [spliceV_len]; exact hm)
    have hsp : spliceV zs (k * size) v.cells.toList = zs.take (k * size) ++ (v.cells.toList ++ zs.drop (k * size + size)) := by
      have : ∀ (cs : List Value) (n : Nat) (vs : List Value), n + vs.length ≤ cs.length → spliceV cs n vs = cs.take n ++ (vs ++ cs.drop (n + vs.length)) := by
        intro cs
        induction cs with
        | nil => intro n vs h; cases vs with | nil => simp [spliceV] | cons => simp at h
        | cons c cs ih =>
          intro n vs h
          cases vs with
          | nil => simp [spliceV]
          | cons v vs =>
            cases n with
            | zero => have := ih 0 vs (by simp at h ⊢; omega); simp [spliceV, this]
            | succ n =>
              have := ih n (v :: vs) (by simp at h ⊢; omega)
              simp only [spliceV, this, List.take_succ_cons, List.cons_append, List.length_cons]
              rw [show n + 1 + (vs.length + 1) = (n + (vs.length + 1)) + 1 from by omega, List.drop_succ_cons]
      rw [this _ _ _ (by rw [hl2]; omega), hl2]
    simp only [List.length_cons, upTo, List.zip_cons_cons, Instr.fill]
    rw [if_neg (by simp [hs]; omega)]
    have harr : (v.cells.zipIdx.foldl (fun cs (c, j) => cs.setIfInBounds (k * size + j) c) zs.toArray) = (spliceV zs (k * size) v.cells.toList).toArray := by
      apply Array.ext'
      rw [Nat.add_zero] at h3
      rw [List.toList_toArray, ← h3]
      congr 1
      rw [← Array.foldl_toList]
      simp [Array.toList_zipIdx]
    rw [harr, ih, hsp]
    have hl3 : (zs.take (k * size)).length = k * size := by rw [List.length_take]; omega
    have key : (zs.take (k * size) ++ (v.cells.toList ++ zs.drop (k * size + size))).take (k * size + size) = zs.take (k * size) ++ v.cells.toList := by
      rw [← List.append_assoc, List.take_append, List.take_of_length_le (by rw [List.length_append, hl3, hl2]; exact Nat.le_refl _), List.length_append, hl3, hl2, Nat.sub_self, List.take_zero, List.append_nil]
    rw [hk, key, List.map_cons, List.flatten_cons, List.append_assoc]
end
end Go.Ax

/- Literal rows, and appending. -/
namespace Go.Ax
open Go.RowKit
set_option linter.unusedVariables false
set_option linter.unusedSimpArgs false

theorem flat_len {α : Type} {n : Nat} : ∀ {xs : List (List α)}, (∀ x ∈ xs, x.length = n) → xs.flatten.length = xs.length * n
  | [], _ => by simp
  | x :: xs, h => by
    rw [List.flatten_cons, List.length_append, flat_len fun y hy => h y (List.mem_cons_of_mem _ hy), h x (List.mem_cons_self ..), List.length_cons, Nat.add_mul]; omega

theorem Rep.flat {I : Interp} {w : World} {st : St} {S0 : Interp} {B : Nat} {w0 : World} {a : Act} (hr : Rel S0 B w0 I st a w) (ps : List (Nat × Operand)) (hk : ps.all (fun p => (st.ev p.2).known) = true) (hl : litOK st ps = true) :
    Rep I w (.l (elems st ps).flatten ((ps.map fun p => (a.eval p.2).cells.toList).flatten)) := by
  induction ps with
  | nil => exact .nil
  | cons p ps ih =>
    simp only [List.all_cons, Bool.and_eq_true] at hk
    have h2 : litOK st ps = true := by simp only [litOK, Bool.and_eq_true] at hl; exact hl.2
    have h1 := (hr.ev p.2).cells hk.1 (litOK_spec hl p (List.mem_cons_self ..))
    exact h1.l_app (ih hk.2 h2)

section
variable {P : Program} {st : St}

theorem ok_buildSlice {o : Oper} {t e n : Nat} {parts : Array (Nat × Operand)} {it ie : TyI} {xs : List (List AV)} {hp : List (Nat × Row)} (h : o.op = .buildSlice t n parts) (ht : TyOK P t it) (hd : it.td = .td (.slice e)) (he : TyOK P e ie)
    (hix : parts.toList.map Prod.fst = upTo n 0) (hn : Nat.ble (n * ie.size) 16777216 = true) (hk : parts.toList.all (fun p => (st.ev p.2).known) = true) (hl : litOK st parts.toList = true)
    (hsz : (elems st parts.toList).all (fun x => Nat.beq x.length ie.size) = true) (hf : foldLL st.hp (elems st parts.toList) = (xs, hp)) (hc : xs.flatten.all AV.closed = true) :
    OpOK P st o (.hw st.nx) ⟨st.tm, (st.nx, .row ie.size xs) :: hp, st.nx + 1, st.nt⟩ := by
  refine ⟨rfl, fun S0 B w0 I a w hr => ?_⟩
  obtain ⟨T, t1, t2, t3⟩ := hr.hp
  have hrep := Rep.flat hr parts.toList hk hl
  obtain ⟨F, T', g1, g2, g3⟩ := foldL_ok hrep t1
  rw [foldLL_flat, hf] at g1 g2
  obtain ⟨z, hz, hzc⟩ := run_zero (w := w) he
  have hzl : ie.zero.length = ie.size := he.2.1
  have hlen : parts.toList.length = n := by
    have := congrArg List.length hix
    have hu : ∀ m s, (upTo m s).length = m := by intro m; induction m with | zero => intro s; rfl | succ m ih => intro s; simp [upTo, ih]
    rw [List.length_map, hu] at this; exact this
  -- the elements' sizes
  have hsizes : ∀ x ∈ elems st parts.toList, x.length = ie.size := fun x hx => Nat.eq_of_beq_eq_true (List.all_eq_true.1 hsz x hx)
  have hxs : ∀ (ys : List (List AV)) (hp : List (Nat × Row)), (∀ y ∈ ys, y.length = ie.size) → (foldLL hp ys).1.length = ys.length ∧ ∀ x ∈ (foldLL hp ys).1, x.length = ie.size := by
    intro ys
    induction ys with
    | nil => intro hp _; exact ⟨rfl, by simp [foldLL]⟩
    | cons y ys ih =>
      intro hp hy
      obtain ⟨h1, h2⟩ := ih (foldL hp y).2 (fun z hz => hy z (List.mem_cons_of_mem _ hz))
      refine ⟨by simp [foldLL, h1], fun x hx => ?_⟩
      simp only [foldLL, List.mem_cons] at hx
      rcases hx with rfl | hx
      · rw [foldL_len]; exact hy y (List.mem_cons_self ..)
      · exact h2 x hx
  obtain ⟨hx1, hx2⟩ := hxs _ st.hp hsizes
  rw [hf] at hx1 hx2
  have hxn : xs.length = n := by rw [hx1]; simp [elems, hlen]
  let vs := parts.toList.map fun p => a.eval p.2
  have hvs : ∀ v ∈ vs, v.cells.size = ie.size := by
    intro v hv
    obtain ⟨p, hp, rfl⟩ := List.mem_map.1 hv
    have hk1 := List.all_eq_true.1 hk p hp
    have := ((hr.ev p.2).cells hk1 (litOK_spec hl p hp)).l_len
    rw [← hsizes (st.ev p.2).cells (List.mem_map.2 ⟨p, hp, rfl⟩), ← this]; simp
  let zs : Array Value := if n * ie.size = 0 then #[] else z.cells
  have hzz : ((Array.range (n * ie.size)).map (zs[· % zs.size]!)).size = n * ie.size := by simp
  have hfill := fill_seq vs 0 ((Array.range (n * ie.size)).map (zs[· % zs.size]!)).toList hvs (by
    have e2 : vs.length = n := by simp [vs, ← hlen]
    rw [Nat.zero_add, e2]; simp)
  rw [Nat.zero_mul, List.take_zero, List.nil_append, Array.toArray_toList] at hfill
  have hparts : (parts.map fun p => (p.1, a.eval p.2)).toList = (upTo vs.length 0).zip vs := by
    have e1 : (parts.map fun p => (p.1, a.eval p.2)).toList = parts.toList.map fun p => (p.1, a.eval p.2) := by simp
    have e2 : vs.length = n := by simp [vs, ← hlen]
    rw [e1, e2, ← hix]
    show _ = (parts.toList.map Prod.fst).zip (parts.toList.map fun p => a.eval p.2)
    generalize parts.toList = l
    induction l with
    | nil => rfl
    | cons p l ih => simp [ih]
  have hcs : (vs.map fun v => v.cells.toList) = parts.toList.map fun p => (a.eval p.2).cells.toList := by simp [vs, Function.comp_def]
  have hown := g1.own hc
  have hol := hown.l_len
  have hfl : xs.flatten.length = n * ie.size := by
    rw [← hxn]; exact flat_len hx2
  obtain ⟨k1, k2⟩ := hr.newRow t3 t2 g2 (F := F) ⟨[], by simpa using g3⟩ (sz := ie.size) (xs := xs) (vs := (parts.toList.map fun p => (a.eval p.2).cells.toList).flatten)
    (cs := (parts.toList.map fun p => (a.eval p.2).cells.toList).flatten.toArray) hx2 hown (by simp) e n (by omega) (by rw [List.size_toArray, hol, hfl]; exact Nat.le_refl _)
  rw [hxn] at k1 k2
  refine ⟨_, _, _, ?_, k1, k2, fun _ b hb => heap_push _ _ _ hb⟩
  have hbig : ¬ (n * ie.size > 2 ^ 24) := by have := Nat.le_of_ble_eq_true hn; omega
  rw [hcs] at hfill
  clear_value vs
  by_cases h0 : n * ie.size = 0
  · have hzs : zs = #[] := by simp only [zs, h0, if_true]
    rw [hzs] at hfill
    simp only [execOp, h, Instr.buildSlice, Sem.run_bind, run_under (ht.sliceE hd), Result.andThen_ok, run_size he, hbig, if_false, h0, if_true, Sem.run_pure, hparts, Nat.not_lt_zero, gt_iff_lt, Nat.zero_le]
    rw [h0] at hfill
    simp only [hfill, newRow, Sem.run_bind, run_newObj, Result.andThen_ok, Sem.run_pure]
  · have hzs : zs = z.cells := by simp only [zs, h0, if_false]
    rw [hzs] at hfill
    simp only [execOp, h, Instr.buildSlice, Sem.run_bind, run_under (ht.sliceE hd), Result.andThen_ok, run_size he, hbig, if_false, h0, Sem.run_pure, hz, hparts]
    simp only [hfill, newRow, Sem.run_bind, run_newObj, Result.andThen_ok, Sem.run_pure]
end

/-- A row to be appended to: the machine's value, its cells, what may be written of it. -/
def First (I : Interp) (w : World) (hp : List (Nat × Row)) (x : Value) (sz : Nat) (xs : List (List AV)) (hp' : List (Nat × Row)) : Prop :=
  ∀ T, HeapOK I w hp T → ∃ A cap vs F G T', x = .slice A xs.length cap ∧ xs.length ≤ cap ∧ Own I.S w (.l xs.flatten vs) F ∧ (∀ x ∈ xs, x.length = sz) ∧ HeapOK I w hp' T' ∧ T.Perm (F ++ (T' ++ G)) ∧
    ((cap = 0 ∧ True) ∨ ∃ b o c, A = some ⟨b, o, none⟩ ∧ b ∈ G ∧ Blk w b c ∧ o + cap * sz ≤ c.size ∧ CellsAt w b o vs)

/-- What is appended. -/
def Src (I : Interp) (w : World) (hp : List (Nat × Row)) (y : Value) (sz : Nat) (ys : List (List AV)) (hp' : List (Nat × Row)) : Prop :=
  ∀ T, HeapOK I w hp T → ∃ A cap us F G T', y = .slice A ys.length cap ∧ Own I.S w (.l ys.flatten us) F ∧ (∀ x ∈ ys, x.length = sz) ∧ HeapOK I w hp' T' ∧ T.Perm (F ++ (T' ++ G)) ∧
    ((A = none ∧ ys = []) ∨ ys = [] ∨ ∃ b o, A = some ⟨b, o, none⟩ ∧ CellsAt w b o us)

def FirstA (st : St) (hp : List (Nat × Row)) (x : AV) (sz : Nat) (xs : List (List AV)) (hp' : List (Nat × Row)) : Prop := ∀ I w y, Rep I w (.v x y) → First I w hp y sz xs hp'
def SrcA (st : St) (hp : List (Nat × Row)) (x : AV) (sz : Nat) (xs : List (List AV)) (hp' : List (Nat × Row)) : Prop := ∀ I w y, Rep I w (.v x y) → Src I w hp y sz xs hp'

section
variable {st : St} {hp : List (Nat × Row)}

theorem first_nil {sz : Nat} : FirstA st hp (.lit (.slice none 0 0)) sz [] hp := fun I w y h T hh =>
  ⟨none, 0, [], [], [], T, h.lit_inv, Nat.le_refl _, .nil, by simp, hh, by simp, .inl ⟨rfl, trivial⟩⟩

theorem first_full {sz : Nat} {sz2 : Nat} : FirstA st hp (.sl true sz2 []) sz [] hp := fun I w y h T hh => by
  have key : ∃ a, y = .slice a 0 0 := by
    cases h with
    | std h =>
      generalize he : AV.sl true sz2 [] = v at h
      cases h with
      | @sl0 _ _ a cap h1 h2 => cases he; obtain rfl := h1 rfl; exact ⟨a, rfl⟩
      | sl h1 => cases he; obtain rfl := h1 rfl; exact ⟨_, rfl⟩
      | _ => cases he
  obtain ⟨a, rfl⟩ := key
  exact ⟨a, 0, [], [], [], T, rfl, Nat.le_refl _, .nil, by simp, hh, by simp, .inl ⟨rfl, trivial⟩⟩

theorem Own.row {S : Nat → Prop} {w : World} {b o : Nat} {as : List AV} {F : List Nat} (h : Own S w (.c b o as) F) : ∃ vs, Own S w (.l as vs) F ∧ CellsAt w b o vs := h.cells

theorem first_hw {id sz : Nat} {xs : List (List AV)} (hrow : row id hp = some (.row sz xs)) : FirstA st hp (.hw id) sz xs (rem id hp) := fun I w y h T hh => by
  obtain ⟨F, T', h1, h2, h3⟩ := hh.take hrow
  cases h with
  | std h => cases h
  | hw0 hi ha h0 hx =>
    cases h1 with
    | row0 _ _ _ hz => exact ⟨_, 0, [], [], [], T', rfl, Nat.le_refl _, .nil, by simp, h2, by simpa using h3, .inl ⟨rfl, hx⟩⟩
    | row _ ha' => rw [ha] at ha'; cases ha'
  | @hw _ cap c b o hi ha hn hb hs =>
    cases h1 with
    | row0 _ ha' => rw [ha] at ha'; cases ha'
    | row _ ha' hl hz hb' hs' hx ho =>
      rw [ha] at ha'
      cases ha'
      obtain ⟨vs, o1, o2⟩ := ho.cells
      rw [hl] at hn
      rw [hz] at hs
      refine ⟨some ⟨b, o, none⟩, cap, vs, _, [b], T', by rw [hl], hn, o1, hx, h2, ?_, .inr ⟨b, o, c, rfl, by simp, hb, hs, o2⟩⟩
      refine h3.trans (List.perm_iff_count.2 fun z => ?_)
      simp only [List.count_append, List.count_cons, List.count_nil]; omega

theorem src_nil {sz : Nat} : SrcA st hp (.lit (.slice none 0 0)) sz [] hp := fun I w y h T hh =>
  ⟨none, 0, [], [], [], T, h.lit_inv, .nil, by simp, hh, by simp, .inl ⟨rfl, rfl⟩⟩

theorem src_sl {full : Bool} {sz : Nat} {ys : List (List AV)} : SrcA st hp (.sl full sz ys) sz ys hp := fun I w y h T hh => by
  cases h with
  | std h =>
    cases h with
    | @sl0 _ _ a cap => exact ⟨a, cap, [], [], [], T, rfl, .nil, by simp, hh, by simp, .inr (.inl rfl)⟩
    | sl _ _ hx hb hc =>
      obtain ⟨vs, h1, h2, _⟩ := hc.cells
      exact ⟨_, _, vs, [], [], T, rfl, h1.l_own, hx, hh, by simp, .inr (.inr ⟨_, _, rfl, h2⟩)⟩

theorem src_hw {id sz : Nat} {ys : List (List AV)} (hrow : row id hp = some (.row sz ys)) : SrcA st hp (.hw id) sz ys (rem id hp) := fun I w y h T hh => by
  obtain ⟨A, cap, vs, F, G, T', h1, h2, h3, h4, h5, h6, h7⟩ := first_hw (st := st) hrow I w y h T hh
  refine ⟨A, cap, vs, F, G, T', h1, h3, h4, h5, h6, ?_⟩
  rcases h7 with ⟨h7, h8⟩ | ⟨b, o, c, h7, _, _, _, h8⟩
  · have : ys = [] := List.eq_nil_of_length_eq_zero (by omega)
    exact .inr (.inl this)
  · exact .inr (.inr ⟨b, o, h7, h8⟩)

theorem stays_own {S : Nat → Prop} {w : World} {a : AV} {x : Value} {F : List Nat} (h : Own S w (.v a x) F) (hs : a.stays = true) : F = [] ∧ Std S w (.v a x) := by
  cases h with
  | std h => exact ⟨rfl, h⟩
  | _ => cases hs

theorem stays_own_l {S : Nat → Prop} {w : World} {as : List AV} : ∀ {vs : List Value} {F : List Nat}, Own S w (.l as vs) F → as.all AV.stays = true → F = [] ∧ Std S w (.l as vs) := by
  induction as with
  | nil => intro vs F h _; cases h; exact ⟨rfl, .nil⟩
  | cons a as ih =>
    intro vs F h hs
    simp only [List.all_cons, Bool.and_eq_true] at hs
    cases h with
    | cons h1 h2 =>
      obtain ⟨rfl, k1⟩ := stays_own h1 hs.1
      obtain ⟨rfl, k2⟩ := ih h2 hs.2
      exact ⟨rfl, .cons k1 k2⟩

end
end Go.Ax

/- Appending to a row. -/
namespace Go.Ax
open Go.RowKit
set_option linter.unusedVariables false
set_option linter.unusedSimpArgs false

/-- What one cell holds, and is one's own or stays. -/
def AV.own1 : AV → Bool
  | .lit u => u.oneCell'
  | .sl .. | .pt _ | .osl .. | .opt _ | .fn .. => true
  | _ => false

theorem Own.one {S : Nat → Prop} {w : World} {a : AV} {x : Value} {F : List Nat} (h : Own S w (.v a x) F) (hl : a.own1 = true) : x.oneCell' = true := by
  cases h with
  | std h => cases h <;> first | rfl | exact hl | cases hl
  | agg => cases hl
  | tup => cases hl
  | osl0 => rfl
  | osl => rfl
  | opt => rfl

theorem Own.ones {S : Nat → Prop} {w : World} {as : List AV} : ∀ {xs : List Value} {F : List Nat}, Own S w (.l as xs) F → as.all AV.own1 = true → ∀ x ∈ xs, x.oneCell' = true := by
  induction as with
  | nil => intro xs F h _; cases h; simp
  | cons a as ih =>
    intro xs F h hl
    simp only [List.all_cons, Bool.and_eq_true] at hl
    cases h with
    | cons h1 h2 =>
      intro x hx
      rcases List.mem_cons.1 hx with rfl | hx
      · exact h1.one hl.1
      · exact ih h2 hl.2 x hx

theorem run_first {P : Program} {w : World} {A : Option Addr} {n m cap size : Nat} {vs : List Value} (hl : vs.length = n * size) (h : vs = [] ∨ ∃ b o, A = some ⟨b, o, none⟩ ∧ CellsAt w b o vs) :
    (Builtin.firstCells size n (.slice A m cap)).run P w = .ok vs.toArray w := by
  cases A with
  | none =>
    rcases h with rfl | ⟨_, _, h, _⟩
    · rfl
    · cases h
  | some ad =>
    simp only [Builtin.firstCells]
    rcases h with rfl | ⟨b, o, h, hc⟩
    · rw [← hl]; rfl
    · cases h; rw [← hl]; exact run_cells vs hc

section
variable {P : Program} {st : St}

theorem ok_append {o : Oper} {t t2 e e2 ty sz : Nat} {x y : Operand} {it ie i2 : TyI} {xs ys : List (List AV)} {hp1 hp2 : List (Nat × Row)} {dst : Option Nat} {pos : String} {af : Array Edge} {gd : Option (Nat × Bool)}
    (h : o = ⟨dst, .call { callee := .builtin .append, args := #[x, y], argTypes := #[t, t2] }, ty, pos, af, gd⟩) (ht : TyOK P t it)
    (hd : it.td = .td (.slice e)) (he : TyOK P e ie) (ht2 : TyOK P t2 i2) (hd2 : i2.td = .td (.slice e2)) (hsz : Nat.beq ie.size sz = true) (hx : FirstA st st.hp (st.ev x) sz xs hp1) (hy : SrcA st hp1 (st.ev y) sz ys hp2)
    (hl : ys.flatten.all AV.own1 = true) (hb : (xs.length + ys.length) * ie.bytes ≤ 140737488355328) (h63 : xs.length + ys.length ≤ 9223372036854775807) :
    OpOK P st o (.hw st.nx) ⟨st.tm, (st.nx, .row sz (xs ++ ys)) :: hp2, st.nx + 1, st.nt⟩ := by
  subst h
  obtain rfl := Nat.eq_of_beq_eq_true hsz
  refine ⟨rfl, fun S0 B w0 I a w hr => ?_⟩
  obtain ⟨T, t1, t2', t3⟩ := hr.hp
  obtain ⟨A, cap, vs, F, G, T1, e1, hcap, hown, hxs, hh1, hperm1, hA⟩ := hx I w _ (hr.ev x) T t1
  obtain ⟨A2, cap2, us, F2, G2, T2, k1, kown, kys, hh2, hperm2, kA⟩ := hy I w _ (hr.ev y) T1 hh1
  have hvl : vs.length = xs.length * ie.size := by rw [hown.l_len, flat_len hxs]
  have hul : us.length = ys.length * ie.size := by rw [kown.l_len, flat_len kys]
  have hu1 := kown.ones hl
  have hboth : Own I.S w (.l (xs ++ ys).flatten (vs ++ us)) (F ++ F2) := by rw [List.flatten_append]; exact hown.l_app kown
  have hxy : ∀ z ∈ xs ++ ys, z.length = ie.size := fun z hz => (List.mem_append.1 hz).elim (hxs z) (kys z)
  have hus : us = [] ∨ ∃ b o, A2 = some ⟨b, o, none⟩ ∧ CellsAt w b o us := by
    rcases kA with ⟨_, rfl⟩ | rfl | kA
    · left; refine List.eq_nil_of_length_eq_zero ?_; rw [hul]; simp
    · left; refine List.eq_nil_of_length_eq_zero ?_; rw [hul]; simp
    · exact .inr kA
  have hvs : vs = [] ∨ ∃ b o, A = some ⟨b, o, none⟩ ∧ CellsAt w b o vs := by
    rcases hA with ⟨h0, _⟩ | ⟨b, o, c, h1, _, _, _, h2⟩
    · left; refine List.eq_nil_of_length_eq_zero ?_; rw [hvl, show xs.length = 0 from by omega]; simp
    · exact .inr ⟨b, o, h1, h2⟩
  have hperm : T.Perm (F ++ F2 ++ (T2 ++ (G2 ++ G))) := by
    refine hperm1.trans (List.perm_iff_count.2 fun z => ?_)
    have := List.perm_iff_count.1 hperm2 z
    simp only [List.count_append] at this ⊢
    omega
  obtain ⟨hd2', _⟩ := ht2
  rw [hd2] at hd2'
  have hu2 : P.underlying t2 = some (.slice e2) := hd2'.1
  have hzl := he.2.1
  have hsize := fun w => run_size (P := P) (w := w) he
  obtain ⟨_, _, info, hinfo, hisz, hiby, z, hz, hzc⟩ := he
  have hinfo2 : ∀ w, (typeInfo e).run P w = .ok info w := fun w => by simp only [typeInfo, Sem.run_bind, run_program, Result.andThen_ok, hinfo, Sem.run_pure]
  have hzero : ∀ w, (zeroValue e).run P w = .ok z w := fun w => by simp only [zeroValue, hinfo2, Sem.run_bind, Result.andThen_ok, hz, Sem.run_pure]
  by_cases hfit : xs.length + ys.length ≤ cap
  · have hfit' : xs.length + ys.length ≤ cap := hfit
    have hnx : I.nx = st.nx := hr.nx
    have hn : ∀ at_, (I.add at_ (xs ++ ys).length ie.size).nx = st.nx + 1 := fun _ => by show I.nx + 1 = _; rw [hnx]
    have hat : ∀ at_, (I.add at_ (xs ++ ys).length ie.size).at_ st.nx = at_ := fun _ => by simp [Interp.add, hnx]
    have hln : ∀ at_, (I.add at_ (xs ++ ys).length ie.size).ln st.nx = (xs ++ ys).length := fun _ => by simp [Interp.add, hnx]
    have hszz : ∀ at_, (I.add at_ (xs ++ ys).length ie.size).sz st.nx = ie.size := fun _ => by simp [Interp.add, hnx]
    have hnew := run_first (P := P) (w := w) (A := A2) (n := ys.length) (m := ys.length) (cap := cap2) hul hus
    have hrun : ∀ w', (match A with | some a => storeCells (a.add (xs.length * ie.size)) us | none => pure ()).run P w = .ok () w' →
        (execOp a.eval ⟨dst, .call { callee := .builtin .append, args := #[x, y], argTypes := #[t, t2] }, ty, pos, af, gd⟩).run P w = .ok (.value (.slice A (xs.length + ys.length) cap)) w' := by
      intro w' hw'
      cases A with
      | none =>
        simp at hw'
        subst hw'
        simp [execOp, resolve, invoke, builtin, Builtin.append_, e1, k1, run_under (ht.sliceE hd), run_under hu2, hsize, hinfo2, hzero, Builtin.lenOf, hfit, hnew]
      | some ad =>
        simp at hw'
        simp [execOp, resolve, invoke, builtin, Builtin.append_, e1, k1, run_under (ht.sliceE hd), run_under hu2, hsize, hinfo2, hzero, Builtin.lenOf, hfit, hnew, hw']
    rcases hA with ⟨h0, _⟩ | ⟨b, of, c, rfl, hbG, hblk, hroom, hcv⟩
    · obtain rfl : xs = [] := List.eq_nil_of_length_eq_zero (by omega)
      obtain rfl : ys = [] := List.eq_nil_of_length_eq_zero (by omega)
      obtain rfl : cap = 0 := h0
      obtain rfl : us = [] := List.eq_nil_of_length_eq_zero (by rw [hul]; simp)
      cases hown
      cases kown
      have he : Ext I w (I.add none ([] ++ [] : List (List AV)).length ie.size) w := .add _ _ _ (fun _ _ => rfl) (.refl w)
      refine ⟨_, w, I.add none ([] ++ [] : List (List AV)).length ie.size, hrun w ?_, ?_, ?_, fun hk => by cases hk⟩
      · cases A <;> rfl
      · have := hr.next he (Below.refl B w) (fun b h => .inl h) hr.ss (hp := (st.nx, .row ie.size ([] ++ [])) :: hp2) ⟨_, .cons (.row0 (by rw [hn]; omega) (hat _) (hln _) (hszz _)) (hh2.mono he fun _ _ => rfl), ?_, fun z hz => t3 z (hperm.mem_iff.2 ?_)⟩
        · rw [hn] at this; exact this
        · have := hperm.nodup_iff.1 t2'
          simp only [List.nil_append] at this ⊢
          exact (List.nodup_append.1 this).1
        · simp only [List.nil_append, List.mem_append] at hz ⊢
          exact .inl hz
      · exact .hw0 (by rw [hn]; omega) (hat _) (hln _) trivial
    · obtain ⟨w', r1, r2⟩ := run_stores (P := P) (b := b) (o := of + xs.length * ie.size) us 0 w c hblk (by
        rw [hul]
        have : (xs.length + ys.length) * ie.size ≤ cap * ie.size := Nat.mul_le_mul_right _ hfit'
        rw [Nat.add_mul] at this; omega) hu1
      rw [Nat.add_zero] at r2
      have hbT := t3 b (hperm.mem_iff.2 (by simp [hbG]))
      have hnd := hperm.nodup_iff.1 t2'
      have hne : ∀ z ∈ F ++ F2 ++ T2, w'.heap[z]? = w.heap[z]? := by
        intro z hz
        refine r2.other z fun ez => ?_
        subst ez
        have h1 : (F ++ F2 ++ (T2 ++ (G2 ++ G))).count z ≤ 1 := List.nodup_iff_count.1 hnd z
        have h2 : 0 < (F ++ F2 ++ T2).count z := List.count_pos_iff.2 hz
        have h3 : 0 < G.count z := List.count_pos_iff.2 hbG
        simp only [List.count_append] at h1 h2
        omega
      have he : Ext I w (I.add (some (b, of)) (xs ++ ys).length ie.size) w' := .add _ _ _ (fun z hz => r2.other z fun e => hbT.2.1 (e ▸ hz)) r2.lasts
      obtain ⟨c', hb', hs'⟩ := r2.blk c hblk
      have hcells : CellsAt w' b of (vs ++ us) := by
        refine CellsAt.app (fun j v hj => ?_) ?_
        · rw [r2.cell _ (by have := (List.getElem?_eq_some_iff.1 hj).1; omega)]; exact hcv j v hj
        · rw [hvl]; exact r2.new
      have hfin : of + cap * ie.size ≤ c'.size := by omega
      have hle : (xs ++ ys).length * ie.size ≤ cap * ie.size := Nat.mul_le_mul_right _ (by simpa using hfit')
      have hrow : RowOK (I.add (some (b, of)) (xs ++ ys).length ie.size) w' st.nx (.row ie.size (xs ++ ys)) (b :: (F ++ F2)) :=
        .row (by rw [hn]; omega) (hat _) (hln _) (hszz _) hb' (by omega) hxy (Own.ofCells (hboth.l_mono he fun z hz => hne z (by simp only [List.mem_append] at hz ⊢; exact .inl hz)) hcells)
      refine ⟨_, w', I.add (some (b, of)) (xs ++ ys).length ie.size, hrun w' ?_, ?_, ?_, fun hk => by cases hk⟩
      · show (storeCells ((⟨b, of, none⟩ : Addr).add (xs.length * ie.size)) us).run P w = _
        rw [addr_add]; exact r1
      · have := hr.next he (r2.below hbT.1) (fun b h => .inl h) (fun z hz => by rw [r2.size]; exact hr.ss z hz) (hp := (st.nx, .row ie.size (xs ++ ys)) :: hp2)
          ⟨_, .cons hrow (hh2.mono he fun z hz => hne z (by simp [hz])), ?_, fun z hz => ?_⟩
        · rw [hn] at this; exact this
        · refine List.nodup_iff_count.2 fun z => ?_
          have h1 := List.nodup_iff_count.1 hnd z
          have h3 : z = b → 0 < G.count z := fun e => by subst e; exact List.count_pos_iff.2 hbG
          simp only [List.count_append, List.count_cons, beq_iff_eq] at h1 ⊢
          split
          · have := h3 (by simp_all); omega
          · omega
        · rw [r2.size]
          refine t3 z (hperm.mem_iff.2 ?_)
          simp only [List.mem_append, List.mem_cons] at hz ⊢
          rcases hz with (h | h | h) | h
          · subst h; simp [hbG]
          all_goals simp [h]
      · have := Rep.hw (I := I.add (some (b, of)) (xs ++ ys).length ie.size) (w := w') (id := st.nx) (cap := cap) (c := c') (b := b) (o := of) (by rw [hn]; omega) (hat _) (by rw [hln]; simpa using hfit') hb' (by rw [hszz]; exact hfin)
        rw [hln] at this
        rw [show (AV.hw st.nx) = AV.hw st.nx from rfl, ← List.length_append]; exact this
  · let nc := grownCap w (xs.length + ys.length) cap e
    have hge : xs.length + ys.length ≤ nc := grownCap_ge w _ _ e
    let cs : Array Value := vs.toArray ++ us.toArray ++ Builtin.zeroCells z.cells (nc - (xs.length + ys.length))
    let w1 : World := { w with drawn := w.drawn + 1 }
    have hr1 : Rel S0 B w0 I st a w1 := hr.drawn _
    have he1 : Ext I w I w1 := ⟨fun _ h => h, fun _ _ => rfl, Nat.le_refl _, fun _ _ => rfl, fun _ _ => rfl, fun _ _ => rfl, fun b c h => ⟨c, h, rfl⟩⟩
    have hcs : cs.toList = (vs ++ us) ++ cs.toList.drop (vs ++ us).length := by
      simp only [cs, Array.toList_append]
      rw [List.drop_left]
    have hcsz : nc * ie.size ≤ cs.size := by
      simp only [cs, Array.size_append, List.size_toArray, size_zeroCells, hzc, hvl, hul, hzl, ← Nat.add_mul]
      exact Nat.mul_le_mul_right _ (by omega)
    obtain ⟨g1, g2⟩ := hr1.newRow (fun b hb => t3 b hb) t2' (hh2.mono he1 fun _ _ => rfl) (F := F ++ F2) ⟨G2 ++ G, hperm⟩ hxy (hboth.l_mono he1 fun _ _ => rfl) hcs e nc (by simpa using hge) hcsz
    refine ⟨_, _, _, ?_, g1, g2, fun hk => by cases hk⟩
    have h63' : ¬ (9223372036854775807 < ((xs.length : Int) + (ys.length : Int))) := by omega
    have h48' : ¬ (281474976710656 < Builtin.nextslicecap (xs.length + ys.length) cap * info.bytes) := by
      have := growslice_fits (need := xs.length + ys.length) (old := cap) (bytes := ie.bytes) (by omega) hb
      rw [hiby]; omega
    have hold := run_first (P := P) (w := w1) (A := A) (n := xs.length) (m := xs.length) (cap := cap) hvl hvs
    have hnew := run_first (P := P) (w := w1) (A := A2) (n := ys.length) (m := ys.length) (cap := cap2) hul hus
    have hd1 : w.drew = w1 := rfl
    simp [execOp, resolve, invoke, builtin, Builtin.append_, e1, k1, run_under (ht.sliceE hd), run_under hu2, hsize, hinfo2, hzero, Builtin.lenOf, hfit, h63', h48', Question.forced, hd1, hold, hnew, newRow]
    exact ⟨rfl, by simp only [cs, Array.append_assoc]; rfl⟩
end
end Go.Ax

/- One's own rows, read; closures made. -/
namespace Go.Ax
open Go.RowKit
set_option linter.unusedVariables false
set_option linter.unusedSimpArgs false

/-- The sizes of a struct's fields, found. -/
class SzF (P : Program) (fs : List (Nat × Nat)) (ss : outParam (List Nat)) : Prop where
  ok : Sizes P fs ss

instance szNil {P : Program} : SzF P [] [] := ⟨.nil⟩
instance szCons {P : Program} {off t : Nat} {i : TyI} {fs : List (Nat × Nat)} {ss : List Nat} [h1 : TyF P t i] [h2 : SzF P fs ss] : SzF P ((off, t) :: fs) (i.size :: ss) := ⟨.cons h1.ok h2.ok⟩

theorem Own.l_drop {S : Nat → Prop} {w : World} {as : List AV} {vs : List Value} {F : List Nat} (h : Own S w (.l as vs) F) (n : Nat) : ∃ G, Own S w (.l (as.drop n) (vs.drop n)) G := by
  induction n generalizing as vs F with
  | zero => exact ⟨F, by simpa using h⟩
  | succ n ih =>
    cases as with
    | nil => cases h; exact ⟨[], .nil⟩
    | cons a as => cases h with | cons _ h2 => simpa using ih h2

theorem Own.l_take {S : Nat → Prop} {w : World} {as : List AV} {vs : List Value} {F : List Nat} (h : Own S w (.l as vs) F) (n : Nat) : ∃ G, Own S w (.l (as.take n) (vs.take n)) G := by
  induction n generalizing as vs F with
  | zero => exact ⟨[], by simpa using (Own.nil (S := S) (w := w))⟩
  | succ n ih =>
    cases as with
    | nil => cases h; exact ⟨[], .nil⟩
    | cons a as =>
      cases h with
      | cons h1 h2 =>
        obtain ⟨G, hG⟩ := ih h2
        exact ⟨_, by simpa using Own.cons h1 hG⟩

theorem Own.rep {I : Interp} {w : World} {a : AV} {x : Value} {F : List Nat} (h : Own I.S w (.v a x) F) (hp : a.plain = true) : Rep I w (.v a x) := (show Leaf I w a x F from .inr h).rep hp

theorem Own.l_rep {I : Interp} {w : World} {as : List AV} : ∀ {vs : List Value} {F : List Nat}, Own I.S w (.l as vs) F → as.all AV.plain = true → Rep I w (.l as vs) := by
  induction as with
  | nil => intro vs F h _; cases h; exact .nil
  | cons a as ih =>
    intro vs F h hp
    simp only [List.all_cons, Bool.and_eq_true] at hp
    cases h with | cons h1 h2 => exact .cons (h1.rep hp.1) (ih h2 hp.2)

theorem CellsAt.drop {w : World} {b o : Nat} {vs : List Value} (h : CellsAt w b o vs) (n : Nat) : CellsAt w b (o + n) (vs.drop n) := by
  intro j v hj
  rw [List.getElem?_drop] at hj
  have := h _ v hj
  rw [show o + n + j = o + (n + j) from by omega]; exact this

theorem CellsAt.take {w : World} {b o : Nat} {vs : List Value} (h : CellsAt w b o vs) (n : Nat) : CellsAt w b o (vs.take n) := by
  intro j v hj
  rw [List.getElem?_take] at hj
  split at hj
  · exact h j v hj
  · cases hj

theorem Rep.hw_inv {I : Interp} {w : World} {id : Nat} {x : Value} (h : Rep I w (.v (.hw id) x)) : id < I.nx ∧ ((I.at_ id = none ∧ I.ln id = 0 ∧ ∃ a, x = .slice a 0 0) ∨
    ∃ b o cap c, I.at_ id = some (b, o) ∧ I.ln id ≤ cap ∧ Blk w b c ∧ o + cap * I.sz id ≤ c.size ∧ x = .slice (some ⟨b, o, none⟩) (I.ln id) cap) := by
  cases h with
  | std h => cases h
  | hw0 hi ha h0 _ => exact ⟨hi, .inl ⟨ha, h0, _, rfl⟩⟩
  | hw hi ha hn hb hs => exact ⟨hi, .inr ⟨_, _, _, _, ha, hn, hb, hs, rfl⟩⟩

theorem RowOK.ln_eq {I : Interp} {w : World} {id sz : Nat} {xs : List (List AV)} {F : List Nat} (h : RowOK I w id (.row sz xs) F) : I.ln id = xs.length ∧ I.sz id = sz := by
  cases h with
  | row0 _ _ h1 h2 => exact ⟨h1, h2⟩
  | row _ _ h1 h2 => exact ⟨h1, h2⟩

theorem RowOK.cells {I : Interp} {w : World} {id sz b o : Nat} {xs : List (List AV)} {F : List Nat} (h : RowOK I w id (.row sz xs) F) (ha : I.at_ id = some (b, o)) :
    (∀ x ∈ xs, x.length = sz) ∧ ∃ vs G, Own I.S w (.l xs.flatten vs) G ∧ CellsAt w b o vs := by
  cases h with
  | row0 _ ha' => rw [ha] at ha'; cases ha'
  | row _ ha' _ _ _ _ hx ho =>
    rw [ha] at ha'
    cases ha'
    obtain ⟨vs, h1, h2⟩ := ho.cells
    exact ⟨hx, vs, _, h1, h2⟩

theorem Rep.hq_inv {I : Interp} {w : World} {id i off : Nat} {x : Value} (h : Rep I w (.v (.hq id i off) x)) : ∃ b o, id < I.nx ∧ I.at_ id = some (b, o) ∧ x = .pointer (some ⟨b, o + i * I.sz id + off, none⟩) := by
  cases h with
  | std h => cases h
  | hq hi ha => exact ⟨_, _, hi, ha, rfl⟩

section
variable {P : Program} {st : St}

theorem rd_nilCheck_hq {o : Oper} {x : Operand} {id i off : Nat} (h : o.op = .nilCheck x) (hx : st.ev x = .hq id i off) : Reads P st o (.hq id i off) := by
  intro S0 B w0 I a w hr
  have h1 := hr.ev x
  have h2 := h1
  rw [hx] at h1
  obtain ⟨b, of, _, _, e⟩ := h1.hq_inv
  rw [hx, e] at h2
  exact ⟨_, fun w' hw => by simp [execOp, h, e], h2⟩

theorem rd_len_hw {o : Oper} {t e id sz : Nat} {x : Operand} {it : TyI} {xs : List (List AV)} (h : o.op = .call { callee := .builtin .len, args := #[x], argTypes := #[t] }) (ht : TyOK P t it)
    (hd : it.td = .td (.slice e)) (hx : st.ev x = .hw id) (hrow : row id st.hp = some (.row sz xs)) : Reads P st o (.lit (.int .i64 xs.length)) := by
  refine rd_pure fun S0 B w0 I a w1 hr w => ?_
  have h1 := hr.ev x
  rw [hx] at h1
  obtain ⟨T, k1, _, _⟩ := hr.hp
  obtain ⟨F, T', g1, _, _⟩ := k1.take hrow
  have hln := g1.ln_eq.1
  generalize ex : a.eval x = y at h1
  have : ∃ ad cap, y = .slice ad xs.length cap := by
    obtain ⟨_, ⟨_, h0, ad, rfl⟩ | ⟨b, of, cap, c, _, _, _, _, rfl⟩⟩ := h1.hw_inv
    · rw [h0] at hln; rw [← hln]; exact ⟨_, _, rfl⟩
    · rw [hln]; exact ⟨_, _, rfl⟩
  obtain ⟨ad, cap, rfl⟩ := this
  simp [execOp, h, ex, resolve, invoke, builtin, Builtin.len_, goInt, run_under (ht.sliceE hd)]

theorem rd_index_hw {o : Oper} {t e id sz : Nat} {x ix : Operand} {it ie : TyI} {xs : List (List AV)} {kk : IntKind} {n : Int} (h : o.op = .indexAddr t x ix) (ht : TyOK P t it)
    (hd : it.td = .td (.slice e)) (he : TyOK P e ie) (hx : st.ev x = .hw id) (hrow : row id st.hp = some (.row sz xs)) (hsz : Nat.beq ie.size sz = true) (hi : st.ev ix = .lit (.int kk n)) (h0 : 0 ≤ n) (hg : n.toNat < xs.length) : Reads P st o (.hq id n.toNat 0) := by
  intro S0 B w0 I a w hr
  have h1 := hr.ev x
  have h2 := hr.ev ix
  rw [hx] at h1
  rw [hi] at h2
  have hsz' := Nat.eq_of_beq_eq_true hsz
  obtain ⟨T, k1, _, _⟩ := hr.hp
  obtain ⟨F, T', g1, _, _⟩ := k1.take hrow
  obtain ⟨hln, hszz⟩ := g1.ln_eq
  obtain ⟨hid, ⟨_, h0', ad, _⟩ | ⟨b, of, cap, c, ha, _, _, _, ex⟩⟩ := h1.hw_inv
  · omega
  · refine ⟨_, fun w' hw => ?_, .hq hid ha⟩
    have hlt2 : n < (I.ln id : Int) := by omega
    simp only [execOp, h, ex, h2.lit_inv, Instr.indexAt, asIntOf, Sem.run_bind, run_under (ht.sliceE hd), Result.andThen_ok, Sem.run_pure, h0, hlt2, and_self, if_true, run_size he, hsz', addr_add, decide_eq_true_eq, hszz, Nat.add_zero]

theorem rd_field_hq {o : Oper} {t j off ft id n of : Nat} {x : Operand} {i ift : TyI} {fs : List (Nat × Nat)} (h : o.op = .fieldAddr t x j) (ht : TyOK P t i) (hd : i.td = .agg fs) (hj : fs[j]? = some (off, ft))
    (hft : TyOK P ft ift) (hs : Nat.beq ift.size 0 = false) (hx : st.ev x = .hq id n of) : Reads P st o (.hq id n (of + off)) := by
  intro S0 B w0 I a w hr
  have h1 := hr.ev x
  rw [hx] at h1
  obtain ⟨fields, h2, fd, h3, rfl, rfl⟩ := ht.field hd hj
  obtain ⟨b, o', hid, ha, e⟩ := h1.hq_inv
  refine ⟨_, fun w' hw => ?_, .hq hid ha⟩
  simp only [execOp, h, e, Instr.fieldAt, Instr.sureAddr, Sem.run_bind, run_under h2, Result.andThen_ok, h3, Sem.run_pure, run_fieldPlace (t := t) hft (Nat.ne_of_beq_eq_false hs), Nat.add_assoc]

theorem rd_loads_hq {o : Oper} {t id n off sz : Nat} {x : Operand} {i : TyI} {xs : List (List AV)} {cs : List AV} (h : o.op = .load t x) (ht : TyOK P t i) (ha : i.isAgg = true) (hx : st.ev x = .hq id n off)
    (hrow : row id st.hp = some (.row sz xs)) (hg : xs[n]? = some cs) (hn : Nat.ble (off + i.size) cs.length = true) (hp : ((cs.drop off).take i.size).all AV.plain = true) : Reads P st o (.agg ((cs.drop off).take i.size)) := by
  intro S0 B w0 I a w hr
  have h1 := hr.ev x
  rw [hx] at h1
  have hn' := Nat.le_of_ble_eq_true hn
  obtain ⟨b, of, hi, hat, e⟩ := h1.hq_inv
  obtain ⟨T, k1, k2, k3⟩ := hr.hp
  obtain ⟨F, T', g1, g2, g3⟩ := k1.take hrow
  obtain ⟨hxs, vs, G, ho, hc⟩ := g1.cells hat
  obtain ⟨G2, ho2⟩ := ho.l_drop (n * sz + off)
  have e1 : (xs.flatten.drop (n * sz + off)).take i.size = (cs.drop off).take i.size := by
    rw [← List.drop_drop, flatten_at hxs hg, List.drop_append_of_le_length (by omega), List.take_append_of_le_length (by rw [List.length_drop]; omega)]
  obtain ⟨G3, ho3⟩ := ho2.l_take i.size
  have hc3 := (hc.drop (n * sz + off)).take i.size
  rw [e1] at ho3
  have hlen : ((vs.drop (n * sz + off)).take i.size).length = i.size := by rw [ho3.l_len, List.length_take, List.length_drop]; omega
  refine ⟨.agg ((vs.drop (n * sz + off)).take i.size).toArray, fun w' hw0 => ?_, .agg (ho3.l_rep hp)⟩
  have hw : Same _ w' := hw0.resolve_left (by rw [h]; simp [memFree])
  have := run_cells (P := P) _ (hc3.same hw)
  rw [hlen, ← Nat.add_assoc] at this
  simp only [execOp, h, e, Instr.loadAt, Instr.sureAddr, loadVar, Sem.run_bind, Sem.run_pure, Result.andThen_ok, run_isAgg ht, ha, if_true, run_size ht, g1.ln_eq.2, this]

theorem rd_load_hq {o : Oper} {t id n off sz : Nat} {x : Operand} {i : TyI} {xs : List (List AV)} {cs : List AV} {v : AV} {r : List AV} (h : o.op = .load t x) (ht : TyOK P t i) (ha : i.isAgg = false) (hx : st.ev x = .hq id n off)
    (hrow : row id st.hp = some (.row sz xs)) (hg : xs[n]? = some cs) (hd : cs.drop off = v :: r) (hp : v.plain = true) : Reads P st o v := by
  intro S0 B w0 I a w hr
  have h1 := hr.ev x
  rw [hx] at h1
  obtain ⟨b, of, hi, hat, e⟩ := h1.hq_inv
  obtain ⟨T, k1, k2, k3⟩ := hr.hp
  obtain ⟨F, T', g1, g2, g3⟩ := k1.take hrow
  obtain ⟨hxs, vs, G, ho, hc⟩ := g1.cells hat
  obtain ⟨G2, ho2⟩ := ho.l_drop (n * sz + off)
  have hlt : off < cs.length := by
    rcases Nat.lt_or_ge off cs.length with h | h
    · exact h
    · rw [List.drop_eq_nil_of_le h] at hd; cases hd
  have e1 : xs.flatten.drop (n * sz + off) = v :: (r ++ (xs.drop (n + 1)).flatten) := by
    rw [← List.drop_drop, flatten_at hxs hg, List.drop_append_of_le_length (by omega), hd]; rfl
  have hc3 := hc.drop (n * sz + off)
  rw [e1] at ho2
  generalize vs.drop (n * sz + off) = us at ho2 hc3
  cases ho2 with
  | cons h1 _ =>
    refine ⟨_, fun w' hw0 => ?_, h1.rep hp⟩
    have hw : Same _ w' := hw0.resolve_left (by rw [h]; simp [memFree])
    have hcell := hw.cell (hc3 0 _ rfl)
    rw [Nat.add_zero, ← Nat.add_assoc] at hcell
    simp only [execOp, h, e, Instr.loadAt, Instr.sureAddr, loadVar, Sem.run_bind, Sem.run_pure, Result.andThen_ok, run_isAgg ht, ha, if_false, Bool.false_eq_true, run_load, g1.ln_eq.2, hcell]

theorem rd_makeFunc {o : Oper} {g : Nat} {xs : Array Operand} {cs : List AV} (h : o.op = .makeFunc (.func g) #[] xs) (hx : xs.toList.map st.ev = cs) : Reads P st o (.fn g cs) := by
  intro S0 B w0 I a w hr
  have h1 := hr.evs xs.toList
  rw [hx] at h1
  refine ⟨.func (.func g) #[] (xs.toList.map a.eval).toArray, fun w' hw => ?_, .fn h1⟩
  have e0 : xs.map a.eval = (xs.toList.map a.eval).toArray := by rw [← Array.toList_map, Array.toArray_toList]
  simp [execOp, h, Instr.makeFunc, e0]

theorem rd_min {o : Oper} {x y : Operand} {ts : Array Nat} {k : IntKind} {m n : Int} (h : o.op = .call { callee := .builtin .min, args := #[x, y], argTypes := ts }) (hx : st.ev x = .lit (.int k m)) (hy : st.ev y = .lit (.int k n)) :
    Reads P st o (.lit (.int k (min m n))) := by
  refine rd_pure fun S0 B w0 I a w1 hr w => ?_
  have h1 := hr.ev x
  have h2 := hr.ev y
  rw [hx] at h1; rw [hy] at h2
  have e : (if n < m then n else m) = min m n := by split <;> omega
  simp [execOp, h, h1.lit_inv, h2.lit_inv, resolve, invoke, builtin, Builtin.min_, Builtin.min2, e]
end
end Go.Ax

/- Arguments that say less; rows that are one's own no more. -/
namespace Go.Ax
open Go.RowKit
set_option linter.unusedVariables false
set_option linter.unusedSimpArgs false

/-- Whatever the first tells, the second tells. -/
def Le (a b : AV) : Prop := ∀ S w x, Std S w (.v a x) → Std S w (.v b x)

inductive LeL : List AV → List AV → Prop
  | nil : LeL [] []
  | cons {a b as bs} : Le a b → LeL as bs → LeL (a :: as) (b :: bs)

theorem Le.refl (a : AV) : Le a a := fun _ _ _ h => h
theorem Le.any (a : AV) : Le a .any := fun _ _ _ _ => .any _
theorem Le.none {f : Bool} {sz : Nat} : Le (.lit (.slice none 0 0)) (.sl f sz []) := fun _ _ _ h => by
  rw [h.lit_inv]; exact .sl0 (fun _ => rfl) (fun _ => rfl)
theorem Le.full {sz : Nat} {xs : List (List AV)} : Le (.sl true sz xs) (.sl false sz xs) := fun S w x h => by
  cases h with
  | sl0 h1 h2 => exact .sl0 (fun h => by cases h) h2
  | sl h1 h2 h3 h4 h5 => exact .sl (fun h => by cases h) h2 h3 h4 h5

theorem LeL.refl : ∀ (as : List AV), LeL as as
  | [] => .nil
  | a :: as => .cons (Le.refl a) (LeL.refl as)

theorem LeL.std {S : Nat → Prop} {w : World} {as bs : List AV} (h : LeL as bs) : ∀ {xs : List Value}, Std S w (.l as xs) → Std S w (.l bs xs) := by
  induction h with
  | nil => intro xs h; exact h
  | cons h1 _ ih => intro xs h; cases h with | cons k1 k2 => exact .cons (h1 _ _ _ k1) (ih k2)

theorem Le.agg {as bs : List AV} (h : LeL as bs) : Le (.agg as) (.agg bs) := fun _ _ _ k => by
  cases k with | agg k => exact .agg (h.std k)

theorem Good.le {P : Program} {f : Nat} {as bs : List AV} {Q : AV → Prop} (h : Good P f bs Q) (hl : LeL as bs) : Good P f as Q :=
  fun S0 w vs h1 h2 => h S0 w vs h1 (hl.std h2)

theorem Good.imp {P : Program} {f : Nat} {as : List AV} {Q R : AV → Prop} (h : Good P f as Q) (hq : ∀ r, Q r → R r) : Good P f as R :=
  fun S0 w vs h1 h2 => (h S0 w vs h1 h2).mono fun _ _ ⟨r, h3, h4⟩ => ⟨r, hq r h3, h4⟩

section
variable {P : Program} {f : Nat} {Q : Post} {k : List Item} {st st' : St} {A : Array Oper} {i : Nat} {rest : List Nat}

end
end Go.Ax
