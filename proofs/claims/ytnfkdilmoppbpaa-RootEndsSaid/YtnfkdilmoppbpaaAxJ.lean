/- A call of a function that is told: what it hands back becomes one's own. -/
import Derived.Test.YtnfkdilmoppbpaaAxI
namespace Go.Ax
open Go.RowKit
set_option linter.unusedVariables false
set_option linter.unusedSimpArgs false

/-- What stays, by sight. -/
def AV.stays : AV → Bool
  | .lit _ | .sl .. | .pt _ | .any => true
  | _ => false

def AV.std : AV → Bool
  | .agg cs => cs.all AV.stays
  | v => v.stays

theorem Rep.l_std {I : Interp} {w : World} {as : List AV} {xs : List Value} (h : Rep I w (.l as xs)) (hc : as.all AV.stays = true) : Std I.S w (.l as xs) := by
  induction as generalizing xs with
  | nil => cases h; exact .nil
  | cons a as ih =>
    cases h with
    | cons h1 h2 =>
      simp only [List.all_cons, Bool.and_eq_true] at hc
      exact .cons (h1.std_of (by cases a <;> simp_all [AV.stays, AV.closed])) (ih h2 hc.2)

theorem Rep.std_std {I : Interp} {w : World} {a : AV} {x : Value} (h : Rep I w (.v a x)) (hc : a.std = true) : Std I.S w (.v a x) := by
  cases a with
  | agg cs =>
    obtain ⟨vs, rfl, h2⟩ := h.agg_inv
    exact .agg (h2.l_std hc)
  | _ => exact h.std_of (by simp_all [AV.std, AV.stays, AV.closed])

theorem Rep.l_stds {I : Interp} {w : World} {as : List AV} {xs : List Value} (h : Rep I w (.l as xs)) (hc : as.all AV.std = true) : Std I.S w (.l as xs) := by
  induction as generalizing xs with
  | nil => cases h; exact .nil
  | cons a as ih =>
    cases h with
    | cons h1 h2 =>
      simp only [List.all_cons, Bool.and_eq_true] at hc
      exact .cons (h1.std_std hc.1) (ih h2 hc.2)

theorem Std.l_own {S : Nat → Prop} {w : World} {as : List AV} {xs : List Value} (h : Std S w (.l as xs)) : Own S w (.l as xs) [] := by
  induction as generalizing xs with
  | nil => cases h; exact .nil
  | cons a as ih => cases h with | cons h1 h2 => exact .cons (F := []) (G := []) (.std h1) (ih h2)

def imp1 (nx : Nat) : AV → AV × List (Nat × Row) × Nat
  | .osl sz xs => (.hw nx, [(nx, .row sz xs)], nx + 1)
  | .opt cs => (.hp nx 0, [(nx, .var cs)], nx + 1)
  | v => (v, [], nx)

def impL (nx : Nat) : List AV → List AV × List (Nat × Row) × Nat
  | [] => ([], [], nx)
  | a :: as => ((imp1 nx a).1 :: (impL (imp1 nx a).2.2 as).1, (imp1 nx a).2.1 ++ (impL (imp1 nx a).2.2 as).2.1, (impL (imp1 nx a).2.2 as).2.2)

def imp2 (nx : Nat) : AV → AV × List (Nat × Row) × Nat
  | .agg cs => (.agg (impL nx cs).1, (impL nx cs).2)
  | v => imp1 nx v

def impT (nx : Nat) : List AV → List AV × List (Nat × Row) × Nat
  | [] => ([], [], nx)
  | a :: as => ((imp2 nx a).1 :: (impT (imp2 nx a).2.2 as).1, (imp2 nx a).2.1 ++ (impT (imp2 nx a).2.2 as).2.1, (impT (imp2 nx a).2.2 as).2.2)

/-- What was handed back, as an entry of the heap where it is one's own. -/
def imp (nx : Nat) : AV → AV × List (Nat × Row) × Nat
  | .tup cs => (.tup (impT nx cs).1, (impT nx cs).2)
  | v => imp2 nx v

def AV.flat : AV → Bool
  | .agg _ | .tup _ => false
  | _ => true
def AV.flat2 : AV → Bool
  | .agg cs => cs.all AV.flat
  | .tup _ => false
  | _ => true
def AV.flat3 : AV → Bool
  | .tup cs => cs.all AV.flat2
  | v => v.flat2

/-- The standing in which what was handed back has its entries. -/
def Imps (I : Interp) (w : World) (p : List (Nat × Row) × Nat) (F : List Nat) (q : Ask) : Prop :=
  ∃ I', Ext I w I' w ∧ I'.S = I.S ∧ I'.nx = p.2 ∧ Rep I' w q ∧ ∃ F', HeapOK I' w p.1 F' ∧ F'.Perm F

theorem HeapOK.app {I : Interp} {w : World} {hp hp2 : List (Nat × Row)} {T T2 : List Nat} (h : HeapOK I w hp T) (h2 : HeapOK I w hp2 T2) : HeapOK I w (hp ++ hp2) (T ++ T2) := by
  induction h with
  | nil => exact h2
  | cons h _ ih => rw [List.append_assoc]; exact .cons h ih

theorem imp1_ok {I : Interp} {w : World} {a : AV} {x : Value} {F : List Nat} (h : Own I.S w (.v a x) F) (hf : a.flat = true) : Imps I w (imp1 I.nx a).2 F (.v (imp1 I.nx a).1 x) := by
  cases h with
  | std h =>
    have : imp1 I.nx a = (a, [], I.nx) := by cases a <;> first | rfl | cases h
    rw [this]
    exact ⟨I, .refl I w, rfl, rfl, .std h, [], .nil, List.Perm.refl _⟩
  | agg => cases hf
  | tup => cases hf
  | @osl0 sz ad ha0 =>
    refine ⟨I.add none 0 sz, .add _ _ _ (fun _ _ => rfl) (.refl w), rfl, rfl, .hw0 (by show I.nx < I.nx + 1; omega) (by simp [Interp.add]) (by simp [Interp.add]) ha0, [], ?_, List.Perm.refl _⟩
    exact .cons (F := []) (T := []) (.row0 (by show I.nx < I.nx + 1; omega) (by simp [Interp.add]) (by simp [Interp.add]) (by simp [Interp.add])) .nil
  | @osl sz xs b o cap c F hb1 hc1 hx1 hs1 ho1 =>
    have hln : (I.add (some (b, o)) xs.length sz).ln I.nx = xs.length := by simp [Interp.add]
    refine ⟨I.add (some (b, o)) xs.length sz, .add _ _ _ (fun _ _ => rfl) (.refl w), rfl, rfl, ?_, (b :: F) ++ [], ?_, by simp⟩
    · have := Rep.hw (I := I.add (some (b, o)) xs.length sz) (w := w) (id := I.nx) (cap := cap) (c := c) (b := b) (o := o) (by show I.nx < I.nx + 1; omega) (by simp [Interp.add]) (by rw [hln]; exact hc1) hb1
        (by simp only [Interp.add, if_true]; exact hs1)
      rw [hln] at this; exact this
    · refine .cons (.row (by show I.nx < I.nx + 1; omega) (by simp [Interp.add]) hln (by simp [Interp.add]) hb1 ?_ hx1 ho1) .nil
      have : xs.length * sz ≤ cap * sz := Nat.mul_le_mul_right _ hc1
      omega
  | @opt cs b o c F hb1 hc1 ho1 =>
    refine ⟨I.add (some (b, o)) 0 0, .add _ _ _ (fun _ _ => rfl) (.refl w), rfl, rfl, ?_, (b :: F) ++ [], ?_, by simp⟩
    · exact .hp (I := I.add (some (b, o)) 0 0) (w := w) (id := I.nx) (off := 0) (b := b) (o := o) (by show I.nx < I.nx + 1; omega) (by simp [Interp.add])
    · refine .cons (.var (o := o) (by show I.nx < I.nx + 1; omega) (by simp [Interp.add]) hb1 (by omega) ?_) .nil
      clear hc1
      -- one's own cells as a variable's
      have key : ∀ (o0 : Nat) (as : List AV) (o : Nat) (F : List Nat), Own I.S w (.c b o as) F → VarC (I.add (some (b, o0)) 0 0) w b o as F := by
        intro o0 as
        induction as with
        | nil => intro o F h; cases h; exact .nil
        | cons a as ih => intro o F h; cases h with | ccons h1 h2 h3 => exact .cons h1 (.inr h2) (ih _ _ h3)
      exact key o cs o F ho1

theorem Imps.then {I : Interp} {w : World} {a : AV} {as : List AV} {x : Value} {xs : List Value} {p : AV × List (Nat × Row) × Nat} {q : Nat → List AV × List (Nat × Row) × Nat} {F G : List Nat}
    (h1 : Imps I w p.2 F (.v p.1 x)) (h2 : ∀ I', I'.S = I.S → I'.nx = p.2.2 → Imps I' w (q p.2.2).2 G (.l (q p.2.2).1 xs)) : Imps I w (p.2.1 ++ (q p.2.2).2.1, (q p.2.2).2.2) (F ++ G) (.l (p.1 :: (q p.2.2).1) (x :: xs)) := by
  obtain ⟨I1, e1, s1, n1, r1, F1, o1, p1⟩ := h1
  obtain ⟨I2, e2, s2, n2, r2, F2, o2, p2⟩ := h2 I1 s1 n1
  exact ⟨I2, e1.trans e2, s2.trans s1, n2, .cons (r1.mono e2) r2, F1 ++ F2, (o1.mono e2 fun _ _ => rfl).app o2, p1.append p2⟩

theorem impL_ok {w : World} {as : List AV} : ∀ {I : Interp} {xs : List Value} {F : List Nat}, Own I.S w (.l as xs) F → as.all AV.flat = true → Imps I w (impL I.nx as).2 F (.l (impL I.nx as).1 xs) := by
  induction as with
  | nil => intro I xs F h _; cases h; exact ⟨I, .refl I w, rfl, rfl, .nil, [], .nil, List.Perm.refl _⟩
  | cons a as ih =>
    intro I xs F h hf
    simp only [List.all_cons, Bool.and_eq_true] at hf
    cases h with
    | cons h1 h2 =>
      refine Imps.then (q := fun n => impL n as) (a := a) (as := as) (imp1_ok h1 hf.1) fun I' hs hn => ?_
      have := ih (I := I') (by rw [hs]; exact h2) hf.2
      rw [hn] at this; exact this

theorem imp2_ok {I : Interp} {w : World} {a : AV} {x : Value} {F : List Nat} (h : Own I.S w (.v a x) F) (hf : a.flat2 = true) : Imps I w (imp2 I.nx a).2 F (.v (imp2 I.nx a).1 x) := by
  cases a with
  | agg cs =>
    have key : ∃ vs, x = .agg vs.toArray ∧ Own I.S w (.l cs vs) F := by
      cases h with
      | std h => cases h with
        | agg h => exact ⟨_, rfl, h.l_own⟩
      | agg h => exact ⟨_, rfl, h⟩
    obtain ⟨vs, rfl, h2⟩ := key
    obtain ⟨I1, e1, s1, n1, r1, F1, o1, p1⟩ := impL_ok h2 hf
    exact ⟨I1, e1, s1, n1, .agg r1, F1, o1, p1⟩
  | tup _ => cases hf
  | _ => exact imp1_ok h rfl

theorem impT_ok {w : World} {as : List AV} : ∀ {I : Interp} {xs : List Value} {F : List Nat}, Own I.S w (.l as xs) F → as.all AV.flat2 = true → Imps I w (impT I.nx as).2 F (.l (impT I.nx as).1 xs) := by
  induction as with
  | nil => intro I xs F h _; cases h; exact ⟨I, .refl I w, rfl, rfl, .nil, [], .nil, List.Perm.refl _⟩
  | cons a as ih =>
    intro I xs F h hf
    simp only [List.all_cons, Bool.and_eq_true] at hf
    cases h with
    | cons h1 h2 =>
      refine Imps.then (q := fun n => impT n as) (a := a) (as := as) (imp2_ok h1 hf.1) fun I' hs hn => ?_
      have := ih (I := I') (by rw [hs]; exact h2) hf.2
      rw [hn] at this; exact this

theorem imp_ok {I : Interp} {w : World} {a : AV} {x : Value} {F : List Nat} (h : Own I.S w (.v a x) F) (hf : a.flat3 = true) : Imps I w (imp I.nx a).2 F (.v (imp I.nx a).1 x) := by
  cases a with
  | tup cs =>
    have key : ∃ vs, x = .tuple vs.toArray ∧ Own I.S w (.l cs vs) F := by
      cases h with
      | std h => cases h with
        | tup h => exact ⟨_, rfl, h.l_own⟩
      | tup h => exact ⟨_, rfl, h⟩
    obtain ⟨vs, rfl, h2⟩ := key
    obtain ⟨I1, e1, s1, n1, r1, F1, o1, p1⟩ := impT_ok h2 hf
    exact ⟨I1, e1, s1, n1, .tup r1, F1, o1, p1⟩
  | _ => exact imp2_ok h hf

theorem lasts_below {w w' : World} (h : Below w.heap.size w w') : Lasts w w' := fun b c hb => by
  have := hb.lt
  obtain ⟨e, hb⟩ := hb
  exact ⟨c, ⟨e, (h.block b this).trans hb⟩, rfl⟩

section
variable {P : Program} {f : Nat} {Q : Post} {k : List Item} {st : St} {A : Array Oper} {i : Nat} {rest : List Nat}

/-- The state behind a call that handed back r. -/
def St.back (st : St) (r : AV) : St := ⟨st.tm, (imp st.nx r).2.1 ++ st.hp, (imp st.nx r).2.2, st.nt⟩

theorem Rel.back {S0 : Interp} {B : Nat} {w0 : World} {I : Interp} {a : Act} {w : World} (hr : Rel S0 B w0 I st a w) {r : AV} {e : Ending} {w' : World} (hf : Fin I.S w.heap.size w r e w') (hfl : r.flat3 = true) :
    ∃ v I', e = .returned v ∧ Rel S0 B w0 I' (st.back r) a w' ∧ Rep I' w' (.v (imp st.nx r).1 v) := by
  obtain ⟨v, S, F, he, ho, hnd, hF, hSs, hS0, hSb, hbl⟩ := hf
  let I1 : Interp := { I with S := S }
  have e1 : Ext I w I1 w' := ⟨hS0, fun b hb => hbl.block b (hr.ss b hb), Nat.le_refl _, fun _ _ => rfl, fun _ _ => rfl, fun _ _ => rfl, lasts_below hbl⟩
  obtain ⟨I2, e2, s2, n2, r2, F2, o2, p2⟩ := imp_ok (I := I1) ho hfl
  obtain ⟨T, t1, t2, t3⟩ := hr.hp
  have hnx : I1.nx = st.nx := hr.nx
  rw [hnx] at n2 r2 o2
  refine ⟨v, I2, he, ?_, r2⟩
  have := hr.next (e1.trans e2) (hbl.mono hr.bs) (fun b hb => by
    rw [s2] at hb
    rcases hSb b hb with h | h
    · exact .inl h
    · exact .inr (Nat.le_trans hr.bs h)) (fun b hb => by rw [s2] at hb; exact hSs b hb)
    (hp := (imp st.nx r).2.1 ++ st.hp) ⟨F2 ++ T, o2.app (t1.mono (e1.trans e2) fun b hb => hbl.block b (t3 b hb).2.2), ?_, ?_⟩
  · rw [n2] at this; exact this
  · refine List.nodup_append.2 ⟨p2.nodup_iff.2 hnd, t2, fun x hx y hy e => ?_⟩
    subst e
    have := (hF x (p2.mem_iff.1 hx)).1
    have := (t3 x hy).2.2
    omega
  · intro b hb
    rw [s2]
    rcases List.mem_append.1 hb with hb | hb
    · have := hF b (p2.mem_iff.1 hb)
      exact ⟨Nat.le_trans hr.bs this.1, this.2.1, this.2.2⟩
    · have := t3 b hb
      refine ⟨this.1, fun hs => ?_, Nat.lt_of_lt_of_le this.2.2 hbl.size⟩
      rcases hSb b hs with h | h
      · exact this.2.1 h
      · omega

theorem run_callFunc {w : World} {g : Nat} {fn : Func} {c : Code} (hg : P.funcs[g]? = some fn) (hb : fn.body = some c) (hn : (fn.name == "runtime.NumGoroutine") = false) (args : Array Value) :
    (callFunc g args).run P w = .ok (.enter g args) w := by
  simp only [callFunc, Sem.run_bind, run_program, Result.andThen_ok, hg, hn, hb]
  rfl

theorem Rel.evs {S0 : Interp} {B : Nat} {w0 : World} {I : Interp} {a : Act} {w : World} (h : Rel S0 B w0 I st a w) (xs : List Operand) : Rep I w (.l (xs.map st.ev) (xs.map a.eval)) := by
  induction xs with
  | nil => exact .nil
  | cons x xs ih => exact .cons (h.ev x) ih

/-- What is entered comes back, and the region goes on. -/
theorem enter_back {b : Frame} {a : Act} {cs : List Frame} {w w1 w2 : World} {o : Oper} {g : Nat} {args : Array Value} {v : Value} {R : Ending → World → Prop} (ho : A[i]? = some o) (hw : Region.wanted o (yielded A a.tmps) = true)
    (hr : (execOp a.eval o).run P w = .ok (.enter g args) w1) {fr : Frame} (hc : Comes P (lone (Frame.enter P g args .normal) (b.at a (.inRegion A (i :: rest) :: k) :: cs) w1) (lone fr (b.at a (.inRegion A (i :: rest) :: k) :: cs) w2) (.returned v))
    (hl : fr.leaving P w2 (.returned v)) : Steps P (lone (b.at a (.inRegion A (i :: rest) :: k)) cs w) (lone (b.at (a.put o.dst v) (.inRegion A rest :: k)) cs w2) := by
  have hg := stepG_op (P := P) (b := b) (k := k) (cs := cs) (w := w) (rest := rest) ho hw
  have hfin : (b.at a (.inRegion A (i :: rest) :: k)).finish v = b.at (a.put o.dst v) (.inRegion A rest :: k) := by rw [Frame.finish_at, ho]; rfl
  have henter : step P (lone (b.at a (.inRegion A (i :: rest) :: k)) cs w) = .next (lone (Frame.enter P g args .normal) (b.at a (.inRegion A (i :: rest) :: k) :: cs) w1) :=
    step_lone_go (by rw [hg]; simp [stepG.apply, hr, Frame.at])
  refine .head henter (Steps.trans hc (.one ?_))
  rw [← hfin]; exact step_leave_returned hl

theorem run_call {d t g : Nat} {pos : String} {af : Array Edge} {gd : Option (Nat × Bool)} {xs : Array Operand} {ts : Array Nat} {fn : Func} {c : Code} {Qg : AV → Prop} {as : List AV}
    (ho : A[i]? = some ⟨some d, .call { callee := .value (.func g), args := xs, argTypes := ts }, t, pos, af, gd⟩) (hw : Want A st gd) (hd : Nat.blt d st.nt = true)
    (hg : P.funcs[g]? = some fn) (hb : fn.body = some c) (hn : (fn.name == "runtime.NumGoroutine") = false) (has : xs.toList.map st.ev = as) (hstd : as.all AV.std = true) (hgood : Good P g as Qg)
    (h : ∀ r, Qg r → r.flat3 = true ∧ Run P f Q (.inRegion A rest :: k) ((st.back r).set d (imp st.nx r).1)) : Run P f Q (.inRegion A (i :: rest) :: k) st := by
  intro S0 B w0 I a w hlo hr b hbf hk cs
  have h1 := hr.evs xs.toList
  rw [has] at h1
  have hcall := hgood I.S w _ hr.ss (h1.l_stds hstd)
  obtain ⟨e, w2, fr, ⟨r, hq, hfin⟩, hcomes, _, hleave⟩ := hcall (b.at a (.inRegion A (i :: rest) :: k) :: cs)
  obtain ⟨hfl, hrun⟩ := h r hq
  obtain ⟨v, I', rfl, hr', hrep⟩ := hr.back hfin hfl
  have hx : (execOp a.eval ⟨some d, .call { callee := .value (.func g), args := xs, argTypes := ts }, t, pos, af, gd⟩).run P w = .ok (.enter g (xs.toList.map a.eval).toArray) w := by
    have e0 : xs.map a.eval = (xs.toList.map a.eval).toArray := by rw [← Array.toList_map, Array.toArray_toList]
    have e1 : a.eval (.func g) = .func (.func g) #[] #[] := rfl
    simp only [execOp, resolve, e0, e1, Deferred.ofValue, Sem.run_bind, Sem.run_pure, Result.andThen_ok, invoke]
    rw [show (#[] ++ (xs.toList.map a.eval).toArray ++ #[] : Array Value) = (xs.toList.map a.eval).toArray from by simp]
    exact run_callFunc hg hb hn _
  have hst := enter_back ho (hr.wanted hw) hx hcomes hleave (R := fun _ _ => True)
  have hrel := hr'.put (d := d) (by exact hd) hrep
  obtain ⟨e3, w3, fr3, g1, g2, g3, g4⟩ := hrun S0 B w0 I' _ w2 hlo hrel b hbf hk cs
  exact ⟨e3, w3, fr3, g1, Comes.of_steps hst g2, g3, g4⟩
end
end Go.Ax
