/- Maps that are filled once, and read. -/
import Derived.Test.YtnfkdilmoppbpaaAxT
import Derived.MapKept
namespace Go.Ax
open Go.RowKit
set_option linter.unusedVariables false
set_option linter.unusedSimpArgs false

def mget : List (Int × Int) → Int → Option Int
  | [], _ => none
  | (k, v) :: r, n => bif decide (n = k) then some v else mget r n

def pairV (p : Int × Int) : Value × Value := (.int .i64 p.1, .int .i64 p.2)

theorem findNow_mp (n : Int) : ∀ (l : List MapEntry) (kvs : List (Int × Int)) (i : Nat), l.map (fun e => (e.key, e.val)) = kvs.map (fun p => (Value.int .i64 p.1, Value.int .i64 p.2)) →
    (mget kvs n = none → Instr.findNow (.int .i64) (.int .i64 n) l i = some none) ∧ (∀ v, mget kvs n = some v → ∃ j, Instr.findNow (.int .i64) (.int .i64 n) l i = some (some (j, .int .i64 v)))
  | [], [], i, _ => ⟨fun _ => rfl, fun v h => by cases h⟩
  | [], _ :: _, i, h => by simp at h
  | _ :: _, [], i, h => by simp at h
  | e :: l, (k, v) :: kvs, i, h => by
    simp only [List.map_cons, List.cons.injEq, Prod.mk.injEq] at h
    obtain ⟨⟨h1, h2⟩, h3⟩ := h
    obtain ⟨ih1, ih2⟩ := findNow_mp n l kvs (i + 1) h3
    by_cases hk : n = k
    · subst hk
      refine ⟨fun h => by simp [mget] at h, fun u h => ?_⟩
      simp only [mget, decide_true, cond_true, Option.some.injEq] at h
      subst h
      exact ⟨i, by simp [Instr.findNow, h1, Instr.sameNow, h2]⟩
    · have e1 : mget ((k, v) :: kvs) n = mget kvs n := by simp [mget, hk]
      rw [e1]
      have e2 : Instr.findNow (.int .i64) (.int .i64 n) (e :: l) i = Instr.findNow (.int .i64) (.int .i64 n) l (i + 1) := by
        have hb : (n == k) = false := by simpa using hk
        simp [Instr.findNow, h1, Instr.sameNow, hb]
      rw [e2]
      exact ⟨ih1, ih2⟩

theorem TyOK.mapE {P : Program} {t k e : Nat} {i : TyI} (h : TyOK P t i) (hd : i.td = .td (.map k e)) : P.underlying t = some (.map k e) := by
  obtain ⟨h, _⟩ := h; rw [hd] at h; exact h.1

theorem TyOK.intE {P : Program} {t : Nat} {i : TyI} (h : TyOK P t i) (hd : i.td = .td (.int .i64)) : P.underlying t = some (.int .i64) := by
  obtain ⟨h, _⟩ := h; rw [hd] at h; exact h.1

theorem Own.blk {S : Nat → Prop} {w : World} {q : Ask} {F : List Nat} (h : Own S w q F) : ∀ b ∈ F, ∃ c, Blk w b c := by
  induction h with
  | std => simp
  | agg _ ih => exact ih
  | tup _ ih => exact ih
  | osl0 => simp
  | osl h1 _ _ _ _ ih => exact fun z hz => (List.mem_cons.1 hz).elim (fun e => e ▸ ⟨_, h1⟩) (ih z)
  | opt h1 _ _ ih => exact fun z hz => (List.mem_cons.1 hz).elim (fun e => e ▸ ⟨_, h1⟩) (ih z)
  | nil => simp
  | cons _ _ ih1 ih2 => exact fun z hz => (List.mem_append.1 hz).elim (ih1 z) (ih2 z)
  | cnil => simp
  | ccons _ _ _ ih1 ih2 => exact fun z hz => (List.mem_append.1 hz).elim (ih1 z) (ih2 z)

theorem VarC.blk {I : Interp} {w : World} {b o : Nat} {as : List AV} {F : List Nat} (h : VarC I w b o as F) : ∀ z ∈ F, ∃ c, Blk w z c := by
  induction h with
  | nil => simp
  | cons _ hl _ ih =>
    refine fun z hz => (List.mem_append.1 hz).elim (fun h => ?_) (ih z)
    rcases hl with ⟨_, rfl⟩ | hl
    · simp at h
    · exact hl.blk z h

theorem HeapOK.blk {I : Interp} {w : World} {hp : List (Nat × Row)} {T : List Nat} (h : HeapOK I w hp T) : ∀ z ∈ T, ∃ c, Blk w z c := by
  induction h with
  | nil => simp
  | cons h _ ih =>
    refine fun z hz => (List.mem_append.1 hz).elim (fun hz => ?_) (ih z)
    cases h with
    | var _ _ hb _ hv => exact (List.mem_cons.1 hz).elim (fun e => e ▸ ⟨_, hb⟩) (hv.blk z)
    | row0 => simp at hz
    | row _ _ _ _ hb _ _ ho => exact (List.mem_cons.1 hz).elim (fun e => e ▸ ⟨_, hb⟩) (ho.blk z)
    | foc _ _ _ _ hb _ _ _ _ _ _ o1 _ _ o2 => exact (List.mem_cons.1 hz).elim (fun e => e ▸ ⟨_, hb⟩) fun hz => (List.mem_append.1 hz).elim (o1.blk z) (o2.blk z)

section
variable {P : Program} {f : Nat} {Q : Post} {k : List Item} {st : St} {A : Array Oper} {i : Nat} {rest : List Nat}

theorem rd_lookup {o : Oper} {t kt et : Nat} {x ix : Operand} {it ki : TyI} {kvs : List (Int × Int)} {n v : Int} (h : o.op = .lookup t x ix false) (ht : TyOK P t it) (hd : it.td = .td (.map kt et)) (hk : TyOK P kt ki) (hkd : ki.td = .td (.int .i64))
    (hez : (P.info? et).bind (·.zero) = some (.int .i64 0)) (hx : st.ev x = .mp kvs) (hi : st.ev ix = .lit (.int .i64 n)) (hv : (mget kvs n).getD 0 = v) : Reads P st o (.lit (.int .i64 v)) := by
  subst hv
  intro S0 B w0 I a w hr
  have h1 := hr.ev x
  have h2 := hr.ev ix
  rw [hx] at h1
  rw [hi] at h2
  refine ⟨_, fun w' hw0 => ?_, .std (.lit _)⟩
  have hw : Same _ w' := hw0.resolve_left (by rw [h]; simp [memFree])
  generalize ex : a.eval x = y at h1
  cases h1 with
  | std h1 =>
    cases h1 with
    | @mp r es clock _ hS hb hes =>
      have hb' : w'.heap[r]? = some (.map es clock) := (hw r (hr.ss r hS)).trans hb
      have hkd' := hk.intE hkd
      have hik : MapKept.IsKey (.int .i64) (.int .i64 n) := by simp [MapKept.IsKey]
      obtain ⟨f1, f2⟩ := findNow_mp n es.toList kvs 0 hes
      have hz : (zeroValue et).run P w' = .ok (.int .i64 0) w' := by
        cases hin : P.info? et with
        | none => simp [hin] at hez
        | some info =>
          simp only [hin, Option.bind_some] at hez
          simp only [zeroValue, typeInfo, Sem.run_bind, run_program, Result.andThen_ok, hin, Sem.run_pure, hez]
      cases hm : mget kvs n with
      | none =>
        simp only [execOp, h, ex, h2.lit_inv, Instr.lookup, Sem.run_bind, run_under (ht.mapE hd), Result.andThen_ok, MapKept.run_getObj_map hb', Sem.run_pure, MapKept.run_checkKey hkd' hik, MapKept.run_findKey hkd' (f1 hm), hz, Option.getD_none, if_false, Bool.false_eq_true]
      | some v =>
        obtain ⟨j, hj⟩ := f2 v hm
        simp only [execOp, h, ex, h2.lit_inv, Instr.lookup, Sem.run_bind, run_under (ht.mapE hd), Result.andThen_ok, MapKept.run_getObj_map hb', Sem.run_pure, MapKept.run_checkKey hkd' hik, MapKept.run_findKey hkd' hj, Option.getD_some, if_false, Bool.false_eq_true]

/-- A map of one's own that is being filled, in slot d. -/
def Filling (I : Interp) (B : Nat) (a : Act) (w : World) (d : Nat) (kvs : List (Int × Int)) : Prop :=
  ∃ r es clock, a.tmps.getD d undef = .map (some r) ∧ w.heap[r]? = some (.map es clock) ∧ es.toList.map (fun e => (e.key, e.val)) = kvs.map (fun p => (Value.int .i64 p.1, Value.int .i64 p.2)) ∧ B ≤ r ∧ ¬ I.S r

def RunM (P : Program) (f : Nat) (Q : Post) (todo : List Item) (st : St) (d : Nat) (kvs : List (Int × Int)) : Prop :=
  ∀ S0 B w0 I a w, S0.nx = Q.lo → Rel S0 B w0 I st a w → Filling I B a w d kvs → ∀ (b : Frame), b.fn = f → b.kind = .normal → ∀ cs, ∃ e w' fr,
    Q.R S0 B w0 e w' ∧ Comes P (lone (b.at a todo) cs w) (lone fr cs w') e ∧ fr.fn = f ∧ fr.leaving P w' e

theorem run_makeMap {d t t0 : Nat} {pos : String} {af : Array Edge} (ho : A[i]? = some ⟨some d, .makeMap t none, t0, pos, af, none⟩) (hd : Nat.blt d st.nt = true)
    (h : RunM P f Q (.inRegion A rest :: k) (st.set d .any) d []) : Run P f Q (.inRegion A (i :: rest) :: k) st := by
  intro S0 B w0 I a w hlo hr b hb hk cs
  let w1 : World := { w with heap := w.heap.push (.map #[] 0) }
  have hrun : (execOp a.eval ⟨some d, .makeMap t none, t0, pos, af, none⟩).run P w = .ok (.value (.map (some w.heap.size))) w1 := by
    simp [execOp, Instr.makeMap, run_newObj, w1]
  have hold : ∀ z, z < w.heap.size → w1.heap[z]? = w.heap[z]? := fun z hz => heap_push w _ z hz
  have he : Ext I w I w1 := ⟨fun _ h => h, fun z hz => hold z (hr.ss z hz), Nat.le_refl _, fun _ _ => rfl, fun _ _ => rfl, fun _ _ => rfl, .push _ _⟩
  obtain ⟨T, t1, t2, t3⟩ := hr.hp
  have hr1 := hr.next he (Below.push B w _ hr.bs) (fun _ h => .inl h) (fun z hz => by have := hr.ss z hz; simp [w1]; omega) (hp := st.hp)
    ⟨T, t1.mono he fun z hz => hold z (t3 z hz).2.2, t2, fun z hz => ⟨(t3 z hz).1, (t3 z hz).2.1, by have := (t3 z hz).2.2; simp [w1]; omega⟩⟩
  rw [hr.nx] at hr1
  have hr2 : Rel S0 B w0 I (st.set d .any) (a.put (some d) (.map (some w.heap.size))) w1 := hr1.put hd (.std (.any _))
  have hd' : d < a.tmps.size := by rw [hr.nt]; simpa using hd
  obtain ⟨e, w2, fr, g1, g2, g3, g4⟩ := h S0 B w0 I _ w1 hlo hr2 ⟨w.heap.size, #[], 0, by simp [Act.put, hd'], by simp [w1], rfl, hr.bs, fun hs => by have := hr.ss _ hs; omega⟩ b hb hk cs
  exact ⟨e, w2, fr, g1, Comes.of_steps (.one (step_op_value ho rfl hrun)) g2, g3, g4⟩

theorem runM_insert {d t kt et t0 : Nat} {pos : String} {af : Array Edge} {it ki : TyI} {kvs : List (Int × Int)} {n v : Int} (ho : A[i]? = some ⟨none, .insert t (.tmp d) (.const (.int .i64 n)) (.const (.int .i64 v)), t0, pos, af, none⟩)
    (ht : TyOK P t it) (hd : it.td = .td (.map kt et)) (hk : TyOK P kt ki) (hkd : ki.td = .td (.int .i64)) (hn : mget kvs n = none)
    (h : RunM P f Q (.inRegion A rest :: k) st d (kvs ++ [(n, v)])) : RunM P f Q (.inRegion A (i :: rest) :: k) st d kvs := by
  intro S0 B w0 I a w hlo hr ⟨r, es, clock, m1, m2, m3, m4, m5⟩ b hb hkk cs
  let o : Obj := .map (es.push { key := .int .i64 n, val := .int .i64 v, born := clock }) (clock + 1)
  let w1 : World := { w with heap := w.heap.setIfInBounds r o }
  have hkd' := hk.intE hkd
  have hik : MapKept.IsKey (.int .i64) (.int .i64 n) := by simp [MapKept.IsKey]
  have hrun : (execOp a.eval ⟨none, .insert t (.tmp d) (.const (.int .i64 n)) (.const (.int .i64 v)), t0, pos, af, none⟩).run P w = .ok .skip w1 := by
    have e1 : a.eval (.tmp d) = .map (some r) := m1
    have e2 : ∀ x, a.eval (.const x) = x := fun _ => rfl
    simp only [execOp, e1, e2, Instr.mapUpdate, Sem.run_bind, run_under (ht.mapE hd), Result.andThen_ok, MapKept.run_getObj_map m2, MapKept.run_checkKey hkd' hik, MapKept.run_findKey hkd' ((findNow_mp n es.toList kvs 0 m3).1 hn), MapKept.run_setObj_map _ m2, Sem.run_pure]
    rfl
  obtain ⟨k1, k2⟩ := MapKept.heap_set (o' := o) m2
  obtain ⟨T, t1, t2, t3⟩ := hr.hp
  have hT : ∀ z ∈ T, w1.heap[z]? = w.heap[z]? := fun z hz => k2 z fun e => by
    obtain ⟨c, t, hc⟩ := t1.blk z hz
    rw [e, m2] at hc; cases hc
  have he : Ext I w I w1 := ⟨fun _ h => h, fun z hz => k2 z fun e => m5 (e ▸ hz), Nat.le_refl _, fun _ _ => rfl, fun _ _ => rfl, fun _ _ => rfl, fun z c hz => by
    obtain ⟨t, hc⟩ := hz
    exact ⟨c, ⟨t, (k2 z fun e => by rw [e, m2] at hc; cases hc).trans hc⟩, rfl⟩⟩
  have hsz : w1.heap.size = w.heap.size := by simp [w1]
  have hr1 := hr.next he ⟨rfl, rfl, rfl, by rw [hsz]; exact Nat.le_refl _, fun z hz => k2 z (by omega)⟩ (fun _ h => .inl h) (fun z hz => by rw [hsz]; exact hr.ss z hz) (hp := st.hp)
    ⟨T, t1.mono he hT, t2, fun z hz => by rw [hsz]; exact t3 z hz⟩
  rw [hr.nx] at hr1
  obtain ⟨e, w2, fr, g1, g2, g3, g4⟩ := h S0 B w0 I a w1 hlo hr1 ⟨r, _, _, m1, k1, by simp [m3], m4, m5⟩ b hb hkk cs
  exact ⟨e, w2, fr, g1, Comes.of_steps (.one (step_op_do ho rfl hrun)) g2, g3, g4⟩

theorem runM_done {todo : List Item} {d : Nat} {kvs : List (Int × Int)} (h : Run P f Q todo ⟨(d, .mp kvs) :: st.tm, st.hp, st.nx, st.nt⟩) : RunM P f Q todo st d kvs := by
  intro S0 B w0 I a w hlo hr ⟨r, es, clock, m1, m2, m3, m4, m5⟩ b hb hkk cs
  let I' : Interp := { I with S := fun z => I.S z ∨ z = r }
  have hlt : r < w.heap.size := (Array.getElem?_eq_some_iff.1 m2).1
  have he : Ext I w I' w := ⟨fun _ h => .inl h, fun _ _ => rfl, Nat.le_refl _, fun _ _ => rfl, fun _ _ => rfl, fun _ _ => rfl, .refl w⟩
  obtain ⟨T, t1, t2, t3⟩ := hr.hp
  have hr1 := hr.next he (Below.refl B w) (fun z hz => by
      rcases hz with hz | hz
      · exact .inl hz
      · subst hz; exact .inr m4) (fun z hz => by
      rcases hz with hz | hz
      · exact hr.ss z hz
      · subst hz; exact hlt) (hp := st.hp)
    ⟨T, t1.mono he fun _ _ => rfl, t2, fun z hz => ⟨(t3 z hz).1, fun (hs : I.S z ∨ z = r) => hs.elim (t3 z hz).2.1 (fun e => by
      obtain ⟨c, t, hc⟩ := t1.blk z hz
      rw [e, m2] at hc; cases hc), (t3 z hz).2.2⟩⟩
  have e2 : (⟨st.tm, st.hp, I'.nx, st.nt⟩ : St) = st := by
    show (⟨st.tm, st.hp, I.nx, st.nt⟩ : St) = _
    rw [hr.nx]
  rw [e2] at hr1
  refine h S0 B w0 I' a w hlo ⟨fun j => ?_, hr1.nt, hr1.df, hr1.nx, hr1.hp, hr1.ss, hr1.ext, hr1.sb, hr1.bl, hr1.bs⟩ b hb hkk cs
  show Rep I' w (.v (get j ((d, _) :: st.tm)) _)
  rw [get_cons]
  by_cases ej : d = j
  · subst ej
    rw [if_pos rfl, m1]
    exact .std (.mp (.inr rfl) m2 m3)
  · rw [if_neg ej]; exact hr1.tm j
end
end Go.Ax
