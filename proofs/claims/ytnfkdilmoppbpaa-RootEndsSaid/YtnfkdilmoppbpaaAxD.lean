/- Reads of memory, and new variables. -/
import Derived.Test.YtnfkdilmoppbpaaAxC
namespace Go.Ax
open Go.RowKit
set_option linter.unusedVariables false
set_option linter.unusedSimpArgs false

section types
variable {P : Program} {w : World} {t : Nat} {i : TyI}

theorem run_under {d : TypeDesc} (h : P.underlying t = some d) : (underlying t).run P w = .ok d w := by
  simp only [underlying, Sem.run_bind, run_program, Result.andThen_ok, h, Sem.run_pure]

theorem run_size (h : TyOK P t i) : (sizeOf t).run P w = .ok i.size w := by
  obtain ⟨_, _, info, h1, h2, _⟩ := h
  simp only [sizeOf, typeInfo, Sem.run_bind, run_program, Result.andThen_ok, h1, Sem.run_pure, h2]

theorem run_zero (h : TyOK P t i) : ∃ z : Value, (zeroValue t).run P w = .ok z w ∧ z.cells = i.zero.toArray := by
  obtain ⟨_, _, info, h1, _, _, z, h3, h4⟩ := h
  exact ⟨z, by simp only [zeroValue, typeInfo, Sem.run_bind, run_program, Result.andThen_ok, h1, Sem.run_pure, h3], h4⟩

theorem run_bytes (h : TyOK P t i) : ∃ info : TypeInfo, (typeInfo t).run P w = .ok info w ∧ info.bytes = i.bytes := by
  obtain ⟨_, _, info, h1, _, h2, _⟩ := h
  exact ⟨info, by simp only [typeInfo, Sem.run_bind, run_program, Result.andThen_ok, h1, Sem.run_pure], h2⟩

def TyI.isAgg (i : TyI) : Bool := match i.td with | .agg _ => true | .td _ => false

theorem run_isAgg (h : TyOK P t i) : (isAgg t).run P w = .ok i.isAgg w := by
  obtain ⟨h, _⟩ := h
  unfold TyI.isAgg
  cases hd : i.td with
  | td d =>
    rw [hd] at h
    obtain ⟨h1, h2⟩ := h
    simp only [isAgg, Sem.run_bind, run_under h1, Result.andThen_ok]
    cases d <;> simp_all [plainD]
  | agg fs =>
    rw [hd] at h
    obtain ⟨fields, h1, _⟩ := h
    simp only [isAgg, Sem.run_bind, run_under h1, Result.andThen_ok, Sem.run_pure]
end types

theorem addr_add (b o n : Nat) : (⟨b, o, none⟩ : Addr).add n = ⟨b, o + n, none⟩ := by
  unfold Addr.add; split
  · subst_vars; rfl
  · rfl

/-- The cells from an address on hold these values. -/
def CellsAt (w : World) (b o : Nat) (vs : List Value) : Prop := ∀ j v, vs[j]? = some v → w.cell? ⟨b, o + j, none⟩ = some v

theorem CellsAt.nil {w : World} {b o : Nat} : CellsAt w b o [] := by intro j v h; simp at h
theorem CellsAt.cons {w : World} {b o : Nat} {v : Value} {vs : List Value} (h : w.cell? ⟨b, o, none⟩ = some v) (h2 : CellsAt w b (o + 1) vs) : CellsAt w b o (v :: vs) := by
  intro j u hj
  cases j with
  | zero => simp at hj; subst hj; exact h
  | succ j =>
    have := h2 j u (by simpa using hj)
    rw [show o + (j + 1) = o + 1 + j from by omega]; exact this

theorem CellsAt.same {w w' : World} {b o : Nat} {vs : List Value} (h : CellsAt w b o vs) (hw : Same w w') : CellsAt w' b o vs := fun j v hj => hw.cell (h j v hj)

theorem run_cellsFrom {P : Program} {w : World} {b o : Nat} : ∀ (vs : List Value) (i : Nat) (acc : Array Value), CellsAt w b (o + i) vs → (loadCellsFrom ⟨b, o, none⟩ i vs.length acc).run P w = .ok (acc ++ vs.toArray) w
  | [], i, acc, _ => by simp [loadCellsFrom]
  | v :: vs, i, acc, h => by
    have h0 : w.cell? ⟨b, o + i, none⟩ = some v := h 0 v (by simp)
    have h1 : CellsAt w b (o + (i + 1)) vs := by
      intro j u hj
      have := h (j + 1) u (by simpa using hj)
      rw [show o + i + (j + 1) = o + (i + 1) + j from by omega] at this
      exact this
    have ih := run_cellsFrom (P := P) vs (i + 1) (acc.push v) h1
    simp only [List.length_cons, loadCellsFrom, Sem.run_bind, addr_add, run_load, h0, Result.andThen_ok, ih]
    simp

theorem run_cells {P : Program} {w : World} {b o : Nat} (vs : List Value) (h : CellsAt w b o vs) : (loadCells ⟨b, o, none⟩ vs.length).run P w = .ok vs.toArray w := by
  have := run_cellsFrom (P := P) vs 0 #[] h
  simpa [loadCells] using this

/-- What stays: its cells. -/
theorem Std.cells {S : Nat → Prop} {w : World} {b o : Nat} {as : List AV} (h : Std S w (.c b o as)) : ∃ vs, Std S w (.l as vs) ∧ CellsAt w b o vs ∧ vs.length = as.length := by
  induction as generalizing o with
  | nil => exact ⟨[], .nil, .nil, rfl⟩
  | cons a as ih =>
    cases h with
    | ccons hc ha hr =>
      obtain ⟨vs, h1, h2, h3⟩ := ih hr
      exact ⟨_ :: vs, .cons ha h1, .cons hc h2, by simp [h3]⟩

theorem Std.drop {S : Nat → Prop} {w : World} {b o : Nat} {as : List AV} (h : Std S w (.c b o as)) (n : Nat) : Std S w (.c b (o + n) (as.drop n)) := by
  induction n generalizing o as with
  | zero => simpa using h
  | succ n ih =>
    cases as with
    | nil => simpa using (Std.cnil (S := S) (w := w) (b := b) (o := o + (n + 1)))
    | cons a as =>
      cases h with
      | ccons hc ha hr =>
        have := ih hr
        rw [show o + 1 + n = o + (n + 1) from by omega] at this
        simpa using this

theorem Std.take {S : Nat → Prop} {w : World} {b o : Nat} {as : List AV} (h : Std S w (.c b o as)) (n : Nat) : Std S w (.c b o (as.take n)) := by
  induction n generalizing o as with
  | zero => simpa using (Std.cnil (S := S) (w := w) (b := b) (o := o))
  | succ n ih =>
    cases as with
    | nil => simpa using h
    | cons a as =>
      cases h with
      | ccons hc ha hr => simpa using Std.ccons hc ha (ih hr)

theorem Std.app {S : Nat → Prop} {w : World} {b o : Nat} {as bs : List AV} (h : Std S w (.c b o as)) (h2 : Std S w (.c b (o + as.length) bs)) : Std S w (.c b o (as ++ bs)) := by
  induction as generalizing o with
  | nil => simpa using h2
  | cons a as ih =>
    cases h with
    | ccons hc ha hr => exact .ccons hc ha (ih hr (by rw [show o + 1 + as.length = o + (a :: as).length from by simp; omega]; exact h2))

/-- Element i of a row whose elements have sz cells each. -/
theorem flatten_at {xs : List (List AV)} {sz : Nat} (hx : ∀ x ∈ xs, x.length = sz) {i : Nat} {cs : List AV} (h : xs[i]? = some cs) : xs.flatten.drop (i * sz) = cs ++ (xs.drop (i + 1)).flatten := by
  induction xs generalizing i with
  | nil => simp at h
  | cons x xs ih =>
    have hl := hx x (List.mem_cons_self ..)
    cases i with
    | zero => simp at h; subst h; simp
    | succ i =>
      have := ih (fun y hy => hx y (List.mem_cons_of_mem _ hy)) (by simpa using h)
      rw [List.flatten_cons, show (i + 1) * sz = x.length + i * sz from by rw [hl, Nat.add_mul]; omega, List.drop_append, List.drop_eq_nil_of_le (by omega), List.nil_append, Nat.add_sub_cancel_left]
      simpa using this

section
variable {P : Program} {f : Nat} {Q : Post} {k : List Item} {st st' : St} {A : Array Oper}

theorem Rep.pt_inv {I : Interp} {w : World} {cs : List AV} {x : Value} (h : Rep I w (.v (.pt cs) x)) : ∃ b o, x = .pointer (some ⟨b, o, none⟩) ∧ I.S b ∧ Std I.S w (.c b o cs) := by
  cases h with | std h => cases h with | pt hb hc => exact ⟨_, _, rfl, hb, hc⟩

theorem Std.l_rep {I : Interp} {w : World} {as : List AV} {xs : List Value} (h : Std I.S w (.l as xs)) : Rep I w (.l as xs) := by
  induction as generalizing xs with
  | nil => cases h; exact .nil
  | cons a as ih => cases h with | cons h1 h2 => exact .cons (.std h1) (ih h2)

/-- A leaf is read of what stays. -/
theorem rd_load_pt {o : Oper} {t : Nat} {x : Operand} {i : TyI} {v : AV} {cs : List AV} (h : o.op = .load t x) (ht : TyOK P t i) (ha : i.isAgg = false) (hx : st.ev x = .pt (v :: cs)) : Reads P st o v := by
  intro S0 B w0 I a w hr
  have h1 := hr.ev x
  rw [hx] at h1
  obtain ⟨b, of, e, hb, hc⟩ := h1.pt_inv
  cases hc with
  | ccons hc hv hrest =>
    refine ⟨_, fun w' hw0 => ?_, .std hv⟩
    have hw : Same _ w' := hw0.resolve_left (by rw [h]; simp [memFree])
    simp only [execOp, h, e, Instr.loadAt, Instr.sureAddr, loadVar, Sem.run_bind, Sem.run_pure, Result.andThen_ok, run_isAgg ht, ha, if_false, Bool.false_eq_true, run_load, hw.cell hc]

/-- A struct is read of what stays. -/
theorem rd_loads_pt {o : Oper} {t : Nat} {x : Operand} {i : TyI} {cs : List AV} (h : o.op = .load t x) (ht : TyOK P t i) (ha : i.isAgg = true) (hx : st.ev x = .pt cs) (hn : Nat.ble i.size cs.length = true) : Reads P st o (.agg (cs.take i.size)) := by
  intro S0 B w0 I a w hr
  have h1 := hr.ev x
  rw [hx] at h1
  obtain ⟨b, of, e, hb, hc⟩ := h1.pt_inv
  obtain ⟨vs, h2, h3, h4⟩ := (hc.take i.size).cells
  have h5 : vs.length = i.size := by rw [h4, List.length_take]; have := Nat.le_of_ble_eq_true hn; omega
  refine ⟨.agg vs.toArray, fun w' hw0 => ?_, .std (.agg h2)⟩
  have hw : Same _ w' := hw0.resolve_left (by rw [h]; simp [memFree])
  have := run_cells (P := P) vs (h3.same hw)
  rw [h5] at this
  simp only [execOp, h, e, Instr.loadAt, Instr.sureAddr, loadVar, Sem.run_bind, Sem.run_pure, Result.andThen_ok, run_isAgg ht, ha, if_true, run_size ht, this]

theorem run_fieldPlace {w : World} {b o t : Nat} {fd : Field} {i : TyI} (ht : TyOK P fd.type i) (hs : i.size ≠ 0) : (fieldPlace ⟨b, o, none⟩ fd).run P w = .ok ⟨b, o + fd.offset, none⟩ w := by
  simp only [fieldPlace, Sem.run_bind, run_size ht, Result.andThen_ok, hs, if_false, Sem.run_pure, addr_add]

theorem TyOK.field {t : Nat} {i : TyI} {fs : List (Nat × Nat)} (h : TyOK P t i) (hd : i.td = .agg fs) {j off ft : Nat} (hj : fs[j]? = some (off, ft)) :
    ∃ fields : Array Field, P.underlying t = some (.struct fields) ∧ ∃ fd, fields[j]? = some fd ∧ fd.offset = off ∧ fd.type = ft := by
  obtain ⟨h, _⟩ := h
  rw [hd] at h
  obtain ⟨fields, h1, h2⟩ := h
  refine ⟨fields, h1, ?_⟩
  rw [← h2, List.getElem?_map] at hj
  cases hf : fields.toList[j]? with
  | none => simp [hf] at hj
  | some fd =>
    rw [hf] at hj
    simp at hj
    exact ⟨fd, by simpa using hf, hj.1, hj.2⟩

theorem rd_field_pt {o : Oper} {t j off ft : Nat} {x : Operand} {i ift : TyI} {fs : List (Nat × Nat)} {cs : List AV} (h : o.op = .fieldAddr t x j) (ht : TyOK P t i) (hd : i.td = .agg fs) (hj : fs[j]? = some (off, ft))
    (hft : TyOK P ft ift) (hs : Nat.beq ift.size 0 = false) (hx : st.ev x = .pt cs) : Reads P st o (.pt (cs.drop off)) := by
  intro S0 B w0 I a w hr
  have h1 := hr.ev x
  rw [hx] at h1
  obtain ⟨b, of, e, hb, hc⟩ := h1.pt_inv
  obtain ⟨fields, h2, fd, h3, rfl, rfl⟩ := ht.field hd hj
  refine ⟨_, fun w' hw => ?_, .std (.pt hb (hc.drop _))⟩
  simp only [execOp, h, e, Instr.fieldAt, Instr.sureAddr, Sem.run_bind, run_under h2, Result.andThen_ok, h3, Sem.run_pure, run_fieldPlace (t := t) hft (Nat.ne_of_beq_eq_false hs)]

theorem rd_field_hp {o : Oper} {t j off ft id of : Nat} {x : Operand} {i ift : TyI} {fs : List (Nat × Nat)} (h : o.op = .fieldAddr t x j) (ht : TyOK P t i) (hd : i.td = .agg fs) (hj : fs[j]? = some (off, ft))
    (hft : TyOK P ft ift) (hs : Nat.beq ift.size 0 = false) (hx : st.ev x = .hp id of) : Reads P st o (.hp id (of + off)) := by
  intro S0 B w0 I a w hr
  have h1 := hr.ev x
  rw [hx] at h1
  obtain ⟨fields, h2, fd, h3, rfl, rfl⟩ := ht.field hd hj
  generalize e : a.eval x = y at h1
  cases h1 with
  | std h1 => cases h1
  | hp hi ha =>
    refine ⟨_, fun w' hw => ?_, .hp hi ha⟩
    simp only [execOp, h, e, Instr.fieldAt, Instr.sureAddr, Sem.run_bind, run_under h2, Result.andThen_ok, h3, Sem.run_pure, run_fieldPlace (t := t) hft (Nat.ne_of_beq_eq_false hs), Nat.add_assoc]
end
end Go.Ax
