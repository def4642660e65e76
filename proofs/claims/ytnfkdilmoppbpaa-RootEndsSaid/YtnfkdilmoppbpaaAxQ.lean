/- One's own rows, read; closures made. -/
import Derived.Test.YtnfkdilmoppbpaaAxP
namespace Go.Ax
open Go.RowKit
set_option linter.unusedVariables false
set_option linter.unusedSimpArgs false

/-- The sizes of a struct's fields, found. -/
class SzF (P : Program) (fs : List (Nat × Nat)) (ss : outParam (List Nat)) : Prop where
  ok : Sizes P fs ss

instance szNil {P : Program} : SzF P [] [] := ⟨.nil⟩
instance szCons {P : Program} {off t : Nat} {i : TyI} {fs : List (Nat × Nat)} {ss : List Nat} [h1 : TyF P t i] [h2 : SzF P fs ss] : SzF P ((off, t) :: fs) (i.size :: ss) := ⟨.cons h1.ok h2.ok⟩

theorem Own.l_drop {S : Nat → Prop} {w : World} {as : List AV} {vs : List Value} {F : List Nat} (h : Own S w (.l as vs) F) (n : Nat) : ∃ G, Own S w (.l (as.drop n) (vs.drop n)) G := by
  induction n generalizing as vs F with
  | zero => exact ⟨F, by simpa using h⟩
  | succ n ih =>
    cases as with
    | nil => cases h; exact ⟨[], .nil⟩
    | cons a as => cases h with | cons _ h2 => simpa using ih h2

theorem Own.l_take {S : Nat → Prop} {w : World} {as : List AV} {vs : List Value} {F : List Nat} (h : Own S w (.l as vs) F) (n : Nat) : ∃ G, Own S w (.l (as.take n) (vs.take n)) G := by
  induction n generalizing as vs F with
  | zero => exact ⟨[], by simpa using (Own.nil (S := S) (w := w))⟩
  | succ n ih =>
    cases as with
    | nil => cases h; exact ⟨[], .nil⟩
    | cons a as =>
      cases h with
      | cons h1 h2 =>
        obtain ⟨G, hG⟩ := ih h2
        exact ⟨_, by simpa using Own.cons h1 hG⟩

theorem Own.rep {I : Interp} {w : World} {a : AV} {x : Value} {F : List Nat} (h : Own I.S w (.v a x) F) (hp : a.plain = true) : Rep I w (.v a x) := (show Leaf I w a x F from .inr h).rep hp

theorem Own.l_rep {I : Interp} {w : World} {as : List AV} : ∀ {vs : List Value} {F : List Nat}, Own I.S w (.l as vs) F → as.all AV.plain = true → Rep I w (.l as vs) := by
  induction as with
  | nil => intro vs F h _; cases h; exact .nil
  | cons a as ih =>
    intro vs F h hp
    simp only [List.all_cons, Bool.and_eq_true] at hp
    cases h with | cons h1 h2 => exact .cons (h1.rep hp.1) (ih h2 hp.2)

theorem CellsAt.drop {w : World} {b o : Nat} {vs : List Value} (h : CellsAt w b o vs) (n : Nat) : CellsAt w b (o + n) (vs.drop n) := by
  intro j v hj
  rw [List.getElem?_drop] at hj
  have := h _ v hj
  rw [show o + n + j = o + (n + j) from by omega]; exact this

theorem CellsAt.take {w : World} {b o : Nat} {vs : List Value} (h : CellsAt w b o vs) (n : Nat) : CellsAt w b o (vs.take n) := by
  intro j v hj
  rw [List.getElem?_take] at hj
  split at hj
  · exact h j v hj
  · cases hj

theorem Rep.hw_inv {I : Interp} {w : World} {id : Nat} {x : Value} (h : Rep I w (.v (.hw id) x)) : id < I.nx ∧ ((I.at_ id = none ∧ I.ln id = 0 ∧ ∃ a, x = .slice a 0 0) ∨
    ∃ b o cap c, I.at_ id = some (b, o) ∧ I.ln id ≤ cap ∧ Blk w b c ∧ o + cap * I.sz id ≤ c.size ∧ x = .slice (some ⟨b, o, none⟩) (I.ln id) cap) := by
  cases h with
  | std h => cases h
  | hw0 hi ha h0 _ => exact ⟨hi, .inl ⟨ha, h0, _, rfl⟩⟩
  | hw hi ha hn hb hs => exact ⟨hi, .inr ⟨_, _, _, _, ha, hn, hb, hs, rfl⟩⟩

theorem RowOK.ln_eq {I : Interp} {w : World} {id sz : Nat} {xs : List (List AV)} {F : List Nat} (h : RowOK I w id (.row sz xs) F) : I.ln id = xs.length ∧ I.sz id = sz := by
  cases h with
  | row0 _ _ h1 h2 => exact ⟨h1, h2⟩
  | row _ _ h1 h2 => exact ⟨h1, h2⟩

theorem RowOK.cells {I : Interp} {w : World} {id sz b o : Nat} {xs : List (List AV)} {F : List Nat} (h : RowOK I w id (.row sz xs) F) (ha : I.at_ id = some (b, o)) :
    (∀ x ∈ xs, x.length = sz) ∧ ∃ vs G, Own I.S w (.l xs.flatten vs) G ∧ CellsAt w b o vs := by
  cases h with
  | row0 _ ha' => rw [ha] at ha'; cases ha'
  | row _ ha' _ _ _ _ hx ho =>
    rw [ha] at ha'
    cases ha'
    obtain ⟨vs, h1, h2⟩ := ho.cells
    exact ⟨hx, vs, _, h1, h2⟩

theorem Rep.hq_inv {I : Interp} {w : World} {id i off : Nat} {x : Value} (h : Rep I w (.v (.hq id i off) x)) : ∃ b o, id < I.nx ∧ I.at_ id = some (b, o) ∧ x = .pointer (some ⟨b, o + i * I.sz id + off, none⟩) := by
  cases h with
  | std h => cases h
  | hq hi ha => exact ⟨_, _, hi, ha, rfl⟩

section
variable {P : Program} {st : St}

theorem rd_len_hw {o : Oper} {t e id sz : Nat} {x : Operand} {it : TyI} {xs : List (List AV)} (h : o.op = .call { callee := .builtin .len, args := #[x], argTypes := #[t] }) (ht : TyOK P t it)
    (hd : it.td = .td (.slice e)) (hx : st.ev x = .hw id) (hrow : row id st.hp = some (.row sz xs)) : Reads P st o (.lit (.int .i64 xs.length)) := by
  refine rd_pure fun S0 B w0 I a w1 hr w => ?_
  have h1 := hr.ev x
  rw [hx] at h1
  obtain ⟨T, k1, _, _⟩ := hr.hp
  obtain ⟨F, T', g1, _, _⟩ := k1.take hrow
  have hln := g1.ln_eq.1
  generalize ex : a.eval x = y at h1
  have : ∃ ad cap, y = .slice ad xs.length cap := by
    obtain ⟨_, ⟨_, h0, ad, rfl⟩ | ⟨b, of, cap, c, _, _, _, _, rfl⟩⟩ := h1.hw_inv
    · rw [h0] at hln; rw [← hln]; exact ⟨_, _, rfl⟩
    · rw [hln]; exact ⟨_, _, rfl⟩
  obtain ⟨ad, cap, rfl⟩ := this
  simp [execOp, h, ex, resolve, invoke, builtin, Builtin.len_, goInt, run_under (ht.sliceE hd)]

theorem rd_index_hw {o : Oper} {t e id sz : Nat} {x ix : Operand} {it ie : TyI} {xs : List (List AV)} {kk : IntKind} {n : Int} (h : o.op = .indexAddr t x ix) (ht : TyOK P t it)
    (hd : it.td = .td (.slice e)) (he : TyOK P e ie) (hx : st.ev x = .hw id) (hrow : row id st.hp = some (.row sz xs)) (hsz : Nat.beq ie.size sz = true) (hi : st.ev ix = .lit (.int kk n)) (h0 : 0 ≤ n) (hg : n.toNat < xs.length) : Reads P st o (.hq id n.toNat 0) := by
  intro S0 B w0 I a w hr
  have h1 := hr.ev x
  have h2 := hr.ev ix
  rw [hx] at h1
  rw [hi] at h2
  have hsz' := Nat.eq_of_beq_eq_true hsz
  obtain ⟨T, k1, _, _⟩ := hr.hp
  obtain ⟨F, T', g1, _, _⟩ := k1.take hrow
  obtain ⟨hln, hszz⟩ := g1.ln_eq
  obtain ⟨hid, ⟨_, h0', ad, _⟩ | ⟨b, of, cap, c, ha, _, _, _, ex⟩⟩ := h1.hw_inv
  · omega
  · refine ⟨_, fun w' hw => ?_, .hq hid ha⟩
    have hlt2 : n < (I.ln id : Int) := by omega
    simp only [execOp, h, ex, h2.lit_inv, Instr.indexAt, asIntOf, Sem.run_bind, run_under (ht.sliceE hd), Result.andThen_ok, Sem.run_pure, h0, hlt2, and_self, if_true, run_size he, hsz', addr_add, decide_eq_true_eq, hszz, Nat.add_zero]

theorem rd_field_hq {o : Oper} {t j off ft id n of : Nat} {x : Operand} {i ift : TyI} {fs : List (Nat × Nat)} (h : o.op = .fieldAddr t x j) (ht : TyOK P t i) (hd : i.td = .agg fs) (hj : fs[j]? = some (off, ft))
    (hft : TyOK P ft ift) (hs : Nat.beq ift.size 0 = false) (hx : st.ev x = .hq id n of) : Reads P st o (.hq id n (of + off)) := by
  intro S0 B w0 I a w hr
  have h1 := hr.ev x
  rw [hx] at h1
  obtain ⟨fields, h2, fd, h3, rfl, rfl⟩ := ht.field hd hj
  obtain ⟨b, o', hid, ha, e⟩ := h1.hq_inv
  refine ⟨_, fun w' hw => ?_, .hq hid ha⟩
  simp only [execOp, h, e, Instr.fieldAt, Instr.sureAddr, Sem.run_bind, run_under h2, Result.andThen_ok, h3, Sem.run_pure, run_fieldPlace (t := t) hft (Nat.ne_of_beq_eq_false hs), Nat.add_assoc]

theorem rd_loads_hq {o : Oper} {t id n off sz : Nat} {x : Operand} {i : TyI} {xs : List (List AV)} {cs : List AV} (h : o.op = .load t x) (ht : TyOK P t i) (ha : i.isAgg = true) (hx : st.ev x = .hq id n off)
    (hrow : row id st.hp = some (.row sz xs)) (hg : xs[n]? = some cs) (hn : Nat.ble (off + i.size) cs.length = true) (hp : ((cs.drop off).take i.size).all AV.plain = true) : Reads P st o (.agg ((cs.drop off).take i.size)) := by
  intro S0 B w0 I a w hr
  have h1 := hr.ev x
  rw [hx] at h1
  have hn' := Nat.le_of_ble_eq_true hn
  obtain ⟨b, of, hi, hat, e⟩ := h1.hq_inv
  obtain ⟨T, k1, k2, k3⟩ := hr.hp
  obtain ⟨F, T', g1, g2, g3⟩ := k1.take hrow
  obtain ⟨hxs, vs, G, ho, hc⟩ := g1.cells hat
  obtain ⟨G2, ho2⟩ := ho.l_drop (n * sz + off)
  have e1 : (xs.flatten.drop (n * sz + off)).take i.size = (cs.drop off).take i.size := by
    rw [← List.drop_drop, flatten_at hxs hg, List.drop_append_of_le_length (by omega), List.take_append_of_le_length (by rw [List.length_drop]; omega)]
  obtain ⟨G3, ho3⟩ := ho2.l_take i.size
  have hc3 := (hc.drop (n * sz + off)).take i.size
  rw [e1] at ho3
  have hlen : ((vs.drop (n * sz + off)).take i.size).length = i.size := by rw [ho3.l_len, List.length_take, List.length_drop]; omega
  refine ⟨.agg ((vs.drop (n * sz + off)).take i.size).toArray, fun w' hw0 => ?_, .agg (ho3.l_rep hp)⟩
  have hw : Same _ w' := hw0.resolve_left (by rw [h]; simp [memFree])
  have := run_cells (P := P) _ (hc3.same hw)
  rw [hlen, ← Nat.add_assoc] at this
  simp only [execOp, h, e, Instr.loadAt, Instr.sureAddr, loadVar, Sem.run_bind, Sem.run_pure, Result.andThen_ok, run_isAgg ht, ha, if_true, run_size ht, g1.ln_eq.2, this]

theorem rd_load_hq {o : Oper} {t id n off sz : Nat} {x : Operand} {i : TyI} {xs : List (List AV)} {cs : List AV} {v : AV} {r : List AV} (h : o.op = .load t x) (ht : TyOK P t i) (ha : i.isAgg = false) (hx : st.ev x = .hq id n off)
    (hrow : row id st.hp = some (.row sz xs)) (hg : xs[n]? = some cs) (hd : cs.drop off = v :: r) (hp : v.plain = true) : Reads P st o v := by
  intro S0 B w0 I a w hr
  have h1 := hr.ev x
  rw [hx] at h1
  obtain ⟨b, of, hi, hat, e⟩ := h1.hq_inv
  obtain ⟨T, k1, k2, k3⟩ := hr.hp
  obtain ⟨F, T', g1, g2, g3⟩ := k1.take hrow
  obtain ⟨hxs, vs, G, ho, hc⟩ := g1.cells hat
  obtain ⟨G2, ho2⟩ := ho.l_drop (n * sz + off)
  have hlt : off < cs.length := by
    rcases Nat.lt_or_ge off cs.length with h | h
    · exact h
    · rw [List.drop_eq_nil_of_le h] at hd; cases hd
  have e1 : xs.flatten.drop (n * sz + off) = v :: (r ++ (xs.drop (n + 1)).flatten) := by
    rw [← List.drop_drop, flatten_at hxs hg, List.drop_append_of_le_length (by omega), hd]; rfl
  have hc3 := hc.drop (n * sz + off)
  rw [e1] at ho2
  generalize vs.drop (n * sz + off) = us at ho2 hc3
  cases ho2 with
  | cons h1 _ =>
    refine ⟨_, fun w' hw0 => ?_, h1.rep hp⟩
    have hw : Same _ w' := hw0.resolve_left (by rw [h]; simp [memFree])
    have hcell := hw.cell (hc3 0 _ rfl)
    rw [Nat.add_zero, ← Nat.add_assoc] at hcell
    simp only [execOp, h, e, Instr.loadAt, Instr.sureAddr, loadVar, Sem.run_bind, Sem.run_pure, Result.andThen_ok, run_isAgg ht, ha, if_false, Bool.false_eq_true, run_load, g1.ln_eq.2, hcell]

theorem rd_makeFunc {o : Oper} {g : Nat} {xs : Array Operand} {cs : List AV} (h : o.op = .makeFunc (.func g) #[] xs) (hx : xs.toList.map st.ev = cs) : Reads P st o (.fn g cs) := by
  intro S0 B w0 I a w hr
  have h1 := hr.evs xs.toList
  rw [hx] at h1
  refine ⟨.func (.func g) #[] (xs.toList.map a.eval).toArray, fun w' hw => ?_, .fn h1⟩
  have e0 : xs.map a.eval = (xs.toList.map a.eval).toArray := by rw [← Array.toList_map, Array.toArray_toList]
  simp [execOp, h, Instr.makeFunc, e0]

theorem rd_min {o : Oper} {x y : Operand} {ts : Array Nat} {k : IntKind} {m n : Int} (h : o.op = .call { callee := .builtin .min, args := #[x, y], argTypes := ts }) (hx : st.ev x = .lit (.int k m)) (hy : st.ev y = .lit (.int k n)) :
    Reads P st o (.lit (.int k (min m n))) := by
  refine rd_pure fun S0 B w0 I a w1 hr w => ?_
  have h1 := hr.ev x
  have h2 := hr.ev y
  rw [hx] at h1; rw [hy] at h2
  have e : (if n < m then n else m) = min m n := by split <;> omega
  simp [execOp, h, h1.lit_inv, h2.lit_inv, resolve, invoke, builtin, Builtin.min_, Builtin.min2, e]
end
end Go.Ax
