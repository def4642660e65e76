/- Rows that stay: their lengths and elements; parts of values; how a call begins and ends; a call of a function that is told. -/
import Derived.Test.YtnfkdilmoppbpaaAxG
namespace Go.Ax
open Go.RowKit
set_option linter.unusedVariables false
set_option linter.unusedSimpArgs false

section
variable {P : Program} {st : St}

theorem TyOK.sliceE {t e : Nat} {i : TyI} (h : TyOK P t i) (hd : i.td = .td (.slice e)) : P.underlying t = some (.slice e) := by
  obtain ⟨h, _⟩ := h; rw [hd] at h; exact h.1

theorem rd_index_sl {o : Oper} {t e : Nat} {x ix : Operand} {it ie : TyI} {full : Bool} {sz : Nat} {xs : List (List AV)} {kk : IntKind} {n : Int} {cs : List AV} (h : o.op = .indexAddr t x ix) (ht : TyOK P t it)
    (hd : it.td = .td (.slice e)) (he : TyOK P e ie) (hsz : Nat.beq ie.size sz = true) (hx : st.ev x = .sl full sz xs) (hi : st.ev ix = .lit (.int kk n)) (h0 : 0 ≤ n) (hg : xs[n.toNat]? = some cs) : Reads P st o (.pt cs) := by
  intro S0 B w0 I a w hr
  have h1 := hr.ev x
  have h2 := hr.ev ix
  rw [hx] at h1
  rw [hi] at h2
  have hsz' := Nat.eq_of_beq_eq_true hsz
  have hlt : n.toNat < xs.length := (List.getElem?_eq_some_iff.1 hg).1
  generalize ex : a.eval x = y at h1
  cases h1 with
  | std h1 =>
    cases h1 with
    | sl0 => simp at hg
    | @sl _ _ _ b of cap _ _ hx2 hb hc =>
      have hc2 := (hc.drop (n.toNat * sz))
      rw [flatten_at hx2 hg] at hc2
      have hc3 := hc2.take cs.length
      rw [List.take_left] at hc3
      refine ⟨_, fun w' hw => ?_, .std (.pt hb hc3)⟩
      have hlt2 : n < (xs.length : Int) := by omega
      simp only [execOp, h, ex, h2.lit_inv, Instr.indexAt, asIntOf, Sem.run_bind, run_under (ht.sliceE hd), Result.andThen_ok, Sem.run_pure, h0, hlt2, and_self, if_true, run_size he, hsz', addr_add, decide_eq_true_eq]

theorem rd_len_sl {o : Oper} {t e : Nat} {x : Operand} {it : TyI} {full : Bool} {sz : Nat} {xs : List (List AV)} (h : o.op = .call { callee := .builtin .len, args := #[x], argTypes := #[t] }) (ht : TyOK P t it)
    (hd : it.td = .td (.slice e)) (hx : st.ev x = .sl full sz xs) : Reads P st o (.lit (.int .i64 xs.length)) := by
  refine rd_pure fun S0 B w0 I a w1 hr w => ?_
  have h1 := hr.ev x
  rw [hx] at h1
  generalize ex : a.eval x = y at h1
  have : ∃ ad cap, y = .slice ad xs.length cap := by
    cases h1 with | std h1 => cases h1 with | sl0 => exact ⟨_, _, rfl⟩ | sl => exact ⟨_, _, rfl⟩
  obtain ⟨ad, cap, rfl⟩ := this
  simp [execOp, h, ex, resolve, invoke, builtin, Builtin.len_, goInt, run_under (ht.sliceE hd)]

theorem rd_len_nil {o : Oper} {t e : Nat} {x : Operand} {it : TyI} (h : o.op = .call { callee := .builtin .len, args := #[x], argTypes := #[t] }) (ht : TyOK P t it)
    (hd : it.td = .td (.slice e)) (hx : st.ev x = .lit (.slice none 0 0)) : Reads P st o (.lit (.int .i64 0)) := by
  refine rd_pure fun S0 B w0 I a w1 hr w => ?_
  have h1 := hr.ev x
  rw [hx] at h1
  simp [execOp, h, h1.lit_inv, resolve, invoke, builtin, Builtin.len_, goInt, run_under (ht.sliceE hd)]

theorem rd_len_str {o : Oper} {t : Nat} {x : Operand} {it : TyI} {s : ByteArray} (h : o.op = .call { callee := .builtin .len, args := #[x], argTypes := #[t] }) (ht : TyOK P t it)
    (hd : it.td = .td .string) (hx : st.ev x = .lit (.string s)) : Reads P st o (.lit (.int .i64 s.size)) := by
  refine rd_pure fun S0 B w0 I a w1 hr w => ?_
  have h1 := hr.ev x
  rw [hx] at h1
  obtain ⟨hd2, _⟩ := ht; rw [hd] at hd2
  simp [execOp, h, h1.lit_inv, resolve, invoke, builtin, Builtin.len_, goInt, run_under hd2.1]

theorem Rep.tup_inv {I : Interp} {w : World} {cs : List AV} {x : Value} (h : Rep I w (.v (.tup cs) x)) : ∃ vs, x = .tuple vs.toArray ∧ Rep I w (.l cs vs) := by
  cases h with
  | std h => cases h with | tup h => exact ⟨_, rfl, h.l_rep⟩
  | tup h => exact ⟨_, rfl, h⟩

theorem Rep.agg_inv {I : Interp} {w : World} {cs : List AV} {x : Value} (h : Rep I w (.v (.agg cs) x)) : ∃ vs, x = .agg vs.toArray ∧ Rep I w (.l cs vs) := by
  cases h with
  | std h => cases h with | agg h => exact ⟨_, rfl, h.l_rep⟩
  | agg h => exact ⟨_, rfl, h⟩

theorem Rep.l_at {I : Interp} {w : World} {cs : List AV} {vs : List Value} (h : Rep I w (.l cs vs)) {j : Nat} {c : AV} (hj : cs[j]? = some c) : ∃ v, vs[j]? = some v ∧ Rep I w (.v c v) := by
  induction cs generalizing vs j with
  | nil => simp at hj
  | cons a as ih =>
    cases h with
    | cons h1 h2 =>
      cases j with
      | zero => simp at hj; subst hj; exact ⟨_, rfl, h1⟩
      | succ j => simpa using ih h2 (by simpa using hj)

theorem Rep.l_len {I : Interp} {w : World} {cs : List AV} {vs : List Value} (h : Rep I w (.l cs vs)) : vs.length = cs.length := by
  induction cs generalizing vs with
  | nil => cases h; rfl
  | cons a as ih => cases h with | cons _ h2 => simp [ih h2]

theorem Rep.l_drop {I : Interp} {w : World} {cs : List AV} {vs : List Value} (h : Rep I w (.l cs vs)) (n : Nat) : Rep I w (.l (cs.drop n) (vs.drop n)) := by
  induction n generalizing cs vs with
  | zero => simpa using h
  | succ n ih =>
    cases cs with
    | nil => cases h; exact .nil
    | cons a as => cases h with | cons _ h2 => simpa using ih h2

theorem Rep.l_take {I : Interp} {w : World} {cs : List AV} {vs : List Value} (h : Rep I w (.l cs vs)) (n : Nat) : Rep I w (.l (cs.take n) (vs.take n)) := by
  induction n generalizing cs vs with
  | zero => simpa using (Rep.nil (I := I) (w := w))
  | succ n ih =>
    cases cs with
    | nil => cases h; exact .nil
    | cons a as => cases h with | cons h1 h2 => simpa using Rep.cons h1 (ih h2)

theorem Rep.l_app {I : Interp} {w : World} {cs ds : List AV} {vs us : List Value} (h : Rep I w (.l cs vs)) (h2 : Rep I w (.l ds us)) : Rep I w (.l (cs ++ ds) (vs ++ us)) := by
  induction cs generalizing vs with
  | nil => cases h; exact h2
  | cons a as ih => cases h with | cons h1 h3 => exact .cons h1 (ih h3)

theorem rd_extract {o : Oper} {x : Operand} {j : Nat} {cs : List AV} {c : AV} (h : o.op = .extract x j) (hx : st.ev x = .tup cs) (hj : cs[j]? = some c) : Reads P st o c := by
  intro S0 B w0 I a w hr
  have h1 := hr.ev x
  rw [hx] at h1
  obtain ⟨vs, e, h2⟩ := h1.tup_inv
  obtain ⟨v, h3, h4⟩ := h2.l_at hj
  refine ⟨v, fun w' hw => ?_, h4⟩
  simp [execOp, h, e, Instr.extract, h3]

theorem rd_nilCheck_pt {o : Oper} {x : Operand} {cs : List AV} (h : o.op = .nilCheck x) (hx : st.ev x = .pt cs) : Reads P st o (.pt cs) := by
  intro S0 B w0 I a w hr
  have h1 := hr.ev x
  have h2 := h1
  rw [hx] at h1
  obtain ⟨b, of, e, _⟩ := h1.pt_inv
  rw [hx, e] at h2
  exact ⟨_, fun w' hw => by simp [execOp, h, e], h2⟩

theorem rd_nilCheck_hp {o : Oper} {x : Operand} {id off : Nat} (h : o.op = .nilCheck x) (hx : st.ev x = .hp id off) : Reads P st o (.hp id off) := by
  intro S0 B w0 I a w hr
  have h1 := hr.ev x
  have h2 := h1
  rw [hx] at h1
  obtain ⟨b, of, _, _, e⟩ := h1.hp_inv
  rw [hx, e] at h2
  exact ⟨_, fun w' hw => by simp [execOp, h, e], h2⟩

/-- A field of a struct's value. -/
theorem rd_field {o : Oper} {t j off ft : Nat} {x : Operand} {i ift : TyI} {fs : List (Nat × Nat)} {cs : List AV} {c : AV} (h : o.op = .field t x j) (ht : TyOK P t i) (hd : i.td = .agg fs) (hj : fs[j]? = some (off, ft))
    (hft : TyOK P ft ift) (ha : ift.isAgg = false) (hx : st.ev x = .agg cs) (hc : cs[off]? = some c) : Reads P st o c := by
  intro S0 B w0 I a w hr
  have h1 := hr.ev x
  rw [hx] at h1
  obtain ⟨vs, e, h2⟩ := h1.agg_inv
  obtain ⟨v, h3, h4⟩ := h2.l_at hc
  obtain ⟨fields, g2, fd, g3, rfl, rfl⟩ := ht.field hd hj
  refine ⟨v, fun w' hw => ?_, h4⟩
  simp [execOp, h, e, Instr.field, run_under g2, g3, asAgg, part, run_isAgg hft, ha, h3]

theorem rd_field_agg {o : Oper} {t j off ft : Nat} {x : Operand} {i ift : TyI} {fs : List (Nat × Nat)} {cs : List AV} (h : o.op = .field t x j) (ht : TyOK P t i) (hd : i.td = .agg fs) (hj : fs[j]? = some (off, ft))
    (hft : TyOK P ft ift) (ha : ift.isAgg = true) (hx : st.ev x = .agg cs) : Reads P st o (.agg ((cs.drop off).take ift.size)) := by
  intro S0 B w0 I a w hr
  have h1 := hr.ev x
  rw [hx] at h1
  obtain ⟨vs, e, h2⟩ := h1.agg_inv
  obtain ⟨fields, g2, fd, g3, rfl, rfl⟩ := ht.field hd hj
  have h4 := (h2.l_drop fd.offset).l_take ift.size
  refine ⟨_, fun w' hw => ?_, .agg h4⟩
  have e2 : vs.toArray.extract fd.offset (fd.offset + ift.size) = ((vs.drop fd.offset).take ift.size).toArray := by
    rw [List.extract_toArray]; simp [List.extract_eq_drop_take']
  simp [execOp, h, e, Instr.field, run_under g2, g3, asAgg, part, run_isAgg hft, ha, run_size hft, e2]

/-- What a struct's parts make of its zero. -/
def fillA (fs : List (Nat × Nat × Nat)) : List AV → List (Nat × AV) → Option (List AV)
  | cs, [] => some cs
  | cs, (j, v) :: r => match fs[j]? with
    | none => none
    | some (off, sz, _) => bif Nat.beq v.cells.length sz && Nat.ble (off + sz) cs.length then fillA fs (splice cs off v.cells) r else none
end

section
variable {P : Program} {f : Nat} {Q : Post} {st st' : St}

/-- A weaker state serves, too. -/
theorem run_weak {todo : List Item} {tm : List (Nat × AV)} (h : Run P f Q todo ⟨tm, st.hp, st.nx, st.nt⟩) (ht : ∀ d, get d tm = get d st.tm ∨ get d tm = .any) : Run P f Q todo st := by
  intro S0 B w0 I a w hlo hr
  refine h S0 B w0 I a w hlo { hr with tm := fun d => ?_ }
  rcases ht d with e | e
  · rw [e]; exact hr.tm d
  · rw [e]; exact .std (.any _)

/-- How a call begins. -/
theorem good_of_run {Q : AV → Prop} {fn : Func} {c : Code} {args : List AV} (hf : P.funcs[f]? = some fn) (hb : fn.body = some c) (hn : Nat.ble args.length fn.ntmps = true)
    (h : Run P f (Post.one Q) [.code c] ⟨(List.range args.length).zip args, [], 0, fn.ntmps⟩) : Good P f args Q := by
  intro S0 w vs hS hv cs
  have hn' := Nat.le_of_ble_eq_true hn
  have hlen : vs.length = args.length := (hv.l_rep (I := ⟨S0, fun _ => none, fun _ => 0, fun _ => 0, 0⟩)).l_len
  let b : Frame := { (default : Frame) with fn := f, kind := .normal }
  have henter : Frame.enter P f vs.toArray .normal = b.at { tmps := vs.toArray ++ Array.replicate (fn.ntmps - vs.toArray.size) undef, defers := [] } [.code c] := by
    simp [Frame.enter, Frame.at, hf, hb, b]
  rw [henter]
  refine h ⟨S0, fun _ => none, fun _ => 0, fun _ => 0, 0⟩ w.heap.size w ⟨S0, fun _ => none, fun _ => 0, fun _ => 0, 0⟩ _ w rfl ⟨fun d => ?_, by simp; omega, rfl, rfl, ⟨[], .nil, List.nodup_nil, by simp⟩, hS, Ext.refl _ _, fun _ h => .inl h, Below.refl _ _, Nat.le_refl _⟩ b rfl rfl cs
  have key : ∀ (n : Nat) (as : List AV) (xs : List Value), Std S0 w (.l as xs) → ∀ d, (∃ v x, get d ((List.range' n as.length).zip as) = v ∧ n ≤ d ∧ xs[d - n]? = some x ∧ Std S0 w (.v v x)) ∨ get d ((List.range' n as.length).zip as) = .any := by
    intro n as
    induction as generalizing n with
    | nil => intro xs _ d; right; rfl
    | cons a as ih =>
      intro xs hx d
      cases hx with
      | cons h1 h2 =>
        simp only [List.length_cons, List.range'_succ, List.zip_cons_cons]
        rw [get_cons]
        by_cases e : n = d
        · subst e; left; exact ⟨a, _, by simp, Nat.le_refl _, by simp, h1⟩
        · rw [if_neg e]
          rcases ih (n + 1) _ h2 d with ⟨v, x, g1, g2, g3, g4⟩ | g
          · left; refine ⟨v, x, g1, by omega, ?_, g4⟩
            rw [show d - n = (d - (n + 1)) + 1 from by omega]; simpa using g3
          · right; exact g
  rw [List.range_eq_range']
  rcases key 0 args vs hv d with ⟨v, x, g1, g2, g3, g4⟩ | g
  · rw [g1]
    have : (vs.toArray ++ Array.replicate (fn.ntmps - vs.toArray.size) undef).getD d undef = x := by
      have hd : d < vs.length := (List.getElem?_eq_some_iff.1 g3).1
      simp at g3
      simp [Array.getD_eq_getD_getElem?, Array.getElem?_append, hd]
      obtain ⟨_, g3⟩ := List.getElem?_eq_some_iff.1 g3
      exact g3
    rw [this]; exact .std g4
  · rw [g]; exact .std (.any _)
end
end Go.Ax
