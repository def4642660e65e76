/- What is read, of several values; what is nil; parts of rows; results that are pointers; control; calls that look at one's own; calls with the heap; what is one's own no more. -/
import Derived.Test.YtnfkdilmoppbpaaAxUb
import Derived.Laws.Pointers
import Derived.WalkSpells
namespace Go.Ax
open Go.RowKit
set_option linter.unusedVariables false
set_option linter.unusedSimpArgs false

/-- What an operation reads, one of several. -/
def ReadsN (P : Program) (st : St) (o : Oper) (V : AV → Prop) : Prop :=
  ∀ S0 B w0 I a w, Rel S0 B w0 I st a w → ∃ v x, V v ∧ (∀ w', (memFree o.op = true ∨ Same w w') → (execOp a.eval o).run P w' = .ok (.value x) w') ∧ Rep I w (.v v x)

theorem Reads.n {P : Program} {st : St} {o : Oper} {v : AV} (h : Reads P st o v) : ReadsN P st o (· = v) := fun S0 B w0 I a w hr =>
  let ⟨x, h1, h2⟩ := h S0 B w0 I a w hr
  ⟨v, x, rfl, h1, h2⟩

section
variable {P : Program} {f : Nat} {Q : Post} {k : List Item} {st : St} {A : Array Oper} {i : Nat} {rest : List Nat}

theorem run_opN {d : Nat} {op : Op} {t : Nat} {pos : String} {af : Array Edge} {g : Option (Nat × Bool)} {V : AV → Prop} (ho : A[i]? = some ⟨some d, op, t, pos, af, g⟩) (hw : Want A st g) (hd : Nat.blt d st.nt = true)
    (hop : ReadsN P st ⟨some d, op, t, pos, af, g⟩ V) (h : ∀ v, V v → Run P f Q (.inRegion A rest :: k) (st.set d v)) : Run P f Q (.inRegion A (i :: rest) :: k) st := by
  intro S0 B w0 I a w hlo hr b hb hk cs
  obtain ⟨v, x, hv, h1, h2⟩ := hop S0 B w0 I a w hr
  obtain ⟨e, w2, fr, g1, g2, g3, g4⟩ := h v hv S0 B w0 I _ w hlo (hr.put hd h2) b hb hk cs
  exact ⟨e, w2, fr, g1, Comes.of_steps (.one (step_op_value ho (hr.wanted hw) (h1 w (.inr (Same.refl w))))) g2, g3, g4⟩

theorem drawn_readN {L : Array Bool} {n d : Nat} {op : Op} {t : Nat} {pos : String} {af : Array Edge} {g : Option (Nat × Bool)} {V : AV → Prop} (ho : A[i]? = some ⟨some d, op, t, pos, af, g⟩) (hc : clear A L i = true) (hw : Want A st g) (hd : Nat.blt d st.nt = true)
    (hop : ReadsN P st ⟨some d, op, t, pos, af, g⟩ V) (h : ∀ v, V v → Drawn P f Q k A n (L.setIfInBounds i true) (st.set d v)) : Drawn P f Q k A (n + 1) L st := by
  intro S0 B w0 I a w hlo hr
  obtain ⟨v, x, hv, h1, h2⟩ := hop S0 B w0 I a w hr
  obtain ⟨c1, c2, c3⟩ := clear_spec ho hc
  exact anyB_first ho c1 n L a w c3 c2 (.inl ⟨hr.wanted hw, h1⟩) (h v hv S0 B w0 I _ w hlo (hr.put hd h2))

theorem step_scope {b : Frame} {a : Act} {cs : List Frame} {w : World} {body : Code} : step P (lone (b.at a (.code (.scope body) :: k)) cs w) = .next (lone (b.at a (.code body :: .inScope body :: k)) cs w) :=
  step_lone_go (by simp [stepG, stepG.exec, Frame.at])
theorem step_inScope {b : Frame} {a : Act} {cs : List Frame} {w : World} {body : Code} : step P (lone (b.at a (.inScope body :: k)) cs w) = .next (lone (b.at a k) cs w) :=
  step_lone_go (by simp [stepG, stepG.exec, Frame.at])
theorem run_scope {c : Code} (h : Run P f Q (.code c :: .inScope c :: k) st) : Run P f Q (.code (.scope c) :: k) st := run_move' h fun _ _ _ _ => step_scope
theorem run_inScope {c : Code} (h : Run P f Q k st) : Run P f Q (.inScope c :: k) st := run_move' h fun _ _ _ _ => step_inScope
end

section
variable {P : Program} {st : St} {o : Oper}

/-- What is a row, whatever it hangs on. -/
def SlOf (st : St) (v : AV) (xs : List (List AV)) : Prop := ∀ S0 B w0 I a w y, Rel S0 B w0 I st a w → Rep I w (.v v y) → ∃ ad cap, y = .slice ad xs.length cap ∧ (ad = none → xs = [])

theorem slOf_sl {f : Bool} {sz : Nat} {xs : List (List AV)} : SlOf st (.sl f sz xs) xs := fun S0 B w0 I a w y hr h => by
  cases h with
  | std h => cases h with
    | sl0 => exact ⟨_, _, rfl, fun _ => rfl⟩
    | sl => exact ⟨_, _, rfl, fun h => by cases h⟩

theorem slOf_hw {id sz : Nat} {xs : List (List AV)} (hrow : row id st.hp = some (.row sz xs)) : SlOf st (.hw id) xs := fun S0 B w0 I a w y hr h => by
  obtain ⟨T, k1, _, _⟩ := hr.hp
  obtain ⟨F, T', g1, _, _⟩ := k1.take hrow
  have hln := g1.ln_eq.1
  obtain ⟨_, ⟨_, h0, ad, rfl⟩ | ⟨b, of, cap, c, _, _, _, _, rfl⟩⟩ := h.hw_inv
  · rw [h0] at hln
    have : xs = [] := List.eq_nil_of_length_eq_zero hln.symm
    subst this
    exact ⟨_, _, rfl, fun _ => rfl⟩
  · rw [hln]; exact ⟨_, _, rfl, fun h => by cases h⟩

theorem rd_slnil {t t2 e : Nat} {x y : Operand} {i : TyI} {v : AV} {xs : List (List AV)} {neg : Bool} (h : o.op = .binOp (bif neg then .neq else .eql) t x y t2) (ht : TyOK P t i) (hd : i.td = .td (.slice e)) (hx : st.ev x = v) (hs : SlOf st v xs) (hy : st.ev y = .lit (.slice none 0 0)) :
    ReadsN P st o (fun u => ∃ b : Bool, (b = true → xs = []) ∧ u = .lit (.bool (neg != b))) := by
  intro S0 B w0 I a w hr
  have h1 := hr.ev x
  have h2 := hr.ev y
  rw [hx] at h1; rw [hy] at h2
  obtain ⟨ad, cap, e1, e2⟩ := hs S0 B w0 I a w _ hr h1
  have e3 := h2.lit_inv
  have hu := ht.sliceE hd
  refine ⟨_, .bool (neg != ad.isNone), ⟨ad.isNone, fun hb => e2 (by simpa using hb), rfl⟩, fun w' _ => ?_, .std (.lit _)⟩
  cases neg with
  | false =>
    simp only [execOp, h, cond_false, e1, e3]
    simp only [Sem.run_bind]
    simp only [eqGuard, bne]
    cases ad <;> simp [Lib.run_eql_slice_nil w' t e _ _ _ _ _ hu]
  | true =>
    simp only [execOp, h, cond_true, e1, e3]
    simp only [Sem.run_bind]
    simp only [eqGuard, bne]
    cases ad <;> simp [run_neq_slice_nil_any w' t e _ _ _ _ _ hu]

/-- What is a pointer, and whether it is nil. -/
theorem rd_ptrnil {t t2 e : Nat} {x y : Operand} {i : TyI} {v : AV} {neg b : Bool} (h : o.op = .binOp (bif neg then .neq else .eql) t x y t2) (ht : TyOK P t i) (hd : i.td = .td (.pointer e)) (hx : st.ev x = v) (hv : ∀ I w z, Rep I w (.v v z) → ∃ p : Option Addr, z = .pointer p ∧ p.isNone = b) (hy : st.ev y = .lit (.pointer none)) :
    Reads P st o (.lit (.bool (neg != b))) := by
  refine rd_pure fun S0 B w0 I a w1 hr w => ?_
  have h1 := hr.ev x
  have h2 := hr.ev y
  rw [hx] at h1; rw [hy] at h2
  obtain ⟨p, e1, rfl⟩ := hv _ _ _ h1
  have e3 := h2.lit_inv
  have hu : P.underlying t = some (.pointer (P.pointee t)) := by
    obtain ⟨h3, _⟩ := ht; rw [hd] at h3
    have := h3.1
    unfold Program.pointee; rw [this]
  cases neg with
  | false =>
    simp only [execOp, h, cond_false, e1, e3]
    simp only [Sem.run_bind]
    simp only [eqGuard, bne]
    cases p <;> simp [run_eql_pointer_nil w t _ hu]
  | true =>
    simp only [execOp, h, cond_true, e1, e3]
    simp only [Sem.run_bind]
    simp only [eqGuard, bne]
    cases p <;> simp [run_neq_pointer_nil w t _ hu]

theorem rd_eq_text {t t2 : Nat} {x y : Operand} {m n : ByteArray} {neg : Bool} (h : o.op = .binOp (bif neg then .neq else .eql) t x y t2) (ht : P.underlying t = some .string) (hx : st.ev x = .lit (.string m)) (hy : st.ev y = .lit (.string n)) :
    Reads P st o (.lit (.bool (neg != (m.toList == n.toList)))) := by
  refine rd_pure fun S0 B w0 I a w1 hr w => ?_
  have h1 := hr.ev x
  have h2 := hr.ev y
  rw [hx] at h1; rw [hy] at h2
  cases neg with
  | false =>
    simp only [execOp, h, cond_false]
    rw [h1.lit_inv, h2.lit_inv]
    simp only [Sem.run_bind]
    simp only [eqGuard, bne, binOp]
    simp [Op.stringOp]
  | true =>
    simp only [execOp, h, cond_true]
    rw [h1.lit_inv, h2.lit_inv]
    simp only [Sem.run_bind]
    simp only [eqGuard, bne, binOp]
    simp [Op.stringOp]

theorem rd_max {x y : Operand} {ts : Array Nat} {k : IntKind} {m n : Int} (h : o.op = .call { callee := .builtin .max, args := #[x, y], argTypes := ts }) (hx : st.ev x = .lit (.int k m)) (hy : st.ev y = .lit (.int k n)) :
    Reads P st o (.lit (.int k (max m n))) := by
  refine rd_pure fun S0 B w0 I a w1 hr w => ?_
  have h1 := hr.ev x
  have h2 := hr.ev y
  rw [hx] at h1; rw [hy] at h2
  have e : (if m < n then n else m) = max m n := by split <;> omega
  simp [execOp, h, h1.lit_inv, h2.lit_inv, resolve, invoke, builtin, Builtin.max_, Builtin.max2, e]

/-- A part of a row that stays. -/
theorem rd_slice {t e : Nat} {x : Operand} {lo hi : Option Operand} {it ie : TyI} {f : Bool} {sz : Nat} {xs : List (List AV)} {l m : Int} (h : o.op = .slice t x lo hi none) (ht : TyOK P t it) (hd : it.td = .td (.slice e)) (he : TyOK P e ie) (hsz : Nat.beq ie.size sz = true) (hx : st.ev x = .sl f sz xs)
    (hl : match lo with | none => l = 0 | some y => st.ev y = .lit (.int .i64 l)) (hh : match hi with | none => m = xs.length | some y => st.ev y = .lit (.int .i64 m)) (h0 : 0 ≤ l) (h1 : l ≤ m) (h2 : m ≤ xs.length) :
    Reads P st o (.sl false sz ((xs.drop l.toNat).take (m.toNat - l.toNat))) := by
  intro S0 B w0 I a w hr
  have k1 := hr.ev x
  rw [hx] at k1
  obtain ⟨l, rfl⟩ : ∃ n : Nat, l = n := ⟨l.toNat, by omega⟩
  obtain ⟨m, rfl⟩ : ∃ n : Nat, m = n := ⟨m.toNat, by omega⟩
  have hlen : ((xs.drop l).take (m - l)).length = m - l := by rw [List.length_take, List.length_drop]; omega
  have hsz' := Nat.eq_of_beq_eq_true hsz
  generalize ex : a.eval x = y at k1
  have hcap : ∃ ad cap, y = .slice ad xs.length cap ∧ xs.length ≤ cap := by
    cases k1 with | std k1 => cases k1 with
      | sl0 => exact ⟨_, _, rfl, by simp⟩
      | sl _ hc => exact ⟨_, _, rfl, hc⟩
  obtain ⟨ad, cap, rfl, hcap⟩ := hcap
  have hb : ∀ w', (Instr.sliceBounds true xs.length cap (lo.map a.eval) (hi.map a.eval) none).run P w' = .ok (l, m, cap) w' := by
    intro w'
    have hlo : ∀ y, lo = some y → a.eval y = .int .i64 l := fun y e => by
      subst e; have := hr.ev y; rw [hl] at this; exact this.lit_inv
    have hhi : ∀ y, hi = some y → a.eval y = .int .i64 m := fun y e => by
      subst e; have := hr.ev y; rw [hh] at this; exact this.lit_inv
    cases lo with
    | none =>
      have : l = 0 := by simp at hl; omega
      subst this
      cases hi with
      | none =>
        have : m = xs.length := by simp at hh; omega
        subst this
        simp [Instr.sliceBounds]
      | some y =>
        have : (0 : Int) ≤ m ∧ m ≤ cap := by omega
        simp [Instr.sliceBounds, Instr.sliceBound, asIntOf, hhi y rfl]; omega
    | some y =>
      cases hi with
      | none =>
        have : m = xs.length := by simp at hh; omega
        subst this
        simp [Instr.sliceBounds, Instr.sliceBound, asIntOf, hlo y rfl]; omega
      | some z =>
        have : (m : Int) ≤ cap := by omega
        have h3 : m ≤ cap := by omega
        have h4 : l ≤ m := by omega
        simp [Instr.sliceBounds, Instr.sliceBound, asIntOf, hlo y rfl, hhi z rfl, h3, h4]
  have hrun : ∀ w', (execOp a.eval o).run P w' = .ok (.value (.slice (if cap = l then ad else ad.map (·.add (l * ie.size))) (m - l) (cap - l))) w' := by
    intro w'
    simp only [execOp, h, ex, Option.map_none, Instr.sliceAt, Instr.slice, Sem.run_bind, run_under (ht.sliceE hd), Result.andThen_ok, hb w', run_size he, Sem.run_pure]
  refine ⟨_, fun w' _ => hrun w', .std ?_⟩
  simp only [Int.toNat_natCast]
  by_cases hz : m - l = 0
  · have : (xs.drop l).take (m - l) = [] := by rw [hz]; simp
    rw [this, hz]
    refine .sl0 (fun h => by cases h) (fun hn => ?_)
    by_cases hc : cap = l
    · omega
    · rw [if_neg hc] at hn
      cases k1 with | std k1 => cases k1 with
        | sl0 _ h5 => simp at hn; have := h5 hn; omega
        | sl => cases hn
  · cases k1 with | std k1 => cases k1 with
      | sl0 => simp at h2; omega
      | @sl _ _ _ b of _ h3 h4 h5 h6 h7 =>
        rw [if_neg (by omega), Option.map_some, addr_add]
        have hx2 : ∀ x ∈ (xs.drop l).take (m - l), x.length = sz := fun x hx => h5 x (List.mem_of_mem_drop (List.mem_of_mem_take hx))
        have hc2 : Std I.S w (.c b (of + l * sz) ((xs.drop l).take (m - l)).flatten) := by
          have g1 := (h7.drop (l * sz)).take ((m - l) * sz)
          have g2 : (xs.flatten.drop (l * sz)).take ((m - l) * sz) = ((xs.drop l).take (m - l)).flatten := by
            have e1 : xs.flatten = (xs.take l).flatten ++ ((xs.drop l).take (m - l)).flatten ++ ((xs.drop l).drop (m - l)).flatten := by
              conv => lhs; rw [← List.take_append_drop l xs, ← List.take_append_drop (m - l) (xs.drop l)]
              rw [List.flatten_append, List.flatten_append, List.append_assoc]
            have l1 : (xs.take l).flatten.length = l * sz := by rw [flat_len fun x hx => h5 x (List.mem_of_mem_take hx), List.length_take]; congr 1; omega
            have l2 : ((xs.drop l).take (m - l)).flatten.length = (m - l) * sz := by rw [flat_len hx2, hlen]
            rw [e1, List.append_assoc, ← l1, List.drop_left, ← l2, List.take_left]
          rw [g2] at g1; exact g1
        have := Std.sl (S := I.S) (w := w) (full := false) (sz := sz) (xs := (xs.drop l).take (m - l)) (b := b) (o := of + l * sz) (cap := cap - l) (fun h => by cases h) (by rw [hlen]; omega) hx2 h6 hc2
        rw [hlen] at this
        rw [hsz']; exact this
end
end Go.Ax
