/- Reads and writes of one's own variables. -/
import Derived.Test.YtnfkdilmoppbpaaAxE
namespace Go.Ax
open Go.RowKit
set_option linter.unusedVariables false
set_option linter.unusedSimpArgs false

/-- w' is w, but for the cells of block b from o on, which hold vs. -/
structure Wrote (w w' : World) (b o : Nat) (vs : List Value) : Prop where
  os : w'.os = w.os
  tape : w'.tape = w.tape
  output : w'.output = w.output
  size : w'.heap.size = w.heap.size
  other : ∀ k, k ≠ b → w'.heap[k]? = w.heap[k]?
  blk : ∀ c, Blk w b c → ∃ c', Blk w' b c' ∧ c'.size = c.size
  cell : ∀ j, (j < o ∨ o + vs.length ≤ j) → w'.cell? ⟨b, j, none⟩ = w.cell? ⟨b, j, none⟩
  new : CellsAt w' b o vs

theorem Blk.cell {w : World} {b : Nat} {c : Array Value} (h : Blk w b c) (j : Nat) : w.cell? ⟨b, j, none⟩ = c[j]? := by
  obtain ⟨e, h⟩ := h
  simp [World.cell?, h]

theorem Blk.frozen {w : World} {b : Nat} {c : Array Value} (h : Blk w b c) (j : Nat) : w.frozen? ⟨b, j, none⟩ = false := by
  obtain ⟨e, h⟩ := h
  simp [World.frozen?, h]

theorem Wrote.refl (w : World) (b o : Nat) : Wrote w w b o [] := ⟨rfl, rfl, rfl, rfl, fun _ _ => rfl, fun c h => ⟨c, h, rfl⟩, fun _ _ => rfl, .nil⟩

theorem Wrote.one {w : World} {b o : Nat} {c : Array Value} {v : Value} (h : Blk w b c) (ho : o < c.size) : Wrote w (w.setCell ⟨b, o, none⟩ v) b o [v] := by
  refine ⟨rfl, rfl, rfl, World.size_setCell .., fun k hk => Below.heap_setCell _ _ _ _ hk, fun c' h' => ?_, fun j hj => ?_, ?_⟩
  · obtain ⟨e, h'⟩ := h'
    refine ⟨c'.setIfInBounds o v, ⟨e, ?_⟩, by simp⟩
    simp [World.setCell, Array.getElem?_modify, h']
  · refine World.cell?_setCell_other (w := w) (a := ⟨b, o, none⟩) (b := ⟨b, j, none⟩) v ?_
    intro e
    have : o = j := by injection e
    simp at hj; omega
  · refine .cons ?_ .nil
    have : w.cell? ⟨b, o, none⟩ = some c[o] := by rw [h.cell]; simp [ho]
    exact World.cell?_setCell_same w _ v this

theorem run_store1 {P : Program} {w : World} {b o : Nat} {c : Array Value} {v : Value} (h : Blk w b c) (ho : o < c.size) (hv : v.oneCell' = true) : (store ⟨b, o, none⟩ v).run P w = .ok () (w.setCell ⟨b, o, none⟩ v) := by
  rw [run_store P w _ v _ hv, h.cell, h.frozen]
  simp [ho]

theorem run_stores {P : Program} {b o : Nat} : ∀ (vs : List Value) (i : Nat) (w : World) (c : Array Value), Blk w b c → o + i + vs.length ≤ c.size → (∀ v ∈ vs, v.oneCell' = true) →
    ∃ w', (storeCells ⟨b, o, none⟩ vs i).run P w = .ok () w' ∧ Wrote w w' b (o + i) vs
  | [], i, w, c, h, _, _ => ⟨w, rfl, .refl w b _⟩
  | v :: vs, i, w, c, h, hs, hv => by
    have hlt : o + i < c.size := by simp at hs; omega
    have h1 := Wrote.one (v := v) h hlt
    obtain ⟨c1, g1, g2⟩ := h1.blk c h
    obtain ⟨w', k1, k2⟩ := run_stores (P := P) (b := b) (o := o) vs (i + 1) _ c1 g1 (by simp at hs; omega) (fun u hu => hv u (List.mem_cons_of_mem _ hu))
    refine ⟨w', ?_, ?_⟩
    · simp only [storeCells, Sem.run_bind, addr_add, run_store1 h hlt (hv v (List.mem_cons_self ..)), Result.andThen_ok, k1]
    · refine ⟨k2.os.trans h1.os, k2.tape.trans h1.tape, k2.output.trans h1.output, k2.size.trans h1.size, fun k hk => (k2.other k hk).trans (h1.other k hk), fun c' h' => ?_, fun j hj => ?_, .cons ?_ ?_⟩
      · obtain ⟨c2, e1, e2⟩ := h1.blk c' h'
        obtain ⟨c3, e3, e4⟩ := k2.blk c2 e1
        exact ⟨c3, e3, e4.trans e2⟩
      · rw [k2.cell j (by simp at hj; omega), h1.cell j (by simp at hj ⊢; omega)]
      · rw [k2.cell _ (by omega)]; exact h1.new 0 v rfl
      · have := k2.new; rw [show o + (i + 1) = o + i + 1 from by omega] at this; exact this

theorem Wrote.below {w w' : World} {b o B : Nat} {vs : List Value} (h : Wrote w w' b o vs) (hb : B ≤ b) : Below B w w' :=
  ⟨h.os, h.tape, h.output, by rw [h.size]; exact Nat.le_refl _, fun k hk => h.other k (by omega)⟩

theorem Wrote.lasts {w w' : World} {b o : Nat} {vs : List Value} (h : Wrote w w' b o vs) : Lasts w w' := fun k c hk => by
  by_cases e : k = b
  · subst e; exact h.blk c hk
  · obtain ⟨t, hk⟩ := hk
    exact ⟨c, ⟨t, (h.other k e).trans hk⟩, rfl⟩

theorem Wrote.ext {I : Interp} {w w' : World} {b o : Nat} {vs : List Value} (h : Wrote w w' b o vs) (hb : ¬ I.S b) : Ext I w I w' :=
  ⟨fun _ h => h, fun k hk => h.other k (fun e => hb (e ▸ hk)), Nat.le_refl _, fun _ _ => rfl, fun _ _ => rfl, fun _ _ => rfl, h.lasts⟩

/-- A leaf: what one cell may hold. -/
def AV.leaf : AV → Bool
  | .lit u => u.oneCell'
  | .sl .. | .pt _ | .hw _ | .hs .. | .hp .. | .hq .. | .fn .. => true
  | _ => false

theorem Rep.one {I : Interp} {w : World} {a : AV} {x : Value} (h : Rep I w (.v a x)) (hl : a.leaf = true) : x.oneCell' = true := by
  cases a with
  | lit u => rw [h.lit_inv]; exact hl
  | sl => cases h with | std h => cases h <;> rfl
  | pt => cases h with | std h => cases h; rfl
  | hw => cases h with | std h => cases h | hw0 => rfl | hw => rfl
  | hs => cases h with | std h => cases h | hs0 => rfl | hs => rfl
  | hp => cases h with | std h => cases h | hp => rfl
  | hq => cases h with | std h => cases h | hq => rfl
  | fn => cases h with | std h => cases h; rfl | fn => rfl
  | _ => cases hl

theorem Rep.ones {I : Interp} {w : World} {as : List AV} {xs : List Value} (h : Rep I w (.l as xs)) (hl : as.all AV.leaf = true) : ∀ x ∈ xs, x.oneCell' = true := by
  induction as generalizing xs with
  | nil => cases h; simp
  | cons a as ih =>
    cases h with
    | cons h1 h2 =>
      simp only [List.all_cons, Bool.and_eq_true] at hl
      intro x hx
      rcases List.mem_cons.1 hx with rfl | hx
      · exact h1.one hl.1
      · exact ih h2 hl.2 x hx

theorem VarC.split {I : Interp} {w : World} {b : Nat} {as bs : List AV} : ∀ {o : Nat} {F : List Nat}, VarC I w b o (as ++ bs) F → ∃ F1 F2, F = F1 ++ F2 ∧ VarC I w b o as F1 ∧ VarC I w b (o + as.length) bs F2 := by
  induction as with
  | nil => intro o F h; exact ⟨[], F, rfl, .nil, h⟩
  | cons a as ih =>
    intro o F h
    cases h with
    | cons hc hl hr =>
      obtain ⟨F1, F2, rfl, h1, h2⟩ := ih hr
      refine ⟨_ ++ F1, F2, by rw [List.append_assoc], .cons hc hl h1, ?_⟩
      rw [show o + (a :: as).length = o + 1 + as.length from by simp; omega]; exact h2

theorem VarC.app {I : Interp} {w : World} {b : Nat} {as bs : List AV} {o : Nat} {F1 F2 : List Nat} (h1 : VarC I w b o as F1) (h2 : VarC I w b (o + as.length) bs F2) : VarC I w b o (as ++ bs) (F1 ++ F2) := by
  induction h1 with
  | nil => exact h2
  | cons hc hl _ ih =>
    rw [List.append_assoc]
    exact .cons hc hl (ih (by rw [show ∀ n m : Nat, n + 1 + m = n + (m + 1) from by omega]; exact h2))

theorem VarC.leaves {I : Interp} {w : World} {b : Nat} {as : List AV} {o : Nat} {F : List Nat} (h : VarC I w b o as F) : ∃ xs, Leaves I w as xs F ∧ CellsAt w b o xs ∧ xs.length = as.length := by
  induction h with
  | nil => exact ⟨[], .nil, .nil, rfl⟩
  | cons hc hl _ ih =>
    obtain ⟨xs, h1, h2, h3⟩ := ih
    exact ⟨_ :: xs, .cons hl h1, .cons hc h2, by simp [h3]⟩

theorem VarC.keep {I I' : Interp} {w w' : World} {b o : Nat} {as : List AV} {F : List Nat} (h : VarC I w b o as F) (e : Ext I w I' w') (hF : ∀ b ∈ F, w'.heap[b]? = w.heap[b]?)
    (hc : ∀ j, o ≤ j → j < o + as.length → w'.cell? ⟨b, j, none⟩ = w.cell? ⟨b, j, none⟩) : VarC I' w' b o as F := by
  obtain ⟨xs, h1, h2, h3⟩ := h.leaves
  refine Leaves.varC (h1.mono e hF) fun j v hj => ?_
  rw [hc (o + j) (by omega) (by have := (List.getElem?_eq_some_iff.1 hj).1; omega)]
  exact h2 j v hj

/-- What is read without being taken. -/
def AV.plain : AV → Bool
  | .osl .. | .opt _ | .agg _ | .tup _ | .any => false
  | _ => true

theorem Leaf.rep {I : Interp} {w : World} {a : AV} {x : Value} {F : List Nat} (h : Leaf I w a x F) (hp : a.plain = true) : Rep I w (.v a x) := by
  rcases h with h | h
  · exact h.1
  · cases h with
    | std h => exact .std h
    | agg => cases hp
    | tup => cases hp
    | osl0 => cases hp
    | osl => cases hp
    | opt => cases hp

theorem Leaves.rep {I : Interp} {w : World} {as : List AV} {xs : List Value} {F : List Nat} (h : Leaves I w as xs F) (hp : as.all AV.plain = true) : Rep I w (.l as xs) := by
  induction h with
  | nil => exact .nil
  | cons h _ ih =>
    simp only [List.all_cons, Bool.and_eq_true] at hp
    exact .cons (h.rep hp.1) (ih hp.2)

section
variable {P : Program} {st : St}

theorem Rep.hp_inv {I : Interp} {w : World} {id off : Nat} {x : Value} (h : Rep I w (.v (.hp id off) x)) : ∃ b o, id < I.nx ∧ I.at_ id = some (b, o) ∧ x = .pointer (some ⟨b, o + off, none⟩) := by
  cases h with
  | std h => cases h
  | hp hi ha => exact ⟨_, _, hi, ha, rfl⟩

theorem RowOK.var_inv {I : Interp} {w : World} {id b o : Nat} {cs : List AV} {F : List Nat} (h : RowOK I w id (.var cs) F) (ha : I.at_ id = some (b, o)) :
    ∃ c G, id < I.nx ∧ Blk w b c ∧ o + cs.length ≤ c.size ∧ VarC I w b o cs G ∧ F = b :: G := by
  cases h with
  | var hi ha' hb hs hv =>
    rw [ha] at ha'
    cases ha'
    exact ⟨_, _, hi, hb, hs, hv, rfl⟩

theorem drop_split {α : Type} {l : List α} {n : Nat} {a : α} {r : List α} (h : l.drop n = a :: r) : ∃ p, l = p ++ (a :: r) ∧ p.length = n := by
  refine ⟨l.take n, by rw [← h, List.take_append_drop], ?_⟩
  rw [List.length_take]
  have : l.length - n = (a :: r).length := by rw [← h, List.length_drop]
  simp at this; omega

theorem rd_load_hp {o : Oper} {t id off : Nat} {x : Operand} {i : TyI} {cs : List AV} {v : AV} {r : List AV} (h : o.op = .load t x) (ht : TyOK P t i) (ha : i.isAgg = false) (hx : st.ev x = .hp id off)
    (hrow : row id st.hp = some (.var cs)) (hd : cs.drop off = v :: r) (hp : v.plain = true) : Reads P st o v := by
  intro S0 B w0 I a w hr
  have h1 := hr.ev x
  rw [hx] at h1
  obtain ⟨b, of, hi, hat, e⟩ := h1.hp_inv
  obtain ⟨T, k1, k2, k3⟩ := hr.hp
  obtain ⟨F, T', g1, g2, g3⟩ := k1.take hrow
  obtain ⟨c, G, _, hb, hs, hv, rfl⟩ := g1.var_inv hat
  obtain ⟨p, hcs, hpl⟩ := drop_split hd
  rw [hcs] at hv
  obtain ⟨F1, F2, _, _, hv2⟩ := hv.split
  cases hv2 with
  | cons hc hl _ =>
    rw [hpl] at hc
    refine ⟨_, fun w' hw0 => ?_, hl.rep hp⟩
    have hw : Same _ w' := hw0.resolve_left (by rw [h]; simp [memFree])
    simp only [execOp, h, e, Instr.loadAt, Instr.sureAddr, loadVar, Sem.run_bind, Sem.run_pure, Result.andThen_ok, run_isAgg ht, ha, if_false, Bool.false_eq_true, run_load, hw.cell hc]

theorem rd_loads_hp {o : Oper} {t id off : Nat} {x : Operand} {i : TyI} {cs : List AV} (h : o.op = .load t x) (ht : TyOK P t i) (ha : i.isAgg = true) (hx : st.ev x = .hp id off)
    (hrow : row id st.hp = some (.var cs)) (hn : Nat.ble (off + i.size) cs.length = true) (hp : ((cs.drop off).take i.size).all AV.plain = true) : Reads P st o (.agg ((cs.drop off).take i.size)) := by
  intro S0 B w0 I a w hr
  have h1 := hr.ev x
  rw [hx] at h1
  have hn' := Nat.le_of_ble_eq_true hn
  obtain ⟨b, of, hi, hat, e⟩ := h1.hp_inv
  obtain ⟨T, k1, k2, k3⟩ := hr.hp
  obtain ⟨F, T', g1, g2, g3⟩ := k1.take hrow
  obtain ⟨c, G, _, hb, hs, hv, rfl⟩ := g1.var_inv hat
  rw [← List.take_append_drop off cs, ← List.take_append_drop i.size (cs.drop off)] at hv
  obtain ⟨F1, F2, _, _, hv2⟩ := hv.split
  obtain ⟨F3, F4, _, hv3, _⟩ := hv2.split
  obtain ⟨xs, hl, hc, hlen⟩ := hv3.leaves
  have hlen2 : xs.length = i.size := by rw [hlen, List.length_take, List.length_drop]; omega
  have hoff : (cs.take off).length = off := by rw [List.length_take]; omega
  rw [hoff] at hc
  refine ⟨.agg xs.toArray, fun w' hw0 => ?_, .agg (hl.rep hp)⟩
  have hw : Same _ w' := hw0.resolve_left (by rw [h]; simp [memFree])
  have := run_cells (P := P) xs (hc.same hw)
  rw [hlen2] at this
  simp only [execOp, h, e, Instr.loadAt, Instr.sureAddr, loadVar, Sem.run_bind, Sem.run_pure, Result.andThen_ok, run_isAgg ht, ha, if_true, run_size ht, this]

/-- One's own row is taken out of a variable: the variable's cell leads to it from now on. -/
theorem ok_take_hp {o : Oper} {t id off sz : Nat} {x : Operand} {i : TyI} {cs : List AV} {xs : List (List AV)} {r : List AV} (h : o.op = .load t x) (ht : TyOK P t i) (ha : i.isAgg = false) (hx : st.ev x = .hp id off)
    (hrow : row id st.hp = some (.var cs)) (hd : cs.drop off = .osl sz xs :: r) :
    OpOK P st o (.hw st.nx) ⟨st.tm, (st.nx, .row sz xs) :: (id, .var (cs.set off (.hw st.nx))) :: rem id st.hp, st.nx + 1, st.nt⟩ := by
  refine ⟨rfl, fun S0 B w0 I a w hr => ?_⟩
  have h1 := hr.ev x
  rw [hx] at h1
  obtain ⟨b, of, hi, hat, e⟩ := h1.hp_inv
  obtain ⟨T, k1, k2, k3⟩ := hr.hp
  obtain ⟨F, T', g1, g2, g3⟩ := k1.take hrow
  obtain ⟨c, G, _, hb, hs, hv, rfl⟩ := g1.var_inv hat
  obtain ⟨p, hcs, hpl⟩ := drop_split hd
  rw [hcs] at hv
  obtain ⟨F1, F2, rfl, hv1, hv2⟩ := hv.split
  have hset : cs.set off (.hw st.nx) = p ++ (.hw st.nx :: r) := by rw [hcs, ← hpl]; simp
  cases hv2 with
  | @cons _ _ y _ Fv Fr hc hl hr2 =>
    rw [hpl] at hc hr2
    have hnx := hr.nx
    -- the row's own standing
    have key : ∃ at_ : Option (Nat × Nat), ∃ I', I' = I.add at_ xs.length sz ∧ Rep I' w (.v (.hw st.nx) y) ∧ RowOK I' w st.nx (.row sz xs) Fv := by
      rcases hl with hl | hl
      · cases hl.1 with | std h => cases h
      cases hl with
      | std h => cases h
      | osl0 ha0 =>
        refine ⟨none, _, rfl, ?_, ?_⟩
        · exact .hw0 (by show st.nx < I.nx + 1; omega) (by simp [Interp.add, hnx]) (by simp [Interp.add, hnx]) ha0
        · exact .row0 (by show st.nx < I.nx + 1; omega) (by simp [Interp.add, hnx]) (by simp [Interp.add, hnx]) (by simp [Interp.add, hnx])
      | osl hb1 hc1 hx1 hs1 ho1 =>
        rename_i b1 o1 cap1 c1 F3
        have hln : (I.add (some (b1, o1)) xs.length sz).ln st.nx = xs.length := by simp [Interp.add, hnx]
        refine ⟨some (b1, o1), _, rfl, ?_, ?_⟩
        · have := Rep.hw (I := I.add (some (b1, o1)) xs.length sz) (w := w) (id := st.nx) (cap := cap1) (c := c1) (b := b1) (o := o1) (by show st.nx < I.nx + 1; omega) (by simp [Interp.add, hnx]) (by rw [hln]; exact hc1) hb1
            (by simp only [Interp.add, hnx, if_true]; exact hs1)
          rw [hln] at this; exact this
        · refine .row (by show st.nx < I.nx + 1; omega) (by simp [Interp.add, hnx]) hln (by simp [Interp.add, hnx]) hb1 ?_ hx1 ho1
          have : xs.length * sz ≤ cap1 * sz := Nat.mul_le_mul_right _ hc1
          omega
    obtain ⟨at_, I', rfl, hrep, hrowok⟩ := key
    have he : Ext I w (I.add at_ xs.length sz) w := .add _ _ _ (fun _ _ => rfl) (.refl w)
    have hvar : RowOK (I.add at_ xs.length sz) w id (.var (cs.set off (.hw st.nx))) (b :: (F1 ++ ([] ++ Fr))) := by
      refine .var (by show id < I.nx + 1; omega) ((he.at_ id hi).trans hat) hb (by simpa using hs) ?_
      rw [hset]
      refine (hv1.mono he (fun _ _ => rfl) rfl).app ?_
      rw [hpl]
      exact .cons hc (.inl ⟨hrep, rfl⟩) (hr2.mono he (fun _ _ => rfl) rfl)
    refine ⟨y, w, I.add at_ xs.length sz, ?_, ?_, hrep, fun _ => Same.refl w⟩
    · simp only [execOp, h, e, Instr.loadAt, Instr.sureAddr, loadVar, Sem.run_bind, Sem.run_pure, Result.andThen_ok, run_isAgg ht, ha, if_false, Bool.false_eq_true, run_load, hc]
    · have hperm : T.Perm (Fv ++ ((b :: (F1 ++ ([] ++ Fr))) ++ T')) := by
        refine g3.trans (List.perm_iff_count.2 fun z => ?_)
        simp only [List.count_append, List.count_cons, List.count_nil]; omega
      have := hr.next he (Below.refl B w) (fun b h => .inl h) hr.ss (hp := (st.nx, .row sz xs) :: (id, .var (cs.set off (.hw st.nx))) :: rem id st.hp)
        ⟨_, .cons hrowok (.cons hvar (g2.mono he fun _ _ => rfl)), hperm.nodup_iff.1 k2, fun z hz => k3 z (hperm.mem_iff.2 hz)⟩
      have e2 : (I.add at_ xs.length sz).nx = st.nx + 1 := by show I.nx + 1 = _; rw [hnx]
      rw [e2] at this; exact this
end
end Go.Ax
