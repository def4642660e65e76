/- Reads and writes of one's own variables. -/
import Derived.Test.YtnfkdilmoppbpaaTGA
set_option linter.unusedVariables false
set_option linter.unusedSimpArgs false

namespace Go.Ax
open Go.RowKit
set_option linter.unusedVariables false
set_option linter.unusedSimpArgs false

/-- w' is w, but for the cells of block b from o on, which hold vs. -/
structure Wrote (w w' : World) (b o : Nat) (vs : List Value) : Prop where
  os : w'.os = w.os
  tape : w'.tape = w.tape
  output : w'.output = w.output
  size : w'.heap.size = w.heap.size
  other : ∀ k, k ≠ b → w'.heap[k]? = w.heap[k]?
  blk : ∀ c, Blk w b c → ∃ c', Blk w' b c' ∧ c'.size = c.size
  cell : ∀ j, (j < o ∨ o + vs.length ≤ j) → w'.cell? ⟨b, j, none⟩ = w.cell? ⟨b, j, none⟩
  new : CellsAt w' b o vs

theorem Blk.cell {w : World} {b : Nat} {c : Array Value} (h : Blk w b c) (j : Nat) : w.cell? ⟨b, j, none⟩ = c[j]? := by
  obtain ⟨e, h⟩ := h
  simp [World.cell?, h]

theorem Blk.frozen {w : World} {b : Nat} {c : Array Value} (h : Blk w b c) (j : Nat) : w.frozen? ⟨b, j, none⟩ = false := by
  obtain ⟨e, h⟩ := h
  simp [World.frozen?, h]

theorem Wrote.refl (w : World) (b o : Nat) : Wrote w w b o [] := ⟨rfl, rfl, rfl, rfl, fun _ _ => rfl, fun c h => ⟨c, h, rfl⟩, fun _ _ => rfl, .nil⟩

theorem Wrote.one {w : World} {b o : Nat} {c : Array Value} {v : Value} (h : Blk w b c) (ho : o < c.size) : Wrote w (w.setCell ⟨b, o, none⟩ v) b o [v] := by
  refine ⟨rfl, rfl, rfl, World.size_setCell .., fun k hk => Below.heap_setCell _ _ _ _ hk, fun c' h' => ?_, fun j hj => ?_, ?_⟩
  · obtain ⟨e, h'⟩ := h'
    refine ⟨c'.setIfInBounds o v, ⟨e, ?_⟩, by simp⟩
    simp [World.setCell, Array.getElem?_modify, h']
  · refine World.cell?_setCell_other (w := w) (a := ⟨b, o, none⟩) (b := ⟨b, j, none⟩) v ?_
    intro e
    have : o = j := by injection e
    simp at hj; omega
  · refine .cons ?_ .nil
    have : w.cell? ⟨b, o, none⟩ = some c[o] := by rw [h.cell]; simp [ho]
    exact World.cell?_setCell_same w _ v this

theorem run_store1 {P : Program} {w : World} {b o : Nat} {c : Array Value} {v : Value} (h : Blk w b c) (ho : o < c.size) (hv : v.oneCell' = true) : (store ⟨b, o, none⟩ v).run P w = .ok () (w.setCell ⟨b, o, none⟩ v) := by
  rw [run_store P w _ v _ hv, h.cell, h.frozen]
  simp [ho]

theorem run_stores {P : Program} {b o : Nat} : ∀ (vs : List Value) (i : Nat) (w : World) (c : Array Value), Blk w b c → o + i + vs.length ≤ c.size → (∀ v ∈ vs, v.oneCell' = true) →
    ∃ w', (storeCells ⟨b, o, none⟩ vs i).run P w = .ok () w' ∧ Wrote w w' b (o + i) vs
  | [], i, w, c, h, _, _ => ⟨w, rfl, .refl w b _⟩
  | v :: vs, i, w, c, h, hs, hv => by
    have hlt : o + i < c.size := by simp at hs; omega
    have h1 := Wrote.one (v := v) h hlt
    obtain ⟨c1, g1, g2⟩ := h1.blk c h
    obtain ⟨w', k1, k2⟩ := run_stores (P := P) (b := b) (o := o) vs (i + 1) _ c1 g1 (by simp at hs; omega) (fun u hu => hv u (List.mem_cons_of_mem _ hu))
    refine ⟨w', ?_, ?_⟩
    · simp only [storeCells, Sem.run_bind, addr_add, run_store1 h hlt (hv v (List.mem_cons_self ..)), Result.andThen_ok, k1]
    · refine ⟨k2.os.trans h1.os, k2.tape.trans h1.tape, k2.output.trans h1.output, k2.size.trans h1.size, fun k hk => (k2.other k hk).trans (h1.other k hk), fun c' h' => ?_, fun j hj => ?_, .cons ?_ ?_⟩
      · obtain ⟨c2, e1, e2⟩ := h1.blk c' h'
        obtain ⟨c3, e3, e4⟩ := k2.blk c2 e1
        exact ⟨c3, e3, e4.trans e2⟩
      · rw [k2.cell j (by simp at hj; omega), h1.cell j (by simp at hj ⊢; omega)]
      · rw [k2.cell _ (by omega)]; exact h1.new 0 v rfl
      · have := k2.new; rw [show o + (i + 1) = o + i + 1 from by omega] at this; exact this

theorem Wrote.below {w w' : World} {b o B : Nat} {vs : List Value} (h : Wrote w w' b o vs) (hb : B ≤ b) : Below B w w' :=
  ⟨h.os, h.tape, h.output, by rw [h.size]; exact Nat.le_refl _, fun k hk => h.other k (by omega)⟩

theorem Wrote.lasts {w w' : World} {b o : Nat} {vs : List Value} (h : Wrote w w' b o vs) : Lasts w w' := fun k c hk => by
  by_cases e : k = b
  · subst e; exact h.blk c hk
  · obtain ⟨t, hk⟩ := hk
    exact ⟨c, ⟨t, (h.other k e).trans hk⟩, rfl⟩

theorem Wrote.ext {I : Interp} {w w' : World} {b o : Nat} {vs : List Value} (h : Wrote w w' b o vs) (hb : ¬ I.S b) : Ext I w I w' :=
  ⟨fun _ h => h, fun k hk => h.other k (fun e => hb (e ▸ hk)), Nat.le_refl _, fun _ _ => rfl, fun _ _ => rfl, fun _ _ => rfl, h.lasts⟩

/-- A leaf: what one cell may hold. -/
def AV.leaf : AV → Bool
  | .lit u => u.oneCell'
  | .sl .. | .pt _ | .hw _ | .hs .. | .hp .. | .hq .. | .fn .. => true
  | _ => false

theorem Rep.one {I : Interp} {w : World} {a : AV} {x : Value} (h : Rep I w (.v a x)) (hl : a.leaf = true) : x.oneCell' = true := by
  cases a with
  | lit u => rw [h.lit_inv]; exact hl
  | sl => cases h with | std h => cases h <;> rfl
  | pt => cases h with | std h => cases h; rfl
  | hw => cases h with | std h => cases h | hw0 => rfl | hw => rfl
  | hs => cases h with | std h => cases h | hs0 => rfl | hs => rfl
  | hp => cases h with | std h => cases h | hp => rfl
  | hq => cases h with | std h => cases h | hq => rfl
  | fn => cases h with | std h => cases h; rfl | fn => rfl
  | _ => cases hl

theorem Rep.ones {I : Interp} {w : World} {as : List AV} {xs : List Value} (h : Rep I w (.l as xs)) (hl : as.all AV.leaf = true) : ∀ x ∈ xs, x.oneCell' = true := by
  induction as generalizing xs with
  | nil => cases h; simp
  | cons a as ih =>
    cases h with
    | cons h1 h2 =>
      simp only [List.all_cons, Bool.and_eq_true] at hl
      intro x hx
      rcases List.mem_cons.1 hx with rfl | hx
      · exact h1.one hl.1
      · exact ih h2 hl.2 x hx

theorem VarC.split {I : Interp} {w : World} {b : Nat} {as bs : List AV} : ∀ {o : Nat} {F : List Nat}, VarC I w b o (as ++ bs) F → ∃ F1 F2, F = F1 ++ F2 ∧ VarC I w b o as F1 ∧ VarC I w b (o + as.length) bs F2 := by
  induction as with
  | nil => intro o F h; exact ⟨[], F, rfl, .nil, h⟩
  | cons a as ih =>
    intro o F h
    cases h with
    | cons hc hl hr =>
      obtain ⟨F1, F2, rfl, h1, h2⟩ := ih hr
      refine ⟨_ ++ F1, F2, by rw [List.append_assoc], .cons hc hl h1, ?_⟩
      rw [show o + (a :: as).length = o + 1 + as.length from by simp; omega]; exact h2

theorem VarC.app {I : Interp} {w : World} {b : Nat} {as bs : List AV} {o : Nat} {F1 F2 : List Nat} (h1 : VarC I w b o as F1) (h2 : VarC I w b (o + as.length) bs F2) : VarC I w b o (as ++ bs) (F1 ++ F2) := by
  induction h1 with
  | nil => exact h2
  | cons hc hl _ ih =>
    rw [List.append_assoc]
    exact .cons hc hl (ih (by rw [show ∀ n m : Nat, n + 1 + m = n + (m + 1) from by omega]; exact h2))

theorem VarC.leaves {I : Interp} {w : World} {b : Nat} {as : List AV} {o : Nat} {F : List Nat} (h : VarC I w b o as F) : ∃ xs, Leaves I w as xs F ∧ CellsAt w b o xs ∧ xs.length = as.length := by
  induction h with
  | nil => exact ⟨[], .nil, .nil, rfl⟩
  | cons hc hl _ ih =>
    obtain ⟨xs, h1, h2, h3⟩ := ih
    exact ⟨_ :: xs, .cons hl h1, .cons hc h2, by simp [h3]⟩

theorem VarC.keep {I I' : Interp} {w w' : World} {b o : Nat} {as : List AV} {F : List Nat} (h : VarC I w b o as F) (e : Ext I w I' w') (hF : ∀ b ∈ F, w'.heap[b]? = w.heap[b]?)
    (hc : ∀ j, o ≤ j → j < o + as.length → w'.cell? ⟨b, j, none⟩ = w.cell? ⟨b, j, none⟩) : VarC I' w' b o as F := by
  obtain ⟨xs, h1, h2, h3⟩ := h.leaves
  refine Leaves.varC (h1.mono e hF) fun j v hj => ?_
  rw [hc (o + j) (by omega) (by have := (List.getElem?_eq_some_iff.1 hj).1; omega)]
  exact h2 j v hj

/-- What is read without being taken. -/
def AV.plain : AV → Bool
  | .osl .. | .opt _ | .agg _ | .tup _ | .any => false
  | _ => true

theorem Leaf.rep {I : Interp} {w : World} {a : AV} {x : Value} {F : List Nat} (h : Leaf I w a x F) (hp : a.plain = true) : Rep I w (.v a x) := by
  rcases h with h | h
  · exact h.1
  · cases h with
    | std h => exact .std h
    | agg => cases hp
    | tup => cases hp
    | osl0 => cases hp
    | osl => cases hp
    | opt => cases hp

theorem Leaves.rep {I : Interp} {w : World} {as : List AV} {xs : List Value} {F : List Nat} (h : Leaves I w as xs F) (hp : as.all AV.plain = true) : Rep I w (.l as xs) := by
  induction h with
  | nil => exact .nil
  | cons h _ ih =>
    simp only [List.all_cons, Bool.and_eq_true] at hp
    exact .cons (h.rep hp.1) (ih hp.2)

section
variable {P : Program} {st : St}

theorem Rep.hp_inv {I : Interp} {w : World} {id off : Nat} {x : Value} (h : Rep I w (.v (.hp id off) x)) : ∃ b o, id < I.nx ∧ I.at_ id = some (b, o) ∧ x = .pointer (some ⟨b, o + off, none⟩) := by
  cases h with
  | std h => cases h
  | hp hi ha => exact ⟨_, _, hi, ha, rfl⟩

theorem RowOK.var_inv {I : Interp} {w : World} {id b o : Nat} {cs : List AV} {F : List Nat} (h : RowOK I w id (.var cs) F) (ha : I.at_ id = some (b, o)) :
    ∃ c G, id < I.nx ∧ Blk w b c ∧ o + cs.length ≤ c.size ∧ VarC I w b o cs G ∧ F = b :: G := by
  cases h with
  | var hi ha' hb hs hv =>
    rw [ha] at ha'
    cases ha'
    exact ⟨_, _, hi, hb, hs, hv, rfl⟩

theorem drop_split {α : Type} {l : List α} {n : Nat} {a : α} {r : List α} (h : l.drop n = a :: r) : ∃ p, l = p ++ (a :: r) ∧ p.length = n := by
  refine ⟨l.take n, by rw [← h, List.take_append_drop], ?_⟩
  rw [List.length_take]
  have : l.length - n = (a :: r).length := by rw [← h, List.length_drop]
  simp at this; omega

theorem rd_load_hp {o : Oper} {t id off : Nat} {x : Operand} {i : TyI} {cs : List AV} {v : AV} {r : List AV} (h : o.op = .load t x) (ht : TyOK P t i) (ha : i.isAgg = false) (hx : st.ev x = .hp id off)
    (hrow : row id st.hp = some (.var cs)) (hd : cs.drop off = v :: r) (hp : v.plain = true) : Reads P st o v := by
  intro S0 B w0 I a w hr
  have h1 := hr.ev x
  rw [hx] at h1
  obtain ⟨b, of, hi, hat, e⟩ := h1.hp_inv
  obtain ⟨T, k1, k2, k3⟩ := hr.hp
  obtain ⟨F, T', g1, g2, g3⟩ := k1.take hrow
  obtain ⟨c, G, _, hb, hs, hv, rfl⟩ := g1.var_inv hat
  obtain ⟨p, hcs, hpl⟩ := drop_split hd
  rw [hcs] at hv
  obtain ⟨F1, F2, _, _, hv2⟩ := hv.split
  cases hv2 with
  | cons hc hl _ =>
    rw [hpl] at hc
    refine ⟨_, fun w' hw0 => ?_, hl.rep hp⟩
    have hw : Same _ w' := hw0.resolve_left (by rw [h]; simp [memFree])
    simp only [execOp, h, e, Instr.loadAt, Instr.sureAddr, loadVar, Sem.run_bind, Sem.run_pure, Result.andThen_ok, run_isAgg ht, ha, if_false, Bool.false_eq_true, run_load, hw.cell hc]

theorem rd_loads_hp {o : Oper} {t id off : Nat} {x : Operand} {i : TyI} {cs : List AV} (h : o.op = .load t x) (ht : TyOK P t i) (ha : i.isAgg = true) (hx : st.ev x = .hp id off)
    (hrow : row id st.hp = some (.var cs)) (hn : Nat.ble (off + i.size) cs.length = true) (hp : ((cs.drop off).take i.size).all AV.plain = true) : Reads P st o (.agg ((cs.drop off).take i.size)) := by
  intro S0 B w0 I a w hr
  have h1 := hr.ev x
  rw [hx] at h1
  have hn' := Nat.le_of_ble_eq_true hn
  obtain ⟨b, of, hi, hat, e⟩ := h1.hp_inv
  obtain ⟨T, k1, k2, k3⟩ := hr.hp
  obtain ⟨F, T', g1, g2, g3⟩ := k1.take hrow
  obtain ⟨c, G, _, hb, hs, hv, rfl⟩ := g1.var_inv hat
  rw [← List.take_append_drop off cs, ← List.take_append_drop i.size (cs.drop off)] at hv
  obtain ⟨F1, F2, _, _, hv2⟩ := hv.split
  obtain ⟨F3, F4, _, hv3, _⟩ := hv2.split
  obtain ⟨xs, hl, hc, hlen⟩ := hv3.leaves
  have hlen2 : xs.length = i.size := by rw [hlen, List.length_take, List.length_drop]; omega
  have hoff : (cs.take off).length = off := by rw [List.length_take]; omega
  rw [hoff] at hc
  refine ⟨.agg xs.toArray, fun w' hw0 => ?_, .agg (hl.rep hp)⟩
  have hw : Same _ w' := hw0.resolve_left (by rw [h]; simp [memFree])
  have := run_cells (P := P) xs (hc.same hw)
  rw [hlen2] at this
  simp only [execOp, h, e, Instr.loadAt, Instr.sureAddr, loadVar, Sem.run_bind, Sem.run_pure, Result.andThen_ok, run_isAgg ht, ha, if_true, run_size ht, this]

/-- One's own row is taken out of a variable: the variable's cell leads to it from now on. -/
theorem ok_take_hp {o : Oper} {t id off sz : Nat} {x : Operand} {i : TyI} {cs : List AV} {xs : List (List AV)} {r : List AV} (h : o.op = .load t x) (ht : TyOK P t i) (ha : i.isAgg = false) (hx : st.ev x = .hp id off)
    (hrow : row id st.hp = some (.var cs)) (hd : cs.drop off = .osl sz xs :: r) :
    OpOK P st o (.hw st.nx) ⟨st.tm, (st.nx, .row sz xs) :: (id, .var (cs.set off (.hw st.nx))) :: rem id st.hp, st.nx + 1, st.nt⟩ := by
  refine ⟨rfl, fun S0 B w0 I a w hr => ?_⟩
  have h1 := hr.ev x
  rw [hx] at h1
  obtain ⟨b, of, hi, hat, e⟩ := h1.hp_inv
  obtain ⟨T, k1, k2, k3⟩ := hr.hp
  obtain ⟨F, T', g1, g2, g3⟩ := k1.take hrow
  obtain ⟨c, G, _, hb, hs, hv, rfl⟩ := g1.var_inv hat
  obtain ⟨p, hcs, hpl⟩ := drop_split hd
  rw [hcs] at hv
  obtain ⟨F1, F2, rfl, hv1, hv2⟩ := hv.split
  have hset : cs.set off (.hw st.nx) = p ++ (.hw st.nx :: r) := by rw [hcs, ← hpl]; simp
  cases hv2 with
  | @cons _ _ y _ Fv Fr hc hl hr2 =>
    rw [hpl] at hc hr2
    have hnx := hr.nx
    -- the row's own standing
    have key : ∃ at_ : Option (Nat × Nat), ∃ I', I' = I.add at_ xs.length sz ∧ Rep I' w (.v (.hw st.nx) y) ∧ RowOK I' w st.nx (.row sz xs) Fv := by
      rcases hl with hl | hl
      · cases hl.1 with | std h => cases h
      cases hl with
      | std h => cases h
      | osl0 ha0 =>
        refine ⟨none, _, rfl, ?_, ?_⟩
        · exact .hw0 (by show st.nx < I.nx + 1; omega) (by simp [Interp.add, hnx]) (by simp [Interp.add, hnx]) ha0
        · exact .row0 (by show st.nx < I.nx + 1; omega) (by simp [Interp.add, hnx]) (by simp [Interp.add, hnx]) (by simp [Interp.add, hnx])
      | osl hb1 hc1 hx1 hs1 ho1 =>
        rename_i b1 o1 cap1 c1 F3
        have hln : (I.add (some (b1, o1)) xs.length sz).ln st.nx = xs.length := by simp [Interp.add, hnx]
        refine ⟨some (b1, o1), _, rfl, ?_, ?_⟩
        · have := Rep.hw (I := I.add (some (b1, o1)) xs.length sz) (w := w) (id := st.nx) (cap := cap1) (c := c1) (b := b1) (o := o1) (by show st.nx < I.nx + 1; omega) (by simp [Interp.add, hnx]) (by rw [hln]; exact hc1) hb1
            (by simp only [Interp.add, hnx, if_true]; exact hs1)
          rw [hln] at this; exact this
        · refine .row (by show st.nx < I.nx + 1; omega) (by simp [Interp.add, hnx]) hln (by simp [Interp.add, hnx]) hb1 ?_ hx1 ho1
          have : xs.length * sz ≤ cap1 * sz := Nat.mul_le_mul_right _ hc1
          omega
    obtain ⟨at_, I', rfl, hrep, hrowok⟩ := key
    have he : Ext I w (I.add at_ xs.length sz) w := .add _ _ _ (fun _ _ => rfl) (.refl w)
    have hvar : RowOK (I.add at_ xs.length sz) w id (.var (cs.set off (.hw st.nx))) (b :: (F1 ++ ([] ++ Fr))) := by
      refine .var (by show id < I.nx + 1; omega) ((he.at_ id hi).trans hat) hb (by simpa using hs) ?_
      rw [hset]
      refine (hv1.mono he (fun _ _ => rfl) rfl).app ?_
      rw [hpl]
      exact .cons hc (.inl ⟨hrep, rfl⟩) (hr2.mono he (fun _ _ => rfl) rfl)
    refine ⟨y, w, I.add at_ xs.length sz, ?_, ?_, hrep, fun _ => Same.refl w⟩
    · simp only [execOp, h, e, Instr.loadAt, Instr.sureAddr, loadVar, Sem.run_bind, Sem.run_pure, Result.andThen_ok, run_isAgg ht, ha, if_false, Bool.false_eq_true, run_load, hc]
    · have hperm : T.Perm (Fv ++ ((b :: (F1 ++ ([] ++ Fr))) ++ T')) := by
        refine g3.trans (List.perm_iff_count.2 fun z => ?_)
        simp only [List.count_append, List.count_cons, List.count_nil]; omega
      have := hr.next he (Below.refl B w) (fun b h => .inl h) hr.ss (hp := (st.nx, .row sz xs) :: (id, .var (cs.set off (.hw st.nx))) :: rem id st.hp)
        ⟨_, .cons hrowok (.cons hvar (g2.mono he fun _ _ => rfl)), hperm.nodup_iff.1 k2, fun z hz => k3 z (hperm.mem_iff.2 hz)⟩
      have e2 : (I.add at_ xs.length sz).nx = st.nx + 1 := by show I.nx + 1 = _; rw [hnx]
      rw [e2] at this; exact this
end
end Go.Ax

/- Writes into one's own variables. -/
namespace Go.Ax
open Go.RowKit
set_option linter.unusedVariables false
set_option linter.unusedSimpArgs false

/-- A list in which others stand from a place on. -/
def splice : List AV → Nat → List AV → List AV
  | cs, _, [] => cs
  | [], _, _ => []
  | _ :: cs, 0, v :: vs => v :: splice cs 0 vs
  | c :: cs, n + 1, v :: vs => c :: splice cs n (v :: vs)

theorem splice_eq : ∀ (cs : List AV) (n : Nat) (vs : List AV), n + vs.length ≤ cs.length → splice cs n vs = cs.take n ++ (vs ++ cs.drop (n + vs.length))
  | cs, n, [], h => by simp [splice]
  | [], n, v :: vs, h => by simp at h
  | c :: cs, 0, v :: vs, h => by
    have := splice_eq cs 0 vs (by simp at h ⊢; omega)
    simp [splice, this]
  | c :: cs, n + 1, v :: vs, h => by
    have := splice_eq cs n (v :: vs) (by simp at h ⊢; omega)
    simp only [splice, this, List.take_succ_cons, List.cons_append, List.length_cons]
    rw [show n + 1 + (vs.length + 1) = (n + (vs.length + 1)) + 1 from by omega, List.drop_succ_cons]

section
variable {P : Program} {st : St}

theorem ok_store_hp {o : Oper} {t id off : Nat} {x y : Operand} {i : TyI} {v : AV} {cs cs' : List AV} {hp1 : List (Nat × Row)} {vs : List AV} (h : o.op = .store t x y) (ht : TyOK P t i) (hx : st.ev x = .hp id off)
    (hy : st.ev y = v) (hk : v.known = true) (hl : v.cells.all AV.leaf = true) (hsz : Nat.beq v.cells.length i.size = true) (hf : foldL st.hp v.cells = (vs, hp1))
    (hrow : row id hp1 = some (.var cs)) (hn : Nat.ble (off + i.size) cs.length = true) (hcs : splice cs off vs = cs') : OpDo P st o ⟨st.tm, (id, .var cs') :: rem id hp1, st.nx, st.nt⟩ := by
  intro S0 B w0 I a w hr
  have h1 := hr.ev x
  have h2 := hr.ev y
  rw [hx] at h1
  rw [hy] at h2
  obtain ⟨b, of, hi, hat, e⟩ := h1.hp_inv
  have hcells := h2.cells hk (fun u hu => by subst hu; simp [AV.cells, AV.leaf] at hl; cases u <;> simp_all [Value.oneCell', Value.cells])
  obtain ⟨T, k1, k2, k3⟩ := hr.hp
  obtain ⟨Fv, T1, f1, f2, f3⟩ := foldL_ok hcells k1
  rw [hf] at f1 f2
  obtain ⟨F, T', g1, g2, g3⟩ := f2.take hrow
  obtain ⟨c, G, _, hb, hs, hv, rfl⟩ := g1.var_inv hat
  have hn' := Nat.le_of_ble_eq_true hn
  have hlx : (a.eval y).cells.toList.length = v.cells.length := by
    clear f1 hl
    generalize (a.eval y).cells.toList = xs at hcells
    generalize v.cells = as at hcells
    induction as generalizing xs with
    | nil => cases hcells; rfl
    | cons _ _ ih => cases hcells with | cons _ h => simp [ih _ h]
  have hsz' : v.cells.length = i.size := Nat.eq_of_beq_eq_true hsz
  have hlv : vs.length = i.size := by rw [f1.length, hlx, hsz']
  have hall : T.Perm (Fv ++ ((b :: G) ++ T')) := f3.trans (List.Perm.append_left Fv g3)
  obtain ⟨w', r1, r2⟩ := run_stores (P := P) (b := b) (o := of + off) (a.eval y).cells.toList 0 w c hb (by rw [hlx, hsz']; omega) (hcells.ones hl)
  have hbB := k3 b (hall.mem_iff.2 (by simp))
  have he : Ext I w I w' := r2.ext hbB.2.1
  have hnd : (Fv ++ ((b :: G) ++ T')).Nodup := hall.nodup_iff.1 k2
  have hne : ∀ z ∈ Fv ++ (G ++ T'), w'.heap[z]? = w.heap[z]? := by
    intro z hz
    refine r2.other z fun ez => ?_
    subst ez
    have hc : (Fv ++ ((z :: G) ++ T')).count z ≤ 1 := List.nodup_iff_count.1 hnd z
    have hm : 0 < (Fv ++ (G ++ T')).count z := List.count_pos_iff.2 hz
    simp only [List.count_append, List.count_cons, beq_self_eq_true, if_true] at hc hm
    omega
  obtain ⟨c', hb', hs'⟩ := r2.blk c hb
  rw [← List.take_append_drop off cs, ← List.take_append_drop i.size (cs.drop off)] at hv
  obtain ⟨F1, F2', rfl, hv1, hv2⟩ := hv.split
  obtain ⟨Fo, F2, rfl, _, hv3⟩ := hv2.split
  have hoff : (cs.take off).length = off := by rw [List.length_take]; omega
  have hmid : ((cs.drop off).take i.size).length = i.size := by rw [List.length_take, List.length_drop]; omega
  rw [hoff, hmid] at hv3
  have hvar : VarC I w' b of cs' (F1 ++ (Fv ++ F2)) := by
    rw [← hcs, splice_eq cs off vs (by omega), hlv]
    refine VarC.app (hv1.keep he (fun z hz => hne z (by simp [hz])) (fun j h1 h2 => r2.cell j (by rw [hoff] at h2; omega))) ?_
    rw [hoff]
    refine VarC.app ((f1.mono he (fun z hz => hne z (by simp [hz]))).varC r2.new) ?_
    rw [hlv]
    rw [List.drop_drop] at hv3
    exact hv3.keep he (fun z hz => hne z (by simp [hz])) (fun j h1 h2 => r2.cell j (by rw [hlx, hsz']; omega))
  have hlen : cs'.length = cs.length := by
    rw [← hcs, splice_eq cs off vs (by omega)]; simp only [List.length_append, List.length_take, List.length_drop]; omega
  refine ⟨w', I, ?_, ?_⟩
  · have hsz2 : (a.eval y).cells.size = i.size := by rw [← Array.length_toList, hlx, hsz']
    simp only [execOp, h, e, Instr.storeAt, Instr.sureAddr, storeVar, Sem.run_bind, Sem.run_pure, Result.andThen_ok, run_size ht, hsz2, ne_eq, not_true, if_false, r1]
  · have hrowok : RowOK I w' id (.var cs') (b :: (F1 ++ (Fv ++ F2))) := .var hi hat hb' (by rw [hlen]; omega) hvar
    have hnew : ((b :: (F1 ++ (Fv ++ F2))) ++ T').Nodup := by
      refine List.nodup_iff_count.2 fun z => ?_
      have := List.nodup_iff_count.1 hnd z
      simp only [List.count_append, List.count_cons] at this ⊢
      omega
    have := hr.next he (r2.below hbB.1) (fun b h => .inl h) (fun z hz => by rw [r2.size]; exact hr.ss z hz) (hp := (id, .var cs') :: rem id hp1)
      ⟨_, .cons hrowok (g2.mono he fun z hz => hne z (by simp [hz])), hnew, fun z hz => by
        rw [r2.size]
        refine k3 z (hall.mem_iff.2 ?_)
        simp only [List.mem_append, List.mem_cons] at hz ⊢
        rcases hz with (h | h | h | h) | h <;> simp [h]⟩
    rw [hr.nx] at this; exact this
end
end Go.Ax

/- Rows that stay: their lengths and elements; parts of values; how a call begins and ends; a call of a function that is told. -/
namespace Go.Ax
open Go.RowKit
set_option linter.unusedVariables false
set_option linter.unusedSimpArgs false

section
variable {P : Program} {st : St}

theorem TyOK.sliceE {t e : Nat} {i : TyI} (h : TyOK P t i) (hd : i.td = .td (.slice e)) : P.underlying t = some (.slice e) := by
  obtain ⟨h, _⟩ := h; rw [hd] at h; exact h.1

theorem rd_index_sl {o : Oper} {t e : Nat} {x ix : Operand} {it ie : TyI} {full : Bool} {sz : Nat} {xs : List (List AV)} {kk : IntKind} {n : Int} {cs : List AV} (h : o.op = .indexAddr t x ix) (ht : TyOK P t it)
    (hd : it.td = .td (.slice e)) (he : TyOK P e ie) (hsz : Nat.beq ie.size sz = true) (hx : st.ev x = .sl full sz xs) (hi : st.ev ix = .lit (.int kk n)) (h0 : 0 ≤ n) (hg : xs[n.toNat]? = some cs) : Reads P st o (.pt cs) := by
  intro S0 B w0 I a w hr
  have h1 := hr.ev x
  have h2 := hr.ev ix
  rw [hx] at h1
  rw [hi] at h2
  have hsz' := Nat.eq_of_beq_eq_true hsz
  have hlt : n.toNat < xs.length := (List.getElem?_eq_some_iff.1 hg).1
  generalize ex : a.eval x = y at h1
  cases h1 with
  | std h1 =>
    cases h1 with
    | sl0 => simp at hg
    | @sl _ _ _ b of cap _ _ hx2 hb hc =>
      have hc2 := (hc.drop (n.toNat * sz))
      rw [flatten_at hx2 hg] at hc2
      have hc3 := hc2.take cs.length
      rw [List.take_left] at hc3
      refine ⟨_, fun w' hw => ?_, .std (.pt hb hc3)⟩
      have hlt2 : n < (xs.length : Int) := by omega
      simp only [execOp, h, ex, h2.lit_inv, Instr.indexAt, asIntOf, Sem.run_bind, run_under (ht.sliceE hd), Result.andThen_ok, Sem.run_pure, h0, hlt2, and_self, if_true, run_size he, hsz', addr_add, decide_eq_true_eq]

theorem rd_len_sl {o : Oper} {t e : Nat} {x : Operand} {it : TyI} {full : Bool} {sz : Nat} {xs : List (List AV)} (h : o.op = .call { callee := .builtin .len, args := #[x], argTypes := #[t] }) (ht : TyOK P t it)
    (hd : it.td = .td (.slice e)) (hx : st.ev x = .sl full sz xs) : Reads P st o (.lit (.int .i64 xs.length)) := by
  refine rd_pure fun S0 B w0 I a w1 hr w => ?_
  have h1 := hr.ev x
  rw [hx] at h1
  generalize ex : a.eval x = y at h1
  have : ∃ ad cap, y = .slice ad xs.length cap := by
    cases h1 with | std h1 => cases h1 with | sl0 => exact ⟨_, _, rfl⟩ | sl => exact ⟨_, _, rfl⟩
  obtain ⟨ad, cap, rfl⟩ := this
  simp [execOp, h, ex, resolve, invoke, builtin, Builtin.len_, goInt, run_under (ht.sliceE hd)]

theorem rd_len_nil {o : Oper} {t e : Nat} {x : Operand} {it : TyI} (h : o.op = .call { callee := .builtin .len, args := #[x], argTypes := #[t] }) (ht : TyOK P t it)
    (hd : it.td = .td (.slice e)) (hx : st.ev x = .lit (.slice none 0 0)) : Reads P st o (.lit (.int .i64 0)) := by
  refine rd_pure fun S0 B w0 I a w1 hr w => ?_
  have h1 := hr.ev x
  rw [hx] at h1
  simp [execOp, h, h1.lit_inv, resolve, invoke, builtin, Builtin.len_, goInt, run_under (ht.sliceE hd)]

theorem rd_len_str {o : Oper} {t : Nat} {x : Operand} {it : TyI} {s : ByteArray} (h : o.op = .call { callee := .builtin .len, args := #[x], argTypes := #[t] }) (ht : TyOK P t it)
    (hd : it.td = .td .string) (hx : st.ev x = .lit (.string s)) : Reads P st o (.lit (.int .i64 s.size)) := by
  refine rd_pure fun S0 B w0 I a w1 hr w => ?_
  have h1 := hr.ev x
  rw [hx] at h1
  obtain ⟨hd2, _⟩ := ht; rw [hd] at hd2
  simp [execOp, h, h1.lit_inv, resolve, invoke, builtin, Builtin.len_, goInt, run_under hd2.1]

theorem Rep.tup_inv {I : Interp} {w : World} {cs : List AV} {x : Value} (h : Rep I w (.v (.tup cs) x)) : ∃ vs, x = .tuple vs.toArray ∧ Rep I w (.l cs vs) := by
  cases h with
  | std h => cases h with | tup h => exact ⟨_, rfl, h.l_rep⟩
  | tup h => exact ⟨_, rfl, h⟩

theorem Rep.agg_inv {I : Interp} {w : World} {cs : List AV} {x : Value} (h : Rep I w (.v (.agg cs) x)) : ∃ vs, x = .agg vs.toArray ∧ Rep I w (.l cs vs) := by
  cases h with
  | std h => cases h with | agg h => exact ⟨_, rfl, h.l_rep⟩
  | agg h => exact ⟨_, rfl, h⟩

theorem Rep.l_at {I : Interp} {w : World} {cs : List AV} {vs : List Value} (h : Rep I w (.l cs vs)) {j : Nat} {c : AV} (hj : cs[j]? = some c) : ∃ v, vs[j]? = some v ∧ Rep I w (.v c v) := by
  induction cs generalizing vs j with
  | nil => simp at hj
  | cons a as ih =>
    cases h with
    | cons h1 h2 =>
      cases j with
      | zero => simp at hj; subst hj; exact ⟨_, rfl, h1⟩
      | succ j => simpa using ih h2 (by simpa using hj)

theorem Rep.l_len {I : Interp} {w : World} {cs : List AV} {vs : List Value} (h : Rep I w (.l cs vs)) : vs.length = cs.length := by
  induction cs generalizing vs with
  | nil => cases h; rfl
  | cons a as ih => cases h with | cons _ h2 => simp [ih h2]

theorem Rep.l_drop {I : Interp} {w : World} {cs : List AV} {vs : List Value} (h : Rep I w (.l cs vs)) (n : Nat) : Rep I w (.l (cs.drop n) (vs.drop n)) := by
  induction n generalizing cs vs with
  | zero => simpa using h
  | succ n ih =>
    cases cs with
    | nil => cases h; exact .nil
    | cons a as => cases h with | cons _ h2 => simpa using ih h2

theorem Rep.l_take {I : Interp} {w : World} {cs : List AV} {vs : List Value} (h : Rep I w (.l cs vs)) (n : Nat) : Rep I w (.l (cs.take n) (vs.take n)) := by
  induction n generalizing cs vs with
  | zero => simpa using (Rep.nil (I := I) (w := w))
  | succ n ih =>
    cases cs with
    | nil => cases h; exact .nil
    | cons a as => cases h with | cons h1 h2 => simpa using Rep.cons h1 (ih h2)

theorem Rep.l_app {I : Interp} {w : World} {cs ds : List AV} {vs us : List Value} (h : Rep I w (.l cs vs)) (h2 : Rep I w (.l ds us)) : Rep I w (.l (cs ++ ds) (vs ++ us)) := by
  induction cs generalizing vs with
  | nil => cases h; exact h2
  | cons a as ih => cases h with | cons h1 h3 => exact .cons h1 (ih h3)

theorem rd_extract {o : Oper} {x : Operand} {j : Nat} {cs : List AV} {c : AV} (h : o.op = .extract x j) (hx : st.ev x = .tup cs) (hj : cs[j]? = some c) : Reads P st o c := by
  intro S0 B w0 I a w hr
  have h1 := hr.ev x
  rw [hx] at h1
  obtain ⟨vs, e, h2⟩ := h1.tup_inv
  obtain ⟨v, h3, h4⟩ := h2.l_at hj
  refine ⟨v, fun w' hw => ?_, h4⟩
  simp [execOp, h, e, Instr.extract, h3]

theorem rd_nilCheck_pt {o : Oper} {x : Operand} {cs : List AV} (h : o.op = .nilCheck x) (hx : st.ev x = .pt cs) : Reads P st o (.pt cs) := by
  intro S0 B w0 I a w hr
  have h1 := hr.ev x
  have h2 := h1
  rw [hx] at h1
  obtain ⟨b, of, e, _⟩ := h1.pt_inv
  rw [hx, e] at h2
  exact ⟨_, fun w' hw => by simp [execOp, h, e], h2⟩

theorem rd_nilCheck_hp {o : Oper} {x : Operand} {id off : Nat} (h : o.op = .nilCheck x) (hx : st.ev x = .hp id off) : Reads P st o (.hp id off) := by
  intro S0 B w0 I a w hr
  have h1 := hr.ev x
  have h2 := h1
  rw [hx] at h1
  obtain ⟨b, of, _, _, e⟩ := h1.hp_inv
  rw [hx, e] at h2
  exact ⟨_, fun w' hw => by simp [execOp, h, e], h2⟩

/-- A field of a struct's value. -/
theorem rd_field {o : Oper} {t j off ft : Nat} {x : Operand} {i ift : TyI} {fs : List (Nat × Nat)} {cs : List AV} {c : AV} (h : o.op = .field t x j) (ht : TyOK P t i) (hd : i.td = .agg fs) (hj : fs[j]? = some (off, ft))
    (hft : TyOK P ft ift) (ha : ift.isAgg = false) (hx : st.ev x = .agg cs) (hc : cs[off]? = some c) : Reads P st o c := by
  intro S0 B w0 I a w hr
  have h1 := hr.ev x
  rw [hx] at h1
  obtain ⟨vs, e, h2⟩ := h1.agg_inv
  obtain ⟨v, h3, h4⟩ := h2.l_at hc
  obtain ⟨fields, g2, fd, g3, rfl, rfl⟩ := ht.field hd hj
  refine ⟨v, fun w' hw => ?_, h4⟩
  simp [execOp, h, e, Instr.field, run_under g2, g3, asAgg, part, run_isAgg hft, ha, h3]

theorem rd_field_agg {o : Oper} {t j off ft : Nat} {x : Operand} {i ift : TyI} {fs : List (Nat × Nat)} {cs : List AV} (h : o.op = .field t x j) (ht : TyOK P t i) (hd : i.td = .agg fs) (hj : fs[j]? = some (off, ft))
    (hft : TyOK P ft ift) (ha : ift.isAgg = true) (hx : st.ev x = .agg cs) : Reads P st o (.agg ((cs.drop off).take ift.size)) := by
  intro S0 B w0 I a w hr
  have h1 := hr.ev x
  rw [hx] at h1
  obtain ⟨vs, e, h2⟩ := h1.agg_inv
  obtain ⟨fields, g2, fd, g3, rfl, rfl⟩ := ht.field hd hj
  have h4 := (h2.l_drop fd.offset).l_take ift.size
  refine ⟨_, fun w' hw => ?_, .agg h4⟩
  have e2 : vs.toArray.extract fd.offset (fd.offset + ift.size) = ((vs.drop fd.offset).take ift.size).toArray := by
    rw [List.extract_toArray]; simp [List.extract_eq_drop_take']
  simp [execOp, h, e, Instr.field, run_under g2, g3, asAgg, part, run_isAgg hft, ha, run_size hft, e2]

/-- What a struct's parts make of its zero. -/
def fillA (fs : List (Nat × Nat × Nat)) : List AV → List (Nat × AV) → Option (List AV)
  | cs, [] => some cs
  | cs, (j, v) :: r => match fs[j]? with
    | none => none
    | some (off, sz, _) => bif Nat.beq v.cells.length sz && Nat.ble (off + sz) cs.length then fillA fs (splice cs off v.cells) r else none
end

section
variable {P : Program} {f : Nat} {Q : Post} {st st' : St}

/-- A weaker state serves, too. -/
theorem run_weak {todo : List Item} {tm : List (Nat × AV)} (h : Run P f Q todo ⟨tm, st.hp, st.nx, st.nt⟩) (ht : ∀ d, get d tm = get d st.tm ∨ get d tm = .any) : Run P f Q todo st := by
  intro S0 B w0 I a w hlo hr
  refine h S0 B w0 I a w hlo { hr with tm := fun d => ?_ }
  rcases ht d with e | e
  · rw [e]; exact hr.tm d
  · rw [e]; exact .std (.any _)

/-- How a call begins. -/
theorem good_of_run {Q : AV → Prop} {fn : Func} {c : Code} {args : List AV} (hf : P.funcs[f]? = some fn) (hb : fn.body = some c) (hn : Nat.ble args.length fn.ntmps = true)
    (h : Run P f (Post.one Q) [.code c] ⟨(List.range args.length).zip args, [], 0, fn.ntmps⟩) : Good P f args Q := by
  intro S0 w vs hS hv cs
  have hn' := Nat.le_of_ble_eq_true hn
  have hlen : vs.length = args.length := (hv.l_rep (I := ⟨S0, fun _ => none, fun _ => 0, fun _ => 0, 0⟩)).l_len
  let b : Frame := { (default : Frame) with fn := f, kind := .normal, roundOf := none }
  have henter : Frame.enter P f vs.toArray .normal = b.atR { tmps := vs.toArray ++ Array.replicate (fn.ntmps - vs.toArray.size) undef, defers := [] } [.code c] := by
    simp [Frame.enter, Frame.atR, hf, hb, b]
  rw [henter]
  suffices hrel : Rel ⟨S0, fun _ => none, fun _ => 0, fun _ => 0, 0⟩ w.heap.size w ⟨S0, fun _ => none, fun _ => 0, fun _ => 0, 0⟩ ⟨(List.range args.length).zip args, [], 0, fn.ntmps⟩ { tmps := vs.toArray ++ Array.replicate (fn.ntmps - vs.toArray.size) undef, defers := [] } w by
    obtain ⟨e, w', h1, fr, h2, h3, h4⟩ := h _ _ w _ _ w rfl hrel rfl b rfl rfl rfl cs
    exact ⟨e, w', fr, h1, h2, h3, h4⟩
  refine ⟨fun d => ?_, by simp; omega, rfl, ⟨[], .nil, List.nodup_nil, by simp⟩, hS, Ext.refl _ _, fun _ h => .inl h, Below.refl _ _, Nat.le_refl _⟩
  have key : ∀ (n : Nat) (as : List AV) (xs : List Value), Std S0 w (.l as xs) → ∀ d, (∃ v x, get d ((List.range' n as.length).zip as) = v ∧ n ≤ d ∧ xs[d - n]? = some x ∧ Std S0 w (.v v x)) ∨ get d ((List.range' n as.length).zip as) = .any := by
    intro n as
    induction as generalizing n with
    | nil => intro xs _ d; right; rfl
    | cons a as ih =>
      intro xs hx d
      cases hx with
      | cons h1 h2 =>
        simp only [List.length_cons, List.range'_succ, List.zip_cons_cons]
        rw [get_cons]
        by_cases e : n = d
        · subst e; left; exact ⟨a, _, by simp, Nat.le_refl _, by simp, h1⟩
        · rw [if_neg e]
          rcases ih (n + 1) _ h2 d with ⟨v, x, g1, g2, g3, g4⟩ | g
          · left; refine ⟨v, x, g1, by omega, ?_, g4⟩
            rw [show d - n = (d - (n + 1)) + 1 from by omega]; simpa using g3
          · right; exact g
  rw [List.range_eq_range']
  rcases key 0 args vs hv d with ⟨v, x, g1, g2, g3, g4⟩ | g
  · rw [g1]
    have : (vs.toArray ++ Array.replicate (fn.ntmps - vs.toArray.size) undef).getD d undef = x := by
      have hd : d < vs.length := (List.getElem?_eq_some_iff.1 g3).1
      simp at g3
      simp [Array.getD_eq_getD_getElem?, Array.getElem?_append, hd]
      obtain ⟨_, g3⟩ := List.getElem?_eq_some_iff.1 g3
      exact g3
    rw [this]; exact .std g4
  · rw [g]; exact .std (.any _)
end
end Go.Ax

/- How a call ends, and what a call of a told function comes to. -/
namespace Go.Ax
open Go.RowKit
set_option linter.unusedVariables false
set_option linter.unusedSimpArgs false

/-- What hangs on no entry. -/
inductive Closed : AV → Prop
  | lit (v) : Closed (.lit v)
  | sl (f s xs) : Closed (.sl f s xs)
  | pt (cs) : Closed (.pt cs)
  | osl (s xs) : Closed (.osl s xs)
  | opt (cs) : Closed (.opt cs)
  | any : Closed .any

def AV.closed : AV → Bool
  | .lit _ | .sl .. | .pt _ | .osl .. | .opt _ | .any => true
  | _ => false

theorem Rep.std_of {I : Interp} {w : World} {a : AV} {x : Value} (h : Rep I w (.v a x)) (hc : a.closed = true) : Std I.S w (.v a x) := by
  cases h with
  | std h => exact h
  | _ => cases hc

theorem Leaf.own {I : Interp} {w : World} {a : AV} {x : Value} {F : List Nat} (h : Leaf I w a x F) (hc : a.closed = true) : Own I.S w (.v a x) F := by
  rcases h with ⟨h, rfl⟩ | h
  · exact .std (h.std_of hc)
  · exact h

theorem Leaves.own {I : Interp} {w : World} {as : List AV} {xs : List Value} {F : List Nat} (h : Leaves I w as xs F) (hc : as.all AV.closed = true) : Own I.S w (.l as xs) F := by
  induction h with
  | nil => exact .nil
  | cons h _ ih =>
    simp only [List.all_cons, Bool.and_eq_true] at hc
    exact .cons (h.own hc.1) (ih hc.2)

/-- A variable that is one's own, and is handed back by its address. -/
def foldP (hp : List (Nat × Row)) : AV → AV × List (Nat × Row)
  | .hp id 0 => match row id hp with
    | some (.var cs) => (.opt cs, rem id hp)
    | _ => (.hp id 0, hp)
  | v => (v, hp)

def resVar (rv : ResultVar) (tmps : Array Value) : Sem Value :=
  match rv with
  | .tmp t => pure (tmps.getD t undef)
  | .cell a t => do loadVar t (← asAddr (tmps.getD a undef))

/-- A result, and the entries that are left. -/
def Res (P : Program) (st : St) (hp : List (Nat × Row)) (rv : ResultVar) (r : AV) (hp' : List (Nat × Row)) : Prop :=
  ∀ (I : Interp) (w : World) (tmps : Array Value) (T : List Nat), (∀ d, Rep I w (.v (get d st.tm) (tmps.getD d undef))) → HeapOK I w hp T → (∀ id b o, I.at_ id = some (b, o) → True) →
    ∃ x F T' G, (resVar rv tmps).run P w = .ok x w ∧ Own I.S w (.v r x) F ∧ HeapOK I w hp' T' ∧ T.Perm (F ++ (T' ++ G))

section
variable {P : Program} {st : St} {hp : List (Nat × Row)}

theorem res_tmp {d : Nat} {v : AV} (hv : get d st.tm = v) {r : AV} {hp' : List (Nat × Row)} (hf : fold1 hp v = (r, hp')) (hc : r.closed = true) : Res P st hp (.tmp d) r hp' := by
  intro I w tmps T hr hh _
  have h1 := hr d
  rw [hv] at h1
  obtain ⟨F, T', g1, g2, g3⟩ := fold1_ok hh h1
  rw [hf] at g1 g2
  exact ⟨_, F, T', [], rfl, g1.own hc, g2, by simpa using g3⟩

theorem res_agg {d : Nat} {cs : List AV} (hv : get d st.tm = .agg cs) {rs : List AV} {hp' : List (Nat × Row)} (hf : foldL hp cs = (rs, hp')) (hc : rs.all AV.closed = true) : Res P st hp (.tmp d) (.agg rs) hp' := by
  intro I w tmps T hr hh _
  have h1 := hr d
  rw [hv] at h1
  obtain ⟨vs, e, h2⟩ := h1.agg_inv
  obtain ⟨F, T', g1, g2, g3⟩ := foldL_ok h2 hh
  rw [hf] at g1 g2
  exact ⟨_, F, T', [], rfl, by rw [e]; exact .agg (g1.own hc), g2, by simpa using g3⟩

theorem res_cell {d t id : Nat} {i : TyI} {cs : List AV} (hv : get d st.tm = .hp id 0) (ht : TyOK P t i) (ha : i.isAgg = false) (hrow : row id hp = some (.var cs)) {r : AV} {rest : List AV} (hcs : cs = r :: rest) (hc : r.closed = true) :
    Res P st hp (.cell d t) r (rem id hp) := by
  intro I w tmps T hr hh _
  have h1 := hr d
  rw [hv] at h1
  obtain ⟨b, of, hi, hat, e⟩ := h1.hp_inv
  obtain ⟨F, T', g1, g2, g3⟩ := hh.take hrow
  obtain ⟨c, G, _, hb, hs, hvc, rfl⟩ := g1.var_inv hat
  subst hcs
  cases hvc with
  | @cons _ _ x _ F1 F2 hce hl hr2 =>
    refine ⟨x, F1, T', b :: F2, ?_, hl.own hc, g2, g3.trans (List.perm_iff_count.2 fun z => by simp only [List.count_append, List.count_cons]; omega)⟩
    simp only [resVar, e, asAddr, loadVar, Sem.run_bind, Sem.run_pure, Result.andThen_ok, run_isAgg ht, ha, if_false, Bool.false_eq_true, run_load, Nat.add_zero, hce]

theorem res_cells {d t id : Nat} {i : TyI} {cs : List AV} (hv : get d st.tm = .hp id 0) (ht : TyOK P t i) (ha : i.isAgg = true) (hrow : row id hp = some (.var cs)) (hn : Nat.beq i.size cs.length = true) (hc : cs.all AV.closed = true) :
    Res P st hp (.cell d t) (.agg cs) (rem id hp) := by
  intro I w tmps T hr hh _
  have h1 := hr d
  rw [hv] at h1
  obtain ⟨b, of, hi, hat, e⟩ := h1.hp_inv
  obtain ⟨F, T', g1, g2, g3⟩ := hh.take hrow
  obtain ⟨c, G, _, hb, hs, hvc, rfl⟩ := g1.var_inv hat
  obtain ⟨xs, l1, l2, l3⟩ := hvc.leaves
  refine ⟨.agg xs.toArray, G, T', [b], ?_, .agg (l1.own hc), g2, g3.trans (List.perm_iff_count.2 fun z => by simp only [List.count_append, List.count_cons, List.count_nil]; omega)⟩
  have := run_cells (P := P) xs l2
  rw [l3, ← Nat.eq_of_beq_eq_true hn] at this
  simp only [resVar, e, asAddr, loadVar, Sem.run_bind, Sem.run_pure, Result.andThen_ok, run_isAgg ht, ha, if_true, run_size ht, Nat.add_zero, this]

end
/-- One result more. -/
inductive ResL (P : Program) (st : St) : List (Nat × Row) → List ResultVar → List AV → Prop
  | nil {hp} : ResL P st hp [] []
  | cons {hp hp' rv rvs r rs} : Res P st hp rv r hp' → ResL P st hp' rvs rs → ResL P st hp (rv :: rvs) (r :: rs)

section
variable {P : Program} {st : St} {hp : List (Nat × Row)}
theorem ResL.run {rvs : List ResultVar} {rs : List AV} (h : ResL P st hp rvs rs) : ∀ (I : Interp) (w : World) (tmps : Array Value) (T : List Nat), (∀ d, Rep I w (.v (get d st.tm) (tmps.getD d undef))) → HeapOK I w hp T →
    ∃ xs F G, (rvs.mapM fun rv => resVar rv tmps).run P w = .ok xs w ∧ Own I.S w (.l rs xs) F ∧ T.Perm (F ++ G) ∧ xs.length = rvs.length := by
  induction h with
  | nil => intro I w tmps T hr hh; exact ⟨[], [], T, by simp, .nil, List.Perm.refl _, rfl⟩
  | cons h _ ih =>
    intro I w tmps T hr hh
    obtain ⟨x, F, T', G, h1, h2, h3, h4⟩ := h I w tmps T hr hh (fun _ _ _ _ => trivial)
    obtain ⟨xs, F2, G2, k1, k2, k3, k4⟩ := ih I w tmps T' hr h3
    refine ⟨x :: xs, F ++ F2, G2 ++ G, ?_, .cons h2 k2, ?_, by simp [k4]⟩
    · simp only [List.mapM_cons, Sem.run_bind, h1, Result.andThen_ok, k1, Sem.run_pure]
    · refine h4.trans ?_
      rw [List.append_assoc]
      refine List.Perm.append_left F ?_
      rw [← List.append_assoc]
      exact List.Perm.append_right G k3

/-- What a call hands back: one result by itself, else all of them together. -/
def asRes : List AV → AV
  | [r] => r
  | rs => .tup rs

theorem leave_of {f : Nat} {fn : Func} {rs : List AV} (hf : P.funcs[f]? = some fn) (h : ResL P st st.hp fn.results.toList rs) {S0 : Interp} {B : Nat} {w0 : World} {I : Interp} {a : Act} {w : World} (hr : Rel S0 B w0 I st a w) (hds : a.defers = [])
    (b : Frame) (hb : b.fn = f) (hk : b.kind = .normal) (todo : List Item) : ∃ v, Fin S0.S B w0 (asRes rs) (.returned v) w ∧ Frame.leaving P { b.atR a todo with mode := .returning } w (.returned v) := by
  obtain ⟨T, k1, k2, k3⟩ := hr.hp
  obtain ⟨xs, F, G, h1, h2, h3, h4⟩ := h.run I w a.tmps T hr.tm k1
  have hres : (results fn a.tmps).run P w = .ok (if h : xs.toArray.size = 1 then xs.toArray[0] else .tuple xs.toArray) w := by
    have e : results fn a.tmps = (do let vs ← fn.results.mapM (fun rv => resVar rv a.tmps); pure (if h : vs.size = 1 then vs[0] else .tuple vs)) := rfl
    rw [e, ← Array.toArray_toList (xs := fn.results), List.mapM_toArray]
    simp only [Sem.run_bind, Sem.run_map, h1, Result.andThen_ok, Sem.run_pure]
  have hF : ∀ z ∈ F, z ∈ T := fun z hz => h3.mem_iff.2 (List.mem_append_left _ hz)
  have hnd : F.Nodup := (List.nodup_append.1 (h3.nodup_iff.1 k2)).1
  have fin : ∀ v, Own I.S w (.v (asRes rs) v) F → Fin S0.S B w0 (asRes rs) (.returned v) w := fun v hv => ⟨v, I.S, F, rfl, hv, hnd, fun z hz => k3 z (hF z hz), hr.ss, hr.ext.S, hr.sb, hr.bl⟩
  refine ⟨_, fin _ ?_, rfl, hds, hk, fn, by subst hb; exact hf, hres⟩
  clear hres
  cases h2 with
  | nil => exact .tup .nil
  | cons g1 g2 =>
    cases g2 with
    | nil => simpa [asRes] using g1
    | cons g2 g3 => simpa [asRes] using Own.tup (.cons g1 (.cons g2 g3))

variable {f : Nat} {Q : AV → Prop} {k : List Item}

theorem run_ret {fn : Func} {rs : List AV} (hf : P.funcs[f]? = some fn) (h : ResL P st st.hp fn.results.toList rs) (hq : Q (asRes rs)) : Run P f (Post.one Q) (.code .ret :: k) st := by
  intro S0 B w0 I a w hlo hr hds b hb hk hro cs
  obtain ⟨v, h1, h2⟩ := leave_of hf h hr hds b hb hk (.code .ret :: k)
  exact ⟨_, w, ⟨_, hq, h1⟩, _, Steps.one (stepR_ret hro), hb, h2⟩

theorem run_fall {fn : Func} {rs : List AV} (hf : P.funcs[f]? = some fn) (h : ResL P st st.hp fn.results.toList rs) (hq : Q (asRes rs)) : Run P f (Post.one Q) [] st := by
  intro S0 B w0 I a w hlo hr hds b hb hk hro cs
  obtain ⟨v, h1, h2⟩ := leave_of hf h hr hds b hb hk []
  exact ⟨_, w, ⟨_, hq, h1⟩, _, Steps.one (stepR_end hro), hb, h2⟩
end
end Go.Ax

/- A call of a function that is told: what it hands back becomes one's own. -/
namespace Go.Ax
open Go.RowKit
set_option linter.unusedVariables false
set_option linter.unusedSimpArgs false

/-- What stays, by sight. -/
def AV.stays : AV → Bool
  | .lit _ | .sl .. | .pt _ | .any => true
  | _ => false

def AV.std : AV → Bool
  | .agg cs => cs.all AV.stays
  | v => v.stays

theorem Rep.l_std {I : Interp} {w : World} {as : List AV} {xs : List Value} (h : Rep I w (.l as xs)) (hc : as.all AV.stays = true) : Std I.S w (.l as xs) := by
  induction as generalizing xs with
  | nil => cases h; exact .nil
  | cons a as ih =>
    cases h with
    | cons h1 h2 =>
      simp only [List.all_cons, Bool.and_eq_true] at hc
      exact .cons (h1.std_of (by cases a <;> simp_all [AV.stays, AV.closed])) (ih h2 hc.2)

theorem Rep.std_std {I : Interp} {w : World} {a : AV} {x : Value} (h : Rep I w (.v a x)) (hc : a.std = true) : Std I.S w (.v a x) := by
  cases a with
  | agg cs =>
    obtain ⟨vs, rfl, h2⟩ := h.agg_inv
    exact .agg (h2.l_std hc)
  | _ => exact h.std_of (by simp_all [AV.std, AV.stays, AV.closed])

theorem Rep.l_stds {I : Interp} {w : World} {as : List AV} {xs : List Value} (h : Rep I w (.l as xs)) (hc : as.all AV.std = true) : Std I.S w (.l as xs) := by
  induction as generalizing xs with
  | nil => cases h; exact .nil
  | cons a as ih =>
    cases h with
    | cons h1 h2 =>
      simp only [List.all_cons, Bool.and_eq_true] at hc
      exact .cons (h1.std_std hc.1) (ih h2 hc.2)

theorem Std.l_own {S : Nat → Prop} {w : World} {as : List AV} {xs : List Value} (h : Std S w (.l as xs)) : Own S w (.l as xs) [] := by
  induction as generalizing xs with
  | nil => cases h; exact .nil
  | cons a as ih => cases h with | cons h1 h2 => exact .cons (F := []) (G := []) (.std h1) (ih h2)

def imp1 (nx : Nat) : AV → AV × List (Nat × Row) × Nat
  | .osl sz xs => (.hw nx, [(nx, .row sz xs)], nx + 1)
  | .opt cs => (.hp nx 0, [(nx, .var cs)], nx + 1)
  | v => (v, [], nx)

def impL (nx : Nat) : List AV → List AV × List (Nat × Row) × Nat
  | [] => ([], [], nx)
  | a :: as => ((imp1 nx a).1 :: (impL (imp1 nx a).2.2 as).1, (imp1 nx a).2.1 ++ (impL (imp1 nx a).2.2 as).2.1, (impL (imp1 nx a).2.2 as).2.2)

def imp2 (nx : Nat) : AV → AV × List (Nat × Row) × Nat
  | .agg cs => (.agg (impL nx cs).1, (impL nx cs).2)
  | v => imp1 nx v

def impT (nx : Nat) : List AV → List AV × List (Nat × Row) × Nat
  | [] => ([], [], nx)
  | a :: as => ((imp2 nx a).1 :: (impT (imp2 nx a).2.2 as).1, (imp2 nx a).2.1 ++ (impT (imp2 nx a).2.2 as).2.1, (impT (imp2 nx a).2.2 as).2.2)

/-- What was handed back, as an entry of the heap where it is one's own. -/
def imp (nx : Nat) : AV → AV × List (Nat × Row) × Nat
  | .tup cs => (.tup (impT nx cs).1, (impT nx cs).2)
  | v => imp2 nx v

def AV.flat : AV → Bool
  | .agg _ | .tup _ => false
  | _ => true
def AV.flat2 : AV → Bool
  | .agg cs => cs.all AV.flat
  | .tup _ => false
  | _ => true
def AV.flat3 : AV → Bool
  | .tup cs => cs.all AV.flat2
  | v => v.flat2

/-- The standing in which what was handed back has its entries. -/
def Imps (I : Interp) (w : World) (p : List (Nat × Row) × Nat) (F : List Nat) (q : Ask) : Prop :=
  ∃ I', Ext I w I' w ∧ I'.S = I.S ∧ I'.nx = p.2 ∧ Rep I' w q ∧ ∃ F', HeapOK I' w p.1 F' ∧ F'.Perm F

theorem HeapOK.app {I : Interp} {w : World} {hp hp2 : List (Nat × Row)} {T T2 : List Nat} (h : HeapOK I w hp T) (h2 : HeapOK I w hp2 T2) : HeapOK I w (hp ++ hp2) (T ++ T2) := by
  induction h with
  | nil => exact h2
  | cons h _ ih => rw [List.append_assoc]; exact .cons h ih

theorem imp1_ok {I : Interp} {w : World} {a : AV} {x : Value} {F : List Nat} (h : Own I.S w (.v a x) F) (hf : a.flat = true) : Imps I w (imp1 I.nx a).2 F (.v (imp1 I.nx a).1 x) := by
  cases h with
  | std h =>
    have : imp1 I.nx a = (a, [], I.nx) := by cases a <;> first | rfl | cases h
    rw [this]
    exact ⟨I, .refl I w, rfl, rfl, .std h, [], .nil, List.Perm.refl _⟩
  | agg => cases hf
  | tup => cases hf
  | @osl0 sz ad ha0 =>
    refine ⟨I.add none 0 sz, .add _ _ _ (fun _ _ => rfl) (.refl w), rfl, rfl, .hw0 (by show I.nx < I.nx + 1; omega) (by simp [Interp.add]) (by simp [Interp.add]) ha0, [], ?_, List.Perm.refl _⟩
    exact .cons (F := []) (T := []) (.row0 (by show I.nx < I.nx + 1; omega) (by simp [Interp.add]) (by simp [Interp.add]) (by simp [Interp.add])) .nil
  | @osl sz xs b o cap c F hb1 hc1 hx1 hs1 ho1 =>
    have hln : (I.add (some (b, o)) xs.length sz).ln I.nx = xs.length := by simp [Interp.add]
    refine ⟨I.add (some (b, o)) xs.length sz, .add _ _ _ (fun _ _ => rfl) (.refl w), rfl, rfl, ?_, (b :: F) ++ [], ?_, by simp⟩
    · have := Rep.hw (I := I.add (some (b, o)) xs.length sz) (w := w) (id := I.nx) (cap := cap) (c := c) (b := b) (o := o) (by show I.nx < I.nx + 1; omega) (by simp [Interp.add]) (by rw [hln]; exact hc1) hb1
        (by simp only [Interp.add, if_true]; exact hs1)
      rw [hln] at this; exact this
    · refine .cons (.row (by show I.nx < I.nx + 1; omega) (by simp [Interp.add]) hln (by simp [Interp.add]) hb1 ?_ hx1 ho1) .nil
      have : xs.length * sz ≤ cap * sz := Nat.mul_le_mul_right _ hc1
      omega
  | @opt cs b o c F hb1 hc1 ho1 =>
    refine ⟨I.add (some (b, o)) 0 0, .add _ _ _ (fun _ _ => rfl) (.refl w), rfl, rfl, ?_, (b :: F) ++ [], ?_, by simp⟩
    · exact .hp (I := I.add (some (b, o)) 0 0) (w := w) (id := I.nx) (off := 0) (b := b) (o := o) (by show I.nx < I.nx + 1; omega) (by simp [Interp.add])
    · refine .cons (.var (o := o) (by show I.nx < I.nx + 1; omega) (by simp [Interp.add]) hb1 (by omega) ?_) .nil
      clear hc1
      -- one's own cells as a variable's
      have key : ∀ (o0 : Nat) (as : List AV) (o : Nat) (F : List Nat), Own I.S w (.c b o as) F → VarC (I.add (some (b, o0)) 0 0) w b o as F := by
        intro o0 as
        induction as with
        | nil => intro o F h; cases h; exact .nil
        | cons a as ih => intro o F h; cases h with | ccons h1 h2 h3 => exact .cons h1 (.inr h2) (ih _ _ h3)
      exact key o cs o F ho1

theorem Imps.then {I : Interp} {w : World} {a : AV} {as : List AV} {x : Value} {xs : List Value} {p : AV × List (Nat × Row) × Nat} {q : Nat → List AV × List (Nat × Row) × Nat} {F G : List Nat}
    (h1 : Imps I w p.2 F (.v p.1 x)) (h2 : ∀ I', I'.S = I.S → I'.nx = p.2.2 → Imps I' w (q p.2.2).2 G (.l (q p.2.2).1 xs)) : Imps I w (p.2.1 ++ (q p.2.2).2.1, (q p.2.2).2.2) (F ++ G) (.l (p.1 :: (q p.2.2).1) (x :: xs)) := by
  obtain ⟨I1, e1, s1, n1, r1, F1, o1, p1⟩ := h1
  obtain ⟨I2, e2, s2, n2, r2, F2, o2, p2⟩ := h2 I1 s1 n1
  exact ⟨I2, e1.trans e2, s2.trans s1, n2, .cons (r1.mono e2) r2, F1 ++ F2, (o1.mono e2 fun _ _ => rfl).app o2, p1.append p2⟩

theorem impL_ok {w : World} {as : List AV} : ∀ {I : Interp} {xs : List Value} {F : List Nat}, Own I.S w (.l as xs) F → as.all AV.flat = true → Imps I w (impL I.nx as).2 F (.l (impL I.nx as).1 xs) := by
  induction as with
  | nil => intro I xs F h _; cases h; exact ⟨I, .refl I w, rfl, rfl, .nil, [], .nil, List.Perm.refl _⟩
  | cons a as ih =>
    intro I xs F h hf
    simp only [List.all_cons, Bool.and_eq_true] at hf
    cases h with
    | cons h1 h2 =>
      refine Imps.then (q := fun n => impL n as) (a := a) (as := as) (imp1_ok h1 hf.1) fun I' hs hn => ?_
      have := ih (I := I') (by rw [hs]; exact h2) hf.2
      rw [hn] at this; exact this

theorem imp2_ok {I : Interp} {w : World} {a : AV} {x : Value} {F : List Nat} (h : Own I.S w (.v a x) F) (hf : a.flat2 = true) : Imps I w (imp2 I.nx a).2 F (.v (imp2 I.nx a).1 x) := by
  cases a with
  | agg cs =>
    have key : ∃ vs, x = .agg vs.toArray ∧ Own I.S w (.l cs vs) F := by
      cases h with
      | std h => cases h with
        | agg h => exact ⟨_, rfl, h.l_own⟩
      | agg h => exact ⟨_, rfl, h⟩
    obtain ⟨vs, rfl, h2⟩ := key
    obtain ⟨I1, e1, s1, n1, r1, F1, o1, p1⟩ := impL_ok h2 hf
    exact ⟨I1, e1, s1, n1, .agg r1, F1, o1, p1⟩
  | tup _ => cases hf
  | _ => exact imp1_ok h rfl

theorem impT_ok {w : World} {as : List AV} : ∀ {I : Interp} {xs : List Value} {F : List Nat}, Own I.S w (.l as xs) F → as.all AV.flat2 = true → Imps I w (impT I.nx as).2 F (.l (impT I.nx as).1 xs) := by
  induction as with
  | nil => intro I xs F h _; cases h; exact ⟨I, .refl I w, rfl, rfl, .nil, [], .nil, List.Perm.refl _⟩
  | cons a as ih =>
    intro I xs F h hf
    simp only [List.all_cons, Bool.and_eq_true] at hf
    cases h with
    | cons h1 h2 =>
      refine Imps.then (q := fun n => impT n as) (a := a) (as := as) (imp2_ok h1 hf.1) fun I' hs hn => ?_
      have := ih (I := I') (by rw [hs]; exact h2) hf.2
      rw [hn] at this; exact this

theorem imp_ok {I : Interp} {w : World} {a : AV} {x : Value} {F : List Nat} (h : Own I.S w (.v a x) F) (hf : a.flat3 = true) : Imps I w (imp I.nx a).2 F (.v (imp I.nx a).1 x) := by
  cases a with
  | tup cs =>
    have key : ∃ vs, x = .tuple vs.toArray ∧ Own I.S w (.l cs vs) F := by
      cases h with
      | std h => cases h with
        | tup h => exact ⟨_, rfl, h.l_own⟩
      | tup h => exact ⟨_, rfl, h⟩
    obtain ⟨vs, rfl, h2⟩ := key
    obtain ⟨I1, e1, s1, n1, r1, F1, o1, p1⟩ := impT_ok h2 hf
    exact ⟨I1, e1, s1, n1, .tup r1, F1, o1, p1⟩
  | _ => exact imp2_ok h hf

theorem lasts_below {w w' : World} (h : Below w.heap.size w w') : Lasts w w' := fun b c hb => by
  have := hb.lt
  obtain ⟨e, hb⟩ := hb
  exact ⟨c, ⟨e, (h.block b this).trans hb⟩, rfl⟩

section
variable {P : Program} {f : Nat} {Q : Post} {k : List Item} {st : St} {A : Array Oper} {i : Nat} {rest : List Nat}

/-- The state behind a call that handed back r. -/
def St.back (st : St) (r : AV) : St := ⟨st.tm, (imp st.nx r).2.1 ++ st.hp, (imp st.nx r).2.2, st.nt⟩

theorem Rel.back {S0 : Interp} {B : Nat} {w0 : World} {I : Interp} {a : Act} {w : World} (hr : Rel S0 B w0 I st a w) {r : AV} {e : Ending} {w' : World} (hf : Fin I.S w.heap.size w r e w') (hfl : r.flat3 = true) :
    ∃ v I', e = .returned v ∧ Rel S0 B w0 I' (st.back r) a w' ∧ Rep I' w' (.v (imp st.nx r).1 v) := by
  obtain ⟨v, S, F, he, ho, hnd, hF, hSs, hS0, hSb, hbl⟩ := hf
  let I1 : Interp := { I with S := S }
  have e1 : Ext I w I1 w' := ⟨hS0, fun b hb => hbl.block b (hr.ss b hb), Nat.le_refl _, fun _ _ => rfl, fun _ _ => rfl, fun _ _ => rfl, lasts_below hbl⟩
  obtain ⟨I2, e2, s2, n2, r2, F2, o2, p2⟩ := imp_ok (I := I1) ho hfl
  obtain ⟨T, t1, t2, t3⟩ := hr.hp
  have hnx : I1.nx = st.nx := hr.nx
  rw [hnx] at n2 r2 o2
  refine ⟨v, I2, he, ?_, r2⟩
  have := hr.next (e1.trans e2) (hbl.mono hr.bs) (fun b hb => by
    rw [s2] at hb
    rcases hSb b hb with h | h
    · exact .inl h
    · exact .inr (Nat.le_trans hr.bs h)) (fun b hb => by rw [s2] at hb; exact hSs b hb)
    (hp := (imp st.nx r).2.1 ++ st.hp) ⟨F2 ++ T, o2.app (t1.mono (e1.trans e2) fun b hb => hbl.block b (t3 b hb).2.2), ?_, ?_⟩
  · rw [n2] at this; exact this
  · refine List.nodup_append.2 ⟨p2.nodup_iff.2 hnd, t2, fun x hx y hy e => ?_⟩
    subst e
    have := (hF x (p2.mem_iff.1 hx)).1
    have := (t3 x hy).2.2
    omega
  · intro b hb
    rw [s2]
    rcases List.mem_append.1 hb with hb | hb
    · have := hF b (p2.mem_iff.1 hb)
      exact ⟨Nat.le_trans hr.bs this.1, this.2.1, this.2.2⟩
    · have := t3 b hb
      refine ⟨this.1, fun hs => ?_, Nat.lt_of_lt_of_le this.2.2 hbl.size⟩
      rcases hSb b hs with h | h
      · exact this.2.1 h
      · omega

theorem run_callFunc {w : World} {g : Nat} {fn : Func} {c : Code} (hg : P.funcs[g]? = some fn) (hb : fn.body = some c) (hn : (fn.name == "runtime.NumGoroutine") = false) (args : Array Value) :
    (callFunc g args).run P w = .ok (.enter g args) w := by
  simp only [callFunc, Sem.run_bind, run_program, Result.andThen_ok, hg, hn, hb]
  rfl

theorem Rel.evs {S0 : Interp} {B : Nat} {w0 : World} {I : Interp} {a : Act} {w : World} (h : Rel S0 B w0 I st a w) (xs : List Operand) : Rep I w (.l (xs.map st.ev) (xs.map a.eval)) := by
  induction xs with
  | nil => exact .nil
  | cons x xs ih => exact .cons (h.ev x) ih

/-- What is entered comes back, and the region goes on. -/
theorem enter_back {b : Frame} {a : Act} {cs : List Frame} {w w1 w2 : World} {o : Oper} {g : Nat} {args : Array Value} {v : Value} {R : Ending → World → Prop} (ho : A[i]? = some o) (hw : Region.wanted o (yielded A a.tmps) = true)
    (hr : (execOp a.eval o).run P w = .ok (.enter g args) w1) {fr : Frame} (hc : Comes P (lone (Frame.enter P g args .normal) (b.atR a (.inRegion A (i :: rest) :: k) :: cs) w1) (lone fr (b.atR a (.inRegion A (i :: rest) :: k) :: cs) w2) (.returned v))
    (hl : fr.leaving P w2 (.returned v)) : Steps P (lone (b.atR a (.inRegion A (i :: rest) :: k)) cs w) (lone (b.atR (a.put o.dst v) (.inRegion A rest :: k)) cs w2) := by
  have hg := stepGR_op (P := P) (b := b) (k := k) (cs := cs) (w := w) (rest := rest) ho hw
  rw [semAt_of hr (by intro d h; cases h)] at hg
  have hfin : (b.atR a (.inRegion A (i :: rest) :: k)).finish v = b.atR (a.put o.dst v) (.inRegion A rest :: k) := by rw [Frame.finish_atR, ho]; rfl
  have henter : step P (lone (b.atR a (.inRegion A (i :: rest) :: k)) cs w) = .next (lone (Frame.enter P g args .normal) (b.atR a (.inRegion A (i :: rest) :: k) :: cs) w1) :=
    step_lone_go (by rw [hg]; simp [stepG.apply, hr, Frame.atR])
  refine .head henter (Steps.trans hc (.one ?_))
  rw [← hfin]; exact step_leave_returned hl

theorem run_call {d t g : Nat} {pos : String} {af : Array Edge} {gd : Option (Nat × Bool)} {xs : Array Operand} {ts : Array Nat} {fn : Func} {c : Code} {Qg : AV → Prop} {as : List AV}
    (ho : A[i]? = some ⟨some d, .call { callee := .value (.func g), args := xs, argTypes := ts }, t, pos, af, gd⟩) (hw : Want A st gd) (hd : Nat.blt d st.nt = true)
    (hg : P.funcs[g]? = some fn) (hb : fn.body = some c) (hn : (fn.name == "runtime.NumGoroutine") = false) (has : xs.toList.map st.ev = as) (hstd : as.all AV.std = true) (hgood : Good P g as Qg)
    (h : ∀ r, Qg r → r.flat3 = true ∧ Run P f Q (.inRegion A rest :: k) ((st.back r).set d (imp st.nx r).1)) : Run P f Q (.inRegion A (i :: rest) :: k) st := by
  intro S0 B w0 I a w hlo hr hds b hbf hk hro cs
  have h1 := hr.evs xs.toList
  rw [has] at h1
  have hcall := hgood I.S w _ hr.ss (h1.l_stds hstd)
  obtain ⟨e, w2, fr, ⟨r, hq, hfin⟩, hcomes, _, hleave⟩ := hcall (b.atR a (.inRegion A (i :: rest) :: k) :: cs)
  obtain ⟨hfl, hrun⟩ := h r hq
  obtain ⟨v, I', rfl, hr', hrep⟩ := hr.back hfin hfl
  have hx : (execOp a.eval ⟨some d, .call { callee := .value (.func g), args := xs, argTypes := ts }, t, pos, af, gd⟩).run P w = .ok (.enter g (xs.toList.map a.eval).toArray) w := by
    have e0 : xs.map a.eval = (xs.toList.map a.eval).toArray := by rw [← Array.toList_map, Array.toArray_toList]
    have e1 : a.eval (.func g) = .func (.func g) #[] #[] := rfl
    simp only [execOp, resolve, e0, e1, Deferred.ofValue, Sem.run_bind, Sem.run_pure, Result.andThen_ok, invoke]
    rw [show (#[] ++ (xs.toList.map a.eval).toArray ++ #[] : Array Value) = (xs.toList.map a.eval).toArray from by simp]
    exact run_callFunc hg hb hn _
  have hst := enter_back ho (hr.wanted hw) hx hcomes hleave (R := fun _ _ => True)
  have hrel := hr'.put (d := d) (by exact hd) hrep
  obtain ⟨e3, w3, g1, g2⟩ := hrun S0 B w0 I' _ w2 hlo hrel hds b hbf hk hro cs
  exact ⟨e3, w3, g1, g2.of_steps hst⟩
end
end Go.Ax
