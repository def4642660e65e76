/- Variables of one's own: made, read, written. -/
import Derived.Test.YtnfkdilmoppbpaaAxD
namespace Go.Ax
open Go.RowKit
set_option linter.unusedVariables false
set_option linter.unusedSimpArgs false

/-- The entries, and the blocks that they take. -/
def HOK (B : Nat) (I : Interp) (w : World) (hp : List (Nat × Row)) : Prop := ∃ T, HeapOK I w hp T ∧ T.Nodup ∧ ∀ b ∈ T, B ≤ b ∧ ¬ I.S b ∧ b < w.heap.size

/-- One entry more. -/
def Interp.add (I : Interp) (at_ : Option (Nat × Nat)) (ln sz : Nat) : Interp :=
  { S := I.S, at_ := fun id => if id = I.nx then at_ else I.at_ id, ln := fun id => if id = I.nx then ln else I.ln id, sz := fun id => if id = I.nx then sz else I.sz id, nx := I.nx + 1 }

theorem Ext.add {I : Interp} {w w' : World} (at_ : Option (Nat × Nat)) (ln sz : Nat) (h1 : ∀ b, I.S b → w'.heap[b]? = w.heap[b]?) (h2 : Lasts w w') : Ext I w (I.add at_ ln sz) w' :=
  ⟨fun _ h => h, h1, Nat.le_succ _, fun id h => by simp [Interp.add, Nat.ne_of_lt h], fun id h => by simp [Interp.add, Nat.ne_of_lt h], fun id h => by simp [Interp.add, Nat.ne_of_lt h], h2⟩

theorem Lasts.refl (w : World) : Lasts w w := fun b c h => ⟨c, h, rfl⟩
theorem Lasts.trans {a b c : World} (h : Lasts a b) (k : Lasts b c) : Lasts a c := fun x y hy => by
  obtain ⟨c1, h1, h2⟩ := h x y hy
  obtain ⟨c2, h3, h4⟩ := k x c1 h1
  exact ⟨c2, h3, h4.trans h2⟩

theorem Ext.refl (I : Interp) (w : World) : Ext I w I w := ⟨fun _ h => h, fun _ _ => rfl, Nat.le_refl _, fun _ _ => rfl, fun _ _ => rfl, fun _ _ => rfl, .refl w⟩
theorem Ext.trans {I J K : Interp} {w x y : World} (h : Ext I w J x) (k : Ext J x K y) : Ext I w K y :=
  ⟨fun b hb => k.S b (h.S b hb), fun b hb => (k.hold b (h.S b hb)).trans (h.hold b hb), Nat.le_trans h.nx k.nx, fun id hi => (k.at_ id (Nat.lt_of_lt_of_le hi h.nx)).trans (h.at_ id hi),
    fun id hi => (k.ln id (Nat.lt_of_lt_of_le hi h.nx)).trans (h.ln id hi), fun id hi => (k.sz id (Nat.lt_of_lt_of_le hi h.nx)).trans (h.sz id hi), h.last.trans k.last⟩

theorem heap_push (w : World) (o : Obj) (b : Nat) (h : b < w.heap.size) : ({ w with heap := w.heap.push o } : World).heap[b]? = w.heap[b]? := by
  show (w.heap.push o)[b]? = _
  rw [Array.getElem?_push, if_neg (by omega)]

theorem Blk.lt {w : World} {b : Nat} {c : Array Value} (h : Blk w b c) : b < w.heap.size := by
  obtain ⟨e, h⟩ := h
  rcases Nat.lt_or_ge b w.heap.size with h1 | h1
  · exact h1
  · rw [Array.getElem?_eq_none h1] at h; cases h

theorem Lasts.push (w : World) (o : Obj) : Lasts w { w with heap := w.heap.push o } := fun b c h => by
  have hl := h.lt
  obtain ⟨e, h⟩ := h
  exact ⟨c, ⟨e, (heap_push w o b hl).trans h⟩, rfl⟩

theorem Below.push (B : Nat) (w : World) (o : Obj) (hB : B ≤ w.heap.size) : Below B w { w with heap := w.heap.push o } :=
  ⟨rfl, rfl, rfl, by simp, fun k hk => heap_push w o k (by omega)⟩

section
variable {S0 : Interp} {B : Nat} {w0 : World} {I : Interp} {st : St} {a : Act} {w : World}

theorem Rel.next (hr : Rel S0 B w0 I st a w) {I' : Interp} {w' : World} {hp : List (Nat × Row)} (e : Ext I w I' w') (hb : Below B w w') (hS : ∀ b, I'.S b → I.S b ∨ B ≤ b) (hss : ∀ b, I'.S b → b < w'.heap.size)
    (hh : HOK B I' w' hp) : Rel S0 B w0 I' ⟨st.tm, hp, I'.nx, st.nt⟩ a w' :=
  ⟨fun d => (hr.tm d).mono e, hr.nt, hr.df, rfl, hh, hss, hr.ext.trans e, fun b h => (hS b h).elim (hr.sb b) .inr, hr.bl.trans hb, Nat.le_trans hr.bs hb.size⟩

theorem HOK.mono {I' : Interp} {w' : World} {hp : List (Nat × Row)} (h : HOK B I w hp) (e : Ext I w I' w') (hw : ∀ b, b < w.heap.size → w'.heap[b]? = w.heap[b]?) (hs : ∀ b, I'.S b → I.S b) (hz : w.heap.size ≤ w'.heap.size) : HOK B I' w' hp := by
  obtain ⟨T, h1, h2, h3⟩ := h
  exact ⟨T, h1.mono e (fun b hb => hw b (h3 b hb).2.2), h2, fun b hb => ⟨(h3 b hb).1, fun h => (h3 b hb).2.1 (hs b h), Nat.lt_of_lt_of_le (h3 b hb).2.2 hz⟩⟩

end

/-- Values of one's own, side by side. -/
inductive Leaves (I : Interp) (w : World) : List AV → List Value → List Nat → Prop
  | nil : Leaves I w [] [] []
  | cons {a x as xs F G} : Leaf I w a x F → Leaves I w as xs G → Leaves I w (a :: as) (x :: xs) (F ++ G)

theorem Leaves.mono {I I' : Interp} {w w' : World} {as : List AV} {xs : List Value} {F : List Nat} (h : Leaves I w as xs F) (e : Ext I w I' w') (hF : ∀ b ∈ F, w'.heap[b]? = w.heap[b]?) : Leaves I' w' as xs F := by
  induction h with
  | nil => exact .nil
  | cons h _ ih => exact .cons (h.mono e fun b hb => hF b (List.mem_append_left _ hb)) (ih fun b hb => hF b (List.mem_append_right _ hb))

/-- A row that is one's own goes into the variable in which it is laid. -/
def fold1 (hp : List (Nat × Row)) : AV → AV × List (Nat × Row)
  | .hw id => match row id hp with
    | some (.row sz xs) => (.osl sz xs, rem id hp)
    | _ => (.hw id, hp)
  | v => (v, hp)

def foldL : List (Nat × Row) → List AV → List AV × List (Nat × Row)
  | hp, [] => ([], hp)
  | hp, a :: as => ((fold1 hp a).1 :: (foldL (fold1 hp a).2 as).1, (foldL (fold1 hp a).2 as).2)

theorem fold1_ok {I : Interp} {w : World} {hp : List (Nat × Row)} {T : List Nat} (h : HeapOK I w hp T) {a : AV} {x : Value} (hr : Rep I w (.v a x)) :
    ∃ F T', Leaf I w (fold1 hp a).1 x F ∧ HeapOK I w (fold1 hp a).2 T' ∧ T.Perm (F ++ T') := by
  have plain : ∃ F T', Leaf I w a x F ∧ HeapOK I w hp T' ∧ T.Perm (F ++ T') := ⟨[], T, .inl ⟨hr, rfl⟩, h, List.Perm.refl _⟩
  cases a with
  | hw id =>
    cases hrow : row id hp with
    | none => simpa [fold1, hrow] using plain
    | some r =>
      cases r with
      | var cs => simpa [fold1, hrow] using plain
      | foc => simpa [fold1, hrow] using plain
      | row sz xs =>
        obtain ⟨F, T', h1, h2, h3⟩ := h.take hrow
        have e1 : fold1 hp (.hw id) = (.osl sz xs, rem id hp) := by simp [fold1, hrow]
        rw [e1]
        refine ⟨F, T', .inr ?_, h2, h3⟩
        cases hr with
        | std hr => cases hr
        | hw0 hi ha h0 hx =>
          cases h1 with
          | row0 _ _ _ hz => exact .osl0 hx
          | row _ ha' => rw [ha] at ha'; cases ha'
        | hw hi ha hn hb hs =>
          cases h1 with
          | row0 _ ha' => rw [ha] at ha'; cases ha'
          | row _ ha' hl hz hb' hs' hx ho =>
            rw [ha] at ha'
            cases ha'
            rw [hl] at hn ⊢
            rw [hz] at hs
            exact .osl hb hn hx hs ho
  | _ => exact plain

theorem foldL_ok {I : Interp} {w : World} {as : List AV} {xs : List Value} (hr : Rep I w (.l as xs)) : ∀ {hp : List (Nat × Row)} {T : List Nat}, HeapOK I w hp T →
    ∃ F T', Leaves I w (foldL hp as).1 xs F ∧ HeapOK I w (foldL hp as).2 T' ∧ T.Perm (F ++ T') := by
  induction as generalizing xs with
  | nil => intro hp T h; cases hr; exact ⟨[], T, .nil, h, List.Perm.refl _⟩
  | cons a as ih =>
    intro hp T h
    cases hr with
    | cons h1 h2 =>
      obtain ⟨F, T1, g1, g2, g3⟩ := fold1_ok h h1
      obtain ⟨G, T2, k1, k2, k3⟩ := ih h2 g2
      refine ⟨F ++ G, T2, .cons g1 k1, k2, g3.trans ?_⟩
      rw [List.append_assoc]
      exact List.Perm.append_left F k3

/-- The cells of a value. -/
def AV.cells : AV → List AV
  | .agg cs => cs
  | v => [v]

/-- A value whose cells are known. -/
def AV.known : AV → Bool
  | .any | .tup _ => false
  | _ => true

theorem Rep.cells {I : Interp} {w : World} {v : AV} {x : Value} (h : Rep I w (.v v x)) (hk : v.known = true) (hl : ∀ u, v = .lit u → u.cells = #[u]) : Rep I w (.l v.cells x.cells.toList) := by
  have one : v.cells = [v] → x.cells = #[x] → Rep I w (.l v.cells x.cells.toList) := fun e1 e2 => by rw [e1, e2]; exact .cons h .nil
  cases v with
  | any => cases hk
  | tup _ => cases hk
  | agg cs =>
    cases h with
    | std h => cases h with | agg h => exact h.l_rep
    | agg h => exact h
  | lit u => exact one rfl (by rw [h.lit_inv]; exact hl u rfl)
  | sl f s xs => exact one rfl (by cases h with | std h => cases h <;> rfl)
  | pt cs => exact one rfl (by cases h with | std h => cases h; rfl)
  | osl s xs => cases h with | std h => cases h
  | opt cs => cases h with | std h => cases h
  | hw id => exact one rfl (by cases h with | std h => cases h | hw0 => rfl | hw => rfl)
  | hs id lo n => exact one rfl (by cases h with | std h => cases h | hs0 => rfl | hs => rfl)
  | hp id o => exact one rfl (by cases h with | std h => cases h | hp => rfl)
  | hq id i o => exact one rfl (by cases h with | std h => cases h | hq => rfl)
  | fn f cs => exact one rfl (by cases h with | std h => cases h; rfl | fn => rfl)
  | mp kvs => exact one rfl (by cases h with | std h => cases h; rfl)

theorem Leaves.length {I : Interp} {w : World} {as : List AV} {xs : List Value} {F : List Nat} (h : Leaves I w as xs F) : as.length = xs.length := by
  induction h with
  | nil => rfl
  | cons _ _ ih => simp [ih]

theorem Leaves.varC {I : Interp} {w : World} {b : Nat} {as : List AV} {xs : List Value} {F : List Nat} (h : Leaves I w as xs F) : ∀ {o : Nat}, CellsAt w b o xs → VarC I w b o as F := by
  induction h with
  | nil => exact fun _ => .nil
  | cons h _ ih =>
    intro o hc
    refine .cons (hc 0 _ rfl) h (ih fun j v hj => ?_)
    have := hc (j + 1) v (by simpa using hj)
    rw [show o + 1 + j = o + (j + 1) from by omega]; exact this

theorem cellsAt_new (w : World) (cs : Array Value) (e : Nat) : CellsAt { w with heap := w.heap.push (.cells cs e) } w.heap.size 0 cs.toList := by
  intro j v hj
  simp only [World.cell?, Array.getElem?_push_size, Nat.zero_add]
  simpa using hj

/-- A new variable with these cells. -/
theorem Rel.newVar {S0 : Interp} {B : Nat} {w0 : World} {I : Interp} {st : St} {a : Act} {w : World} (hr : Rel S0 B w0 I st a w) {as : List AV} {xs : List Value} (hv : Rep I w (.l as xs)) (e : Nat) :
    Rel S0 B w0 (I.add (some (w.heap.size, 0)) 0 0) ⟨st.tm, (st.nx, .var (foldL st.hp as).1) :: (foldL st.hp as).2, st.nx + 1, st.nt⟩ a { w with heap := w.heap.push (.cells xs.toArray e) } ∧
    Rep (I.add (some (w.heap.size, 0)) 0 0) { w with heap := w.heap.push (.cells xs.toArray e) } (.v (.hp st.nx 0) (.pointer (some ⟨w.heap.size, 0, none⟩))) := by
  obtain ⟨T, h1, h2, h3⟩ := hr.hp
  obtain ⟨F, T', g1, g2, g3⟩ := foldL_ok hv h1
  have hold : ∀ b, I.S b → ({ w with heap := w.heap.push (.cells xs.toArray e) } : World).heap[b]? = w.heap[b]? := fun b hb => heap_push _ _ _ (hr.ss b hb)
  have he : Ext I w (I.add (some (w.heap.size, 0)) 0 0) { w with heap := w.heap.push (.cells xs.toArray e) } := .add _ _ _ hold (.push _ _)
  have hlt : ∀ b ∈ F ++ T', b < w.heap.size := fun b hb => (h3 b (g3.mem_iff.2 hb)).2.2
  have hnx : I.nx = st.nx := hr.nx
  have hn : (I.add (some (w.heap.size, 0)) 0 0).nx = st.nx + 1 := by show I.nx + 1 = _; rw [hnx]
  have hat : (I.add (some (w.heap.size, 0)) 0 0).at_ st.nx = some (w.heap.size, 0) := by simp [Interp.add, hnx]
  have hlen : (foldL st.hp as).1.length = xs.length := g1.length
  have hrow : RowOK (I.add (some (w.heap.size, 0)) 0 0) { w with heap := w.heap.push (.cells xs.toArray e) } st.nx (.var (foldL st.hp as).1) (w.heap.size :: F) := by
    refine .var (by rw [hn]; omega) hat (c := xs.toArray) ⟨e, by simp⟩ (by simp [hlen]) ?_
    refine Leaves.varC (xs := xs) (g1.mono he fun b hb => heap_push _ _ _ (hlt b (List.mem_append_left _ hb))) ?_
    simpa using cellsAt_new w xs.toArray e
  refine ⟨?_, .hp (by rw [hn]; omega) hat⟩
  have := hr.next he (Below.push B w _ hr.bs) (fun b h => .inl h) (fun b h => by have := hr.ss b h; simp; omega)
    (hp := (st.nx, .var (foldL st.hp as).1) :: (foldL st.hp as).2) ⟨(w.heap.size :: F) ++ T', .cons hrow (g2.mono he fun b hb => heap_push _ _ _ (hlt b (List.mem_append_right _ hb))), ?_, ?_⟩
  · rw [hn] at this; exact this
  · have hnd : (F ++ T').Nodup := g3.nodup_iff.1 h2
    refine List.nodup_cons.2 ⟨fun hm => ?_, hnd⟩
    have := hlt _ hm; omega
  · intro b hb
    rcases List.mem_cons.1 hb with rfl | hb
    · exact ⟨hr.bs, fun h => by have := hr.ss _ h; omega, by simp⟩
    · have := h3 b (g3.mem_iff.2 hb)
      exact ⟨this.1, this.2.1, by have := this.2.2; simp; omega⟩

section
variable {P : Program} {st : St}

theorem ok_box {o : Oper} {t : Nat} {x : Operand} {v : AV} (h : o.op = .box t x) (hx : st.ev x = v) (hk : v.known = true) (hl : ∀ u, v = .lit u → u.cells = #[u]) :
    OpOK P st o (.hp st.nx 0) ⟨st.tm, (st.nx, .var (foldL st.hp v.cells).1) :: (foldL st.hp v.cells).2, st.nx + 1, st.nt⟩ := by
  refine ⟨rfl, fun S0 B w0 I a w hr => ?_⟩
  have h1 := hr.ev x
  rw [hx] at h1
  obtain ⟨g1, g2⟩ := hr.newVar (h1.cells hk hl) t
  refine ⟨_, _, _, ?_, g1, g2, fun _ b hb => heap_push _ _ _ hb⟩
  simp only [execOp, h, Instr.box, newVar, newRow, Sem.run_bind, run_newObj, Result.andThen_ok, Sem.run_pure, Array.toArray_toList]

theorem lits_rep (I : Interp) (w : World) (vs : List Value) : Rep I w (.l (vs.map .lit) vs) := by
  induction vs with
  | nil => exact .nil
  | cons v vs ih => exact .cons (.std (.lit _)) ih

theorem ok_alloc {o : Oper} {t : Nat} {i : TyI} (h : o.op = .alloc t) (ht : TyOK P t i) :
    OpOK P st o (.hp st.nx 0) ⟨st.tm, (st.nx, .var (foldL st.hp (i.zero.map .lit)).1) :: (foldL st.hp (i.zero.map .lit)).2, st.nx + 1, st.nt⟩ := by
  refine ⟨rfl, fun S0 B w0 I a w hr => ?_⟩
  obtain ⟨z, hz, hc⟩ := run_zero (w := w) ht
  obtain ⟨g1, g2⟩ := hr.newVar (lits_rep I w i.zero) t
  refine ⟨_, _, _, ?_, g1, g2, fun _ b hb => heap_push _ _ _ hb⟩
  simp only [execOp, h, Instr.alloc, newVar, newRow, Sem.run_bind, run_newObj, Result.andThen_ok, Sem.run_pure, hz, hc]
end
end Go.Ax
