/- The abstract states of a symbolic run, when they stand for the machine's, and what it is that such a run shows. -/
import Derived.Test.YtnfkdilmoppbpaaAxA
namespace Go.Ax
open Go.RowKit

/-- An abstract state: the slots, the heap's entries, the next entry's number, how many slots there are. -/
structure St where
  tm : List (Nat × AV)
  hp : List (Nat × Row)
  nx : Nat
  nt : Nat

def get : Nat → List (Nat × AV) → AV
  | _, [] => .any
  | d, (k, v) :: r => bif Nat.beq k d then v else get d r

def St.get (st : St) (d : Nat) : AV := Ax.get d st.tm

def St.ev (st : St) : Operand → AV
  | .tmp t => Ax.get t st.tm
  | .const v => .lit v
  | .func f => .fn f []
  | .global _ => .any

def St.set (st : St) (d : Nat) (v : AV) : St := { st with tm := (d, v) :: st.tm }

def row : Nat → List (Nat × Row) → Option Row
  | _, [] => none
  | d, (k, v) :: r => bif Nat.beq k d then some v else row d r

def rem : Nat → List (Nat × Row) → List (Nat × Row)
  | _, [] => []
  | d, (k, v) :: r => bif Nat.beq k d then r else (k, v) :: rem d r

/-- A cell of a variable: what may hang on entries, or is the variable's own. -/
def Leaf (I : Interp) (w : World) (a : AV) (x : Value) (F : List Nat) : Prop := (Rep I w (.v a x) ∧ F = []) ∨ Own I.S w (.v a x) F

inductive VarC (I : Interp) (w : World) (b : Nat) : Nat → List AV → List Nat → Prop
  | nil {o} : VarC I w b o [] []
  | cons {o a x as F G} : w.cell? ⟨b, o, none⟩ = some x → Leaf I w a x F → VarC I w b (o + 1) as G → VarC I w b o (a :: as) (F ++ G)

inductive RowOK (I : Interp) (w : World) : Nat → Row → List Nat → Prop
  | var {id b o cs c F} : id < I.nx → I.at_ id = some (b, o) → Blk w b c → o + cs.length ≤ c.size → VarC I w b o cs F → RowOK I w id (.var cs) (b :: F)
  | row0 {id sz} : id < I.nx → I.at_ id = none → I.ln id = 0 → I.sz id = sz → RowOK I w id (.row sz []) []
  | row {id b o sz xs c F} : id < I.nx → I.at_ id = some (b, o) → I.ln id = xs.length → I.sz id = sz → Blk w b c → o + xs.length * sz ≤ c.size → (∀ x ∈ xs, x.length = sz) → Own I.S w (.c b o xs.flatten) F →
      RowOK I w id (.row sz xs) (b :: F)
  | foc {id b o sz xs c n off j x cs a As Cs F1 F2} : id < I.nx → I.at_ id = some (b, o) → I.ln id = xs.length → I.sz id = sz → Blk w b c → o + xs.length * sz ≤ c.size → (∀ x ∈ xs, x.length = sz) → xs[n]? = some cs → off < sz →
      xs.flatten = As ++ a :: Cs → As.length = n * sz + off → Own I.S w (.c b o As) F1 → w.cell? ⟨b, o + (n * sz + off), none⟩ = some x → Rep I w (.v (.hw j) x) → Own I.S w (.c b (o + (n * sz + off) + 1) Cs) F2 →
      RowOK I w id (.foc sz xs cs n off j) (b :: (F1 ++ F2))

inductive HeapOK (I : Interp) (w : World) : List (Nat × Row) → List Nat → Prop
  | nil : HeapOK I w [] []
  | cons {id r hp F T} : RowOK I w id r F → HeapOK I w hp T → HeapOK I w ((id, r) :: hp) (F ++ T)

theorem Leaf.mono {I I' : Interp} {w w' : World} {a : AV} {x : Value} {F : List Nat} (h : Leaf I w a x F) (e : Ext I w I' w') (hF : ∀ b ∈ F, w'.heap[b]? = w.heap[b]?) : Leaf I' w' a x F :=
  h.imp (fun h => ⟨h.1.mono e, h.2⟩) (fun h => h.mono e.S e.hold hF (by simp))

theorem VarC.mono {I I' : Interp} {w w' : World} {b o : Nat} {as : List AV} {F : List Nat} (h : VarC I w b o as F) (e : Ext I w I' w') (hF : ∀ b ∈ F, w'.heap[b]? = w.heap[b]?)
    (hb : w'.heap[b]? = w.heap[b]?) : VarC I' w' b o as F := by
  induction h with
  | nil => exact .nil
  | cons hc hr _ ih => exact .cons ((World.cell?_of_block (w := w) hb).trans hc) (hr.mono e (fun b h => hF b (List.mem_append_left _ h))) (ih (fun b h => hF b (List.mem_append_right _ h)))

theorem RowOK.mono {I I' : Interp} {w w' : World} {id : Nat} {r : Row} {F : List Nat} (h : RowOK I w id r F) (e : Ext I w I' w') (hF : ∀ b ∈ F, w'.heap[b]? = w.heap[b]?) : RowOK I' w' id r F := by
  cases h with
  | var hi ha hb hs hv =>
    have hbb := hF _ (List.mem_cons_self ..)
    have hv' := hv.mono e (fun b h => hF b (List.mem_cons_of_mem _ h)) hbb
    obtain ⟨t, ht⟩ := hb
    exact .var (Nat.lt_of_lt_of_le hi e.nx) ((e.at_ _ hi).trans ha) ⟨t, hbb.trans ht⟩ hs hv'
  | row0 hi ha h0 hz => exact .row0 (Nat.lt_of_lt_of_le hi e.nx) ((e.at_ _ hi).trans ha) ((e.ln _ hi).trans h0) ((e.sz _ hi).trans hz)
  | row hi ha hl hz hb hs hx hv =>
    have hbb := hF _ (List.mem_cons_self ..)
    have hv' := hv.mono e.S e.hold (fun b h => hF b (List.mem_cons_of_mem _ h)) (fun _ _ _ e => by cases e; exact hbb)
    obtain ⟨t, ht⟩ := hb
    exact .row (Nat.lt_of_lt_of_le hi e.nx) ((e.at_ _ hi).trans ha) ((e.ln _ hi).trans hl) ((e.sz _ hi).trans hz) ⟨t, hbb.trans ht⟩ hs hx hv'
  | foc hi ha hl hz hb hs hx hn ho hf hA o1 hc hr o2 =>
    have hbb := hF _ (List.mem_cons_self ..)
    have k1 := o1.mono e.S e.hold (fun b h => hF b (List.mem_cons_of_mem _ (List.mem_append_left _ h))) (fun _ _ _ e => by cases e; exact hbb)
    have k2 := o2.mono e.S e.hold (fun b h => hF b (List.mem_cons_of_mem _ (List.mem_append_right _ h))) (fun _ _ _ e => by cases e; exact hbb)
    obtain ⟨t, ht⟩ := hb
    exact .foc (Nat.lt_of_lt_of_le hi e.nx) ((e.at_ _ hi).trans ha) ((e.ln _ hi).trans hl) ((e.sz _ hi).trans hz) ⟨t, hbb.trans ht⟩ hs hx hn ho hf hA k1 ((World.cell?_of_block (w := w) hbb).trans hc) (hr.mono e) k2

theorem HeapOK.mono {I I' : Interp} {w w' : World} {hp : List (Nat × Row)} {T : List Nat} (h : HeapOK I w hp T) (e : Ext I w I' w') (hT : ∀ b ∈ T, w'.heap[b]? = w.heap[b]?) : HeapOK I' w' hp T := by
  induction h with
  | nil => exact .nil
  | cons h _ ih => exact .cons (h.mono e fun b hb => hT b (List.mem_append_left _ hb)) (ih fun b hb => hT b (List.mem_append_right _ hb))

theorem HeapOK.take {I : Interp} {w : World} {hp : List (Nat × Row)} {T : List Nat} (h : HeapOK I w hp T) {id : Nat} {r : Row} (hr : row id hp = some r) :
    ∃ F T', RowOK I w id r F ∧ HeapOK I w (rem id hp) T' ∧ T.Perm (F ++ T') := by
  induction h with
  | nil => simp [row] at hr
  | @cons id' r' hp F T h h' ih =>
    cases hb : Nat.beq id' id with
    | true =>
      obtain rfl := Nat.eq_of_beq_eq_true hb
      simp only [row, hb, cond_true, Option.some.injEq] at hr
      subst hr
      exact ⟨F, T, h, by simpa [rem, hb] using h', List.Perm.refl _⟩
    | false =>
      simp only [row, hb, cond_false] at hr
      obtain ⟨F2, T2, h1, h2, h3⟩ := ih hr
      refine ⟨F2, F ++ T2, h1, by simpa [rem, hb] using HeapOK.cons h h2, ?_⟩
      refine (List.Perm.append_left F h3).trans ?_
      rw [← List.append_assoc, ← List.append_assoc]
      exact List.Perm.append_right _ List.perm_append_comm

/-- When an abstract state stands for the machine's. B: where the call's own blocks begin; S0: the standing in which it began. -/
structure Rel (S0 : Interp) (B : Nat) (w0 : World) (I : Interp) (st : St) (a : Act) (w : World) : Prop where
  tm : ∀ d, Rep I w (.v (get d st.tm) (a.tmps.getD d undef))
  nt : a.tmps.size = st.nt
  df : a.defers = []
  nx : I.nx = st.nx
  hp : ∃ T, HeapOK I w st.hp T ∧ T.Nodup ∧ ∀ b ∈ T, B ≤ b ∧ ¬ I.S b ∧ b < w.heap.size
  ss : ∀ b, I.S b → b < w.heap.size
  ext : Ext S0 w0 I w
  sb : ∀ b, I.S b → S0.S b ∨ B ≤ b
  bl : Below B w0 w
  bs : B ≤ w.heap.size

/-- What a call has come to: it hands back r, which is its own but for what stays as it is; nothing that was there has turned. -/
def Fin (S0 : Nat → Prop) (B : Nat) (w0 : World) (r : AV) (e : Ending) (w' : World) : Prop :=
  ∃ v S F, e = .returned v ∧ Own S w' (.v r v) F ∧ F.Nodup ∧ (∀ b ∈ F, B ≤ b ∧ ¬ S b ∧ b < w'.heap.size) ∧ (∀ b, S b → b < w'.heap.size) ∧ (∀ b, S0 b → S b) ∧
    (∀ b, S b → S0 b ∨ B ≤ b) ∧ Below B w0 w'

/-- Called with such arguments, f hands back what is told by Q. -/
def Good (P : Program) (f : Nat) (args : List AV) (Q : AV → Prop) : Prop :=
  ∀ (S0 : Nat → Prop) (w : World) (vs : List Value), (∀ b, S0 b → b < w.heap.size) → Std S0 w (.l args vs) →
    Calls P f vs.toArray w fun e w' => ∃ r, Q r ∧ Fin S0 w.heap.size w r e w'

/-- What a frame comes to; lo: how many entries there were when it began. -/
structure Post where
  lo : Nat
  R : Interp → Nat → World → Ending → World → Prop

/-- It hands back what Q tells. -/
def Post.one (Q : AV → Prop) : Post := ⟨0, fun S0 B w0 e w' => ∃ r, Q r ∧ Fin S0.S B w0 r e w'⟩

/-- From such a state on, a frame of f comes to what Q tells. -/
def Run (P : Program) (f : Nat) (Q : Post) (todo : List Item) (st : St) : Prop :=
  ∀ S0 B w0 I a w, S0.nx = Q.lo → Rel S0 B w0 I st a w → ∀ (b : Frame), b.fn = f → b.kind = .normal → ∀ cs, ∃ e w' fr,
    Q.R S0 B w0 e w' ∧ Comes P (lone (b.at a todo) cs w) (lone fr cs w') e ∧ fr.fn = f ∧ fr.leaving P w' e

section
variable {P : Program} {f : Nat} {Q : Post} {k : List Item} {st st' : St}

/-- One step of the machine that a step of the abstract state follows. -/
theorem run_by {todo todo' : List Item} (h : Run P f Q todo' st')
    (hs : ∀ S0 B w0 I a w, Rel S0 B w0 I st a w → ∃ I' a' w', Rel S0 B w0 I' st' a' w' ∧ ∀ (b : Frame) (cs : List Frame), b.fn = f → Steps P (lone (b.at a todo) cs w) (lone (b.at a' todo') cs w')) :
    Run P f Q todo st := by
  intro S0 B w0 I a w hlo hr b hb hk cs
  obtain ⟨I', a', w', hr', hst⟩ := hs S0 B w0 I a w hr
  obtain ⟨e, w2, fr, h1, h2, h3, h4⟩ := h S0 B w0 I' a' w' hlo hr' b hb hk cs
  exact ⟨e, w2, fr, h1, Comes.of_steps (hst b cs hb) h2, h3, h4⟩

/-- What is plain control. -/
theorem run_move' {todo todo' : List Item} (h : Run P f Q todo' st) (hs : ∀ (b : Frame) (a : Act) (cs : List Frame) (w : World), step P (lone (b.at a todo) cs w) = .next (lone (b.at a todo') cs w)) : Run P f Q todo st :=
  run_by h fun _ _ _ I a w hr => ⟨I, a, w, hr, fun b cs _ => .one (hs b a cs w)⟩

theorem run_skip (h : Run P f Q k st) : Run P f Q (.code .skip :: k) st := run_move' h fun _ _ _ _ => step_skip
theorem run_label {l : Nat} (h : Run P f Q k st) : Run P f Q (.code (.label l) :: k) st := run_move' h fun _ _ _ _ => step_label
theorem run_inBlock {id : Nat} (h : Run P f Q k st) : Run P f Q (.inBlock id :: k) st := run_move' h fun _ _ _ _ => step_inBlock
theorem run_seq {x y : Code} (h : Run P f Q (.code x :: .code y :: k) st) : Run P f Q (.code (.seq x y) :: k) st := run_move' h fun _ _ _ _ => step_seq
theorem run_block {id : Nat} {c : Code} (h : Run P f Q (.code c :: .inBlock id :: k) st) : Run P f Q (.code (.block id c) :: k) st := run_move' h fun _ _ _ _ => step_block
theorem run_loop {c : Code} (h : Run P f Q (.code c :: .inLoop c :: k) st) : Run P f Q (.code (.loop c) :: k) st := run_move' h fun _ _ _ _ => step_loop
theorem run_inLoop {c : Code} (h : Run P f Q (.code c :: .inLoop c :: k) st) : Run P f Q (.inLoop c :: k) st := run_move' h fun _ _ _ _ => step_inLoop
theorem run_exit {id : Nat} {k' : List Item} (he : exitTo id k = some k') (h : Run P f Q k' st) : Run P f Q (.code (.exit id) :: k) st := run_move' h fun _ _ _ _ => step_exit he
theorem run_region {id : Nat} {ops : Array Oper} (h : Run P f Q (.inRegion ops (List.range ops.size) :: k) st) : Run P f Q (.code (.region id ops false) :: k) st := run_move' h fun _ _ _ _ => step_region
theorem run_end {ops : Array Oper} (h : Run P f Q k st) : Run P f Q (.inRegion ops [] :: k) st := run_move' h fun _ _ _ _ => step_region_end

theorem Std.lit_inv {S : Nat → Prop} {w : World} {x y : Value} (h : Std S w (.v (.lit x) y)) : y = x := by cases h; rfl
theorem Rep.lit_inv {I : Interp} {w : World} {x y : Value} (h : Rep I w (.v (.lit x) y)) : y = x := by cases h with | std h => exact h.lit_inv

theorem Rel.ev {S0 : Interp} {B : Nat} {w0 : World} {I : Interp} {a : Act} {w : World} (h : Rel S0 B w0 I st a w) (x : Operand) : Rep I w (.v (st.ev x) (a.eval x)) := by
  cases x with
  | tmp t => exact h.tm t
  | const v => exact .std (.lit v)
  | func g => exact .std (.fn (vs := []) .nil)
  | global g => exact .std (.any _)

theorem run_cond {c : Operand} {x y : Code} {t : Bool} (hc : st.ev c = .lit (.bool t)) (h : Run P f Q (.code (bif t then x else y) :: k) st) : Run P f Q (.code (.cond c x y) :: k) st := by
  refine run_by h fun _ _ _ I a w hr => ⟨I, a, w, hr, fun b cs _ => .one ?_⟩
  have := hr.ev c
  rw [hc] at this
  rw [step_cond this.lit_inv]
  cases t <;> rfl

theorem run_cond_split {c : Operand} {x y : Code} {t : Bool} (hc : st.ev c = .lit (.bool t)) (ht : t = true → Run P f Q (.code x :: k) st) (hf : t = false → Run P f Q (.code y :: k) st) : Run P f Q (.code (.cond c x y) :: k) st := by
  refine run_cond hc ?_
  cases t
  · exact hf rfl
  · exact ht rfl

theorem get_cons (d j : Nat) (v : AV) (r : List (Nat × AV)) : get d ((j, v) :: r) = if j = d then v else get d r := by
  show (bif Nat.beq j d then v else get d r) = _
  cases h : Nat.beq j d with
  | true => simp [Nat.eq_of_beq_eq_true h]
  | false => simp [Nat.ne_of_beq_eq_false h]

theorem Rel.put {S0 : Interp} {B : Nat} {w0 : World} {I : Interp} {a : Act} {w : World} (h : Rel S0 B w0 I st a w) {d : Nat} (hd : Nat.blt d st.nt = true) {v : AV} {x : Value} (hv : Rep I w (.v v x)) :
    Rel S0 B w0 I (st.set d v) (a.put (some d) x) w := by
  have hd' : d < a.tmps.size := by rw [h.nt]; simpa using hd
  refine { h with tm := fun j => ?_, nt := by simpa [Act.put, St.set] using h.nt, df := h.df }
  show Rep I w (.v (get j ((d, v) :: st.tm)) ((a.tmps.setIfInBounds d x).getD j undef))
  rw [get_cons]
  by_cases e : d = j
  · subst e; simp [hd', hv]
  · rw [if_neg e]
    have h1 := h.tm j
    have h2 : (a.tmps.setIfInBounds d x).getD j undef = a.tmps.getD j undef := by simp [Array.getD_eq_getD_getElem?, e]
    rw [h2]; exact h1
end

end Go.Ax
