/- Literal rows, and appending. -/
import Derived.Test.YtnfkdilmoppbpaaAxN
namespace Go.Ax
open Go.RowKit
set_option linter.unusedVariables false
set_option linter.unusedSimpArgs false

theorem flat_len {α : Type} {n : Nat} : ∀ {xs : List (List α)}, (∀ x ∈ xs, x.length = n) → xs.flatten.length = xs.length * n
  | [], _ => by simp
  | x :: xs, h => by
    rw [List.flatten_cons, List.length_append, flat_len fun y hy => h y (List.mem_cons_of_mem _ hy), h x (List.mem_cons_self ..), List.length_cons, Nat.add_mul]; omega

theorem Rep.flat {I : Interp} {w : World} {st : St} {S0 : Interp} {B : Nat} {w0 : World} {a : Act} (hr : Rel S0 B w0 I st a w) (ps : List (Nat × Operand)) (hk : ps.all (fun p => (st.ev p.2).known) = true) (hl : litOK st ps = true) :
    Rep I w (.l (elems st ps).flatten ((ps.map fun p => (a.eval p.2).cells.toList).flatten)) := by
  induction ps with
  | nil => exact .nil
  | cons p ps ih =>
    simp only [List.all_cons, Bool.and_eq_true] at hk
    have h2 : litOK st ps = true := by simp only [litOK, Bool.and_eq_true] at hl; exact hl.2
    have h1 := (hr.ev p.2).cells hk.1 (litOK_spec hl p (List.mem_cons_self ..))
    exact h1.l_app (ih hk.2 h2)

section
variable {P : Program} {st : St}

theorem ok_buildSlice {o : Oper} {t e n : Nat} {parts : Array (Nat × Operand)} {it ie : TyI} {xs : List (List AV)} {hp : List (Nat × Row)} (h : o.op = .buildSlice t n parts) (ht : TyOK P t it) (hd : it.td = .td (.slice e)) (he : TyOK P e ie)
    (hix : parts.toList.map Prod.fst = upTo n 0) (hn : Nat.ble (n * ie.size) 16777216 = true) (hk : parts.toList.all (fun p => (st.ev p.2).known) = true) (hl : litOK st parts.toList = true)
    (hsz : (elems st parts.toList).all (fun x => Nat.beq x.length ie.size) = true) (hf : foldLL st.hp (elems st parts.toList) = (xs, hp)) (hc : xs.flatten.all AV.closed = true) :
    OpOK P st o (.hw st.nx) ⟨st.tm, (st.nx, .row ie.size xs) :: hp, st.nx + 1, st.nt⟩ := by
  refine ⟨rfl, fun S0 B w0 I a w hr => ?_⟩
  obtain ⟨T, t1, t2, t3⟩ := hr.hp
  have hrep := Rep.flat hr parts.toList hk hl
  obtain ⟨F, T', g1, g2, g3⟩ := foldL_ok hrep t1
  rw [foldLL_flat, hf] at g1 g2
  obtain ⟨z, hz, hzc⟩ := run_zero (w := w) he
  have hzl : ie.zero.length = ie.size := he.2.1
  have hlen : parts.toList.length = n := by
    have := congrArg List.length hix
    have hu : ∀ m s, (upTo m s).length = m := by intro m; induction m with | zero => intro s; rfl | succ m ih => intro s; simp [upTo, ih]
    rw [List.length_map, hu] at this; exact this
  -- the elements' sizes
  have hsizes : ∀ x ∈ elems st parts.toList, x.length = ie.size := fun x hx => Nat.eq_of_beq_eq_true (List.all_eq_true.1 hsz x hx)
  have hxs : ∀ (ys : List (List AV)) (hp : List (Nat × Row)), (∀ y ∈ ys, y.length = ie.size) → (foldLL hp ys).1.length = ys.length ∧ ∀ x ∈ (foldLL hp ys).1, x.length = ie.size := by
    intro ys
    induction ys with
    | nil => intro hp _; exact ⟨rfl, by simp [foldLL]⟩
    | cons y ys ih =>
      intro hp hy
      obtain ⟨h1, h2⟩ := ih (foldL hp y).2 (fun z hz => hy z (List.mem_cons_of_mem _ hz))
      refine ⟨by simp [foldLL, h1], fun x hx => ?_⟩
      simp only [foldLL, List.mem_cons] at hx
      rcases hx with rfl | hx
      · rw [foldL_len]; exact hy y (List.mem_cons_self ..)
      · exact h2 x hx
  obtain ⟨hx1, hx2⟩ := hxs _ st.hp hsizes
  rw [hf] at hx1 hx2
  have hxn : xs.length = n := by rw [hx1]; simp [elems, hlen]
  let vs := parts.toList.map fun p => a.eval p.2
  have hvs : ∀ v ∈ vs, v.cells.size = ie.size := by
    intro v hv
    obtain ⟨p, hp, rfl⟩ := List.mem_map.1 hv
    have hk1 := List.all_eq_true.1 hk p hp
    have := ((hr.ev p.2).cells hk1 (litOK_spec hl p hp)).l_len
    rw [← hsizes (st.ev p.2).cells (List.mem_map.2 ⟨p, hp, rfl⟩), ← this]; simp
  let zs : Array Value := if n * ie.size = 0 then #[] else z.cells
  have hzz : ((Array.range (n * ie.size)).map (zs[· % zs.size]!)).size = n * ie.size := by simp
  have hfill := fill_seq vs 0 ((Array.range (n * ie.size)).map (zs[· % zs.size]!)).toList hvs (by
    have e2 : vs.length = n := by simp [vs, ← hlen]
    rw [Nat.zero_add, e2]; simp)
  rw [Nat.zero_mul, List.take_zero, List.nil_append, Array.toArray_toList] at hfill
  have hparts : (parts.map fun p => (p.1, a.eval p.2)).toList = (upTo vs.length 0).zip vs := by
    have e1 : (parts.map fun p => (p.1, a.eval p.2)).toList = parts.toList.map fun p => (p.1, a.eval p.2) := by simp
    have e2 : vs.length = n := by simp [vs, ← hlen]
    rw [e1, e2, ← hix]
    show _ = (parts.toList.map Prod.fst).zip (parts.toList.map fun p => a.eval p.2)
    generalize parts.toList = l
    induction l with
    | nil => rfl
    | cons p l ih => simp [ih]
  have hcs : (vs.map fun v => v.cells.toList) = parts.toList.map fun p => (a.eval p.2).cells.toList := by simp [vs, Function.comp_def]
  have hown := g1.own hc
  have hol := hown.l_len
  have hfl : xs.flatten.length = n * ie.size := by
    rw [← hxn]; exact flat_len hx2
  obtain ⟨k1, k2⟩ := hr.newRow t3 t2 g2 (F := F) ⟨[], by simpa using g3⟩ (sz := ie.size) (xs := xs) (vs := (parts.toList.map fun p => (a.eval p.2).cells.toList).flatten)
    (cs := (parts.toList.map fun p => (a.eval p.2).cells.toList).flatten.toArray) hx2 hown (by simp) e n (by omega) (by rw [List.size_toArray, hol, hfl]; exact Nat.le_refl _)
  rw [hxn] at k1 k2
  refine ⟨_, _, _, ?_, k1, k2, fun _ b hb => heap_push _ _ _ hb⟩
  have hbig : ¬ (n * ie.size > 2 ^ 24) := by have := Nat.le_of_ble_eq_true hn; omega
  rw [hcs] at hfill
  clear_value vs
  by_cases h0 : n * ie.size = 0
  · have hzs : zs = #[] := by simp only [zs, h0, if_true]
    rw [hzs] at hfill
    simp only [execOp, h, Instr.buildSlice, Sem.run_bind, run_under (ht.sliceE hd), Result.andThen_ok, run_size he, hbig, if_false, h0, if_true, Sem.run_pure, hparts, Nat.not_lt_zero, gt_iff_lt, Nat.zero_le]
    rw [h0] at hfill
    simp only [hfill, newRow, Sem.run_bind, run_newObj, Result.andThen_ok, Sem.run_pure]
  · have hzs : zs = z.cells := by simp only [zs, h0, if_false]
    rw [hzs] at hfill
    simp only [execOp, h, Instr.buildSlice, Sem.run_bind, run_under (ht.sliceE hd), Result.andThen_ok, run_size he, hbig, if_false, h0, Sem.run_pure, hz, hparts]
    simp only [hfill, newRow, Sem.run_bind, run_newObj, Result.andThen_ok, Sem.run_pure]
end

/-- A row to be appended to: the machine's value, its cells, what may be written of it. -/
def First (I : Interp) (w : World) (hp : List (Nat × Row)) (x : Value) (sz : Nat) (xs : List (List AV)) (hp' : List (Nat × Row)) : Prop :=
  ∀ T, HeapOK I w hp T → ∃ A cap vs F G T', x = .slice A xs.length cap ∧ xs.length ≤ cap ∧ Own I.S w (.l xs.flatten vs) F ∧ (∀ x ∈ xs, x.length = sz) ∧ HeapOK I w hp' T' ∧ T.Perm (F ++ (T' ++ G)) ∧
    ((cap = 0 ∧ True) ∨ ∃ b o c, A = some ⟨b, o, none⟩ ∧ b ∈ G ∧ Blk w b c ∧ o + cap * sz ≤ c.size ∧ CellsAt w b o vs)

/-- What is appended. -/
def Src (I : Interp) (w : World) (hp : List (Nat × Row)) (y : Value) (sz : Nat) (ys : List (List AV)) (hp' : List (Nat × Row)) : Prop :=
  ∀ T, HeapOK I w hp T → ∃ A cap us F G T', y = .slice A ys.length cap ∧ Own I.S w (.l ys.flatten us) F ∧ (∀ x ∈ ys, x.length = sz) ∧ HeapOK I w hp' T' ∧ T.Perm (F ++ (T' ++ G)) ∧
    ((A = none ∧ ys = []) ∨ ys = [] ∨ ∃ b o, A = some ⟨b, o, none⟩ ∧ CellsAt w b o us)

def FirstA (st : St) (hp : List (Nat × Row)) (x : AV) (sz : Nat) (xs : List (List AV)) (hp' : List (Nat × Row)) : Prop := ∀ I w y, Rep I w (.v x y) → First I w hp y sz xs hp'
def SrcA (st : St) (hp : List (Nat × Row)) (x : AV) (sz : Nat) (xs : List (List AV)) (hp' : List (Nat × Row)) : Prop := ∀ I w y, Rep I w (.v x y) → Src I w hp y sz xs hp'

section
variable {st : St} {hp : List (Nat × Row)}

theorem first_nil {sz : Nat} : FirstA st hp (.lit (.slice none 0 0)) sz [] hp := fun I w y h T hh =>
  ⟨none, 0, [], [], [], T, h.lit_inv, Nat.le_refl _, .nil, by simp, hh, by simp, .inl ⟨rfl, trivial⟩⟩

theorem first_full {sz : Nat} {sz2 : Nat} : FirstA st hp (.sl true sz2 []) sz [] hp := fun I w y h T hh => by
  have key : ∃ a, y = .slice a 0 0 := by
    cases h with
    | std h =>
      generalize he : AV.sl true sz2 [] = v at h
      cases h with
      | @sl0 _ _ a cap h1 h2 => cases he; obtain rfl := h1 rfl; exact ⟨a, rfl⟩
      | sl h1 => cases he; obtain rfl := h1 rfl; exact ⟨_, rfl⟩
      | _ => cases he
  obtain ⟨a, rfl⟩ := key
  exact ⟨a, 0, [], [], [], T, rfl, Nat.le_refl _, .nil, by simp, hh, by simp, .inl ⟨rfl, trivial⟩⟩

theorem Own.row {S : Nat → Prop} {w : World} {b o : Nat} {as : List AV} {F : List Nat} (h : Own S w (.c b o as) F) : ∃ vs, Own S w (.l as vs) F ∧ CellsAt w b o vs := h.cells

theorem first_hw {id sz : Nat} {xs : List (List AV)} (hrow : row id hp = some (.row sz xs)) : FirstA st hp (.hw id) sz xs (rem id hp) := fun I w y h T hh => by
  obtain ⟨F, T', h1, h2, h3⟩ := hh.take hrow
  cases h with
  | std h => cases h
  | hw0 hi ha h0 hx =>
    cases h1 with
    | row0 _ _ _ hz => exact ⟨_, 0, [], [], [], T', rfl, Nat.le_refl _, .nil, by simp, h2, by simpa using h3, .inl ⟨rfl, hx⟩⟩
    | row _ ha' => rw [ha] at ha'; cases ha'
  | @hw _ cap c b o hi ha hn hb hs =>
    cases h1 with
    | row0 _ ha' => rw [ha] at ha'; cases ha'
    | row _ ha' hl hz hb' hs' hx ho =>
      rw [ha] at ha'
      cases ha'
      obtain ⟨vs, o1, o2⟩ := ho.cells
      rw [hl] at hn
      rw [hz] at hs
      refine ⟨some ⟨b, o, none⟩, cap, vs, _, [b], T', by rw [hl], hn, o1, hx, h2, ?_, .inr ⟨b, o, c, rfl, by simp, hb, hs, o2⟩⟩
      refine h3.trans (List.perm_iff_count.2 fun z => ?_)
      simp only [List.count_append, List.count_cons, List.count_nil]; omega

theorem src_nil {sz : Nat} : SrcA st hp (.lit (.slice none 0 0)) sz [] hp := fun I w y h T hh =>
  ⟨none, 0, [], [], [], T, h.lit_inv, .nil, by simp, hh, by simp, .inl ⟨rfl, rfl⟩⟩

theorem Std.l_flat {S : Nat → Prop} {w : World} {as : List AV} {vs : List Value} (h : Std S w (.l as vs)) : Own S w (.l as vs) [] := h.l_own

theorem src_sl {full : Bool} {sz : Nat} {ys : List (List AV)} : SrcA st hp (.sl full sz ys) sz ys hp := fun I w y h T hh => by
  cases h with
  | std h =>
    cases h with
    | @sl0 _ _ a cap => exact ⟨a, cap, [], [], [], T, rfl, .nil, by simp, hh, by simp, .inr (.inl rfl)⟩
    | sl _ _ hx hb hc =>
      obtain ⟨vs, h1, h2, _⟩ := hc.cells
      exact ⟨_, _, vs, [], [], T, rfl, h1.l_own, hx, hh, by simp, .inr (.inr ⟨_, _, rfl, h2⟩)⟩

theorem src_hw {id sz : Nat} {ys : List (List AV)} (hrow : row id hp = some (.row sz ys)) : SrcA st hp (.hw id) sz ys (rem id hp) := fun I w y h T hh => by
  obtain ⟨A, cap, vs, F, G, T', h1, h2, h3, h4, h5, h6, h7⟩ := first_hw (st := st) hrow I w y h T hh
  refine ⟨A, cap, vs, F, G, T', h1, h3, h4, h5, h6, ?_⟩
  rcases h7 with ⟨h7, h8⟩ | ⟨b, o, c, h7, _, _, _, h8⟩
  · have : ys = [] := List.eq_nil_of_length_eq_zero (by omega)
    exact .inr (.inl this)
  · exact .inr (.inr ⟨b, o, h7, h8⟩)

theorem stays_own {S : Nat → Prop} {w : World} {a : AV} {x : Value} {F : List Nat} (h : Own S w (.v a x) F) (hs : a.stays = true) : F = [] ∧ Std S w (.v a x) := by
  cases h with
  | std h => exact ⟨rfl, h⟩
  | _ => cases hs

theorem stays_own_l {S : Nat → Prop} {w : World} {as : List AV} : ∀ {vs : List Value} {F : List Nat}, Own S w (.l as vs) F → as.all AV.stays = true → F = [] ∧ Std S w (.l as vs) := by
  induction as with
  | nil => intro vs F h _; cases h; exact ⟨rfl, .nil⟩
  | cons a as ih =>
    intro vs F h hs
    simp only [List.all_cons, Bool.and_eq_true] at hs
    cases h with
    | cons h1 h2 =>
      obtain ⟨rfl, k1⟩ := stays_own h1 hs.1
      obtain ⟨rfl, k2⟩ := ih h2 hs.2
      exact ⟨rfl, .cons k1 k2⟩

/-- A row of one's own whose elements stay is copied, and kept. -/
theorem src_keep {id sz : Nat} {ys : List (List AV)} (hrow : row id hp = some (.row sz ys)) (hs : ys.flatten.all AV.stays = true) : SrcA st hp (.hw id) sz ys hp := fun I w y h T hh => by
  obtain ⟨A, cap, vs, F, G, T', h1, h2, h3, h4, h5, h6, h7⟩ := first_hw (st := st) hrow I w y h T hh
  obtain ⟨rfl, h9⟩ := stays_own_l h3 hs
  refine ⟨A, cap, vs, [], [], T, h1, h9.l_own, h4, hh, by simp, ?_⟩
  rcases h7 with ⟨h7, h8⟩ | ⟨b, o, c, h7, _, _, _, h8⟩
  · have : ys = [] := List.eq_nil_of_length_eq_zero (by omega)
    exact .inr (.inl this)
  · exact .inr (.inr ⟨b, o, h7, h8⟩)
end
end Go.Ax
