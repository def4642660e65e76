/- Rows of one's own: made, appended to, read, written. -/
import Derived.Test.YtnfkdilmoppbpaaAxM
import Derived.Laws.Append
namespace Go.Ax
open Go.RowKit
set_option linter.unusedVariables false
set_option linter.unusedSimpArgs false

theorem Own.l_len {S : Nat → Prop} {w : World} {as : List AV} {vs : List Value} {F : List Nat} (h : Own S w (.l as vs) F) : vs.length = as.length := by
  induction as generalizing vs F with
  | nil => cases h; rfl
  | cons a as ih => cases h with | cons _ h2 => simp [ih h2]

theorem Own.cells {S : Nat → Prop} {w : World} {b : Nat} {as : List AV} : ∀ {o : Nat} {F : List Nat}, Own S w (.c b o as) F → ∃ vs, Own S w (.l as vs) F ∧ CellsAt w b o vs := by
  induction as with
  | nil => intro o F h; cases h; exact ⟨[], .nil, .nil⟩
  | cons a as ih =>
    intro o F h
    cases h with
    | ccons hc ha hr =>
      obtain ⟨vs, h1, h2⟩ := ih hr
      exact ⟨_ :: vs, .cons ha h1, .cons hc h2⟩

theorem Own.ofCells {S : Nat → Prop} {w : World} {b : Nat} {as : List AV} : ∀ {o : Nat} {vs : List Value} {F : List Nat}, Own S w (.l as vs) F → CellsAt w b o vs → Own S w (.c b o as) F := by
  induction as with
  | nil => intro o vs F h _; cases h; exact .cnil
  | cons a as ih =>
    intro o vs F h hc
    cases h with
    | cons h1 h2 =>
      refine .ccons (hc 0 _ rfl) h1 (ih h2 fun j v hj => ?_)
      have := hc (j + 1) v (by simpa using hj)
      rw [show o + 1 + j = o + (j + 1) from by omega]; exact this

theorem Own.l_app {S : Nat → Prop} {w : World} {as bs : List AV} : ∀ {vs us : List Value} {F G : List Nat}, Own S w (.l as vs) F → Own S w (.l bs us) G → Own S w (.l (as ++ bs) (vs ++ us)) (F ++ G) := by
  induction as with
  | nil => intro vs us F G h h2; cases h; exact h2
  | cons a as ih =>
    intro vs us F G h h2
    cases h with
    | cons h0 h1 => rw [List.append_assoc]; exact .cons h0 (ih h1 h2)

theorem Own.l_split {S : Nat → Prop} {w : World} {as bs : List AV} : ∀ {vs : List Value} {F : List Nat}, Own S w (.l (as ++ bs) vs) F → ∃ v1 v2 F1 F2, vs = v1 ++ v2 ∧ F = F1 ++ F2 ∧ Own S w (.l as v1) F1 ∧ Own S w (.l bs v2) F2 := by
  induction as with
  | nil => intro vs F h; exact ⟨[], vs, [], F, rfl, rfl, .nil, h⟩
  | cons a as ih =>
    intro vs F h
    cases h with
    | cons h0 h1 =>
      obtain ⟨v1, v2, F1, F2, rfl, rfl, h2, h3⟩ := ih h1
      exact ⟨_ :: v1, v2, _ ++ F1, F2, rfl, by rw [List.append_assoc], .cons h0 h2, h3⟩

theorem Own.l_mono {I I' : Interp} {w w' : World} {as : List AV} {vs : List Value} {F : List Nat} (h : Own I.S w (.l as vs) F) (e : Ext I w I' w') (hF : ∀ b ∈ F, w'.heap[b]? = w.heap[b]?) : Own I'.S w' (.l as vs) F :=
  Own.mono h e.S e.hold hF (by simp)

theorem CellsAt.app {w : World} {b o : Nat} {vs us : List Value} (h : CellsAt w b o vs) (h2 : CellsAt w b (o + vs.length) us) : CellsAt w b o (vs ++ us) := by
  intro j v hj
  rcases Nat.lt_or_ge j vs.length with hlt | hge
  · rw [List.getElem?_append_left hlt] at hj; exact h j v hj
  · rw [List.getElem?_append_right hge] at hj
    have := h2 _ v hj
    rw [show o + vs.length + (j - vs.length) = o + j from by omega] at this; exact this

/-- A new row with these elements. -/
theorem Rel.newRow {S0 : Interp} {B : Nat} {w0 : World} {I : Interp} {st : St} {a : Act} {w : World} (hr : Rel S0 B w0 I st a w) {hp : List (Nat × Row)} {T F : List Nat} {T0 : List Nat} (ht0 : ∀ b ∈ T0, B ≤ b ∧ ¬ I.S b ∧ b < w.heap.size) (hnd : T0.Nodup)
    (hh : HeapOK I w hp T) (hp0 : ∃ G, T0.Perm (F ++ (T ++ G))) {sz : Nat} {xs : List (List AV)} {vs : List Value} {cs : Array Value} (hx : ∀ x ∈ xs, x.length = sz) (ho : Own I.S w (.l xs.flatten vs) F) (hcs : cs.toList = vs ++ cs.toList.drop vs.length)
    (e cap : Nat) (hcap : xs.length ≤ cap) (hsz : cap * sz ≤ cs.size) :
    Rel S0 B w0 (I.add (some (w.heap.size, 0)) xs.length sz) ⟨st.tm, (st.nx, .row sz xs) :: hp, st.nx + 1, st.nt⟩ a { w with heap := w.heap.push (.cells cs e) } ∧
    Rep (I.add (some (w.heap.size, 0)) xs.length sz) { w with heap := w.heap.push (.cells cs e) } (.v (.hw st.nx) (.slice (some ⟨w.heap.size, 0, none⟩) xs.length cap)) := by
  obtain ⟨G, hperm⟩ := hp0
  have hold : ∀ b, I.S b → ({ w with heap := w.heap.push (.cells cs e) } : World).heap[b]? = w.heap[b]? := fun b hb => heap_push _ _ _ (hr.ss b hb)
  have he : Ext I w (I.add (some (w.heap.size, 0)) xs.length sz) { w with heap := w.heap.push (.cells cs e) } := .add _ _ _ hold (.push _ _)
  have hlt : ∀ b ∈ F ++ (T ++ G), b < w.heap.size := fun b hb => (ht0 b (hperm.mem_iff.2 hb)).2.2
  have hnx : I.nx = st.nx := hr.nx
  have hn : (I.add (some (w.heap.size, 0)) xs.length sz).nx = st.nx + 1 := by show I.nx + 1 = _; rw [hnx]
  have hat : (I.add (some (w.heap.size, 0)) xs.length sz).at_ st.nx = some (w.heap.size, 0) := by simp [Interp.add, hnx]
  have hln : (I.add (some (w.heap.size, 0)) xs.length sz).ln st.nx = xs.length := by simp [Interp.add, hnx]
  have hszz : (I.add (some (w.heap.size, 0)) xs.length sz).sz st.nx = sz := by simp [Interp.add, hnx]
  have hblk : Blk { w with heap := w.heap.push (.cells cs e) } w.heap.size cs := ⟨e, by simp⟩
  have hle : xs.length * sz ≤ cap * sz := Nat.mul_le_mul_right _ hcap
  have hcell : CellsAt { w with heap := w.heap.push (.cells cs e) } w.heap.size 0 vs := by
    intro j v hj
    refine cellsAt_new w cs e j v ?_
    rw [hcs, List.getElem?_append_left (List.getElem?_eq_some_iff.1 hj).1]; exact hj
  have hrow : RowOK (I.add (some (w.heap.size, 0)) xs.length sz) { w with heap := w.heap.push (.cells cs e) } st.nx (.row sz xs) (w.heap.size :: F) :=
    .row (by rw [hn]; omega) hat hln hszz hblk (by omega) hx (Own.ofCells (ho.l_mono he fun b hb => heap_push _ _ _ (hlt b (List.mem_append_left _ hb))) hcell)
  have hndF : (F ++ (T ++ G)).Nodup := hperm.nodup_iff.1 hnd
  refine ⟨?_, ?_⟩
  · have := hr.next he (Below.push B w _ hr.bs) (fun b h => .inl h) (fun b h => by have := hr.ss b h; simp; omega)
      (hp := (st.nx, .row sz xs) :: hp) ⟨(w.heap.size :: F) ++ T, .cons hrow (hh.mono he fun b hb => heap_push _ _ _ (hlt b (by simp [hb]))), ?_, ?_⟩
    · rw [hn] at this; exact this
    · refine List.nodup_cons.2 ⟨fun hm => ?_, ?_⟩
      · have := hlt _ (by rw [← List.append_assoc]; exact List.mem_append_left _ hm); omega
      · rw [← List.append_assoc] at hndF; exact (List.nodup_append.1 hndF).1
    · intro b hb
      rcases List.mem_cons.1 hb with rfl | hb
      · exact ⟨hr.bs, fun h => by have := hr.ss _ h; omega, by simp⟩
      · have := ht0 b (hperm.mem_iff.2 (by rw [← List.append_assoc]; exact List.mem_append_left _ hb))
        exact ⟨this.1, this.2.1, by have := this.2.2; simp; omega⟩
  · have := Rep.hw (I := I.add (some (w.heap.size, 0)) xs.length sz) (w := { w with heap := w.heap.push (.cells cs e) }) (id := st.nx) (cap := cap) (c := cs) (b := w.heap.size) (o := 0) (by rw [hn]; omega) hat (by rw [hln]; exact hcap) hblk
      (by rw [hszz]; omega)
    rw [hln] at this; exact this

theorem own_lits (S : Nat → Prop) (w : World) (vs : List Value) : Own S w (.l (vs.map .lit) vs) [] := by
  induction vs with
  | nil => exact .nil
  | cons v vs ih => exact .cons (F := []) (G := []) (.std (.lit _)) ih

theorem flatten_rep {n : Nat} {zs : List Value} : (List.replicate n (zs.map AV.lit)).flatten = ((List.replicate n zs).flatten).map .lit := by
  induction n with
  | zero => rfl
  | succ n ih => rw [List.replicate_succ, List.replicate_succ, List.flatten_cons, List.flatten_cons, List.map_append, ih]

theorem flatten_get {zs : List Value} : ∀ (n j : Nat), j < n * zs.length → (List.replicate n zs).flatten[j]? = zs[j % zs.length]?
  | 0, j, h => by rw [Nat.zero_mul] at h; exact absurd h (Nat.not_lt_zero _)
  | n + 1, j, h => by
    rw [List.replicate_succ, List.flatten_cons]
    rcases Nat.lt_or_ge j zs.length with hlt | hge
    · rw [List.getElem?_append_left hlt, Nat.mod_eq_of_lt hlt]
    · have hm : (n + 1) * zs.length = n * zs.length + zs.length := by rw [Nat.add_mul, Nat.one_mul]
      rw [List.getElem?_append_right hge, flatten_get n (j - zs.length) (by omega), Nat.mod_eq_sub_mod hge]

theorem flatten_len {zs : List Value} (n : Nat) : (List.replicate n zs).flatten.length = n * zs.length := by
  induction n with
  | zero => simp
  | succ n ih => rw [List.replicate_succ, List.flatten_cons, List.length_append, ih, Nat.add_mul]; omega

theorem zeros_eq {z : Array Value} {n : Nat} (h : 0 < n * z.size) : ((Array.range (n * z.size)).map (z[· % z.size]!)).toList = (List.replicate n z.toList).flatten := by
  apply List.ext_getElem?
  intro j
  have hl : (List.replicate n z.toList).flatten.length = n * z.size := by rw [flatten_len]; simp
  rcases Nat.lt_or_ge j (n * z.size) with hlt | hge
  · rw [flatten_get n j (by simpa using hlt)]
    have hz : 0 < z.size := by
      rcases Nat.eq_zero_or_pos z.size with h0 | h0
      · rw [h0, Nat.mul_zero] at h; omega
      · exact h0
    have hm : j % z.size < z.size := Nat.mod_lt _ hz
    have h1 : z.toList[j % z.toList.length]? = some z[j % z.size] := by simp [hm]
    rw [h1, Array.toList_map, Array.toList_range, List.getElem?_map, List.getElem?_range hlt, Option.map_some, getElem!_pos z _ hm]
  · rw [List.getElem?_eq_none (by simpa using hge), List.getElem?_eq_none (by rw [hl]; exact hge)]

section
variable {P : Program} {st : St}

theorem ok_makeSlice {o : Oper} {t e : Nat} {x y : Operand} {it ie : TyI} {k k2 : IntKind} {n : Nat} (h : o.op = .makeSlice t x y) (ht : TyOK P t it) (hd : it.td = .td (.slice e)) (he : TyOK P e ie) (hx : st.ev x = .lit (.int k (n : Int)))
    (hy : st.ev y = .lit (.int k2 (n : Int))) (hb : (n : Int) * ie.bytes ≤ 281474976710656) (hn : (n : Int) ≤ 9223372036854775807) :
    OpOK P st o (.hw st.nx) ⟨st.tm, (st.nx, .row ie.size (List.replicate n (ie.zero.map .lit))) :: st.hp, st.nx + 1, st.nt⟩ := by
  refine ⟨rfl, fun S0 B w0 I a w hr => ?_⟩
  have h1 := hr.ev x
  have h2 := hr.ev y
  rw [hx] at h1
  rw [hy] at h2
  obtain ⟨T, t1, t2, t3⟩ := hr.hp
  obtain ⟨info, hi1, hi2⟩ := run_bytes (w := w) he
  obtain ⟨z, hz, hzc⟩ := run_zero (w := w) he
  have hzl : ie.zero.length = ie.size := he.2.1
  have hzs : z.cells.size = ie.size := by rw [hzc]; simp [hzl]
  have hzt : z.cells.toList = ie.zero := by rw [hzc]
  let cs : Array Value := if n * ie.size = 0 then #[] else (Array.range (n * ie.size)).map (z.cells[· % z.cells.size]!)
  have hcs : cs.toList = (List.replicate n ie.zero).flatten := by
    show (if n * ie.size = 0 then (#[] : Array Value) else _).toList = _
    split
    · rename_i h0
      have := flatten_len (zs := ie.zero) n
      rw [hzl, h0] at this
      exact (List.eq_nil_of_length_eq_zero this).symm
    · rename_i h0
      have h3 : 0 < n * z.cells.size := by rw [hzs]; omega
      have := zeros_eq (z := z.cells) (n := n) h3
      rw [hzt] at this
      rw [← this, hzs]
  have hlen : (List.replicate n ie.zero).flatten.length = n * ie.size := by rw [flatten_len, hzl]
  have hsize : cs.size = n * ie.size := by rw [← Array.length_toList, hcs, hlen]
  have hown : Own I.S w (.l (List.replicate n (ie.zero.map AV.lit)).flatten (List.replicate n ie.zero).flatten) [] := by rw [flatten_rep]; exact own_lits _ _ _
  obtain ⟨g1, g2⟩ := hr.newRow t3 t2 t1 (F := []) ⟨[], by simp⟩ (sz := ie.size) (xs := List.replicate n (ie.zero.map .lit)) (vs := (List.replicate n ie.zero).flatten) (cs := cs)
    (fun x hx => by rw [List.eq_of_mem_replicate hx]; simp [hzl]) hown (by rw [hcs]; simp) e n (by simp) (by rw [hsize]; exact Nat.le_refl _)
  rw [List.length_replicate] at g1 g2
  refine ⟨_, _, _, ?_, g1, g2, fun _ b hb => heap_push _ _ _ hb⟩
  have hw : IntKind.i64.wrap (n : Int) = n := wrap_in (by omega) hn
  have hb2 : ¬ ((ie.bytes : Int) * n > 2 ^ 48) := by rw [Int.mul_comm]; simpa using hb
  have hneg : ¬ ((n : Int) < 0) := by omega
  have e1 : decide ((n : Int) < 0) = false := decide_eq_false hneg
  have e2 : decide ((ie.bytes : Int) * n > 2 ^ 48) = false := decide_eq_false hb2
  have e3 : decide ((n : Int) > n) = false := decide_eq_false (by omega)
  have hcells : (if n * ie.size = 0 then (#[] : Array Value) else z.cells) = if n * ie.size = 0 then #[] else z.cells := rfl
  simp only [execOp, h, h1.lit_inv, h2.lit_inv, Instr.makeSlice, Sem.run_bind, run_under (ht.sliceE hd), Result.andThen_ok, asInt, asIntOf, Sem.run_pure, hi1, hi2, hw, e1, e2, e3, Bool.or_false, Bool.false_eq_true, if_false, run_askRoom, Int.toNat_natCast,
    run_size he]
  by_cases h0 : n * ie.size = 0
  · simp only [h0, if_true, Sem.run_pure, Result.andThen_ok, newRow, Sem.run_bind, run_newObj]
    have : cs = #[] := by show (if n * ie.size = 0 then _ else _) = _; rw [if_pos h0]
    have e0 : ∀ g : Nat → Value, (Array.range 0).map g = #[] := fun g => Array.eq_empty_of_size_eq_zero (by simp)
    rw [this, e0]
  · simp only [h0, if_false, Sem.run_bind, hz, Sem.run_pure, Result.andThen_ok, newRow, run_newObj]
    have : cs = (Array.range (n * ie.size)).map (z.cells[· % z.cells.size]!) := by show (if n * ie.size = 0 then _ else _) = _; rw [if_neg h0]
    rw [this]

/-- The elements that a literal lists, in their order. -/
def elems (st : St) (ps : List (Nat × Operand)) : List (List AV) := ps.map fun p => (st.ev p.2).cells

def foldLL : List (Nat × Row) → List (List AV) → List (List AV) × List (Nat × Row)
  | hp, [] => ([], hp)
  | hp, x :: xs => ((foldL hp x).1 :: (foldLL (foldL hp x).2 xs).1, (foldLL (foldL hp x).2 xs).2)

theorem foldL_app (as bs : List AV) : ∀ (hp : List (Nat × Row)), foldL hp (as ++ bs) = ((foldL hp as).1 ++ (foldL (foldL hp as).2 bs).1, (foldL (foldL hp as).2 bs).2) := by
  induction as with
  | nil => intro hp; rfl
  | cons a as ih => intro hp; simp only [List.cons_append, foldL, ih]

theorem foldLL_flat (xs : List (List AV)) : ∀ (hp : List (Nat × Row)), foldL hp xs.flatten = ((foldLL hp xs).1.flatten, (foldLL hp xs).2) := by
  induction xs with
  | nil => intro hp; rfl
  | cons x xs ih => intro hp; rw [List.flatten_cons, foldL_app, ih]; rfl

theorem foldL_len (as : List AV) : ∀ (hp : List (Nat × Row)), (foldL hp as).1.length = as.length := by
  induction as with
  | nil => intro hp; rfl
  | cons a as ih => intro hp; simp [foldL, ih]

theorem fill_seq {size : Nat} : ∀ (vs : List Value) (k : Nat) (zs : List Value), (∀ v ∈ vs, v.cells.size = size) → (k + vs.length) * size = zs.length →
    Instr.fill (fun i => some (i * size, size)) zs.toArray ((upTo vs.length k).zip vs) = some (zs.take (k * size) ++ (vs.map fun v => v.cells.toList).flatten).toArray
  | [], k, zs, _, h => by
    simp only [List.length_nil, Nat.add_zero] at h
    simp [upTo, Instr.fill, h]
  | v :: vs, k, zs, hv, h => by
    have hs := hv v (List.mem_cons_self ..)
    have hm : (k + 1 + vs.length) * size = zs.length := by rw [← h]; simp; congr 1; omega
    have hk : (k + 1) * size = k * size + size := by rw [Nat.add_mul, Nat.one_mul]
    have hle : k * size + size ≤ zs.length := by
      rw [← hm, ← hk]; exact Nat.mul_le_mul_right _ (by omega)
    have hl2 : v.cells.toList.length = size := by simpa using hs
    have h3 := foldl_splice v.cells.toList 0 (k * size) zs (by rw [hl2]; omega)
    have ih := fill_seq vs (k + 1) (spliceV zs (k * size) v.cells.toList) (fun u hu => hv u (List.mem_cons_of_mem _ hu)) (by rw [spliceV_len]; exact hm)
    have hsp : spliceV zs (k * size) v.cells.toList = zs.take (k * size) ++ (v.cells.toList ++ zs.drop (k * size + size)) := by
      have : ∀ (cs : List Value) (n : Nat) (vs : List Value), n + vs.length ≤ cs.length → spliceV cs n vs = cs.take n ++ (vs ++ cs.drop (n + vs.length)) := by
        intro cs
        induction cs with
        | nil => intro n vs h; cases vs with | nil => simp [spliceV] | cons => simp at h
        | cons c cs ih =>
          intro n vs h
          cases vs with
          | nil => simp [spliceV]
          | cons v vs =>
            cases n with
            | zero => have := ih 0 vs (by simp at h ⊢; omega); simp [spliceV, this]
            | succ n =>
              have := ih n (v :: vs) (by simp at h ⊢; omega)
              simp only [spliceV, this, List.take_succ_cons, List.cons_append, List.length_cons]
              rw [show n + 1 + (vs.length + 1) = (n + (vs.length + 1)) + 1 from by omega, List.drop_succ_cons]
      rw [this _ _ _ (by rw [hl2]; omega), hl2]
    simp only [List.length_cons, upTo, List.zip_cons_cons, Instr.fill]
    rw [if_neg (by simp [hs]; omega)]
    have harr : (v.cells.zipIdx.foldl (fun cs (c, j) => cs.setIfInBounds (k * size + j) c) zs.toArray) = (spliceV zs (k * size) v.cells.toList).toArray := by
      apply Array.ext'
      rw [Nat.add_zero] at h3
      rw [List.toList_toArray, ← h3]
      congr 1
      rw [← Array.foldl_toList]
      simp [Array.toList_zipIdx]
    rw [harr, ih, hsp]
    have hl3 : (zs.take (k * size)).length = k * size := by rw [List.length_take]; omega
    have key : (zs.take (k * size) ++ (v.cells.toList ++ zs.drop (k * size + size))).take (k * size + size) = zs.take (k * size) ++ v.cells.toList := by
      rw [← List.append_assoc, List.take_append, List.take_of_length_le (by rw [List.length_append, hl3, hl2]; exact Nat.le_refl _), List.length_append, hl3, hl2, Nat.sub_self, List.take_zero, List.append_nil]
    rw [hk, key, List.map_cons, List.flatten_cons, List.append_assoc]
end
end Go.Ax
