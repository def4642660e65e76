/- Writes into rows of one's own; rows within rows, taken out and put back; what is nil; results that are pointers; views. -/
import Derived.Test.YtnfkdilmoppbpaaAxU
namespace Go.Ax
open Go.RowKit
set_option linter.unusedVariables false
set_option linter.unusedSimpArgs false

theorem flatten_parts {xs : List (List AV)} {sz n : Nat} {cs : List AV} (hx : ∀ x ∈ xs, x.length = sz) (h : xs[n]? = some cs) : xs.flatten = (xs.take n).flatten ++ (cs ++ (xs.drop (n + 1)).flatten) ∧ (xs.take n).flatten.length = n * sz ∧ cs.length = sz := by
  obtain ⟨hlt, rfl⟩ := List.getElem?_eq_some_iff.1 h
  refine ⟨?_, ?_, hx _ (List.getElem_mem _)⟩
  · conv => lhs; rw [← List.take_append_drop n xs, List.drop_eq_getElem_cons hlt]
    rw [List.flatten_append, List.flatten_cons]
  · rw [flat_len fun x hx' => hx x (List.mem_of_mem_take hx'), List.length_take]
    congr 1; omega

theorem flatten_set {xs : List (List AV)} {sz n : Nat} {cs : List AV} (h : xs[n]? = some cs) (cs' : List AV) : (xs.set n cs').flatten = (xs.take n).flatten ++ (cs' ++ (xs.drop (n + 1)).flatten) := by
  obtain ⟨hlt, rfl⟩ := List.getElem?_eq_some_iff.1 h
  rw [List.set_eq_take_append_cons_drop, if_pos hlt, List.flatten_append, List.flatten_cons]

theorem set_mem_len {xs : List (List AV)} {sz n : Nat} {cs' : List AV} (hx : ∀ x ∈ xs, x.length = sz) (hc : cs'.length = sz) : ∀ x ∈ xs.set n cs', x.length = sz := by
  intro x h
  rcases List.mem_or_eq_of_mem_set h with h | rfl
  · exact hx x h
  · exact hc

theorem splice_len (cs : List AV) (n : Nat) (vs : List AV) (h : n + vs.length ≤ cs.length) : (splice cs n vs).length = cs.length := by
  rw [splice_eq cs n vs h]; simp only [List.length_append, List.length_take, List.length_drop]; omega

theorem Wrote.cellsAt {w w' : World} {b o o2 : Nat} {vs us : List Value} (h : Wrote w w' b o vs) (hc : CellsAt w b o2 us) (hd : o2 + us.length ≤ o ∨ o + vs.length ≤ o2) : CellsAt w' b o2 us := by
  intro j v hj
  have hlt := (List.getElem?_eq_some_iff.1 hj).1
  rw [h.cell _ (by omega)]; exact hc j v hj

section
variable {P : Program} {st : St}

/-- Own cells of three parts, the middle one written anew. -/
theorem Own.mid {I : Interp} {w w' : World} {b o n : Nat} {As Ms Cs Ns : List AV} {F Fv : List Nat} {vs : List Value} (h : Own I.S w (.c b o (As ++ (Ms ++ Cs))) F) (hl : Ns.length = Ms.length) (hn : As.length = n) (hv : Own I.S w (.l Ns vs) Fv) (hw : Wrote w w' b (o + n) vs)
    (he : Ext I w I w') (hF : ∀ z ∈ F, w'.heap[z]? = w.heap[z]?) (hFv : ∀ z ∈ Fv, w'.heap[z]? = w.heap[z]?) : ∃ F1 F2 F3, F = F1 ++ (F2 ++ F3) ∧ Own I.S w' (.c b o (As ++ (Ns ++ Cs))) (F1 ++ (Fv ++ F3)) := by
  obtain ⟨us, h1, h2⟩ := h.cells
  obtain ⟨u1, u2, F1, G, rfl, rfl, k1, k2⟩ := h1.l_split
  obtain ⟨u3, u4, F2, F3, rfl, rfl, k3, k4⟩ := k2.l_split
  have l1 := k1.l_len
  have l3 := k3.l_len
  have lv := hv.l_len
  refine ⟨F1, F2, F3, rfl, Own.ofCells ((k1.l_mono he fun z hz => hF z (by simp [hz])).l_app ((hv.l_mono he hFv).l_app (k4.l_mono he fun z hz => hF z (by simp [hz])))) ?_⟩
  have c1 : CellsAt w b o u1 := fun j v hj => h2 j v (by rw [List.getElem?_append_left (List.getElem?_eq_some_iff.1 hj).1]; exact hj)
  have c4 : CellsAt w b (o + (u1.length + u3.length)) u4 := fun j v hj => by
    have := h2 (u1.length + u3.length + j) v (by rw [← List.append_assoc, List.getElem?_append_right (by simp <;> omega)]; simpa using hj)
    rw [show o + (u1.length + u3.length) + j = o + (u1.length + u3.length + j) from by omega]; exact this
  refine CellsAt.app (hw.cellsAt c1 (by omega)) (CellsAt.app ?_ ?_)
  · rw [l1, hn]; exact hw.new
  · have := hw.cellsAt c4 (.inr (by omega))
    rw [show o + u1.length + vs.length = o + (u1.length + u3.length) from by omega]; exact this

/-- A write into an element of a row of one's own. -/
theorem ok_store_hq {o : Oper} {t id n off sz : Nat} {x y : Operand} {i : TyI} {v : AV} {xs : List (List AV)} {cs cs' vs : List AV} {hp1 : List (Nat × Row)} (h : o.op = .store t x y) (ht : TyOK P t i) (hx : st.ev x = .hq id n off)
    (hy : st.ev y = v) (hk : v.known = true) (hl : v.cells.all AV.leaf = true) (hsz : Nat.beq v.cells.length i.size = true) (hf : foldL st.hp v.cells = (vs, hp1)) (hc : vs.all AV.closed = true)
    (hrow : row id hp1 = some (.row sz xs)) (hg : xs[n]? = some cs) (hn : Nat.ble (off + i.size) cs.length = true) (hcs : splice cs off vs = cs') : OpDo P st o ⟨st.tm, (id, .row sz (xs.set n cs')) :: rem id hp1, st.nx, st.nt⟩ := by
  intro S0 B w0 I a w hr
  have h1 := hr.ev x
  have h2 := hr.ev y
  rw [hx] at h1
  rw [hy] at h2
  obtain ⟨b, of, hi, hat, e⟩ := h1.hq_inv
  have hcells := h2.cells hk (fun u hu => by subst hu; simp [AV.cells, AV.leaf] at hl; cases u <;> simp_all [Value.oneCell', Value.cells])
  obtain ⟨T, k1, k2, k3⟩ := hr.hp
  obtain ⟨Fv, T1, f1, f2, f3⟩ := foldL_ok hcells k1
  rw [hf] at f1 f2
  obtain ⟨F, T', g1, g2, g3⟩ := f2.take hrow
  have hn' := Nat.le_of_ble_eq_true hn
  have hlx : (a.eval y).cells.toList.length = v.cells.length := hcells.l_len
  have hsz' : v.cells.length = i.size := Nat.eq_of_beq_eq_true hsz
  have hlv : vs.length = i.size := by rw [f1.length, hlx, hsz']
  cases g1 with
  | row0 _ ha' => rw [hat] at ha'; cases ha'
  | row _ ha' hln hz hb hs hxs ho =>
    rw [hat] at ha'
    cases ha'
    rename_i c G _
    obtain ⟨e1, e2, e3⟩ := flatten_parts hxs hg
    have hlt : n < xs.length := (List.getElem?_eq_some_iff.1 hg).1
    have hmul : (n + 1) * sz ≤ xs.length * sz := Nat.mul_le_mul_right _ hlt
    rw [Nat.add_mul, Nat.one_mul] at hmul
    have hall : T.Perm (Fv ++ ((b :: G) ++ T')) := f3.trans (List.Perm.append_left Fv g3)
    obtain ⟨w', r1, r2⟩ := run_stores (P := P) (b := b) (o := of + n * sz + off) (a.eval y).cells.toList 0 w c hb (by rw [hlx, hsz']; omega) (hcells.ones hl)
    rw [Nat.add_zero] at r2
    have hbB := k3 b (hall.mem_iff.2 (by simp))
    have he : Ext I w I w' := r2.ext hbB.2.1
    have hnd : (Fv ++ ((b :: G) ++ T')).Nodup := hall.nodup_iff.1 k2
    have hne : ∀ z ∈ Fv ++ (G ++ T'), w'.heap[z]? = w.heap[z]? := by
      intro z hz
      refine r2.other z fun ez => ?_
      subst ez
      have hc : (Fv ++ ((z :: G) ++ T')).count z ≤ 1 := List.nodup_iff_count.1 hnd z
      have hm : 0 < (Fv ++ (G ++ T')).count z := List.count_pos_iff.2 hz
      simp only [List.count_append, List.count_cons, beq_self_eq_true, if_true] at hc hm
      omega
    obtain ⟨c', hb', hs'⟩ := r2.blk c hb
    have hsplit : cs = cs.take off ++ ((cs.drop off).take i.size ++ cs.drop (off + i.size)) := by
      rw [← List.drop_drop, List.take_append_drop, List.take_append_drop]
    have hmid : ((cs.drop off).take i.size).length = i.size := by rw [List.length_take, List.length_drop]; omega
    have hflat : xs.flatten = ((xs.take n).flatten ++ cs.take off) ++ ((cs.drop off).take i.size ++ (cs.drop (off + i.size) ++ (xs.drop (n + 1)).flatten)) := by
      rw [e1]
      conv => lhs; rw [hsplit]
      simp only [List.append_assoc]
    rw [hflat] at ho
    have hlen1 : ((xs.take n).flatten ++ cs.take off).length = n * sz + off := by rw [List.length_append, e2, List.length_take]; omega
    rw [show of + n * sz + off = of + (n * sz + off) from by omega] at r2
    obtain ⟨F1, F2, F3, rfl, hown⟩ := ho.mid (n := n * sz + off) (by rw [hlv, hmid]) hlen1 (f1.own hc) r2 he (fun z hz => hne z (by simp [hz])) (fun z hz => hne z (by simp [hz]))
    have hlen' : cs'.length = sz := by rw [← hcs, splice_len cs off vs (by omega), e3]
    have hflat' : (xs.set n cs').flatten = ((xs.take n).flatten ++ cs.take off) ++ (vs ++ (cs.drop (off + i.size) ++ (xs.drop (n + 1)).flatten)) := by
      rw [flatten_set (sz := sz) hg, ← hcs, splice_eq cs off vs (by omega), hlv]; simp only [List.append_assoc]
    rw [← hflat'] at hown
    refine ⟨w', I, ?_, ?_⟩
    · have hsz2 : (a.eval y).cells.size = i.size := by rw [← Array.length_toList, hlx, hsz']
      simp only [execOp, h, e, hz, Instr.storeAt, Instr.sureAddr, storeVar, Sem.run_bind, Sem.run_pure, Result.andThen_ok, run_size ht, hsz2, ne_eq, not_true, if_false, r1]
    · have hrowok : RowOK I w' id (.row sz (xs.set n cs')) (b :: (F1 ++ (Fv ++ F3))) := .row hi hat (by rw [List.length_set]; exact hln) hz hb' (by rw [List.length_set, hs']; exact hs) (set_mem_len hxs hlen') hown
      have hnew : ((b :: (F1 ++ (Fv ++ F3))) ++ T').Nodup := by
        refine List.nodup_iff_count.2 fun z => ?_
        have := List.nodup_iff_count.1 hnd z
        simp only [List.count_append, List.count_cons] at this ⊢
        omega
      have := hr.next he (r2.below hbB.1) (fun b h => .inl h) (fun z hz => by rw [r2.size]; exact hr.ss z hz) (hp := (id, .row sz (xs.set n cs')) :: rem id hp1)
        ⟨_, .cons hrowok (g2.mono he fun z hz => hne z (by simp [hz])), hnew, fun z hz => by
          rw [r2.size]
          refine k3 z (hall.mem_iff.2 ?_)
          simp only [List.mem_append, List.mem_cons] at hz ⊢
          rcases hz with (h | h | h | h) | h <;> simp [h]⟩
      rw [hr.nx] at this; exact this
end

theorem Own.c_split {S : Nat → Prop} {w : World} {b : Nat} {a : AV} {Cs : List AV} : ∀ {As : List AV} {o : Nat} {F : List Nat}, Own S w (.c b o (As ++ a :: Cs)) F →
    ∃ F1 Fa F2 x, F = F1 ++ (Fa ++ F2) ∧ Own S w (.c b o As) F1 ∧ w.cell? ⟨b, o + As.length, none⟩ = some x ∧ Own S w (.v a x) Fa ∧ Own S w (.c b (o + As.length + 1) Cs) F2
  | [], o, F, h => by
    cases h with | ccons h1 h2 h3 => exact ⟨[], _, _, _, rfl, .cnil, h1, h2, h3⟩
  | c :: As, o, F, h => by
    cases h with
    | ccons h1 h2 h3 =>
      obtain ⟨F1, Fa, F2, x, rfl, g1, g2, g3, g4⟩ := Own.c_split h3
      refine ⟨_ ++ F1, Fa, F2, x, by rw [List.append_assoc], .ccons h1 h2 g1, ?_, g3, ?_⟩
      · rw [show o + (c :: As).length = o + 1 + As.length from by simp; omega]; exact g2
      · rw [show o + (c :: As).length = o + 1 + As.length from by simp; omega]; exact g4

theorem Own.c_app {S : Nat → Prop} {w : World} {b : Nat} {a : AV} {x : Value} {Cs : List AV} {Fa F2 : List Nat} : ∀ {As : List AV} {o : Nat} {F1 : List Nat}, Own S w (.c b o As) F1 → w.cell? ⟨b, o + As.length, none⟩ = some x → Own S w (.v a x) Fa →
    Own S w (.c b (o + As.length + 1) Cs) F2 → Own S w (.c b o (As ++ a :: Cs)) (F1 ++ (Fa ++ F2))
  | [], o, F1, h, h1, h2, h3 => by cases h; exact (Own.ccons h1 h2 h3 : Own S w _ (Fa ++ F2))
  | c :: As, o, F1, h, h1, h2, h3 => by
    cases h with
    | ccons g1 g2 g3 =>
      rw [show o + (c :: As).length = o + 1 + As.length from by simp; omega] at h1 h3
      rw [List.append_assoc]
      exact .ccons g1 g2 (Own.c_app g3 h1 h2 h3)

/-- A row that is led to is one's own value. -/
theorem hw_own {I : Interp} {w : World} {j sz : Nat} {ys : List (List AV)} {F : List Nat} {x : Value} (h : RowOK I w j (.row sz ys) F) (hr : Rep I w (.v (.hw j) x)) : Own I.S w (.v (.osl sz ys) x) F := by
  cases hr with
  | std hr => cases hr
  | hw0 hi ha h0 hx =>
    cases h with
    | row0 _ _ _ hz => exact .osl0 hx
    | row _ ha' => rw [ha] at ha'; cases ha'
  | hw hi ha hn hb hs =>
    cases h with
    | row0 _ ha' => rw [ha] at ha'; cases ha'
    | row _ ha' hl hz hb' hs' hx ho =>
      rw [ha] at ha'
      cases ha'
      rw [hl] at hn ⊢
      rw [hz] at hs
      exact .osl hb hn hx hs ho

/-- One's own value, as an entry. -/
theorem own_hw {I : Interp} {w : World} {sz : Nat} {ys : List (List AV)} {F : List Nat} {x : Value} (h : Own I.S w (.v (.osl sz ys) x) F) : ∃ at_ : Option (Nat × Nat), Rep (I.add at_ ys.length sz) w (.v (.hw I.nx) x) ∧ RowOK (I.add at_ ys.length sz) w I.nx (.row sz ys) F := by
  cases h with
  | std h => cases h
  | osl0 ha0 =>
    refine ⟨none, ?_, ?_⟩
    · exact .hw0 (by show I.nx < I.nx + 1; omega) (by simp [Interp.add]) (by simp [Interp.add]) ha0
    · exact .row0 (by show I.nx < I.nx + 1; omega) (by simp [Interp.add]) (by simp [Interp.add]) (by simp [Interp.add])
  | osl hb1 hc1 hx1 hs1 ho1 =>
    rename_i b1 o1 cap1 c1 F3
    have hln : (I.add (some (b1, o1)) ys.length sz).ln I.nx = ys.length := by simp [Interp.add]
    refine ⟨some (b1, o1), ?_, ?_⟩
    · have := Rep.hw (I := I.add (some (b1, o1)) ys.length sz) (w := w) (id := I.nx) (cap := cap1) (c := c1) (b := b1) (o := o1) (by show I.nx < I.nx + 1; omega) (by simp [Interp.add]) (by rw [hln]; exact hc1) hb1
        (by simp only [Interp.add, if_true]; exact hs1)
      rw [hln] at this; exact this
    · refine .row (by show I.nx < I.nx + 1; omega) (by simp [Interp.add]) hln (by simp [Interp.add]) hb1 ?_ hx1 ho1
      have : ys.length * sz ≤ cap1 * sz := Nat.mul_le_mul_right _ hc1
      omega

section
variable {P : Program} {st : St}

theorem foc_parts {xs : List (List AV)} {sz n off : Nat} {cs : List AV} (hx : ∀ x ∈ xs, x.length = sz) (h : xs[n]? = some cs) {a : AV} {r : List AV} (hd : cs.drop off = a :: r) :
    xs.flatten = ((xs.take n).flatten ++ cs.take off) ++ a :: (r ++ (xs.drop (n + 1)).flatten) ∧ ((xs.take n).flatten ++ cs.take off).length = n * sz + off ∧ off < sz := by
  obtain ⟨e1, e2, e3⟩ := flatten_parts hx h
  have hlt : off < cs.length := by
    rcases Nat.lt_or_ge off cs.length with h | h
    · exact h
    · rw [List.drop_eq_nil_of_le h] at hd; cases hd
  refine ⟨?_, by rw [List.length_append, e2, List.length_take]; omega, by omega⟩
  rw [e1]
  conv => lhs; rw [← List.take_append_drop off cs, hd]
  simp only [List.append_assoc, List.cons_append]

/-- A row within a row is looked at: it becomes an entry of its own. -/
theorem ok_focus {o : Oper} {t id n off sz sz2 : Nat} {x : Operand} {i : TyI} {xs ys : List (List AV)} {cs r : List AV} (h : o.op = .load t x) (ht : TyOK P t i) (ha : i.isAgg = false) (hx : st.ev x = .hq id n off)
    (hrow : row id st.hp = some (.row sz xs)) (hg : xs[n]? = some cs) (hd : cs.drop off = .osl sz2 ys :: r) : OpOK P st o (.hw st.nx) ⟨st.tm, (st.nx, .row sz2 ys) :: (id, .foc sz xs cs n off st.nx) :: rem id st.hp, st.nx + 1, st.nt⟩ := by
  refine ⟨rfl, fun S0 B w0 I a w hr => ?_⟩
  have h1 := hr.ev x
  rw [hx] at h1
  obtain ⟨b, of, hi, hat, e⟩ := h1.hq_inv
  obtain ⟨T, k1, k2, k3⟩ := hr.hp
  obtain ⟨F, T', g1, g2, g3⟩ := k1.take hrow
  have hnx := hr.nx
  cases g1 with
  | row0 _ ha' => rw [hat] at ha'; cases ha'
  | row _ ha' hln hz hb hs hxs ho =>
    rw [hat] at ha'
    cases ha'
    rename_i c G _
    obtain ⟨e1, e2, e3⟩ := foc_parts hxs hg hd
    rw [e1] at ho
    obtain ⟨F1, Fa, F2, y, rfl, o1, hc, oa, o2⟩ := ho.c_split
    rw [e2] at hc o2
    obtain ⟨at_, hrep, hrowok⟩ := own_hw oa
    rw [hnx] at hrep hrowok
    have he : Ext I w (I.add at_ ys.length sz2) w := .add _ _ _ (fun _ _ => rfl) (.refl w)
    have hfoc : RowOK (I.add at_ ys.length sz2) w id (.foc sz xs cs n off st.nx) (b :: (F1 ++ F2)) :=
      .foc (by show id < I.nx + 1; omega) ((he.at_ id hi).trans hat) ((he.ln id hi).trans hln) ((he.sz id hi).trans hz) hb hs hxs hg e3 e1 e2
        (o1.mono he.S he.hold (fun _ _ => rfl) (fun _ _ _ _ => rfl)) hc hrep (o2.mono he.S he.hold (fun _ _ => rfl) (fun _ _ _ _ => rfl))
    refine ⟨y, w, I.add at_ ys.length sz2, ?_, ?_, hrep, fun _ => Same.refl w⟩
    · rw [← Nat.add_assoc] at hc
      simp only [execOp, h, e, hz, Instr.loadAt, Instr.sureAddr, loadVar, Sem.run_bind, Sem.run_pure, Result.andThen_ok, run_isAgg ht, ha, if_false, Bool.false_eq_true, run_load, hc]
    · have hperm : T.Perm (Fa ++ ((b :: (F1 ++ F2)) ++ T')) := by
        refine g3.trans (List.perm_iff_count.2 fun z => ?_)
        simp only [List.count_append, List.count_cons]; omega
      have := hr.next he (Below.refl B w) (fun b h => .inl h) hr.ss (hp := (st.nx, .row sz2 ys) :: (id, .foc sz xs cs n off st.nx) :: rem id st.hp)
        ⟨_, .cons hrowok (.cons hfoc (g2.mono he fun _ _ => rfl)), hperm.nodup_iff.1 k2, fun z hz => k3 z (hperm.mem_iff.2 hz)⟩
      have e4 : (I.add at_ ys.length sz2).nx = st.nx + 1 := by show I.nx + 1 = _; rw [hnx]
      rw [e4] at this; exact this

theorem cells_of_cons {cs : List AV} {off : Nat} {v : AV} (h : off < cs.length) : (cs.set off v).drop off = v :: cs.drop (off + 1) ∧ (cs.set off v).take off = cs.take off := by
  constructor
  · rw [List.drop_eq_getElem_cons (by simpa using h), List.getElem_set_self, List.drop_set_of_lt (by omega)]
  · simp [List.take_set_of_le]

/-- A row within a row is put back. -/
def unf1 (id : Nat) (hp : List (Nat × Row)) : Option (List (Nat × Row)) :=
  match row id hp with
  | some (.foc sz xs cs n off j) => match row j (rem id hp) with
    | some (.row sz2 ys) => some ((id, .row sz (xs.set n (cs.set off (.osl sz2 ys)))) :: rem j (rem id hp))
    | _ => none
  | _ => none

theorem Rel.unf {S0 : Interp} {B : Nat} {w0 : World} {I : Interp} {a : Act} {w : World} (hr : Rel S0 B w0 I st a w) {id : Nat} {hp' : List (Nat × Row)} (h : unf1 id st.hp = some hp') : Rel S0 B w0 I ⟨st.tm, hp', st.nx, st.nt⟩ a w := by
  unfold unf1 at h
  split at h
  · rename_i sz xs cs n off j hrow
    split at h
    · rename_i sz2 ys hrow2
      simp only [Option.some.injEq] at h
      subst h
      obtain ⟨T, k1, k2, k3⟩ := hr.hp
      obtain ⟨F, T', g1, g2, g3⟩ := k1.take hrow
      obtain ⟨Fj, T2, j1, j2, j3⟩ := g2.take hrow2
      cases g1 with
      | foc hi hat hln hz hb hs hxs hg hof hf hA o1 hc hrep o2 =>
        rename_i b of c y a0 As Cs F1 F2
        have oa := hw_own j1 hrep
        obtain ⟨e1, e2, e3⟩ := flatten_parts hxs hg
        have hoff : off < cs.length := by omega
        obtain ⟨c1, c2⟩ := cells_of_cons (v := .osl sz2 ys) hoff
        have hd : cs.drop off = cs[off] :: cs.drop (off + 1) := List.drop_eq_getElem_cons hoff
        obtain ⟨p1, p2, _⟩ := foc_parts hxs hg hd
        have hAs : As = (xs.take n).flatten ++ cs.take off ∧ a0 :: Cs = cs[off] :: (cs.drop (off + 1) ++ (xs.drop (n + 1)).flatten) := by
          rw [hf] at p1
          exact List.append_inj p1 (by rw [hA, p2])
        obtain ⟨rfl, hC⟩ := hAs
        simp only [List.cons.injEq] at hC
        obtain ⟨_, rfl⟩ := hC
        have hlt : n < xs.length := (List.getElem?_eq_some_iff.1 hg).1
        have hflat : (xs.set n (cs.set off (.osl sz2 ys))).flatten = ((xs.take n).flatten ++ cs.take off) ++ .osl sz2 ys :: (cs.drop (off + 1) ++ (xs.drop (n + 1)).flatten) := by
          rw [flatten_set (sz := sz) hg]
          conv => lhs; rw [← List.take_append_drop off (cs.set off (.osl sz2 ys)), c1, c2]
          simp only [List.append_assoc, List.cons_append]
        have hown := Own.c_app o1 (by rw [p2]; exact hc) oa (by rw [p2]; exact o2)
        rw [← hflat] at hown
        have hrowok : RowOK I w id (.row sz (xs.set n (cs.set off (.osl sz2 ys)))) (b :: (F1 ++ (Fj ++ F2))) :=
          .row hi hat (by rw [List.length_set]; exact hln) hz hb (by rw [List.length_set]; exact hs) (set_mem_len hxs (by rw [List.length_set]; exact e3)) hown
        have hperm : T.Perm ((b :: (F1 ++ (Fj ++ F2))) ++ T2) := by
          refine g3.trans (List.perm_iff_count.2 fun z => ?_)
          have := List.perm_iff_count.1 j3 z
          simp only [List.count_append, List.count_cons] at this ⊢
          omega
        exact { hr with hp := ⟨_, .cons hrowok j2, hperm.nodup_iff.1 k2, fun z hz => k3 z (hperm.mem_iff.2 hz)⟩ }
    · cases h
  · cases h

theorem run_unf {f : Nat} {Q : Post} {todo : List Item} {id : Nat} {hp' : List (Nat × Row)} (h : unf1 id st.hp = some hp') (k : Run P f Q todo ⟨st.tm, hp', st.nx, st.nt⟩) : Run P f Q todo st :=
  fun S0 B w0 I a w hlo hr => k S0 B w0 I a w hlo (hr.unf h)
end
end Go.Ax
