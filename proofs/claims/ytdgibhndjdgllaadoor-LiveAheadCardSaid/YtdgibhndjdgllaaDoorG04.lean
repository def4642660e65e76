/- Maps of one's own: made, filled, looked up, gone through in any order; rows of one's own, cut short. -/
import Derived.Test.YtdgibhndjdgllaaDoorG03
import Derived.Maps.RangeRun
import Derived.Conc.LoneSelect
set_option linter.unusedVariables false
set_option linter.unusedSimpArgs false

namespace Go.Ax
open Go.RowKit
set_option linter.unusedVariables false
set_option linter.unusedSimpArgs false

theorem Own.c_take {S : Nat → Prop} {w : World} {b : Nat} {Cs : List AV} : ∀ {As : List AV} {o : Nat} {F : List Nat}, Own S w (.c b o (As ++ Cs)) F → ∃ F1 F2, F = F1 ++ F2 ∧ Own S w (.c b o As) F1
  | [], o, F, h => ⟨[], F, rfl, .cnil⟩
  | a :: As, o, F, h => by
    cases h with
    | ccons h1 h2 h3 =>
      obtain ⟨F1, F2, rfl, g⟩ := Own.c_take h3
      exact ⟨_, F2, (List.append_assoc ..).symm, .ccons h1 h2 g⟩

theorem filt_erase : ∀ (L : List MapEntry) (i : Nat) (e : MapEntry), L[i]? = some e → (L.map (·.born)).Nodup → L.filter (fun x => !(x.born == e.born)) = L.eraseIdx i
  | [], i, e, h, _ => by simp at h
  | x :: L, 0, e, h, hn => by
    simp only [List.getElem?_cons_zero, Option.some.injEq] at h
    subst h
    simp only [List.map_cons, List.nodup_cons] at hn
    rw [List.filter_cons_of_neg (by simp), List.eraseIdx_cons_zero]
    refine List.filter_eq_self.2 fun y hy => ?_
    simp only [Bool.not_eq_true', beq_eq_false_iff_ne, ne_eq]
    intro hb
    exact hn.1 (by rw [← hb]; exact List.mem_map_of_mem hy)
  | x :: L, i + 1, e, h, hn => by
    simp only [List.getElem?_cons_succ] at h
    simp only [List.map_cons, List.nodup_cons] at hn
    have hx : ¬ x.born = e.born := fun hb => hn.1 (by rw [hb]; exact List.mem_map_of_mem (List.mem_of_getElem? h))
    rw [List.filter_cons_of_pos (by simpa using hx), List.eraseIdx_cons_succ, filt_erase L i e h hn.2]

theorem map_erase {α β : Type} (g : α → β) : ∀ (l : List α) (j : Nat), (l.eraseIdx j).map g = (l.map g).eraseIdx j
  | [], _ => rfl
  | _ :: _, 0 => rfl
  | a :: l, j + 1 => by simp only [List.eraseIdx_cons_succ, List.map_cons, map_erase g l j]

section
variable {P : Program} {f : Nat} {Q : Post} {k : List Item} {st : St} {A : Array Oper} {i : Nat} {rest : List Nat} {o : Oper}

theorem ok_makeMapO {t : Nat} (h : o.op = .makeMap t none) : OpOK P st o (.hm st.nx) ⟨st.tm, (st.nx, .mpr []) :: st.hp, st.nx + 1, st.nt⟩ := by
  refine ⟨rfl, fun S0 B w0 I a w hr => ?_⟩
  obtain ⟨T, h1, h2, h3⟩ := hr.hp
  let w1 : World := { w with heap := w.heap.push (.map #[] 0) }
  have hold : ∀ b, b < w.heap.size → w1.heap[b]? = w.heap[b]? := fun b hb => heap_push _ _ _ hb
  have he : Ext I w (I.add (some (w.heap.size, 0)) 0 0) w1 := .add _ _ _ (fun b hb => hold b (hr.ss b hb)) (.push _ _)
  have hnx : I.nx = st.nx := hr.nx
  have hn : (I.add (some (w.heap.size, 0)) 0 0).nx = st.nx + 1 := by show I.nx + 1 = _; rw [hnx]
  have hat : (I.add (some (w.heap.size, 0)) 0 0).at_ st.nx = some (w.heap.size, 0) := by simp [Interp.add, hnx]
  have hrow : RowOK (I.add (some (w.heap.size, 0)) 0 0) w1 st.nx (.mpr []) [w.heap.size] :=
    .mpr (by rw [hn]; omega) hat (by simp [w1]) (MapKept.stamped_empty 0) rfl
  refine ⟨.map (some w.heap.size), w1, _, ?_, ?_, .hm (by rw [hn]; omega) hat, fun _ b hb => hold b hb⟩
  · simp [execOp, h, Instr.makeMap, run_newObj, w1]
  · have := hr.next he (Below.push B w _ hr.bs) (fun b h => .inl h) (fun b h => by have := hr.ss b h; simp [w1]; omega)
      (hp := (st.nx, .mpr []) :: st.hp) ⟨[w.heap.size] ++ T, .cons hrow (h1.mono he fun b hb => hold b (h3 b hb).2.2), ?_, ?_⟩
    · rw [hn] at this; exact this
    · refine List.nodup_cons.2 ⟨fun hm => ?_, h2⟩
      have := (h3 _ hm).2.2; omega
    · intro b hb
      rcases List.mem_cons.1 hb with rfl | hb
      · exact ⟨hr.bs, fun h => by have := hr.ss _ h; omega, by simp [w1]⟩
      · have := h3 b hb
        exact ⟨this.1, this.2.1, by have := this.2.2; simp [w1]; omega⟩

theorem Rep.hm_inv {I : Interp} {w : World} {id : Nat} {x : Value} (h : Rep I w (.v (.hm id) x)) : ∃ r, I.at_ id = some (r, 0) ∧ x = .map (some r) := by
  cases h with
  | std h => cases h
  | hm _ ha => exact ⟨_, ha, rfl⟩
theorem RowOK.mpr_inv {I : Interp} {w : World} {id : Nat} {kvs : List (Int × Int)} {F : List Nat} (h : RowOK I w id (.mpr kvs) F) :
    ∃ r es clock, F = [r] ∧ id < I.nx ∧ I.at_ id = some (r, 0) ∧ w.heap[r]? = some (.map es clock) ∧ MapKept.Stamped es clock ∧ PairsOf es.toList kvs := by
  cases h with | mpr h1 h2 h3 h4 h5 => exact ⟨_, _, _, rfl, h1, h2, h3, h4, h5⟩
theorem RowOK.itr_inv {I : Interp} {w : World} {id : Nat} {left : List (Int × Int)} {cur : Option (Int × Int)} {F : List Nat} (h : RowOK I w id (.itr left cur) F) :
    ∃ r m es clock since seen c0, F = [r, m] ∧ id < I.nx ∧ I.at_ id = some (r, 0) ∧ w.heap[r]? = some (.mapIter (some m) since seen c0) ∧ w.heap[m]? = some (.map es clock) ∧ MapKept.Stamped es clock ∧
      (∀ x ∈ es.toList, x.born < since) ∧ (since ≤ c0 ∧ since ≤ clock) ∧ PairsOf (es.toList.filter fun e => !seen.contains e.born) left ∧ CurOf es.toList seen c0 clock cur := by
  cases h with | itr h1 h2 h3 h4 h5 h6 h7 h8 h9 => exact ⟨_, _, _, _, _, _, _, rfl, h1, h2, h3, h4, h5, h6, h7, h8, h9⟩

theorem rd_lookupO {id t kt et : Nat} {x ix : Operand} {it ki : TyI} {kvs : List (Int × Int)} {n : Int} (h : o.op = .lookup t x ix false) (ht : TyOK P t it) (hd : it.td = .td (.map kt et)) (hk : TyOK P kt ki) (hkd : ki.td = .td (.int .i64))
    (hez : (P.info? et).bind (·.zero) = some (.int .i64 0)) (hx : st.ev x = .hm id) (hrow : row id st.hp = some (.mpr kvs)) (hi : st.ev ix = .lit (.int .i64 n)) : Reads P st o (.lit (.int .i64 ((mget kvs n).getD 0))) := by
  intro S0 B w0 I a w hr
  have h1 := hr.ev x
  have h2 := hr.ev ix
  rw [hx] at h1
  rw [hi] at h2
  obtain ⟨r, ha, ex⟩ := h1.hm_inv
  obtain ⟨T, t1, t2, t3⟩ := hr.hp
  obtain ⟨F, T', r1, r2, r3⟩ := t1.take hrow
  obtain ⟨r', es, clock, rfl, hid, ha', hb, hst, hes⟩ := r1.mpr_inv
  rw [ha] at ha'; cases ha'
  have hlt : r < w.heap.size := (t3 r (r3.mem_iff.2 (by simp))).2.2
  refine ⟨_, fun w' hw0 => ?_, .std (.lit _)⟩
  have hw : Same _ w' := hw0.resolve_left (by rw [h]; simp [memFree])
  have hb' : w'.heap[r]? = some (.map es clock) := (hw r hlt).trans hb
  have hkd' := hk.intE hkd
  have hik : MapKept.IsKey (.int .i64) (.int .i64 n) := by simp [MapKept.IsKey]
  obtain ⟨f1, f2⟩ := findNow_mp n es.toList kvs 0 hes
  have hz : (zeroValue et).run P w' = .ok (.int .i64 0) w' := by
    cases hin : P.info? et with
    | none => simp [hin] at hez
    | some info =>
      simp only [hin, Option.bind_some] at hez
      simp only [zeroValue, typeInfo, Sem.run_bind, run_program, Result.andThen_ok, hin, Sem.run_pure, hez]
  cases hm : mget kvs n with
  | none =>
    simp only [execOp, h, ex, h2.lit_inv, Instr.lookup, Sem.run_bind, run_under (ht.mapE hd), Result.andThen_ok, MapKept.run_getObj_map hb', Sem.run_pure, MapKept.run_checkKey hkd' hik, MapKept.run_findKey hkd' (f1 hm), hz, Option.getD_none, if_false, Bool.false_eq_true]
  | some v =>
    obtain ⟨j, hj⟩ := f2 v hm
    simp only [execOp, h, ex, h2.lit_inv, Instr.lookup, Sem.run_bind, run_under (ht.mapE hd), Result.andThen_ok, MapKept.run_getObj_map hb', Sem.run_pure, MapKept.run_checkKey hkd' hik, MapKept.run_findKey hkd' hj, Option.getD_some, if_false, Bool.false_eq_true]

theorem mget_none : ∀ {l : List MapEntry} {kvs : List (Int × Int)} {n : Int}, PairsOf l kvs → mget kvs n = none → ∀ x ∈ l, x.key ≠ .int .i64 n
  | [], _, n, _, _, x, hx => by cases hx
  | e :: l, [], n, h, _, x, hx => by simp [PairsOf] at h
  | e :: l, (kk, v) :: kvs, n, h, hm, x, hx => by
    simp only [PairsOf, List.map_cons, List.cons.injEq, Prod.mk.injEq] at h
    obtain ⟨⟨h1, h2⟩, h3⟩ := h
    by_cases hk : n = kk
    · subst hk; simp [mget] at hm
    · have e1 : mget ((kk, v) :: kvs) n = mget kvs n := by simp [mget, hk]
      rw [e1] at hm
      rcases List.mem_cons.1 hx with rfl | hx
      · rw [h1]; intro e; cases e; exact hk rfl
      · exact mget_none (l := l) h3 hm x hx

theorem do_updO {id t kt et : Nat} {x y z : Operand} {it ki : TyI} {kvs : List (Int × Int)} {n v : Int} (h : o.op = .mapUpdate t x y z) (ht : TyOK P t it) (hd : it.td = .td (.map kt et)) (hk : TyOK P kt ki) (hkd : ki.td = .td (.int .i64))
    (hx : st.ev x = .hm id) (hrow : row id st.hp = some (.mpr kvs)) (hy : st.ev y = .lit (.int .i64 n)) (hz : st.ev z = .lit (.int .i64 v)) (hn : mget kvs n = none) : OpDo P st o ⟨st.tm, (id, .mpr (kvs ++ [(n, v)])) :: rem id st.hp, st.nx, st.nt⟩ := by
  intro S0 B w0 I a w hr
  have h1 := hr.ev x
  have h2 := hr.ev y
  have h3 := hr.ev z
  rw [hx] at h1
  rw [hy] at h2
  rw [hz] at h3
  obtain ⟨r, ha, ex⟩ := h1.hm_inv
  obtain ⟨T, t1, t2, t3⟩ := hr.hp
  obtain ⟨F, T', r1, r2, r3⟩ := t1.take hrow
  obtain ⟨r', es, clock, rfl, hid, ha', m2, hst, hes⟩ := r1.mpr_inv
  rw [ha] at ha'; cases ha'
  have hrT := t3 r (r3.mem_iff.2 (by simp))
  let ob : Obj := .map (es.push { key := .int .i64 n, val := .int .i64 v, born := clock }) (clock + 1)
  let w1 : World := { w with heap := w.heap.setIfInBounds r ob }
  have hkd' := hk.intE hkd
  have hik : MapKept.IsKey (.int .i64) (.int .i64 n) := by simp [MapKept.IsKey]
  obtain ⟨k1, k2⟩ := MapKept.heap_set (o' := ob) m2
  have hsz : w1.heap.size = w.heap.size := by simp [w1]
  have he : Ext I w I w1 := ⟨fun _ h => h, fun z hz => k2 z fun e => hrT.2.1 (e ▸ hz), Nat.le_refl _, fun _ _ => rfl, fun _ _ => rfl, fun _ _ => rfl, fun z c hz => by
    obtain ⟨t, hc⟩ := hz
    exact ⟨c, ⟨t, (k2 z fun e => by rw [e, m2] at hc; cases hc).trans hc⟩, rfl⟩⟩
  have hnd : ([r] ++ T').Nodup := r3.nodup_iff.1 t2
  have hT' : ∀ b ∈ T', w1.heap[b]? = w.heap[b]? := fun b hb => k2 b fun e => by
    subst e; exact (List.nodup_cons.1 hnd).1 hb
  have hst2 : MapKept.Stamped (es.push { key := .int .i64 n, val := .int .i64 v, born := clock }) (clock + 1) := MapKept.stamped_push hst (mget_none hes hn)
  refine ⟨w1, I, ?_, ?_⟩
  · simp only [execOp, h, ex, h2.lit_inv, h3.lit_inv, Instr.mapUpdate, Sem.run_bind, run_under (ht.mapE hd), Result.andThen_ok, MapKept.run_getObj_map m2, MapKept.run_checkKey hkd' hik, MapKept.run_findKey hkd' ((findNow_mp n es.toList kvs 0 hes).1 hn), MapKept.run_setObj_map _ m2, Sem.run_pure]
    rfl
  · have := hr.next he ⟨rfl, rfl, rfl, by rw [hsz]; exact Nat.le_refl _, fun z hz => k2 z (by have := hrT.1; omega)⟩ (fun _ h => .inl h) (fun z hz => by rw [hsz]; exact hr.ss z hz)
      (hp := (id, .mpr (kvs ++ [(n, v)])) :: rem id st.hp) ⟨[r] ++ T', .cons (.mpr hid ha k1 hst2 (by
        have hes' : es.toList.map (fun e => (e.key, e.val)) = kvs.map (fun p => (Value.int .i64 p.1, Value.int .i64 p.2)) := hes
        simp [PairsOf, hes'])) (r2.mono he hT'), hnd, fun b hb => by rw [hsz]; exact t3 b (r3.mem_iff.2 hb)⟩
    rw [hr.nx] at this; exact this

theorem ok_rangeO {id t kt et : Nat} {x : Operand} {it : TyI} {kvs : List (Int × Int)} (h : o.op = .range t x) (ht : TyOK P t it) (hd : it.td = .td (.map kt et)) (hx : st.ev x = .hm id) (hrow : row id st.hp = some (.mpr kvs)) :
    OpOK P st o (.hp st.nx 0) ⟨st.tm, (st.nx, .itr kvs none) :: rem id st.hp, st.nx + 1, st.nt⟩ := by
  refine ⟨rfl, fun S0 B w0 I a w hr => ?_⟩
  have g1 := hr.ev x
  rw [hx] at g1
  obtain ⟨r, ha, ex⟩ := g1.hm_inv
  obtain ⟨T, h1, h2, h3⟩ := hr.hp
  obtain ⟨F, T', r1, r2, r3⟩ := h1.take hrow
  obtain ⟨r', es, clock, rfl, hid, ha', m2, hst, hes⟩ := r1.mpr_inv
  rw [ha] at ha'; cases ha'
  have hrT := h3 r (r3.mem_iff.2 (by simp))
  let w1 : World := { w with heap := w.heap.push (.mapIter (some r) clock #[] clock) }
  have hold : ∀ b, b < w.heap.size → w1.heap[b]? = w.heap[b]? := fun b hb => heap_push _ _ _ hb
  have he : Ext I w (I.add (some (w.heap.size, 0)) 0 0) w1 := .add _ _ _ (fun b hb => hold b (hr.ss b hb)) (.push _ _)
  have hnx : I.nx = st.nx := hr.nx
  have hn : (I.add (some (w.heap.size, 0)) 0 0).nx = st.nx + 1 := by show I.nx + 1 = _; rw [hnx]
  have hat : (I.add (some (w.heap.size, 0)) 0 0).at_ st.nx = some (w.heap.size, 0) := by simp [Interp.add, hnx]
  have hb := ((MapKept.stamped_iff es clock).1 hst).1
  have hrow2 : RowOK (I.add (some (w.heap.size, 0)) 0 0) w1 st.nx (.itr kvs none) [w.heap.size, r] :=
    .itr (m := r) (since := clock) (seen := #[]) (c0 := clock) (by rw [hn]; omega) hat (by simp [w1]) ((hold r hrT.2.2).trans m2) hst hb ⟨Nat.le_refl _, Nat.le_refl _⟩ (by
      have e : (es.toList.filter fun e => !(#[] : Array Nat).contains e.born) = es.toList := List.filter_eq_self.2 fun _ _ => by simp
      rw [e]; exact hes) trivial
  refine ⟨.pointer (some ⟨w.heap.size, 0, none⟩), w1, I.add (some (w.heap.size, 0)) 0 0, ?_, ?_, ?_, fun _ b hb => hold b hb⟩
  · simp only [execOp, h, ex, Instr.range, Sem.run_bind, run_under (ht.mapE hd), Result.andThen_ok, MapKept.run_getObj_map m2, Sem.run_pure, run_newObj]
    rfl
  · have hnd : ([r] ++ T').Nodup := r3.nodup_iff.1 h2
    have := hr.next he (Below.push B w _ hr.bs) (fun b h => .inl h) (fun b h => by have := hr.ss b h; simp [w1]; omega)
      (hp := (st.nx, .itr kvs none) :: rem id st.hp) ⟨[w.heap.size, r] ++ T', .cons hrow2 (r2.mono he fun b hb => hold b (h3 b (r3.mem_iff.2 (List.mem_append_right _ hb))).2.2), ?_, ?_⟩
    · rw [hn] at this; exact this
    · refine List.nodup_cons.2 ⟨fun hm => ?_, hnd⟩
      have := (h3 _ (r3.mem_iff.2 hm)).2.2; omega
    · intro b hb
      rcases List.mem_cons.1 hb with rfl | hb
      · exact ⟨hr.bs, fun h => by have := hr.ss _ h; omega, by simp [w1]⟩
      · have := h3 b (r3.mem_iff.2 hb)
        exact ⟨this.1, this.2.1, by have := this.2.2; simp [w1]; omega⟩
  · have := Rep.hp (I := I.add (some (w.heap.size, 0)) 0 0) (w := w1) (id := st.nx) (off := 0) (by rw [hn]; omega) hat
    simpa using this

theorem ok_entryO {id : Nat} {x : Operand} {left : List (Int × Int)} {p : Int × Int} (h : o.op = .entry x) (hx : st.ev x = .hp id 0) (hrow : row id st.hp = some (.itr left (some p))) :
    OpOK P st o (.tup [.lit (.int .i64 p.1), .lit (.int .i64 p.2)]) st := by
  refine ⟨rfl, fun S0 B w0 I a w hr => ?_⟩
  have g1 := hr.ev x
  rw [hx] at g1
  obtain ⟨T, h1, h2, h3⟩ := hr.hp
  obtain ⟨F, T', r1, r2, r3⟩ := h1.take hrow
  obtain ⟨r, m, es, clock, since, seen, c0, rfl, hid, ha, m1, m2, hst, hb, hs, hl, e, hem, s, rfl, rfl, hk, hv⟩ := r1.itr_inv
  have ex : a.eval x = .pointer (some ⟨r, 0, none⟩) := by
    generalize a.eval x = y at g1
    cases g1 with
    | std g1 => cases g1
    | hp _ ha2 => rw [ha] at ha2; cases ha2; rfl
  have hrun := run_entry_at (P := P) w r m since s es c0 e m1 m2 hem ((MapKept.stamped_iff es c0).1 hst).2.1
  refine ⟨.tuple #[e.key, e.val], w, I, ?_, hr, ?_, fun _ => Same.refl w⟩
  · simp only [execOp, h, ex, Sem.run_bind, hrun, Result.andThen_ok, Sem.run_pure]
  · rw [hk, hv]
    exact .tup (.cons (.std (.lit _)) (.cons (.std (.lit _)) .nil))

theorem ok_sub0 {id t e sz : Nat} {x z : Operand} {it ie : TyI} {xs : List (List AV)} {m : Int} (h : o.op = .slice t x none (some z) none) (ht : TyOK P t it) (hd : it.td = .td (.slice e)) (he : TyOK P e ie)
    (hx : st.ev x = .hw id) (hrow : row id st.hp = some (.row sz xs)) (hz : st.ev z = .lit (.int .i64 m)) (h0 : 0 ≤ m) (h1 : m ≤ xs.length) : OpOK P st o (.hw st.nx) ⟨st.tm, (st.nx, .row sz (xs.take m.toNat)) :: rem id st.hp, st.nx + 1, st.nt⟩ := by
  refine ⟨rfl, fun S0 B w0 I a w hr => ?_⟩
  have g1 := hr.ev x
  have g2 := hr.ev z
  rw [hx] at g1
  rw [hz] at g2
  obtain ⟨m, rfl⟩ : ∃ n : Nat, m = n := ⟨m.toNat, by omega⟩
  rw [Int.toNat_natCast]
  obtain ⟨T, t1, t2, t3⟩ := hr.hp
  obtain ⟨F, T', r1, r2, r3⟩ := t1.take hrow
  generalize ex : a.eval x = y at g1
  have hrun : ∀ ad n cap, y = .slice ad n cap → m ≤ cap → (execOp a.eval o).run P w = .ok (.value (.slice (if cap = 0 then ad else ad.map (·.add (0 * ie.size))) (m - 0) (cap - 0))) w := fun ad n cap hy hm => by
    subst hy
    have hb : (Instr.sliceBounds true n cap none (some (a.eval z)) none).run P w = .ok (0, m, cap) w := by
      have : (0 : Int) ≤ m ∧ (m : Int) ≤ cap := by omega
      simp [Instr.sliceBounds, Instr.sliceBound, asIntOf, g2.lit_inv]; omega
    simp only [execOp, h, ex, Option.map_none, Option.map_some, Instr.sliceAt, Instr.slice, Sem.run_bind, run_under (ht.sliceE hd), Result.andThen_ok, hb, run_size he, Sem.run_pure]
  have hnx : I.nx = st.nx := hr.nx
  have hnd : (F ++ T').Nodup := r3.nodup_iff.1 t2
  cases g1 with
  | std g1 => cases g1
  | @hw0 _ ad hi ha hl0 _ =>
    cases r1 with
    | row _ ha2 => rw [ha] at ha2; cases ha2
    | row0 _ _ _ hsz =>
      obtain rfl : m = 0 := by simp at h1; omega
      have hn : (I.add none 0 sz).nx = st.nx + 1 := by show I.nx + 1 = _; rw [hnx]
      have hat : (I.add none 0 sz).at_ st.nx = none := by simp [Interp.add, hnx]
      have hln : (I.add none 0 sz).ln st.nx = 0 := by simp [Interp.add, hnx]
      have hszz : (I.add none 0 sz).sz st.nx = sz := by simp [Interp.add, hnx]
      have he2 : Ext I w (I.add none 0 sz) w := .add _ _ _ (fun _ _ => rfl) (.refl w)
      have hrn := hrun ad 0 0 rfl (Nat.le_refl _)
      refine ⟨_, w, I.add none 0 sz, hrn, ?_, ?_, fun _ => Same.refl w⟩
      · have := hr.next he2 (Below.refl B w) (fun b h => .inl h) (fun b h => hr.ss b h) (hp := (st.nx, .row sz ([].take 0)) :: rem id st.hp)
          ⟨[] ++ T', .cons (.row0 (by rw [hn]; omega) hat hln hszz) (r2.mono he2 fun _ _ => rfl), by simpa using hnd, fun b hb => t3 b (r3.mem_iff.2 (by simpa using hb))⟩
        rw [hn] at this; exact this
      · exact .hw0 (by rw [hn]; omega) hat hln trivial
  | @hw _ cap c b of hi ha hn0 hb0 hs0 =>
    cases r1 with
    | row0 _ ha2 => rw [ha] at ha2; cases ha2
    | row _ ha2 hl2 hsz2 hb2 hs2 hx2 hv2 =>
      rw [ha] at ha2; cases ha2
      have hmc : m ≤ cap := by rw [hl2] at hn0; omega
      have hn : (I.add (some (b, of)) m sz).nx = st.nx + 1 := by show I.nx + 1 = _; rw [hnx]
      have hat : (I.add (some (b, of)) m sz).at_ st.nx = some (b, of) := by simp [Interp.add, hnx]
      have hln : (I.add (some (b, of)) m sz).ln st.nx = m := by simp [Interp.add, hnx]
      have hszz : (I.add (some (b, of)) m sz).sz st.nx = sz := by simp [Interp.add, hnx]
      have he2 : Ext I w (I.add (some (b, of)) m sz) w := .add _ _ _ (fun _ _ => rfl) (.refl w)
      have hml : (xs.take m).length = m := by rw [List.length_take]; omega
      have hle : m * sz ≤ xs.length * sz := Nat.mul_le_mul_right _ (by omega)
      have hfl : xs.flatten = (xs.take m).flatten ++ (xs.drop m).flatten := by rw [← List.flatten_append, List.take_append_drop]
      rw [hfl] at hv2
      obtain ⟨F1, F3, rfl, hv3⟩ := hv2.c_take
      have hsub : List.Sublist ((b :: F1) ++ T') ((b :: (F1 ++ F3)) ++ T') := (List.Sublist.cons_cons b (List.sublist_append_left F1 F3)).append (List.Sublist.refl _)
      have hrn := hrun (some ⟨b, of, none⟩) (I.ln id) cap rfl hmc
      rw [show (if cap = 0 then (some ⟨b, of, none⟩ : Option Addr) else (some (⟨b, of, none⟩ : Addr)).map (·.add (0 * ie.size))) = some ⟨b, of, none⟩ by
        split
        · rfl
        · rw [Option.map_some, addr_add]; simp] at hrn
      refine ⟨_, w, I.add (some (b, of)) m sz, hrn, ?_, ?_, fun _ => Same.refl w⟩
      · have := hr.next he2 (Below.refl B w) (fun b h => .inl h) (fun b h => hr.ss b h) (hp := (st.nx, .row sz (xs.take m)) :: rem id st.hp)
          ⟨(b :: F1) ++ T', .cons (.row (by rw [hn]; omega) hat (by rw [hln, hml]) hszz hb2 (by rw [hml]; omega) (fun x hx => hx2 x (List.mem_of_mem_take hx)) (hv3.mono (fun _ h => h) (fun _ _ => rfl) (fun _ _ => rfl) (fun _ _ _ _ => rfl))) (r2.mono he2 fun _ _ => rfl), hnd.sublist hsub, fun b hb => t3 b (r3.mem_iff.2 (hsub.subset hb))⟩
        rw [hn] at this; exact this
      · have := Rep.hw (I := I.add (some (b, of)) m sz) (w := w) (id := st.nx) (cap := cap) (c := c) (b := b) (o := of) (by rw [hn]; omega) hat (by rw [hln]; exact hmc) hb0 (by rw [hszz]; rw [hsz2] at hs0; exact hs0)
        rw [hln] at this
        exact this

/-- A step of a loop over a map: any that is left is next. -/
theorem run_nextO {d id t0 : Nat} {pos : String} {af : Array Edge} {x : Operand} {left : List (Int × Int)} {cur : Option (Int × Int)} (ho : A[i]? = some ⟨some d, .next x false, t0, pos, af, none⟩) (hd : Nat.blt d st.nt = true) (hx : st.ev x = .hp id 0) (hrow : row id st.hp = some (.itr left cur))
    (h0 : left = [] → Run P f Q (.inRegion A rest :: k) (st.set d (.tup [.lit (.bool false)])))
    (h1 : ∀ (j : Nat) (p : Int × Int), left[j]? = some p → Run P f Q (.inRegion A rest :: k) ((⟨st.tm, (id, .itr (left.eraseIdx j) (some p)) :: rem id st.hp, st.nx, st.nt⟩ : St).set d (.tup [.lit (.bool true), .lit (.int .i64 p.1), .lit (.int .i64 p.2)]))) :
    Run P f Q (.inRegion A (i :: rest) :: k) st := by
  intro S0 B w0 I a w hlo hr hds b hb hk hro cs
  have g1 := hr.ev x
  rw [hx] at g1
  obtain ⟨T, t1, t2, t3⟩ := hr.hp
  obtain ⟨F, T', r1, r2, r3⟩ := t1.take hrow
  obtain ⟨r, m, es, clock, since, seen, c0, rfl, hid, ha, m1, m2, hst, hbn, hs, hl, hc⟩ := r1.itr_inv
  have ex : a.eval x = .pointer (some ⟨r, 0, none⟩) := by
    generalize a.eval x = y at g1
    cases g1 with
    | std g1 => cases g1
    | hp _ ha2 => rw [ha] at ha2; cases ha2; rfl
  have hleft : (leftOf es seen).toList = es.toList.filter fun e => !seen.contains e.born := by simp [leftOf]
  rcases run_next_at (P := P) w t0 r m since c0 seen es clock m1 m2 hbn hs.1 with ⟨hz, hrun⟩ | ⟨e, hem, w1, hal, hrun⟩
  · have hnil : left = [] := by
      have h2 : (leftOf es seen).toList = [] := List.eq_nil_of_length_eq_zero (by simpa using hz)
      rw [← hleft, h2] at hl
      cases left with
      | nil => rfl
      | cons p l => simp [PairsOf] at hl
    have hrun2 : (execOp a.eval ⟨some d, .next x false, t0, pos, af, none⟩).run P w = .ok (.value (.tuple #[.bool false])) w := by
      simp only [execOp, ex, Sem.run_bind, hrun, Result.andThen_ok, Sem.run_pure]
    have hr2 : Rel S0 B w0 I (st.set d (.tup [.lit (.bool false)])) (a.put (some d) (.tuple #[.bool false])) w := hr.put hd (.tup (.cons (.std (.lit _)) .nil))
    obtain ⟨e, w2, k1, k2⟩ := h0 hnil S0 B w0 I _ w hlo hr2 hds b hb hk hro cs
    exact ⟨e, w2, k1, k2.of_steps (.one (step_op_value ho rfl hrun2))⟩
  · obtain ⟨j, hj⟩ := List.mem_iff_getElem?.1 (hleft ▸ hem)
    have hl' : (es.toList.filter fun e => !seen.contains e.born).map (fun e => (e.key, e.val)) = left.map (fun p => (Value.int .i64 p.1, Value.int .i64 p.2)) := hl
    obtain ⟨p, hp, hke, hve⟩ : ∃ p, left[j]? = some p ∧ e.key = .int .i64 p.1 ∧ e.val = .int .i64 p.2 := by
      have h2 := congrArg (fun l => l[j]?) hl'
      simp only [List.getElem?_map, hj, Option.map_some] at h2
      cases hp : left[j]? with
      | none => rw [hp] at h2; cases h2
      | some p => rw [hp] at h2; simp only [Option.map_some, Option.some.injEq, Prod.mk.injEq] at h2; exact ⟨p, rfl, h2.1, h2.2⟩
    have hw1 : ∀ z : Nat, w1.heap[z]? = w.heap[z]? := fun z => by rcases hal with rfl | rfl <;> rfl
    have hw1s : w1.heap.size = w.heap.size := by rcases hal with rfl | rfl <;> rfl
    let w3 := ChangeMaps.setBlock w1 r (.mapIter (some m) since (seen.push e.born) clock)
    have hlt := t3 r (r3.mem_iff.2 (by simp))
    have h3r : w3.heap[r]? = some (.mapIter (some m) since (seen.push e.born) clock) := by
      show (w1.heap.setIfInBounds r _)[r]? = _
      rw [Array.getElem?_setIfInBounds]; simp [hw1s, hlt.2.2]
    have h3o : ∀ z, z ≠ r → w3.heap[z]? = w.heap[z]? := fun z hz => by
      show (w1.heap.setIfInBounds r _)[z]? = _
      rw [Array.getElem?_setIfInBounds, if_neg (Ne.symm hz)]; exact hw1 z
    have h3s : w3.heap.size = w.heap.size := by show (w1.heap.setIfInBounds r _).size = _; simp [hw1s]
    have hnd : ([r, m] ++ T').Nodup := r3.nodup_iff.1 t2
    have hmr : m ≠ r := fun e => by subst e; exact (List.nodup_cons.1 hnd).1 (by simp)
    have hT' : ∀ b ∈ T', w3.heap[b]? = w.heap[b]? := fun b hb => h3o b fun e => by subst e; exact (List.nodup_cons.1 hnd).1 (by simp [hb])
    have he : Ext I w I w3 := ⟨fun _ h => h, fun z hz => h3o z fun e => hlt.2.1 (e ▸ hz), Nat.le_refl _, fun _ _ => rfl, fun _ _ => rfl, fun _ _ => rfl, fun z c hz => by
      obtain ⟨t, hc⟩ := hz
      exact ⟨c, ⟨t, (h3o z fun e => by rw [e, m1] at hc; cases hc).trans hc⟩, rfl⟩⟩
    have hbe : Below B w w3 := by
      rcases hal with rfl | rfl
      · exact ⟨rfl, rfl, rfl, by rw [h3s]; exact Nat.le_refl _, fun z hz => h3o z (by have := hlt.1; omega)⟩
      · exact ⟨rfl, rfl, rfl, by rw [h3s]; exact Nat.le_refl _, fun z hz => h3o z (by have := hlt.1; omega)⟩
    have hleft2 : PairsOf (es.toList.filter fun x => !(seen.push e.born).contains x.born) (left.eraseIdx j) := by
      have e1 : (es.toList.filter fun x => !(seen.push e.born).contains x.born) = (es.toList.filter fun x => !seen.contains x.born).filter fun x => !(x.born == e.born) := by
        rw [List.filter_filter]
        congr 1
        funext x
        by_cases hxb : x.born = e.born
        · simp [Array.contains_push, hxb]
        · simp [Array.contains_push, hxb]
      have hnb : ((es.toList.filter fun e => !seen.contains e.born).map (·.born)).Nodup :=
        (((MapKept.stamped_iff es clock).1 hst).2.1).sublist (List.Sublist.map _ List.filter_sublist)
      show List.map _ _ = List.map _ _
      rw [e1, filt_erase _ j e hj hnb, map_erase, map_erase, hl']
    have hem2 : e ∈ es.toList := (List.mem_filter.1 (hleft ▸ hem)).1
    have hrun2 : (execOp a.eval ⟨some d, .next x false, t0, pos, af, none⟩).run P w = .ok (.value (.tuple #[.bool true, e.key, e.val])) w3 := by
      simp only [execOp, ex, Sem.run_bind, hrun, Result.andThen_ok, Sem.run_pure]
      rfl
    have hr1 := hr.next he hbe (fun _ h => .inl h) (fun z hz => by rw [h3s]; exact hr.ss z hz) (hp := (id, .itr (left.eraseIdx j) (some p)) :: rem id st.hp)
      ⟨[r, m] ++ T', .cons (.itr hid ha h3r ((h3o m hmr).trans m2) hst hbn ⟨hs.2, hs.2⟩ hleft2 ⟨e, hem2, seen, rfl, rfl, hke, hve⟩) (r2.mono he hT'), hnd, fun b hb => by rw [h3s]; exact t3 b (r3.mem_iff.2 hb)⟩
    rw [hr.nx] at hr1
    have hr2 := hr1.put (d := d) (v := .tup [.lit (.bool true), .lit (.int .i64 p.1), .lit (.int .i64 p.2)]) (x := .tuple #[.bool true, e.key, e.val]) hd (by rw [hke, hve]; exact .tup (.cons (.std (.lit _)) (.cons (.std (.lit _)) (.cons (.std (.lit _)) .nil))))
    obtain ⟨e, w2, k1, k2⟩ := h1 j p hp S0 B w0 I _ w3 hlo hr2 hds b hb hk hro cs
    exact ⟨e, w2, k1, k2.of_steps (.one (step_op_value ho rfl hrun2))⟩
end
end Go.Ax

/- Channels of one's own in one goroutine: made, and asked by a select of one case with a default. -/
namespace Go.Ax
open Go.RowKit Go.Conc
set_option linter.unusedVariables false
set_option linter.unusedSimpArgs false

section
variable {P : Program} {f : Nat} {Q : Post} {k : List Item} {st : St} {A : Array Oper} {i : Nat} {rest : List Nat} {o : Oper}

theorem Rep.hc_inv {I : Interp} {w : World} {id : Nat} {x : Value} (h : Rep I w (.v (.hc id) x)) : ∃ r, I.at_ id = some (r, 0) ∧ x = .chan (some r) := by
  cases h with
  | std h => cases h
  | hc _ ha => exact ⟨_, ha, rfl⟩
theorem RowOK.chn_inv {I : Interp} {w : World} {id cap : Nat} {xs : List Int} {F : List Nat} (h : RowOK I w id (.chn cap xs) F) :
    ∃ r buf s rc, F = [r] ∧ id < I.nx ∧ I.at_ id = some (r, 0) ∧ w.heap[r]? = some (.chan cap buf false s rc false) ∧ buf.toList = xs.map (fun n => Value.int .i64 n) := by
  cases h with | chn h1 h2 h3 h4 => exact ⟨_, _, _, _, rfl, h1, h2, h3, h4⟩

theorem stepG_comm {b : Frame} {a : Act} {cs : List Frame} {w w' : World} {cases : Array CommCase} {bl : Bool} (ho : A[i]? = some o) (hw : Region.wanted o (yielded A a.tmps) = true) (hr : (execOp a.eval o).run P w = .ok (.comm cases bl .select) w') :
    ∃ es, stepG P true (G (b.atR a (.inRegion A (i :: rest) :: k)) cs) w = .comm (G (b.atR a (.inRegion A (i :: rest) :: k)) cs) cases bl .select w' es := by
  have hg := stepGR_op (P := P) (b := b) (k := k) (cs := cs) (w := w) (rest := rest) ho hw
  rw [semAt_of hr (by intro d h; cases h)] at hg
  have h2 : ∃ es, stepG.apply P true (b.atR a (.inRegion A (i :: rest) :: k)) cs none (execOp a.eval o) w = .comm (G (b.atR a (.inRegion A (i :: rest) :: k)) cs) cases bl .select w' es := by
    simp only [stepG.apply, Sem.runT_eq, hr]
    exact ⟨_, rfl⟩
  obtain ⟨es, h2⟩ := h2
  exact ⟨es, hg.trans h2⟩
end
end Go.Ax

/- A select of one case with a default, over a channel of one's own. -/
namespace Go.Ax
open Go.RowKit Go.Conc
set_option linter.unusedVariables false
set_option linter.unusedSimpArgs false

section
variable {P : Program} {f : Nat} {Q : Post} {k : List Item} {st : St} {A : Array Oper} {i : Nat} {rest : List Nat} {o : Oper}

theorem exec_sel {a : Act} {w : World} {d t0 : Nat} {pos : String} {af : Array Edge} {cx : Operand} {sx : Option Operand} {e : Nat} {z : Value} (hz : (zeroValue e).run P w = .ok z w) :
    (execOp a.eval ⟨some d, .select #[⟨cx, sx, e⟩] false, t0, pos, af, none⟩).run P w = .ok (.comm #[{ chan := a.eval cx, send := sx.map a.eval, zero := z }] false .select) w := by
  simp [execOp, Sem.run_bind, Sem.run_pure, hz, Result.andThen_ok, List.mapM_cons, List.mapM_nil]

/-- The world's chan r is another, and what is one's own stays. -/
theorem Rel.chn_put {S0 : Interp} {B : Nat} {w0 : World} {I : Interp} {a : Act} {w : World} (hr : Rel S0 B w0 I st a w) {id cap : Nat} {xs ys : List Int} (hrow : row id st.hp = some (.chn cap xs)) :
    ∃ r buf s rc, I.at_ id = some (r, 0) ∧ w.heap[r]? = some (.chan cap buf false s rc false) ∧ buf.toList = xs.map (fun n => Value.int .i64 n) ∧
      ∀ buf' s' rc', buf'.toList = ys.map (fun n => Value.int .i64 n) → Rel S0 B w0 I ⟨st.tm, (id, .chn cap ys) :: rem id st.hp, st.nx, st.nt⟩ a { w with heap := w.heap.setIfInBounds r (.chan cap buf' false s' rc' false) } := by
  obtain ⟨T, t1, t2, t3⟩ := hr.hp
  obtain ⟨F, T', r1, r2, r3⟩ := t1.take hrow
  obtain ⟨r, buf, s, rc, rfl, hid, ha, m2, hxs⟩ := r1.chn_inv
  refine ⟨r, buf, s, rc, ha, m2, hxs, fun buf' s' rc' hys => ?_⟩
  have hrT := t3 r (r3.mem_iff.2 (by simp))
  let ob : Obj := .chan cap buf' false s' rc' false
  let w1 : World := { w with heap := w.heap.setIfInBounds r ob }
  have k1 : w1.heap[r]? = some ob := by
    show (w.heap.setIfInBounds r ob)[r]? = _
    rw [Array.getElem?_setIfInBounds]; simp [hrT.2.2]
  have k2 : ∀ z, z ≠ r → w1.heap[z]? = w.heap[z]? := fun z hz => by
    show (w.heap.setIfInBounds r ob)[z]? = _
    rw [Array.getElem?_setIfInBounds, if_neg (Ne.symm hz)]
  have hsz : w1.heap.size = w.heap.size := by simp [w1]
  have he : Ext I w I w1 := ⟨fun _ h => h, fun z hz => k2 z fun e => hrT.2.1 (e ▸ hz), Nat.le_refl _, fun _ _ => rfl, fun _ _ => rfl, fun _ _ => rfl, fun z c hz => by
    obtain ⟨t, hc⟩ := hz
    exact ⟨c, ⟨t, (k2 z fun e => by rw [e, m2] at hc; cases hc).trans hc⟩, rfl⟩⟩
  have hnd : ([r] ++ T').Nodup := r3.nodup_iff.1 t2
  have hT' : ∀ b ∈ T', w1.heap[b]? = w.heap[b]? := fun b hb => k2 b fun e => by
    subst e; exact (List.nodup_cons.1 hnd).1 hb
  have := hr.next he ⟨rfl, rfl, rfl, by rw [hsz]; exact Nat.le_refl _, fun z hz => k2 z (by have := hrT.1; omega)⟩ (fun _ h => .inl h) (fun z hz => by rw [hsz]; exact hr.ss z hz)
    (hp := (id, .chn cap ys) :: rem id st.hp) ⟨[r] ++ T', .cons (.chn hid ha k1 hys) (r2.mono he hT'), hnd, fun b hb => by rw [hsz]; exact t3 b (r3.mem_iff.2 hb)⟩
  rw [hr.nx] at this; exact this

theorem run_selSend {d id cap t0 e : Nat} {pos : String} {af : Array Edge} {cx sx : Operand} {ie : TyI} {xs : List Int} {n : Int} (ho : A[i]? = some ⟨some d, .select #[⟨cx, some sx, e⟩] false, t0, pos, af, none⟩) (hd : Nat.blt d st.nt = true)
    (he : TyOK P e ie) (hc : st.ev cx = .hc id) (hs : st.ev sx = .lit (.int .i64 n)) (hrow : row id st.hp = some (.chn cap xs)) (hroom : xs.length < cap)
    (h : Run P f Q (.inRegion A rest :: k) ((⟨st.tm, (id, .chn cap (xs ++ [n])) :: rem id st.hp, st.nx, st.nt⟩ : St).set d (.tup [.lit (.int .i64 0), .lit (.bool false)]))) : Run P f Q (.inRegion A (i :: rest) :: k) st := by
  intro S0 B w0 I a w hlo hr hds b hb hk hro cs
  have g1 := hr.ev cx
  have g2 := hr.ev sx
  rw [hc] at g1
  rw [hs] at g2
  obtain ⟨r', ha', ex⟩ := g1.hc_inv
  obtain ⟨r, buf, s, rc, ha, m2, hxs, hput⟩ := hr.chn_put (ys := xs ++ [n]) hrow
  obtain rfl : r' = r := by rw [ha] at ha'; cases ha'; rfl
  obtain ⟨z, hz, _⟩ := run_zero (w := w) he
  have hrun := exec_sel (P := P) (a := a) (w := w) (d := d) (t0 := t0) (pos := pos) (af := af) (cx := cx) (sx := some sx) (e := e) hz
  rw [ex, Option.map_some, g2.lit_inv] at hrun
  obtain ⟨es, hg⟩ := stepG_comm (b := b) (k := k) (rest := rest) (cs := cs) ho rfl hrun
  have hbl : buf.size = xs.length := by rw [← Array.length_toList, hxs, List.length_map]
  have hst := step_lone_select_send_room (c := r') (v := .int .i64 n) (z' := z) hg m2 (by omega)
  have hfin : (b.atR a (.inRegion A (i :: rest) :: k)).finish (.tuple #[goInt 0, .bool false]) = b.atR (a.put (some d) (.tuple #[goInt 0, .bool false])) (.inRegion A rest :: k) := by rw [Frame.finish_atR, ho]; rfl
  rw [hfin] at hst
  have hr1 := hput (buf.push (.int .i64 n)) (s + 1) rc (by simp [hxs])
  have hr2 := hr1.put (d := d) (v := .tup [.lit (.int .i64 0), .lit (.bool false)]) (x := .tuple #[goInt 0, .bool false]) hd (.tup (.cons (.std (.lit _)) (.cons (.std (.lit _)) .nil)))
  obtain ⟨e2, w2, k1, k2⟩ := h S0 B w0 I _ _ hlo hr2 hds b hb hk hro cs
  exact ⟨e2, w2, k1, k2.of_steps (.one hst)⟩

theorem run_selRecv {d id cap t0 e : Nat} {pos : String} {af : Array Edge} {cx : Operand} {ie : TyI} {x : Int} {xs : List Int} (ho : A[i]? = some ⟨some d, .select #[⟨cx, none, e⟩] false, t0, pos, af, none⟩) (hd : Nat.blt d st.nt = true)
    (he : TyOK P e ie) (hc : st.ev cx = .hc id) (hrow : row id st.hp = some (.chn cap (x :: xs)))
    (h : Run P f Q (.inRegion A rest :: k) ((⟨st.tm, (id, .chn cap xs) :: rem id st.hp, st.nx, st.nt⟩ : St).set d (.tup [.lit (.int .i64 0), .lit (.bool true), .lit (.int .i64 x)]))) : Run P f Q (.inRegion A (i :: rest) :: k) st := by
  intro S0 B w0 I a w hlo hr hds b hb hk hro cs
  have g1 := hr.ev cx
  rw [hc] at g1
  obtain ⟨r', ha', ex⟩ := g1.hc_inv
  obtain ⟨r, buf, s, rc, ha, m2, hxs, hput⟩ := hr.chn_put (ys := xs) hrow
  obtain rfl : r' = r := by rw [ha] at ha'; cases ha'; rfl
  obtain ⟨z, hz, _⟩ := run_zero (w := w) he
  have hrun := exec_sel (P := P) (a := a) (w := w) (d := d) (t0 := t0) (pos := pos) (af := af) (cx := cx) (sx := none) (e := e) hz
  rw [ex, Option.map_none] at hrun
  obtain ⟨es, hg⟩ := stepG_comm (b := b) (k := k) (rest := rest) (cs := cs) ho rfl hrun
  have hbl : 0 < buf.size := by rw [← Array.length_toList, hxs]; simp
  have hst := step_lone_select_recv_buf (c := r') (z := z) hg m2 hbl
  have hx : buf.getD 0 undef = .int .i64 x := by
    have h2 : buf.toList[0]? = some (.int .i64 x) := by rw [hxs]; rfl
    rw [Array.getD_eq_getD_getElem?, ← Array.getElem?_toList, h2]; rfl
  rw [hx] at hst
  have hfin : (b.atR a (.inRegion A (i :: rest) :: k)).finish (.tuple #[goInt 0, .bool true, .int .i64 x]) = b.atR (a.put (some d) (.tuple #[goInt 0, .bool true, .int .i64 x])) (.inRegion A rest :: k) := by rw [Frame.finish_atR, ho]; rfl
  rw [hfin] at hst
  have hr1 := hput (buf.extract 1 buf.size) s (rc + 1) (by
    have : (buf.extract 1 buf.size).toList = buf.toList.drop 1 := by
      simp
      exact List.take_of_length_le (by simp)
    rw [this, hxs]; rfl)
  have hr2 := hr1.put (d := d) (v := .tup [.lit (.int .i64 0), .lit (.bool true), .lit (.int .i64 x)]) (x := .tuple #[goInt 0, .bool true, .int .i64 x]) hd (.tup (.cons (.std (.lit _)) (.cons (.std (.lit _)) (.cons (.std (.lit _)) .nil))))
  obtain ⟨e2, w2, k1, k2⟩ := h S0 B w0 I _ _ hlo hr2 hds b hb hk hro cs
  exact ⟨e2, w2, k1, k2.of_steps (.one hst)⟩

theorem run_selNone {d id cap t0 e : Nat} {pos : String} {af : Array Edge} {cx : Operand} {ie : TyI} {v : Int} (ho : A[i]? = some ⟨some d, .select #[⟨cx, none, e⟩] false, t0, pos, af, none⟩) (hd : Nat.blt d st.nt = true)
    (he : TyOK P e ie) (hz0 : ie.zero = [.int .i64 v]) (hag : ie.isAgg = false) (hc : st.ev cx = .hc id) (hrow : row id st.hp = some (.chn cap []))
    (h : Run P f Q (.inRegion A rest :: k) (st.set d (.tup [.lit (.int .i64 (-1)), .lit (.bool false), .any]))) : Run P f Q (.inRegion A (i :: rest) :: k) st := by
  intro S0 B w0 I a w hlo hr hds b hb hk hro cs
  have g1 := hr.ev cx
  rw [hc] at g1
  obtain ⟨r', ha', ex⟩ := g1.hc_inv
  obtain ⟨r, buf, s, rc, ha, m2, hxs, hput⟩ := hr.chn_put (ys := []) hrow
  obtain rfl : r' = r := by rw [ha] at ha'; cases ha'; rfl
  obtain ⟨z, hz, _⟩ := run_zero (w := w) he
  have hrun := exec_sel (P := P) (a := a) (w := w) (d := d) (t0 := t0) (pos := pos) (af := af) (cx := cx) (sx := none) (e := e) hz
  rw [ex, Option.map_none] at hrun
  obtain ⟨es, hg⟩ := stepG_comm (b := b) (k := k) (rest := rest) (cs := cs) ho rfl hrun
  have hbe : buf = #[] := Array.toList_inj.1 (by simpa using hxs)
  subst hbe
  have hst := step_lone_select_default (c := r') (z := z) hg m2
  have hfin : (b.atR a (.inRegion A (i :: rest) :: k)).finish (.tuple #[goInt (-1), .bool false, z]) = b.atR (a.put (some d) (.tuple #[goInt (-1), .bool false, z])) (.inRegion A rest :: k) := by rw [Frame.finish_atR, ho]; rfl
  rw [hfin] at hst
  have hr2 := hr.put (d := d) (v := .tup [.lit (.int .i64 (-1)), .lit (.bool false), .any]) (x := .tuple #[goInt (-1), .bool false, z]) hd (.tup (.cons (.std (.lit _)) (.cons (.std (.lit _)) (.cons (.std (.any _)) .nil))))
  obtain ⟨e2, w2, k1, k2⟩ := h S0 B w0 I _ _ hlo hr2 hds b hb hk hro cs
  exact ⟨e2, w2, k1, k2.of_steps (.one hst)⟩
end
end Go.Ax

/- Calls through a function value that holds nothing, by a contract. -/
namespace Go.Ax
open Go.RowKit
set_option linter.unusedVariables false
section
variable {P : Program} {f : Nat} {Q : Post} {k : List Item} {st : St} {A : Array Oper} {i : Nat} {rest : List Nat}
theorem Rep.fn_inv {I : Interp} {w : World} {g : Nat} {x : Value} (h : Rep I w (.v (.fn g []) x)) : x = .func (.func g) #[] #[] := by
  cases h with
  | std h => cases h with | fn h => cases h; rfl
  | fn h => cases h; rfl
theorem run_callX {d t g : Nat} {pos : String} {af : Array Edge} {gd : Option (Nat × Bool)} {xs : Array Operand} {ts : Array Nat} {x : Operand} {fn : Func} {c : Code} {Qg : AV → Prop} {as as' : List AV}
    (ho : A[i]? = some ⟨some d, .call { callee := .value x, args := xs, argTypes := ts }, t, pos, af, gd⟩) (hx0 : st.ev x = .fn g []) (hw : Want A st gd) (hd : Nat.blt d st.nt = true)
    (hg : P.funcs[g]? = some fn) (hb : fn.body = some c) (hn : (fn.name == "runtime.NumGoroutine") = false) (has : xs.toList.map st.ev = as) (hseen : SeenL st.hp as as') (hstd : as'.all AV.std = true) (hgood : Good P g as' Qg)
    (h : ∀ r, Qg r → r.flat3 = true ∧ r.Free ∧ Run P f Q (.inRegion A rest :: k) ((st.back r).set d (imp st.nx r).1)) : Run P f Q (.inRegion A (i :: rest) :: k) st := by
  intro S0 B w0 I a w hlo hr hds b hbf hk hro cs
  have h1 := hr.evs xs.toList
  rw [has] at h1
  have hxv := hr.ev x
  rw [hx0] at hxv
  obtain ⟨T, t1, t2, t3⟩ := hr.hp
  have hcall := hgood (fun b => I.S b ∨ b ∈ T) w _ (fun b hb => hb.elim (hr.ss b) fun h => (t3 b h).2.2) (seen_l hseen hstd t1 h1)
  obtain ⟨e, w2, fr, ⟨r, hq, hfin⟩, hcomes, _, hleave⟩ := hcall (b.atR a (.inRegion A (i :: rest) :: k) :: cs)
  obtain ⟨hfl, hfree, hrun⟩ := h r hq
  obtain ⟨v, I', rfl, hr', hrep⟩ := hr.backV t1 t2 t3 hfin hfl hfree
  have hx := exec_call (P := P) (a := a) (w := w) (dst := some d) (t := t) (pos := pos) (af := af) (gd := gd) (xs := xs) (ts := ts) (x := x) (cs := []) hxv.fn_inv hg hb hn
  rw [List.append_nil] at hx
  have hst := enter_back ho (hr.wanted hw) hx hcomes hleave (R := fun _ _ => True)
  have hrel := hr'.put (d := d) (by exact hd) hrep
  obtain ⟨e3, w3, g1, g2⟩ := hrun S0 B w0 I' _ w2 hlo hrel hds b hbf hk hro cs
  exact ⟨e3, w3, g1, g2.of_steps hst⟩
/-- The same, told by a contract. -/
theorem run_dyn {d t g : Nat} {pos : String} {af : Array Edge} {gd : Option (Nat × Bool)} {xs : Array Operand} {ts : Array Nat} {x : Operand} {Qg : AV → Prop} {as as' : List AV}
    (ho : A[i]? = some ⟨some d, .call { callee := .value x, args := xs, argTypes := ts }, t, pos, af, gd⟩) (hx0 : st.ev x = .fn g []) (hw : Want A st gd) (hd : Nat.blt d st.nt = true)
    (hs : FnSpec P g as' Qg) (has : xs.toList.map st.ev = as) (hseen : SeenL st.hp as as') (hstd : as'.all AV.std = true)
    (h : ∀ r, Qg r → r.flat3 = true ∧ r.Free ∧ Run P f Q (.inRegion A rest :: k) ((st.back r).set d (imp st.nx r).1)) : Run P f Q (.inRegion A (i :: rest) :: k) st := by
  obtain ⟨⟨fn, c, h1, h2, h3⟩, h4⟩ := hs
  exact run_callX ho hx0 hw hd h1 h2 h3 has hseen hstd h4 h
end
end Go.Ax

/- A package's table: an element's address. -/
namespace Go.Ax
open Go Go.RowKit
section
variable {P : Program} {st : St}
theorem rd_indexTab {o : Oper} {t g e len id : Nat} {ix : Operand} {ie : TyI} {vs : List Value} {kk : IntKind} {n : Int} {v : Value} (h : o.op = .indexAddr t (.global g) ix) (hu : P.underlying t = some (.array len e)) (he : TyOK P e ie) (hsz : ie.size = 1)
    (hrow : row id st.hp = some (.tab g vs)) (hi : st.ev ix = .lit (.int kk n)) (h0 : 0 ≤ n) (hl : n < (len : Int)) (hv : vs[n.toNat]? = some v) : Reads P st o (.pt [.lit v]) := by
  intro S0 B w0 I a w hr
  have h2 := hr.ev ix
  rw [hi] at h2
  obtain ⟨T, k1, _, _⟩ := hr.hp
  obtain ⟨F, T', g1, _, _⟩ := k1.take hrow
  cases g1 with
  | tab _ hs hc =>
    have hcell := hc _ v hv
    refine ⟨.pointer (some ⟨g, n.toNat, none⟩), fun w' hw => ?_, .std (.pt hs (.ccons hcell (.lit _) .cnil))⟩
    have eg : a.eval (.global g) = .pointer (some ⟨g, 0, none⟩) := rfl
    simp only [execOp, h, eg, h2.lit_inv, Instr.indexAt, Instr.sureAddr, asIntOf, Sem.run_bind, run_under hu, Result.andThen_ok, Sem.run_pure, h0, hl, and_self, if_true, run_size he, hsz, addr_add, Nat.mul_one, Nat.zero_add]
/-- A call that begins where a package's table is laid. -/
theorem calls_tab {f : Nat} {Q : AV → Prop} {fn : Func} {c : Code} {args : List AV} (g : Nat) (tv : List Value) (hf : P.funcs[f]? = some fn) (hb : fn.body = some c) (hn : Nat.ble args.length fn.ntmps = true)
    (h : Run P f (Post.one Q) [.code c] ⟨slots 0 args, [(0, .tab g tv)], 1, fn.ntmps⟩) (S0 : Nat → Prop) (w : World) (vs : List Value) (hS : ∀ b, S0 b → b < w.heap.size) (hg : S0 g) (ht : ∀ (j : Nat) v, tv[j]? = some v → w.cell? ⟨g, j, none⟩ = some v) (hv : Std S0 w (.l args vs)) :
    Calls P f vs.toArray w fun e w' => ∃ r, Q r ∧ Fin S0 w.heap.size w r e w' := by
  intro cs
  have hn' := Nat.le_of_ble_eq_true hn
  have hlen : vs.length = args.length := (hv.l_rep (I := ⟨S0, fun _ => none, fun _ => 0, fun _ => 0, 0⟩)).l_len
  let b : Frame := { (default : Frame) with fn := f, kind := .normal, roundOf := none }
  have henter : Frame.enter P f vs.toArray .normal = b.atR { tmps := vs.toArray ++ Array.replicate (fn.ntmps - vs.toArray.size) undef, defers := [] } [.code c] := by
    simp [Frame.enter, Frame.atR, hf, hb, b]
  rw [henter]
  suffices hrel : Rel ⟨S0, fun _ => none, fun _ => 0, fun _ => 0, 0⟩ w.heap.size w ⟨S0, fun _ => none, fun _ => 0, fun _ => 0, 1⟩ ⟨slots 0 args, [(0, .tab g tv)], 1, fn.ntmps⟩ { tmps := vs.toArray ++ Array.replicate (fn.ntmps - vs.toArray.size) undef, defers := [] } w by
    obtain ⟨e, w', h1, fr, h2, h3, h4⟩ := h _ _ w _ _ w rfl hrel rfl b rfl rfl rfl cs
    exact ⟨e, w', fr, h1, h2, h3, h4⟩
  refine ⟨fun d => ?_, by simp; omega, rfl, ⟨[], .cons (F := []) (T := []) (.tab (Nat.zero_lt_one) hg ht) .nil, List.nodup_nil, by simp⟩, hS, ?_, fun _ h => .inl h, Below.refl _ _, Nat.le_refl _⟩
  · have key : ∀ (n : Nat) (as : List AV) (xs : List Value), Std S0 w (.l as xs) → ∀ d, (∃ v x, get d (slots n as) = v ∧ n ≤ d ∧ xs[d - n]? = some x ∧ Std S0 w (.v v x)) ∨ get d (slots n as) = .any := by
      intro n as
      induction as generalizing n with
      | nil => intro xs _ d; right; rfl
      | cons a as ih =>
        intro xs hx d
        cases hx with
        | cons h1 h2 =>
          simp only [slots]
          rw [get_cons]
          by_cases e : n = d
          · subst e; left; exact ⟨a, _, by simp, Nat.le_refl _, by simp, h1⟩
          · rw [if_neg e]
            rcases ih (n + 1) _ h2 d with ⟨v, x, g1, g2, g3, g4⟩ | g
            · left; refine ⟨v, x, g1, by omega, ?_, g4⟩
              rw [show d - n = (d - (n + 1)) + 1 from by omega]; simpa using g3
            · right; exact g
    rcases key 0 args vs hv d with ⟨v, x, g1, g2, g3, g4⟩ | g
    · rw [g1]
      have : (vs.toArray ++ Array.replicate (fn.ntmps - vs.toArray.size) undef).getD d undef = x := by
        have hd : d < vs.length := (List.getElem?_eq_some_iff.1 g3).1
        simp at g3
        simp [Array.getD_eq_getD_getElem?, Array.getElem?_append, hd]
        obtain ⟨_, g3⟩ := List.getElem?_eq_some_iff.1 g3
        exact g3
      rw [this]; exact .std g4
    · rw [g]; exact .std (.any _)
  · have hr := Ext.refl (⟨S0, fun _ => none, fun _ => 0, fun _ => 0, 0⟩ : Interp) w
    exact ⟨hr.S, hr.hold, Nat.zero_le _, fun id h => absurd h (by simp), fun id h => absurd h (by simp), fun id h => absurd h (by simp), hr.last⟩
end
end Go.Ax
