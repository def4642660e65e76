/- Maps of one's own: made, filled, looked up, gone through in any order; rows of one's own, cut short. -/
import Derived.Test.YtjjijklonnhdeaaG03
import Derived.Maps.RangeRun
import Derived.Sort.Grow
set_option linter.unusedVariables false
set_option linter.unusedSimpArgs false

namespace Go.Ax
open Go.RowKit
set_option linter.unusedVariables false
set_option linter.unusedSimpArgs false

theorem Own.c_take {S : Nat → Prop} {w : World} {b : Nat} {Cs : List AV} : ∀ {As : List AV} {o : Nat} {F : List Nat}, Own S w (.c b o (As ++ Cs)) F → ∃ F1 F2, F = F1 ++ F2 ∧ Own S w (.c b o As) F1
  | [], o, F, h => ⟨[], F, rfl, .cnil⟩
  | a :: As, o, F, h => by
    cases h with
    | ccons h1 h2 h3 =>
      obtain ⟨F1, F2, rfl, g⟩ := Own.c_take h3
      exact ⟨_, F2, (List.append_assoc ..).symm, .ccons h1 h2 g⟩

theorem filt_erase : ∀ (L : List MapEntry) (i : Nat) (e : MapEntry), L[i]? = some e → (L.map (·.born)).Nodup → L.filter (fun x => !(x.born == e.born)) = L.eraseIdx i
  | [], i, e, h, _ => by simp at h
  | x :: L, 0, e, h, hn => by
    simp only [List.getElem?_cons_zero, Option.some.injEq] at h
    subst h
    simp only [List.map_cons, List.nodup_cons] at hn
    rw [List.filter_cons_of_neg (by simp), List.eraseIdx_cons_zero]
    refine List.filter_eq_self.2 fun y hy => ?_
    simp only [Bool.not_eq_true', beq_eq_false_iff_ne, ne_eq]
    intro hb
    exact hn.1 (by rw [← hb]; exact List.mem_map_of_mem hy)
  | x :: L, i + 1, e, h, hn => by
    simp only [List.getElem?_cons_succ] at h
    simp only [List.map_cons, List.nodup_cons] at hn
    have hx : ¬ x.born = e.born := fun hb => hn.1 (by rw [hb]; exact List.mem_map_of_mem (List.mem_of_getElem? h))
    rw [List.filter_cons_of_pos (by simpa using hx), List.eraseIdx_cons_succ, filt_erase L i e h hn.2]

theorem map_erase {α β : Type} (g : α → β) : ∀ (l : List α) (j : Nat), (l.eraseIdx j).map g = (l.map g).eraseIdx j
  | [], _ => rfl
  | _ :: _, 0 => rfl
  | a :: l, j + 1 => by simp only [List.eraseIdx_cons_succ, List.map_cons, map_erase g l j]

section
variable {P : Program} {f : Nat} {Q : Post} {k : List Item} {st : St} {A : Array Oper} {i : Nat} {rest : List Nat} {o : Oper}

theorem ok_makeMapO {t : Nat} (h : o.op = .makeMap t none) : OpOK P st o (.hm st.nx) ⟨st.tm, (st.nx, .mpr []) :: st.hp, st.nx + 1, st.nt⟩ := by
  refine ⟨rfl, fun S0 B w0 I a w hr => ?_⟩
  obtain ⟨T, h1, h2, h3⟩ := hr.hp
  let w1 : World := { w with heap := w.heap.push (.map #[] 0) }
  have hold : ∀ b, b < w.heap.size → w1.heap[b]? = w.heap[b]? := fun b hb => heap_push _ _ _ hb
  have he : Ext I w (I.add (some (w.heap.size, 0)) 0 0) w1 := .add _ _ _ (fun b hb => hold b (hr.ss b hb)) (.push _ _)
  have hnx : I.nx = st.nx := hr.nx
  have hn : (I.add (some (w.heap.size, 0)) 0 0).nx = st.nx + 1 := by show I.nx + 1 = _; rw [hnx]
  have hat : (I.add (some (w.heap.size, 0)) 0 0).at_ st.nx = some (w.heap.size, 0) := by simp [Interp.add, hnx]
  have hrow : RowOK (I.add (some (w.heap.size, 0)) 0 0) w1 st.nx (.mpr []) [w.heap.size] :=
    .mpr (by rw [hn]; omega) hat (by simp [w1]) (MapKept.stamped_empty 0) rfl
  refine ⟨.map (some w.heap.size), w1, _, ?_, ?_, .hm (by rw [hn]; omega) hat, fun _ b hb => hold b hb⟩
  · simp [execOp, h, Instr.makeMap, run_newObj, w1]
  · have := hr.next he (Below.push B w _ hr.bs) (fun b h => .inl h) (fun b h => by have := hr.ss b h; simp [w1]; omega)
      (hp := (st.nx, .mpr []) :: st.hp) ⟨[w.heap.size] ++ T, .cons hrow (h1.mono he fun b hb => hold b (h3 b hb).2.2), ?_, ?_⟩
    · rw [hn] at this; exact this
    · refine List.nodup_cons.2 ⟨fun hm => ?_, h2⟩
      have := (h3 _ hm).2.2; omega
    · intro b hb
      rcases List.mem_cons.1 hb with rfl | hb
      · exact ⟨hr.bs, fun h => by have := hr.ss _ h; omega, by simp [w1]⟩
      · have := h3 b hb
        exact ⟨this.1, this.2.1, by have := this.2.2; simp [w1]; omega⟩

theorem Rep.hm_inv {I : Interp} {w : World} {id : Nat} {x : Value} (h : Rep I w (.v (.hm id) x)) : ∃ r, I.at_ id = some (r, 0) ∧ x = .map (some r) := by
  cases h with
  | std h => cases h
  | hm _ ha => exact ⟨_, ha, rfl⟩
theorem RowOK.mpr_inv {I : Interp} {w : World} {id : Nat} {kvs : List (Int × Int)} {F : List Nat} (h : RowOK I w id (.mpr kvs) F) :
    ∃ r es clock, F = [r] ∧ id < I.nx ∧ I.at_ id = some (r, 0) ∧ w.heap[r]? = some (.map es clock) ∧ MapKept.Stamped es clock ∧ PairsOf es.toList kvs := by
  cases h with | mpr h1 h2 h3 h4 h5 => exact ⟨_, _, _, rfl, h1, h2, h3, h4, h5⟩
theorem RowOK.itr_inv {I : Interp} {w : World} {id : Nat} {left : List (Int × Int)} {cur : Option (Int × Int)} {F : List Nat} (h : RowOK I w id (.itr left cur) F) :
    ∃ r m es clock since seen c0, F = [r, m] ∧ id < I.nx ∧ I.at_ id = some (r, 0) ∧ w.heap[r]? = some (.mapIter (some m) since seen c0) ∧ w.heap[m]? = some (.map es clock) ∧ MapKept.Stamped es clock ∧
      (∀ x ∈ es.toList, x.born < since) ∧ (since ≤ c0 ∧ since ≤ clock) ∧ PairsOf (es.toList.filter fun e => !seen.contains e.born) left ∧ CurOf es.toList seen c0 clock cur := by
  cases h with | itr h1 h2 h3 h4 h5 h6 h7 h8 h9 => exact ⟨_, _, _, _, _, _, _, rfl, h1, h2, h3, h4, h5, h6, h7, h8, h9⟩

theorem rd_lookupO {id t kt et : Nat} {x ix : Operand} {it ki : TyI} {kvs : List (Int × Int)} {n : Int} (h : o.op = .lookup t x ix false) (ht : TyOK P t it) (hd : it.td = .td (.map kt et)) (hk : TyOK P kt ki) (hkd : ki.td = .td (.int .i64))
    (hez : (P.info? et).bind (·.zero) = some (.int .i64 0)) (hx : st.ev x = .hm id) (hrow : row id st.hp = some (.mpr kvs)) (hi : st.ev ix = .lit (.int .i64 n)) : Reads P st o (.lit (.int .i64 ((mget kvs n).getD 0))) := by
  intro S0 B w0 I a w hr
  have h1 := hr.ev x
  have h2 := hr.ev ix
  rw [hx] at h1
  rw [hi] at h2
  obtain ⟨r, ha, ex⟩ := h1.hm_inv
  obtain ⟨T, t1, t2, t3⟩ := hr.hp
  obtain ⟨F, T', r1, r2, r3⟩ := t1.take hrow
  obtain ⟨r', es, clock, rfl, hid, ha', hb, hst, hes⟩ := r1.mpr_inv
  rw [ha] at ha'; cases ha'
  have hlt : r < w.heap.size := (t3 r (r3.mem_iff.2 (by simp))).2.2
  refine ⟨_, fun w' hw0 => ?_, .std (.lit _)⟩
  have hw : Same _ w' := hw0.resolve_left (by rw [h]; simp [memFree])
  have hb' : w'.heap[r]? = some (.map es clock) := (hw r hlt).trans hb
  have hkd' := hk.intE hkd
  have hik : MapKept.IsKey (.int .i64) (.int .i64 n) := by simp [MapKept.IsKey]
  obtain ⟨f1, f2⟩ := findNow_mp n es.toList kvs 0 hes
  have hz : (zeroValue et).run P w' = .ok (.int .i64 0) w' := by
    cases hin : P.info? et with
    | none => simp [hin] at hez
    | some info =>
      simp only [hin, Option.bind_some] at hez
      simp only [zeroValue, typeInfo, Sem.run_bind, run_program, Result.andThen_ok, hin, Sem.run_pure, hez]
  cases hm : mget kvs n with
  | none =>
    simp only [execOp, h, ex, h2.lit_inv, Instr.lookup, Sem.run_bind, run_under (ht.mapE hd), Result.andThen_ok, MapKept.run_getObj_map hb', Sem.run_pure, MapKept.run_checkKey hkd' hik, MapKept.run_findKey hkd' (f1 hm), hz, Option.getD_none, if_false, Bool.false_eq_true]
  | some v =>
    obtain ⟨j, hj⟩ := f2 v hm
    simp only [execOp, h, ex, h2.lit_inv, Instr.lookup, Sem.run_bind, run_under (ht.mapE hd), Result.andThen_ok, MapKept.run_getObj_map hb', Sem.run_pure, MapKept.run_checkKey hkd' hik, MapKept.run_findKey hkd' hj, Option.getD_some, if_false, Bool.false_eq_true]

theorem mget_none : ∀ {l : List MapEntry} {kvs : List (Int × Int)} {n : Int}, PairsOf l kvs → mget kvs n = none → ∀ x ∈ l, x.key ≠ .int .i64 n
  | [], _, n, _, _, x, hx => by cases hx
  | e :: l, [], n, h, _, x, hx => by simp [PairsOf] at h
  | e :: l, (kk, v) :: kvs, n, h, hm, x, hx => by
    simp only [PairsOf, List.map_cons, List.cons.injEq, Prod.mk.injEq] at h
    obtain ⟨⟨h1, h2⟩, h3⟩ := h
    by_cases hk : n = kk
    · subst hk; simp [mget] at hm
    · have e1 : mget ((kk, v) :: kvs) n = mget kvs n := by simp [mget, hk]
      rw [e1] at hm
      rcases List.mem_cons.1 hx with rfl | hx
      · rw [h1]; intro e; cases e; exact hk rfl
      · exact mget_none (l := l) h3 hm x hx

theorem do_updO {id t kt et : Nat} {x y z : Operand} {it ki : TyI} {kvs : List (Int × Int)} {n v : Int} (h : o.op = .mapUpdate t x y z) (ht : TyOK P t it) (hd : it.td = .td (.map kt et)) (hk : TyOK P kt ki) (hkd : ki.td = .td (.int .i64))
    (hx : st.ev x = .hm id) (hrow : row id st.hp = some (.mpr kvs)) (hy : st.ev y = .lit (.int .i64 n)) (hz : st.ev z = .lit (.int .i64 v)) (hn : mget kvs n = none) : OpDo P st o ⟨st.tm, (id, .mpr (kvs ++ [(n, v)])) :: rem id st.hp, st.nx, st.nt⟩ := by
  intro S0 B w0 I a w hr
  have h1 := hr.ev x
  have h2 := hr.ev y
  have h3 := hr.ev z
  rw [hx] at h1
  rw [hy] at h2
  rw [hz] at h3
  obtain ⟨r, ha, ex⟩ := h1.hm_inv
  obtain ⟨T, t1, t2, t3⟩ := hr.hp
  obtain ⟨F, T', r1, r2, r3⟩ := t1.take hrow
  obtain ⟨r', es, clock, rfl, hid, ha', m2, hst, hes⟩ := r1.mpr_inv
  rw [ha] at ha'; cases ha'
  have hrT := t3 r (r3.mem_iff.2 (by simp))
  let ob : Obj := .map (es.push { key := .int .i64 n, val := .int .i64 v, born := clock }) (clock + 1)
  let w1 : World := { w with heap := w.heap.setIfInBounds r ob }
  have hkd' := hk.intE hkd
  have hik : MapKept.IsKey (.int .i64) (.int .i64 n) := by simp [MapKept.IsKey]
  obtain ⟨k1, k2⟩ := MapKept.heap_set (o' := ob) m2
  have hsz : w1.heap.size = w.heap.size := by simp [w1]
  have he : Ext I w I w1 := ⟨fun _ h => h, fun z hz => k2 z fun e => hrT.2.1 (e ▸ hz), Nat.le_refl _, fun _ _ => rfl, fun _ _ => rfl, fun _ _ => rfl, fun z c hz => by
    obtain ⟨t, hc⟩ := hz
    exact ⟨c, ⟨t, (k2 z fun e => by rw [e, m2] at hc; cases hc).trans hc⟩, rfl⟩⟩
  have hnd : ([r] ++ T').Nodup := r3.nodup_iff.1 t2
  have hT' : ∀ b ∈ T', w1.heap[b]? = w.heap[b]? := fun b hb => k2 b fun e => by
    subst e; exact (List.nodup_cons.1 hnd).1 hb
  have hst2 : MapKept.Stamped (es.push { key := .int .i64 n, val := .int .i64 v, born := clock }) (clock + 1) := MapKept.stamped_push hst (mget_none hes hn)
  refine ⟨w1, I, ?_, ?_⟩
  · simp only [execOp, h, ex, h2.lit_inv, h3.lit_inv, Instr.mapUpdate, Sem.run_bind, run_under (ht.mapE hd), Result.andThen_ok, MapKept.run_getObj_map m2, MapKept.run_checkKey hkd' hik, MapKept.run_findKey hkd' ((findNow_mp n es.toList kvs 0 hes).1 hn), MapKept.run_setObj_map _ m2, Sem.run_pure]
    rfl
  · have := hr.next he ⟨rfl, rfl, rfl, by rw [hsz]; exact Nat.le_refl _, fun z hz => k2 z (by have := hrT.1; omega)⟩ (fun _ h => .inl h) (fun z hz => by rw [hsz]; exact hr.ss z hz)
      (hp := (id, .mpr (kvs ++ [(n, v)])) :: rem id st.hp) ⟨[r] ++ T', .cons (.mpr hid ha k1 hst2 (by
        have hes' : es.toList.map (fun e => (e.key, e.val)) = kvs.map (fun p => (Value.int .i64 p.1, Value.int .i64 p.2)) := hes
        simp [PairsOf, hes'])) (r2.mono he hT'), hnd, fun b hb => by rw [hsz]; exact t3 b (r3.mem_iff.2 hb)⟩
    rw [hr.nx] at this; exact this

theorem ok_rangeO {id t kt et : Nat} {x : Operand} {it : TyI} {kvs : List (Int × Int)} (h : o.op = .range t x) (ht : TyOK P t it) (hd : it.td = .td (.map kt et)) (hx : st.ev x = .hm id) (hrow : row id st.hp = some (.mpr kvs)) :
    OpOK P st o (.hp st.nx 0) ⟨st.tm, (st.nx, .itr kvs none) :: rem id st.hp, st.nx + 1, st.nt⟩ := by
  refine ⟨rfl, fun S0 B w0 I a w hr => ?_⟩
  have g1 := hr.ev x
  rw [hx] at g1
  obtain ⟨r, ha, ex⟩ := g1.hm_inv
  obtain ⟨T, h1, h2, h3⟩ := hr.hp
  obtain ⟨F, T', r1, r2, r3⟩ := h1.take hrow
  obtain ⟨r', es, clock, rfl, hid, ha', m2, hst, hes⟩ := r1.mpr_inv
  rw [ha] at ha'; cases ha'
  have hrT := h3 r (r3.mem_iff.2 (by simp))
  let w1 : World := { w with heap := w.heap.push (.mapIter (some r) clock #[] clock) }
  have hold : ∀ b, b < w.heap.size → w1.heap[b]? = w.heap[b]? := fun b hb => heap_push _ _ _ hb
  have he : Ext I w (I.add (some (w.heap.size, 0)) 0 0) w1 := .add _ _ _ (fun b hb => hold b (hr.ss b hb)) (.push _ _)
  have hnx : I.nx = st.nx := hr.nx
  have hn : (I.add (some (w.heap.size, 0)) 0 0).nx = st.nx + 1 := by show I.nx + 1 = _; rw [hnx]
  have hat : (I.add (some (w.heap.size, 0)) 0 0).at_ st.nx = some (w.heap.size, 0) := by simp [Interp.add, hnx]
  have hb := ((MapKept.stamped_iff es clock).1 hst).1
  have hrow2 : RowOK (I.add (some (w.heap.size, 0)) 0 0) w1 st.nx (.itr kvs none) [w.heap.size, r] :=
    .itr (m := r) (since := clock) (seen := #[]) (c0 := clock) (by rw [hn]; omega) hat (by simp [w1]) ((hold r hrT.2.2).trans m2) hst hb ⟨Nat.le_refl _, Nat.le_refl _⟩ (by
      have e : (es.toList.filter fun e => !(#[] : Array Nat).contains e.born) = es.toList := List.filter_eq_self.2 fun _ _ => by simp
      rw [e]; exact hes) trivial
  refine ⟨.pointer (some ⟨w.heap.size, 0, none⟩), w1, I.add (some (w.heap.size, 0)) 0 0, ?_, ?_, ?_, fun _ b hb => hold b hb⟩
  · simp only [execOp, h, ex, Instr.range, Sem.run_bind, run_under (ht.mapE hd), Result.andThen_ok, MapKept.run_getObj_map m2, Sem.run_pure, run_newObj]
    rfl
  · have hnd : ([r] ++ T').Nodup := r3.nodup_iff.1 h2
    have := hr.next he (Below.push B w _ hr.bs) (fun b h => .inl h) (fun b h => by have := hr.ss b h; simp [w1]; omega)
      (hp := (st.nx, .itr kvs none) :: rem id st.hp) ⟨[w.heap.size, r] ++ T', .cons hrow2 (r2.mono he fun b hb => hold b (h3 b (r3.mem_iff.2 (List.mem_append_right _ hb))).2.2), ?_, ?_⟩
    · rw [hn] at this; exact this
    · refine List.nodup_cons.2 ⟨fun hm => ?_, hnd⟩
      have := (h3 _ (r3.mem_iff.2 hm)).2.2; omega
    · intro b hb
      rcases List.mem_cons.1 hb with rfl | hb
      · exact ⟨hr.bs, fun h => by have := hr.ss _ h; omega, by simp [w1]⟩
      · have := h3 b (r3.mem_iff.2 hb)
        exact ⟨this.1, this.2.1, by have := this.2.2; simp [w1]; omega⟩
  · have := Rep.hp (I := I.add (some (w.heap.size, 0)) 0 0) (w := w1) (id := st.nx) (off := 0) (by rw [hn]; omega) hat
    simpa using this

theorem ok_entryO {id : Nat} {x : Operand} {left : List (Int × Int)} {p : Int × Int} (h : o.op = .entry x) (hx : st.ev x = .hp id 0) (hrow : row id st.hp = some (.itr left (some p))) :
    OpOK P st o (.tup [.lit (.int .i64 p.1), .lit (.int .i64 p.2)]) st := by
  refine ⟨rfl, fun S0 B w0 I a w hr => ?_⟩
  have g1 := hr.ev x
  rw [hx] at g1
  obtain ⟨T, h1, h2, h3⟩ := hr.hp
  obtain ⟨F, T', r1, r2, r3⟩ := h1.take hrow
  obtain ⟨r, m, es, clock, since, seen, c0, rfl, hid, ha, m1, m2, hst, hb, hs, hl, e, hem, s, rfl, rfl, hk, hv⟩ := r1.itr_inv
  have ex : a.eval x = .pointer (some ⟨r, 0, none⟩) := by
    generalize a.eval x = y at g1
    cases g1 with
    | std g1 => cases g1
    | hp _ ha2 => rw [ha] at ha2; cases ha2; rfl
  have hrun := run_entry_at (P := P) w r m since s es c0 e m1 m2 hem ((MapKept.stamped_iff es c0).1 hst).2.1
  refine ⟨.tuple #[e.key, e.val], w, I, ?_, hr, ?_, fun _ => Same.refl w⟩
  · simp only [execOp, h, ex, Sem.run_bind, hrun, Result.andThen_ok, Sem.run_pure]
  · rw [hk, hv]
    exact .tup (.cons (.std (.lit _)) (.cons (.std (.lit _)) .nil))

theorem ok_sub0 {id t e sz : Nat} {x z : Operand} {it ie : TyI} {xs : List (List AV)} {m : Int} (h : o.op = .slice t x none (some z) none) (ht : TyOK P t it) (hd : it.td = .td (.slice e)) (he : TyOK P e ie)
    (hx : st.ev x = .hw id) (hrow : row id st.hp = some (.row sz xs)) (hz : st.ev z = .lit (.int .i64 m)) (h0 : 0 ≤ m) (h1 : m ≤ xs.length) : OpOK P st o (.hw st.nx) ⟨st.tm, (st.nx, .row sz (xs.take m.toNat)) :: rem id st.hp, st.nx + 1, st.nt⟩ := by
  refine ⟨rfl, fun S0 B w0 I a w hr => ?_⟩
  have g1 := hr.ev x
  have g2 := hr.ev z
  rw [hx] at g1
  rw [hz] at g2
  obtain ⟨m, rfl⟩ : ∃ n : Nat, m = n := ⟨m.toNat, by omega⟩
  rw [Int.toNat_natCast]
  obtain ⟨T, t1, t2, t3⟩ := hr.hp
  obtain ⟨F, T', r1, r2, r3⟩ := t1.take hrow
  generalize ex : a.eval x = y at g1
  have hrun : ∀ ad n cap, y = .slice ad n cap → m ≤ cap → (execOp a.eval o).run P w = .ok (.value (.slice (if cap = 0 then ad else ad.map (·.add (0 * ie.size))) (m - 0) (cap - 0))) w := fun ad n cap hy hm => by
    subst hy
    have hb : (Instr.sliceBounds true n cap none (some (a.eval z)) none).run P w = .ok (0, m, cap) w := by
      have : (0 : Int) ≤ m ∧ (m : Int) ≤ cap := by omega
      simp [Instr.sliceBounds, Instr.sliceBound, asIntOf, g2.lit_inv]; omega
    simp only [execOp, h, ex, Option.map_none, Option.map_some, Instr.sliceAt, Instr.slice, Sem.run_bind, run_under (ht.sliceE hd), Result.andThen_ok, hb, run_size he, Sem.run_pure]
  have hnx : I.nx = st.nx := hr.nx
  have hnd : (F ++ T').Nodup := r3.nodup_iff.1 t2
  cases g1 with
  | std g1 => cases g1
  | @hw0 _ ad hi ha hl0 _ =>
    cases r1 with
    | row _ ha2 => rw [ha] at ha2; cases ha2
    | row0 _ _ _ hsz =>
      obtain rfl : m = 0 := by simp at h1; omega
      have hn : (I.add none 0 sz).nx = st.nx + 1 := by show I.nx + 1 = _; rw [hnx]
      have hat : (I.add none 0 sz).at_ st.nx = none := by simp [Interp.add, hnx]
      have hln : (I.add none 0 sz).ln st.nx = 0 := by simp [Interp.add, hnx]
      have hszz : (I.add none 0 sz).sz st.nx = sz := by simp [Interp.add, hnx]
      have he2 : Ext I w (I.add none 0 sz) w := .add _ _ _ (fun _ _ => rfl) (.refl w)
      have hrn := hrun ad 0 0 rfl (Nat.le_refl _)
      refine ⟨_, w, I.add none 0 sz, hrn, ?_, ?_, fun _ => Same.refl w⟩
      · have := hr.next he2 (Below.refl B w) (fun b h => .inl h) (fun b h => hr.ss b h) (hp := (st.nx, .row sz ([].take 0)) :: rem id st.hp)
          ⟨[] ++ T', .cons (.row0 (by rw [hn]; omega) hat hln hszz) (r2.mono he2 fun _ _ => rfl), by simpa using hnd, fun b hb => t3 b (r3.mem_iff.2 (by simpa using hb))⟩
        rw [hn] at this; exact this
      · exact .hw0 (by rw [hn]; omega) hat hln trivial
  | @hw _ cap c b of hi ha hn0 hb0 hs0 =>
    cases r1 with
    | row0 _ ha2 => rw [ha] at ha2; cases ha2
    | row _ ha2 hl2 hsz2 hb2 hs2 hx2 hv2 =>
      rw [ha] at ha2; cases ha2
      have hmc : m ≤ cap := by rw [hl2] at hn0; omega
      have hn : (I.add (some (b, of)) m sz).nx = st.nx + 1 := by show I.nx + 1 = _; rw [hnx]
      have hat : (I.add (some (b, of)) m sz).at_ st.nx = some (b, of) := by simp [Interp.add, hnx]
      have hln : (I.add (some (b, of)) m sz).ln st.nx = m := by simp [Interp.add, hnx]
      have hszz : (I.add (some (b, of)) m sz).sz st.nx = sz := by simp [Interp.add, hnx]
      have he2 : Ext I w (I.add (some (b, of)) m sz) w := .add _ _ _ (fun _ _ => rfl) (.refl w)
      have hml : (xs.take m).length = m := by rw [List.length_take]; omega
      have hle : m * sz ≤ xs.length * sz := Nat.mul_le_mul_right _ (by omega)
      have hfl : xs.flatten = (xs.take m).flatten ++ (xs.drop m).flatten := by rw [← List.flatten_append, List.take_append_drop]
      rw [hfl] at hv2
      obtain ⟨F1, F3, rfl, hv3⟩ := hv2.c_take
      have hsub : List.Sublist ((b :: F1) ++ T') ((b :: (F1 ++ F3)) ++ T') := (List.Sublist.cons_cons b (List.sublist_append_left F1 F3)).append (List.Sublist.refl _)
      have hrn := hrun (some ⟨b, of, none⟩) (I.ln id) cap rfl hmc
      rw [show (if cap = 0 then (some ⟨b, of, none⟩ : Option Addr) else (some (⟨b, of, none⟩ : Addr)).map (·.add (0 * ie.size))) = some ⟨b, of, none⟩ by
        split
        · rfl
        · rw [Option.map_some, addr_add]; simp] at hrn
      refine ⟨_, w, I.add (some (b, of)) m sz, hrn, ?_, ?_, fun _ => Same.refl w⟩
      · have := hr.next he2 (Below.refl B w) (fun b h => .inl h) (fun b h => hr.ss b h) (hp := (st.nx, .row sz (xs.take m)) :: rem id st.hp)
          ⟨(b :: F1) ++ T', .cons (.row (by rw [hn]; omega) hat (by rw [hln, hml]) hszz hb2 (by rw [hml]; omega) (fun x hx => hx2 x (List.mem_of_mem_take hx)) (hv3.mono (fun _ h => h) (fun _ _ => rfl) (fun _ _ => rfl) (fun _ _ _ _ => rfl))) (r2.mono he2 fun _ _ => rfl), hnd.sublist hsub, fun b hb => t3 b (r3.mem_iff.2 (hsub.subset hb))⟩
        rw [hn] at this; exact this
      · have := Rep.hw (I := I.add (some (b, of)) m sz) (w := w) (id := st.nx) (cap := cap) (c := c) (b := b) (o := of) (by rw [hn]; omega) hat (by rw [hln]; exact hmc) hb0 (by rw [hszz]; rw [hsz2] at hs0; exact hs0)
        rw [hln] at this
        exact this

/-- A step of a loop over a map: any that is left is next. -/
theorem run_nextO {d id t0 : Nat} {pos : String} {af : Array Edge} {x : Operand} {left : List (Int × Int)} {cur : Option (Int × Int)} (ho : A[i]? = some ⟨some d, .next x false, t0, pos, af, none⟩) (hd : Nat.blt d st.nt = true) (hx : st.ev x = .hp id 0) (hrow : row id st.hp = some (.itr left cur))
    (h0 : left = [] → Run P f Q (.inRegion A rest :: k) (st.set d (.tup [.lit (.bool false)])))
    (h1 : ∀ (j : Nat) (p : Int × Int), left[j]? = some p → Run P f Q (.inRegion A rest :: k) ((⟨st.tm, (id, .itr (left.eraseIdx j) (some p)) :: rem id st.hp, st.nx, st.nt⟩ : St).set d (.tup [.lit (.bool true), .lit (.int .i64 p.1), .lit (.int .i64 p.2)]))) :
    Run P f Q (.inRegion A (i :: rest) :: k) st := by
  intro S0 B w0 I a w hlo hr hds b hb hk hro cs
  have g1 := hr.ev x
  rw [hx] at g1
  obtain ⟨T, t1, t2, t3⟩ := hr.hp
  obtain ⟨F, T', r1, r2, r3⟩ := t1.take hrow
  obtain ⟨r, m, es, clock, since, seen, c0, rfl, hid, ha, m1, m2, hst, hbn, hs, hl, hc⟩ := r1.itr_inv
  have ex : a.eval x = .pointer (some ⟨r, 0, none⟩) := by
    generalize a.eval x = y at g1
    cases g1 with
    | std g1 => cases g1
    | hp _ ha2 => rw [ha] at ha2; cases ha2; rfl
  have hleft : (leftOf es seen).toList = es.toList.filter fun e => !seen.contains e.born := by simp [leftOf]
  rcases run_next_at (P := P) w t0 r m since c0 seen es clock m1 m2 hbn hs.1 with ⟨hz, hrun⟩ | ⟨e, hem, w1, hal, hrun⟩
  · have hnil : left = [] := by
      have h2 : (leftOf es seen).toList = [] := List.eq_nil_of_length_eq_zero (by simpa using hz)
      rw [← hleft, h2] at hl
      cases left with
      | nil => rfl
      | cons p l => simp [PairsOf] at hl
    have hrun2 : (execOp a.eval ⟨some d, .next x false, t0, pos, af, none⟩).run P w = .ok (.value (.tuple #[.bool false])) w := by
      simp only [execOp, ex, Sem.run_bind, hrun, Result.andThen_ok, Sem.run_pure]
    have hr2 : Rel S0 B w0 I (st.set d (.tup [.lit (.bool false)])) (a.put (some d) (.tuple #[.bool false])) w := hr.put hd (.tup (.cons (.std (.lit _)) .nil))
    obtain ⟨e, w2, k1, k2⟩ := h0 hnil S0 B w0 I _ w hlo hr2 hds b hb hk hro cs
    exact ⟨e, w2, k1, k2.of_steps (.one (step_op_value ho rfl hrun2))⟩
  · obtain ⟨j, hj⟩ := List.mem_iff_getElem?.1 (hleft ▸ hem)
    have hl' : (es.toList.filter fun e => !seen.contains e.born).map (fun e => (e.key, e.val)) = left.map (fun p => (Value.int .i64 p.1, Value.int .i64 p.2)) := hl
    obtain ⟨p, hp, hke, hve⟩ : ∃ p, left[j]? = some p ∧ e.key = .int .i64 p.1 ∧ e.val = .int .i64 p.2 := by
      have h2 := congrArg (fun l => l[j]?) hl'
      simp only [List.getElem?_map, hj, Option.map_some] at h2
      cases hp : left[j]? with
      | none => rw [hp] at h2; cases h2
      | some p => rw [hp] at h2; simp only [Option.map_some, Option.some.injEq, Prod.mk.injEq] at h2; exact ⟨p, rfl, h2.1, h2.2⟩
    have hw1 : ∀ z : Nat, w1.heap[z]? = w.heap[z]? := fun z => by rcases hal with rfl | rfl <;> rfl
    have hw1s : w1.heap.size = w.heap.size := by rcases hal with rfl | rfl <;> rfl
    let w3 := ChangeMaps.setBlock w1 r (.mapIter (some m) since (seen.push e.born) clock)
    have hlt := t3 r (r3.mem_iff.2 (by simp))
    have h3r : w3.heap[r]? = some (.mapIter (some m) since (seen.push e.born) clock) := by
      show (w1.heap.setIfInBounds r _)[r]? = _
      rw [Array.getElem?_setIfInBounds]; simp [hw1s, hlt.2.2]
    have h3o : ∀ z, z ≠ r → w3.heap[z]? = w.heap[z]? := fun z hz => by
      show (w1.heap.setIfInBounds r _)[z]? = _
      rw [Array.getElem?_setIfInBounds, if_neg (Ne.symm hz)]; exact hw1 z
    have h3s : w3.heap.size = w.heap.size := by show (w1.heap.setIfInBounds r _).size = _; simp [hw1s]
    have hnd : ([r, m] ++ T').Nodup := r3.nodup_iff.1 t2
    have hmr : m ≠ r := fun e => by subst e; exact (List.nodup_cons.1 hnd).1 (by simp)
    have hT' : ∀ b ∈ T', w3.heap[b]? = w.heap[b]? := fun b hb => h3o b fun e => by subst e; exact (List.nodup_cons.1 hnd).1 (by simp [hb])
    have he : Ext I w I w3 := ⟨fun _ h => h, fun z hz => h3o z fun e => hlt.2.1 (e ▸ hz), Nat.le_refl _, fun _ _ => rfl, fun _ _ => rfl, fun _ _ => rfl, fun z c hz => by
      obtain ⟨t, hc⟩ := hz
      exact ⟨c, ⟨t, (h3o z fun e => by rw [e, m1] at hc; cases hc).trans hc⟩, rfl⟩⟩
    have hbe : Below B w w3 := by
      rcases hal with rfl | rfl
      · exact ⟨rfl, rfl, rfl, by rw [h3s]; exact Nat.le_refl _, fun z hz => h3o z (by have := hlt.1; omega)⟩
      · exact ⟨rfl, rfl, rfl, by rw [h3s]; exact Nat.le_refl _, fun z hz => h3o z (by have := hlt.1; omega)⟩
    have hleft2 : PairsOf (es.toList.filter fun x => !(seen.push e.born).contains x.born) (left.eraseIdx j) := by
      have e1 : (es.toList.filter fun x => !(seen.push e.born).contains x.born) = (es.toList.filter fun x => !seen.contains x.born).filter fun x => !(x.born == e.born) := by
        rw [List.filter_filter]
        congr 1
        funext x
        by_cases hxb : x.born = e.born
        · simp [Array.contains_push, hxb]
        · simp [Array.contains_push, hxb]
      have hnb : ((es.toList.filter fun e => !seen.contains e.born).map (·.born)).Nodup :=
        (((MapKept.stamped_iff es clock).1 hst).2.1).sublist (List.Sublist.map _ List.filter_sublist)
      show List.map _ _ = List.map _ _
      rw [e1, filt_erase _ j e hj hnb, map_erase, map_erase, hl']
    have hem2 : e ∈ es.toList := (List.mem_filter.1 (hleft ▸ hem)).1
    have hrun2 : (execOp a.eval ⟨some d, .next x false, t0, pos, af, none⟩).run P w = .ok (.value (.tuple #[.bool true, e.key, e.val])) w3 := by
      simp only [execOp, ex, Sem.run_bind, hrun, Result.andThen_ok, Sem.run_pure]
      rfl
    have hr1 := hr.next he hbe (fun _ h => .inl h) (fun z hz => by rw [h3s]; exact hr.ss z hz) (hp := (id, .itr (left.eraseIdx j) (some p)) :: rem id st.hp)
      ⟨[r, m] ++ T', .cons (.itr hid ha h3r ((h3o m hmr).trans m2) hst hbn ⟨hs.2, hs.2⟩ hleft2 ⟨e, hem2, seen, rfl, rfl, hke, hve⟩) (r2.mono he hT'), hnd, fun b hb => by rw [h3s]; exact t3 b (r3.mem_iff.2 hb)⟩
    rw [hr.nx] at hr1
    have hr2 := hr1.put (d := d) (v := .tup [.lit (.bool true), .lit (.int .i64 p.1), .lit (.int .i64 p.2)]) (x := .tuple #[.bool true, e.key, e.val]) hd (by rw [hke, hve]; exact .tup (.cons (.std (.lit _)) (.cons (.std (.lit _)) (.cons (.std (.lit _)) .nil))))
    obtain ⟨e, w2, k1, k2⟩ := h1 j p hp S0 B w0 I _ w3 hlo hr2 hds b hb hk hro cs
    exact ⟨e, w2, k1, k2.of_steps (.one (step_op_value ho rfl hrun2))⟩
end
end Go.Ax

/- A call that sorts one's own list of numbers in place. -/
namespace Go.Ax
open Go.RowKit Go.Sort
set_option linter.unusedVariables false
set_option linter.unusedSimpArgs false

def intsL (l : List Int) : List (List AV) := l.map fun n => [AV.lit (.int .i64 n)]
theorem own_ints {S : Nat → Prop} {w : World} {b : Nat} : ∀ {l : List Int} {o : Nat} {F : List Nat}, Own S w (.c b o (intsL l).flatten) F → F = [] ∧ ∀ j, (h : j < l.length) → w.cell? ⟨b, o + j, none⟩ = some (.int .i64 l[j])
  | [], o, F, h => by
    cases h
    exact ⟨rfl, fun j hj => absurd hj (Nat.not_lt_zero _)⟩
  | n :: l, o, F, h => by
    replace h : Own S w (.c b o (AV.lit (.int .i64 n) :: (intsL l).flatten)) F := h
    cases h with
    | ccons hc hv hr =>
      obtain ⟨rfl, h2⟩ := own_ints hr
      cases hv with
      | std hv =>
        obtain rfl := hv.lit_inv
        refine ⟨rfl, fun j hj => ?_⟩
        match j with
        | 0 => exact hc
        | j + 1 =>
          have := h2 j (by simpa using hj)
          rw [show o + (j + 1) = o + 1 + j by omega]
          exact this
theorem ints_own {S : Nat → Prop} {w : World} {b : Nat} : ∀ {l : List Int} {o : Nat}, (∀ j, (h : j < l.length) → w.cell? ⟨b, o + j, none⟩ = some (.int .i64 l[j])) → Own S w (.c b o (intsL l).flatten) []
  | [], o, h => .cnil
  | n :: l, o, h => by
    have h1 := h 0 (by simp)
    have h2 := ints_own (S := S) (w := w) (b := b) (l := l) (o := o + 1) fun j hj => by
      have := h (j + 1) (by simpa using hj)
      rw [show o + 1 + j = o + (j + 1) by omega]
      exact this
    exact Own.ccons (F := []) (G := []) h1 (.std (.lit _)) h2

/-- What a function that sorts numbers in place does. -/
structure Sorts (P : Program) (g : Nat) : Prop where
  has : HasF P g
  full : ∀ (blk off cap : Nat) (zs : List Int) (w : World), Holds (Value.int .i64) w blk off zs.toArray → blk < w.heap.size → zs.length < 4611686018427387904 →
    Calls P g #[.slice (some ⟨blk, off, none⟩) zs.length cap] w fun e w' => e = .returned (.tuple #[]) ∧ ∃ n os, w' = grow (putRow (Value.int .i64) (Sort.ahead w n) blk off (zs.mergeSort fun x y => decide (x ≤ y)).toArray) os
  none : ∀ (p : Option Addr) (cap : Nat) (w : World), Calls P g #[.slice p 0 cap] w fun e w' => e = .returned (.tuple #[]) ∧ w' = w

/-- The world behind the sort. -/
theorem sorted_heap {w : World} {n blk off : Nat} {d : Array Int} {os : Array Obj} {c : Array Value} (hb : Blk w blk c) :
    (∀ z, z ≠ blk → z < w.heap.size → (grow (putRow (Value.int .i64) (Sort.ahead w n) blk off d) os).heap[z]? = w.heap[z]?) ∧ Blk (grow (putRow (Value.int .i64) (Sort.ahead w n) blk off d) os) blk (putCells (Value.int .i64) off d c) := by
  have hh : ∀ z, z < w.heap.size → (grow (putRow (Value.int .i64) (Sort.ahead w n) blk off d) os).heap[z]? = (w.heap.modify blk (onCells (putCells (Value.int .i64) off d)))[z]? := fun z hz => by
    show ((w.heap.modify blk (onCells (putCells (Value.int .i64) off d))) ++ os)[z]? = _
    rw [Array.getElem?_append_left (by rw [Array.size_modify]; exact hz)]
  refine ⟨fun z hz hzl => ?_, ?_⟩
  · rw [hh z hzl, Array.getElem?_modify, if_neg (fun e => hz e.symm)]
  · have hlt := hb.lt
    obtain ⟨e, he⟩ := hb
    refine ⟨e, ?_⟩
    rw [hh blk hlt, Array.getElem?_modify, if_pos rfl, he]
    rfl

section
variable {P : Program} {f : Nat} {Q : Post} {k : List Item} {st : St} {A : Array Oper} {i : Nat} {rest : List Nat}
theorem run_sort {d t g : Nat} {pos : String} {af : Array Edge} {gd : Option (Nat × Bool)} {x : Operand} {ts : Array Nat} {zs : List Int} (id : Nat)
    (ho : A[i]? = some ⟨some d, .call { callee := .value (.func g), args := #[x], argTypes := ts }, t, pos, af, gd⟩) (hw : Want A st gd) (hd : Nat.blt d st.nt = true) (hx : st.ev x = .hw id) (hrow : row id st.hp = some (.row 1 (intsL zs)))
    (hl : zs.length ≤ 1000000000) (hs : Sorts P g)
    (h : Run P f Q (.inRegion A rest :: k) ⟨(d, .tup []) :: st.tm, (id, .row 1 (intsL (zs.mergeSort fun x y => decide (x ≤ y)))) :: rem id st.hp, st.nx, st.nt⟩) : Run P f Q (.inRegion A (i :: rest) :: k) st := by
  intro S0 B w0 I a w hlo hr hds b hbf hk hro cs
  have h1 := hr.ev x
  rw [hx] at h1
  obtain ⟨hid, h2⟩ := h1.hw_inv
  obtain ⟨T, t1, t2, t3⟩ := hr.hp
  obtain ⟨F, T', g1, g2, g3⟩ := t1.take hrow
  have key : ∃ R : Ending → World → Prop, Calls P g #[a.eval x] w R ∧ ∀ e w', R e w' → e = .returned (.tuple #[]) ∧ Rel S0 B w0 I ⟨st.tm, (id, .row 1 (intsL (zs.mergeSort fun x y => decide (x ≤ y)))) :: rem id st.hp, st.nx, st.nt⟩ a w' := by
    generalize hxs : intsL zs = xs at g1
    cases g1 with
    | row0 hi ha h0 hz =>
      have hz0 : zs = [] := by cases zs with | nil => rfl | cons a l => cases hxs
      subst hz0
      rcases h2 with ⟨ha2, hln, p, he⟩ | ⟨b', o', cap, c, ha2, _⟩
      · refine ⟨_, by rw [he]; exact hs.none p 0 w, ?_⟩
        rintro e w' ⟨rfl, rfl⟩
        refine ⟨rfl, { hr with hp := ⟨[] ++ T', .cons ?_ g2, g3.nodup_iff.1 t2, fun z hz => t3 z (g3.mem_iff.2 hz)⟩ }⟩
        have : (([] : List Int).mergeSort fun x y => decide (x ≤ y)) = [] := by simp
        rw [this]
        exact .row0 hi ha h0 hz
      · rw [ha] at ha2; cases ha2
    | row hi ha hln hz hb hsz hxl hown =>
      rename_i b1 o1 c1 F1
      subst hxs
      obtain ⟨rfl, hcell⟩ := own_ints hown
      have hlen : (intsL zs).length = zs.length := by unfold intsL; simp
      rcases h2 with ⟨ha2, _⟩ | ⟨b', o', cap, c, ha2, hcap, hb2, hcs, he⟩
      · rw [ha] at ha2; cases ha2
      · rw [ha] at ha2
        cases ha2
        rw [hln, hlen] at he
        have hH : Holds (Value.int .i64) w b1 o1 zs.toArray := fun j hj => by
          have hj' : j < zs.length := by simpa using hj
          refine ⟨?_, hb.frozen _⟩
          rw [hcell j hj', getElem!_pos _ j (by simpa using hj')]
          simp
        have hbB := t3 b1 (g3.mem_iff.2 (by simp))
        refine ⟨_, by rw [he]; exact hs.full b1 o1 cap zs w hH hb.lt (by omega), ?_⟩
        rintro e w' ⟨rfl, n, os, rfl⟩
        refine ⟨rfl, ?_⟩
        obtain ⟨k1, k2⟩ := sorted_heap (n := n) (off := o1) (d := (zs.mergeSort fun x y => decide (x ≤ y)).toArray) (os := os) hb
        generalize hw' : grow (putRow (Value.int .i64) (Sort.ahead w n) b1 o1 (zs.mergeSort fun x y => decide (x ≤ y)).toArray) os = w' at *
        have hsize : w.heap.size ≤ w'.heap.size := by rw [← hw']; simp
        have hos : w'.os = w.os := by rw [← hw']; rfl
        have htape : w'.tape = w.tape := by rw [← hw']; rfl
        have hout : w'.output = w.output := by rw [← hw']; rfl
        have hlast : Lasts w w' := fun z c hz => by
          by_cases e : z = b1
          · subst e
            obtain ⟨e1, he1⟩ := hz
            obtain ⟨e2, he2⟩ := hb
            rw [he1] at he2
            cases he2
            exact ⟨_, k2, by unfold putCells; rw [Array.size_mapIdx]⟩
          · have hzl := hz.lt
            obtain ⟨e1, he1⟩ := hz
            exact ⟨c, ⟨e1, (k1 z e hzl).trans he1⟩, rfl⟩
        have hext : Ext I w I w' := ⟨fun _ h => h, fun z hz => k1 z (fun e => hbB.2.1 (e ▸ hz)) (hr.ss z hz), Nat.le_refl _, fun _ _ => rfl, fun _ _ => rfl, fun _ _ => rfl, hlast⟩
        have hbel : Below B w w' := ⟨hos, htape, hout, hsize, fun z hz => k1 z (by omega) (Nat.lt_of_lt_of_le hz hr.bs)⟩
        have hlen2 : (zs.mergeSort fun x y => decide (x ≤ y)).length = zs.length := List.length_mergeSort _
        have hsz1 : o1 + zs.length * 1 ≤ c1.size := by rw [← hlen]; exact hsz
        have hown2 : Own I.S w' (.c b1 o1 (intsL (zs.mergeSort fun x y => decide (x ≤ y))).flatten) [] := ints_own fun j hj => by
          rw [k2.cell]
          unfold putCells
          rw [Array.getElem?_mapIdx]
          have hjc : o1 + j < c1.size := by omega
          rw [Array.getElem?_eq_getElem hjc]
          simp only [Option.map_some]
          rw [if_pos ⟨by omega, by simp; omega⟩]
          congr 2
          rw [show o1 + j - o1 = j by omega, getElem!_pos _ j (by simpa using hj)]
          simp
        have hT' : ∀ z ∈ T', w'.heap[z]? = w.heap[z]? := fun z hz => by
          refine k1 z (fun e => ?_) (t3 z (g3.mem_iff.2 (by simp [hz]))).2.2
          subst e
          have hnd := g3.nodup_iff.1 t2
          simp at hnd
          exact hnd.1 hz
        have hrowok : RowOK I w' id (.row 1 (intsL (zs.mergeSort fun x y => decide (x ≤ y)))) [b1] :=
          .row hi ha (by unfold intsL; rw [List.length_map, hlen2, hln, hlen]) hz k2 (by unfold intsL putCells; rw [List.length_map, hlen2, Array.size_mapIdx]; exact hsz1) (fun x hx => by unfold intsL at hx; obtain ⟨n, _, rfl⟩ := List.mem_map.1 hx; rfl) hown2
        have := hr.next hext hbel (fun b h => .inl h) (fun z hz => Nat.lt_of_lt_of_le (hr.ss z hz) hsize) (hp := (id, .row 1 (intsL (zs.mergeSort fun x y => decide (x ≤ y)))) :: rem id st.hp)
          ⟨[b1] ++ T', .cons hrowok (g2.mono hext hT'), g3.nodup_iff.1 t2, fun z hz => by
            have := t3 z (g3.mem_iff.2 hz)
            exact ⟨this.1, this.2.1, Nat.lt_of_lt_of_le this.2.2 hsize⟩⟩
        rw [hr.nx] at this; exact this
  obtain ⟨R, hcalls, hR⟩ := key
  obtain ⟨e, w2, fr, hre, hcomes, _, hleave⟩ := hcalls (b.atR a (.inRegion A (i :: rest) :: k) :: cs)
  obtain ⟨rfl, hr'⟩ := hR e w2 hre
  obtain ⟨fn, c, hg, hb, hn⟩ := hs.has
  have hxc := exec_call (P := P) (a := a) (w := w) (dst := some d) (t := t) (pos := pos) (af := af) (gd := gd) (xs := #[x]) (ts := ts) (x := .func g) (cs := []) rfl hg hb hn
  have hargs : (#[x].toList.map a.eval ++ []).toArray = #[a.eval x] := rfl
  rw [hargs] at hxc
  have hst := enter_back ho (hr.wanted hw) hxc hcomes hleave (R := fun _ _ => True)
  have hrel := hr'.put (d := d) (by exact hd) (v := .tup []) (.std (.tup (.nil)))
  obtain ⟨e3, w3, q1, q2⟩ := h S0 B w0 I _ w2 hlo hrel hds b hbf hk hro cs
  exact ⟨e3, w3, q1, q2.of_steps hst⟩
end
theorem Std.c_own2 {S : Nat → Prop} {w : World} {b : Nat} : ∀ {as : List AV} {o : Nat}, Std S w (.c b o as) → Own S w (.c b o as) []
  | [], _, _ => .cnil
  | a :: as, o, h => by
    cases h with
    | ccons h1 h2 h3 => exact Own.ccons (F := []) (G := []) h1 (.std h2) (Std.c_own2 h3)
/-- All that hangs on an own row's elements stays from now on; the row is one's own still. -/
theorem run_frzIn {P : Program} {f : Nat} {Q : Post} {todo : List Item} {tm : List (Nat × AV)} {hp : List (Nat × Row)} {nx nt : Nat} (id : Nat) {sz : Nat} {xs xs' : List (List AV)} (hrow : row id hp = some (.row sz xs)) (hz : AV.fzLL xs = xs')
    (h : Run P f Q todo ⟨tm, (id, .row sz xs') :: rem id hp, nx, nt⟩) : Run P f Q todo ⟨tm, hp, nx, nt⟩ := by
  subst hz
  intro S0 B w0 I a w hlo hr
  obtain ⟨T, t1, t2, t3⟩ := hr.hp
  obtain ⟨F, T', g1, g2, g3⟩ := t1.take hrow
  cases g1 with
  | row0 hi ha h0 hz =>
    exact h S0 B w0 I a w hlo { hr with hp := ⟨[] ++ T', .cons (.row0 hi ha h0 hz) g2, g3.nodup_iff.1 t2, fun z hz => t3 z (g3.mem_iff.2 hz)⟩ }
  | row hi ha hln hz hb hs hx ho =>
    rename_i b o c F
    have he : Ext I w { I with S := fun z => I.S z ∨ z ∈ F } w := ⟨fun _ h => .inl h, fun _ _ => rfl, Nat.le_refl _, fun _ _ => rfl, fun _ _ => rfl, fun _ _ => rfl, .refl w⟩
    have hnd := g3.nodup_iff.1 t2
    have hFT : ∀ z ∈ F, z ∈ T := fun z hz => g3.mem_iff.2 (by simp [hz])
    have hown := Std.c_own2 ho.freeze
    rw [show AV.fzL xs.flatten = (AV.fzLL xs).flatten from (AV.fzLL_flat xs).symm] at hown
    have hrowok : RowOK { I with S := fun z => I.S z ∨ z ∈ F } w id (.row sz (AV.fzLL xs)) [b] :=
      .row hi ha (by rw [AV.fzLL_len]; exact hln) hz hb (by rw [AV.fzLL_len]; exact hs) (AV.fzLL_mem hx) hown
    have := hr.next he (Below.refl B w) (fun z hz => hz.imp (fun h => h) fun h => (t3 z (hFT z h)).1) (fun z hz => hz.elim (hr.ss z) fun h => (t3 z (hFT z h)).2.2) (hp := (id, .row sz (AV.fzLL xs)) :: rem id hp)
      ⟨[b] ++ T', .cons hrowok (g2.mono he fun _ _ => rfl), by
        refine List.nodup_iff_count.2 fun z => ?_
        have := List.nodup_iff_count.1 hnd z
        simp only [List.count_append, List.count_cons] at this ⊢
        simp only [List.count_nil] at *
        omega, fun z hz => by
        have hz2 : z = b ∨ z ∈ T' := by simpa using hz
        have h1 := t3 z (g3.mem_iff.2 (by rcases hz2 with h | h <;> simp [h]))
        refine ⟨h1.1, fun hh => hh.elim h1.2.1 fun hF => ?_, h1.2.2⟩
        have hc := List.nodup_iff_count.1 hnd z
        have hm : 0 < F.count z := List.count_pos_iff.2 hF
        simp only [List.count_append, List.count_cons] at hc
        rcases hz2 with h | h
        · subst h; simp at hc; omega
        · have : 0 < T'.count z := List.count_pos_iff.2 h
          omega⟩
    rw [show ({ I with S := fun z => I.S z ∨ z ∈ F } : Interp).nx = nx from hr.nx] at this
    exact h S0 B w0 _ a w hlo this
end Go.Ax
