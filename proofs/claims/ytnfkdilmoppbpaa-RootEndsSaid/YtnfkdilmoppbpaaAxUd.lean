/- Results that are pointers; calls that look at one's own; calls with the heap; what is one's own no more. -/
import Derived.Test.YtnfkdilmoppbpaaAxUc
namespace Go.Ax
open Go.RowKit
set_option linter.unusedVariables false
set_option linter.unusedSimpArgs false

theorem foldLv_ok {I : Interp} {w : World} {as : List AV} {xs : List Value} {F : List Nat} (h : Leaves I w as xs F) : ∀ {hp : List (Nat × Row)} {T : List Nat}, HeapOK I w hp T →
    ∃ G T', Leaves I w (foldL hp as).1 xs G ∧ HeapOK I w (foldL hp as).2 T' ∧ (F ++ T).Perm (G ++ T') := by
  induction h with
  | nil => intro hp T h; exact ⟨[], T, .nil, h, List.Perm.refl _⟩
  | @cons a x as xs F1 G1 hl _ ih =>
    intro hp T h
    rcases hl with ⟨hr, rfl⟩ | ho
    · obtain ⟨F2, T1, g1, g2, g3⟩ := fold1_ok h hr
      obtain ⟨G, T2, k1, k2, k3⟩ := ih g2
      refine ⟨F2 ++ G, T2, .cons g1 k1, k2, List.perm_iff_count.2 fun z => ?_⟩
      have e1 := List.perm_iff_count.1 g3 z
      have e2 := List.perm_iff_count.1 k3 z
      simp only [List.count_append, List.count_nil] at e1 e2 ⊢
      omega
    · have e : fold1 hp a = (a, hp) := by
        cases a with
        | hw id => cases ho with | std ho => cases ho
        | _ => rfl
      obtain ⟨G, T2, k1, k2, k3⟩ := ih h
      refine ⟨F1 ++ G, T2, ?_, ?_, List.perm_iff_count.2 fun z => ?_⟩
      · simp only [foldL, e]; exact .cons (.inr ho) k1
      · simp only [foldL, e]; exact k2
      · have e2 := List.perm_iff_count.1 k3 z
        simp only [List.count_append] at e2 ⊢
        omega

section
variable {P : Program} {st : St} {hp : List (Nat × Row)}

theorem res_ptr {d id : Nat} {cs rs : List AV} {hp' : List (Nat × Row)} (hv : get d st.tm = .hp id 0) (hrow : row id hp = some (.var cs)) (hf : foldL (rem id hp) cs = (rs, hp')) (hc : rs.all AV.closed = true) : Res P st hp (.tmp d) (.opt rs) hp' := by
  intro I w tmps T hr hh _
  have h1 := hr d
  rw [hv] at h1
  obtain ⟨b, of, hi, hat, e⟩ := h1.hp_inv
  obtain ⟨F, T', g1, g2, g3⟩ := hh.take hrow
  obtain ⟨c, G, _, hb, hs, hvc, rfl⟩ := g1.var_inv hat
  obtain ⟨xs, l1, l2, l3⟩ := hvc.leaves
  obtain ⟨G2, T2, k1, k2, k3⟩ := foldLv_ok l1 g2
  rw [hf] at k1 k2
  have hlen : rs.length = cs.length := by rw [k1.length, l3]
  refine ⟨_, b :: G2, T2, [], rfl, ?_, k2, ?_⟩
  · rw [e]
    exact .opt hb (by rw [hlen]; exact hs) ((k1.varC l2).own hc)
  · refine g3.trans (List.perm_iff_count.2 fun z => ?_)
    have := List.perm_iff_count.1 k3 z
    simp only [List.count_append, List.count_cons, List.count_nil] at this ⊢
    omega
end

/-- What hangs on nothing that stays. -/
def AV.Free (r : AV) : Prop := ∀ S S' w x F, Own S w (.v r x) F → Own S' w (.v r x) F

theorem Free.lit (v : Value) : AV.Free (.lit v) := fun S S' w x F h => by
  cases h with | std h => rw [h.lit_inv]; exact .std (.lit _)
theorem Free.l {cs : List AV} (h : ∀ a ∈ cs, a.Free) : ∀ {S S' : Nat → Prop} {w : World} {xs : List Value} {F : List Nat}, Own S w (.l cs xs) F → Own S' w (.l cs xs) F := by
  induction cs with
  | nil => intro S S' w xs F ho; cases ho; exact .nil
  | cons a as ih =>
    intro S S' w xs F ho
    cases ho with
    | cons h1 h2 => exact .cons (h a (List.mem_cons_self ..) _ _ _ _ _ h1) (ih (fun b hb => h b (List.mem_cons_of_mem _ hb)) h2)
theorem Free.c {cs : List AV} (h : ∀ a ∈ cs, a.Free) {S S' : Nat → Prop} {w : World} {b o : Nat} {F : List Nat} (ho : Own S w (.c b o cs) F) : Own S' w (.c b o cs) F := by
  obtain ⟨vs, h1, h2⟩ := ho.cells
  exact Own.ofCells (Free.l h h1) h2
theorem Std.own_l {S : Nat → Prop} {w : World} {as : List AV} {xs : List Value} (h : Std S w (.l as xs)) : Own S w (.l as xs) [] := h.l_own
theorem Free.agg {cs : List AV} (h : ∀ a ∈ cs, a.Free) : AV.Free (.agg cs) := fun S S' w x F ho => by
  cases ho with
  | std ho => cases ho with | agg ho => exact .agg (Free.l h ho.l_own)
  | agg ho => exact .agg (Free.l h ho)
theorem Free.tup {cs : List AV} (h : ∀ a ∈ cs, a.Free) : AV.Free (.tup cs) := fun S S' w x F ho => by
  cases ho with
  | std ho => cases ho with | tup ho => exact .tup (Free.l h ho.l_own)
  | tup ho => exact .tup (Free.l h ho)
theorem Free.osl {sz : Nat} {xs : List (List AV)} (h : ∀ x ∈ xs, ∀ a ∈ x, a.Free) : AV.Free (.osl sz xs) := fun S S' w x F ho => by
  cases ho with
  | std ho => cases ho
  | osl0 h0 => exact .osl0 h0
  | osl h1 h2 h3 h4 h5 => exact .osl h1 h2 h3 h4 (Free.c (fun a ha => by obtain ⟨y, hy, ha⟩ := List.mem_flatten.1 ha; exact h y hy a ha) h5)
theorem Free.map {α : Type} {sz : Nat} {enc : α → List AV} {l : List α} (h : ∀ e ∈ l, ∀ a ∈ enc e, a.Free) : AV.Free (.osl sz (l.map enc)) := Free.osl fun x hx => by
  obtain ⟨e, he, rfl⟩ := List.mem_map.1 hx; exact h e he

/-- A value, as one who only looks sees it. -/
def Seen (hp : List (Nat × Row)) (a a' : AV) : Prop := a' = a ∨ ∀ I w x T, HeapOK I w hp T → Rep I w (.v a x) → Std (fun b => I.S b ∨ b ∈ T) w (.v a' x)

inductive SeenL (hp : List (Nat × Row)) : List AV → List AV → Prop
  | nil : SeenL hp [] []
  | cons {a a' as as'} : Seen hp a a' → SeenL hp as as' → SeenL hp (a :: as) (a' :: as')

theorem seen_hw {hp : List (Nat × Row)} {id sz : Nat} {xs ys : List (List AV)} (hrow : row id hp = some (.row sz xs)) (hz : AV.fzLL xs = ys) : Seen hp (.hw id) (.sl false sz ys) := .inr fun I w x T hh hr => by
  subst hz
  obtain ⟨F, T', g1, g2, g3⟩ := hh.take hrow
  have := (hw_own g1 hr).freeze
  exact this.grow fun z hz => hz.imp (fun h => h) fun h => g3.mem_iff.2 (List.mem_append_left _ h)

theorem seen_hp {hp : List (Nat × Row)} {id : Nat} {cs cs' : List AV} (hrow : row id hp = some (.var cs)) (hc : cs.all AV.closed = true) (hz : AV.fzL cs = cs') : Seen hp (.hp id 0) (.pt cs') := .inr fun I w x T hh hr => by
  subst hz
  obtain ⟨F, T', g1, g2, g3⟩ := hh.take hrow
  obtain ⟨b, o, hid, ha, rfl⟩ := hr.hp_inv
  obtain ⟨c, G, _, hb, hs, hvc, rfl⟩ := g1.var_inv ha
  have hstd := (hvc.own hc).freeze
  refine .pt (.inr (g3.mem_iff.2 (by simp))) (hstd.grow fun z hz => hz.imp (fun h => h) fun h => g3.mem_iff.2 (List.mem_append_left _ (List.mem_cons_of_mem _ h)))

theorem seen_std {hp : List (Nat × Row)} {a a' : AV} (h : Seen hp a a') (hs : a'.std = true) {I : Interp} {w : World} {x : Value} {T : List Nat} (hh : HeapOK I w hp T) (hr : Rep I w (.v a x)) : Std (fun b => I.S b ∨ b ∈ T) w (.v a' x) := by
  rcases h with rfl | h
  · exact (hr.std_std hs).grow fun _ h => .inl h
  · exact h I w x T hh hr

theorem seen_l {hp : List (Nat × Row)} {cs cs' : List AV} (h : SeenL hp cs cs') (hs : cs'.all AV.std = true) {I : Interp} {w : World} {T : List Nat} (hh : HeapOK I w hp T) : ∀ {vs : List Value}, Rep I w (.l cs vs) → Std (fun b => I.S b ∨ b ∈ T) w (.l cs' vs) := by
  induction h with
  | nil => intro vs hr; cases hr; exact .nil
  | cons h1 _ ih =>
    intro vs hr
    simp only [List.all_cons, Bool.and_eq_true] at hs
    cases hr with
    | cons r1 r2 => exact .cons (seen_std h1 hs.1 hh r1) (ih hs.2 r2)

theorem seen_agg {hp : List (Nat × Row)} {cs cs' : List AV} (h : SeenL hp cs cs') (hs : cs'.all AV.std = true) : Seen hp (.agg cs) (.agg cs') := .inr fun I w x T hh hr => by
  obtain ⟨vs, rfl, hr2⟩ := hr.agg_inv
  exact .agg (seen_l h hs hh hr2)

/-- One operation of a region whose order is open, and how it goes on. -/
def StepD (P : Program) (f : Nat) (Q : Post) (k : List Item) (A : Array Oper) (n : Nat) (L : Array Bool) (i : Nat) (st : St) : Prop :=
  ∀ S0 B w0 I a w, S0.nx = Q.lo → Rel S0 B w0 I st a w → wpOp P A (NQ fun a' w' => ∃ I' st', Rel S0 B w0 I' st' a' w' ∧ Run P f Q k st') i
    (fun a' w' => (kpAt A i = true → Same w w') ∧ anyB P A (fun a' w' => ∃ I' st', Rel S0 B w0 I' st' a' w' ∧ Run P f Q k st') n (L.setIfInBounds i true) a' w') a w

theorem drawn_steps {P : Program} {f : Nat} {Q : Post} {k : List Item} {st : St} {A : Array Oper} {n : Nat} {L : Array Bool} {l : List Nat} (hrd : Region.ready .any A L = l) (h0 : l ≠ []) (h : ∀ i ∈ l, StepD P f Q k A n L i st) : Drawn P f Q k A (n + 1) L st :=
  fun S0 B w0 I a w hlo hr => ⟨fun h => absurd (hrd ▸ h) h0, fun j hj => h j (hrd ▸ hj) S0 B w0 I a w hlo hr⟩

section
variable {P : Program} {f : Nat} {Q : Post} {k : List Item} {st st' : St} {A : Array Oper} {n : Nat} {L : Array Bool} {i : Nat}

theorem stepD_read {d : Nat} {op : Op} {t : Nat} {pos : String} {af : Array Edge} {g : Option (Nat × Bool)} {V : AV → Prop} (ho : A[i]? = some ⟨some d, op, t, pos, af, g⟩) (hw : Want A st g) (hd : Nat.blt d st.nt = true)
    (hop : ReadsN P st ⟨some d, op, t, pos, af, g⟩ V) (h : ∀ v, V v → Drawn P f Q k A n (L.setIfInBounds i true) (st.set d v)) : StepD P f Q k A n L i st := by
  intro S0 B w0 I a w hlo hr
  obtain ⟨v, x, hv, h1, h2⟩ := hop S0 B w0 I a w hr
  unfold wpOp
  simp only [ho]
  rw [if_pos (hr.wanted hw)]
  refine .inl ?_
  simp only [Oper.wp, h1 w (.inr (Same.refl w)), Oper.upon]
  exact ⟨fun _ => Same.refl w, h v hv S0 B w0 I _ w hlo (hr.put hd h2)⟩

theorem stepD_skip {o : Oper} {j d : Nat} {want : Bool} {v : Value} (ho : A[i]? = some o) (hg : o.guard = some (j, want)) (hj : (A[j]?).bind (·.dst) = some d) (hd : Nat.blt d st.nt = true)
    (hv : get d st.tm = .lit v) (hb : asks v want = false) (hdst : ∀ d, o.dst = some d → Nat.blt d st.nt = true) (h : Drawn P f Q k A n (L.setIfInBounds i true) (match o.dst with | some d => st.set d (.lit undef) | none => st)) :
    StepD P f Q k A n L i st := by
  intro S0 B w0 I a w hlo hr
  have hw : Region.wanted o (yielded A a.tmps) = false := hr.yieldL hj hd hv hg hb
  unfold wpOp
  simp only [ho]
  rw [if_neg (by rw [hw]; simp)]
  refine ⟨fun _ => Same.refl w, h S0 B w0 I _ w hlo ?_⟩
  cases hdd : o.dst with
  | none => exact hr
  | some d => exact hr.put (hdst d hdd) (.std (.lit _))

theorem stepD_op {d : Nat} {op : Op} {t : Nat} {pos : String} {af : Array Edge} {g : Option (Nat × Bool)} {v : AV} (ho : A[i]? = some ⟨some d, op, t, pos, af, g⟩) (hw : Want A st g) (hd : Nat.blt d st.nt = true)
    (hop : OpOK P st ⟨some d, op, t, pos, af, g⟩ v st') (h : Drawn P f Q k A n (L.setIfInBounds i true) (st'.set d v)) : StepD P f Q k A n L i st := by
  intro S0 B w0 I a w hlo hr
  obtain ⟨hn, hop⟩ := hop
  obtain ⟨x, w', I', h1, h2, h3, h4⟩ := hop S0 B w0 I a w hr
  unfold wpOp
  simp only [ho]
  rw [if_pos (hr.wanted hw)]
  refine .inl ?_
  simp only [Oper.wp, h1, Oper.upon]
  exact ⟨fun hk => h4 (by simpa [kpAt, ho] using hk), h S0 B w0 I' _ w' hlo (h2.put (by rw [hn]; exact hd) h3)⟩

theorem stepD_do {op : Op} {t : Nat} {pos : String} {af : Array Edge} {g : Option (Nat × Bool)} (ho : A[i]? = some ⟨none, op, t, pos, af, g⟩) (hw : Want A st g) (hkp : kp op = false)
    (hop : OpDo P st ⟨none, op, t, pos, af, g⟩ st') (h : Drawn P f Q k A n (L.setIfInBounds i true) st') : StepD P f Q k A n L i st := by
  intro S0 B w0 I a w hlo hr
  obtain ⟨w', I', h1, h2⟩ := hop S0 B w0 I a w hr
  unfold wpOp
  simp only [ho]
  rw [if_pos (hr.wanted hw)]
  refine .inl ?_
  simp only [Oper.wp, h1, Oper.upon]
  exact ⟨fun hk => absurd hk (by simp [kpAt, ho, hkp]), h S0 B w0 I' _ w' hlo h2⟩

theorem stepD_call {d t g : Nat} {pos : String} {af : Array Edge} {gd : Option (Nat × Bool)} {xs : Array Operand} {ts : Array Nat} {fn : Func} {c : Code} {Qg : AV → Prop} {as : List AV}
    (ho : A[i]? = some ⟨some d, .call { callee := .value (.func g), args := xs, argTypes := ts }, t, pos, af, gd⟩) (hw : Want A st gd) (hd : Nat.blt d st.nt = true)
    (hg : P.funcs[g]? = some fn) (hb : fn.body = some c) (hn : (fn.name == "runtime.NumGoroutine") = false) (has : xs.toList.map st.ev = as) (hstd : as.all AV.std = true) (hgood : Good P g as Qg)
    (h : ∀ r, Qg r → r.flat3 = true ∧ Drawn P f Q k A n (L.setIfInBounds i true) ((st.back r).set d (imp st.nx r).1)) : StepD P f Q k A n L i st := by
  intro S0 B w0 I a w hlo hr
  unfold wpOp
  simp only [ho]
  rw [if_pos (hr.wanted hw)]
  refine .inl ?_
  have hx : (execOp a.eval ⟨some d, .call { callee := .value (.func g), args := xs, argTypes := ts }, t, pos, af, gd⟩).run P w = .ok (.enter g (xs.toList.map a.eval).toArray) w := by
    have e0 : xs.map a.eval = (xs.toList.map a.eval).toArray := by rw [← Array.toList_map, Array.toArray_toList]
    have e1 : a.eval (.func g) = .func (.func g) #[] #[] := rfl
    simp only [execOp, resolve, e0, e1, Deferred.ofValue, Sem.run_bind, Sem.run_pure, Result.andThen_ok, invoke]
    rw [show (#[] ++ (xs.toList.map a.eval).toArray ++ #[] : Array Value) = (xs.toList.map a.eval).toArray from by simp]
    exact run_callFunc hg hb hn _
  simp only [Oper.wp, hx, Oper.upon]
  have h1 := hr.evs xs.toList
  rw [has] at h1
  refine (hgood I.S w _ hr.ss (h1.l_stds hstd)).mono fun e w' ⟨r, hq, hfin⟩ => ?_
  obtain ⟨hfl, hrest⟩ := h r hq
  have hbl := hfin
  obtain ⟨v, I', rfl, hr', hrep⟩ := hr.back hfin hfl
  obtain ⟨_, _, _, _, _, _, _, _, _, _, hbl⟩ := hbl
  exact ⟨fun _ b hb => hbl.block b hb, hrest S0 B w0 I' _ w' hlo (hr'.put (d := d) (by exact hd) hrep)⟩

theorem stepD_unf {id : Nat} {hp' : List (Nat × Row)} (h : unf1 id st.hp = some hp') (hd : StepD P f Q k A n L i ⟨st.tm, hp', st.nx, st.nt⟩) : StepD P f Q k A n L i st :=
  fun S0 B w0 I a w hlo hr => hd S0 B w0 I a w hlo (hr.unf h)

theorem stepD_guard {d : Nat} {b : Bool} (hd : Nat.blt d st.nt = true) (hv : get d st.tm = .lit (.bool b))
    (ht : b = true → StepD P f Q k A n L i (st.set d (.lit (.bool true)))) (hf : b = false → StepD P f Q k A n L i (st.set d (.lit (.bool false)))) : StepD P f Q k A n L i st := by
  intro S0 B w0 I a w hlo hr
  have hx := hr.tm d
  have hx2 := hx
  rw [hv] at hx2
  have hx3 := hx2.lit_inv
  have key : Rel S0 B w0 I (st.set d (.lit (.bool b))) a w := by
    refine { hr with tm := fun j => ?_ }
    show Rep I w (.v (get j ((d, _) :: st.tm)) _)
    rw [get_cons]
    by_cases e : d = j
    · subst e; rw [if_pos rfl, hx3]; exact .std (.lit _)
    · rw [if_neg e]; exact hr.tm j
  cases b
  · exact hf rfl S0 B w0 I a w hlo key
  · exact ht rfl S0 B w0 I a w hlo key
end

section
variable {P : Program} {f : Nat} {Q : Post} {k : List Item} {st : St} {A : Array Oper} {i : Nat} {rest : List Nat}

/-- Behind a call that only looked. -/
theorem Rel.backV {S0 : Interp} {B : Nat} {w0 : World} {I : Interp} {a : Act} {w : World} (hr : Rel S0 B w0 I st a w) {T : List Nat} (t1 : HeapOK I w st.hp T) (t2 : T.Nodup) (t3 : ∀ b ∈ T, B ≤ b ∧ ¬ I.S b ∧ b < w.heap.size) {r : AV} {e : Ending} {w' : World}
    (hf : Fin (fun b => I.S b ∨ b ∈ T) w.heap.size w r e w') (hfl : r.flat3 = true) (hfree : r.Free) : ∃ v I', e = .returned v ∧ Rel S0 B w0 I' (st.back r) a w' ∧ Rep I' w' (.v (imp st.nx r).1 v) := by
  obtain ⟨v, S, F, he, ho, hnd, hF, hSs, hS0, hSb, hbl⟩ := hf
  let I1 : Interp := { I with S := fun b => I.S b ∨ (S b ∧ w.heap.size ≤ b) }
  have e1 : Ext I w I1 w' := ⟨fun b h => .inl h, fun b hb => hbl.block b (hr.ss b hb), Nat.le_refl _, fun _ _ => rfl, fun _ _ => rfl, fun _ _ => rfl, lasts_below hbl⟩
  have ho' : Own I1.S w' (.v r v) F := hfree _ _ _ _ _ ho
  obtain ⟨I2, e2, s2, n2, r2, F2, o2, p2⟩ := imp_ok (I := I1) ho' hfl
  have hnx : I1.nx = st.nx := hr.nx
  rw [hnx] at n2 r2 o2
  refine ⟨v, I2, he, ?_, r2⟩
  have hsz := hbl.size
  have := hr.next (e1.trans e2) (hbl.mono hr.bs) (fun b hb => by
    rw [s2] at hb
    exact hb.imp id fun h => Nat.le_trans hr.bs h.2) (fun b hb => by
    rw [s2] at hb
    rcases hb with h | h
    · exact Nat.lt_of_lt_of_le (hr.ss b h) hsz
    · exact hSs b h.1)
    (hp := (imp st.nx r).2.1 ++ st.hp) ⟨F2 ++ T, o2.app (t1.mono (e1.trans e2) fun b hb => hbl.block b (t3 b hb).2.2), ?_, ?_⟩
  · rw [n2] at this; exact this
  · refine List.nodup_append.2 ⟨p2.nodup_iff.2 hnd, t2, fun x hx y hy e => ?_⟩
    subst e
    have := (hF x (p2.mem_iff.1 hx)).1
    have := (t3 x hy).2.2
    omega
  · intro b hb
    rw [s2]
    rcases List.mem_append.1 hb with hb | hb
    · have := hF b (p2.mem_iff.1 hb)
      exact ⟨Nat.le_trans hr.bs this.1, fun h => h.elim (fun h => by have := hr.ss b h; omega) (fun h => this.2.1 h.1), this.2.2⟩
    · have := t3 b hb
      exact ⟨this.1, fun h => h.elim this.2.1 (fun h => by omega), Nat.lt_of_lt_of_le this.2.2 hsz⟩

theorem exec_call {a : Act} {w : World} {dst : Option Nat} {t g : Nat} {pos : String} {af : Array Edge} {gd : Option (Nat × Bool)} {xs : Array Operand} {ts : Array Nat} {x : Operand} {cs : List Value} {fn : Func} {c : Code} (hx : a.eval x = .func (.func g) #[] cs.toArray)
    (hg : P.funcs[g]? = some fn) (hb : fn.body = some c) (hn : (fn.name == "runtime.NumGoroutine") = false) :
    (execOp a.eval ⟨dst, .call { callee := .value x, args := xs, argTypes := ts }, t, pos, af, gd⟩).run P w = .ok (.enter g (xs.toList.map a.eval ++ cs).toArray) w := by
  have e0 : xs.map a.eval = (xs.toList.map a.eval).toArray := by rw [← Array.toList_map, Array.toArray_toList]
  simp only [execOp, resolve, e0, hx, Deferred.ofValue, Sem.run_bind, Sem.run_pure, Result.andThen_ok, invoke]
  rw [show (#[] ++ (xs.toList.map a.eval).toArray ++ cs.toArray : Array Value) = (xs.toList.map a.eval ++ cs).toArray from by simp]
  exact run_callFunc hg hb hn _

/-- A call that only looks at what is one's own. -/
theorem run_callV {d t g : Nat} {pos : String} {af : Array Edge} {gd : Option (Nat × Bool)} {xs : Array Operand} {ts : Array Nat} {fn : Func} {c : Code} {Qg : AV → Prop} {as as' : List AV}
    (ho : A[i]? = some ⟨some d, .call { callee := .value (.func g), args := xs, argTypes := ts }, t, pos, af, gd⟩) (hw : Want A st gd) (hd : Nat.blt d st.nt = true)
    (hg : P.funcs[g]? = some fn) (hb : fn.body = some c) (hn : (fn.name == "runtime.NumGoroutine") = false) (has : xs.toList.map st.ev = as) (hseen : SeenL st.hp as as') (hstd : as'.all AV.std = true) (hgood : Good P g as' Qg)
    (h : ∀ r, Qg r → r.flat3 = true ∧ r.Free ∧ Run P f Q (.inRegion A rest :: k) ((st.back r).set d (imp st.nx r).1)) : Run P f Q (.inRegion A (i :: rest) :: k) st := by
  intro S0 B w0 I a w hlo hr b hbf hk cs
  have h1 := hr.evs xs.toList
  rw [has] at h1
  obtain ⟨T, t1, t2, t3⟩ := hr.hp
  have hcall := hgood (fun b => I.S b ∨ b ∈ T) w _ (fun b hb => hb.elim (hr.ss b) fun h => (t3 b h).2.2) (seen_l hseen hstd t1 h1)
  obtain ⟨e, w2, fr, ⟨r, hq, hfin⟩, hcomes, _, hleave⟩ := hcall (b.at a (.inRegion A (i :: rest) :: k) :: cs)
  obtain ⟨hfl, hfree, hrun⟩ := h r hq
  obtain ⟨v, I', rfl, hr', hrep⟩ := hr.backV t1 t2 t3 hfin hfl hfree
  have hx := exec_call (P := P) (a := a) (w := w) (dst := some d) (t := t) (pos := pos) (af := af) (gd := gd) (xs := xs) (ts := ts) (x := .func g) (cs := []) rfl hg hb hn
  rw [List.append_nil] at hx
  have hst := enter_back ho (hr.wanted hw) hx hcomes hleave (R := fun _ _ => True)
  have hrel := hr'.put (d := d) (by exact hd) hrep
  obtain ⟨e3, w3, fr3, g1, g2, g3, g4⟩ := hrun S0 B w0 I' _ w2 hlo hrel b hbf hk cs
  exact ⟨e3, w3, fr3, g1, Comes.of_steps hst g2, g3, g4⟩

theorem stepD_callV {n : Nat} {L : Array Bool} {d t g : Nat} {pos : String} {af : Array Edge} {gd : Option (Nat × Bool)} {xs : Array Operand} {ts : Array Nat} {fn : Func} {c : Code} {Qg : AV → Prop} {as as' : List AV}
    (ho : A[i]? = some ⟨some d, .call { callee := .value (.func g), args := xs, argTypes := ts }, t, pos, af, gd⟩) (hw : Want A st gd) (hd : Nat.blt d st.nt = true)
    (hg : P.funcs[g]? = some fn) (hb : fn.body = some c) (hn : (fn.name == "runtime.NumGoroutine") = false) (has : xs.toList.map st.ev = as) (hseen : SeenL st.hp as as') (hstd : as'.all AV.std = true) (hgood : Good P g as' Qg)
    (h : ∀ r, Qg r → r.flat3 = true ∧ r.Free ∧ Drawn P f Q k A n (L.setIfInBounds i true) ((st.back r).set d (imp st.nx r).1)) : StepD P f Q k A n L i st := by
  intro S0 B w0 I a w hlo hr
  unfold wpOp
  simp only [ho]
  rw [if_pos (hr.wanted hw)]
  refine .inl ?_
  have hx := exec_call (P := P) (a := a) (w := w) (dst := some d) (t := t) (pos := pos) (af := af) (gd := gd) (xs := xs) (ts := ts) (x := .func g) (cs := []) rfl hg hb hn
  rw [List.append_nil] at hx
  simp only [Oper.wp, hx, Oper.upon]
  have h1 := hr.evs xs.toList
  rw [has] at h1
  obtain ⟨T, t1, t2, t3⟩ := hr.hp
  refine (hgood (fun b => I.S b ∨ b ∈ T) w _ (fun b hb => hb.elim (hr.ss b) fun h => (t3 b h).2.2) (seen_l hseen hstd t1 h1)).mono fun e w' ⟨r, hq, hfin⟩ => ?_
  obtain ⟨hfl, hfree, hrest⟩ := h r hq
  have hbl := hfin
  obtain ⟨v, I', rfl, hr', hrep⟩ := hr.backV t1 t2 t3 hfin hfl hfree
  obtain ⟨_, _, _, _, _, _, _, _, _, _, hbl⟩ := hbl
  exact ⟨fun _ b hb => hbl.block b hb, hrest S0 B w0 I' _ w' hlo (hr'.put (d := d) (by exact hd) hrep)⟩
end

/-- A frame whose heap is its caller's. -/
def Post.inl (lo : Nat) (K : AV → List (Nat × Row) → Nat → Prop) : Post := ⟨lo, fun S0 B w0 e w' => ∃ v r hp nx I', e = .returned v ∧ K r hp nx ∧ I'.nx = nx ∧ Rep I' w' (.v r v) ∧ HOK B I' w' hp ∧ (∀ b, I'.S b → b < w'.heap.size) ∧ Ext S0 w0 I' w' ∧
  (∀ b, I'.S b → S0.S b ∨ B ≤ b) ∧ Below B w0 w' ∧ B ≤ w'.heap.size⟩

/-- A result, as it is. -/
def ResI (P : Program) (st : St) (rv : ResultVar) (r : AV) : Prop :=
  ∀ S0 B w0 I a w, Rel S0 B w0 I st a w → ∃ x, (resVar rv a.tmps).run P w = .ok x w ∧ Rep I w (.v r x)

inductive ResIL (P : Program) (st : St) : List ResultVar → List AV → Prop
  | nil : ResIL P st [] []
  | cons {rv rvs r rs} : ResI P st rv r → ResIL P st rvs rs → ResIL P st (rv :: rvs) (r :: rs)

section
variable {P : Program} {f : Nat} {k : List Item} {st : St} {A : Array Oper} {i : Nat} {rest : List Nat}

theorem resI_tmp {d : Nat} : ResI P st (.tmp d) (get d st.tm) := fun S0 B w0 I a w hr => ⟨_, rfl, hr.tm d⟩

theorem resI_cell {d t id : Nat} {i : TyI} {cs : List AV} {v : AV} {r : List AV} (hv : get d st.tm = .hp id 0) (ht : TyOK P t i) (ha : i.isAgg = false) (hrow : row id st.hp = some (.var cs)) (hcs : cs = v :: r) (hp : v.plain = true) : ResI P st (.cell d t) v := by
  intro S0 B w0 I a w hr
  have h1 := hr.tm d
  rw [hv] at h1
  obtain ⟨b, of, hi, hat, e⟩ := h1.hp_inv
  obtain ⟨T, k1, k2, k3⟩ := hr.hp
  obtain ⟨F, T', g1, g2, g3⟩ := k1.take hrow
  obtain ⟨c, G, _, hb, hs, hvc, rfl⟩ := g1.var_inv hat
  subst hcs
  cases hvc with
  | cons hc hl _ => exact ⟨_, by simp only [resVar, e, asAddr, loadVar, Sem.run_bind, Sem.run_pure, Result.andThen_ok, run_isAgg ht, ha, if_false, Bool.false_eq_true, run_load, Nat.add_zero, hc], hl.rep hp⟩

theorem ResIL.run {rvs : List ResultVar} {rs : List AV} (h : ResIL P st rvs rs) {S0 : Interp} {B : Nat} {w0 : World} {I : Interp} {a : Act} {w : World} (hr : Rel S0 B w0 I st a w) :
    ∃ xs, (rvs.mapM fun rv => resVar rv a.tmps).run P w = .ok xs w ∧ Rep I w (.l rs xs) ∧ xs.length = rvs.length := by
  induction h with
  | nil => exact ⟨[], by simp, .nil, rfl⟩
  | cons h _ ih =>
    obtain ⟨x, h1, h2⟩ := h S0 B w0 I a w hr
    obtain ⟨xs, k1, k2, k3⟩ := ih
    exact ⟨x :: xs, by simp only [List.mapM_cons, Sem.run_bind, h1, Result.andThen_ok, k1, Sem.run_pure], .cons h2 k2, by simp [k3]⟩

theorem leave_inl {fn : Func} {rs : List AV} {lo : Nat} {K : AV → List (Nat × Row) → Nat → Prop} (hf : P.funcs[f]? = some fn) (h : ResIL P st fn.results.toList rs) (hk2 : K (asRes rs) st.hp st.nx) {S0 : Interp} {B : Nat} {w0 : World} {I : Interp} {a : Act} {w : World} (hr : Rel S0 B w0 I st a w)
    (b : Frame) (hb : b.fn = f) (hk : b.kind = .normal) (todo : List Item) : ∃ v, (Post.inl lo K).R S0 B w0 (.returned v) w ∧ Frame.leaving P { b.at a todo with mode := .returning } w (.returned v) := by
  obtain ⟨xs, h1, h2, h3⟩ := h.run hr
  have hres : (results fn a.tmps).run P w = .ok (if h : xs.toArray.size = 1 then xs.toArray[0] else .tuple xs.toArray) w := by
    have e : results fn a.tmps = (do let vs ← fn.results.mapM (fun rv => resVar rv a.tmps); pure (if h : vs.size = 1 then vs[0] else .tuple vs)) := rfl
    rw [e, ← Array.toArray_toList (xs := fn.results), List.mapM_toArray]
    simp only [Sem.run_bind, Sem.run_map, h1, Result.andThen_ok, Sem.run_pure]
  refine ⟨_, ⟨_, asRes rs, st.hp, st.nx, I, rfl, hk2, hr.nx, ?_, hr.hp, hr.ss, hr.ext, hr.sb, hr.bl, hr.bs⟩, rfl, hr.df, hk, fn, by subst hb; exact hf, hres⟩
  clear hres
  cases h2 with
  | nil => exact .tup .nil
  | cons g1 g2 =>
    cases g2 with
    | nil => simpa [asRes] using g1
    | cons g2 g3 => simpa [asRes] using Rep.tup (.cons g1 (.cons g2 g3))

theorem run_retI {fn : Func} {rs : List AV} {lo : Nat} {K : AV → List (Nat × Row) → Nat → Prop} (hf : P.funcs[f]? = some fn) (h : ResIL P st fn.results.toList rs) (hk2 : K (asRes rs) st.hp st.nx) : Run P f (Post.inl lo K) (.code .ret :: k) st ∧ Run P f (Post.inl lo K) [] st := by
  refine ⟨fun S0 B w0 I a w hlo hr b hb hk cs => ?_, fun S0 B w0 I a w hlo hr b hb hk cs => ?_⟩
  · obtain ⟨v, h1, h2⟩ := leave_inl (lo := lo) hf h hk2 hr b hb hk (.code .ret :: k)
    exact ⟨_, w, _, h1, Steps.one step_ret, hb, h2⟩
  · obtain ⟨v, h1, h2⟩ := leave_inl (lo := lo) hf h hk2 hr b hb hk []
    exact ⟨_, w, _, h1, Steps.one step_end, hb, h2⟩

theorem Rel.evl {S0 : Interp} {B : Nat} {w0 : World} {I : Interp} {a : Act} {w : World} (h : Rel S0 B w0 I st a w) {x : Operand} {g : Nat} {cs : List AV} (hx : st.ev x = .fn g cs) : ∃ vs : List Value, a.eval x = .func (.func g) #[] vs.toArray ∧ Rep I w (.l cs vs) := by
  have := h.ev x
  rw [hx] at this
  cases h2 : a.eval x
  all_goals rw [h2] at this
  all_goals first
    | (cases this with
      | std h3 => cases h3 with | fn h3 => exact ⟨_, rfl, h3.l_rep⟩
      | fn h3 => exact ⟨_, rfl, h3⟩)
    | (cases this with | std h3 => cases h3)

def slots : Nat → List AV → List (Nat × AV)
  | _, [] => []
  | s, a :: as => (s, a) :: slots (s + 1) as

theorem slots_rep {I : Interp} {w : World} : ∀ {as : List AV} {vs : List Value} {s : Nat}, Rep I w (.l as vs) → ∀ d, (s ≤ d ∧ ∃ x, vs[d - s]? = some x ∧ Rep I w (.v (get d (slots s as)) x)) ∨ get d (slots s as) = .any
  | [], vs, s, h, d => .inr rfl
  | a :: as, vs, s, h, d => by
    cases h with
    | cons h1 h2 =>
      simp only [slots]
      rw [get_cons]
      by_cases e : s = d
      · subst e; rename_i y _; exact .inl ⟨Nat.le_refl _, y, by simp, by rw [if_pos rfl]; exact h1⟩
      · rw [if_neg e]
        rcases slots_rep (s := s + 1) h2 d with ⟨g1, x, g2, g3⟩ | g
        · exact .inl ⟨by omega, x, by rw [show d - s = (d - (s + 1)) + 1 from by omega]; simpa using g2, g3⟩
        · exact .inr g

/-- A call with the heap, as the machine makes it. -/
theorem calls_inl {S0 : Interp} {B : Nat} {w0 : World} {I : Interp} {a : Act} {w : World} (hr : Rel S0 B w0 I st a w) {g : Nat} {fn : Func} {c : Code} {as : List AV} {us : List Value} {K : AV → List (Nat × Row) → Nat → Prop}
    (hg : P.funcs[g]? = some fn) (hb : fn.body = some c) (hnt : Nat.ble as.length fn.ntmps = true) (hargs : Rep I w (.l as us)) (hrun : Run P g (Post.inl st.nx K) [.code c] ⟨slots 0 as, st.hp, st.nx, fn.ntmps⟩) :
    Calls P g us.toArray w fun e w2 => ∃ v r hp nx I', e = .returned v ∧ K r hp nx ∧ Rep I' w2 (.v r v) ∧ Rel S0 B w0 I' ⟨st.tm, hp, nx, st.nt⟩ a w2 ∧ (∀ b, b < w.heap.size → (∀ T, HeapOK I w st.hp T → b ∉ T) → True) := by
  intro fs
  have hnt' := Nat.le_of_ble_eq_true hnt
  have hlen := hargs.l_len
  let b2 : Frame := { (default : Frame) with fn := g, kind := .normal }
  have henter : Frame.enter P g us.toArray .normal = b2.at { tmps := us.toArray ++ Array.replicate (fn.ntmps - us.toArray.size) undef, defers := [] } [.code c] := by
    simp [Frame.enter, Frame.at, hg, hb, b2]
  obtain ⟨T, t1, t2, t3⟩ := hr.hp
  have hst0 : Rel I B w I ⟨slots 0 as, st.hp, st.nx, fn.ntmps⟩ { tmps := us.toArray ++ Array.replicate (fn.ntmps - us.toArray.size) undef, defers := [] } w := by
    refine ⟨fun d => ?_, by simp; omega, rfl, hr.nx, ⟨T, t1, t2, t3⟩, hr.ss, Ext.refl _ _, fun _ h => .inl h, Below.refl _ _, hr.bs⟩
    show Rep I w (.v (get d (slots 0 as)) _)
    rcases slots_rep (s := 0) hargs d with ⟨_, y, g2, g3⟩ | g
    · have : (us.toArray ++ Array.replicate (fn.ntmps - us.toArray.size) undef).getD d undef = y := by
        rw [Nat.sub_zero] at g2
        have hd2 : d < us.length := (List.getElem?_eq_some_iff.1 g2).1
        simp [Array.getD_eq_getD_getElem?, Array.getElem?_append, hd2]
        obtain ⟨_, g2⟩ := List.getElem?_eq_some_iff.1 g2
        exact g2
      show Rep I w (.v _ ((us.toArray ++ Array.replicate (fn.ntmps - us.toArray.size) undef).getD d undef))
      rw [this]; exact g3
    · rw [g]; exact .std (.any _)
  obtain ⟨e, w2, fr, hR, hcomes, hfn, hleave⟩ := hrun I B w I _ w hr.nx hst0 b2 rfl rfl fs
  obtain ⟨v, r, hp', nx', I', rfl, hK, hnx, hrep, hhp, hss, hext, hsb, hbl, hbs⟩ := hR
  rw [← henter] at hcomes
  exact ⟨_, w2, fr, ⟨v, r, hp', nx', I', rfl, hK, hrep, ⟨fun d => (hr.tm d).mono hext, hr.nt, hr.df, hnx, hhp, hss, hr.ext.trans hext, fun b hb => (hsb b hb).elim (hr.sb b) .inr, hr.bl.trans hbl, hbs⟩, fun _ _ _ => trivial⟩, hcomes, hfn, hleave⟩

/-- A call with the heap. -/
theorem run_inl {Q : Post} {d t g : Nat} {pos : String} {af : Array Edge} {gd : Option (Nat × Bool)} {xs : Array Operand} {ts : Array Nat} {x : Operand} {fn : Func} {c : Code} {as cs : List AV} {K : AV → List (Nat × Row) → Nat → Prop}
    (ho : A[i]? = some ⟨some d, .call { callee := .value x, args := xs, argTypes := ts }, t, pos, af, gd⟩) (hw : Want A st gd) (hd : Nat.blt d st.nt = true) (hx : st.ev x = .fn g cs)
    (hg : P.funcs[g]? = some fn) (hb : fn.body = some c) (hn : (fn.name == "runtime.NumGoroutine") = false) (has : xs.toList.map st.ev ++ cs = as) (hnt : Nat.ble as.length fn.ntmps = true)
    (hrun : Run P g (Post.inl st.nx K) [.code c] ⟨slots 0 as, st.hp, st.nx, fn.ntmps⟩) (h : ∀ r hp nx, K r hp nx → Run P f Q (.inRegion A rest :: k) ⟨(d, r) :: st.tm, hp, nx, st.nt⟩) : Run P f Q (.inRegion A (i :: rest) :: k) st := by
  intro S0 B w0 I a w hlo hr b hbf hk fs
  obtain ⟨vs, e1, e2⟩ := hr.evl hx
  have hargs := (hr.evs xs.toList).l_app e2
  rw [has] at hargs
  have hxx := exec_call (P := P) (a := a) (w := w) (dst := some d) (t := t) (pos := pos) (af := af) (gd := gd) (xs := xs) (ts := ts) (x := x) (cs := vs) e1 hg hb hn
  obtain ⟨e, w2, fr, ⟨v, r, hp', nx', I', rfl, hK, hrep, hrel, _⟩, hcomes, _, hleave⟩ := calls_inl hr hg hb hnt hargs hrun (b.at a (.inRegion A (i :: rest) :: k) :: fs)
  have hst := enter_back ho (hr.wanted hw) hxx hcomes hleave (R := fun _ _ => True)
  obtain ⟨e3, w3, fr3, g1, g2, g3, g4⟩ := h r hp' nx' hK S0 B w0 I' _ w2 hlo (hrel.put (d := d) hd hrep) b hbf hk fs
  exact ⟨e3, w3, fr3, g1, Comes.of_steps hst g2, g3, g4⟩

theorem stepD_inl {Q : Post} {n : Nat} {L : Array Bool} {d t g : Nat} {pos : String} {af : Array Edge} {gd : Option (Nat × Bool)} {xs : Array Operand} {ts : Array Nat} {x : Operand} {fn : Func} {c : Code} {as cs : List AV} {K : AV → List (Nat × Row) → Nat → Prop}
    (ho : A[i]? = some ⟨some d, .call { callee := .value x, args := xs, argTypes := ts }, t, pos, af, gd⟩) (hw : Want A st gd) (hd : Nat.blt d st.nt = true) (hx : st.ev x = .fn g cs) (hkp : kp (.call { callee := .value x, args := xs, argTypes := ts }) = false)
    (hg : P.funcs[g]? = some fn) (hb : fn.body = some c) (hn : (fn.name == "runtime.NumGoroutine") = false) (has : xs.toList.map st.ev ++ cs = as) (hnt : Nat.ble as.length fn.ntmps = true)
    (hrun : Run P g (Post.inl st.nx K) [.code c] ⟨slots 0 as, st.hp, st.nx, fn.ntmps⟩) (h : ∀ r hp nx, K r hp nx → Drawn P f Q k A n (L.setIfInBounds i true) ⟨(d, r) :: st.tm, hp, nx, st.nt⟩) : StepD P f Q k A n L i st := by
  intro S0 B w0 I a w hlo hr
  obtain ⟨vs, e1, e2⟩ := hr.evl hx
  have hargs := (hr.evs xs.toList).l_app e2
  rw [has] at hargs
  have hxx := exec_call (P := P) (a := a) (w := w) (dst := some d) (t := t) (pos := pos) (af := af) (gd := gd) (xs := xs) (ts := ts) (x := x) (cs := vs) e1 hg hb hn
  unfold wpOp
  simp only [ho]
  rw [if_pos (hr.wanted hw)]
  refine .inl ?_
  simp only [Oper.wp, hxx, Oper.upon]
  refine (calls_inl hr hg hb hnt hargs hrun).mono fun e w' ⟨v, r, hp', nx', I', he, hK, hrep, hrel, _⟩ => ?_
  subst he
  exact ⟨fun hk => absurd hk (by simp [kpAt, ho, hkp]), h r hp' nx' hK S0 B w0 I' _ w' hlo (hrel.put (d := d) hd hrep)⟩

theorem drawn_unf {Q : Post} {n : Nat} {L : Array Bool} {id : Nat} {hp' : List (Nat × Row)} (h : unf1 id st.hp = some hp') (hd : Drawn P f Q k A n L ⟨st.tm, hp', st.nx, st.nt⟩) : Drawn P f Q k A n L st :=
  fun S0 B w0 I a w hlo hr => hd S0 B w0 I a w hlo (hr.unf h)

/-- What was an own row or variable is told as what stays, wherever it is told. -/
def toTM (p : AV → Bool) (v : AV) : List (Nat × AV) → List (Nat × AV)
  | [] => []
  | (d, a) :: l => (d, bif p a then v else a) :: toTM p v l
theorem get_toTM (p : AV → Bool) (v : AV) (hp : p .any = false) : ∀ (l : List (Nat × AV)) (d : Nat), get d (toTM p v l) = bif p (get d l) then v else get d l
  | [], d => by show AV.any = _; rw [show get d [] = AV.any from rfl, hp]; rfl
  | (j, a) :: l, d => by
    simp only [toTM]
    rw [get_cons, get_cons]
    by_cases e : j = d
    · rw [if_pos e, if_pos e]
    · rw [if_neg e, if_neg e]; exact get_toTM p v hp l d
def isHw (id : Nat) : AV → Bool
  | .hw j => Nat.beq j id
  | _ => false
def isHp (id : Nat) : AV → Bool
  | .hp j 0 => Nat.beq j id
  | _ => false
theorem isHw_eq {id : Nat} {a : AV} (h : isHw id a = true) : a = .hw id := by
  cases a <;> simp [isHw] at h
  rw [h]
theorem isHp_eq {id : Nat} {a : AV} (h : isHp id a = true) : a = .hp id 0 := by
  unfold isHp at h
  split at h
  · rw [Nat.eq_of_beq_eq_true h]
  · cases h

theorem run_frzR {Q : Post} {todo : List Item} {tm : List (Nat × AV)} {hp : List (Nat × Row)} {nx nt : Nat} (id : Nat) {sz : Nat} {xs xs' : List (List AV)} (hrow : row id hp = some (.row sz xs)) (hz : AV.fzLL xs = xs')
    (h : Run P f Q todo ⟨toTM (isHw id) (.sl false sz xs') tm, rem id hp, nx, nt⟩) : Run P f Q todo ⟨tm, hp, nx, nt⟩ := by
  intro S0 B w0 I a w hlo hr
  obtain ⟨T, t1, t2, t3⟩ := hr.hp
  obtain ⟨F, T', g1, g2, g3⟩ := t1.take hrow
  have hr2 := hr.freeze t2 t3 g2 g3
  refine h S0 B w0 _ a w hlo { hr2 with tm := fun j => ?_ }
  show Rep _ w (.v (get j (toTM (isHw id) _ tm)) _)
  rw [get_toTM _ _ rfl]
  cases hb : isHw id (get j tm) with
  | false => exact hr2.tm j
  | true =>
    have hx := hr.tm j
    rw [isHw_eq hb] at hx
    have := (hw_own g1 hx).freeze
    subst hz
    exact .std (this.grow fun z hz => hz)

theorem run_frzV {Q : Post} {todo : List Item} {tm : List (Nat × AV)} {hp : List (Nat × Row)} {nx nt : Nat} (id : Nat) {cs cs' : List AV} (hrow : row id hp = some (.var cs)) (hc : cs.all AV.closed = true) (hz : AV.fzL cs = cs')
    (h : Run P f Q todo ⟨toTM (isHp id) (.pt cs') tm, rem id hp, nx, nt⟩) : Run P f Q todo ⟨tm, hp, nx, nt⟩ := by
  subst hz
  intro S0 B w0 I a w hlo hr
  obtain ⟨T, t1, t2, t3⟩ := hr.hp
  obtain ⟨F, T', g1, g2, g3⟩ := t1.take hrow
  have hr2 := hr.freeze t2 t3 g2 g3
  refine h S0 B w0 _ a w hlo { hr2 with tm := fun j => ?_ }
  show Rep _ w (.v (get j (toTM (isHp id) _ tm)) _)
  rw [get_toTM _ _ rfl]
  cases hb : isHp id (get j tm) with
  | false => exact hr2.tm j
  | true =>
    have hx := hr.tm j
    rw [isHp_eq hb] at hx
    obtain ⟨b, o, hid, ha, e⟩ := hx.hp_inv
    obtain ⟨c, G, _, hb, hs, hvc, rfl⟩ := g1.var_inv ha
    have hstd := (hvc.own hc).freeze
    rw [e]
    exact .std (.pt (.inr (List.mem_cons_self ..)) (hstd.grow fun z hz => hz.imp (fun h => h) (List.mem_cons_of_mem _)))
end
end Go.Ax
