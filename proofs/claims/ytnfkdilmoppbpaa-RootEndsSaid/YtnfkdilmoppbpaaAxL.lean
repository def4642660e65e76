/- Regions whose order is open: what only reads is taken first. -/
import Derived.Test.YtnfkdilmoppbpaaAxK
import Derived.OrdersHeld
namespace Go.Ax
open Go.RowKit
set_option linter.unusedVariables false
set_option linter.unusedSimpArgs false

def kpAt (A : Array Oper) (i : Nat) : Bool := match A[i]? with | some o => kp o.op | none => true

theorem Same.trans {a b c : World} (h : Same a b) (k : Same b c) (hs : a.heap.size ≤ b.heap.size) : Same a c := fun x hx => (k x (by omega)).trans (h x hx)

def NQ (Q : Act → World → Prop) : Exit → Act → World → Prop := fun e a w => e = .normal ∧ Q a w

/-- Whatever order is picked; behind each operation that keeps what is there, all is there. -/
def anyB (P : Program) (A : Array Oper) (Q : Act → World → Prop) : Nat → Array Bool → Act → World → Prop
  | 0, L, a, w => Region.ready .any A L = [] ∧ Q a w
  | n + 1, L, a, w => (Region.ready .any A L = [] → Q a w) ∧
      ∀ i ∈ Region.ready .any A L, wpOp P A (NQ Q) i (fun a' w' => (kpAt A i = true → Same w w') ∧ anyB P A Q n (L.setIfInBounds i true) a' w') a w

section
variable {P : Program} {A : Array Oper} {Q : Act → World → Prop}

theorem wpAny_of_anyB : ∀ (n : Nat) (L : Array Bool) (a : Act) (w : World), anyB P A Q n L a w → wpAny P .any A (NQ Q) n L a w
  | 0, _, _, _, h => ⟨h.1, rfl, h.2⟩
  | n + 1, _, _, _, h => ⟨fun h0 => ⟨rfl, h.1 h0⟩, fun i hi => wpOp_mono (fun a' w' h' => wpAny_of_anyB n _ a' w' h'.2) (h.2 i hi)⟩

theorem yieldsIf_mono {S S' : World → Prop} {o : Oper} {v : Value} {a : Act} (h : YieldsIf P A S o v a) (hs : ∀ w, S' w → S w) : YieldsIf P A S' o v a :=
  h.imp (fun ⟨h1, h2⟩ => ⟨h1, fun w hw => h2 w (hs w hw)⟩) id

/-- What waits for number i, or cannot meddle with it. -/
def clear (A : Array Oper) (L : Array Bool) (i : Nat) : Bool :=
  Region.noSelect A && (Region.ready .any A L).contains i && match A[i]? with
  | none => false
  | some oi => (List.range A.size).all fun j => j == i || L.getD j true || match A[j]? with
    | some oj => oj.after.any (fun e => Region.binds .any e && e.on == i) || (oi.apart A oj && (kp oj.op || memFree oi.op))
    | none => true

theorem clear_spec {L : Array Bool} {i : Nat} {oi : Oper} (hi : A[i]? = some oi) (h : clear A L i = true) :
    (∀ (j : Nat) (o : Oper) cs b, A[j]? = some o → o.op ≠ .select cs b) ∧ i ∈ Region.ready .any A L ∧
    ∀ j oj, A[j]? = some oj → j ≠ i → L.getD j true = false → (∀ e ∈ oj.after, Region.binds .any e = true → e.on ≠ i) → oi.apart A oj = true ∧ (kp oj.op = true ∨ memFree oi.op = true) := by
  simp only [clear, hi, Bool.and_eq_true, List.all_eq_true, List.mem_range] at h
  refine ⟨Region.noSelect_spec h.1.1, by simpa using h.1.2, fun j oj hj hne hun hno => ?_⟩
  have h1 := h.2 j (Array.getElem?_eq_some_iff.1 hj).1
  simp only [hj, Bool.or_eq_true, beq_iff_eq, hne, false_or, hun, Bool.false_eq_true, Bool.and_eq_true] at h1
  rcases h1 with h1 | h1
  · obtain ⟨e, he, hb⟩ := Array.any_eq_true'.1 h1
    simp only [Bool.and_eq_true, beq_iff_eq] at hb
    exact absurd hb.2 (hno e he hb.1)
  · exact h1

theorem anyB_first {i : Nat} {oi : Oper} {v : Value} (hi : A[i]? = some oi) (hsel : ∀ (j : Nat) (o : Oper) cs b, A[j]? = some o → o.op ≠ .select cs b) :
    ∀ (n : Nat) (L : Array Bool) (a : Act) (w : World),
      (∀ j oj, A[j]? = some oj → j ≠ i → L.getD j true = false → (∀ e ∈ oj.after, Region.binds .any e = true → e.on ≠ i) → oi.apart A oj = true ∧ (kp oj.op = true ∨ memFree oi.op = true)) →
      i ∈ Region.ready .any A L → YieldsIf P A (fun w' => memFree oi.op = true ∨ Same w w') oi v a → anyB P A Q n (L.setIfInBounds i true) (a.put oi.dst v) w → anyB P A Q (n + 1) L a w := by
  have hq : ∀ (c : List PanicEntry) (a : Act) (w : World), NQ Q (.panic c) (a.put oi.dst v) w → NQ Q (.panic c) a w := fun c a w h => by cases h.1
  intro n
  induction n with
  | zero =>
    intro L a w _ hr hy H
    refine ⟨fun h => (by rw [h] at hr; cases hr), fun j hj => ?_⟩
    by_cases hji : j = i
    · subst hji; exact hy.wpOp hi (.inr (Same.refl w)) ⟨fun _ => Same.refl w, H⟩
    · have := ready_mono hj hji
      rw [H.1] at this
      cases this
  | succ n ih =>
    intro L a w hfree hr hy H
    refine ⟨fun h => (by rw [h] at hr; cases hr), fun j hj => ?_⟩
    by_cases hji : j = i
    · subst hji; exact hy.wpOp hi (.inr (Same.refl w)) ⟨fun _ => Same.refl w, H⟩
    · obtain ⟨hjun, oj, hoj, hall⟩ := mem_ready.1 hj
      have hnot : ∀ e ∈ oj.after, Region.binds .any e = true → e.on ≠ i := fun e he hb heq => by
        have h1 := hall e he hb
        have h0 := (mem_ready.1 hr).1
        rw [heq] at h1
        rcases Nat.lt_or_ge i L.size with h' | h'
        · simp [h'] at h0 h1; rw [h0] at h1; cases h1
        · simp [Array.getElem?_eq_none h'] at h1
      obtain ⟨hap, hkp⟩ := hfree j oj hoj hji hjun hnot
      have h2 := wpOp_putIf hoj hap (fun cs b => hsel i oi cs b hi) (fun cs b => hsel j oj cs b hoj) hq hy (H.2 j (ready_mono hj hji))
      refine wpOp_mono (fun a' w' h3 => ⟨h3.2.1, ?_⟩) h2
      have hmem : ∀ w2, (memFree oi.op = true ∨ Same w' w2) → memFree oi.op = true ∨ Same w w2 := fun w2 h => h.elim .inl fun h => hkp.elim (fun hk => .inr (by
        have hsame := h3.2.1 (by simp only [kpAt, hoj]; exact hk)
        exact hsame.trans h hsame.size)) .inl
      refine ih (L.setIfInBounds j true) a' w' (fun k ok hk hki hun hno => ?_) (ready_mono hr (Ne.symm hji)) (yieldsIf_mono h3.1 hmem) ?_
      · refine hfree k ok hk hki ?_ hno
        by_cases hjk : j = k
        · subst hjk; exact hjun
        · rw [getD_set_ne true hjk] at hun; exact hun
      · rw [Array.setIfInBounds_comm _ _ hji]
        exact h3.2.2
end

/-- A region, some of whose operations are done: whatever order is picked, it goes on. -/
def Drawn (P : Program) (f : Nat) (Q : Post) (k : List Item) (A : Array Oper) (n : Nat) (L : Array Bool) (st : St) : Prop :=
  ∀ S0 B w0 I a w, S0.nx = Q.lo → Rel S0 B w0 I st a w → anyB P A (fun a' w' => ∃ I' st', Rel S0 B w0 I' st' a' w' ∧ Run P f Q k st') n L a w

section
variable {P : Program} {f : Nat} {Q : Post} {k : List Item} {st st' : St} {A : Array Oper} {n : Nat} {L : Array Bool} {i : Nat}

theorem Rel.drawn {S0 : Interp} {B : Nat} {w0 : World} {I : Interp} {a : Act} {w : World} (h : Rel S0 B w0 I st a w) (m : Nat) : Rel S0 B w0 I st a { w with drawn := m } := by
  have e : Ext I w I { w with drawn := m } := ⟨fun _ h => h, fun _ _ => rfl, Nat.le_refl _, fun _ _ => rfl, fun _ _ => rfl, fun _ _ => rfl, fun b c h => ⟨c, h, rfl⟩⟩
  have := h.next (hp := st.hp) e ⟨rfl, rfl, rfl, Nat.le_refl _, fun _ _ => rfl⟩ (fun _ h => .inl h) h.ss (by
    obtain ⟨T, h1, h2, h3⟩ := h.hp
    exact ⟨T, h1.mono e (fun _ _ => rfl), h2, h3⟩)
  rw [h.nx] at this; exact this

theorem run_draw {id : Nat} {ops : Array Oper} (hm : P.follows .mixedOrders = true) (h : Drawn P f Q k ops ops.size (Array.replicate ops.size false) st) : Run P f Q (.code (.region id ops true) :: k) st := by
  intro S0 B w0 I a w hlo hr b hb hk cs
  have h1 := wp_region_any (id := id) (Q := NQ _) hm (wpAny_of_anyB _ _ _ _ (h S0 B w0 I a _ hlo (hr.drawn (w.drawn + 1))))
  obtain ⟨e, a', w', ⟨rfl, I', st', hr', hrun⟩, harr⟩ := h1 b k cs
  obtain ⟨e3, w3, fr, g1, g2, g3, g4⟩ := hrun S0 B w0 I' a' w' hlo hr' b hb hk cs
  exact ⟨e3, w3, fr, g1, Comes.of_steps harr g2, g3, g4⟩

theorem drawn_done (h : Run P f Q k st) (hr : Region.ready .any A L = []) : Drawn P f Q k A n L st := by
  intro S0 B w0 I a w hlo hrel
  cases n with
  | zero => exact ⟨hr, I, st, hrel, h⟩
  | succ n => exact ⟨fun _ => ⟨I, st, hrel, h⟩, by rw [hr]; simp⟩

theorem drawn_read {d : Nat} {op : Op} {t : Nat} {pos : String} {af : Array Edge} {g : Option (Nat × Bool)} {v : AV} (ho : A[i]? = some ⟨some d, op, t, pos, af, g⟩) (hc : clear A L i = true) (hw : Want A st g) (hd : Nat.blt d st.nt = true)
    (hop : Reads P st ⟨some d, op, t, pos, af, g⟩ v) (h : Drawn P f Q k A n (L.setIfInBounds i true) (st.set d v)) : Drawn P f Q k A (n + 1) L st := by
  intro S0 B w0 I a w hlo hr
  obtain ⟨x, h1, h2⟩ := hop S0 B w0 I a w hr
  obtain ⟨c1, c2, c3⟩ := clear_spec ho hc
  exact anyB_first ho c1 n L a w c3 c2 (.inl ⟨hr.wanted hw, h1⟩) (h S0 B w0 I _ w hlo (hr.put hd h2))

theorem drawn_skip {o : Oper} {j d : Nat} {want : Bool} {v : Value} (ho : A[i]? = some o) (hc : clear A L i = true) (hg : o.guard = some (j, want)) (hj : (A[j]?).bind (·.dst) = some d) (hd : Nat.blt d st.nt = true)
    (hv : get d st.tm = .lit v) (hb : asks v want = false) (hdst : ∀ d, o.dst = some d → Nat.blt d st.nt = true) (h : Drawn P f Q k A n (L.setIfInBounds i true) (match o.dst with | some d => st.set d (.lit undef) | none => st)) :
    Drawn P f Q k A (n + 1) L st := by
  intro S0 B w0 I a w hlo hr
  obtain ⟨c1, c2, c3⟩ := clear_spec ho hc
  refine anyB_first ho c1 n L a w c3 c2 (v := undef) (.inr ⟨?_, rfl⟩) (h S0 B w0 I _ w hlo ?_)
  · exact hr.yieldL hj hd hv hg hb
  · cases hdd : o.dst with
    | none => exact hr
    | some d => exact hr.put (hdst d hdd) (.std (.lit _))

theorem drawn_guard {o : Oper} {j d : Nat} {want b : Bool} (ho : A[i]? = some o) (hg : o.guard = some (j, want)) (hj : (A[j]?).bind (·.dst) = some d) (hd : Nat.blt d st.nt = true) (hv : get d st.tm = .lit (.bool b))
    (ht : b = true → Drawn P f Q k A n L (st.set d (.lit (.bool true)))) (hf : b = false → Drawn P f Q k A n L (st.set d (.lit (.bool false)))) : Drawn P f Q k A n L st := by
  intro S0 B w0 I a w hlo hr
  have hx := hr.tm d
  have hx2 := hx
  rw [hv] at hx2
  have hx3 := hx2.lit_inv
  have key : Rel S0 B w0 I (st.set d (.lit (.bool b))) a w := by
    refine { hr with tm := fun j => ?_ }
    show Rep I w (.v (get j ((d, _) :: st.tm)) _)
    rw [get_cons]
    by_cases e : d = j
    · subst e; rw [if_pos rfl, hx3]; exact .std (.lit _)
    · rw [if_neg e]; exact hr.tm j
  cases b
  · exact hf rfl S0 B w0 I a w hlo key
  · exact ht rfl S0 B w0 I a w hlo key

/-- The one operation that may come up. -/
theorem drawn_op {d : Nat} {op : Op} {t : Nat} {pos : String} {af : Array Edge} {g : Option (Nat × Bool)} {v : AV} (hrd : Region.ready .any A L = [i]) (ho : A[i]? = some ⟨some d, op, t, pos, af, g⟩) (hw : Want A st g) (hd : Nat.blt d st.nt = true)
    (hop : OpOK P st ⟨some d, op, t, pos, af, g⟩ v st') (h : Drawn P f Q k A n (L.setIfInBounds i true) (st'.set d v)) : Drawn P f Q k A (n + 1) L st := by
  intro S0 B w0 I a w hlo hr
  obtain ⟨hn, hop⟩ := hop
  obtain ⟨x, w', I', h1, h2, h3, h4⟩ := hop S0 B w0 I a w hr
  refine ⟨fun h0 => absurd (hrd ▸ h0) (by simp), fun j hj => ?_⟩
  rw [hrd, List.mem_singleton] at hj
  subst hj
  unfold wpOp
  simp only [ho]
  rw [if_pos (hr.wanted hw)]
  refine .inl ?_
  simp only [Oper.wp, h1, Oper.upon]
  exact ⟨fun hk => h4 (by simpa [kpAt, ho] using hk), h S0 B w0 I' _ w' hlo (h2.put (by rw [hn]; exact hd) h3)⟩

theorem drawn_do {op : Op} {t : Nat} {pos : String} {af : Array Edge} {g : Option (Nat × Bool)} (hrd : Region.ready .any A L = [i]) (ho : A[i]? = some ⟨none, op, t, pos, af, g⟩) (hw : Want A st g) (hkp : kp op = false)
    (hop : OpDo P st ⟨none, op, t, pos, af, g⟩ st') (h : Drawn P f Q k A n (L.setIfInBounds i true) st') : Drawn P f Q k A (n + 1) L st := by
  intro S0 B w0 I a w hlo hr
  obtain ⟨w', I', h1, h2⟩ := hop S0 B w0 I a w hr
  refine ⟨fun h0 => absurd (hrd ▸ h0) (by simp), fun j hj => ?_⟩
  rw [hrd, List.mem_singleton] at hj
  subst hj
  unfold wpOp
  simp only [ho]
  rw [if_pos (hr.wanted hw)]
  refine .inl ?_
  simp only [Oper.wp, h1, Oper.upon]
  exact ⟨fun hk => absurd hk (by simp [kpAt, ho, hkp]), h S0 B w0 I' _ w' hlo h2⟩

theorem drawn_call {d t g : Nat} {pos : String} {af : Array Edge} {gd : Option (Nat × Bool)} {xs : Array Operand} {ts : Array Nat} {fn : Func} {c : Code} {Qg : AV → Prop} {as : List AV} (hrd : Region.ready .any A L = [i])
    (ho : A[i]? = some ⟨some d, .call { callee := .value (.func g), args := xs, argTypes := ts }, t, pos, af, gd⟩) (hw : Want A st gd) (hd : Nat.blt d st.nt = true)
    (hg : P.funcs[g]? = some fn) (hb : fn.body = some c) (hn : (fn.name == "runtime.NumGoroutine") = false) (has : xs.toList.map st.ev = as) (hstd : as.all AV.std = true) (hgood : Good P g as Qg)
    (h : ∀ r, Qg r → r.flat3 = true ∧ Drawn P f Q k A n (L.setIfInBounds i true) ((st.back r).set d (imp st.nx r).1)) : Drawn P f Q k A (n + 1) L st := by
  intro S0 B w0 I a w hlo hr
  refine ⟨fun h0 => absurd (hrd ▸ h0) (by simp), fun j hj => ?_⟩
  rw [hrd, List.mem_singleton] at hj
  subst hj
  unfold wpOp
  simp only [ho]
  rw [if_pos (hr.wanted hw)]
  refine .inl ?_
  have hx : (execOp a.eval ⟨some d, .call { callee := .value (.func g), args := xs, argTypes := ts }, t, pos, af, gd⟩).run P w = .ok (.enter g (xs.toList.map a.eval).toArray) w := by
    have e0 : xs.map a.eval = (xs.toList.map a.eval).toArray := by rw [← Array.toList_map, Array.toArray_toList]
    have e1 : a.eval (.func g) = .func (.func g) #[] #[] := rfl
    simp only [execOp, resolve, e0, e1, Deferred.ofValue, Sem.run_bind, Sem.run_pure, Result.andThen_ok, invoke]
    rw [show (#[] ++ (xs.toList.map a.eval).toArray ++ #[] : Array Value) = (xs.toList.map a.eval).toArray from by simp]
    exact run_callFunc hg hb hn _
  simp only [Oper.wp, hx, Oper.upon]
  have h1 := hr.evs xs.toList
  rw [has] at h1
  refine (hgood I.S w _ hr.ss (h1.l_stds hstd)).mono fun e w' ⟨r, hq, hfin⟩ => ?_
  obtain ⟨hfl, hrest⟩ := h r hq
  have hbl := hfin
  obtain ⟨v, I', rfl, hr', hrep⟩ := hr.back hfin hfl
  obtain ⟨_, _, _, _, _, _, _, _, _, _, hbl⟩ := hbl
  exact ⟨fun _ b hb => hbl.block b hb, hrest S0 B w0 I' _ w' hlo (hr'.put (d := d) (by exact hd) hrep)⟩

end
end Go.Ax
