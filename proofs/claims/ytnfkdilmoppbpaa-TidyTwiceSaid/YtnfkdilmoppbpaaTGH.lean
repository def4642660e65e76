/- Loops over functions: the record, its rounds, and how a function leaves that holds one. -/
import Derived.Test.YtnfkdilmoppbpaaTGG
import Derived.RangeFuncLeaves
import Derived.RangeFuncRecord
set_option linter.unusedVariables false
set_option linter.unusedSimpArgs false

namespace Go.Ax
open Go.RowKit
set_option linter.unusedVariables false
set_option linter.unusedSimpArgs false

theorem Lasts.put {w : World} {l : Nat} {o o' : Obj} (h : w.heap[l]? = some o) (hc : ∀ c e z, o ≠ .cells c e z) : Lasts w (w.putObj l o') := fun b c hb => by
  obtain ⟨e, hb⟩ := hb
  refine ⟨c, ⟨e, (World.putObj_heap_other fun hbl => ?_).trans hb⟩, rfl⟩
  subst hbl; rw [h] at hb; cases hb; exact hc _ _ _ rfl
theorem Below.put {B : Nat} {w : World} {l : Nat} {o : Obj} (h : B ≤ l) : Below B w (w.putObj l o) :=
  ⟨rfl, rfl, rfl, by simp, fun k hk => World.putObj_heap_other (by omega)⟩

section
variable {P : Program} {f : Nat} {Q : Post} {k : List Item} {st : St} {A : Array Oper} {i : Nat} {rest : List Nat}

def Lp.ob (L : Lp) (us : Array Value) (df : Nat) (s : LoopState) (pn : Option Code) : Loop := { state := s, pending := pn, fn := L.f, tmps := us, params := L.ps, assign := L.assign, body := L.body, defers := df }

/-- The record, and what becomes of the standing when its state is another one. -/
theorem Rel.lp {S0 : Interp} {B : Nat} {w0 : World} {I : Interp} {a : Act} {w : World} (hr : Rel S0 B w0 I st a w) {id : Nat} {L : Lp} (hrow : row id st.hp = some (.lp L)) :
    ∃ us df, w.heap[L.l]? = some (.loop (L.ob us df L.s L.pend)) ∧ us.size = L.nt ∧ (∀ d, Rep I w (.v (get d L.tm) (us.getD d undef))) ∧
      (∀ s pn, Rel S0 B w0 I ⟨st.tm, (id, .lp { L with s := s, pend := pn }) :: rem id st.hp, st.nx, st.nt⟩ a (w.putObj L.l (.loop (L.ob us df s pn)))) ∧
      w.heap[L.D]? = some (.deferred (some [])) ∧ Rel S0 B w0 I ⟨st.tm, rem id st.hp, st.nx, st.nt⟩ a (w.putObj L.D (.deferred none)) := by
  obtain ⟨T, t1, t2, t3⟩ := hr.hp
  obtain ⟨F, T', g1, g2, g3⟩ := t1.take hrow
  cases g1 with
  | @lp _ us df hi ha h1 h2 hu hv =>
    have hnd := g3.nodup_iff.1 t2
    have hlT : ∀ z ∈ T', z ≠ L.l ∧ z ≠ L.D := fun z hz => by
      have h3 := (List.nodup_append.1 hnd).2.2
      exact ⟨fun e => h3 L.l (by simp) z hz e.symm, fun e => h3 L.D (by simp) z hz e.symm⟩
    have hlt := t3 L.l (g3.mem_iff.2 (by simp))
    have hDt := t3 L.D (g3.mem_iff.2 (by simp))
    have hlD : L.l ≠ L.D := fun e => by rw [e, h2] at h1; cases h1
    refine ⟨us, df, h1, hu, hv, fun s pn => ?_, h2, ?_⟩
    · let w' := w.putObj L.l (.loop (L.ob us df s pn))
      have he : Ext I w I w' := ⟨fun _ h => h, fun b hb => World.putObj_heap_other fun e => hlt.2.1 (e ▸ hb), Nat.le_refl _, fun _ _ => rfl, fun _ _ => rfl, fun _ _ => rfl, Lasts.put h1 (by intro _ _ _ h; cases h)⟩
      have := hr.next he (Below.put hlt.1) (fun _ h => .inl h) (fun b hb => by have := hr.ss b hb; simp [w']; omega) (hp := (id, .lp { L with s := s, pend := pn }) :: rem id st.hp)
        ⟨[L.l, L.D] ++ T', .cons (.lp (us := us) (df := df) hi ha (World.putObj_heap_same hlt.2.2) ((World.putObj_heap_other (Ne.symm hlD)).trans h2) hu (fun d => (hv d).mono he)) (g2.mono he fun b hb => World.putObj_heap_other (hlT b hb).1), hnd, fun z hz => by
          have := t3 z (g3.mem_iff.2 hz); exact ⟨this.1, this.2.1, by simp [w']; exact this.2.2⟩⟩
      rw [hr.nx] at this; exact this
    · let w' := w.putObj L.D (.deferred none)
      have he : Ext I w I w' := ⟨fun _ h => h, fun b hb => World.putObj_heap_other fun e => hDt.2.1 (e ▸ hb), Nat.le_refl _, fun _ _ => rfl, fun _ _ => rfl, fun _ _ => rfl, Lasts.put h2 (by intro _ _ _ h; cases h)⟩
      have := hr.next he (Below.put hDt.1) (fun _ h => .inl h) (fun b hb => by have := hr.ss b hb; simp [w']; omega) (hp := rem id st.hp)
        ⟨T', g2.mono he fun b hb => World.putObj_heap_other (hlT b hb).2, (List.nodup_append.1 hnd).2.1, fun z hz => by
          have := t3 z (g3.mem_iff.2 (List.mem_append_right _ hz)); exact ⟨this.1, this.2.1, by simp [w']; exact this.2.2⟩⟩
      rw [hr.nx] at this; exact this

/-- A round begins. -/
theorem run_begin (id : Nat) {L : Lp} (hrow : row id st.hp = some (.lp L)) (hro : Q.ro = some L.l) (hs : L.s = .ready) (h : Run P f Q k ⟨st.tm, (id, .lp { L with s := .busy }) :: rem id st.hp, st.nx, st.nt⟩) : Run P f Q (.beginRound :: k) st := by
  refine fun S0 B w0 I a w hlo hr hds b hb hk hbro cs => ?_
  obtain ⟨us, df, h1, _, _, h2, _⟩ := hr.lp hrow
  have h3 := run_beginRound (P := P) h1 hs
  obtain ⟨e, w', g1, g2⟩ := h S0 B w0 I a _ hlo (h2 .busy L.pend) hds b hb hk hbro cs
  exact ⟨e, w', g1, g2.of_steps (.one (stepR_beginRound (hbro.trans hro) h3))⟩

theorem inlR_mk {S0 : Interp} {B : Nat} {w0 : World} {I : Interp} {a : Act} {w : World} (hr : Rel S0 B w0 I st a w) {r : AV} {v : Value} {K : AV → HP → Nat → Prop} (hk : K r st.hp st.nx) (hv : Rep I w (.v r v)) : inlR K S0 B w0 (.returned v) w :=
  ⟨v, r, st.hp, st.nx, I, rfl, hk, hr.nx, hv, hr.hp, hr.ss, hr.ext, hr.sb, hr.bl, hr.bs⟩

/-- A round's end: off its end, by return, by an exit. -/
theorem run_rend (id : Nat) {L : Lp} {lo : Nat} {K : AV → HP → Nat → Prop} (hrow : row id st.hp = some (.lp L)) (hk2 : K (.lit (.bool true)) ((id, .lp { L with s := .ready, pend := none }) :: rem id st.hp) st.nx) : Run P f (Post.rnd L.l lo K) [] st := by
  intro S0 B w0 I a w hlo hr hds b hb hk hbro cs
  obtain ⟨us, df, h1, _, _, h2, _⟩ := hr.lp hrow
  have h3 := run_endRound (P := P) none h1
  refine ⟨_, _, inlR_mk (h2 .ready none) hk2 (.std (.lit _)), .bool true, rfl, fun c cs' e => ?_⟩
  subst e
  exact .one (stepR_round_end hbro hk h3)
theorem run_rret (id : Nat) {L : Lp} {lo : Nat} {K : AV → HP → Nat → Prop} (hrow : row id st.hp = some (.lp L)) (hk2 : K (.lit (.bool false)) ((id, .lp { L with s := .done, pend := some .ret }) :: rem id st.hp) st.nx) : Run P f (Post.rnd L.l lo K) (.code .ret :: k) st := by
  intro S0 B w0 I a w hlo hr hds b hb hk hbro cs
  obtain ⟨us, df, h1, _, _, h2, _⟩ := hr.lp hrow
  have h3 := run_endRound (P := P) (some .ret) h1
  refine ⟨_, _, inlR_mk (h2 .done (some .ret)) hk2 (.std (.lit _)), .bool false, rfl, fun c cs' e => ?_⟩
  subst e
  exact .one (stepR_round_ret hbro hk h3)
theorem run_rexit (id : Nat) {L : Lp} {lo x : Nat} {K : AV → HP → Nat → Prop} (hrow : row id st.hp = some (.lp L)) (hx : exitTo x k = none) (hk2 : K (.lit (.bool false)) ((id, .lp { L with s := .done, pend := some (.exit x) }) :: rem id st.hp) st.nx) : Run P f (Post.rnd L.l lo K) (.code (.exit x) :: k) st := by
  intro S0 B w0 I a w hlo hr hds b hb hk hbro cs
  obtain ⟨us, df, h1, _, _, h2, _⟩ := hr.lp hrow
  have h3 := run_endRound (P := P) (some (.exit x)) h1
  refine ⟨_, _, inlR_mk (h2 .done (some (.exit x))) hk2 (.std (.lit _)), .bool false, rfl, fun c cs' e => ?_⟩
  subst e
  exact .one (stepR_round_exit hbro hk hx h3)

/-- Behind a frame whose heap was its caller's. -/
theorem Rel.inl {S0 : Interp} {B : Nat} {w0 : World} {I : Interp} {a : Act} {w w2 : World} (hr : Rel S0 B w0 I st a w) {K : AV → HP → Nat → Prop} {e : Ending} (h : inlR K I B w e w2) :
    ∃ v r hp nx I', e = .returned v ∧ K r hp nx ∧ Rep I' w2 (.v r v) ∧ Rel S0 B w0 I' ⟨st.tm, hp, nx, st.nt⟩ a w2 := by
  obtain ⟨v, r, hp', nx', I', rfl, hK, hnx, hrep, hhp, hss, hext, hsb, hbl, hbs⟩ := h
  exact ⟨v, r, hp', nx', I', rfl, hK, hrep, fun d => (hr.tm d).mono hext, hr.nt, hnx, hhp, hss, hr.ext.trans hext, fun b hb => (hsb b hb).elim (hr.sb b) .inr, hr.bl.trans hbl, hbs⟩

theorem run_yield_rec {L : Lp} {us : Array Value} {df : Nat} {w : World} {args : Array Value} (h : w.heap[L.l]? = some (.loop (L.ob us df L.s L.pend))) (hs : args.size = L.ps.size) :
    (Instr.yield L.l args).run P w = .ok (.round L.l L.f ((L.ps.zip args).foldl (fun tmps (p : Nat × Value) => tmps.setIfInBounds p.1 p.2) us) L.assign L.body) w := Go.run_yield h hs

/-- Slots, and values put over them. -/
def putAll : List (Nat × AV) → TM → TM
  | [], tm => tm
  | p :: ps, tm => putAll ps (p :: tm)
theorem putAll_rep {I : Interp} {w : World} {nt : Nat} : ∀ (ps : List Nat) (as : List AV) (vs : List Value) (tm : TM) (us : Array Value), Rep I w (.l as vs) → us.size = nt → (∀ p ∈ ps, p < nt) → ps.length = as.length → (∀ d, Rep I w (.v (get d tm) (us.getD d undef))) →
    ((ps.zip vs).foldl (fun u (p : Nat × Value) => u.setIfInBounds p.1 p.2) us).size = nt ∧ ∀ d, Rep I w (.v (get d (putAll (ps.zip as) tm)) (((ps.zip vs).foldl (fun u (p : Nat × Value) => u.setIfInBounds p.1 p.2) us).getD d undef))
  | [], as, vs, tm, us, _, hs, _, _, h => by simp only [List.zip_nil_left, List.foldl_nil, putAll]; exact ⟨hs, h⟩
  | p :: ps, [], vs, tm, us, _, _, _, hl, _ => by simp at hl
  | p :: ps, a :: as, vs, tm, us, hr, hs, hp, hl, h => by
    cases hr with
    | @cons _ v _ vs' h1 h2 =>
      simp only [List.zip_cons_cons, List.foldl_cons, putAll]
      refine putAll_rep ps as vs' ((p, a) :: tm) _ h2 (by simpa using hs) (fun q hq => hp q (List.mem_cons_of_mem _ hq)) (by simpa using hl) fun d => ?_
      have hpn := hp p (List.mem_cons_self ..)
      rw [get_cons]
      by_cases e : p = d
      · subst e; simpa [hs, hpn] using h1
      · rw [if_neg e]
        have h2 : (us.setIfInBounds p v).getD d undef = us.getD d undef := by simp [Array.getD_eq_getD_getElem?, e]
        rw [h2]; exact h d

/-- A call of yield: one round. -/
theorem run_yield (id : Nat) {L : Lp} {d t l : Nat} {pos : String} {af : Array Edge} {gd : Option (Nat × Bool)} {xs : Array Operand} {ts : Array Nat} {x : Operand} {as : List AV} {K : AV → HP → Nat → Prop}
    (ho : A[i]? = some ⟨some d, .call { callee := .value x, args := xs, argTypes := ts }, t, pos, af, gd⟩) (hw : Want A st gd) (hd : Nat.blt d st.nt = true) (hx : st.ev x = .lit (.func (.yield l) #[] #[]))
    (hrow : row id st.hp = some (.lp L)) (hl : L.l = l) (has : xs.toList.map st.ev = as) (hps : L.ps.toList.length = as.length) (hpn : L.ps.toList.all (fun p => Nat.blt p L.nt) = true)
    (hrun : Run P L.f (Post.rnd L.l st.nx K) [.code L.assign, .beginRound, .code L.body] ⟨putAll (L.ps.toList.zip as) L.tm, st.hp, st.nx, L.nt⟩)
    (h : ∀ r hp nx, K r hp nx → Run P f Q (.inRegion A rest :: k) ⟨(d, r) :: st.tm, hp, nx, st.nt⟩) : Run P f Q (.inRegion A (i :: rest) :: k) st := by
  subst hl
  intro S0 B w0 I a w hlo hr hds b hbf hk hro cs
  obtain ⟨us, df, h1, hu, hv, _, _⟩ := hr.lp hrow
  have hargs := hr.evs xs.toList
  rw [has] at hargs
  have hex : a.eval x = .func (.yield L.l) #[] #[] := by
    have := hr.ev x; rw [hx] at this; exact this.lit_inv
  have hsz : (xs.map a.eval).size = L.ps.size := by
    rw [← Array.length_toList, ← Array.length_toList, Array.toList_map]
    have := hargs.l_len
    omega
  have hy := run_yield_rec (P := P) (L := L) (us := us) (df := df) (args := xs.map a.eval) h1 hsz
  have hxx : (execOp a.eval ⟨some d, .call { callee := .value x, args := xs, argTypes := ts }, t, pos, af, gd⟩).run P w = .ok (.round L.l L.f ((L.ps.zip (xs.map a.eval)).foldl (fun tmps (p : Nat × Value) => tmps.setIfInBounds p.1 p.2) us) L.assign L.body) w := by
    simp only [execOp, resolve, hex, Deferred.ofValue, Sem.run_bind, Sem.run_pure, Result.andThen_ok, invoke]
    simpa using hy
  obtain ⟨p1, p2⟩ := putAll_rep (I := I) (w := w) L.ps.toList as _ L.tm us hargs hu (fun p hp => by simpa using List.all_eq_true.1 hpn p hp) hps hv
  obtain ⟨us2, hus2⟩ : ∃ us2, us2 = (L.ps.zip (xs.map a.eval)).foldl (fun (tmps : Array Value) (p : Nat × Value) => tmps.setIfInBounds p.1 p.2) us := ⟨_, rfl⟩
  have e2 : (L.ps.toList.zip (xs.toList.map a.eval)).foldl (fun (u : Array Value) (p : Nat × Value) => u.setIfInBounds p.1 p.2) us = us2 := by
    rw [hus2, ← Array.foldl_toList, Array.toList_zip, Array.toList_map]
  rw [e2] at p1 p2
  rw [← hus2] at hxx
  obtain ⟨T, t1, t2, t3⟩ := hr.hp
  have hst0 : Rel I B w I ⟨putAll (L.ps.toList.zip as) L.tm, st.hp, st.nx, L.nt⟩ { tmps := us2, defers := [] } w :=
    ⟨p2, p1, hr.nx, ⟨T, t1, t2, t3⟩, hr.ss, Ext.refl _ _, fun _ h => .inl h, Below.refl _ _, hr.bs⟩
  let b2 : Frame := { (default : Frame) with fn := L.f, kind := .normal, roundOf := some L.l }
  have hb2 : Frame.round L.l L.f us2 L.assign L.body .normal = b2.atR { tmps := us2, defers := [] } [.code L.assign, .beginRound, .code L.body] := by simp [Frame.round, Frame.atR, b2]
  obtain ⟨e, w2, hR, v, rfl, hst⟩ := hrun I B w I _ w hr.nx hst0 rfl b2 rfl rfl rfl (b.atR a (.inRegion A (i :: rest) :: k) :: cs)
  obtain ⟨v', r, hp', nx', I', ev, hK, hrep, hrel⟩ := hr.inl hR
  cases ev
  have hst := hst _ _ rfl
  rw [← hb2] at hst
  have hg := stepGR_op (P := P) (b := b) (k := k) (cs := cs) (w := w) (rest := rest) ho (hr.wanted hw)
  rw [semAt_of hxx (by intro d h; cases h)] at hg
  have hfin : (b.atR a (.inRegion A (i :: rest) :: k)).finish v = b.atR (a.put (some d) v) (.inRegion A rest :: k) := by rw [Frame.finish_atR, ho]; rfl
  have henter : step P (lone (b.atR a (.inRegion A (i :: rest) :: k)) cs w) = .next (lone (Frame.round L.l L.f us2 L.assign L.body .normal) (b.atR a (.inRegion A (i :: rest) :: k) :: cs) w) :=
    step_lone_go (by rw [hg]; simp [stepG.apply, hxx, Frame.atR])
  rw [hfin] at hst
  obtain ⟨e3, w3, g1, g2⟩ := h r hp' nx' hK S0 B w0 I' _ w2 hlo (hrel.put (d := d) hd hrep) hds b hbf hk hro cs
  exact ⟨e3, w3, g1, g2.of_steps (.head henter hst)⟩

/-- A mark among the deferred calls. -/
def markD (D : Nat) : List Deferred := [{ target := .collected D, args := #[] }]

/-- The loop as a whole. -/
theorem run_range {g : Operand} {gid : Nat} {cs : List AV} {fn : Func} {c : Code} {ps : Array Nat} {assign body : Code} {K : Nat → Nat → AV → HP → Nat → Prop} (hx : st.ev g = .fn gid cs) (hg : P.funcs[gid]? = some fn) (hb : fn.body = some c)
    (hn : (fn.name == "runtime.NumGoroutine") = false) (hro : Q.ro = none) (hds : Q.ds = []) (hnt : Nat.ble (cs.length + 1) fn.ntmps = true)
    (hrun : ∀ l D, Run P gid (Post.inl (st.nx + 1) (K l D)) [.code c] ⟨slots 0 (.lit (.func (.yield l) #[] #[]) :: cs), (st.nx, .lp ⟨l, D, f, st.nt, st.tm, ps, assign, body, .ready, none⟩) :: st.hp, st.nx + 1, fn.ntmps⟩)
    (h : ∀ l D r hp nx, K l D r hp nx → ∃ L, row st.nx hp = some (.lp L) ∧ L.l = l ∧ L.D = D ∧ L.s ≠ .busy ∧ Run P f { Q with ds := markD D } ((L.pend.map Item.code).toList ++ k) ⟨st.tm, (st.nx, .lp { L with s := .exhausted }) :: rem st.nx hp, nx, st.nt⟩) :
    Run P f Q (.code (.rangeFunc g ps assign body) :: k) st := by
  intro S0 B w0 I a w hlo hr hdd b hbf hk hbro fs
  obtain ⟨vs, e1, e2⟩ := hr.evl hx
  let D := w.heap.size
  let l := w.heap.size + 1
  let W0 : World := w.alloc (.deferred (some []))
  let L0 : Lp := ⟨l, D, f, st.nt, st.tm, ps, assign, body, .ready, none⟩
  let W1 : World := W0.alloc (.loop (L0.ob a.tmps D .ready none))
  have hsz : W1.heap.size = w.heap.size + 2 := by simp [W1, W0, World.size_alloc]
  have hold : ∀ z, z < w.heap.size → W1.heap[z]? = w.heap[z]? := fun z hz =>
    (Below.heap_alloc W0 _ z (by simp [W0, World.size_alloc]; omega)).trans (Below.heap_alloc w _ z hz)
  have hl : W1.heap[l]? = some (.loop (L0.ob a.tmps D .ready none)) := by
    have := World.alloc_heap_new W0 (.loop (L0.ob a.tmps D .ready none)); rwa [World.size_alloc] at this
  have hD : W1.heap[D]? = some (.deferred (some [])) := (Below.heap_alloc W0 _ _ (by simp [W0, D, World.size_alloc])).trans (World.alloc_heap_new w _)
  have hlast : Lasts w W1 := fun z cc hz => by
    have hlt := hz.lt
    obtain ⟨e, hz⟩ := hz
    exact ⟨cc, ⟨e, (hold z hlt).trans hz⟩, rfl⟩
  have he : Ext I w (I.add (some (l, D)) 0 0) W1 := Ext.add _ _ _ (fun z hz => hold z (hr.ss z hz)) hlast
  have hbl : Below B w W1 := by
    have h1 : Below w.heap.size w W1 := ((Below.refl _ w).alloc (Nat.le_refl _) _).alloc (by simp [World.size_alloc]) _
    exact h1.mono hr.bs
  obtain ⟨T, t1, t2, t3⟩ := hr.hp
  have hr1 := hr.next he hbl (fun _ h => .inl h) (fun z hz => by have := hr.ss z hz; omega) (hp := (st.nx, .lp L0) :: st.hp)
    ⟨[l, D] ++ T, .cons (.lp (us := a.tmps) (df := D) (by show st.nx < I.nx + 1; rw [hr.nx]; omega) (by simp [Interp.add, hr.nx, L0]) hl hD hr.nt (fun d => (hr.tm d).mono he)) (t1.mono he fun z hz => hold z (t3 z hz).2.2), by
      refine List.nodup_append.2 ⟨by simp [l, D], t2, fun x hx y hy e => ?_⟩
      have := (t3 y hy).2.2
      simp [l, D] at hx
      omega, fun z hz => by
      rcases List.mem_append.1 hz with hz | hz
      · have hS : ¬ I.S z := fun h => by have := hr.ss z h; simp [l, D] at hz; omega
        have := hr.bs
        simp [l, D] at hz
        exact ⟨by omega, hS, by omega⟩
      · have := t3 z hz; exact ⟨this.1, this.2.1, by omega⟩⟩
  have hnx : (I.add (some (l, D)) 0 0).nx = st.nx + 1 := by show I.nx + 1 = _; rw [hr.nx]
  rw [hnx] at hr1
  have hargs : Rep (I.add (some (l, D)) 0 0) W1 (.l (.lit (.func (.yield l) #[] #[]) :: cs) (.func (.yield l) #[] #[] :: vs)) := .cons (.std (.lit _)) (e2.mono he)
  have hcall := calls_inl (P := P) hr1 hg hb (by simpa using hnt) hargs (hrun l D)
  obtain ⟨e, w2, fr, ⟨v, r, hp', nx', I', rfl, hK, hrep, hrel, _⟩, hcomes, _, hleave⟩ := hcall (b.atR { a with defers := markD D ++ a.defers } (.inRangeFunc l :: k) :: fs)
  obtain ⟨L, hrow, hLl, hLD, hLs, hgo⟩ := h l D r hp' nx' hK
  have s1 : step P (lone (b.atR a (.code (.rangeFunc g ps assign body) :: k)) fs w) =
      .next (lone (Frame.enter P gid (Value.func (.yield l) #[] #[] :: vs).toArray .normal) (b.atR { a with defers := markD D ++ a.defers } (.inRangeFunc l :: k) :: fs) W1) := by
    refine stepR_rangeFunc (w₁ := W1) (w₁' := W1) (d := { target := .fn (.func gid) vs.toArray, args := #[.func (.yield l) #[] #[]] }) ?_ ?_ ?_
    · rw [hbro, hro, hbf]; exact run_enterLoop_outer _ _ _ _ _
    · simp only [resolve, e1]
      simp [Deferred.ofValue, Act.eval]
    · simp only [invoke]
      have := run_callFunc (P := P) (w := W1) hg hb hn (Value.func (.yield l) #[] #[] :: vs).toArray
      simpa using this
  have s2 : step P (lone fr (b.atR { a with defers := markD D ++ a.defers } (.inRangeFunc l :: k) :: fs) w2) = .next (lone (b.atR { a with defers := markD D ++ a.defers } (.endRangeFunc l :: k)) fs w2) := by
    rw [← finish_atR_inRangeFunc l v]; exact step_leave_returned hleave
  obtain ⟨us, df, k1, _, _, k2, _⟩ := hrel.lp hrow
  have s3 : (Instr.endLoop l).run P w2 = .ok L.pend (w2.putObj L.l (.loop (L.ob us df .exhausted L.pend))) := by
    rw [← hLl]; exact run_endLoop (P := P) k1 hLs
  have hrel2 := k2 .exhausted L.pend
  obtain ⟨e3, w3, g1, g2⟩ := hgo S0 B w0 I' { a with defers := markD D ++ a.defers } _ hlo ⟨hrel2.tm, hrel2.nt, hrel2.nx, hrel2.hp, hrel2.ss, hrel2.ext, hrel2.sb, hrel2.bl, hrel2.bs⟩ (by show markD D ++ a.defers = markD D; rw [hdd, hds]; rfl) b hbf hk hbro fs
  refine ⟨e3, w3, g1, Goes.of_steps (.head s1 (Steps.trans hcomes (.head s2 (.one (stepR_endRangeFunc s3))))) g2⟩

/-- A function that holds such a loop leaves. -/
theorem run_leaveD (id : Nat) {L : Lp} {D : Nat} {Qa : AV → Prop} {fn : Func} {rs : List AV} (hrow : row id st.hp = some (.lp L)) (hD : L.D = D) (hf : P.funcs[f]? = some fn)
    (h : ResL P ⟨st.tm, rem id st.hp, st.nx, st.nt⟩ (rem id st.hp) fn.results.toList rs) (hq : Qa (asRes rs)) :
    Run P f { Post.one Qa with ds := markD D } (.code .ret :: k) st ∧ Run P f { Post.one Qa with ds := markD D } [] st := by
  subst hD
  have key : ∀ S0 B w0 I a w, Rel S0 B w0 I st a w → a.defers = markD L.D → ∀ (b : Frame), b.fn = f → b.kind = .normal → ∀ (todo : List Item) cs, ∃ e w' fr, (Post.one Qa).R S0 B w0 e w' ∧ Comes P (lone { b.atR a todo with mode := .returning } cs w) (lone fr cs w') e ∧ fr.fn = f ∧ fr.leaving P w' e := by
    intro S0 B w0 I a w hr hds b hb hk todo cs
    obtain ⟨us, df, _, _, _, _, h1, h2⟩ := hr.lp hrow
    have h3 := run_takeDeferred (P := P) h1
    obtain ⟨v, g1, g2⟩ := leave_of (a := { tmps := a.tmps, defers := [] }) hf h ⟨h2.tm, h2.nt, h2.nx, h2.hp, h2.ss, h2.ext, h2.sb, h2.bl, h2.bs⟩ rfl b hb hk todo
    refine ⟨_, _, { b.atR { tmps := a.tmps, defers := [] } todo with mode := .returning }, ⟨_, hq, g1⟩, ?_, hb, g2⟩
    have := step_collected (P := P) (cs := cs) (fr := { b.atR a todo with mode := .returning }) (ds := []) (by simp) hds rfl h3
    exact Steps.one this
  constructor
  · intro S0 B w0 I a w hlo hr hds b hb hk hro cs
    obtain ⟨e, w', fr, g1, g2, g3, g4⟩ := key S0 B w0 I a w hr hds b hb hk (.code .ret :: k) cs
    exact ⟨e, w', g1, fr, Comes.of_steps (.one (stepR_ret hro)) g2, g3, g4⟩
  · intro S0 B w0 I a w hlo hr hds b hb hk hro cs
    obtain ⟨e, w', fr, g1, g2, g3, g4⟩ := key S0 B w0 I a w hr hds b hb hk [] cs
    exact ⟨e, w', g1, fr, Comes.of_steps (.one (stepR_end hro)) g2, g3, g4⟩
end

/-- Where a loop's record lies. -/
def findLp : HP → Option (Nat × Lp)
  | [] => none
  | (id, .lp L) :: _ => some (id, L)
  | _ :: r => findLp r
theorem findLp_row {id : Nat} {L : Lp} : ∀ {hp : HP}, findLp hp = some (id, L) → row id hp = some (.lp L) ∨ row id hp ≠ none
  | (j, .lp M) :: r, h => by
    simp only [findLp, Option.some.injEq, Prod.mk.injEq] at h
    obtain ⟨rfl, rfl⟩ := h
    simp [row]
  | (j, .var cs) :: r, h => by
    simp only [row]
    cases Nat.beq j id with
    | true => simp
    | false => exact findLp_row (hp := r) h
  | (j, .row a b) :: r, h => by
    simp only [row]
    cases Nat.beq j id with
    | true => simp
    | false => exact findLp_row (hp := r) h
  | (j, .foc ..) :: r, h => by
    simp only [row]
    cases Nat.beq j id with
    | true => simp
    | false => exact findLp_row (hp := r) h

section
variable {P : Program} {f : Nat}
/-- How a function that holds such a loop is reckoned to its end. -/
def retD (tr : TyT) (nt : Nat) (res : List ResultVar) (D : Nat) (Q : AV → Prop) (tm : TM) (hp : HP) (nx : Nat) : Prop := unfAll (fun hp => match findLp hp with
  | some (id, L) => match row id hp with
    | some (.lp M) => Need (M.D = D) (resK tr ⟨tm, rem id hp, nx, nt⟩ res (rem id hp) (fun rs => Q (asRes rs)) False)
    | _ => False
  | none => False) 4 hp
theorem retD_ok {tr : TyT} (hT : tr.OK P) {fn : Func} {nt D : Nat} (hf : P.funcs[f]? = some fn) {Q : AV → Prop} (k : List Item) (tm : TM) (hp : HP) (nx : Nat) (h : retD tr nt fn.results.toList D Q tm hp nx) :
    Run P f { Post.one Q with ds := markD D } (.code .ret :: k) ⟨tm, hp, nx, nt⟩ ∧ Run P f { Post.one Q with ds := markD D } [] ⟨tm, hp, nx, nt⟩ := by
  constructor
  all_goals
    refine unfAll_ok (fun hp h => ?_) 4 hp h
    split at h
    · split at h
      · rename_i hrow
        obtain ⟨hD, h⟩ := h
        rcases resK_ok hT h with ⟨rs, h1, h2⟩ | h
        · first | exact (run_leaveD (k := k) _ hrow hD hf h1 h2).1 | exact (run_leaveD (k := k) _ hrow hD hf h1 h2).2
        · exact h.elim
      · exact h.elim
    · exact h.elim
theorem goD [HT : HasT P] {fn : Func} {Q : AV → Prop} (n : Nat) (hf : P.funcs[f]? = some fn) {D : Nat} {todo : List Item} {tm : TM} {hp : HP} {nx nt : Nat}
    (h : onT tm fun tm => onH hp fun hp => exec P HT.tr f { Post.one Q with ds := markD D } nt (fun _ => retD HT.tr nt fn.results.toList D Q) n [] todo tm hp nx) : Run P f { Post.one Q with ds := markD D } todo ⟨tm, hp, nx, nt⟩ := by
  rw [onT_eq, onH_eq] at h
  exact exec_ok HT.ok (fun k tm hp nx => ⟨fun h => (retD_ok HT.ok hf k tm hp nx h).1, fun h => (retD_ok HT.ok hf k tm hp nx h).2⟩) n [] todo tm hp nx h

/-- How a round is reckoned. -/
def retR (K : AV → HP → Nat → Prop) (l : Nat) (byRet : Bool) (hp : HP) (nx : Nat) : Prop := match findLp hp with
  | some (id, L) => match row id hp with
    | some (.lp M) => Need (M.l = l) (bif byRet then onH (rem id hp) fun h => K (.lit (.bool false)) ((id, .lp { M with s := .done, pend := some .ret }) :: h) nx
        else onH (rem id hp) fun h => K (.lit (.bool true)) ((id, .lp { M with s := .ready, pend := none }) :: h) nx)
    | _ => False
  | none => False
theorem goR [HT : HasT P] {K : AV → HP → Nat → Prop} {l lo : Nat} (n : Nat) {todo : List Item} {tm : TM} {hp : HP} {nx nt : Nat}
    (h : onT tm fun tm => onH hp fun hp => exec P HT.tr f (Post.rnd l lo K) nt (fun b _ hp nx => retR K l b hp nx) n [] todo tm hp nx) : Run P f (Post.rnd l lo K) todo ⟨tm, hp, nx, nt⟩ := by
  rw [onT_eq, onH_eq] at h
  refine exec_ok HT.ok (fun k tm hp nx => ⟨fun h1 => ?_, fun h1 => ?_⟩) n [] todo tm hp nx h
  all_goals
    clear h
    have h := h1
    clear h1
    unfold retR at h
    split at h
    · split at h
      · rename_i hrow
        obtain ⟨rfl, h⟩ := h
        simp only [cond_true, cond_false, onH_eq] at h
        first | exact run_rret _ hrow h | exact run_rend _ hrow h
      · exact h.elim
    · exact h.elim
end
end Go.Ax

/- Calls with the heap, rounds and loops over functions, each with what comes behind it; lists that are nil. -/
namespace Go.Ax
open Go.RowKit
set_option linter.unusedVariables false

section
variable {P : Program} {f : Nat} {Q : Post} {k : List Item} {st : St} {A : Array Oper} {i : Nat} {rest : List Nat}
theorem run_inlC {d t g : Nat} {pos : String} {af : Array Edge} {gd : Option (Nat × Bool)} {xs : Array Operand} {ts : Array Nat} {x : Operand} {fn : Func} {c : Code} {as cs : List AV}
    (ho : A[i]? = some ⟨some d, .call { callee := .value x, args := xs, argTypes := ts }, t, pos, af, gd⟩) (hw : Want A st gd) (hd : Nat.blt d st.nt = true) (hx : st.ev x = .fn g cs)
    (hg : P.funcs[g]? = some fn) (hb : fn.body = some c) (hn : (fn.name == "runtime.NumGoroutine") = false) (has : xs.toList.map st.ev ++ cs = as) (hnt : Nat.ble as.length fn.ntmps = true)
    (hrun : Run P g (Post.inl st.nx fun r hp nx => Run P f Q (.inRegion A rest :: k) ⟨(d, r) :: st.tm, hp, nx, st.nt⟩) [.code c] ⟨slots 0 as, st.hp, st.nx, fn.ntmps⟩) : Run P f Q (.inRegion A (i :: rest) :: k) st :=
  run_inl ho hw hd hx hg hb hn has hnt hrun fun _ _ _ h => h
theorem run_yieldC (id : Nat) {L : Lp} {d t l : Nat} {pos : String} {af : Array Edge} {gd : Option (Nat × Bool)} {xs : Array Operand} {ts : Array Nat} {x : Operand} {as : List AV}
    (ho : A[i]? = some ⟨some d, .call { callee := .value x, args := xs, argTypes := ts }, t, pos, af, gd⟩) (hw : Want A st gd) (hd : Nat.blt d st.nt = true) (hx : st.ev x = .lit (.func (.yield l) #[] #[]))
    (hrow : row id st.hp = some (.lp L)) (hl : L.l = l) (has : xs.toList.map st.ev = as) (hps : L.ps.toList.length = as.length) (hpn : L.ps.toList.all (fun p => Nat.blt p L.nt) = true)
    (hrun : Run P L.f (Post.rnd L.l st.nx fun r hp nx => Run P f Q (.inRegion A rest :: k) ⟨(d, r) :: st.tm, hp, nx, st.nt⟩) [.code L.assign, .beginRound, .code L.body] ⟨putAll (L.ps.toList.zip as) L.tm, st.hp, st.nx, L.nt⟩) : Run P f Q (.inRegion A (i :: rest) :: k) st :=
  run_yield id ho hw hd hx hrow hl has hps hpn hrun fun _ _ _ h => h
/-- What a loop over a function comes to. -/
def Ranged (P : Program) (f : Nat) (Q : Post) (k : List Item) (tm : TM) (id nt l D : Nat) (hp : HP) (nx : Nat) : Prop :=
  ∃ L, row id hp = some (.lp L) ∧ L.l = l ∧ L.D = D ∧ L.s ≠ .busy ∧ Run P f { Q with ds := markD D } ((L.pend.map Item.code).toList ++ k) ⟨tm, (id, .lp { L with s := .exhausted }) :: rem id hp, nx, nt⟩
theorem run_rangeC {g : Operand} {gid : Nat} {cs : List AV} {fn : Func} {c : Code} {ps : Array Nat} {assign body : Code} (hx : st.ev g = .fn gid cs) (hg : P.funcs[gid]? = some fn) (hb : fn.body = some c)
    (hn : (fn.name == "runtime.NumGoroutine") = false) (hro : Q.ro = none) (hds : Q.ds = []) (hnt : Nat.ble (cs.length + 1) fn.ntmps = true)
    (hrun : ∀ l D, Run P gid (Post.inl (st.nx + 1) fun r hp nx => Ranged P f Q k st.tm st.nx st.nt l D hp nx) [.code c] ⟨slots 0 (.lit (.func (.yield l) #[] #[]) :: cs), (st.nx, .lp ⟨l, D, f, st.nt, st.tm, ps, assign, body, .ready, none⟩) :: st.hp, st.nx + 1, fn.ntmps⟩) :
    Run P f Q (.code (.rangeFunc g ps assign body) :: k) st :=
  run_range hx hg hb hn hro hds hnt hrun fun _ _ _ _ _ h => h
/-- The same run with another heap that says as much. -/
theorem run_tm {tm tm' : TM} {hp : HP} {nx nt : Nat} {todo : List Item} (e : tm = tm') (h : Run P f Q todo ⟨tm', hp, nx, nt⟩) : Run P f Q todo ⟨tm, hp, nx, nt⟩ := by rw [e]; exact h
end
theorem OLe.onil {sz : Nat} : OLe (.lit (.slice none 0 0)) (.osl sz []) := fun S w x F h => by
  cases h with
  | std h => obtain rfl := h.lit_inv; exact .osl0 trivial
theorem VLe.onil {sz : Nat} : VLe (.lit (.slice none 0 0)) (.osl sz []) := fun I w x F h => by
  rcases h with ⟨h, rfl⟩ | h
  · cases h with | std h => obtain rfl := h.lit_inv; exact .inr (.osl0 trivial)
  · exact .inr (OLe.onil _ _ _ _ h)
/-- Rows of one's own, element by element. -/
theorem OLeL.ownC {S : Nat → Prop} {w : World} {b : Nat} {as bs : List AV} (h : OLeL as bs) : ∀ {o : Nat} {F : List Nat}, Own S w (.c b o as) F → Own S w (.c b o bs) F := by
  induction h with
  | nil => intro o F k; exact k
  | cons h _ ih => intro o F k; cases k with | ccons k1 k2 k3 => exact .ccons k1 (h _ _ _ _ k2) (ih k3)
theorem OLeL.len {as bs : List AV} (h : OLeL as bs) : as.length = bs.length := by
  induction h with
  | nil => rfl
  | cons _ _ ih => simp [ih]
theorem OLeL.app {as bs cs ds : List AV} (h : OLeL as bs) (h2 : OLeL cs ds) : OLeL (as ++ cs) (bs ++ ds) := by
  induction h with
  | nil => exact h2
  | cons h _ ih => exact .cons h ih
inductive OLeLL : List (List AV) → List (List AV) → Prop
  | nil : OLeLL [] []
  | cons {a b as bs} : OLeL a b → OLeLL as bs → OLeLL (a :: as) (b :: bs)
theorem OLeLL.len {as bs : List (List AV)} (h : OLeLL as bs) : as.length = bs.length := by
  induction h with
  | nil => rfl
  | cons _ _ ih => simp [ih]
theorem OLeLL.flat {as bs : List (List AV)} (h : OLeLL as bs) : OLeL as.flatten bs.flatten := by
  induction h with
  | nil => exact .nil
  | cons h _ ih => exact h.app ih
theorem OLeLL.mem {as bs : List (List AV)} (h : OLeLL as bs) {sz : Nat} (hs : ∀ x ∈ as, x.length = sz) : ∀ x ∈ bs, x.length = sz := by
  induction h with
  | nil => simp
  | cons h _ ih =>
    intro x hx
    rcases List.mem_cons.1 hx with rfl | hx
    · rw [← h.len]; exact hs _ (List.mem_cons_self ..)
    · exact ih (fun y hy => hs y (List.mem_cons_of_mem _ hy)) x hx
theorem OLeLL.rep {a b : List AV} (h : OLeL a b) : ∀ (n : Nat), OLeLL (List.replicate n a) (List.replicate n b)
  | 0 => .nil
  | n + 1 => .cons h (OLeLL.rep h n)
theorem OLeL.refl : ∀ (as : List AV), OLeL as as
  | [] => .nil
  | a :: as => .cons (OLe.refl a) (OLeL.refl as)
theorem OLeLL.refl : ∀ (xs : List (List AV)), OLeLL xs xs
  | [] => .nil
  | x :: xs => .cons (.refl x) (.refl xs)
theorem OLeLL.app {as bs cs ds : List (List AV)} (h : OLeLL as bs) (h2 : OLeLL cs ds) : OLeLL (as ++ cs) (bs ++ ds) := by
  induction h with
  | nil => exact h2
  | cons h _ ih => exact .cons h ih
theorem OLe.oslO {sz : Nat} {xs ys : List (List AV)} (h : OLeLL xs ys) : OLe (.osl sz xs) (.osl sz ys) := fun S w x F k => by
  cases k with
  | std k => cases k
  | osl0 h0 => cases h; exact .osl0 h0
  | osl h1 h2 h3 h4 ho => rw [h.len] at h2 ⊢; exact .osl h1 h2 (h.mem h3) h4 (h.flat.ownC ho)
theorem OLe.aggO {as bs : List AV} (h : OLeL as bs) (hs : as.all AV.std = false ∨ True) : OLe (.agg as) (.agg bs) := fun S w x F k => by
  cases k with
  | std k => cases k with | agg k => exact .agg (h.own k.l_own)
  | agg k => exact .agg (h.own k)
theorem VLe.ole {a b : AV} (h : OLe a b) (hs : a.stays = true) : VLe a b := fun I w x F k => by
  rcases k with ⟨k, rfl⟩ | k
  · have := k.std_of (by cases a <;> simp_all [AV.stays, AV.closed])
    exact .inr (h _ _ _ _ (.std this))
  · exact .inr (h _ _ _ _ k)
theorem run_rowO {P : Program} {f : Nat} {Q : Post} {todo : List Item} {tm : TM} {hp : HP} {nx nt : Nat} (id : Nat) {sz : Nat} {xs ys : List (List AV)} (hrow : row id hp = some (.row sz xs)) (hle : OLeLL xs ys) (h : Run P f Q todo ⟨tm, (id, .row sz ys) :: rem id hp, nx, nt⟩) : Run P f Q todo ⟨tm, hp, nx, nt⟩ := by
  intro S0 B w0 I a w hlo hr
  obtain ⟨T, t1, t2, t3⟩ := hr.hp
  obtain ⟨F, T', g1, g2, g3⟩ := t1.take hrow
  refine h S0 B w0 I a w hlo { hr with hp := ⟨F ++ T', .cons ?_ g2, g3.nodup_iff.1 t2, fun z hz => t3 z (g3.mem_iff.2 hz)⟩ }
  cases g1 with
  | row0 hi ha h0 hz => cases hle; exact .row0 hi ha h0 hz
  | row hi ha hl hz hb hs2 hx ho => exact .row hi ha (by rw [← hle.len]; exact hl) hz hb (by rw [← hle.len]; exact hs2) (hle.mem hx) (hle.flat.ownC ho)
/-- A row within a variable's cell is given an entry of its own. -/
theorem run_unfold {P : Program} {f : Nat} {Q : Post} {todo : List Item} {tm : TM} {hp : HP} {nx nt : Nat} (id off : Nat) {sz : Nat} {cs r : List AV} {xs : List (List AV)} (hrow : row id hp = some (.var cs)) (hd : cs.drop off = .osl sz xs :: r)
    (h : Run P f Q todo ⟨tm, (nx, .row sz xs) :: (id, .var (cs.set off (.hw nx))) :: rem id hp, nx + 1, nt⟩) : Run P f Q todo ⟨tm, hp, nx, nt⟩ := by
  intro S0 B w0 I a w hlo hr hds
  obtain ⟨st, hst⟩ : ∃ st : St, st = ⟨tm, hp, nx, nt⟩ := ⟨_, rfl⟩
  rw [show nx = st.nx by rw [hst]] at h
  rw [← hst] at hr
  replace hrow : row id st.hp = some (.var cs) := by rw [hst]; exact hrow
  obtain ⟨T, k1, k2, k3⟩ := hr.hp
  obtain ⟨F, T', g1, g2, g3⟩ := k1.take hrow
  obtain ⟨b, of, c, G, hi, hat, hb, hs, hv, rfl⟩ : ∃ b of c G, id < I.nx ∧ I.at_ id = some (b, of) ∧ Blk w b c ∧ of + cs.length ≤ c.size ∧ VarC I w b of cs G ∧ F = b :: G := by
    cases g1 with | var hi hat hb hs hv => exact ⟨_, _, _, _, hi, hat, hb, hs, hv, rfl⟩
  obtain ⟨p, hcs, hpl⟩ := drop_split hd
  rw [hcs] at hv
  obtain ⟨F1, F2, rfl, hv1, hv2⟩ := hv.split
  have hset : cs.set off (.hw st.nx) = p ++ (.hw st.nx :: r) := by rw [hcs, ← hpl]; simp
  cases hv2 with
  | @cons _ _ y _ Fv Fr hc hl hr2 =>
    rw [hpl] at hc hr2
    have hnx := hr.nx
    -- the row's own standing
    have key : ∃ at_ : Option (Nat × Nat), ∃ I', I' = I.add at_ xs.length sz ∧ Rep I' w (.v (.hw st.nx) y) ∧ RowOK I' w st.nx (.row sz xs) Fv := by
      rcases hl with hl | hl
      · cases hl.1 with | std h => cases h
      cases hl with
      | std h => cases h
      | osl0 ha0 =>
        refine ⟨none, _, rfl, ?_, ?_⟩
        · exact .hw0 (by show st.nx < I.nx + 1; omega) (by simp [Interp.add, hnx]) (by simp [Interp.add, hnx]) ha0
        · exact .row0 (by show st.nx < I.nx + 1; omega) (by simp [Interp.add, hnx]) (by simp [Interp.add, hnx]) (by simp [Interp.add, hnx])
      | osl hb1 hc1 hx1 hs1 ho1 =>
        rename_i b1 o1 cap1 c1 F3
        have hln : (I.add (some (b1, o1)) xs.length sz).ln st.nx = xs.length := by simp [Interp.add, hnx]
        refine ⟨some (b1, o1), _, rfl, ?_, ?_⟩
        · have := Rep.hw (I := I.add (some (b1, o1)) xs.length sz) (w := w) (id := st.nx) (cap := cap1) (c := c1) (b := b1) (o := o1) (by show st.nx < I.nx + 1; omega) (by simp [Interp.add, hnx]) (by rw [hln]; exact hc1) hb1
            (by simp only [Interp.add, hnx, if_true]; exact hs1)
          rw [hln] at this; exact this
        · refine .row (by show st.nx < I.nx + 1; omega) (by simp [Interp.add, hnx]) hln (by simp [Interp.add, hnx]) hb1 ?_ hx1 ho1
          have : xs.length * sz ≤ cap1 * sz := Nat.mul_le_mul_right _ hc1
          omega
    obtain ⟨at_, I', rfl, hrep, hrowok⟩ := key
    have he : Ext I w (I.add at_ xs.length sz) w := .add _ _ _ (fun _ _ => rfl) (.refl w)
    have hvar : RowOK (I.add at_ xs.length sz) w id (.var (cs.set off (.hw st.nx))) (b :: (F1 ++ ([] ++ Fr))) := by
      refine .var (by show id < I.nx + 1; omega) ((he.at_ id hi).trans hat) hb (by simpa using hs) ?_
      rw [hset]
      refine (hv1.mono he (fun _ _ => rfl) rfl).app ?_
      rw [hpl]
      exact .cons hc (.inl ⟨hrep, rfl⟩) (hr2.mono he (fun _ _ => rfl) rfl)
    have hperm : T.Perm (Fv ++ ((b :: (F1 ++ ([] ++ Fr))) ++ T')) := by
      refine g3.trans (List.perm_iff_count.2 fun z => ?_)
      simp only [List.count_append, List.count_cons, List.count_nil]; omega
    have := hr.next he (Below.refl B w) (fun b h => .inl h) hr.ss (hp := (st.nx, .row sz xs) :: (id, .var (cs.set off (.hw st.nx))) :: rem id st.hp)
      ⟨_, .cons hrowok (.cons hvar (g2.mono he fun _ _ => rfl)), hperm.nodup_iff.1 k2, fun z hz => k3 z (hperm.mem_iff.2 hz)⟩
    have e2 : (I.add at_ xs.length sz).nx = st.nx + 1 := by show I.nx + 1 = _; rw [hnx]
    rw [e2] at this
    refine h S0 B w0 (I.add at_ xs.length sz) a w hlo ?_ hds
    subst hst
    exact this
theorem FnSpec.weakV {P : Program} {g : Nat} {as : List AV} {v : AV} (h : FnSpec P g as fun r => r = v ∨ OLe r v) : FnSpec P g as fun r => r = v :=
  FnSpec.weakE h fun r hr => ⟨v, rfl, hr.elim (fun e => e ▸ OLe.refl _) id⟩
end Go.Ax

/- A variable that holds a list that is nil gets an own empty list. -/
namespace Go.Ax
open Go.RowKit
theorem get_at (d e : Nat) (v : AV) (tm : TM) : get e ((d, v) :: tm) = bif Nat.beq d e then v else get e tm := rfl
/-- A nil list in a variable of the frame is an own empty one. -/
theorem run_nilT {P : Program} {f : Nat} {Q : Post} {todo : List Item} {tm : TM} {hp : HP} {nx nt : Nat} (d sz : Nat) (hd : get d tm = .lit (.slice none 0 0))
    (h : Run P f Q todo ⟨(d, .hw nx) :: tm, (nx, .row sz []) :: hp, nx + 1, nt⟩) : Run P f Q todo ⟨tm, hp, nx, nt⟩ := by
  intro S0 B w0 I a w hlo hr hds
  obtain ⟨st, hst⟩ : ∃ st : St, st = ⟨tm, hp, nx, nt⟩ := ⟨_, rfl⟩
  rw [show nx = st.nx by rw [hst]] at h
  rw [← hst] at hr
  replace hd : get d st.tm = .lit (.slice none 0 0) := by rw [hst]; exact hd
  have hnx := hr.nx
  obtain ⟨T, k1, k2, k3⟩ := hr.hp
  have he : Ext I w (I.add none 0 sz) w := .add _ _ _ (fun _ _ => rfl) (.refl w)
  have hrep : Rep (I.add none 0 sz) w (.v (.hw st.nx) (a.tmps.getD d undef)) := by
    have h1 := hr.tm d
    rw [hd] at h1
    rw [h1.lit_inv]
    exact .hw0 (by show st.nx < I.nx + 1; omega) (by simp [Interp.add, hnx]) (by simp [Interp.add, hnx]) trivial
  have hrowok : RowOK (I.add none 0 sz) w st.nx (.row sz []) [] := .row0 (by show st.nx < I.nx + 1; omega) (by simp [Interp.add, hnx]) (by simp [Interp.add, hnx]) (by simp [Interp.add, hnx])
  have := hr.next he (Below.refl B w) (fun b h => .inl h) hr.ss (hp := (st.nx, .row sz []) :: st.hp) ⟨T, .cons hrowok (k1.mono he fun _ _ => rfl), by simpa using k2, k3⟩
  have e2 : (I.add none 0 sz).nx = st.nx + 1 := by show I.nx + 1 = _; rw [hnx]
  rw [e2] at this
  refine h S0 B w0 (I.add none 0 sz) a w hlo ?_ hds
  subst hst
  refine { this with tm := fun e => ?_ }
  show Rep _ w (.v (get e ((d, .hw nx) :: tm)) _)
  rw [get_at]
  cases hb : Nat.beq d e with
  | true => rw [Nat.eq_of_beq_eq_true hb] at hrep; exact hrep
  | false => exact this.tm e
end Go.Ax
