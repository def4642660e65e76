/- How a call ends, and what a call of a told function comes to. -/
import Derived.Test.YtnfkdilmoppbpaaAxH
namespace Go.Ax
open Go.RowKit
set_option linter.unusedVariables false
set_option linter.unusedSimpArgs false

/-- What hangs on no entry. -/
inductive Closed : AV → Prop
  | lit (v) : Closed (.lit v)
  | sl (f s xs) : Closed (.sl f s xs)
  | pt (cs) : Closed (.pt cs)
  | osl (s xs) : Closed (.osl s xs)
  | opt (cs) : Closed (.opt cs)
  | any : Closed .any

def AV.closed : AV → Bool
  | .lit _ | .sl .. | .pt _ | .osl .. | .opt _ | .any => true
  | _ => false

theorem Rep.std_of {I : Interp} {w : World} {a : AV} {x : Value} (h : Rep I w (.v a x)) (hc : a.closed = true) : Std I.S w (.v a x) := by
  cases h with
  | std h => exact h
  | _ => cases hc

theorem Leaf.own {I : Interp} {w : World} {a : AV} {x : Value} {F : List Nat} (h : Leaf I w a x F) (hc : a.closed = true) : Own I.S w (.v a x) F := by
  rcases h with ⟨h, rfl⟩ | h
  · exact .std (h.std_of hc)
  · exact h

theorem Leaves.own {I : Interp} {w : World} {as : List AV} {xs : List Value} {F : List Nat} (h : Leaves I w as xs F) (hc : as.all AV.closed = true) : Own I.S w (.l as xs) F := by
  induction h with
  | nil => exact .nil
  | cons h _ ih =>
    simp only [List.all_cons, Bool.and_eq_true] at hc
    exact .cons (h.own hc.1) (ih hc.2)

/-- A variable that is one's own, and is handed back by its address. -/
def foldP (hp : List (Nat × Row)) : AV → AV × List (Nat × Row)
  | .hp id 0 => match row id hp with
    | some (.var cs) => (.opt cs, rem id hp)
    | _ => (.hp id 0, hp)
  | v => (v, hp)

def resVar (rv : ResultVar) (tmps : Array Value) : Sem Value :=
  match rv with
  | .tmp t => pure (tmps.getD t undef)
  | .cell a t => do loadVar t (← asAddr (tmps.getD a undef))

/-- A result, and the entries that are left. -/
def Res (P : Program) (st : St) (hp : List (Nat × Row)) (rv : ResultVar) (r : AV) (hp' : List (Nat × Row)) : Prop :=
  ∀ (I : Interp) (w : World) (tmps : Array Value) (T : List Nat), (∀ d, Rep I w (.v (get d st.tm) (tmps.getD d undef))) → HeapOK I w hp T → (∀ id b o, I.at_ id = some (b, o) → True) →
    ∃ x F T' G, (resVar rv tmps).run P w = .ok x w ∧ Own I.S w (.v r x) F ∧ HeapOK I w hp' T' ∧ T.Perm (F ++ (T' ++ G))

section
variable {P : Program} {st : St} {hp : List (Nat × Row)}

theorem res_tmp {d : Nat} {v : AV} (hv : get d st.tm = v) {r : AV} {hp' : List (Nat × Row)} (hf : fold1 hp v = (r, hp')) (hc : r.closed = true) : Res P st hp (.tmp d) r hp' := by
  intro I w tmps T hr hh _
  have h1 := hr d
  rw [hv] at h1
  obtain ⟨F, T', g1, g2, g3⟩ := fold1_ok hh h1
  rw [hf] at g1 g2
  exact ⟨_, F, T', [], rfl, g1.own hc, g2, by simpa using g3⟩

theorem res_agg {d : Nat} {cs : List AV} (hv : get d st.tm = .agg cs) {rs : List AV} {hp' : List (Nat × Row)} (hf : foldL hp cs = (rs, hp')) (hc : rs.all AV.closed = true) : Res P st hp (.tmp d) (.agg rs) hp' := by
  intro I w tmps T hr hh _
  have h1 := hr d
  rw [hv] at h1
  obtain ⟨vs, e, h2⟩ := h1.agg_inv
  obtain ⟨F, T', g1, g2, g3⟩ := foldL_ok h2 hh
  rw [hf] at g1 g2
  exact ⟨_, F, T', [], rfl, by rw [e]; exact .agg (g1.own hc), g2, by simpa using g3⟩

theorem res_cell {d t id : Nat} {i : TyI} {cs : List AV} (hv : get d st.tm = .hp id 0) (ht : TyOK P t i) (ha : i.isAgg = false) (hrow : row id hp = some (.var cs)) {r : AV} {rest : List AV} (hcs : cs = r :: rest) (hc : r.closed = true) :
    Res P st hp (.cell d t) r (rem id hp) := by
  intro I w tmps T hr hh _
  have h1 := hr d
  rw [hv] at h1
  obtain ⟨b, of, hi, hat, e⟩ := h1.hp_inv
  obtain ⟨F, T', g1, g2, g3⟩ := hh.take hrow
  obtain ⟨c, G, _, hb, hs, hvc, rfl⟩ := g1.var_inv hat
  subst hcs
  cases hvc with
  | @cons _ _ x _ F1 F2 hce hl hr2 =>
    refine ⟨x, F1, T', b :: F2, ?_, hl.own hc, g2, g3.trans (List.perm_iff_count.2 fun z => by simp only [List.count_append, List.count_cons]; omega)⟩
    simp only [resVar, e, asAddr, loadVar, Sem.run_bind, Sem.run_pure, Result.andThen_ok, run_isAgg ht, ha, if_false, Bool.false_eq_true, run_load, Nat.add_zero, hce]

theorem res_cells {d t id : Nat} {i : TyI} {cs : List AV} (hv : get d st.tm = .hp id 0) (ht : TyOK P t i) (ha : i.isAgg = true) (hrow : row id hp = some (.var cs)) (hn : Nat.beq i.size cs.length = true) (hc : cs.all AV.closed = true) :
    Res P st hp (.cell d t) (.agg cs) (rem id hp) := by
  intro I w tmps T hr hh _
  have h1 := hr d
  rw [hv] at h1
  obtain ⟨b, of, hi, hat, e⟩ := h1.hp_inv
  obtain ⟨F, T', g1, g2, g3⟩ := hh.take hrow
  obtain ⟨c, G, _, hb, hs, hvc, rfl⟩ := g1.var_inv hat
  obtain ⟨xs, l1, l2, l3⟩ := hvc.leaves
  refine ⟨.agg xs.toArray, G, T', [b], ?_, .agg (l1.own hc), g2, g3.trans (List.perm_iff_count.2 fun z => by simp only [List.count_append, List.count_cons, List.count_nil]; omega)⟩
  have := run_cells (P := P) xs l2
  rw [l3, ← Nat.eq_of_beq_eq_true hn] at this
  simp only [resVar, e, asAddr, loadVar, Sem.run_bind, Sem.run_pure, Result.andThen_ok, run_isAgg ht, ha, if_true, run_size ht, Nat.add_zero, this]

end
/-- One result more. -/
inductive ResL (P : Program) (st : St) : List (Nat × Row) → List ResultVar → List AV → Prop
  | nil {hp} : ResL P st hp [] []
  | cons {hp hp' rv rvs r rs} : Res P st hp rv r hp' → ResL P st hp' rvs rs → ResL P st hp (rv :: rvs) (r :: rs)

section
variable {P : Program} {st : St} {hp : List (Nat × Row)}
theorem ResL.run {rvs : List ResultVar} {rs : List AV} (h : ResL P st hp rvs rs) : ∀ (I : Interp) (w : World) (tmps : Array Value) (T : List Nat), (∀ d, Rep I w (.v (get d st.tm) (tmps.getD d undef))) → HeapOK I w hp T →
    ∃ xs F G, (rvs.mapM fun rv => resVar rv tmps).run P w = .ok xs w ∧ Own I.S w (.l rs xs) F ∧ T.Perm (F ++ G) ∧ xs.length = rvs.length := by
  induction h with
  | nil => intro I w tmps T hr hh; exact ⟨[], [], T, by simp, .nil, List.Perm.refl _, rfl⟩
  | cons h _ ih =>
    intro I w tmps T hr hh
    obtain ⟨x, F, T', G, h1, h2, h3, h4⟩ := h I w tmps T hr hh (fun _ _ _ _ => trivial)
    obtain ⟨xs, F2, G2, k1, k2, k3, k4⟩ := ih I w tmps T' hr h3
    refine ⟨x :: xs, F ++ F2, G2 ++ G, ?_, .cons h2 k2, ?_, by simp [k4]⟩
    · simp only [List.mapM_cons, Sem.run_bind, h1, Result.andThen_ok, k1, Sem.run_pure]
    · refine h4.trans ?_
      rw [List.append_assoc]
      refine List.Perm.append_left F ?_
      rw [← List.append_assoc]
      exact List.Perm.append_right G k3

/-- What a call hands back: one result by itself, else all of them together. -/
def asRes : List AV → AV
  | [r] => r
  | rs => .tup rs

theorem leave_of {f : Nat} {fn : Func} {rs : List AV} (hf : P.funcs[f]? = some fn) (h : ResL P st st.hp fn.results.toList rs) {S0 : Interp} {B : Nat} {w0 : World} {I : Interp} {a : Act} {w : World} (hr : Rel S0 B w0 I st a w)
    (b : Frame) (hb : b.fn = f) (hk : b.kind = .normal) (todo : List Item) : ∃ v, Fin S0.S B w0 (asRes rs) (.returned v) w ∧ Frame.leaving P { b.at a todo with mode := .returning } w (.returned v) := by
  obtain ⟨T, k1, k2, k3⟩ := hr.hp
  obtain ⟨xs, F, G, h1, h2, h3, h4⟩ := h.run I w a.tmps T hr.tm k1
  have hres : (results fn a.tmps).run P w = .ok (if h : xs.toArray.size = 1 then xs.toArray[0] else .tuple xs.toArray) w := by
    have e : results fn a.tmps = (do let vs ← fn.results.mapM (fun rv => resVar rv a.tmps); pure (if h : vs.size = 1 then vs[0] else .tuple vs)) := rfl
    rw [e, ← Array.toArray_toList (xs := fn.results), List.mapM_toArray]
    simp only [Sem.run_bind, Sem.run_map, h1, Result.andThen_ok, Sem.run_pure]
  have hF : ∀ z ∈ F, z ∈ T := fun z hz => h3.mem_iff.2 (List.mem_append_left _ hz)
  have hnd : F.Nodup := (List.nodup_append.1 (h3.nodup_iff.1 k2)).1
  have fin : ∀ v, Own I.S w (.v (asRes rs) v) F → Fin S0.S B w0 (asRes rs) (.returned v) w := fun v hv => ⟨v, I.S, F, rfl, hv, hnd, fun z hz => k3 z (hF z hz), hr.ss, hr.ext.S, hr.sb, hr.bl⟩
  refine ⟨_, fin _ ?_, rfl, hr.df, hk, fn, by subst hb; exact hf, hres⟩
  clear hres
  cases h2 with
  | nil => exact .tup .nil
  | cons g1 g2 =>
    cases g2 with
    | nil => simpa [asRes] using g1
    | cons g2 g3 => simpa [asRes] using Own.tup (.cons g1 (.cons g2 g3))

variable {f : Nat} {Q : AV → Prop} {k : List Item}

theorem run_ret {fn : Func} {rs : List AV} (hf : P.funcs[f]? = some fn) (h : ResL P st st.hp fn.results.toList rs) (hq : Q (asRes rs)) : Run P f (Post.one Q) (.code .ret :: k) st := by
  intro S0 B w0 I a w hlo hr b hb hk cs
  obtain ⟨v, h1, h2⟩ := leave_of hf h hr b hb hk (.code .ret :: k)
  exact ⟨_, w, _, ⟨_, hq, h1⟩, Steps.one step_ret, hb, h2⟩

theorem run_fall {fn : Func} {rs : List AV} (hf : P.funcs[f]? = some fn) (h : ResL P st st.hp fn.results.toList rs) (hq : Q (asRes rs)) : Run P f (Post.one Q) [] st := by
  intro S0 B w0 I a w hlo hr b hb hk cs
  obtain ⟨v, h1, h2⟩ := leave_of hf h hr b hb hk []
  exact ⟨_, w, _, ⟨_, hq, h1⟩, Steps.one step_end, hb, h2⟩
end
end Go.Ax
