/- A symbolic run, reckoned by a function: operations that make memory or write it, results, and the run itself. -/
import Derived.Test.YtnfkdilmoppbpaaAxV
namespace Go.Ax
open Go.RowKit
set_option linter.unusedVariables false
set_option linter.unusedSimpArgs false

def varK (st : St) (cs : List AV) (K : AV → List (Nat × Row) → Prop) : Prop := match st with
  | ⟨_, hp, nx, _⟩ => onL (foldL hp cs).1 fun cs' => onH (foldL hp cs).2 fun h => K (.hp nx 0) ((nx, .var cs') :: h)

def oneOK : AV → Bool
  | .lit u => u.oneCell'
  | _ => true
theorem oneOK_spec {v : AV} (h : oneOK v = true) : ∀ u, v = .lit u → u.cells = #[u] := by
  intro u e; subst e
  cases u <;> first | rfl | (simp [oneOK, Value.oneCell'] at h)

def takeV (tr : TyT) (st : St) (t : Nat) (x : Operand) (K : AV → List (Nat × Row) → Prop) (F : Prop) : Prop := match st with
  | ⟨tm0, hp0, nx, nt0⟩ =>
    match tr.find t with
    | some i => bif i.isAgg then F else match St.ev ⟨tm0, hp0, nx, nt0⟩ x with
      | .hp id off => match row id hp0 with
        | some (.var cs) => match cs.drop off with
          | .osl sz xs :: _ => onL (cs.set off (.hw nx)) fun cs' => onH (rem id hp0) fun h => K (.hw nx) ((nx, .row sz xs) :: (id, .var cs') :: h)
          | _ => F
        | _ => F
      | .hq id n off => match row id hp0 with
        | some (.row sz xs) => PickN xs n fun cs => onL cs fun cs => match cs.drop off with
          | .osl sz2 ys :: _ => onH (rem id hp0) fun h => K (.hw nx) ((nx, .row sz2 ys) :: (id, .foc sz xs cs n off nx) :: h)
          | _ => F
        | _ => F
      | _ => F
    | none => F

def ixs : List (Nat × Operand) → Nat → Bool
  | [], _ => true
  | (j, _) :: r, s => Nat.beq j s && ixs r (s + 1)
theorem ixs_spec : ∀ {ps : List (Nat × Operand)} {s : Nat}, ixs ps s = true → ps.map Prod.fst = upTo ps.length s
  | [], _, _ => rfl
  | (j, x) :: r, s, h => by
    simp only [ixs, Bool.and_eq_true] at h
    simp only [List.map_cons, List.length_cons, upTo, ixs_spec h.2, Nat.eq_of_beq_eq_true h.1]

def rowLit (tr : TyT) (st : St) (t n : Nat) (ps : List (Nat × Operand)) (K : AV → List (Nat × Row) → Prop) (F : Prop) : Prop := match st with
  | ⟨tm0, hp0, nx, nt0⟩ =>
    match tr.find t with
    | some ⟨.td (.slice e), _, _, _⟩ => match tr.find e with
      | some ⟨_, isz, iby, izero⟩ => bif ixs ps 0 && Nat.beq ps.length n && Nat.ble (n * isz) 16777216 && ps.all (fun p => (St.ev ⟨tm0, hp0, nx, nt0⟩ p.2).known) && litOK ⟨tm0, hp0, nx, nt0⟩ ps && (elems ⟨tm0, hp0, nx, nt0⟩ ps).all (fun x => Nat.beq x.length isz) then
          onLL (foldLL hp0 (elems ⟨tm0, hp0, nx, nt0⟩ ps)).1 fun xs => bif xs.flatten.all AV.closed then onH (foldLL hp0 (elems ⟨tm0, hp0, nx, nt0⟩ ps)).2 fun h => K (.hw nx) ((nx, .row isz xs) :: h) else F
        else F
      | none => F
    | _ => F

def firstK (st : St) (x : AV) (sz : Nat) (K : List (List AV) → List (Nat × Row) → Prop) (F : Prop) : Prop :=
  match x with
  | .lit (.slice none 0 0) => K [] st.hp
  | .sl true _ [] => K [] st.hp
  | .hw id => match row id st.hp with
    | some (.row s xs) => bif Nat.beq s sz then K xs (rem id st.hp) else F
    | _ => F
  | _ => F

def srcK (hp : List (Nat × Row)) (y : AV) (sz : Nat) (K : List (List AV) → List (Nat × Row) → Prop) (F : Prop) : Prop :=
  match y with
  | .lit (.slice none 0 0) => K [] hp
  | .sl _ s ys => bif Nat.beq s sz then K ys hp else F
  | .hw id => match row id hp with
    | some (.row s ys) => bif Nat.beq s sz then K ys (rem id hp) else F
    | _ => F
  | _ => F

def appendV (tr : TyT) (st : St) (t t2 : Nat) (x y : Operand) (K : AV → List (Nat × Row) → Prop) (F : Prop) : Prop := match st with
  | ⟨tm0, hp0, nx, nt0⟩ =>
    match tr.find t with
    | some ⟨.td (.slice e), _, _, _⟩ => match tr.find e with
      | some ⟨_, isz, iby, izero⟩ => match tr.find t2 with
        | some ⟨.td (.slice _), _, _, _⟩ => firstK ⟨tm0, hp0, nx, nt0⟩ (St.ev ⟨tm0, hp0, nx, nt0⟩ x) isz (fun xs h1 => srcK h1 (St.ev ⟨tm0, hp0, nx, nt0⟩ y) isz (fun ys h2 => App xs ys iby (onH h2 fun h => K (.hw nx) ((nx, .row isz (xs ++ ys)) :: h))) F) F
        | _ => F
      | none => F
    | _ => F

def makeK (tr : TyT) (st : St) (t : Nat) (x y : Operand) (K : AV → List (Nat × Row) → Prop) (F : Prop) : Prop := match st with
  | ⟨tm0, hp0, nx, nt0⟩ =>
    match tr.find t with
    | some ⟨.td (.slice e), _, _, _⟩ => match tr.find e with
      | some ⟨_, isz, iby, izero⟩ => match St.ev ⟨tm0, hp0, nx, nt0⟩ x, St.ev ⟨tm0, hp0, nx, nt0⟩ y with
        | .lit (.int _ m), .lit (.int _ m2) => MkS m m2 iby fun n => K (.hw nx) ((nx, .row isz (List.replicate n (izero.map .lit))) :: hp0)
        | _, _ => F
      | none => F
    | _ => F

/-- What makes an entry of the heap. -/
def okOp (tr : TyT) (st : St) (op : Op) (K : AV → List (Nat × Row) → Prop) (F : Prop) : Prop :=
  match op with
  | .box _ x => (st.ev x).onD fun v => bif v.known && oneOK v then varK st v.cells K else F
  | .alloc t => match tr.find t with
    | some i => varK st (i.zero.map .lit) K
    | none => F
  | .load t x => takeV tr st t x K F
  | .makeSlice t x y => makeK tr st t x y K F
  | .buildSlice t n ps => rowLit tr st t n ps.toList K F
  | .call c => match c.callee with
    | .builtin .append => match c.args.toList, c.argTypes.toList with
      | [x, y], [t, t2] => appendV tr st t t2 x y K F
      | _, _ => F
    | _ => F
  | _ => F

def storeV (tr : TyT) (st : St) (t : Nat) (x y : Operand) (K : List (Nat × Row) → Prop) (F : Prop) : Prop :=
  match tr.find t with
  | some i => match st.ev x with
    | .hp id off => (st.ev y).onD fun v => bif v.known && v.cells.all AV.leaf && Nat.beq v.cells.length i.size then
        match row id (foldL st.hp v.cells).2 with
        | some (.var cs) => bif Nat.ble (off + i.size) cs.length then onL (splice cs off (foldL st.hp v.cells).1) fun cs' => onH (rem id (foldL st.hp v.cells).2) fun h => K ((id, .var cs') :: h) else F
        | _ => F
      else F
    | .hq id n off => (st.ev y).onD fun v => bif v.known && v.cells.all AV.leaf && Nat.beq v.cells.length i.size then
        match row id (foldL st.hp v.cells).2 with
        | some (.row sz xs) => PickN xs n fun cs => bif (foldL st.hp v.cells).1.all AV.closed && Nat.ble (off + i.size) cs.length then onL (splice cs off (foldL st.hp v.cells).1) fun cs' => onH (rem id (foldL st.hp v.cells).2) fun h => K ((id, .row sz (xs.set n cs')) :: h) else F
        | some (.foc sz xs cs n2 off2 _) => match (foldL st.hp v.cells).1 with
          | [u] => bif u.closed && Nat.beq off off2 then Need (n = n2) (onL (cs.set off u) fun cs' => onH (rem id (foldL st.hp v.cells).2) fun h => K ((id, .row sz (xs.set n cs')) :: h)) else F
          | _ => F
        | _ => F
      else F
    | _ => F
  | none => F

/-- What writes. -/
def doOp (tr : TyT) (st : St) (op : Op) (K : List (Nat × Row) → Prop) (F : Prop) : Prop :=
  match op with
  | .store t x y => storeV tr st t x y K F
  | _ => F

section
variable {P : Program} {tr : TyT} {st : St} {F : Prop} {o : Oper}

def Ok (P : Program) (st : St) (o : Oper) (K : AV → List (Nat × Row) → Prop) (F : Prop) : Prop := (∃ v hp, OpOK P st o v ⟨st.tm, hp, st.nx + 1, st.nt⟩ ∧ K v hp) ∨ F
def Wr (P : Program) (st : St) (o : Oper) (K : List (Nat × Row) → Prop) (F : Prop) : Prop := (∃ hp, OpDo P st o ⟨st.tm, hp, st.nx, st.nt⟩ ∧ K hp) ∨ F

theorem takeV_ok {K : AV → List (Nat × Row) → Prop} (hT : tr.OK P) {t : Nat} {x : Operand} (h : o.op = .load t x) (hk : takeV tr st t x K F) : Ok P st o K F := by
  obtain ⟨tm0, hp0, nx, nt0⟩ := st
  unfold takeV at hk
  dsimp only at hk
  split at hk
  · rename_i i hf
    have ht := TyT.find_ok hT hf
    cases hb : i.isAgg with
    | true => rw [hb] at hk; exact .inr hk
    | false =>
      rw [hb] at hk; dsimp only [cond_false] at hk
      split at hk
      · rename_i hx
        split at hk
        · rename_i hrow
          split at hk
          · rename_i hd; rw [onL_eq, onH_eq] at hk; exact .inl ⟨_, _, ok_take_hp h ht hb hx hrow hd, hk⟩
          · exact .inr hk
        · exact .inr hk
      · rename_i hx
        split at hk
        · rename_i hrow
          obtain ⟨cs, hg, hk⟩ := hk
          rw [onL_eq] at hk
          split at hk
          · rename_i hd; rw [onH_eq] at hk; exact .inl ⟨_, _, ok_focus h ht hb hx hrow hg hd, hk⟩
          · exact .inr hk
        · exact .inr hk
      · exact .inr hk
  · exact .inr hk

theorem rowLit_ok {K : AV → List (Nat × Row) → Prop} (hT : tr.OK P) {t n : Nat} {ps : Array (Nat × Operand)} (h : o.op = .buildSlice t n ps) (hk : rowLit tr st t n ps.toList K F) : Ok P st o K F := by
  obtain ⟨tm0, hp0, nx, nt0⟩ := st
  unfold rowLit at hk
  dsimp only at hk
  split at hk
  · rename_i hf
    have ht := TyT.find_ok hT hf
    split at hk
    · rename_i itd isz iby izero hf2
      have he := TyT.find_ok hT hf2
      cases hc : (ixs ps.toList 0 && Nat.beq ps.toList.length n && Nat.ble (n * isz) 16777216 && ps.toList.all (fun p => (St.ev ⟨tm0, hp0, nx, nt0⟩ p.2).known) && litOK ⟨tm0, hp0, nx, nt0⟩ ps.toList && (elems ⟨tm0, hp0, nx, nt0⟩ ps.toList).all (fun x => Nat.beq x.length isz)) with
      | false => rw [hc] at hk; exact .inr hk
      | true =>
        rw [hc] at hk; dsimp only [cond_true] at hk
        rw [onLL_eq] at hk
        simp only [Bool.and_eq_true] at hc
        obtain ⟨⟨⟨⟨⟨c1, c2⟩, c3⟩, c4⟩, c5⟩, c6⟩ := hc
        cases hcl : (foldLL hp0 (elems ⟨tm0, hp0, nx, nt0⟩ ps.toList)).1.flatten.all AV.closed with
        | false => rw [hcl] at hk; exact .inr hk
        | true =>
          rw [hcl] at hk; dsimp only [cond_true] at hk; rw [onH_eq] at hk
          have hix := ixs_spec c1
          rw [Nat.eq_of_beq_eq_true c2] at hix
          exact .inl ⟨_, _, ok_buildSlice h ht rfl he hix c3 c4 c5 c6 rfl hcl, hk⟩
    · exact .inr hk
  · exact .inr hk

theorem firstK_ok {x : AV} {sz : Nat} {K : List (List AV) → List (Nat × Row) → Prop} (hk : firstK st x sz K F) : (∃ xs h, FirstA st st.hp x sz xs h ∧ K xs h) ∨ F := by
  unfold firstK at hk
  split at hk
  · exact .inl ⟨_, _, first_nil, hk⟩
  · exact .inl ⟨_, _, first_full, hk⟩
  · split at hk
    · rename_i hrow
      cases hb : Nat.beq _ sz with
      | true => rw [hb] at hk; obtain rfl := Nat.eq_of_beq_eq_true hb; exact .inl ⟨_, _, first_hw hrow, hk⟩
      | false => rw [hb] at hk; exact .inr hk
    · exact .inr hk
  · exact .inr hk

theorem srcK_ok {hp : List (Nat × Row)} {x : AV} {sz : Nat} {K : List (List AV) → List (Nat × Row) → Prop} (hk : srcK hp x sz K F) : (∃ xs h, SrcA st hp x sz xs h ∧ K xs h) ∨ F := by
  unfold srcK at hk
  split at hk
  · exact .inl ⟨_, _, src_nil, hk⟩
  · cases hb : Nat.beq _ sz with
    | true => rw [hb] at hk; obtain rfl := Nat.eq_of_beq_eq_true hb; exact .inl ⟨_, _, src_sl, hk⟩
    | false => rw [hb] at hk; exact .inr hk
  · split at hk
    · rename_i hrow
      cases hb : Nat.beq _ sz with
      | true => rw [hb] at hk; obtain rfl := Nat.eq_of_beq_eq_true hb; exact .inl ⟨_, _, src_hw hrow, hk⟩
      | false => rw [hb] at hk; exact .inr hk
    · exact .inr hk
  · exact .inr hk

theorem appendV_ok {K : AV → List (Nat × Row) → Prop} (hT : tr.OK P) {dst : Option Nat} {t t2 ty : Nat} {x y : Operand} {pos : String} {af : Array Edge} {gd : Option (Nat × Bool)}
    (h : o = ⟨dst, .call { callee := .builtin .append, args := #[x, y], argTypes := #[t, t2] }, ty, pos, af, gd⟩) (hk : appendV tr st t t2 x y K F) : Ok P st o K F := by
  obtain ⟨tm0, hp0, nx, nt0⟩ := st
  unfold appendV at hk
  dsimp only at hk
  split at hk
  · rename_i hf
    have ht := TyT.find_ok hT hf
    split at hk
    · rename_i itd isz iby izero hf2
      have he := TyT.find_ok hT hf2
      split at hk
      · rename_i hf3
        have ht2 := TyT.find_ok hT hf3
        rcases firstK_ok hk with ⟨xs, h1, g1, hk⟩ | hk
        · rcases srcK_ok (st := ⟨tm0, hp0, nx, nt0⟩) hk with ⟨ys, h2, g2, hk⟩ | hk
          · obtain ⟨a1, a2, a3, hk⟩ := hk
            rw [onH_eq] at hk
            exact .inl ⟨_, _, ok_append h ht rfl he ht2 rfl (Nat.beq_refl _) g1 g2 a1 a2 a3, hk⟩
          · exact .inr hk
        · exact .inr hk
      · exact .inr hk
    · exact .inr hk
  · exact .inr hk

theorem makeK_ok {K : AV → List (Nat × Row) → Prop} (hT : tr.OK P) {t : Nat} {x y : Operand} (h : o.op = .makeSlice t x y) (hk : makeK tr st t x y K F) : Ok P st o K F := by
  obtain ⟨tm0, hp0, nx, nt0⟩ := st
  unfold makeK at hk
  dsimp only at hk
  split at hk
  · rename_i hf
    have ht := TyT.find_ok hT hf
    split at hk
    · rename_i itd isz iby izero hf2
      have he := TyT.find_ok hT hf2
      split at hk
      · rename_i hx hy
        obtain ⟨n, rfl, rfl, h1, h2, hk⟩ := hk
        exact .inl ⟨_, _, ok_makeSlice h ht rfl he hx hy h1 h2, hk⟩
      · exact .inr hk
    · exact .inr hk
  · exact .inr hk

theorem okOp_ok {K : AV → List (Nat × Row) → Prop} (hT : tr.OK P) (hk : okOp tr st o.op K F) : Ok P st o K F := by
  obtain ⟨tm0, hp0, nx, nt0⟩ := st
  generalize ho : o.op = op at hk
  unfold okOp at hk
  split at hk
  · rw [AV.onD_eq] at hk
    cases hb : ((St.ev ⟨tm0, hp0, nx, nt0⟩ _).known && oneOK (St.ev ⟨tm0, hp0, nx, nt0⟩ _)) with
    | false => rw [hb] at hk; exact .inr hk
    | true =>
      rw [hb] at hk; dsimp only [cond_true] at hk
      unfold varK at hk
      dsimp only at hk
      rw [onL_eq, onH_eq] at hk
      rw [Bool.and_eq_true] at hb
      exact .inl ⟨_, _, ok_box ho rfl hb.1 (oneOK_spec hb.2), hk⟩
  · split at hk
    · rename_i hf
      unfold varK at hk
      dsimp only at hk
      rw [onL_eq, onH_eq] at hk
      exact .inl ⟨_, _, ok_alloc ho (TyT.find_ok hT hf), hk⟩
    · exact .inr hk
  · exact takeV_ok hT ho hk
  · exact makeK_ok hT ho hk
  · exact rowLit_ok hT ho hk
  · rename_i c
    obtain ⟨callee, args, argTypes⟩ := c
    dsimp only at hk
    split at hk
    · split at hk
      · rename_i x y t t2 h1 h2
        have e1 : args = #[x, y] := by cases args; simp_all
        have e2 : argTypes = #[t, t2] := by cases argTypes; simp_all
        subst e1 e2
        obtain ⟨dst, op, ty, pos, af, gd⟩ := o
        dsimp only at ho
        subst ho
        exact appendV_ok hT rfl hk
      · exact .inr hk
    · exact .inr hk
  · exact .inr hk

theorem storeV_ok {K : List (Nat × Row) → Prop} (hT : tr.OK P) {t : Nat} {x y : Operand} (h : o.op = .store t x y) (hk : storeV tr st t x y K F) : Wr P st o K F := by
  unfold storeV at hk
  split at hk
  · rename_i i hf
    have ht := TyT.find_ok hT hf
    split at hk
    · rename_i id off hx
      rw [AV.onD_eq] at hk
      cases hc : ((st.ev y).known && (st.ev y).cells.all AV.leaf && Nat.beq (st.ev y).cells.length i.size) with
      | false => rw [hc] at hk; exact .inr hk
      | true =>
        rw [hc] at hk; dsimp only [cond_true] at hk
        simp only [Bool.and_eq_true] at hc
        obtain ⟨⟨c1, c2⟩, c3⟩ := hc
        split at hk
        · rename_i cs hrow
          cases hb : Nat.ble (off + i.size) cs.length with
          | false => rw [hb] at hk; exact .inr hk
          | true =>
            rw [hb] at hk; dsimp only [cond_true] at hk
            rw [onL_eq, onH_eq] at hk
            exact .inl ⟨_, ok_store_hp h ht hx rfl c1 c2 c3 rfl hrow hb rfl, hk⟩
        · exact .inr hk
    · rename_i id n off hx
      rw [AV.onD_eq] at hk
      cases hc : ((st.ev y).known && (st.ev y).cells.all AV.leaf && Nat.beq (st.ev y).cells.length i.size) with
      | false => rw [hc] at hk; exact .inr hk
      | true =>
        rw [hc] at hk; dsimp only [cond_true] at hk
        simp only [Bool.and_eq_true] at hc
        obtain ⟨⟨c1, c2⟩, c3⟩ := hc
        split at hk
        · rename_i sz xs hrow
          obtain ⟨cs, hg, hk⟩ := hk
          cases hb : ((foldL st.hp (st.ev y).cells).1.all AV.closed && Nat.ble (off + i.size) cs.length) with
          | false => rw [hb] at hk; exact .inr hk
          | true =>
            rw [hb] at hk; dsimp only [cond_true] at hk
            rw [onL_eq, onH_eq] at hk
            rw [Bool.and_eq_true] at hb
            exact .inl ⟨_, ok_store_hq h ht hx rfl c1 c2 c3 rfl hb.1 hrow hg hb.2 rfl, hk⟩
        · rename_i sz xs cs n2 off2 j hrow
          split at hk
          · rename_i u hu
            cases hb : (u.closed && Nat.beq off off2) with
            | false => rw [hb] at hk; exact .inr hk
            | true =>
              rw [hb] at hk; dsimp only [cond_true] at hk
              rw [Bool.and_eq_true] at hb
              obtain ⟨rfl, hk⟩ := hk
              obtain rfl := Nat.eq_of_beq_eq_true hb.2
              rw [onL_eq, onH_eq] at hk
              exact .inl ⟨_, ok_store_foc h ht hx rfl c1 c2 c3 (Prod.ext hu rfl) hb.1 hrow, hk⟩
          · exact .inr hk
        · exact .inr hk
    · exact .inr hk
  · exact .inr hk

theorem doOp_ok {K : List (Nat × Row) → Prop} (hT : tr.OK P) (hk : doOp tr st o.op K F) : Wr P st o K F := by
  generalize ho : o.op = op at hk
  unfold doOp at hk
  split at hk
  · exact storeV_ok hT ho hk
  · exact .inr hk
end

theorem doOp_store {tr : TyT} {st : St} {op : Op} {K : List (Nat × Row) → Prop} (h : doOp tr st op K False) : kp op = false := by
  unfold doOp at h
  split at h
  · rfl
  · exact h.elim

/-- A function that has a body. -/
def HasF (P : Program) (g : Nat) : Prop := ∃ fn c, P.funcs[g]? = some fn ∧ fn.body = some c ∧ (fn.name == "runtime.NumGoroutine") = false

/-- A function's contract. -/
structure FnSpec (P : Program) (g : Nat) (as : List AV) (Q : AV → Prop) : Prop where
  has : HasF P g
  good : Good P g as Q

inductive CallV (P : Program) (g : Nat) (as : List AV) (k : AV → Prop) : Prop
  | mk (Q : AV → Prop) : FnSpec P g as Q → (∀ r, Q r → r.flat3 = true ∧ r.Free ∧ k r) → CallV P g as k
theorem CallV.eq {P : Program} {g : Nat} {as : List AV} {k : AV → Prop} {v : AV} (h : FnSpec P g as (fun r => r = v)) (hf : v.flat3 = true) (h2 : v.Free) (hk : k v) : CallV P g as k := ⟨_, h, fun r e => by rw [e]; exact ⟨hf, h2, hk⟩⟩

theorem CallV.of {P : Program} {g : Nat} {as : List AV} {k : AV → Prop} {Q : AV → Prop} (h : FnSpec P g as Q) (hk : ∀ r, Q r → r.flat3 = true ∧ r.Free ∧ k r) : CallV P g as k := ⟨Q, h, hk⟩
theorem CallV.le {P : Program} {g : Nat} {as bs : List AV} {k : AV → Prop} (hl : LeL as bs) (h : CallV P g bs k) : CallV P g as k := by
  obtain ⟨Q, h, hk⟩ := h
  exact ⟨Q, ⟨h.has, h.good.le hl⟩, hk⟩

inductive Call (P : Program) (g : Nat) (as : List AV) (k : AV → Prop) : Prop
  | mk (Q : AV → Prop) : FnSpec P g as Q → (∀ r, Q r → r.flat3 = true ∧ k r) → Call P g as k
theorem Call.of {P : Program} {g : Nat} {as : List AV} {k : AV → Prop} {Q : AV → Prop} (h : FnSpec P g as Q) (hk : ∀ r, Q r → r.flat3 = true ∧ k r) : Call P g as k := ⟨Q, h, hk⟩
theorem Call.eq {P : Program} {g : Nat} {as : List AV} {k : AV → Prop} {v : AV} (h : FnSpec P g as (fun r => r = v)) (hf : v.flat3 = true) (hk : k v) : Call P g as k := ⟨_, h, fun r e => by rw [e]; exact ⟨hf, hk⟩⟩
theorem Call.le {P : Program} {g : Nat} {as bs : List AV} {k : AV → Prop} (hl : LeL as bs) (h : Call P g bs k) : Call P g as k := by
  obtain ⟨Q, h, hk⟩ := h
  exact ⟨Q, ⟨h.has, h.good.le hl⟩, hk⟩

/-- Results, one by one. -/
def resK (tr : TyT) (st : St) : List ResultVar → List (Nat × Row) → (List AV → Prop) → Prop → Prop
  | [], _, K, F => K []
  | rv :: rvs, hp, K, F => match rv with
    | .tmp d => match get d st.tm with
      | .agg cs => onL (foldL hp cs).1 fun rs => bif rs.all AV.closed then onH (foldL hp cs).2 fun h => resK tr st rvs h (fun l => K (.agg rs :: l)) F else F
      | .hp id 0 => match row id hp with
        | some (.var cs) => onL (foldL (rem id hp) cs).1 fun rs => bif rs.all AV.closed then onH (foldL (rem id hp) cs).2 fun h => resK tr st rvs h (fun l => K (.opt rs :: l)) F else F
        | _ => F
      | v => (fold1 hp v).1.on fun r => bif r.closed then onH (fold1 hp v).2 fun h => resK tr st rvs h (fun l => K (r :: l)) F else F
    | .cell d t => match get d st.tm with
      | .hp id 0 => match row id hp with
        | some (.var cs) => match tr.find t with
          | some i => bif i.isAgg then (bif Nat.beq i.size cs.length && cs.all AV.closed then onH (rem id hp) fun h => resK tr st rvs h (fun l => K (.agg cs :: l)) F else F)
            else match cs with
              | r :: _ => bif r.closed then onH (rem id hp) fun h => resK tr st rvs h (fun l => K (r :: l)) F else F
              | [] => F
          | none => F
        | _ => F
      | _ => F

section
variable {P : Program} {tr : TyT} {st : St} {hp : List (Nat × Row)}

theorem resK_ok (hT : tr.OK P) {F : Prop} : ∀ {rvs : List ResultVar} {hp : List (Nat × Row)} {K : List AV → Prop}, resK tr st rvs hp K F → (∃ rs, ResL P st hp rvs rs ∧ K rs) ∨ F
  | [], hp, K, hk => .inl ⟨[], .nil, hk⟩
  | rv :: rvs, hp, K, hk => by
    have step : ∀ {r : AV} {h : List (Nat × Row)}, Res P st hp rv r h → resK tr st rvs h (fun l => K (r :: l)) F → (∃ rs, ResL P st hp (rv :: rvs) rs ∧ K rs) ∨ F := fun h1 h2 => by
      rcases resK_ok hT h2 with ⟨rs, g1, g2⟩ | g
      · exact .inl ⟨_, .cons h1 g1, g2⟩
      · exact .inr g
    unfold resK at hk
    split at hk
    · rename_i d
      split at hk
      · rename_i cs hv
        rw [onL_eq] at hk
        cases hc : (foldL hp cs).1.all AV.closed with
        | false => rw [hc] at hk; exact .inr hk
        | true => rw [hc] at hk; dsimp only [cond_true] at hk; rw [onH_eq] at hk; exact step (res_agg hv rfl hc) hk
      · rename_i id hv
        split at hk
        · rename_i cs hrow
          rw [onL_eq] at hk
          cases hc : (foldL (rem id hp) cs).1.all AV.closed with
          | false => rw [hc] at hk; exact .inr hk
          | true => rw [hc] at hk; dsimp only [cond_true] at hk; rw [onH_eq] at hk; exact step (res_ptr hv hrow rfl hc) hk
        · exact .inr hk
      · rw [AV.on_eq] at hk
        cases hc : (fold1 hp (get d st.tm)).1.closed with
        | false => rw [hc] at hk; exact .inr hk
        | true => rw [hc] at hk; dsimp only [cond_true] at hk; rw [onH_eq] at hk; exact step (res_tmp rfl rfl hc) hk
    · rename_i d t
      split at hk
      · rename_i id hv
        split at hk
        · rename_i cs hrow
          split at hk
          · rename_i i hf
            have ht := TyT.find_ok hT hf
            cases hb : i.isAgg with
            | true =>
              rw [hb] at hk; dsimp only [cond_true] at hk
              cases hc : (Nat.beq i.size cs.length && cs.all AV.closed) with
              | false => rw [hc] at hk; exact .inr hk
              | true =>
                rw [hc] at hk; dsimp only [cond_true] at hk; rw [onH_eq] at hk
                rw [Bool.and_eq_true] at hc
                exact step (res_cells hv ht hb hrow hc.1 hc.2) hk
            | false =>
              rw [hb] at hk; dsimp only [cond_false] at hk
              split at hk
              · rename_i r rest
                cases hc : r.closed with
                | false => rw [hc] at hk; exact .inr hk
                | true => rw [hc] at hk; dsimp only [cond_true] at hk; rw [onH_eq] at hk; exact step (res_cell hv ht hb hrow rfl hc) hk
              · exact .inr hk
          · exact .inr hk
        · exact .inr hk
      · exact .inr hk
end
end Go.Ax
