/- A symbolic run, reckoned by a function: operations that make memory or write it, results, and the run itself. -/
import Derived.Test.YtdgibhndjdgllaaDoorG02
import Derived.RangeFuncLeaves
import Derived.RangeFuncRecord
set_option linter.unusedVariables false
set_option linter.unusedSimpArgs false

namespace Go.Ax
open Go.RowKit
set_option linter.unusedVariables false
set_option linter.unusedSimpArgs false

def varK (st : St) (cs : List AV) (K : AV → List (Nat × Row) → Prop) : Prop := match st with
  | ⟨_, hp, nx, _⟩ => onL (foldL hp cs).1 fun cs' => onH (foldL hp cs).2 fun h => K (.hp nx 0) ((nx, .var cs') :: h)

def oneOK : AV → Bool
  | .lit u => u.oneCell'
  | _ => true
theorem oneOK_spec {v : AV} (h : oneOK v = true) : ∀ u, v = .lit u → u.cells = #[u] := by
  intro u e; subst e
  cases u <;> first | rfl | (simp [oneOK, Value.oneCell'] at h)

def takeV (tr : TyT) (st : St) (t : Nat) (x : Operand) (K : AV → List (Nat × Row) → Prop) (F : Prop) : Prop := match st with
  | ⟨tm0, hp0, nx, nt0⟩ =>
    match tr.find t with
    | some i => bif i.isAgg then F else match St.ev ⟨tm0, hp0, nx, nt0⟩ x with
      | .hp id off => match row id hp0 with
        | some (.var cs) => match cs.drop off with
          | .osl sz xs :: _ => onL (cs.set off (.hw nx)) fun cs' => onH (rem id hp0) fun h => K (.hw nx) ((nx, .row sz xs) :: (id, .var cs') :: h)
          | _ => F
        | _ => F
      | .hq id n off => match row id hp0 with
        | some (.row sz xs) => PickN xs n fun cs => onL cs fun cs => match cs.drop off with
          | .osl sz2 ys :: _ => onH (rem id hp0) fun h => K (.hw nx) ((nx, .row sz2 ys) :: (id, .foc sz xs cs n off nx) :: h)
          | _ => F
        | _ => F
      | _ => F
    | none => F

def ixs : List (Nat × Operand) → Nat → Bool
  | [], _ => true
  | (j, _) :: r, s => Nat.beq j s && ixs r (s + 1)
theorem ixs_spec : ∀ {ps : List (Nat × Operand)} {s : Nat}, ixs ps s = true → ps.map Prod.fst = upTo ps.length s
  | [], _, _ => rfl
  | (j, x) :: r, s, h => by
    simp only [ixs, Bool.and_eq_true] at h
    simp only [List.map_cons, List.length_cons, upTo, ixs_spec h.2, Nat.eq_of_beq_eq_true h.1]

def rowLit (tr : TyT) (st : St) (t n : Nat) (ps : List (Nat × Operand)) (K : AV → List (Nat × Row) → Prop) (F : Prop) : Prop := match st with
  | ⟨tm0, hp0, nx, nt0⟩ =>
    match tr.find t with
    | some ⟨.td (.slice e), _, _, _⟩ => match tr.find e with
      | some ⟨_, isz, iby, izero⟩ => bif ixs ps 0 && Nat.beq ps.length n && Nat.ble (n * isz) 16777216 && ps.all (fun p => (St.ev ⟨tm0, hp0, nx, nt0⟩ p.2).known) && litOK ⟨tm0, hp0, nx, nt0⟩ ps && (elems ⟨tm0, hp0, nx, nt0⟩ ps).all (fun x => Nat.beq x.length isz) then
          onLL (foldLL hp0 (elems ⟨tm0, hp0, nx, nt0⟩ ps)).1 fun xs => bif xs.flatten.all AV.closed then onH (foldLL hp0 (elems ⟨tm0, hp0, nx, nt0⟩ ps)).2 fun h => K (.hw nx) ((nx, .row isz xs) :: h) else F
        else F
      | none => F
    | _ => F

def firstK (st : St) (x : AV) (sz : Nat) (K : List (List AV) → List (Nat × Row) → Prop) (F : Prop) : Prop :=
  match x with
  | .lit (.slice none 0 0) => K [] st.hp
  | .sl true _ [] => K [] st.hp
  | .hw id => match row id st.hp with
    | some (.row s xs) => bif Nat.beq s sz then K xs (rem id st.hp) else F
    | _ => F
  | _ => F

def srcK (hp : List (Nat × Row)) (y : AV) (sz : Nat) (K : List (List AV) → List (Nat × Row) → Prop) (F : Prop) : Prop :=
  match y with
  | .lit (.slice none 0 0) => K [] hp
  | .sl _ s ys => bif Nat.beq s sz then K ys hp else F
  | .hw id => match row id hp with
    | some (.row s ys) => bif Nat.beq s sz then K ys (rem id hp) else F
    | _ => F
  | _ => F

def appendV (tr : TyT) (st : St) (t t2 : Nat) (x y : Operand) (K : AV → List (Nat × Row) → Prop) (F : Prop) : Prop := match st with
  | ⟨tm0, hp0, nx, nt0⟩ =>
    match tr.find t with
    | some ⟨.td (.slice e), _, _, _⟩ => match tr.find e with
      | some ⟨_, isz, iby, izero⟩ => match tr.find t2 with
        | some ⟨.td (.slice _), _, _, _⟩ => firstK ⟨tm0, hp0, nx, nt0⟩ (St.ev ⟨tm0, hp0, nx, nt0⟩ x) isz (fun xs h1 => srcK h1 (St.ev ⟨tm0, hp0, nx, nt0⟩ y) isz (fun ys h2 => App xs ys iby (onH h2 fun h => K (.hw nx) ((nx, .row isz (xs ++ ys)) :: h))) F) F
        | _ => F
      | none => F
    | _ => F

def makeK (tr : TyT) (st : St) (t : Nat) (x y : Operand) (K : AV → List (Nat × Row) → Prop) (F : Prop) : Prop := match st with
  | ⟨tm0, hp0, nx, nt0⟩ =>
    match tr.find t with
    | some ⟨.td (.slice e), _, _, _⟩ => match tr.find e with
      | some ⟨_, isz, iby, izero⟩ => match St.ev ⟨tm0, hp0, nx, nt0⟩ x, St.ev ⟨tm0, hp0, nx, nt0⟩ y with
        | .lit (.int _ m), .lit (.int _ m2) => MkS m m2 iby fun n => K (.hw nx) ((nx, .row isz (List.replicate n (izero.map .lit))) :: hp0)
        | _, _ => F
      | none => F
    | _ => F

def chanK (tr : TyT) (st : St) (t : Nat) (x : Operand) (K : AV → List (Nat × Row) → Prop) (F : Prop) : Prop := match st with
  | ⟨tm0, hp0, nx, nt0⟩ =>
    match tr.find t with
    | some ⟨.td (.chan d e), _, _, _⟩ => match tr.find e with
      | some ⟨_, isz, iby, izero⟩ => match St.ev ⟨tm0, hp0, nx, nt0⟩ x with
        | .lit (.int _ n) => bif Nat.beq iby 8 then Need (0 ≤ n ∧ n ≤ 1000000000) (K (.hc nx) ((nx, .chn n.toNat []) :: hp0)) else F
        | _ => F
      | none => F
    | _ => F

/-- What makes an entry of the heap. -/
def okOp (tr : TyT) (st : St) (op : Op) (K : AV → List (Nat × Row) → Prop) (F : Prop) : Prop :=
  match op with
  | .box _ x => (st.ev x).onD fun v => bif v.known && oneOK v then varK st v.cells K else F
  | .alloc t => match tr.find t with
    | some i => varK st (i.zero.map .lit) K
    | none => F
  | .load t x => takeV tr st t x K F
  | .makeSlice t x y => makeK tr st t x y K F
  | .buildSlice t n ps => rowLit tr st t n ps.toList K F
  | .makeChan t x => chanK tr st t x K F
  | .call c => match c.callee with
    | .builtin .append => match c.args.toList, c.argTypes.toList with
      | [x, y], [t, t2] => appendV tr st t t2 x y K F
      | _, _ => F
    | _ => F
  | _ => F

def storeV (tr : TyT) (st : St) (t : Nat) (x y : Operand) (K : List (Nat × Row) → Prop) (F : Prop) : Prop :=
  match tr.find t with
  | some i => match st.ev x with
    | .hp id off => (st.ev y).onD fun v => bif v.known && v.cells.all AV.leaf && Nat.beq v.cells.length i.size then
        match row id (foldL st.hp v.cells).2 with
        | some (.var cs) => bif Nat.ble (off + i.size) cs.length then onL (splice cs off (foldL st.hp v.cells).1) fun cs' => onH (rem id (foldL st.hp v.cells).2) fun h => K ((id, .var cs') :: h) else F
        | _ => F
      else F
    | .hq id n off => (st.ev y).onD fun v => bif v.known && v.cells.all AV.leaf && Nat.beq v.cells.length i.size then
        match row id (foldL st.hp v.cells).2 with
        | some (.row sz xs) => PickN xs n fun cs => bif (foldL st.hp v.cells).1.all AV.closed && Nat.ble (off + i.size) cs.length then onL (splice cs off (foldL st.hp v.cells).1) fun cs' => onH (rem id (foldL st.hp v.cells).2) fun h => K ((id, .row sz (xs.set n cs')) :: h) else F
        | some (.foc sz xs cs n2 off2 _) => match (foldL st.hp v.cells).1 with
          | [u] => bif u.closed && Nat.beq off off2 then Need (n = n2) (onL (cs.set off u) fun cs' => onH (rem id (foldL st.hp v.cells).2) fun h => K ((id, .row sz (xs.set n cs')) :: h)) else F
          | _ => F
        | _ => F
      else F
    | _ => F
  | none => F

/-- What writes. -/
def doOp (tr : TyT) (st : St) (op : Op) (K : List (Nat × Row) → Prop) (F : Prop) : Prop :=
  match op with
  | .store t x y => storeV tr st t x y K F
  | _ => F

section
variable {P : Program} {tr : TyT} {st : St} {F : Prop} {o : Oper}

def Ok (P : Program) (st : St) (o : Oper) (K : AV → List (Nat × Row) → Prop) (F : Prop) : Prop := (∃ v hp, OpOK P st o v ⟨st.tm, hp, st.nx + 1, st.nt⟩ ∧ K v hp) ∨ F
def Wr (P : Program) (st : St) (o : Oper) (K : List (Nat × Row) → Prop) (F : Prop) : Prop := (∃ hp, OpDo P st o ⟨st.tm, hp, st.nx, st.nt⟩ ∧ K hp) ∨ F

theorem takeV_ok {K : AV → List (Nat × Row) → Prop} (hT : tr.OK P) {t : Nat} {x : Operand} (h : o.op = .load t x) (hk : takeV tr st t x K F) : Ok P st o K F := by
  obtain ⟨tm0, hp0, nx, nt0⟩ := st
  unfold takeV at hk
  dsimp only at hk
  split at hk
  · rename_i i hf
    have ht := TyT.find_ok hT hf
    cases hb : i.isAgg with
    | true => rw [hb] at hk; exact .inr hk
    | false =>
      rw [hb] at hk; dsimp only [cond_false] at hk
      split at hk
      · rename_i hx
        split at hk
        · rename_i hrow
          split at hk
          · rename_i hd; rw [onL_eq, onH_eq] at hk; exact .inl ⟨_, _, ok_take_hp h ht hb hx hrow hd, hk⟩
          · exact .inr hk
        · exact .inr hk
      · rename_i hx
        split at hk
        · rename_i hrow
          obtain ⟨cs, hg, hk⟩ := hk
          rw [onL_eq] at hk
          split at hk
          · rename_i hd; rw [onH_eq] at hk; exact .inl ⟨_, _, ok_focus h ht hb hx hrow hg hd, hk⟩
          · exact .inr hk
        · exact .inr hk
      · exact .inr hk
  · exact .inr hk

theorem rowLit_ok {K : AV → List (Nat × Row) → Prop} (hT : tr.OK P) {t n : Nat} {ps : Array (Nat × Operand)} (h : o.op = .buildSlice t n ps) (hk : rowLit tr st t n ps.toList K F) : Ok P st o K F := by
  obtain ⟨tm0, hp0, nx, nt0⟩ := st
  unfold rowLit at hk
  dsimp only at hk
  split at hk
  · rename_i hf
    have ht := TyT.find_ok hT hf
    split at hk
    · rename_i itd isz iby izero hf2
      have he := TyT.find_ok hT hf2
      cases hc : (ixs ps.toList 0 && Nat.beq ps.toList.length n && Nat.ble (n * isz) 16777216 && ps.toList.all (fun p => (St.ev ⟨tm0, hp0, nx, nt0⟩ p.2).known) && litOK ⟨tm0, hp0, nx, nt0⟩ ps.toList && (elems ⟨tm0, hp0, nx, nt0⟩ ps.toList).all (fun x => Nat.beq x.length isz)) with
      | false => rw [hc] at hk; exact .inr hk
      | true =>
        rw [hc] at hk; dsimp only [cond_true] at hk
        rw [onLL_eq] at hk
        simp only [Bool.and_eq_true] at hc
        obtain ⟨⟨⟨⟨⟨c1, c2⟩, c3⟩, c4⟩, c5⟩, c6⟩ := hc
        cases hcl : (foldLL hp0 (elems ⟨tm0, hp0, nx, nt0⟩ ps.toList)).1.flatten.all AV.closed with
        | false => rw [hcl] at hk; exact .inr hk
        | true =>
          rw [hcl] at hk; dsimp only [cond_true] at hk; rw [onH_eq] at hk
          have hix := ixs_spec c1
          rw [Nat.eq_of_beq_eq_true c2] at hix
          exact .inl ⟨_, _, ok_buildSlice h ht rfl he hix c3 c4 c5 c6 rfl hcl, hk⟩
    · exact .inr hk
  · exact .inr hk

theorem firstK_ok {x : AV} {sz : Nat} {K : List (List AV) → List (Nat × Row) → Prop} (hk : firstK st x sz K F) : (∃ xs h, FirstA st st.hp x sz xs h ∧ K xs h) ∨ F := by
  unfold firstK at hk
  split at hk
  · exact .inl ⟨_, _, first_nil, hk⟩
  · exact .inl ⟨_, _, first_full, hk⟩
  · split at hk
    · rename_i hrow
      cases hb : Nat.beq _ sz with
      | true => rw [hb] at hk; obtain rfl := Nat.eq_of_beq_eq_true hb; exact .inl ⟨_, _, first_hw hrow, hk⟩
      | false => rw [hb] at hk; exact .inr hk
    · exact .inr hk
  · exact .inr hk

theorem srcK_ok {hp : List (Nat × Row)} {x : AV} {sz : Nat} {K : List (List AV) → List (Nat × Row) → Prop} (hk : srcK hp x sz K F) : (∃ xs h, SrcA st hp x sz xs h ∧ K xs h) ∨ F := by
  unfold srcK at hk
  split at hk
  · exact .inl ⟨_, _, src_nil, hk⟩
  · cases hb : Nat.beq _ sz with
    | true => rw [hb] at hk; obtain rfl := Nat.eq_of_beq_eq_true hb; exact .inl ⟨_, _, src_sl, hk⟩
    | false => rw [hb] at hk; exact .inr hk
  · split at hk
    · rename_i hrow
      cases hb : Nat.beq _ sz with
      | true => rw [hb] at hk; obtain rfl := Nat.eq_of_beq_eq_true hb; exact .inl ⟨_, _, src_hw hrow, hk⟩
      | false => rw [hb] at hk; exact .inr hk
    · exact .inr hk
  · exact .inr hk

theorem appendV_ok {K : AV → List (Nat × Row) → Prop} (hT : tr.OK P) {dst : Option Nat} {t t2 ty : Nat} {x y : Operand} {pos : String} {af : Array Edge} {gd : Option (Nat × Bool)}
    (h : o = ⟨dst, .call { callee := .builtin .append, args := #[x, y], argTypes := #[t, t2] }, ty, pos, af, gd⟩) (hk : appendV tr st t t2 x y K F) : Ok P st o K F := by
  obtain ⟨tm0, hp0, nx, nt0⟩ := st
  unfold appendV at hk
  dsimp only at hk
  split at hk
  · rename_i hf
    have ht := TyT.find_ok hT hf
    split at hk
    · rename_i itd isz iby izero hf2
      have he := TyT.find_ok hT hf2
      split at hk
      · rename_i hf3
        have ht2 := TyT.find_ok hT hf3
        rcases firstK_ok hk with ⟨xs, h1, g1, hk⟩ | hk
        · rcases srcK_ok (st := ⟨tm0, hp0, nx, nt0⟩) hk with ⟨ys, h2, g2, hk⟩ | hk
          · obtain ⟨a1, a2, a3, hk⟩ := hk
            rw [onH_eq] at hk
            exact .inl ⟨_, _, ok_append h ht rfl he ht2 rfl (Nat.beq_refl _) g1 g2 a1 a2 a3, hk⟩
          · exact .inr hk
        · exact .inr hk
      · exact .inr hk
    · exact .inr hk
  · exact .inr hk

theorem makeK_ok {K : AV → List (Nat × Row) → Prop} (hT : tr.OK P) {t : Nat} {x y : Operand} (h : o.op = .makeSlice t x y) (hk : makeK tr st t x y K F) : Ok P st o K F := by
  obtain ⟨tm0, hp0, nx, nt0⟩ := st
  unfold makeK at hk
  dsimp only at hk
  split at hk
  · rename_i hf
    have ht := TyT.find_ok hT hf
    split at hk
    · rename_i itd isz iby izero hf2
      have he := TyT.find_ok hT hf2
      split at hk
      · rename_i hx hy
        obtain ⟨n, rfl, rfl, h1, h2, hk⟩ := hk
        exact .inl ⟨_, _, ok_makeSlice h ht rfl he hx hy h1 h2, hk⟩
      · exact .inr hk
    · exact .inr hk
  · exact .inr hk

theorem chanK_ok {K : AV → List (Nat × Row) → Prop} (hT : tr.OK P) {t : Nat} {x : Operand} (h : o.op = .makeChan t x) (hk : chanK tr st t x K F) : Ok P st o K F := by
  obtain ⟨tm0, hp0, nx, nt0⟩ := st
  unfold chanK at hk
  dsimp only at hk
  split at hk
  · rename_i hf
    have ht := TyT.find_ok hT hf
    split at hk
    · rename_i itd isz iby izero hf2
      have he := TyT.find_ok hT hf2
      split at hk
      · rename_i kk n hx
        cases hb : Nat.beq iby 8 with
        | false => rw [hb] at hk; exact .inr hk
        | true =>
          rw [hb] at hk; dsimp only [cond_true] at hk
          obtain ⟨⟨h1, h2⟩, hk⟩ := hk
          exact .inl ⟨_, _, ok_makeChanO h ht rfl he hx h1 h2 (Nat.eq_of_beq_eq_true hb), hk⟩
      · exact .inr hk
    · exact .inr hk
  · exact .inr hk

theorem okOp_ok {K : AV → List (Nat × Row) → Prop} (hT : tr.OK P) (hk : okOp tr st o.op K F) : Ok P st o K F := by
  obtain ⟨tm0, hp0, nx, nt0⟩ := st
  generalize ho : o.op = op at hk
  unfold okOp at hk
  split at hk
  · rw [AV.onD_eq] at hk
    cases hb : ((St.ev ⟨tm0, hp0, nx, nt0⟩ _).known && oneOK (St.ev ⟨tm0, hp0, nx, nt0⟩ _)) with
    | false => rw [hb] at hk; exact .inr hk
    | true =>
      rw [hb] at hk; dsimp only [cond_true] at hk
      unfold varK at hk
      dsimp only at hk
      rw [onL_eq, onH_eq] at hk
      rw [Bool.and_eq_true] at hb
      exact .inl ⟨_, _, ok_box ho rfl hb.1 (oneOK_spec hb.2), hk⟩
  · split at hk
    · rename_i hf
      unfold varK at hk
      dsimp only at hk
      rw [onL_eq, onH_eq] at hk
      exact .inl ⟨_, _, ok_alloc ho (TyT.find_ok hT hf), hk⟩
    · exact .inr hk
  · exact takeV_ok hT ho hk
  · exact makeK_ok hT ho hk
  · exact rowLit_ok hT ho hk
  · exact chanK_ok hT ho hk
  · rename_i c
    obtain ⟨callee, args, argTypes⟩ := c
    dsimp only at hk
    split at hk
    · split at hk
      · rename_i x y t t2 h1 h2
        have e1 : args = #[x, y] := by cases args; simp_all
        have e2 : argTypes = #[t, t2] := by cases argTypes; simp_all
        subst e1 e2
        obtain ⟨dst, op, ty, pos, af, gd⟩ := o
        dsimp only at ho
        subst ho
        exact appendV_ok hT rfl hk
      · exact .inr hk
    · exact .inr hk
  · exact .inr hk

theorem storeV_ok {K : List (Nat × Row) → Prop} (hT : tr.OK P) {t : Nat} {x y : Operand} (h : o.op = .store t x y) (hk : storeV tr st t x y K F) : Wr P st o K F := by
  unfold storeV at hk
  split at hk
  · rename_i i hf
    have ht := TyT.find_ok hT hf
    split at hk
    · rename_i id off hx
      rw [AV.onD_eq] at hk
      cases hc : ((st.ev y).known && (st.ev y).cells.all AV.leaf && Nat.beq (st.ev y).cells.length i.size) with
      | false => rw [hc] at hk; exact .inr hk
      | true =>
        rw [hc] at hk; dsimp only [cond_true] at hk
        simp only [Bool.and_eq_true] at hc
        obtain ⟨⟨c1, c2⟩, c3⟩ := hc
        split at hk
        · rename_i cs hrow
          cases hb : Nat.ble (off + i.size) cs.length with
          | false => rw [hb] at hk; exact .inr hk
          | true =>
            rw [hb] at hk; dsimp only [cond_true] at hk
            rw [onL_eq, onH_eq] at hk
            exact .inl ⟨_, ok_store_hp h ht hx rfl c1 c2 c3 rfl hrow hb rfl, hk⟩
        · exact .inr hk
    · rename_i id n off hx
      rw [AV.onD_eq] at hk
      cases hc : ((st.ev y).known && (st.ev y).cells.all AV.leaf && Nat.beq (st.ev y).cells.length i.size) with
      | false => rw [hc] at hk; exact .inr hk
      | true =>
        rw [hc] at hk; dsimp only [cond_true] at hk
        simp only [Bool.and_eq_true] at hc
        obtain ⟨⟨c1, c2⟩, c3⟩ := hc
        split at hk
        · rename_i sz xs hrow
          obtain ⟨cs, hg, hk⟩ := hk
          cases hb : ((foldL st.hp (st.ev y).cells).1.all AV.closed && Nat.ble (off + i.size) cs.length) with
          | false => rw [hb] at hk; exact .inr hk
          | true =>
            rw [hb] at hk; dsimp only [cond_true] at hk
            rw [onL_eq, onH_eq] at hk
            rw [Bool.and_eq_true] at hb
            exact .inl ⟨_, ok_store_hq h ht hx rfl c1 c2 c3 rfl hb.1 hrow hg hb.2 rfl, hk⟩
        · rename_i sz xs cs n2 off2 j hrow
          split at hk
          · rename_i u hu
            cases hb : (u.closed && Nat.beq off off2) with
            | false => rw [hb] at hk; exact .inr hk
            | true =>
              rw [hb] at hk; dsimp only [cond_true] at hk
              rw [Bool.and_eq_true] at hb
              obtain ⟨rfl, hk⟩ := hk
              obtain rfl := Nat.eq_of_beq_eq_true hb.2
              rw [onL_eq, onH_eq] at hk
              exact .inl ⟨_, ok_store_foc h ht hx rfl c1 c2 c3 (Prod.ext hu rfl) hb.1 hrow, hk⟩
          · exact .inr hk
        · exact .inr hk
    · exact .inr hk
  · exact .inr hk

theorem doOp_ok {K : List (Nat × Row) → Prop} (hT : tr.OK P) (hk : doOp tr st o.op K F) : Wr P st o K F := by
  generalize ho : o.op = op at hk
  unfold doOp at hk
  split at hk
  · exact storeV_ok hT ho hk
  · exact .inr hk
end

/-- A function that has a body. -/
def HasF (P : Program) (g : Nat) : Prop := ∃ fn c, P.funcs[g]? = some fn ∧ fn.body = some c ∧ (fn.name == "runtime.NumGoroutine") = false

/-- A function's contract. -/
structure FnSpec (P : Program) (g : Nat) (as : List AV) (Q : AV → Prop) : Prop where
  has : HasF P g
  good : Good P g as Q

inductive CallV (P : Program) (g : Nat) (as : List AV) (k : AV → Prop) : Prop
  | mk (Q : AV → Prop) : FnSpec P g as Q → (∀ r, Q r → r.flat3 = true ∧ r.Free ∧ k r) → CallV P g as k
theorem CallV.eq {P : Program} {g : Nat} {as : List AV} {k : AV → Prop} {v : AV} (h : FnSpec P g as (fun r => r = v)) (hf : v.flat3 = true) (h2 : v.Free) (hk : k v) : CallV P g as k := ⟨_, h, fun r e => by rw [e]; exact ⟨hf, h2, hk⟩⟩

theorem CallV.of {P : Program} {g : Nat} {as : List AV} {k : AV → Prop} {Q : AV → Prop} (h : FnSpec P g as Q) (hk : ∀ r, Q r → r.flat3 = true ∧ r.Free ∧ k r) : CallV P g as k := ⟨Q, h, hk⟩
theorem CallV.le {P : Program} {g : Nat} {as bs : List AV} {k : AV → Prop} (hl : LeL as bs) (h : CallV P g bs k) : CallV P g as k := by
  obtain ⟨Q, h, hk⟩ := h
  exact ⟨Q, ⟨h.has, h.good.le hl⟩, hk⟩

/-- A function's contract where tables are laid. -/
structure FnSpecT (P : Program) (tb : List (Nat × List Value)) (g : Nat) (as : List AV) (Q : AV → Prop) : Prop where
  has : HasF P g
  good : GoodT P tb g as Q
theorem FnSpec.t {P : Program} {tb : List (Nat × List Value)} {g : Nat} {as : List AV} {Q : AV → Prop} (h : FnSpec P g as Q) : FnSpecT P tb g as Q := ⟨h.has, h.good.t⟩
inductive Call (P : Program) (tb : List (Nat × List Value)) (g : Nat) (as : List AV) (k : AV → Prop) : Prop
  | mk (Q : AV → Prop) : FnSpecT P tb g as Q → (∀ r, Q r → r.flat3 = true ∧ k r) → Call P tb g as k
theorem Call.of {P : Program} {tb : List (Nat × List Value)} {g : Nat} {as : List AV} {k : AV → Prop} {Q : AV → Prop} (h : FnSpec P g as Q) (hk : ∀ r, Q r → r.flat3 = true ∧ k r) : Call P tb g as k := ⟨Q, h.t, hk⟩
theorem Call.eq {P : Program} {tb : List (Nat × List Value)} {g : Nat} {as : List AV} {k : AV → Prop} {v : AV} (h : FnSpec P g as (fun r => r = v)) (hf : v.flat3 = true) (hk : k v) : Call P tb g as k := ⟨_, h.t, fun r e => by rw [e]; exact ⟨hf, hk⟩⟩
theorem Call.eqT {P : Program} {tb : List (Nat × List Value)} {g : Nat} {as : List AV} {k : AV → Prop} {v : AV} (h : FnSpecT P tb g as (fun r => r = v)) (hf : v.flat3 = true) (hk : k v) : Call P tb g as k := ⟨_, h, fun r e => by rw [e]; exact ⟨hf, hk⟩⟩
theorem Call.le {P : Program} {tb : List (Nat × List Value)} {g : Nat} {as bs : List AV} {k : AV → Prop} (hl : LeL as bs) (h : Call P tb g bs k) : Call P tb g as k := by
  obtain ⟨Q, h, hk⟩ := h
  exact ⟨Q, ⟨h.has, fun S0 w vs h1 h2 h3 => h.good S0 w vs h1 h2 (hl.std h3)⟩, hk⟩

/-- Results, one by one. -/
def resK (tr : TyT) (st : St) : List ResultVar → List (Nat × Row) → (List AV → Prop) → Prop → Prop
  | [], _, K, F => K []
  | rv :: rvs, hp, K, F => match rv with
    | .tmp d => match get d st.tm with
      | .agg cs => onL (foldL hp cs).1 fun rs => bif rs.all AV.closed then onH (foldL hp cs).2 fun h => resK tr st rvs h (fun l => K (.agg rs :: l)) F else F
      | .hp id 0 => match row id hp with
        | some (.var cs) => onL (foldL (rem id hp) cs).1 fun rs => bif rs.all AV.closed then onH (foldL (rem id hp) cs).2 fun h => resK tr st rvs h (fun l => K (.opt rs :: l)) F else F
        | _ => F
      | v => (fold1 hp v).1.on fun r => bif r.closed then onH (fold1 hp v).2 fun h => resK tr st rvs h (fun l => K (r :: l)) F else F
    | .cell d t => match get d st.tm with
      | .hp id 0 => match row id hp with
        | some (.var cs) => match tr.find t with
          | some i => bif i.isAgg then (bif Nat.beq i.size cs.length && cs.all AV.closed then onH (rem id hp) fun h => resK tr st rvs h (fun l => K (.agg cs :: l)) F else F)
            else match cs with
              | r :: _ => bif r.closed then onH (rem id hp) fun h => resK tr st rvs h (fun l => K (r :: l)) F else F
              | [] => F
          | none => F
        | _ => F
      | _ => F

section
variable {P : Program} {tr : TyT} {st : St} {hp : List (Nat × Row)}

theorem resK_ok (hT : tr.OK P) {F : Prop} : ∀ {rvs : List ResultVar} {hp : List (Nat × Row)} {K : List AV → Prop}, resK tr st rvs hp K F → (∃ rs, ResL P st hp rvs rs ∧ K rs) ∨ F
  | [], hp, K, hk => .inl ⟨[], .nil, hk⟩
  | rv :: rvs, hp, K, hk => by
    have step : ∀ {r : AV} {h : List (Nat × Row)}, Res P st hp rv r h → resK tr st rvs h (fun l => K (r :: l)) F → (∃ rs, ResL P st hp (rv :: rvs) rs ∧ K rs) ∨ F := fun h1 h2 => by
      rcases resK_ok hT h2 with ⟨rs, g1, g2⟩ | g
      · exact .inl ⟨_, .cons h1 g1, g2⟩
      · exact .inr g
    unfold resK at hk
    split at hk
    · rename_i d
      split at hk
      · rename_i cs hv
        rw [onL_eq] at hk
        cases hc : (foldL hp cs).1.all AV.closed with
        | false => rw [hc] at hk; exact .inr hk
        | true => rw [hc] at hk; dsimp only [cond_true] at hk; rw [onH_eq] at hk; exact step (res_agg hv rfl hc) hk
      · rename_i id hv
        split at hk
        · rename_i cs hrow
          rw [onL_eq] at hk
          cases hc : (foldL (rem id hp) cs).1.all AV.closed with
          | false => rw [hc] at hk; exact .inr hk
          | true => rw [hc] at hk; dsimp only [cond_true] at hk; rw [onH_eq] at hk; exact step (res_ptr hv hrow rfl hc) hk
        · exact .inr hk
      · rw [AV.on_eq] at hk
        cases hc : (fold1 hp (get d st.tm)).1.closed with
        | false => rw [hc] at hk; exact .inr hk
        | true => rw [hc] at hk; dsimp only [cond_true] at hk; rw [onH_eq] at hk; exact step (res_tmp rfl rfl hc) hk
    · rename_i d t
      split at hk
      · rename_i id hv
        split at hk
        · rename_i cs hrow
          split at hk
          · rename_i i hf
            have ht := TyT.find_ok hT hf
            cases hb : i.isAgg with
            | true =>
              rw [hb] at hk; dsimp only [cond_true] at hk
              cases hc : (Nat.beq i.size cs.length && cs.all AV.closed) with
              | false => rw [hc] at hk; exact .inr hk
              | true =>
                rw [hc] at hk; dsimp only [cond_true] at hk; rw [onH_eq] at hk
                rw [Bool.and_eq_true] at hc
                exact step (res_cells hv ht hb hrow hc.1 hc.2) hk
            | false =>
              rw [hb] at hk; dsimp only [cond_false] at hk
              split at hk
              · rename_i r rest
                cases hc : r.closed with
                | false => rw [hc] at hk; exact .inr hk
                | true => rw [hc] at hk; dsimp only [cond_true] at hk; rw [onH_eq] at hk; exact step (res_cell hv ht hb hrow rfl hc) hk
              · exact .inr hk
          · exact .inr hk
        · exact .inr hk
      · exact .inr hk
end
end Go.Ax

/- A symbolic run, reckoned by a function: the run. -/
namespace Go.Ax
open Go.RowKit
set_option linter.unusedVariables false
set_option linter.unusedSimpArgs false

def nth {α : Type} : List α → Nat → Option α
  | [], _ => none
  | a :: _, 0 => some a
  | _ :: l, n + 1 => nth l n
theorem nth_eq {α : Type} : ∀ (l : List α) (n : Nat), nth l n = l[n]?
  | [], _ => by simp [nth]
  | a :: _, 0 => rfl
  | _ :: l, n + 1 => by simp [nth, nth_eq l n]

def memN (j : Nat) : List Nat → Bool
  | [] => false
  | a :: l => Nat.beq a j || memN j l

abbrev TM := List (Nat × AV)
abbrev HP := List (Nat × Row)

/-- A guard: what is wanted goes on, what isn't is left out. -/
def gdK (A : Array Oper) (nt : Nat) (g : Option (Nat × Bool)) (kn : List Nat) (tm : TM) (run skip : List Nat → TM → Prop) (F : Prop) : Prop :=
  match g with
  | none => run kn tm
  | some (j, want) => match (nth A.toList j).bind (·.dst) with
    | none => F
    | some d => bif Nat.blt d nt then (bif memN j kn then match get d tm with
        | .lit (.bool true) => bif want then run kn tm else skip kn tm
        | .lit (.bool false) => bif want then skip kn tm else run kn tm
        | _ => F
      else match get d tm with
        | .lit (.bool b) => Br b (bif want then run (j :: kn) ((d, .lit (.bool true)) :: tm) else skip (j :: kn) ((d, .lit (.bool true)) :: tm))
            (bif want then skip (j :: kn) ((d, .lit (.bool false)) :: tm) else run (j :: kn) ((d, .lit (.bool false)) :: tm))
        | .lit _ => skip kn tm
        | _ => F) else F

/-- One's own, as one who only looks sees it. -/
def cellsK : List AV → (List AV → Prop) → Prop
  | [], k => k []
  | a :: r, k => match a with
    | .osl sz xs => View xs fun ys => cellsK r fun l => k (.sl false sz ys :: l)
    | .opt cs => cellsK r fun l => k (.pt (AV.fzL cs) :: l)
    | .agg cs => cellsK r fun l => k (.agg (AV.fzL cs) :: l)
    | .tup cs => cellsK r fun l => k (.tup (AV.fzL cs) :: l)
    | a => cellsK r fun l => k (a :: l)
theorem cellsK_ok : ∀ {cs : List AV} {k : List AV → Prop}, cellsK cs k → k (AV.fzL cs)
  | [], k, h => h
  | a :: r, k, h => by
    unfold cellsK at h
    split at h
    · obtain ⟨ys, rfl, h⟩ := h; have := cellsK_ok h; simpa only [AV.fzL, AV.fz] using this
    · have := cellsK_ok h; simpa only [AV.fzL, AV.fz] using this
    · have := cellsK_ok h; simpa only [AV.fzL, AV.fz] using this
    · have := cellsK_ok h; simpa only [AV.fzL, AV.fz] using this
    · rename_i h1 h2 h3 h4
      have := cellsK_ok h
      cases a with
      | osl s x => exact absurd rfl (h1 s x)
      | opt c => exact absurd rfl (h2 c)
      | agg c => exact absurd rfl (h3 c)
      | tup c => exact absurd rfl (h4 c)
      | _ => simpa only [AV.fzL, AV.fz] using this

def seen1 (hp : HP) (a : AV) (k : AV → Prop) : Prop :=
  match a with
  | .hw id => match row id hp with
    | some (.row sz xs) => View xs fun ys => k (.sl false sz ys)
    | _ => k a
  | .hp id 0 => match row id hp with
    | some (.var cs) => bif cs.all AV.closed then cellsK cs fun cs => k (.pt cs) else k a
    | _ => k a
  | a => k a
theorem seen1_ok {hp : HP} {a : AV} {k : AV → Prop} (h : seen1 hp a k) : ∃ a', Seen hp a a' ∧ k a' := by
  unfold seen1 at h
  split at h
  · split at h
    · rename_i hrow; obtain ⟨ys, hy, h⟩ := h; exact ⟨_, seen_hw hrow hy, h⟩
    · exact ⟨_, .inl rfl, h⟩
  · split at h
    · rename_i cs hrow
      cases hc : cs.all AV.closed with
      | true => rw [hc] at h; exact ⟨_, seen_hp hrow hc rfl, cellsK_ok h⟩
      | false => rw [hc] at h; exact ⟨_, .inl rfl, h⟩
    · exact ⟨_, .inl rfl, h⟩
  · exact ⟨_, .inl rfl, h⟩

def seenC (hp : HP) : List AV → (List AV → Prop) → Prop
  | [], k => k []
  | a :: r, k => seen1 hp a fun a => seenC hp r fun l => k (a :: l)
theorem seenC_ok {hp : HP} : ∀ {as : List AV} {k : List AV → Prop}, seenC hp as k → ∃ as', SeenL hp as as' ∧ k as'
  | [], k, h => ⟨[], .nil, h⟩
  | a :: r, k, h => by
    obtain ⟨a', h1, h⟩ := seen1_ok h
    obtain ⟨l, h2, h⟩ := seenC_ok h
    exact ⟨_, .cons h1 h2, h⟩

def seenL (hp : HP) : List AV → (List AV → Prop) → Prop
  | [], k => k []
  | a :: r, k => match a with
    | .agg cs => seenC hp cs fun cs => bif cs.all AV.std then seenL hp r fun l => k (.agg cs :: l) else False
    | a => seen1 hp a fun a => seenL hp r fun l => k (a :: l)
theorem seenL_ok {hp : HP} : ∀ {as : List AV} {k : List AV → Prop}, seenL hp as k → ∃ as', SeenL hp as as' ∧ k as'
  | [], k, h => ⟨[], .nil, h⟩
  | a :: r, k, h => by
    unfold seenL at h
    split at h
    · obtain ⟨cs', h1, h⟩ := seenC_ok h
      cases hc : cs'.all AV.std with
      | false => rw [hc] at h; exact h.elim
      | true =>
        rw [hc] at h
        obtain ⟨l, h2, h⟩ := seenL_ok h
        exact ⟨_, .cons (seen_agg h1 hc) h2, h⟩
    · obtain ⟨a', h1, h⟩ := seen1_ok h
      obtain ⟨l, h2, h⟩ := seenL_ok h
      exact ⟨_, .cons h1 h2, h⟩

/-- A call with the heap. -/
inductive Dyn (P : Program) (g : Nat) (as : List AV) (hp : HP) (nx : Nat) (K : AV → HP → Nat → Prop) : Prop
  | mk (fn : Func) (c : Code) : P.funcs[g]? = some fn → fn.body = some c → (Nat.ble as.length fn.ntmps && !(fn.name == "runtime.NumGoroutine")) = true → Run P g (Post.inl nx K) [.code c] ⟨slots 0 as, hp, nx, fn.ntmps⟩ → Dyn P g as hp nx K
  | spec (Qg : AV → Prop) (as' : List AV) : FnSpec P g as' Qg → SeenL hp as as' → as'.all AV.std = true → (∀ r, Qg r → r.flat3 = true ∧ r.Free ∧ K (imp nx r).1 ((imp nx r).2.1 ++ hp) (imp nx r).2.2) → Dyn P g as hp nx K

def imp1K (nx : Nat) (a : AV) (K : AV → HP → Nat → Prop) : Prop := match a with
  | .osl sz xs => K (.hw nx) [(nx, .row sz xs)] (nx + 1)
  | .opt cs => K (.hp nx 0) [(nx, .var cs)] (nx + 1)
  | v => K v [] nx
theorem imp1K_eq (nx : Nat) (a : AV) (K : AV → HP → Nat → Prop) : imp1K nx a K = K (imp1 nx a).1 (imp1 nx a).2.1 (imp1 nx a).2.2 := by cases a <;> rfl
def impLK (nx : Nat) : List AV → (List AV → HP → Nat → Prop) → Prop
  | [], K => K [] [] nx
  | a :: as, K => imp1K nx a fun v h n1 => impLK n1 as fun l h2 n2 => K (v :: l) (h ++ h2) n2
theorem impLK_eq : ∀ (as : List AV) (nx : Nat) (K : List AV → HP → Nat → Prop), impLK nx as K = K (impL nx as).1 (impL nx as).2.1 (impL nx as).2.2
  | [], nx, K => rfl
  | a :: as, nx, K => by simp only [impLK, imp1K_eq, impLK_eq as, impL]
def imp2K (nx : Nat) (a : AV) (K : AV → HP → Nat → Prop) : Prop := match a with
  | .agg cs => impLK nx cs fun l h n => K (.agg l) h n
  | v => imp1K nx v K
theorem imp2K_eq (nx : Nat) (a : AV) (K : AV → HP → Nat → Prop) : imp2K nx a K = K (imp2 nx a).1 (imp2 nx a).2.1 (imp2 nx a).2.2 := by
  cases a with
  | agg cs => simp only [imp2K, impLK_eq, imp2]
  | _ => simp only [imp2K, imp2, imp1K_eq]
def impTK (nx : Nat) : List AV → (List AV → HP → Nat → Prop) → Prop
  | [], K => K [] [] nx
  | a :: as, K => imp2K nx a fun v h n1 => impTK n1 as fun l h2 n2 => K (v :: l) (h ++ h2) n2
theorem impTK_eq : ∀ (as : List AV) (nx : Nat) (K : List AV → HP → Nat → Prop), impTK nx as K = K (impT nx as).1 (impT nx as).2.1 (impT nx as).2.2
  | [], nx, K => rfl
  | a :: as, nx, K => by simp only [impTK, imp2K_eq, impTK_eq as, impT]
def impK (nx : Nat) (a : AV) (K : AV → HP → Nat → Prop) : Prop := match a with
  | .tup cs => impTK nx cs fun l h n => K (.tup l) h n
  | v => imp2K nx v K
theorem impK_eq (nx : Nat) (a : AV) (K : AV → HP → Nat → Prop) : impK nx a K = K (imp nx a).1 (imp nx a).2.1 (imp nx a).2.2 := by
  cases a with
  | tup cs => simp only [impK, impTK_eq, imp]
  | _ => simp only [impK, imp, imp2K_eq]

def backK (nx : Nat) (hp : HP) (K : AV → HP → Nat → Prop) (r : AV) : Prop := impK nx r fun v h n => v.onD fun v => onH (h ++ hp) fun h => K v h n
theorem backK_eq (nx : Nat) (hp : HP) (K : AV → HP → Nat → Prop) (r : AV) : backK nx hp K r = K (imp nx r).1 ((imp nx r).2.1 ++ hp) (imp nx r).2.2 := by
  unfold backK; rw [impK_eq, AV.onD_eq, onH_eq]

def callOp (P : Program) (st : St) (op : Op) (K : AV → HP → Nat → Prop) (F : Prop) : Prop := match st with
  | ⟨tm0, hp0, nx, nt0⟩ => match op with
    | .call c => match c.callee with
      | .value (.func g) => onL (c.args.toList.map (St.ev ⟨tm0, hp0, nx, nt0⟩)) fun as => bif as.all AV.std then Call P (tabs hp0) g as (backK nx hp0 K)
        else Look F (seenL hp0 as fun as' => bif as'.all AV.std then CallV P g as' (backK nx hp0 K) else F)
      | .value (.tmp t) => match get t tm0 with
        | .fn g cs => onL (c.args.toList.map (St.ev ⟨tm0, hp0, nx, nt0⟩) ++ cs) fun as => Dyn P g as hp0 nx K
        | _ => F
      | _ => F
    | _ => F

/-- Which operands are looked at. -/
def usesL (tm : TM) (j : Nat) : List Operand → Bool
  | [] => false
  | .tmp t :: r => (match get t tm with
    | .hw i => Nat.beq i j
    | _ => false) || usesL tm j r
  | _ :: r => usesL tm j r
/-- What is put back ahead of an operation. -/
def unfAny (tm : TM) (xs : List Operand) (hp : HP) : HP → Option HP
  | [] => none
  | (id, .foc _ _ _ _ _ j) :: r => bif usesL tm j xs then unfAny tm xs hp r else match unf1 id hp with
    | some h => some h
    | none => unfAny tm xs hp r
  | _ :: r => unfAny tm xs hp r
theorem unfAny_ok {tm : TM} {xs : List Operand} {hp h : HP} : ∀ {l : HP}, unfAny tm xs hp l = some h → ∃ id, unf1 id hp = some h
  | (id, .foc _ _ _ _ _ j) :: r, e => by
    simp only [unfAny] at e
    cases hu : usesL tm j xs with
    | true => rw [hu] at e; exact unfAny_ok e
    | false =>
      rw [hu] at e
      simp only [cond_false] at e
      split at e
      · rename_i h1; cases e; exact ⟨_, h1⟩
      · exact unfAny_ok e
  | (_, .var _) :: r, e => unfAny_ok (l := r) e
  | (_, .row ..) :: r, e => unfAny_ok (l := r) e
  | (_, .lp _) :: r, e => unfAny_ok (l := r) e
  | (_, .mpr _) :: r, e => unfAny_ok (l := r) e
  | (_, .chn _ _) :: r, e => unfAny_ok (l := r) e
  | (_, .itr _ _) :: r, e => unfAny_ok (l := r) e
  | (_, .tab _ _) :: r, e => unfAny_ok (l := r) e

def unfOp (tm : TM) (hp : HP) (op : Op) : Option HP :=
  match op with
  | .load _ (.tmp t) => match get t tm with
    | .hq id _ _ => unf1 id hp
    | _ => none
  | .indexAddr _ (.tmp t) _ => match get t tm with
    | .hw id => unf1 id hp
    | _ => none
  | .call c => match c.callee with
    | .value _ => unfAny tm c.args.toList hp hp
    | _ => none
  | _ => none
theorem unfOp_ok {tm : TM} {hp h : HP} {op : Op} (e : unfOp tm hp op = some h) : ∃ id, unf1 id hp = some h := by
  unfold unfOp at e
  split at e
  · split at e
    · exact ⟨_, e⟩
    · cases e
  · split at e
    · exact ⟨_, e⟩
    · cases e
  · split at e
    · exact unfAny_ok e
    · cases e
  · cases e

def skipK (nt : Nat) (dst : Option Nat) (K : TM → Prop) (F : Prop) (tm : TM) : Prop :=
  match dst with
  | some d => bif Nat.blt d nt then K ((d, .lit undef) :: tm) else F
  | none => K tm

/-- One operation, whatever it is. -/
def anyOp1 (P : Program) (tr : TyT) (nt : Nat) (dst : Option Nat) (op : Op) (K : TM → HP → Nat → Prop) (F : Prop) (tm : TM) (hp : HP) (nx : Nat) : Prop :=
  match dst with
  | some d => bif Nat.blt d nt then
      rdOp P tr ⟨tm, hp, nx, nt⟩ op (fun v => K ((d, v) :: tm) hp nx)
        (okOp tr ⟨tm, hp, nx, nt⟩ op (fun v h => K ((d, v) :: tm) h (nx + 1))
          (callOp P ⟨tm, hp, nx, nt⟩ op (fun v h nx => K ((d, v) :: tm) h nx) F))
    else F
  | none => doOp tr ⟨tm, hp, nx, nt⟩ op (fun h => K tm h nx) F

def anyOp (P : Program) (tr : TyT) (nt : Nat) (dst : Option Nat) (op : Op) (K : TM → HP → Nat → Prop) (F : Prop) (tm : TM) (hp : HP) (nx : Nat) : Prop :=
  match unfOp tm hp op with
  | some h => onH h fun h => anyOp1 P tr nt dst op K F tm h nx
  | none => anyOp1 P tr nt dst op K F tm hp nx

/-- Orders: which operation is next; where several may be, each of them. -/
inductive Ord where
  | nil
  | one (i : Nat) (single : Bool) (r : Ord)
  | alt (i : Nat) (r e : Ord)
  | no

def Ord.ixs : Ord → List Nat
  | .alt i _ e => i :: e.ixs
  | _ => []
def Ord.depth : Ord → Nat
  | .nil => 0
  | .one _ _ r => r.depth + 1
  | .alt _ r e => max (r.depth + 1) e.depth
  | .no => 0

inductive Both (p q : Prop) : Prop
  | mk : p → q → Both p q

/-- One operation of a region whose order is open. -/
def dop (P : Program) (tr : TyT) (nt : Nat) (A : Array Oper) (i : Nat) (E : List Nat → TM → HP → Nat → Prop) (kn : List Nat) (tm : TM) (hp : HP) (nx : Nat) : Prop :=
  match nth A.toList i with
  | some ⟨dst, op, _, _, _, g⟩ => gdK A nt g kn tm (fun kn tm => anyOp P tr nt dst op (fun tm hp nx => E kn tm hp nx) False tm hp nx) (fun kn tm => skipK nt dst (fun tm => E kn tm hp nx) False tm) False
  | none => False

/-- A region whose order is open. -/
def dex (P : Program) (tr : TyT) (nt : Nat) (A : Array Oper) (E : TM → HP → Nat → Prop) : Ord → List Nat → TM → HP → Nat → Prop
  | .nil, _, tm, hp, nx => E tm hp nx
  | .one i true r, kn, tm, hp, nx => dop P tr nt A i (fun kn tm hp nx => dex P tr nt A E r kn tm hp nx) kn tm hp nx
  | .one i false r, kn, tm, hp, nx => match nth A.toList i with
    | some ⟨dst, op, _, _, _, g⟩ => gdK A nt g kn tm
        (fun kn tm => match dst with
            | some d => bif Nat.blt d nt then rdOp P tr ⟨tm, hp, nx, nt⟩ op (fun v => dex P tr nt A E r kn ((d, v) :: tm) hp nx) False else False
            | none => False)
        (fun kn tm => skipK nt dst (fun tm => dex P tr nt A E r kn tm hp nx) False tm) False
    | none => False
  | .alt i r e, kn, tm, hp, nx => Both (dop P tr nt A i (fun kn tm hp nx => dex P tr nt A E r kn tm hp nx) kn tm hp nx) (dex P tr nt A E e kn tm hp nx)
  | .no, _, _, _, _ => True

def schedOK (A : Array Oper) : Bool → Ord → Array Bool → Bool
  | _, .nil, L => (Region.ready .any A L).isEmpty
  | _, .one i s r, L => (bif s then Region.ready .any A L == [i] else clear A L i) && schedOK A true r (L.setIfInBounds i true)
  | top, .alt i r e, L => (bif top then Region.ready .any A L == i :: e.ixs else true) && schedOK A true r (L.setIfInBounds i true) && schedOK A false e L
  | top, .no, _ => !top

/-- An order is picked. -/
inductive Draw (P : Program) (A : Array Oper) (k : Ord → Prop) : Prop
  | mk (ord : Ord) : (P.follows .mixedOrders && Nat.ble ord.depth A.size && schedOK A true ord (Array.replicate A.size false) && noDefer A) = true → k ord → Draw P A k

def ordL (l : List Nat) : List Nat → Ord
  | [] => .nil
  | i :: r => .one i (memN i l) (ordL l r)
/-- All in their order; those of l may only come alone. -/
def sch (n : Nat) (l : List Nat) : Ord := ordL l (upTo n 0)

/-- The run. -/
def exec (P : Program) (tr : TyT) (f : Nat) (Q : Post) (nt : Nat) (R : Bool → TM → HP → Nat → Prop) : Nat → List Nat → List Item → TM → HP → Nat → Prop
  | 0, _, todo, tm, hp, nx => Stop (Run P f Q todo ⟨tm, hp, nx, nt⟩)
  | n + 1, kn, todo, tm, hp, nx => match todo with
    | [] => R false tm hp nx
    | .code .ret :: _ => R true tm hp nx
    | .code .skip :: k => exec P tr f Q nt R n kn k tm hp nx
    | .code (.label _) :: k => exec P tr f Q nt R n kn k tm hp nx
    | .code (.seq a b) :: k => exec P tr f Q nt R n kn (.code a :: .code b :: k) tm hp nx
    | .code (.block id c) :: k => exec P tr f Q nt R n kn (.code c :: .inBlock id :: k) tm hp nx
    | .code (.exit id) :: k => match exitTo id k with
      | some k' => exec P tr f Q nt R n kn k' tm hp nx
      | none => Stop (Run P f Q todo ⟨tm, hp, nx, nt⟩)
    | .code (.region _ ops false) :: k => exec P tr f Q nt R n [] (.inRegion ops (upTo ops.size 0) :: k) tm hp nx
    | .code (.region _ ops true) :: k => Draw P ops fun ord => dex P tr nt ops (fun tm hp nx => exec P tr f Q nt R n [] k tm hp nx) ord [] tm hp nx
    | .code (.cond c x y) :: k => match St.ev ⟨tm, hp, nx, nt⟩ c with
      | .lit (.bool b) => Br b (exec P tr f Q nt R n kn (.code x :: k) tm hp nx) (exec P tr f Q nt R n kn (.code y :: k) tm hp nx)
      | _ => Stop (Run P f Q todo ⟨tm, hp, nx, nt⟩)
    | .code (.scope c) :: k => exec P tr f Q nt R n kn (.code c :: .inScope c :: k) tm hp nx
    | .inBlock _ :: k => exec P tr f Q nt R n kn k tm hp nx
    | .inScope _ :: k => exec P tr f Q nt R n kn k tm hp nx
    | .inRegion _ [] :: k => exec P tr f Q nt R n [] k tm hp nx
    | .inRegion A (i :: rest) :: k => match nth A.toList i with
      | some ⟨dst, op, _, _, _, g⟩ => gdK A nt g kn tm
          (fun kn tm => anyOp P tr nt dst op (fun tm hp nx => exec P tr f Q nt R n kn (.inRegion A rest :: k) tm hp nx) (Stop (Run P f Q (.inRegion A (i :: rest) :: k) ⟨tm, hp, nx, nt⟩)) tm hp nx)
          (fun kn tm => skipK nt dst (fun tm => exec P tr f Q nt R n kn (.inRegion A rest :: k) tm hp nx) (Stop (Run P f Q todo ⟨tm, hp, nx, nt⟩)) tm)
          (Stop (Run P f Q todo ⟨tm, hp, nx, nt⟩))
      | none => Stop (Run P f Q todo ⟨tm, hp, nx, nt⟩)
    | _ => Stop (Run P f Q todo ⟨tm, hp, nx, nt⟩)

section
variable {P : Program} {tr : TyT} {f : Nat} {Q : Post} {nt : Nat} {R : Bool → TM → HP → Nat → Prop}

theorem gdK_ok {A : Array Oper} {g : Option (Nat × Bool)} {kn : List Nat} {tm : TM} {hp : HP} {nx : Nat} {run skip : List Nat → TM → Prop} {F : Prop} {G : TM → Prop} (h : gdK A nt g kn tm run skip F)
    (hrun : ∀ kn tm, Want A ⟨tm, hp, nx, nt⟩ g → run kn tm → G tm)
    (hskip : ∀ kn tm j d want v, g = some (j, want) → (A[j]?).bind (·.dst) = some d → Nat.blt d nt = true → get d tm = .lit v → asks v want = false → skip kn tm → G tm) (hF : F → G tm)
    (hsplit : ∀ d b j want, g = some (j, want) → (A[j]?).bind (·.dst) = some d → Nat.blt d nt = true → get d tm = .lit (.bool b) → (b = true → G ((d, .lit (.bool true)) :: tm)) → (b = false → G ((d, .lit (.bool false)) :: tm)) → G tm) : G tm := by
  have get_self : ∀ d v (tm : TM), get d ((d, v) :: tm) = v := fun d v tm => by rw [get_cons, if_pos rfl]
  unfold gdK at h
  split at h
  · exact hrun kn tm trivial h
  · rename_i j want
    split at h
    · exact hF h
    · rename_i d hd
      rw [nth_eq, Array.getElem?_toList] at hd
      cases hb : Nat.blt d nt with
      | false => rw [hb] at h; exact hF h
      | true =>
        rw [hb] at h; dsimp only [cond_true] at h
        cases hm : memN j kn with
        | true =>
          rw [hm] at h; dsimp only [cond_true] at h
          split at h
          · rename_i hv
            cases want with
            | true => exact hrun kn tm ⟨d, hd, hb, hv⟩ h
            | false => exact hskip kn tm j d false _ rfl hd hb hv rfl h
          · rename_i hv
            cases want with
            | true => exact hskip kn tm j d true _ rfl hd hb hv rfl h
            | false => exact hrun kn tm ⟨d, hd, hb, hv⟩ h
          · exact hF h
        | false =>
          rw [hm] at h; dsimp only [cond_false] at h
          split at h
          · rename_i b hv
            obtain ⟨h1, h2⟩ := h
            refine hsplit d b j want rfl hd hb hv (fun e => ?_) (fun e => ?_)
            · have h1 := h1 e
              cases want with
              | true => exact hrun _ _ ⟨d, hd, hb, get_self _ _ _⟩ h1
              | false => exact hskip _ _ j d false _ rfl hd hb (get_self _ _ _) rfl h1
            · have h2 := h2 e
              cases want with
              | true => exact hskip _ _ j d true _ rfl hd hb (get_self _ _ _) rfl h2
              | false => exact hrun _ _ ⟨d, hd, hb, get_self _ _ _⟩ h2
          · rename_i v hne hv
            refine hskip kn tm j d want v rfl hd hb hv ?_ h
            cases v <;> first | rfl | exact absurd rfl (hne _)
          · exact hF h

theorem anyOp1_ok (hT : tr.OK P) {k : List Item} {A : Array Oper} {i : Nat} {rest : List Nat} {dst : Option Nat} {op : Op} {t : Nat} {pos : String} {af : Array Edge} {g : Option (Nat × Bool)} {K : TM → HP → Nat → Prop} {F : Prop} {tm : TM} {hp : HP} {nx : Nat}
    (h : anyOp1 P tr nt dst op K F tm hp nx) (ho : A[i]? = some ⟨dst, op, t, pos, af, g⟩) (hw : Want A ⟨tm, hp, nx, nt⟩ g) (hK : ∀ tm hp nx, K tm hp nx → Run P f Q (.inRegion A rest :: k) ⟨tm, hp, nx, nt⟩) :
    Run P f Q (.inRegion A (i :: rest) :: k) ⟨tm, hp, nx, nt⟩ ∨ F := by
  unfold anyOp1 at h
  split at h
  · rename_i d
    cases hb : Nat.blt d nt with
    | false => rw [hb] at h; exact .inr h
    | true =>
      rw [hb] at h; dsimp only [cond_true] at h
      rcases rdOp_ok (o := ⟨some d, op, t, pos, af, g⟩) hT h with ⟨V, h1, h2⟩ | h3
      · exact .inl (run_opN ho hw hb h1 fun v hv => hK _ _ _ (h2 v hv))
      clear h
      rcases okOp_ok (o := ⟨some d, op, t, pos, af, g⟩) hT h3 with ⟨v, hp', h1, h2⟩ | h
      · exact .inl (run_op ho hw hb h1 (hK _ _ _ h2))
      clear h3
      unfold callOp at h
      dsimp only at h
      split at h
      · rename_i c
        obtain ⟨callee, args, ts⟩ := c
        dsimp only at h
        split at h
        · rename_i gg
          rw [onL_eq] at h
          cases hs : (args.toList.map (St.ev ⟨tm, hp, nx, nt⟩)).all AV.std with
          | false =>
            rw [hs] at h; dsimp only [cond_false] at h
            rcases h with h | h
            · obtain ⟨as', h1, h⟩ := seenL_ok h
              cases hs' : as'.all AV.std with
              | false => rw [hs'] at h; exact .inr h
              | true =>
                rw [hs'] at h; dsimp only [cond_true] at h
                obtain ⟨Qg, ⟨⟨fn, c, e1, e2, e3⟩, hgood⟩, h⟩ := h
                refine .inl (run_callV ho hw hb e1 e2 e3 rfl h1 hs' hgood fun r hr => ?_)
                obtain ⟨g1, g2, h2⟩ := h r hr
                rw [backK_eq] at h2
                exact ⟨g1, g2, hK _ _ _ h2⟩
            · exact .inr h
          | true =>
            rw [hs] at h; dsimp only [cond_true] at h
            obtain ⟨Qg, ⟨⟨fn, c, e1, e2, e3⟩, hgood⟩, h⟩ := h
            refine .inl (run_call ho hw hb e1 e2 e3 rfl hs hgood fun r hr => ?_)
            obtain ⟨h1, h2⟩ := h r hr
            rw [backK_eq] at h2
            exact ⟨h1, hK _ _ _ h2⟩
        · rename_i tt
          split at h
          · rename_i gg cs hfn
            rw [onL_eq] at h
            rcases h with ⟨fn, c, e1, e2, e3, h⟩ | ⟨Qg, as', ⟨⟨fn, c, e1, e2, e3⟩, hgood⟩, hseen, hstd, h⟩
            case spec =>
              refine .inl (run_callD (st := ⟨tm, hp, nx, nt⟩) ho hfn hw hb e1 e2 e3 rfl hseen hstd hgood fun r hr => ?_)
              obtain ⟨g1, g2, h2⟩ := h r hr
              exact ⟨g1, g2, hK _ _ _ h2⟩
            simp only [Bool.and_eq_true, Bool.not_eq_true'] at e3
            exact .inl (run_inl (st := ⟨tm, hp, nx, nt⟩) ho hw hb hfn e1 e2 e3.2 rfl e3.1 h fun r hp nx h => hK _ _ _ h)
          · exact .inr h
        · exact .inr h
      · exact .inr h
  · rcases doOp_ok (o := ⟨none, op, t, pos, af, g⟩) hT h with ⟨hp', h1, h2⟩ | h
    · exact .inl (run_do ho hw h1 (hK _ _ _ h2))
    · exact .inr h

theorem anyOp_ok (hT : tr.OK P) {k : List Item} {A : Array Oper} {i : Nat} {rest : List Nat} {dst : Option Nat} {op : Op} {t : Nat} {pos : String} {af : Array Edge} {g : Option (Nat × Bool)} {K : TM → HP → Nat → Prop} {F : Prop} {tm : TM} {hp : HP} {nx : Nat}
    (h : anyOp P tr nt dst op K F tm hp nx) (ho : A[i]? = some ⟨dst, op, t, pos, af, g⟩) (hw : Want A ⟨tm, hp, nx, nt⟩ g) (hK : ∀ tm hp nx, K tm hp nx → Run P f Q (.inRegion A rest :: k) ⟨tm, hp, nx, nt⟩)
    (hF : F → Run P f Q (.inRegion A (i :: rest) :: k) ⟨tm, hp, nx, nt⟩) : Run P f Q (.inRegion A (i :: rest) :: k) ⟨tm, hp, nx, nt⟩ := by
  unfold anyOp at h
  split at h
  · rename_i h' e
    rw [onH_eq] at h
    obtain ⟨id, e⟩ := unfOp_ok e
    rcases anyOp1_ok hT h ho hw hK with h | h
    · exact run_unf e h
    · exact hF h
  · rcases anyOp1_ok hT h ho hw hK with h | h
    · exact h
    · exact hF h

theorem anyOp1_okD (hT : tr.OK P) {k : List Item} {A : Array Oper} {i n : Nat} {L : Array Bool} {dst : Option Nat} {op : Op} {t : Nat} {pos : String} {af : Array Edge} {g : Option (Nat × Bool)} {K : TM → HP → Nat → Prop} {F : Prop} {tm : TM} {hp : HP} {nx : Nat}
    (h : anyOp1 P tr nt dst op K F tm hp nx) (ho : A[i]? = some ⟨dst, op, t, pos, af, g⟩) (hw : Want A ⟨tm, hp, nx, nt⟩ g) (hK : ∀ tm hp nx, K tm hp nx → Drawn P f Q k A n (L.setIfInBounds i true) ⟨tm, hp, nx, nt⟩) :
    StepD P f Q k A n L i ⟨tm, hp, nx, nt⟩ ∨ F := by
  unfold anyOp1 at h
  split at h
  · rename_i d
    cases hb : Nat.blt d nt with
    | false => rw [hb] at h; exact .inr h
    | true =>
      rw [hb] at h; dsimp only [cond_true] at h
      rcases rdOp_ok (o := ⟨some d, op, t, pos, af, g⟩) hT h with ⟨V, h1, h2⟩ | h3
      · exact .inl (stepD_read ho hw hb h1 fun v hv => hK _ _ _ (h2 v hv))
      clear h
      rcases okOp_ok (o := ⟨some d, op, t, pos, af, g⟩) hT h3 with ⟨v, hp', h1, h2⟩ | h
      · exact .inl (stepD_op ho hw hb h1 (hK _ _ _ h2))
      clear h3
      unfold callOp at h
      dsimp only at h
      split at h
      · rename_i c
        obtain ⟨callee, args, ts⟩ := c
        dsimp only at h
        split at h
        · rename_i gg
          rw [onL_eq] at h
          cases hs : (args.toList.map (St.ev ⟨tm, hp, nx, nt⟩)).all AV.std with
          | false =>
            rw [hs] at h; dsimp only [cond_false] at h
            rcases h with h | h
            · obtain ⟨as', h1, h⟩ := seenL_ok h
              cases hs' : as'.all AV.std with
              | false => rw [hs'] at h; exact .inr h
              | true =>
                rw [hs'] at h; dsimp only [cond_true] at h
                obtain ⟨Qg, ⟨⟨fn, c, e1, e2, e3⟩, hgood⟩, h⟩ := h
                refine .inl (stepD_callV ho hw hb e1 e2 e3 rfl h1 hs' hgood fun r hr => ?_)
                obtain ⟨g1, g2, h2⟩ := h r hr
                rw [backK_eq] at h2
                exact ⟨g1, g2, hK _ _ _ h2⟩
            · exact .inr h
          | true =>
            rw [hs] at h; dsimp only [cond_true] at h
            obtain ⟨Qg, ⟨⟨fn, c, e1, e2, e3⟩, hgood⟩, h⟩ := h
            refine .inl (stepD_call ho hw hb e1 e2 e3 rfl hs hgood fun r hr => ?_)
            obtain ⟨h1, h2⟩ := h r hr
            rw [backK_eq] at h2
            exact ⟨h1, hK _ _ _ h2⟩
        · rename_i tt
          split at h
          · rename_i gg cs hfn
            rw [onL_eq] at h
            rcases h with ⟨fn, c, e1, e2, e3, h⟩ | ⟨Qg, as', ⟨⟨fn, c, e1, e2, e3⟩, hgood⟩, hseen, hstd, h⟩
            case spec =>
              refine .inl (stepD_callD (st := ⟨tm, hp, nx, nt⟩) ho hfn hw hb e1 e2 e3 rfl hseen hstd hgood fun r hr => ?_)
              obtain ⟨g1, g2, h2⟩ := h r hr
              exact ⟨g1, g2, hK _ _ _ h2⟩
            simp only [Bool.and_eq_true, Bool.not_eq_true'] at e3
            exact .inl (stepD_inl (st := ⟨tm, hp, nx, nt⟩) ho hw hb hfn rfl e1 e2 e3.2 rfl e3.1 h fun r hp nx h => hK _ _ _ h)
          · exact .inr h
        · exact .inr h
      · exact .inr h
  · by_cases hk : kp op = false
    · rcases doOp_ok (o := ⟨none, op, t, pos, af, g⟩) hT h with ⟨hp', h1, h2⟩ | h4
      · exact .inl (stepD_do ho hw hk h1 (hK _ _ _ h2))
      · exact .inr h4
    · right
      unfold doOp at h
      split at h
      · exact absurd rfl hk
      · exact h

theorem anyOp_okD (hT : tr.OK P) {k : List Item} {A : Array Oper} {i n : Nat} {L : Array Bool} {dst : Option Nat} {op : Op} {t : Nat} {pos : String} {af : Array Edge} {g : Option (Nat × Bool)} {K : TM → HP → Nat → Prop} {tm : TM} {hp : HP} {nx : Nat}
    (h : anyOp P tr nt dst op K False tm hp nx) (ho : A[i]? = some ⟨dst, op, t, pos, af, g⟩) (hw : Want A ⟨tm, hp, nx, nt⟩ g) (hK : ∀ tm hp nx, K tm hp nx → Drawn P f Q k A n (L.setIfInBounds i true) ⟨tm, hp, nx, nt⟩) :
    StepD P f Q k A n L i ⟨tm, hp, nx, nt⟩ := by
  unfold anyOp at h
  split at h
  · rename_i h' e
    rw [onH_eq] at h
    obtain ⟨id, e⟩ := unfOp_ok e
    rcases anyOp1_okD hT h ho hw hK with h | h
    · exact stepD_unf e h
    · exact h.elim
  · rcases anyOp1_okD hT h ho hw hK with h | h
    · exact h
    · exact h.elim

theorem skipK_ok {k : List Item} {A : Array Oper} {i : Nat} {rest : List Nat} {o : Oper} {K : TM → Prop} {F : Prop} {tm : TM} {hp : HP} {nx : Nat} {j d : Nat} {want : Bool} {v : Value} (h : skipK nt o.dst K F tm) (ho : A[i]? = some o)
    (hg : o.guard = some (j, want)) (hj : (A[j]?).bind (·.dst) = some d) (hd : Nat.blt d nt = true) (hv : get d tm = .lit v) (hb : asks v want = false) (hK : ∀ tm, K tm → Run P f Q (.inRegion A rest :: k) ⟨tm, hp, nx, nt⟩)
    (hF : F → Run P f Q (.inRegion A (i :: rest) :: k) ⟨tm, hp, nx, nt⟩) : Run P f Q (.inRegion A (i :: rest) :: k) ⟨tm, hp, nx, nt⟩ := by
  unfold skipK at h
  split at h
  · rename_i d2 hd2
    cases hbl : Nat.blt d2 nt with
    | false => rw [hbl] at h; exact hF h
    | true =>
      rw [hbl] at h; dsimp only [cond_true] at h
      refine run_skipped (st := ⟨tm, hp, nx, nt⟩) ho hg hj hd hv hb (fun d3 e => by rw [hd2] at e; cases e; exact hbl) ?_
      rw [hd2]; exact hK _ h
  · rename_i hd2
    refine run_skipped (st := ⟨tm, hp, nx, nt⟩) ho hg hj hd hv hb (fun d3 e => by rw [hd2] at e; cases e) ?_
    rw [hd2]; exact hK _ h

def skipSt (st : St) (dst : Option Nat) : St := match dst with | some d => st.set d (.lit undef) | none => st

theorem dop_ok (hT : tr.OK P) {k : List Item} {A : Array Oper} {i n : Nat} {L : Array Bool} {E : List Nat → TM → HP → Nat → Prop} {kn : List Nat} {tm : TM} {hp : HP} {nx : Nat} (hE : ∀ kn tm hp nx, E kn tm hp nx → Drawn P f Q k A n (L.setIfInBounds i true) ⟨tm, hp, nx, nt⟩)
    (h : dop P tr nt A i E kn tm hp nx) : StepD P f Q k A n L i ⟨tm, hp, nx, nt⟩ := by
  unfold dop at h
  split at h
  · rename_i dst op t pos af g ho
    rw [nth_eq, Array.getElem?_toList] at ho
    refine gdK_ok (hp := hp) (nx := nx) (G := fun tm => StepD P f Q k A n L i ⟨tm, hp, nx, nt⟩) h ?_ ?_ False.elim (fun d b j want hg hj hd hv h1 h2 => stepD_guard hd hv h1 h2)
    · clear h
      intro kn tm hw h
      exact anyOp_okD hT h ho hw (fun _ _ _ h => hE _ _ _ _ h)
    · clear h
      intro kn tm j d want v hg hj hd hv hb h
      subst hg
      unfold skipK at h
      have hdst : ∀ d, (⟨dst, op, t, pos, af, some (j, want)⟩ : Oper).dst = some d → Nat.blt d nt = true := by
        intro d2 e
        dsimp only at e
        subst e
        dsimp only at h
        cases hbl : Nat.blt d2 nt with
        | true => rfl
        | false => rw [hbl] at h; exact h.elim
      have hrest : Drawn P f Q k A n (L.setIfInBounds i true) (skipSt ⟨tm, hp, nx, nt⟩ dst) := by
        cases dst with
        | none => exact hE _ _ _ _ h
        | some d2 =>
          have := hdst d2 rfl
          dsimp only at h
          rw [this] at h
          exact hE _ _ _ _ h
      exact stepD_skip (st := ⟨tm, hp, nx, nt⟩) ho rfl hj hd hv hb hdst hrest
  · exact h.elim

theorem dex_ok (hT : tr.OK P) {k : List Item} {A : Array Oper} {E : TM → HP → Nat → Prop} (hE : ∀ tm hp nx, E tm hp nx → Run P f Q k ⟨tm, hp, nx, nt⟩) : ∀ (ord : Ord) (n : Nat) (L : Array Bool) (kn : List Nat) (tm : TM) (hp : HP) (nx : Nat), ord.depth ≤ n → dex P tr nt A E ord kn tm hp nx →
    (schedOK A true ord L = true → Drawn P f Q k A n L ⟨tm, hp, nx, nt⟩) ∧ (∀ m, n = m + 1 → schedOK A false ord L = true → ∀ i ∈ ord.ixs, StepD P f Q k A m L i ⟨tm, hp, nx, nt⟩)
  | .nil, n, L, kn, tm, hp, nx, _, h => ⟨fun hs => drawn_done (hE _ _ _ h) (by simpa [schedOK] using hs), fun _ _ _ i hi => by simp [Ord.ixs] at hi⟩
  | .no, n, L, kn, tm, hp, nx, _, h => ⟨fun hs => by simp [schedOK] at hs, fun _ _ _ i hi => by simp [Ord.ixs] at hi⟩
  | .alt i r e, n, L, kn, tm, hp, nx, hn, h => by
    simp only [Ord.depth] at hn
    obtain ⟨n, rfl⟩ : ∃ m, n = m + 1 := ⟨n - 1, by omega⟩
    obtain ⟨h1, h2⟩ := h
    have key : schedOK A true r (L.setIfInBounds i true) = true → schedOK A false e L = true → ∀ j ∈ i :: e.ixs, StepD P f Q k A n L j ⟨tm, hp, nx, nt⟩ := fun hs1 hs2 j hj => by
      rcases List.mem_cons.1 hj with rfl | hj
      · exact dop_ok hT (fun kn tm hp nx h => (dex_ok hT hE r n _ kn tm hp nx (by omega) h).1 hs1) h1
      · exact (dex_ok hT hE e (n + 1) L kn tm hp nx (by omega) h2).2 n rfl hs2 j hj
    refine ⟨fun hs => ?_, fun m hm hs => ?_⟩
    · simp only [schedOK, Bool.and_eq_true, cond_true] at hs
      exact drawn_steps (l := i :: e.ixs) (by simpa using hs.1.1) (by simp) (key hs.1.2 hs.2)
    · simp only [schedOK, Bool.and_eq_true, cond_false] at hs
      obtain rfl : n = m := by omega
      exact key hs.1.2 hs.2
  | .one i true r, n, L, kn, tm, hp, nx, hn, h => by
    simp only [Ord.depth] at hn
    obtain ⟨n, rfl⟩ : ∃ m, n = m + 1 := ⟨n - 1, by omega⟩
    refine ⟨fun hs => ?_, fun _ _ _ i hi => by simp [Ord.ixs] at hi⟩
    simp only [schedOK, Bool.and_eq_true, cond_true] at hs
    refine drawn_steps (l := [i]) (by simpa using hs.1) (by simp) fun j hj => ?_
    rw [List.mem_singleton] at hj
    subst hj
    exact dop_ok hT (fun kn tm hp nx h => (dex_ok hT hE r n _ kn tm hp nx (by omega) h).1 hs.2) h
  | .one i false r, n, L, kn, tm, hp, nx, hn, h => by
    simp only [Ord.depth] at hn
    obtain ⟨n, rfl⟩ : ∃ m, n = m + 1 := ⟨n - 1, by omega⟩
    refine ⟨fun hs => ?_, fun _ _ _ i hi => by simp [Ord.ixs] at hi⟩
    simp only [schedOK, Bool.and_eq_true, cond_false] at hs
    obtain ⟨hs1, hs2⟩ := hs
    have ih := fun kn tm hp nx h => (dex_ok hT hE r n (L.setIfInBounds i true) kn tm hp nx (by omega) h).1 hs2
    unfold dex at h
    split at h
    · rename_i dst op t pos af g ho
      rw [nth_eq, Array.getElem?_toList] at ho
      refine gdK_ok (hp := hp) (nx := nx) (G := fun tm => Drawn P f Q k A (n + 1) L ⟨tm, hp, nx, nt⟩) h ?_ ?_ False.elim (fun d b j want hg hj hd hv h1 h2 => drawn_guard (o := ⟨dst, op, t, pos, af, g⟩) ho hg hj hd hv h1 h2)
      · clear h
        intro kn tm hw h
        split at h
        · rename_i d
          cases hb : Nat.blt d nt with
          | false => rw [hb] at h; exact h.elim
          | true =>
            rw [hb] at h; dsimp only [cond_true] at h
            rcases rdOp_ok (o := ⟨some d, op, t, pos, af, g⟩) hT h with ⟨V, h1, h2⟩ | h3
            · exact drawn_readN ho hs1 hw hb h1 fun v hv => ih _ _ _ _ (h2 v hv)
            · exact h3.elim
        · exact h.elim
      · clear h
        intro kn tm j d want v hg hj hd hv hb h
        subst hg
        unfold skipK at h
        have hdst : ∀ d, (⟨dst, op, t, pos, af, some (j, want)⟩ : Oper).dst = some d → Nat.blt d nt = true := by
          intro d2 e
          dsimp only at e
          subst e
          dsimp only at h
          cases hbl : Nat.blt d2 nt with
          | true => rfl
          | false => rw [hbl] at h; exact h.elim
        have hrest : Drawn P f Q k A n (L.setIfInBounds i true) (skipSt ⟨tm, hp, nx, nt⟩ dst) := by
          cases dst with
          | none => exact ih _ _ _ _ h
          | some d2 =>
            have := hdst d2 rfl
            dsimp only at h
            rw [this] at h
            exact ih _ _ _ _ h
        exact drawn_skip (st := ⟨tm, hp, nx, nt⟩) ho hs1 rfl hj hd hv hb hdst hrest
    · exact h.elim

theorem exec_ok (hT : tr.OK P) (hR : ∀ (k : List Item) tm hp nx, (R true tm hp nx → Run P f Q (.code .ret :: k) ⟨tm, hp, nx, nt⟩) ∧ (R false tm hp nx → Run P f Q [] ⟨tm, hp, nx, nt⟩)) : ∀ (n : Nat) (kn : List Nat) (todo : List Item) (tm : TM) (hp : HP) (nx : Nat),
    exec P tr f Q nt R n kn todo tm hp nx → Run P f Q todo ⟨tm, hp, nx, nt⟩
  | 0, _, _, _, _, _, ⟨h⟩ => h
  | n + 1, kn, todo, tm, hp, nx, h => by
    have ih := exec_ok hT hR n
    unfold exec at h
    split at h
    · exact (hR [] _ _ _).2 h
    · exact (hR _ _ _ _).1 h
    · exact run_skip (ih _ _ _ _ _ h)
    · exact run_label (ih _ _ _ _ _ h)
    · exact run_seq (ih _ _ _ _ _ h)
    · exact run_block (ih _ _ _ _ _ h)
    · split at h
      · rename_i he; exact run_exit he (ih _ _ _ _ _ h)
      · exact h.1
    · exact run_reg (ih _ _ _ _ _ h)
    · obtain ⟨ord, hs, h⟩ := h
      simp only [Bool.and_eq_true] at hs
      exact run_draw hs.1.1.1 hs.2 ((dex_ok hT (fun _ _ _ h => ih _ _ _ _ _ h) _ _ _ _ _ _ _ (by simpa using hs.1.1.2) h).1 hs.1.2)
    · split at h
      · rename_i b hc
        obtain ⟨h1, h2⟩ := h
        exact run_cond_split hc (fun e => ih _ _ _ _ _ (h1 e)) (fun e => ih _ _ _ _ _ (h2 e))
      · exact h.1
    · exact run_scope (ih _ _ _ _ _ h)
    · exact run_inBlock (ih _ _ _ _ _ h)
    · exact run_inScope (ih _ _ _ _ _ h)
    · exact run_end (ih _ _ _ _ _ h)
    · split at h
      · rename_i dst op t pos af g ho
        rw [nth_eq, Array.getElem?_toList] at ho
        refine gdK_ok (hp := hp) (nx := nx) (G := fun tm => Run P f Q _ ⟨tm, hp, nx, nt⟩) h ?_ ?_ (fun h => h.1) ?_
        · clear h
          intro kn tm hw h
          exact anyOp_ok hT h ho hw (fun _ _ _ h => ih _ _ _ _ _ h) (fun h => h.1)
        · clear h
          intro kn tm j d want v hg hj hd hv hb h
          exact skipK_ok h ho hg hj hd hv hb (fun _ h => ih _ _ _ _ _ h) (fun h => h.1)
        · intro d b j want _ _ hd hv h1 h2
          exact run_guard_split hd hv h1 h2
      · exact h.1
    · exact h.1

def unfAll (K : HP → Prop) : Nat → HP → Prop
  | 0, hp => K hp
  | n + 1, hp => match unfAny [] [] hp hp with
    | some h => onH h fun h => unfAll K n h
    | none => K hp
theorem unfAll_ok {K : HP → Prop} {todo : List Item} {tm : TM} {nx : Nat} (hK : ∀ hp, K hp → Run P f Q todo ⟨tm, hp, nx, nt⟩) : ∀ (n : Nat) (hp : HP), unfAll K n hp → Run P f Q todo ⟨tm, hp, nx, nt⟩
  | 0, hp, h => hK hp h
  | n + 1, hp, h => by
    unfold unfAll at h
    split at h
    · rename_i h' e
      rw [onH_eq] at h
      obtain ⟨id, e⟩ := unfAny_ok e
      exact run_unf (st := ⟨tm, hp, nx, nt⟩) e (unfAll_ok hK n h' h)
    · exact hK hp h

def retOne (tr : TyT) (nt : Nat) (res : List ResultVar) (Q : AV → Prop) (tm : TM) (hp : HP) (nx : Nat) : Prop := unfAll (fun hp => resK tr ⟨tm, hp, nx, nt⟩ res hp (fun rs => Q (asRes rs)) False) 4 hp

theorem retOne_ok (hT : tr.OK P) {fn : Func} (hf : P.funcs[f]? = some fn) {Q : AV → Prop} (k : List Item) (tm : TM) (hp : HP) (nx : Nat) (h : retOne tr nt fn.results.toList Q tm hp nx) :
    Run P f (Post.one Q) (.code .ret :: k) ⟨tm, hp, nx, nt⟩ ∧ Run P f (Post.one Q) [] ⟨tm, hp, nx, nt⟩ := by
  constructor
  · refine unfAll_ok (fun hp h => ?_) 4 hp h
    rcases resK_ok hT h with ⟨rs, h1, h2⟩ | h
    · exact run_ret hf h1 h2
    · exact h.elim
  · refine unfAll_ok (fun hp h => ?_) 4 hp h
    rcases resK_ok hT h with ⟨rs, h1, h2⟩ | h
    · exact run_fall hf h1 h2
    · exact h.elim

def resIK (tr : TyT) (st : St) : List ResultVar → (List AV → Prop) → Prop
  | [], K => K []
  | .tmp d :: rvs, K => (get d st.tm).on fun v => resIK tr st rvs fun l => K (v :: l)
  | .cell d t :: rvs, K => match get d st.tm with
    | .hp id 0 => match row id st.hp with
      | some (.var (v :: _)) => match tr.find t with
        | some i => bif !i.isAgg && v.plain then resIK tr st rvs fun l => K (v :: l) else False
        | none => False
      | _ => False
    | _ => False
theorem resIK_ok (hT : tr.OK P) {st : St} : ∀ {rvs : List ResultVar} {K : List AV → Prop}, resIK tr st rvs K → ∃ rs, ResIL P st rvs rs ∧ K rs
  | [], K, h => ⟨[], .nil, h⟩
  | .tmp d :: rvs, K, h => by
    simp only [resIK, AV.on_eq] at h
    obtain ⟨rs, h1, h2⟩ := resIK_ok hT h
    exact ⟨_, .cons resI_tmp h1, h2⟩
  | .cell d t :: rvs, K, h => by
    simp only [resIK] at h
    split at h
    · rename_i id hv
      split at h
      · rename_i v r hrow
        split at h
        · rename_i i hf
          cases hb : (!i.isAgg && v.plain) with
          | false => rw [hb] at h; exact h.elim
          | true =>
            rw [hb] at h
            simp only [Bool.and_eq_true, Bool.not_eq_true'] at hb
            obtain ⟨rs, h1, h2⟩ := resIK_ok hT h
            exact ⟨_, .cons (resI_cell hv (TyT.find_ok hT hf) hb.1 hrow rfl hb.2) h1, h2⟩
        · exact h.elim
      · exact h.elim
    · exact h.elim

def retInl (tr : TyT) (nt : Nat) (res : List ResultVar) (K : AV → HP → Nat → Prop) (tm : TM) (hp : HP) (nx : Nat) : Prop := resIK tr ⟨tm, hp, nx, nt⟩ res fun rs => K (asRes rs) hp nx

theorem retInl_ok (hT : tr.OK P) {fn : Func} (hf : P.funcs[f]? = some fn) {lo : Nat} {K : AV → HP → Nat → Prop} (k : List Item) (tm : TM) (hp : HP) (nx : Nat) (h : retInl tr nt fn.results.toList K tm hp nx) :
    Run P f (Post.inl lo K) (.code .ret :: k) ⟨tm, hp, nx, nt⟩ ∧ Run P f (Post.inl lo K) [] ⟨tm, hp, nx, nt⟩ := by
  obtain ⟨rs, h1, h2⟩ := resIK_ok hT h
  exact run_retI hf h1 h2

def onT : TM → (TM → Prop) → Prop
  | [], k => k []
  | (d, a) :: l, k => a.on fun a => onT l fun l => k ((d, a) :: l)
theorem onT_eq (l : TM) : ∀ (k : TM → Prop), onT l k = k l := by
  induction l with
  | nil => intro k; rfl
  | cons a l ih => obtain ⟨d, a⟩ := a; intro k; simp only [onT, AV.on_eq, ih]

/-- From a state on, the run is reckoned. -/
theorem go {P : Program} [HT : HasT P] {f : Nat} {fn : Func} {Q : AV → Prop} (n : Nat) (hf : P.funcs[f]? = some fn) {todo : List Item} {tm : TM} {hp : HP} {nx nt : Nat}
    (h : onT tm fun tm => onH hp fun hp => exec P HT.tr f (Post.one Q) nt (fun _ => retOne HT.tr nt fn.results.toList Q) n [] todo tm hp nx) : Run P f (Post.one Q) todo ⟨tm, hp, nx, nt⟩ := by
  rw [onT_eq, onH_eq] at h
  exact exec_ok HT.ok (fun k tm hp nx => ⟨fun h => (retOne_ok HT.ok hf k tm hp nx h).1, fun h => (retOne_ok HT.ok hf k tm hp nx h).2⟩) n [] todo tm hp nx h

/-- The same within a frame whose heap is its caller's. -/
theorem goI {P : Program} [HT : HasT P] {f : Nat} {fn : Func} {lo : Nat} {K : AV → HP → Nat → Prop} (n : Nat) (hf : P.funcs[f]? = some fn) {todo : List Item} {tm : TM} {hp : HP} {nx nt : Nat}
    (h : onT tm fun tm => onH hp fun hp => exec P HT.tr f (Post.inl lo K) nt (fun _ => retInl HT.tr nt fn.results.toList K) n [] todo tm hp nx) : Run P f (Post.inl lo K) todo ⟨tm, hp, nx, nt⟩ := by
  rw [onT_eq, onH_eq] at h
  exact exec_ok HT.ok (fun k tm hp nx => ⟨fun h => (retInl_ok HT.ok hf k tm hp nx h).1, fun h => (retInl_ok HT.ok hf k tm hp nx h).2⟩) n [] todo tm hp nx h

theorem slots_zip : ∀ (as : List AV) (s : Nat), (List.range' s as.length).zip as = slots s as
  | [], _ => rfl
  | a :: as, s => by simp only [List.length_cons, List.range'_succ, List.zip_cons_cons, slots, slots_zip as (s + 1)]

theorem spec_of {P : Program} [HT : HasT P] {f : Nat} {fn : Func} {c : Code} {args : List AV} {Q : AV → Prop} (n : Nat) (hf : P.funcs[f]? = some fn) (hb : fn.body = some c) (hc : (Nat.ble args.length fn.ntmps && !(fn.name == "runtime.NumGoroutine")) = true)
    (h : onT (slots 0 args) fun tm => exec P HT.tr f (Post.one Q) fn.ntmps (fun _ => retOne HT.tr fn.ntmps fn.results.toList Q) n [] [.code c] tm [] 0) : FnSpec P f args Q := by
  simp only [Bool.and_eq_true, Bool.not_eq_true'] at hc
  refine ⟨⟨fn, c, hf, hb, hc.2⟩, good_of_run hf hb hc.1 ?_⟩
  rw [onT_eq] at h
  have := exec_ok HT.ok (fun k tm hp nx => ⟨fun h => (retOne_ok HT.ok hf k tm hp nx h).1, fun h => (retOne_ok HT.ok hf k tm hp nx h).2⟩) n [] _ _ _ _ h
  rw [List.range_eq_range', slots_zip]
  exact this
end
end Go.Ax

/- Entries under other numbers. -/
namespace Go.Ax
open Go.RowKit
set_option linter.unusedVariables false
set_option linter.unusedSimpArgs false

def rn : List (Nat × Nat) → Nat → Nat
  | [], id => id
  | (a, b) :: l, id => bif Nat.beq a id then b else rn l id
def rnOK (lo : Nat) : List (Nat × Nat) → Bool
  | [] => true
  | (a, _) :: l => Nat.ble lo a && rnOK lo l
theorem rn_low {lo id : Nat} : ∀ {l : List (Nat × Nat)}, rnOK lo l = true → id < lo → rn l id = id
  | [], _, _ => rfl
  | (a, b) :: l, h, hi => by
    simp only [rnOK, Bool.and_eq_true] at h
    have h1 := Nat.le_of_ble_eq_true h.1
    have : Nat.beq a id = false := by
      cases hb : Nat.beq a id with
      | false => rfl
      | true => have := Nat.eq_of_beq_eq_true hb; omega
    simp only [rn, this, cond_false]
    exact rn_low h.2 hi

mutual
def AV.ren (g : List (Nat × Nat)) : AV → AV
  | .hw id => .hw (rn g id)
  | .hs id a b => .hs (rn g id) a b
  | .hp id o => .hp (rn g id) o
  | .hq id i o => .hq (rn g id) i o
  | .hm id => .hm (rn g id)
  | .hc id => .hc (rn g id)
  | .agg cs => .agg (AV.renL g cs)
  | .tup cs => .tup (AV.renL g cs)
  | .fn f cs => .fn f (AV.renL g cs)
  | a => a
def AV.renL (g : List (Nat × Nat)) : List AV → List AV
  | [] => []
  | a :: as => AV.ren g a :: AV.renL g as
end

theorem AV.renL_len (g : List (Nat × Nat)) : ∀ (as : List AV), (AV.renL g as).length = as.length
  | [] => rfl
  | a :: as => by simp only [AV.renL, List.length_cons, AV.renL_len g as]

def TM.ren (g : List (Nat × Nat)) : List (Nat × AV) → List (Nat × AV)
  | [] => []
  | (d, v) :: l => (d, AV.ren g v) :: TM.ren g l
theorem TM.ren_get (g : List (Nat × Nat)) (d : Nat) : ∀ (l : List (Nat × AV)), get d (TM.ren g l) = (get d l).ren g
  | [] => rfl
  | (j, v) :: l => by
    simp only [TM.ren]
    rw [get_cons, get_cons]
    by_cases e : j = d
    · rw [if_pos e, if_pos e]
    · rw [if_neg e, if_neg e]; exact TM.ren_get g d l
def Row.ren (g : List (Nat × Nat)) : Row → Row
  | .var cs => .var (AV.renL g cs)
  | .row sz xs => .row sz xs
  | .foc sz xs cs n off j => .foc sz xs cs n off (rn g j)
  | .lp L => .lp { L with tm := TM.ren g L.tm }
  | .mpr l => .mpr l
  | .chn c l => .chn c l
  | .itr l c => .itr l c
  | .tab b l => .tab b l

def Interp.ren (I : Interp) (g : List (Nat × Nat)) (n : Nat) : Interp := { S := I.S, at_ := fun id => I.at_ (rn g id), ln := fun id => I.ln (rn g id), sz := fun id => I.sz (rn g id), nx := n }

section
variable {I : Interp} {w : World} {g : List (Nat × Nat)} {n : Nat}

mutual
theorem Rep.ren : ∀ {a : AV} {x : Value}, Rep I w (.v (a.ren g) x) → a.sc n = true → Rep (I.ren g n) w (.v a x)
  | .any, x, h, _ => .std (.any _)
  | .lit v, x, h, _ => by cases h with | std h => exact .std h
  | .sl f s xs, x, h, _ => by cases h with | std h => exact .std h
  | .pt cs, x, h, _ => by cases h with | std h => exact .std h
  | .osl s xs, x, h, _ => by cases h with | std h => cases h
  | .opt cs, x, h, _ => by cases h with | std h => cases h
  | .mp kvs, x, h, _ => by cases h with | std h => exact .std h
  | .hw id, x, h, hq0 => by
    have hs' : id < n := by simpa [AV.sc] using hq0
    simp only [AV.ren] at h
    cases h with
    | std h => cases h
    | hw0 h ha h0 hc => exact .hw0 hs' ha h0 hc
    | hw h ha hn hb hsz => exact Rep.hw (I := I.ren g n) (id := id) hs' ha hn hb hsz
  | .hs id a b, x, h, hq0 => by
    have hs' : id < n := by simpa [AV.sc] using hq0
    simp only [AV.ren] at h
    cases h with
    | std h => cases h
    | hs0 h hc => exact .hs0 hs' hc
    | hs h ha hn hb hsz => exact Rep.hs (I := I.ren g n) (id := id) hs' ha hn hb hsz
  | .hp id o, x, h, hq0 => by
    have hs' : id < n := by simpa [AV.sc] using hq0
    simp only [AV.ren] at h
    cases h with
    | std h => cases h
    | hp h ha => exact .hp (I := I.ren g n) hs' ha
  | .hq id i o, x, h, hq0 => by
    have hs' : id < n := by simpa [AV.sc] using hq0
    simp only [AV.ren] at h
    cases h with
    | std h => cases h
    | hq h ha => exact Rep.hq (I := I.ren g n) (id := id) hs' ha
  | .hm id, x, h, hq0 => by
    have hs' : id < n := by simpa [AV.sc] using hq0
    simp only [AV.ren] at h
    cases h with
    | std h => cases h
    | hm h ha => exact .hm (I := I.ren g n) hs' ha
  | .hc id, x, h, hq0 => by
    have hs' : id < n := by simpa [AV.sc] using hq0
    simp only [AV.ren] at h
    cases h with
    | std h => cases h
    | hc h ha => exact .hc (I := I.ren g n) hs' ha
  | .agg cs, x, h, hq0 => by
    simp only [AV.ren] at h
    obtain ⟨vs, rfl, h2⟩ := h.agg_inv
    exact .agg (Rep.renL h2 (by simpa [AV.sc] using hq0))
  | .tup cs, x, h, hq0 => by
    simp only [AV.ren] at h
    obtain ⟨vs, rfl, h2⟩ := h.tup_inv
    exact .tup (Rep.renL h2 (by simpa [AV.sc] using hq0))
  | .fn f cs, x, h, hq0 => by
    simp only [AV.ren] at h
    have : ∃ vs : List Value, x = .func (.func f) #[] vs.toArray ∧ Rep I w (.l (AV.renL g cs) vs) := by
      cases h with
      | std h => cases h with | fn h => exact ⟨_, rfl, h.l_rep⟩
      | fn h => exact ⟨_, rfl, h⟩
    obtain ⟨vs, rfl, h2⟩ := this
    exact .fn (Rep.renL h2 (by simpa [AV.sc] using hq0))
theorem Rep.renL : ∀ {as : List AV} {xs : List Value}, Rep I w (.l (AV.renL g as) xs) → AV.scL n as = true → Rep (I.ren g n) w (.l as xs)
  | [], xs, h, _ => by simp only [AV.renL] at h; cases h; exact .nil
  | a :: as, xs, h, hq0 => by
    simp only [AV.renL] at h
    simp only [AV.scL, Bool.and_eq_true] at hq0
    cases h with | cons h1 h2 => exact .cons (Rep.ren h1 hq0.1) (Rep.renL h2 hq0.2)
end

mutual
theorem Std.unren {S : Nat → Prop} : ∀ {a : AV} {x : Value}, Std S w (.v (a.ren g) x) → Std S w (.v a x)
  | .any, x, h => h
  | .lit v, x, h => h
  | .sl f s xs, x, h => h
  | .pt cs, x, h => h
  | .osl s xs, x, h => h
  | .opt cs, x, h => h
  | .mp kvs, x, h => h
  | .hw id, x, h => by simp only [AV.ren] at h; cases h
  | .hs id a b, x, h => by simp only [AV.ren] at h; cases h
  | .hp id o, x, h => by simp only [AV.ren] at h; cases h
  | .hq id i o, x, h => by simp only [AV.ren] at h; cases h
  | .hm id, x, h => by simp only [AV.ren] at h; cases h
  | .hc id, x, h => by simp only [AV.ren] at h; cases h
  | .agg cs, x, h => by simp only [AV.ren] at h; cases h with | agg h => exact .agg (Std.unrenL h)
  | .tup cs, x, h => by simp only [AV.ren] at h; cases h with | tup h => exact .tup (Std.unrenL h)
  | .fn f cs, x, h => by simp only [AV.ren] at h; cases h with | fn h => exact .fn (Std.unrenL h)
theorem Std.unrenL {S : Nat → Prop} : ∀ {as : List AV} {xs : List Value}, Std S w (.l (AV.renL g as) xs) → Std S w (.l as xs)
  | [], xs, h => h
  | a :: as, xs, h => by simp only [AV.renL] at h; cases h with | cons h1 h2 => exact .cons (Std.unren h1) (Std.unrenL h2)
end
mutual
theorem Own.unren {S : Nat → Prop} : ∀ {a : AV} {x : Value} {F : List Nat}, Own S w (.v (a.ren g) x) F → Own S w (.v a x) F
  | .any, x, F, h => h
  | .lit v, x, F, h => h
  | .sl f s xs, x, F, h => h
  | .pt cs, x, F, h => h
  | .osl s xs, x, F, h => h
  | .opt cs, x, F, h => h
  | .mp kvs, x, F, h => h
  | .hw id, x, F, h => by simp only [AV.ren] at h; cases h with | std h => cases h
  | .hs id a b, x, F, h => by simp only [AV.ren] at h; cases h with | std h => cases h
  | .hp id o, x, F, h => by simp only [AV.ren] at h; cases h with | std h => cases h
  | .hq id i o, x, F, h => by simp only [AV.ren] at h; cases h with | std h => cases h
  | .hm id, x, F, h => by simp only [AV.ren] at h; cases h with | std h => cases h
  | .hc id, x, F, h => by simp only [AV.ren] at h; cases h with | std h => cases h
  | .agg cs, x, F, h => by
    simp only [AV.ren] at h
    cases h with
    | std h => exact .std (Std.unren (g := g) (a := .agg cs) h)
    | agg h => exact .agg (Own.unrenL h)
  | .tup cs, x, F, h => by
    simp only [AV.ren] at h
    cases h with
    | std h => exact .std (Std.unren (g := g) (a := .tup cs) h)
    | tup h => exact .tup (Own.unrenL h)
  | .fn f cs, x, F, h => by
    simp only [AV.ren] at h
    cases h with
    | std h => exact .std (Std.unren (g := g) (a := .fn f cs) h)
theorem Own.unrenL {S : Nat → Prop} : ∀ {as : List AV} {xs : List Value} {F : List Nat}, Own S w (.l (AV.renL g as) xs) F → Own S w (.l as xs) F
  | [], xs, F, h => h
  | a :: as, xs, F, h => by simp only [AV.renL] at h; cases h with | cons h1 h2 => exact .cons (Own.unren h1) (Own.unrenL h2)
end

theorem Leaf.ren {a : AV} {x : Value} {F : List Nat} (h : Leaf I w (a.ren g) x F) (hq0 : a.sc n = true) : Leaf (I.ren g n) w a x F := by
  rcases h with ⟨h, hf⟩ | h
  · exact .inl ⟨h.ren hq0, hf⟩
  · exact .inr h.unren

theorem VarC.ren {b : Nat} : ∀ {as : List AV} {o : Nat} {F : List Nat}, VarC I w b o (AV.renL g as) F → AV.scL n as = true → VarC (I.ren g n) w b o as F
  | [], o, F, h, _ => by simp only [AV.renL] at h; cases h; exact .nil
  | a :: as, o, F, h, hq0 => by
    simp only [AV.renL] at h
    simp only [AV.scL, Bool.and_eq_true] at hq0
    cases h with | cons h1 h2 h3 => exact .cons h1 (h2.ren hq0.1) (h3.ren hq0.2)

theorem RowOK.ren {id : Nat} {r : Row} {F : List Nat} (h : RowOK I w (rn g id) (r.ren g) F) (hi : id < n) (hq0 : r.sc n = true) : RowOK (I.ren g n) w id r F := by
  cases r with
  | var cs =>
    simp only [Row.ren] at h
    cases h with | var _ ha hb hz hv => exact .var (I := I.ren g n) hi ha hb (by rw [AV.renL_len] at hz; exact hz) (hv.ren hq0)
  | row sz xs =>
    simp only [Row.ren] at h
    cases h with
    | row0 _ ha h0 hz => exact .row0 (I := I.ren g n) hi ha h0 hz
    | row _ ha hl hz hb hs2 hx hv => exact .row (I := I.ren g n) hi ha hl hz hb hs2 hx hv
  | foc sz xs cs k off j =>
    simp only [Row.ren] at h
    cases h with
    | foc _ ha hl hz hb hs2 hx hn ho hf hA o1 hc hr o2 => exact .foc (I := I.ren g n) hi ha hl hz hb hs2 hx hn ho hf hA o1 hc (Rep.ren (a := .hw j) hr hq0) o2
  | mpr l =>
    simp only [Row.ren] at h
    cases h with | mpr _ ha h1 h2 h3 => exact .mpr (I := I.ren g n) hi ha h1 h2 h3
  | chn c l =>
    simp only [Row.ren] at h
    cases h with | chn _ ha h1 h2 => exact .chn (I := I.ren g n) hi ha h1 h2
  | itr l c =>
    simp only [Row.ren] at h
    cases h with | itr _ ha h1 h2 h3 h4 h5 h6 h7 => exact .itr (I := I.ren g n) hi ha h1 h2 h3 h4 h5 h6 h7
  | tab b l =>
    simp only [Row.ren] at h
    cases h with | tab _ hs h1 => exact .tab (I := I.ren g n) hi hs h1
  | lp L =>
    simp only [Row.ren] at h
    cases h with
    | lp _ ha h1 h2 hu hr =>
      refine .lp (I := I.ren g n) hi ha h1 h2 hu fun d => ?_
      rcases get_mem d (l := L.tm) with e | ⟨p, hp, e⟩
      · rw [e]; exact .std (.any _)
      · have := hr d
        rw [TM.ren_get, e] at this
        rw [e]
        exact Rep.ren this (List.all_eq_true.1 hq0 p hp)

/-- These entries are among those, under other numbers. -/
def subR (g : List (Nat × Nat)) : HP → HP → Prop
  | _, [] => True
  | hp, (id, r) :: l => row (rn g id) hp = some (r.ren g) ∧ subR g (rem (rn g id) hp) l
def scHP (n : Nat) : HP → Bool
  | [] => true
  | (id, r) :: l => Nat.blt id n && r.sc n && scHP n l
def frL (g : List (Nat × Nat)) (tm : TM) : TM → Prop
  | [] => True
  | (d, v) :: l => get d tm = v.ren g ∧ frL g tm l
def scTM (n : Nat) : TM → Bool
  | [] => true
  | (_, v) :: l => v.sc n && scTM n l

theorem HeapOK.subR {l : HP} : ∀ {hp : HP} {T : List Nat}, HeapOK I w hp T → subR g hp l → scHP n l = true → ∃ F G, HeapOK (I.ren g n) w l F ∧ T.Perm (F ++ G) := by
  induction l with
  | nil => intro hp T h _ _; exact ⟨[], T, .nil, List.Perm.refl _⟩
  | cons p l ih =>
    obtain ⟨id, r⟩ := p
    intro hp T h hs hq0
    obtain ⟨h3, h4⟩ := hs
    simp only [scHP, Bool.and_eq_true] at hq0
    obtain ⟨F, T', g1, g2, g3⟩ := h.take h3
    obtain ⟨F2, G, k1, k2⟩ := ih g2 h4 hq0.2
    refine ⟨F ++ F2, G, .cons (g1.ren (by simpa using hq0.1.1) hq0.1.2) k1, g3.trans ?_⟩
    rw [List.append_assoc]; exact List.Perm.append_left F k2

theorem frL_get {tm : TM} : ∀ {l : TM}, frL g tm l → scTM n l = true → ∀ d, get d l = .any ∨ (get d tm = (get d l).ren g ∧ (get d l).sc n = true)
  | [], _, _, d => .inl rfl
  | (j, v) :: l, ⟨h1, h2⟩, hq0, d => by
    simp only [scTM, Bool.and_eq_true] at hq0
    rw [get_cons]
    by_cases e : j = d
    · subst e; rw [if_pos rfl]; exact .inr ⟨h1, hq0.1⟩
    · rw [if_neg e]; exact frL_get h2 hq0.2 d
end

/-- A state says all that another one says. -/
structure Fr (g : List (Nat × Nat)) (lo : Nat) (tm : TM) (hp : HP) (tm' : TM) (hp' : HP) (nx' : Nat) : Prop where
  sc : (scTM nx' tm' && scHP nx' hp' && rnOK lo g && Nat.ble lo nx') = true
  tm : frL g tm tm'
  hp : subR g hp hp'

theorem Run.fr {P : Program} {f : Nat} {Q : Post} {tm tm' : TM} {hp hp' : HP} {nx nx' nt : Nat} {g : List (Nat × Nat)} {todo : List Item} (h : Run P f Q todo ⟨tm', hp', nx', nt⟩) (hf : Fr g Q.lo tm hp tm' hp' nx') : Run P f Q todo ⟨tm, hp, nx, nt⟩ := by
  have hs := hf.sc
  simp only [Bool.and_eq_true] at hs
  obtain ⟨⟨⟨h1, h2⟩, h3⟩, h4⟩ := hs
  intro S0 B w0 I a w hlo hr
  obtain ⟨T, t1, t2, t3⟩ := hr.hp
  obtain ⟨F, G, g1, g2⟩ := t1.subR hf.hp h2
  have he := hr.ext
  have hl' := Nat.le_of_ble_eq_true h4
  refine h S0 B w0 (I.ren g nx') a w hlo ⟨fun d => ?_, hr.nt, rfl, ⟨F, g1, (List.nodup_append.1 (g2.nodup_iff.1 t2)).1, fun b hb => t3 b (g2.mem_iff.2 (List.mem_append_left _ hb))⟩, hr.ss,
    ⟨he.S, he.hold, by rw [hlo]; exact hl', fun id hi => ?_, fun id hi => ?_, fun id hi => ?_, he.last⟩, hr.sb, hr.bl, hr.bs⟩
  · rcases frL_get hf.tm h1 d with e | ⟨e1, e2⟩
    · show Rep _ w (.v (get d tm') _)
      rw [e]; exact .std (.any _)
    · have := hr.tm d
      rw [show get d (St.tm ⟨tm, hp, nx, nt⟩) = get d tm from rfl, e1] at this
      exact this.ren e2
  · show I.at_ (rn g id) = _
    rw [rn_low h3 (by omega)]; exact he.at_ id hi
  · show I.ln (rn g id) = _
    rw [rn_low h3 (by omega)]; exact he.ln id hi
  · show I.sz (rn g id) = _
    rw [rn_low h3 (by omega)]; exact he.sz id hi
end Go.Ax

/- Loops of a reckoned run. -/
namespace Go.Ax
open Go.RowKit
set_option linter.unusedVariables false
set_option linter.unusedSimpArgs false

theorem Br.d {p : Prop} [Decidable p] {t f : Prop} (h1 : p → t) (h2 : ¬p → f) : Br (decide p) t f := ⟨fun h => h1 (of_decide_eq_true h), fun h => h2 (of_decide_eq_false h)⟩
theorem Br.nd {p : Prop} [Decidable p] {t f : Prop} (h1 : ¬p → t) (h2 : p → f) : Br (!decide p) t f := ⟨fun h => h1 (by simpa using h), fun h => h2 (by simpa using h)⟩
theorem Len.nil {k : Nat → Prop} (h : k 0) : Len [] k := ⟨_, rfl, h⟩
theorem Len.cons {x : List AV} {xs : List (List AV)} {k : Nat → Prop} (h : Len xs fun n => k (n + 1)) : Len (x :: xs) k := by
  obtain ⟨n, e, h⟩ := h
  exact ⟨_, by rw [List.length_cons, e], h⟩
theorem getK {α : Type} {l : List α} {k : Nat} (h : k < l.length) : ∃ x, l[k]? = some x ∧ x ∈ l := ⟨l[k], List.getElem?_eq_getElem h, List.getElem_mem h⟩

section
variable {P : Program} {f : Nat} {Q : Post} {k : List Item} {tm tm' : TM} {hp hp' : HP} {nx nx' nt : Nat}

/-- A loop: what holds of its head. -/
theorem loop_in {α : Type} {c : Code} {g : List (Nat × Nat)} (T : α → TM) (H : α → HP) (n : Nat) (inv : α → Prop) (μ : α → Nat) (a0 : α) (h0 : inv a0) (hf : Fr g Q.lo tm hp (T a0) (H a0) n)
    (h : ∀ a, inv a → (∀ a' {g} tm hp nx, inv a' → μ a' < μ a → Fr g Q.lo tm hp (T a') (H a') n → Run P f Q (.inLoop c :: k) ⟨tm, hp, nx, nt⟩) → Run P f Q (.code c :: .inLoop c :: k) ⟨T a, H a, n, nt⟩) : Run P f Q (.code (.loop c) :: k) ⟨tm, hp, nx, nt⟩ := by
  refine run_loop (Run.fr (tm' := T a0) (hp' := H a0) (nx' := n) ?_ hf)
  exact run_enter (fun a => ⟨T a, H a, n, nt⟩) inv μ (fun a ha ih => h a ha fun a' _ tm hp nx hi hm hfr => Run.fr (ih a' hi hm) hfr) a0 h0
end
end Go.Ax

/- Values that say less, within rows. -/
namespace Go.Ax
open Go.RowKit
set_option linter.unusedVariables false
set_option linter.unusedSimpArgs false

/-- Row by row. -/
inductive LeLL : List (List AV) → List (List AV) → Prop
  | nil : LeLL [] []
  | cons {a b as bs} : LeL a b → LeLL as bs → LeLL (a :: as) (b :: bs)

theorem LeL.len {as bs : List AV} (h : LeL as bs) : as.length = bs.length := by
  induction h with
  | nil => rfl
  | cons _ _ ih => simp [ih]
theorem LeL.app {as bs cs ds : List AV} (h : LeL as bs) (h2 : LeL cs ds) : LeL (as ++ cs) (bs ++ ds) := by
  induction h with
  | nil => exact h2
  | cons h _ ih => exact .cons h ih
theorem LeLL.len {as bs : List (List AV)} (h : LeLL as bs) : as.length = bs.length := by
  induction h with
  | nil => rfl
  | cons _ _ ih => simp [ih]
theorem LeLL.flat {as bs : List (List AV)} (h : LeLL as bs) : LeL as.flatten bs.flatten := by
  induction h with
  | nil => exact .nil
  | cons h _ ih => exact h.app ih
theorem LeLL.mem {as bs : List (List AV)} (h : LeLL as bs) {sz : Nat} (hs : ∀ x ∈ as, x.length = sz) : ∀ x ∈ bs, x.length = sz := by
  induction h with
  | nil => simp
  | cons h _ ih =>
    intro x hx
    rcases List.mem_cons.1 hx with rfl | hx
    · rw [← h.len]; exact hs _ (List.mem_cons_self ..)
    · exact ih (fun y hy => hs y (List.mem_cons_of_mem _ hy)) x hx
theorem LeLL.refl : ∀ (xs : List (List AV)), LeLL xs xs
  | [] => .nil
  | x :: xs => .cons (.refl x) (.refl xs)
theorem LeLL.rep {a b : List AV} (h : LeL a b) : ∀ (n : Nat), LeLL (List.replicate n a) (List.replicate n b)
  | 0 => .nil
  | n + 1 => .cons h (LeLL.rep h n)

theorem LeL.c {S : Nat → Prop} {w : World} {b : Nat} {as bs : List AV} (h : LeL as bs) : ∀ {o : Nat}, Std S w (.c b o as) → Std S w (.c b o bs) := by
  induction h with
  | nil => intro o h; cases h; exact .cnil
  | cons h _ ih => intro o k; cases k with | ccons k1 k2 k3 => exact .ccons k1 (h _ _ _ k2) (ih k3)

theorem Le.sl {f : Bool} {sz : Nat} {xs ys : List (List AV)} (h : LeLL xs ys) : Le (.sl f sz xs) (.sl f sz ys) := fun S w x k => by
  cases k with
  | sl0 h1 h2 => cases h; exact .sl0 h1 h2
  | sl h1 h2 h3 h4 h5 => rw [h.len] at h1 h2 ⊢; exact .sl h1 h2 (h.mem h3) h4 (h.flat.c h5)
theorem Le.pt {cs ds : List AV} (h : LeL cs ds) : Le (.pt cs) (.pt ds) := fun S w x k => by
  cases k with | pt k1 k2 => exact .pt k1 (h.c k2)

section
variable {P : Program} {f : Nat} {Q : Post} {todo : List Item} {tm : TM} {hp : HP} {nx nt : Nat}

/-- Rows that are one's own go back into the variable that leads to them. -/
theorem run_foldV (id : Nat) {cs rs : List AV} {hp' : HP} (hrow : row id hp = some (.var cs)) (hf : foldL (rem id hp) cs = (rs, hp')) (h : Run P f Q todo ⟨tm, (id, .var rs) :: hp', nx, nt⟩) : Run P f Q todo ⟨tm, hp, nx, nt⟩ := by
  intro S0 B w0 I a w hlo hr
  obtain ⟨T, t1, t2, t3⟩ := hr.hp
  obtain ⟨F, T', g1, g2, g3⟩ := t1.take hrow
  cases g1 with
  | var hi ha hb hs hv =>
    obtain ⟨xs, l1, l2, l3⟩ := hv.leaves
    obtain ⟨G2, T2, k1, k2, k3⟩ := foldLv_ok l1 g2
    rw [hf] at k1 k2
    have hlen : rs.length = cs.length := by rw [k1.length, l3]
    rename_i b o c F
    have hperm : T.Perm ((b :: G2) ++ T2) := by
      refine g3.trans (List.perm_iff_count.2 fun z => ?_)
      have := List.perm_iff_count.1 k3 z
      simp only [List.count_append, List.count_cons] at this ⊢
      omega
    exact h S0 B w0 I a w hlo { hr with hp := ⟨_, .cons (.var hi ha hb (by rw [hlen]; exact hs) (k1.varC l2)) k2, hperm.nodup_iff.1 t2, fun z hz => t3 z (hperm.mem_iff.2 hz)⟩ }

end

/-- What is one's own and says more. -/
def OLe (a b : AV) : Prop := ∀ S w x F, Own S w (.v a x) F → Own S w (.v b x) F
theorem OLe.refl (a : AV) : OLe a a := fun _ _ _ _ h => h
theorem OLe.agg {as bs : List AV} (h : LeL as bs) (hs : as.all AV.stays = true) : OLe (.agg as) (.agg bs) := fun S w x F k => by
  cases k with
  | std k => exact .std (Le.agg h _ _ _ k)
  | agg k =>
    obtain ⟨e, k2⟩ := stays_own_l k hs
    rw [e]; exact .std (.agg (h.std k2))
theorem OLe.one {a b : AV} (h : Le a b) (hs : a.stays = true) : OLe a b := fun S w x F k => by
  obtain ⟨e, k2⟩ := stays_own k hs
  rw [e]; exact .std (h _ _ _ k2)
inductive OLeL : List AV → List AV → Prop
  | nil : OLeL [] []
  | cons {a b as bs} : OLe a b → OLeL as bs → OLeL (a :: as) (b :: bs)
theorem OLeL.own {S : Nat → Prop} {w : World} {as bs : List AV} (h : OLeL as bs) : ∀ {xs : List Value} {F : List Nat}, Own S w (.l as xs) F → Own S w (.l bs xs) F := by
  induction h with
  | nil => intro xs F k; exact k
  | cons h _ ih => intro xs F k; cases k with | cons k1 k2 => exact .cons (h _ _ _ _ k1) (ih k2)
theorem OLe.tup {as bs : List AV} (h : OLeL as bs) : OLe (.tup as) (.tup bs) := fun S w x F k => by
  cases k with
  | std k => cases k with | tup k => exact .tup (h.own k.l_own)
  | tup k => exact .tup (h.own k)
theorem OLe.osl {sz : Nat} {xs ys : List (List AV)} (h : LeLL xs ys) (hs : ∀ x ∈ xs, x.all AV.stays = true) : OLe (.osl sz xs) (.osl sz ys) := fun S w x F k => by
  cases k with
  | std k => cases k
  | osl0 h0 => cases h; exact .osl0 h0
  | osl h1 h2 h3 h4 ho =>
    rw [h.len] at h2 ⊢
    refine .osl h1 h2 (h.mem h3) h4 ?_
    obtain ⟨vs, o1, o2⟩ := ho.cells
    obtain ⟨rfl, o3⟩ := stays_own_l o1 (by
      rw [List.all_eq_true]
      intro a ha
      obtain ⟨x, hx1, hx2⟩ := List.mem_flatten.1 ha
      exact List.all_eq_true.1 (hs x hx1) a hx2)
    exact Own.ofCells (h.flat.std o3).l_own o2

/-- A cell that is told to hold less. -/
def VLe (a b : AV) : Prop := ∀ I w x F, Leaf I w a x F → Leaf I w b x F
theorem VLe.refl (a : AV) : VLe a a := fun _ _ _ _ h => h
theorem VLe.osl {sz : Nat} {xs ys : List (List AV)} (h : LeLL xs ys) (hs : ∀ x ∈ xs, x.all AV.stays = true) : VLe (.osl sz xs) (.osl sz ys) := fun I w x F k => by
  rcases k with ⟨k, _⟩ | k
  · cases k with | std k => cases k
  · exact .inr (OLe.osl h hs _ _ _ _ k)
theorem VLe.one {a b : AV} (h : Le a b) (hs : a.stays = true) : VLe a b := fun I w x F k => by
  rcases k with ⟨k, hf⟩ | k
  · exact .inl ⟨.std (h _ _ _ (k.std_of (by cases a <;> simp_all [AV.stays, AV.closed]))), hf⟩
  · exact .inr (OLe.one h hs _ _ _ _ k)
inductive VLeL : List AV → List AV → Prop
  | nil : VLeL [] []
  | cons {a b as bs} : VLe a b → VLeL as bs → VLeL (a :: as) (b :: bs)
theorem VLeL.len {as bs : List AV} (h : VLeL as bs) : as.length = bs.length := by
  induction h with
  | nil => rfl
  | cons _ _ ih => simp [ih]
theorem VLeL.varC {I : Interp} {w : World} {b : Nat} {as bs : List AV} (h : VLeL as bs) : ∀ {o : Nat} {F : List Nat}, VarC I w b o as F → VarC I w b o bs F := by
  induction h with
  | nil => intro o F k; cases k; exact .nil
  | cons h _ ih => intro o F k; cases k with | cons k1 k2 k3 => exact .cons k1 (h _ _ _ _ k2) (ih k3)
theorem run_varLe {P : Program} {f : Nat} {Q : Post} {todo : List Item} {tm : TM} {hp : HP} {nx nt : Nat} (id : Nat) {cs ds : List AV} (hrow : row id hp = some (.var cs)) (hle : VLeL cs ds) (h : Run P f Q todo ⟨tm, (id, .var ds) :: rem id hp, nx, nt⟩) : Run P f Q todo ⟨tm, hp, nx, nt⟩ := by
  intro S0 B w0 I a w hlo hr
  obtain ⟨T, t1, t2, t3⟩ := hr.hp
  obtain ⟨F, T', g1, g2, g3⟩ := t1.take hrow
  refine h S0 B w0 I a w hlo { hr with hp := ⟨F ++ T', .cons ?_ g2, g3.nodup_iff.1 t2, fun z hz => t3 z (g3.mem_iff.2 hz)⟩ }
  cases g1 with
  | var hi ha hb hs hv => exact .var hi ha hb (by rw [← hle.len]; exact hs) (hle.varC hv)
theorem FnSpec.weak {P : Program} {g : Nat} {as : List AV} {v : AV} (h : FnSpec P g as fun r => OLe r v) : FnSpec P g as fun r => r = v := ⟨h.has, fun S0 w vs h1 h2 => (h.good S0 w vs h1 h2).mono fun e w' ⟨r, hr, u, S, F, he, ho, h3⟩ => ⟨v, rfl, u, S, F, he, hr _ _ _ _ ho, h3⟩⟩
theorem FnSpec.weakE {P : Program} {g : Nat} {as : List AV} {Q Q2 : AV → Prop} (h : FnSpec P g as Q) (hq : ∀ r, Q r → ∃ v, Q2 v ∧ OLe r v) : FnSpec P g as Q2 := ⟨h.has, fun S0 w vs h1 h2 => (h.good S0 w vs h1 h2).mono fun e w' ⟨r, hr, u, S, F, he, ho, h3⟩ => by
  obtain ⟨v, k1, k2⟩ := hq r hr
  exact ⟨v, k1, u, S, F, he, k2 _ _ _ _ ho, h3⟩⟩
theorem FnSpec.imp {P : Program} {g : Nat} {as : List AV} {Q Q2 : AV → Prop} (h : FnSpec P g as Q) (hq : ∀ r, Q r → Q2 r) : FnSpec P g as Q2 := ⟨h.has, h.good.imp hq⟩
theorem FnSpec.args {P : Program} {g : Nat} {as bs : List AV} {Q : AV → Prop} (h : FnSpec P g bs Q) (hl : LeL as bs) : FnSpec P g as Q := ⟨h.has, h.good.le hl⟩
theorem Need.au {c1 c2 k : Prop} (hk : k) (h1 : c1 := by first | omega | (simp; omega)) (h2 : c2 := by first | omega | (simp; done) | (simp; omega)) : Need (c1 ∧ c2) k := ⟨⟨h1, h2⟩, hk⟩
theorem Fit.au {n : Int} {K : AV → Prop} (hk : K (.lit (.int .i64 n))) (h1 : -9223372036854775808 ≤ n := by first | omega | (simp; omega)) (h2 : n ≤ 9223372036854775807 := by first | omega | (simp; done) | (simp; omega)) : Fit n K := .ok ⟨h1, h2⟩ hk
theorem Cv.au {n : Int} {K : AV → Prop} (hk : K (.lit (.int .i64 n))) (h1 : -9223372036854775808 ≤ n := by first | omega | (simp; omega)) (h2 : n ≤ 9223372036854775807 := by first | omega | (simp; done) | (simp; omega)) : Cv .i64 n K := .same (wrap_in h1 h2) hk
theorem wrap_u64 {n : Int} (h1 : 0 ≤ n) (h2 : n < 18446744073709551616) : IntKind.u64.wrap n = n := by
  simp only [IntKind.wrap, IntKind.bits, IntKind.signed]
  simp
  omega
theorem Need.ne {n : Int} {k : Prop} (hk : k) (h : n ≠ 0 := by first | omega | (simp; omega)) : Need (n ≠ 0) k := ⟨h, hk⟩
theorem App.au {xs ys : List (List AV)} {bytes : Nat} {k : Prop} (h0 : ys.flatten.all AV.own1 = true) (hk : k) (h1 : (xs.length + ys.length) * bytes ≤ 140737488355328 := by simp only [List.length_map, List.length_append, List.length_cons, List.length_nil]; omega)
    (h2 : xs.length + ys.length ≤ 9223372036854775807 := by simp only [List.length_map, List.length_append, List.length_cons, List.length_nil]; omega) : App xs ys bytes k := ⟨h0, h1, h2, hk⟩
end Go.Ax

/- Roads that meet again. -/
namespace Go.Ax
open Go.RowKit
theorem own_map {α : Type} {enc : α → List AV} (h : ∀ e, (enc e).all AV.own1 = true) : ∀ (l : List α), (l.map enc).flatten.all AV.own1 = true
  | [] => rfl
  | a :: l => by rw [List.map_cons, List.flatten_cons, List.all_append, h a, own_map h l]; rfl
theorem PickN.map {α : Type} {enc : α → List AV} {l : List α} {n : Nat} {k : List AV → Prop} {e : α} (h : l[n]? = some e) (hk : k (enc e)) : PickN (l.map enc) n k := ⟨_, by simp [h], hk⟩
theorem PickN.au {α : Type} {enc : α → List AV} {l : List α} {n : Nat} {k : List AV → Prop} {e : α} (hk : k (enc e)) (h : l[n]? = some e := by first | assumption | (rw [Int.toNat_natCast]; assumption)) : PickN (l.map enc) n k := PickN.map h hk
section
variable {P : Program} {f : Nat} {Q : Post} {tm : TM} {hp : HP} {nx nt : Nat}
/-- All roads come to one place, where this holds. -/
theorem join {α : Type} (T : α → TM) (H : α → HP) (n : Nat) (inv : α → Prop) {todo todo' : List Item}
    (main : (∀ a {g} tm hp nx, Fr g Q.lo tm hp (T a) (H a) n → inv a → Run P f Q todo' ⟨tm, hp, nx, nt⟩) → Run P f Q todo ⟨tm, hp, nx, nt⟩)
    (J : ∀ a, inv a → Run P f Q todo' ⟨T a, H a, n, nt⟩) : Run P f Q todo ⟨tm, hp, nx, nt⟩ :=
  main fun a _ tm hp nx hf hi => Run.fr (J a hi) hf
end
end Go.Ax

/- Loops over functions: the record, its rounds, and how a function leaves that holds one. -/
namespace Go.Ax
open Go.RowKit
set_option linter.unusedVariables false
set_option linter.unusedSimpArgs false

theorem Lasts.put {w : World} {l : Nat} {o o' : Obj} (h : w.heap[l]? = some o) (hc : ∀ c e z, o ≠ .cells c e z) : Lasts w (w.putObj l o') := fun b c hb => by
  obtain ⟨e, hb⟩ := hb
  refine ⟨c, ⟨e, (World.putObj_heap_other fun hbl => ?_).trans hb⟩, rfl⟩
  subst hbl; rw [h] at hb; cases hb; exact hc _ _ _ rfl
theorem Below.put {B : Nat} {w : World} {l : Nat} {o : Obj} (h : B ≤ l) : Below B w (w.putObj l o) :=
  ⟨rfl, rfl, rfl, by simp, fun k hk => World.putObj_heap_other (by omega)⟩

section
variable {P : Program} {f : Nat} {Q : Post} {k : List Item} {st : St} {A : Array Oper} {i : Nat} {rest : List Nat}

def Lp.ob (L : Lp) (us : Array Value) (df : Nat) (s : LoopState) (pn : Option Code) : Loop := { state := s, pending := pn, fn := L.f, tmps := us, params := L.ps, assign := L.assign, body := L.body, defers := df }

/-- Behind a frame whose heap was its caller's. -/
theorem Rel.inl {S0 : Interp} {B : Nat} {w0 : World} {I : Interp} {a : Act} {w w2 : World} (hr : Rel S0 B w0 I st a w) {K : AV → HP → Nat → Prop} {e : Ending} (h : inlR K I B w e w2) :
    ∃ v r hp nx I', e = .returned v ∧ K r hp nx ∧ Rep I' w2 (.v r v) ∧ Rel S0 B w0 I' ⟨st.tm, hp, nx, st.nt⟩ a w2 := by
  obtain ⟨v, r, hp', nx', I', rfl, hK, hnx, hrep, hhp, hss, hext, hsb, hbl, hbs⟩ := h
  exact ⟨v, r, hp', nx', I', rfl, hK, hrep, fun d => (hr.tm d).mono hext, hr.nt, hnx, hhp, hss, hr.ext.trans hext, fun b hb => (hsb b hb).elim (hr.sb b) .inr, hr.bl.trans hbl, hbs⟩

end

section
variable {P : Program} {f : Nat}
end
end Go.Ax

/- Calls with the heap, rounds and loops over functions, each with what comes behind it; lists that are nil. -/
namespace Go.Ax
open Go.RowKit
set_option linter.unusedVariables false

section
variable {P : Program} {f : Nat} {Q : Post} {k : List Item} {st : St} {A : Array Oper} {i : Nat} {rest : List Nat}
theorem run_inlC {d t g : Nat} {pos : String} {af : Array Edge} {gd : Option (Nat × Bool)} {xs : Array Operand} {ts : Array Nat} {x : Operand} {fn : Func} {c : Code} {as cs : List AV}
    (ho : A[i]? = some ⟨some d, .call { callee := .value x, args := xs, argTypes := ts }, t, pos, af, gd⟩) (hw : Want A st gd) (hd : Nat.blt d st.nt = true) (hx : st.ev x = .fn g cs)
    (hg : P.funcs[g]? = some fn) (hb : fn.body = some c) (hn : (fn.name == "runtime.NumGoroutine") = false) (has : xs.toList.map st.ev ++ cs = as) (hnt : Nat.ble as.length fn.ntmps = true)
    (hrun : Run P g (Post.inl st.nx fun r hp nx => Run P f Q (.inRegion A rest :: k) ⟨(d, r) :: st.tm, hp, nx, st.nt⟩) [.code c] ⟨slots 0 as, st.hp, st.nx, fn.ntmps⟩) : Run P f Q (.inRegion A (i :: rest) :: k) st :=
  run_inl ho hw hd hx hg hb hn has hnt hrun fun _ _ _ h => h
end
theorem OLe.onil {sz : Nat} : OLe (.lit (.slice none 0 0)) (.osl sz []) := fun S w x F h => by
  cases h with
  | std h => obtain rfl := h.lit_inv; exact .osl0 trivial
theorem VLe.onil {sz : Nat} : VLe (.lit (.slice none 0 0)) (.osl sz []) := fun I w x F h => by
  rcases h with ⟨h, rfl⟩ | h
  · cases h with | std h => obtain rfl := h.lit_inv; exact .inr (.osl0 trivial)
  · exact .inr (OLe.onil _ _ _ _ h)
/-- Rows of one's own, element by element. -/
theorem OLeL.ownC {S : Nat → Prop} {w : World} {b : Nat} {as bs : List AV} (h : OLeL as bs) : ∀ {o : Nat} {F : List Nat}, Own S w (.c b o as) F → Own S w (.c b o bs) F := by
  induction h with
  | nil => intro o F k; exact k
  | cons h _ ih => intro o F k; cases k with | ccons k1 k2 k3 => exact .ccons k1 (h _ _ _ _ k2) (ih k3)
theorem OLeL.len {as bs : List AV} (h : OLeL as bs) : as.length = bs.length := by
  induction h with
  | nil => rfl
  | cons _ _ ih => simp [ih]
theorem OLeL.app {as bs cs ds : List AV} (h : OLeL as bs) (h2 : OLeL cs ds) : OLeL (as ++ cs) (bs ++ ds) := by
  induction h with
  | nil => exact h2
  | cons h _ ih => exact .cons h ih
inductive OLeLL : List (List AV) → List (List AV) → Prop
  | nil : OLeLL [] []
  | cons {a b as bs} : OLeL a b → OLeLL as bs → OLeLL (a :: as) (b :: bs)
theorem OLeLL.len {as bs : List (List AV)} (h : OLeLL as bs) : as.length = bs.length := by
  induction h with
  | nil => rfl
  | cons _ _ ih => simp [ih]
theorem OLeLL.flat {as bs : List (List AV)} (h : OLeLL as bs) : OLeL as.flatten bs.flatten := by
  induction h with
  | nil => exact .nil
  | cons h _ ih => exact h.app ih
theorem OLeLL.mem {as bs : List (List AV)} (h : OLeLL as bs) {sz : Nat} (hs : ∀ x ∈ as, x.length = sz) : ∀ x ∈ bs, x.length = sz := by
  induction h with
  | nil => simp
  | cons h _ ih =>
    intro x hx
    rcases List.mem_cons.1 hx with rfl | hx
    · rw [← h.len]; exact hs _ (List.mem_cons_self ..)
    · exact ih (fun y hy => hs y (List.mem_cons_of_mem _ hy)) x hx
theorem OLeLL.rep {a b : List AV} (h : OLeL a b) : ∀ (n : Nat), OLeLL (List.replicate n a) (List.replicate n b)
  | 0 => .nil
  | n + 1 => .cons h (OLeLL.rep h n)
theorem OLeL.refl : ∀ (as : List AV), OLeL as as
  | [] => .nil
  | a :: as => .cons (OLe.refl a) (OLeL.refl as)
theorem OLeLL.refl : ∀ (xs : List (List AV)), OLeLL xs xs
  | [] => .nil
  | x :: xs => .cons (.refl x) (.refl xs)
theorem OLeLL.app {as bs cs ds : List (List AV)} (h : OLeLL as bs) (h2 : OLeLL cs ds) : OLeLL (as ++ cs) (bs ++ ds) := by
  induction h with
  | nil => exact h2
  | cons h _ ih => exact .cons h ih
theorem OLe.oslO {sz : Nat} {xs ys : List (List AV)} (h : OLeLL xs ys) : OLe (.osl sz xs) (.osl sz ys) := fun S w x F k => by
  cases k with
  | std k => cases k
  | osl0 h0 => cases h; exact .osl0 h0
  | osl h1 h2 h3 h4 ho => rw [h.len] at h2 ⊢; exact .osl h1 h2 (h.mem h3) h4 (h.flat.ownC ho)
theorem run_rowO {P : Program} {f : Nat} {Q : Post} {todo : List Item} {tm : TM} {hp : HP} {nx nt : Nat} (id : Nat) {sz : Nat} {xs ys : List (List AV)} (hrow : row id hp = some (.row sz xs)) (hle : OLeLL xs ys) (h : Run P f Q todo ⟨tm, (id, .row sz ys) :: rem id hp, nx, nt⟩) : Run P f Q todo ⟨tm, hp, nx, nt⟩ := by
  intro S0 B w0 I a w hlo hr
  obtain ⟨T, t1, t2, t3⟩ := hr.hp
  obtain ⟨F, T', g1, g2, g3⟩ := t1.take hrow
  refine h S0 B w0 I a w hlo { hr with hp := ⟨F ++ T', .cons ?_ g2, g3.nodup_iff.1 t2, fun z hz => t3 z (g3.mem_iff.2 hz)⟩ }
  cases g1 with
  | row0 hi ha h0 hz => cases hle; exact .row0 hi ha h0 hz
  | row hi ha hl hz hb hs2 hx ho => exact .row hi ha (by rw [← hle.len]; exact hl) hz hb (by rw [← hle.len]; exact hs2) (hle.mem hx) (hle.flat.ownC ho)
/-- A row within a variable's cell is given an entry of its own. -/
theorem run_unfold {P : Program} {f : Nat} {Q : Post} {todo : List Item} {tm : TM} {hp : HP} {nx nt : Nat} (id off : Nat) {sz : Nat} {cs r : List AV} {xs : List (List AV)} (hrow : row id hp = some (.var cs)) (hd : cs.drop off = .osl sz xs :: r)
    (h : Run P f Q todo ⟨tm, (nx, .row sz xs) :: (id, .var (cs.set off (.hw nx))) :: rem id hp, nx + 1, nt⟩) : Run P f Q todo ⟨tm, hp, nx, nt⟩ := by
  intro S0 B w0 I a w hlo hr hds
  obtain ⟨st, hst⟩ : ∃ st : St, st = ⟨tm, hp, nx, nt⟩ := ⟨_, rfl⟩
  rw [show nx = st.nx by rw [hst]] at h
  rw [← hst] at hr
  replace hrow : row id st.hp = some (.var cs) := by rw [hst]; exact hrow
  obtain ⟨T, k1, k2, k3⟩ := hr.hp
  obtain ⟨F, T', g1, g2, g3⟩ := k1.take hrow
  obtain ⟨b, of, c, G, hi, hat, hb, hs, hv, rfl⟩ : ∃ b of c G, id < I.nx ∧ I.at_ id = some (b, of) ∧ Blk w b c ∧ of + cs.length ≤ c.size ∧ VarC I w b of cs G ∧ F = b :: G := by
    cases g1 with | var hi hat hb hs hv => exact ⟨_, _, _, _, hi, hat, hb, hs, hv, rfl⟩
  obtain ⟨p, hcs, hpl⟩ := drop_split hd
  rw [hcs] at hv
  obtain ⟨F1, F2, rfl, hv1, hv2⟩ := hv.split
  have hset : cs.set off (.hw st.nx) = p ++ (.hw st.nx :: r) := by rw [hcs, ← hpl]; simp
  cases hv2 with
  | @cons _ _ y _ Fv Fr hc hl hr2 =>
    rw [hpl] at hc hr2
    have hnx := hr.nx
    -- the row's own standing
    have key : ∃ at_ : Option (Nat × Nat), ∃ I', I' = I.add at_ xs.length sz ∧ Rep I' w (.v (.hw st.nx) y) ∧ RowOK I' w st.nx (.row sz xs) Fv := by
      rcases hl with hl | hl
      · cases hl.1 with | std h => cases h
      cases hl with
      | std h => cases h
      | osl0 ha0 =>
        refine ⟨none, _, rfl, ?_, ?_⟩
        · exact .hw0 (by show st.nx < I.nx + 1; omega) (by simp [Interp.add, hnx]) (by simp [Interp.add, hnx]) ha0
        · exact .row0 (by show st.nx < I.nx + 1; omega) (by simp [Interp.add, hnx]) (by simp [Interp.add, hnx]) (by simp [Interp.add, hnx])
      | osl hb1 hc1 hx1 hs1 ho1 =>
        rename_i b1 o1 cap1 c1 F3
        have hln : (I.add (some (b1, o1)) xs.length sz).ln st.nx = xs.length := by simp [Interp.add, hnx]
        refine ⟨some (b1, o1), _, rfl, ?_, ?_⟩
        · have := Rep.hw (I := I.add (some (b1, o1)) xs.length sz) (w := w) (id := st.nx) (cap := cap1) (c := c1) (b := b1) (o := o1) (by show st.nx < I.nx + 1; omega) (by simp [Interp.add, hnx]) (by rw [hln]; exact hc1) hb1
            (by simp only [Interp.add, hnx, if_true]; exact hs1)
          rw [hln] at this; exact this
        · refine .row (by show st.nx < I.nx + 1; omega) (by simp [Interp.add, hnx]) hln (by simp [Interp.add, hnx]) hb1 ?_ hx1 ho1
          have : xs.length * sz ≤ cap1 * sz := Nat.mul_le_mul_right _ hc1
          omega
    obtain ⟨at_, I', rfl, hrep, hrowok⟩ := key
    have he : Ext I w (I.add at_ xs.length sz) w := .add _ _ _ (fun _ _ => rfl) (.refl w)
    have hvar : RowOK (I.add at_ xs.length sz) w id (.var (cs.set off (.hw st.nx))) (b :: (F1 ++ ([] ++ Fr))) := by
      refine .var (by show id < I.nx + 1; omega) ((he.at_ id hi).trans hat) hb (by simpa using hs) ?_
      rw [hset]
      refine (hv1.mono he (fun _ _ => rfl) rfl).app ?_
      rw [hpl]
      exact .cons hc (.inl ⟨hrep, rfl⟩) (hr2.mono he (fun _ _ => rfl) rfl)
    have hperm : T.Perm (Fv ++ ((b :: (F1 ++ ([] ++ Fr))) ++ T')) := by
      refine g3.trans (List.perm_iff_count.2 fun z => ?_)
      simp only [List.count_append, List.count_cons, List.count_nil]; omega
    have := hr.next he (Below.refl B w) (fun b h => .inl h) hr.ss (hp := (st.nx, .row sz xs) :: (id, .var (cs.set off (.hw st.nx))) :: rem id st.hp)
      ⟨_, .cons hrowok (.cons hvar (g2.mono he fun _ _ => rfl)), hperm.nodup_iff.1 k2, fun z hz => k3 z (hperm.mem_iff.2 hz)⟩
    have e2 : (I.add at_ xs.length sz).nx = st.nx + 1 := by show I.nx + 1 = _; rw [hnx]
    rw [e2] at this
    refine h S0 B w0 (I.add at_ xs.length sz) a w hlo ?_ hds
    subst hst
    exact this
theorem FnSpec.weakV {P : Program} {g : Nat} {as : List AV} {v : AV} (h : FnSpec P g as fun r => r = v ∨ OLe r v) : FnSpec P g as fun r => r = v :=
  FnSpec.weakE h fun r hr => ⟨v, rfl, hr.elim (fun e => e ▸ OLe.refl _) id⟩
end Go.Ax

/- A variable that holds a list that is nil gets an own empty list. -/
namespace Go.Ax
open Go.RowKit
theorem get_at (d e : Nat) (v : AV) (tm : TM) : get e ((d, v) :: tm) = bif Nat.beq d e then v else get e tm := rfl
/-- A nil list in a variable of the frame is an own empty one. -/
theorem run_nilT {P : Program} {f : Nat} {Q : Post} {todo : List Item} {tm : TM} {hp : HP} {nx nt : Nat} (d sz : Nat) (hd : get d tm = .lit (.slice none 0 0))
    (h : Run P f Q todo ⟨(d, .hw nx) :: tm, (nx, .row sz []) :: hp, nx + 1, nt⟩) : Run P f Q todo ⟨tm, hp, nx, nt⟩ := by
  intro S0 B w0 I a w hlo hr hds
  obtain ⟨st, hst⟩ : ∃ st : St, st = ⟨tm, hp, nx, nt⟩ := ⟨_, rfl⟩
  rw [show nx = st.nx by rw [hst]] at h
  rw [← hst] at hr
  replace hd : get d st.tm = .lit (.slice none 0 0) := by rw [hst]; exact hd
  have hnx := hr.nx
  obtain ⟨T, k1, k2, k3⟩ := hr.hp
  have he : Ext I w (I.add none 0 sz) w := .add _ _ _ (fun _ _ => rfl) (.refl w)
  have hrep : Rep (I.add none 0 sz) w (.v (.hw st.nx) (a.tmps.getD d undef)) := by
    have h1 := hr.tm d
    rw [hd] at h1
    rw [h1.lit_inv]
    exact .hw0 (by show st.nx < I.nx + 1; omega) (by simp [Interp.add, hnx]) (by simp [Interp.add, hnx]) trivial
  have hrowok : RowOK (I.add none 0 sz) w st.nx (.row sz []) [] := .row0 (by show st.nx < I.nx + 1; omega) (by simp [Interp.add, hnx]) (by simp [Interp.add, hnx]) (by simp [Interp.add, hnx])
  have := hr.next he (Below.refl B w) (fun b h => .inl h) hr.ss (hp := (st.nx, .row sz []) :: st.hp) ⟨T, .cons hrowok (k1.mono he fun _ _ => rfl), by simpa using k2, k3⟩
  have e2 : (I.add none 0 sz).nx = st.nx + 1 := by show I.nx + 1 = _; rw [hnx]
  rw [e2] at this
  refine h S0 B w0 (I.add none 0 sz) a w hlo ?_ hds
  subst hst
  refine { this with tm := fun e => ?_ }
  show Rep _ w (.v (get e ((d, .hw nx) :: tm)) _)
  rw [get_at]
  cases hb : Nat.beq d e with
  | true => rw [Nat.eq_of_beq_eq_true hb] at hrep; exact hrep
  | false => exact this.tm e
end Go.Ax
