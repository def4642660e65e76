/- Structs and rows that are made: out of their parts, of zeros, by appending. -/
import Derived.Test.YtnfkdilmoppbpaaAxL
namespace Go.Ax
open Go.RowKit
set_option linter.unusedVariables false
set_option linter.unusedSimpArgs false

/-! Parts laid into cells. -/

def spliceV : List Value → Nat → List Value → List Value
  | cs, _, [] => cs
  | [], _, _ => []
  | _ :: cs, 0, v :: vs => v :: spliceV cs 0 vs
  | c :: cs, n + 1, v :: vs => c :: spliceV cs n (v :: vs)

theorem rep_splice {I : Interp} {w : World} : ∀ (cs : List AV) (n : Nat) (vs : List AV) (xs us : List Value), Rep I w (.l cs xs) → Rep I w (.l vs us) → Rep I w (.l (splice cs n vs) (spliceV xs n us))
  | cs, n, [], xs, us, h, h2 => by
    cases h2
    simp only [splice, spliceV]; exact h
  | [], n, v :: vs, xs, us, h, h2 => by
    cases h; cases h2
    exact .nil
  | c :: cs, 0, v :: vs, xs, us, h, h2 => by
    cases h with
    | cons h0 h1 =>
      cases h2 with
      | cons k0 k1 => exact .cons k0 (rep_splice cs 0 vs _ _ h1 k1)
  | c :: cs, n + 1, v :: vs, xs, us, h, h2 => by
    cases h with
    | cons h0 h1 =>
      cases h2 with
      | cons k0 k1 => exact .cons h0 (rep_splice cs n (v :: vs) _ _ h1 (.cons k0 k1))

theorem spliceV_set (cs : List Value) : ∀ (n : Nat) (v : Value) (vs : List Value), n < cs.length → spliceV cs n (v :: vs) = spliceV (cs.set n v) (n + 1) vs := by
  induction cs with
  | nil => intro n v vs h; simp at h
  | cons c cs ih =>
    intro n v vs h
    cases n with
    | zero =>
      cases vs with
      | nil => simp [spliceV]
      | cons u us => simp [spliceV]
    | succ n =>
      have := ih n v vs (by simpa using h)
      cases vs with
      | nil => simpa [spliceV] using this
      | cons u us => simpa [spliceV] using this

theorem foldl_splice (vs : List Value) : ∀ (k off : Nat) (cs : List Value), off + k + vs.length ≤ cs.length →
    ((vs.zipIdx k).foldl (fun (cs : Array Value) p => cs.setIfInBounds (off + p.2) p.1) cs.toArray).toList = spliceV cs (off + k) vs := by
  induction vs with
  | nil => intro k off cs h; simp [spliceV]
  | cons v vs ih =>
    intro k off cs h
    simp only [List.zipIdx_cons, List.foldl_cons]
    have := ih (k + 1) off (cs.set (off + k) v) (by simp at h ⊢; omega)
    rw [List.setIfInBounds_toArray, this, spliceV_set cs (off + k) v vs (by simp at h; omega)]
    rfl

/-- Where parts go, and what they make. -/
def lay (place : Nat → Option (Nat × Nat)) : List AV → List (Nat × AV) → Option (List AV)
  | cs, [] => some cs
  | cs, (j, v) :: r => match place j with
    | none => none
    | some (off, sz) => bif v.known && Nat.beq v.cells.length sz && Nat.ble (off + sz) cs.length then lay place (splice cs off v.cells) r else none

/-- Parts as the machine has them. -/
inductive Parts (I : Interp) (w : World) : List (Nat × AV) → List (Nat × Value) → Prop
  | nil : Parts I w [] []
  | cons {j v x ps xs} : Rep I w (.v v x) → (∀ u, v = .lit u → u.cells = #[u]) → Parts I w ps xs → Parts I w ((j, v) :: ps) ((j, x) :: xs)

theorem spliceV_len (cs : List Value) : ∀ (n : Nat) (vs : List Value), (spliceV cs n vs).length = cs.length := by
  induction cs with
  | nil => intro n vs; cases vs <;> simp [spliceV]
  | cons c cs ih =>
    intro n vs
    cases vs with
    | nil => simp [spliceV]
    | cons v vs => cases n <;> simp [spliceV, ih]

theorem lay_ok {I : Interp} {w : World} {place place' : Nat → Option (Nat × Nat)} (hp : ∀ j, place' j = place j) : ∀ {ps : List (Nat × AV)} {xs : List (Nat × Value)} {cs cs' : List AV} {zs : List Value}, Parts I w ps xs → Rep I w (.l cs zs) →
    lay place cs ps = some cs' → ∃ ys, Instr.fill place' zs.toArray xs = some ys ∧ Rep I w (.l cs' ys.toList) := by
  intro ps
  induction ps with
  | nil =>
    intro xs cs cs' zs h hr hl
    cases h
    simp only [lay, Option.some.injEq] at hl
    subst hl
    exact ⟨zs.toArray, rfl, by simpa using hr⟩
  | cons p ps ih =>
    intro xs cs cs' zs h hr hl
    cases h with
    | @cons j v x _ xs hv hlit hps =>
      simp only [lay] at hl
      cases hpl : place j with
      | none => rw [hpl] at hl; cases hl
      | some q =>
        obtain ⟨off, sz⟩ := q
        rw [hpl] at hl
        dsimp only at hl
        cases hc : (v.known && Nat.beq v.cells.length sz && Nat.ble (off + sz) cs.length) with
        | false => rw [hc] at hl; cases hl
        | true =>
          rw [hc, cond_true] at hl
          simp only [Bool.and_eq_true, Nat.ble_eq] at hc
          obtain ⟨⟨hk, hb⟩, hle⟩ := hc
          have hcells := hv.cells hk hlit
          have hlen : x.cells.toList.length = sz := by rw [hcells.l_len]; exact Nat.eq_of_beq_eq_true hb
          have hzl : zs.length = cs.length := hr.l_len
          obtain ⟨ys, h1, h2⟩ := ih (cs := splice cs off v.cells) (zs := spliceV zs off x.cells.toList) hps (rep_splice _ _ _ _ _ hr hcells) hl
          refine ⟨ys, ?_, h2⟩
          simp only [Instr.fill, hp, hpl]
          have e1 : x.cells.size = sz := by rw [← hlen]; simp
          have e2 : ¬ (off + x.cells.size > zs.toArray.size) := by simp [e1]; omega
          have e3 : (x.cells.size ≠ sz || decide (off + x.cells.size > zs.toArray.size)) = false := by simp [e1]; omega
          rw [if_neg (by simp [e1]; omega)]
          have h3 := foldl_splice x.cells.toList 0 off zs (by rw [hlen]; omega)
          rw [← h1]
          congr 1
          apply Array.ext'
          rw [Nat.add_zero] at h3
          rw [List.toList_toArray, ← h3]
          congr 1
          rw [← Array.foldl_toList]
          simp [Array.toList_zipIdx]

section
variable {P : Program} {st : St}

theorem parts_of {S0 : Interp} {B : Nat} {w0 : World} {I : Interp} {a : Act} {w : World} (hr : Rel S0 B w0 I st a w) (ps : List (Nat × Operand)) (hl : ∀ p ∈ ps, ∀ u, st.ev p.2 = .lit u → u.cells = #[u]) :
    Parts I w (ps.map fun p => (p.1, st.ev p.2)) (ps.map fun p => (p.1, a.eval p.2)) := by
  induction ps with
  | nil => exact .nil
  | cons p ps ih => exact .cons (hr.ev p.2) (hl p (List.mem_cons_self ..)) (ih fun q hq => hl q (List.mem_cons_of_mem _ hq))

def placeOf (fs : List (Nat × Nat)) (szs : List Nat) (j : Nat) : Option (Nat × Nat) :=
  match fs[j]?, szs[j]? with
  | some (off, _), some s => some (off, s)
  | _, _ => none

/-- The sizes of a struct's fields. -/
inductive Sizes (P : Program) : List (Nat × Nat) → List Nat → Prop
  | nil : Sizes P [] []
  | cons {off t i fs ss} : TyOK P t i → Sizes P fs ss → Sizes P ((off, t) :: fs) (i.size :: ss)

/-- All parts that are literals have one cell. -/
def litOK (st : St) : List (Nat × Operand) → Bool
  | [] => true
  | (_, x) :: r => (match st.ev x with | .lit u => u.oneCell' | _ => true) && litOK st r

theorem litOK_spec : ∀ {ps : List (Nat × Operand)}, litOK st ps = true → ∀ p ∈ ps, ∀ u, st.ev p.2 = .lit u → u.cells = #[u]
  | (j, x) :: r, h, p, hp, u, hu => by
    simp only [litOK, Bool.and_eq_true] at h
    rcases List.mem_cons.1 hp with rfl | hp
    · rw [hu] at h
      cases u <;> first | rfl | (have := h.1; simp [Value.oneCell'] at this)
    · exact litOK_spec h.2 p hp u hu
  | [], _, p, hp, _, _ => by simp at hp

theorem run_places {w : World} : ∀ (fields : List Field) (fs : List (Nat × Nat)) (ss : List Nat), fields.map (fun f => (f.offset, f.type)) = fs → Sizes P fs ss →
    (fields.mapM fun f => (do pure (f.offset, ← sizeOf f.type) : Sem (Nat × Nat))).run P w = .ok ((fs.zip ss).map fun p => (p.1.1, p.2)) w
  | [], fs, ss, h, hs => by subst h; cases hs; simp
  | fd :: fields, fs, ss, h, hs => by
    subst h
    cases hs with
    | @cons _ _ i _ ss ht hs =>
      have ih := run_places (w := w) fields _ ss rfl hs
      simp only [List.mapM_cons, Sem.run_bind, run_size ht, Result.andThen_ok, Sem.run_pure, ih, List.map_cons, List.zip_cons_cons]

theorem rd_build {o : Oper} {t : Nat} {parts : Array (Nat × Operand)} {i : TyI} {fs : List (Nat × Nat)} {ss : List Nat} {cs : List AV} (h : o.op = .build t parts) (ht : TyOK P t i) (hd : i.td = .agg fs) (hs : Sizes P fs ss)
    (hl : litOK st parts.toList = true) (hc : lay (placeOf fs ss) (i.zero.map .lit) (parts.toList.map fun p => (p.1, st.ev p.2)) = some cs) : Reads P st o (.agg cs) := by
  intro S0 B w0 I a w hr
  have hparts := parts_of hr parts.toList (litOK_spec hl)
  have hplace : ∀ j, (((fs.zip ss).map fun (p : (Nat × Nat) × Nat) => (p.1.1, p.2)).toArray[j]? : Option (Nat × Nat)) = placeOf fs ss j := by
    intro j
    simp only [List.getElem?_toArray, List.getElem?_map]
    have : ∀ (fs : List (Nat × Nat)) (ss : List Nat), Sizes P fs ss → ∀ j, ((fs.zip ss)[j]?.map fun (p : (Nat × Nat) × Nat) => (p.1.1, p.2)) = placeOf fs ss j := by
      intro fs ss h
      induction h with
      | nil => intro j; rfl
      | cons _ _ ih => intro j; cases j with | zero => rfl | succ j => simpa [placeOf] using ih j
    exact this fs ss hs j
  obtain ⟨ys, h1, h2⟩ := lay_ok hplace hparts (lits_rep I w i.zero) hc
  obtain ⟨h3, _⟩ := id ht
  rw [hd] at h3
  obtain ⟨fields, hu, hf⟩ := h3
  refine ⟨.agg ys, fun w' hw => ?_, ?_⟩
  · obtain ⟨z, hz, hzc⟩ := run_zero (w := w') ht
    have hpl := run_places (P := P) (w := w') fields.toList fs ss hf hs
    have hm : (fields.mapM fun f => (do pure (f.offset, ← sizeOf f.type) : Sem (Nat × Nat))).run P w' = .ok ((fs.zip ss).map fun p => (p.1.1, p.2)).toArray w' := by
      rw [← Array.toArray_toList (xs := fields), List.mapM_toArray]
      simp only [Sem.run_map, hpl, Result.andThen_ok]
    have hmap : (parts.map fun p => (p.1, a.eval p.2)).toList = parts.toList.map fun p => (p.1, a.eval p.2) := by simp
    simp only [execOp, h, Instr.build, Sem.run_bind, hz, Result.andThen_ok, run_under hu, hm, hzc, hmap, h1, Sem.run_pure]
  · have := Rep.agg h2
    simpa using this
end
end Go.Ax
