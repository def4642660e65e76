/- What is one's own, with all that hangs on it, stays from now on. -/
import Derived.Test.YtnfkdilmoppbpaaAxS
namespace Go.Ax
open Go.RowKit
set_option linter.unusedVariables false
set_option linter.unusedSimpArgs false

mutual
def AV.fz : AV → AV
  | .osl sz xs => .sl false sz (AV.fzLL xs)
  | .opt cs => .pt (AV.fzL cs)
  | .agg cs => .agg (AV.fzL cs)
  | .tup cs => .tup (AV.fzL cs)
  | a => a
def AV.fzL : List AV → List AV
  | [] => []
  | a :: as => AV.fz a :: AV.fzL as
def AV.fzLL : List (List AV) → List (List AV)
  | [] => []
  | x :: xs => AV.fzL x :: AV.fzLL xs
end

theorem AV.fzL_len : ∀ (as : List AV), (AV.fzL as).length = as.length
  | [] => rfl
  | a :: as => by simp only [AV.fzL, List.length_cons, AV.fzL_len as]

theorem AV.fzL_app : ∀ (as bs : List AV), AV.fzL (as ++ bs) = AV.fzL as ++ AV.fzL bs
  | [], bs => rfl
  | a :: as, bs => by simp only [List.cons_append, AV.fzL, AV.fzL_app as bs]

theorem AV.fzLL_len : ∀ (xs : List (List AV)), (AV.fzLL xs).length = xs.length
  | [] => rfl
  | x :: xs => by simp only [AV.fzLL, List.length_cons, AV.fzLL_len xs]

theorem AV.fzLL_flat : ∀ (xs : List (List AV)), (AV.fzLL xs).flatten = AV.fzL xs.flatten
  | [] => rfl
  | x :: xs => by simp only [AV.fzLL, List.flatten_cons, AV.fzL_app, AV.fzLL_flat xs]

theorem AV.fzLL_mem {sz : Nat} : ∀ {xs : List (List AV)}, (∀ x ∈ xs, x.length = sz) → ∀ x ∈ AV.fzLL xs, x.length = sz
  | [], _, x, hx => by simp [AV.fzLL] at hx
  | y :: xs, h, x, hx => by
    simp only [AV.fzLL, List.mem_cons] at hx
    rcases hx with rfl | hx
    · rw [AV.fzL_len]; exact h y (List.mem_cons_self ..)
    · exact AV.fzLL_mem (fun z hz => h z (List.mem_cons_of_mem _ hz)) x hx

def Ask.fz : Ask → Ask
  | .v a x => .v a.fz x
  | .l as xs => .l (AV.fzL as) xs
  | .c b o as => .c b o (AV.fzL as)

theorem Std.fz {S : Nat → Prop} {w : World} {q : Ask} (h : Std S w q) : Std S w q.fz := by
  induction h with
  | any x => exact .any x
  | lit x => exact .lit x
  | agg _ ih => exact .agg ih
  | tup _ ih => exact .tup ih
  | sl0 h1 h2 => exact .sl0 h1 h2
  | sl h1 h2 h3 h4 h5 _ => exact .sl h1 h2 h3 h4 h5
  | pt h1 h2 _ => exact .pt h1 h2
  | fn h _ => exact .fn h
  | mp h1 h2 h3 => exact .mp h1 h2 h3
  | nil => exact .nil
  | cons _ _ ih1 ih2 => exact .cons ih1 ih2
  | cnil => exact .cnil
  | ccons h _ _ ih1 ih2 => exact .ccons h ih1 ih2

theorem Std.grow {S S' : Nat → Prop} {w : World} {q : Ask} (h : Std S w q) (hS : ∀ b, S b → S' b) : Std S' w q := by
  induction h with
  | any x => exact .any x
  | lit x => exact .lit x
  | agg _ ih => exact .agg ih
  | tup _ ih => exact .tup ih
  | sl0 h1 h2 => exact .sl0 h1 h2
  | sl h1 h2 h3 h4 _ ih => exact .sl h1 h2 h3 (hS _ h4) ih
  | pt h1 _ ih => exact .pt (hS _ h1) ih
  | fn _ ih => exact .fn ih
  | mp h1 h2 h3 => exact .mp (hS _ h1) h2 h3
  | nil => exact .nil
  | cons _ _ ih1 ih2 => exact .cons ih1 ih2
  | cnil => exact .cnil
  | ccons h _ _ ih1 ih2 => exact .ccons h ih1 ih2

theorem Own.freeze {S : Nat → Prop} {w : World} {q : Ask} {F : List Nat} (h : Own S w q F) : Std (fun b => S b ∨ b ∈ F) w q.fz := by
  induction h with
  | std h => exact h.fz.grow fun _ h => .inl h
  | agg _ ih => exact .agg ih
  | tup _ ih => exact .tup ih
  | osl0 _ => exact .sl0 (fun h => by cases h) (fun _ => rfl)
  | @osl sz xs b o cap c F h1 h2 h3 h4 _ ih =>
    have ih' := ih.grow (S' := fun z => S z ∨ z ∈ b :: F) fun z hz => hz.imp id (List.mem_cons_of_mem _)
    have := Std.sl (S := fun z => S z ∨ z ∈ b :: F) (w := w) (full := false) (xs := AV.fzLL xs) (sz := sz) (cap := cap) (b := b) (o := o) (fun h => by cases h) (by rw [AV.fzLL_len]; exact h2) (AV.fzLL_mem h3) (.inr (List.mem_cons_self ..)) (by rw [AV.fzLL_flat]; exact ih')
    rw [AV.fzLL_len] at this
    exact this
  | opt h1 h2 _ ih =>
    exact .pt (.inr (List.mem_cons_self ..)) (ih.grow fun z hz => hz.imp id (List.mem_cons_of_mem _))
  | nil => exact .nil
  | cons _ _ ih1 ih2 => exact .cons (ih1.grow fun z hz => hz.imp id (List.mem_append_left _)) (ih2.grow fun z hz => hz.imp id (List.mem_append_right _))
  | cnil => exact .cnil
  | ccons h _ _ ih1 ih2 => exact .ccons h (ih1.grow fun z hz => hz.imp id (List.mem_append_left _)) (ih2.grow fun z hz => hz.imp id (List.mem_append_right _))

theorem VarC.own {I : Interp} {w : World} {b o : Nat} {as : List AV} {F : List Nat} (h : VarC I w b o as F) (hc : as.all AV.closed = true) : Own I.S w (.c b o as) F := by
  induction h with
  | nil => exact .cnil
  | cons h1 h2 _ ih =>
    simp only [List.all_cons, Bool.and_eq_true] at hc
    exact .ccons h1 (h2.own hc.1) (ih hc.2)

section
variable {P : Program} {f : Nat} {Q : Post} {st : St} {S0 : Interp} {B : Nat} {w0 : World} {I : Interp} {a : Act} {w : World}

/-- These blocks stay from now on. -/
theorem Rel.freeze (hr : Rel S0 B w0 I st a w) {T F T' : List Nat} {hp : List (Nat × Row)} (t2 : T.Nodup) (t3 : ∀ b ∈ T, B ≤ b ∧ ¬ I.S b ∧ b < w.heap.size) (hh : HeapOK I w hp T') (hp0 : T.Perm (F ++ T')) :
    Rel S0 B w0 { I with S := fun z => I.S z ∨ z ∈ F } ⟨st.tm, hp, st.nx, st.nt⟩ a w := by
  have he : Ext I w { I with S := fun z => I.S z ∨ z ∈ F } w := ⟨fun _ h => .inl h, fun _ _ => rfl, Nat.le_refl _, fun _ _ => rfl, fun _ _ => rfl, fun _ _ => rfl, .refl w⟩
  have hnd := hp0.nodup_iff.1 t2
  have hF : ∀ z ∈ F, z ∈ T := fun z hz => hp0.mem_iff.2 (List.mem_append_left _ hz)
  have := hr.next he (Below.refl B w) (fun z hz => hz.imp id fun h => (t3 z (hF z h)).1) (fun z hz => hz.elim (hr.ss z) fun h => (t3 z (hF z h)).2.2) (hp := hp)
    ⟨T', hh.mono he fun _ _ => rfl, (List.nodup_append.1 hnd).2.1, fun z hz => by
      have h1 := t3 z (hp0.mem_iff.2 (List.mem_append_right _ hz))
      exact ⟨h1.1, fun hh => hh.elim h1.2.1 fun h => (List.nodup_append.1 hnd).2.2 _ h _ hz rfl, h1.2.2⟩⟩
  have e2 : (⟨st.tm, hp, ({ I with S := fun z => I.S z ∨ z ∈ F } : Interp).nx, st.nt⟩ : St) = ⟨st.tm, hp, st.nx, st.nt⟩ := by
    show (⟨st.tm, hp, I.nx, st.nt⟩ : St) = _
    rw [hr.nx]
  rw [← e2]; exact this

/-- A variable of one's own, with all that hangs on it, stays: slot d tells it so. -/
theorem run_freezeV {todo : List Item} (d : Nat) {id : Nat} {cs cs' : List AV} (hv : get d st.tm = .hp id 0) (hrow : row id st.hp = some (.var cs)) (hc : cs.all AV.closed = true) (hz : AV.fzL cs = cs')
    (h : Run P f Q todo ⟨(d, .pt cs') :: st.tm, rem id st.hp, st.nx, st.nt⟩) : Run P f Q todo st := by
  subst hz
  intro S0 B w0 I a w hlo hr
  obtain ⟨T, t1, t2, t3⟩ := hr.hp
  obtain ⟨F, T', g1, g2, g3⟩ := t1.take hrow
  have hx := hr.tm d
  rw [hv] at hx
  obtain ⟨b, o, hid, ha, e⟩ := hx.hp_inv
  obtain ⟨c, G, _, hb, hs, hvc, rfl⟩ := g1.var_inv ha
  have hstd := (hvc.own hc).freeze
  have hr2 := hr.freeze t2 t3 g2 g3
  refine h S0 B w0 _ a w hlo { hr2 with tm := fun j => ?_ }
  rw [get_cons]
  by_cases ej : d = j
  · subst ej
    rw [if_pos rfl, e]
    exact .std (.pt (.inr (List.mem_cons_self ..)) (hstd.grow fun z hz => hz.imp (fun h => h) (List.mem_cons_of_mem _)))
  · rw [if_neg ej]; exact hr2.tm j

/-- The same of a row. -/
theorem run_freezeR {todo : List Item} (d : Nat) {id sz : Nat} {xs xs' : List (List AV)} (hv : get d st.tm = .hw id) (hrow : row id st.hp = some (.row sz xs)) (hz : AV.fzLL xs = xs')
    (h : Run P f Q todo ⟨(d, .sl false sz xs') :: st.tm, rem id st.hp, st.nx, st.nt⟩) : Run P f Q todo st := by
  subst hz
  intro S0 B w0 I a w hlo hr
  obtain ⟨T, t1, t2, t3⟩ := hr.hp
  obtain ⟨F, T', g1, g2, g3⟩ := t1.take hrow
  have hx := hr.tm d
  rw [hv] at hx
  have hr2 := hr.freeze t2 t3 g2 g3
  refine h S0 B w0 _ a w hlo { hr2 with tm := fun j => ?_ }
  rw [get_cons]
  by_cases ej : d = j
  · subst ej
    rw [if_pos rfl]
    obtain ⟨hid, ⟨_, h0, ad, e⟩ | ⟨b, of, cap, c, ha, hcap, hblk, hfit, e⟩⟩ := hx.hw_inv
    · have hnil : xs = [] := List.eq_nil_of_length_eq_zero (by rw [← g1.ln_eq.1]; exact h0)
      subst hnil
      rw [e]; exact .std (.sl0 (fun h => by cases h) (fun _ => rfl))
    · have hln := g1.ln_eq.1
      cases g1 with
      | row0 _ ha' => rw [ha] at ha'; cases ha'
      | row _ ha' hl hz hb hs hx2 ho =>
        rw [ha] at ha'
        cases ha'
        have hstd := ho.freeze
        rw [e, hln]
        have := Std.sl (S := fun z => I.S z ∨ z ∈ b :: _) (w := w) (full := false) (xs := AV.fzLL xs) (sz := sz) (cap := cap) (b := b) (o := of) (fun h => by cases h) (by rw [AV.fzLL_len, ← hln]; exact hcap) (AV.fzLL_mem hx2) (.inr (List.mem_cons_self ..))
          (by rw [AV.fzLL_flat]; exact hstd.grow fun z hz => hz.imp (fun h => h) (List.mem_cons_of_mem _))
        rw [AV.fzLL_len] at this
        exact .std this
  · rw [if_neg ej]; exact hr2.tm j
end
end Go.Ax
