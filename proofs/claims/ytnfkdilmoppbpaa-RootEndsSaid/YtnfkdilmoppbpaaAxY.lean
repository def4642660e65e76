/- Loops of a reckoned run. -/
import Derived.Test.YtnfkdilmoppbpaaAxYa
namespace Go.Ax
open Go.RowKit
set_option linter.unusedVariables false
set_option linter.unusedSimpArgs false

theorem Br.d {p : Prop} [Decidable p] {t f : Prop} (h1 : p → t) (h2 : ¬p → f) : Br (decide p) t f := ⟨fun h => h1 (of_decide_eq_true h), fun h => h2 (of_decide_eq_false h)⟩
theorem Br.nd {p : Prop} [Decidable p] {t f : Prop} (h1 : ¬p → t) (h2 : p → f) : Br (!decide p) t f := ⟨fun h => h1 (by simpa using h), fun h => h2 (by simpa using h)⟩
theorem Len.nil {k : Nat → Prop} (h : k 0) : Len [] k := ⟨_, rfl, h⟩
theorem Len.cons {x : List AV} {xs : List (List AV)} {k : Nat → Prop} (h : Len xs fun n => k (n + 1)) : Len (x :: xs) k := by
  obtain ⟨n, e, h⟩ := h
  exact ⟨_, by rw [List.length_cons, e], h⟩
theorem getK {α : Type} {l : List α} {k : Nat} (h : k < l.length) : ∃ x, l[k]? = some x ∧ x ∈ l := ⟨l[k], List.getElem?_eq_getElem h, List.getElem_mem h⟩

section
variable {P : Program} {f : Nat} {Q : Post} {k : List Item} {tm tm' : TM} {hp hp' : HP} {nx nx' nt : Nat}

/-- A loop: what holds of its head. -/
theorem loop_in {α : Type} {c : Code} {g : List (Nat × Nat)} (T : α → TM) (H : α → HP) (n : Nat) (inv : α → Prop) (μ : α → Nat) (a0 : α) (h0 : inv a0) (hf : Fr g Q.lo tm hp (T a0) (H a0) n)
    (h : ∀ a, inv a → (∀ a' {g} tm hp nx, inv a' → μ a' < μ a → Fr g Q.lo tm hp (T a') (H a') n → Run P f Q (.inLoop c :: k) ⟨tm, hp, nx, nt⟩) → Run P f Q (.code c :: .inLoop c :: k) ⟨T a, H a, n, nt⟩) : Run P f Q (.code (.loop c) :: k) ⟨tm, hp, nx, nt⟩ := by
  refine run_loop (Run.fr (tm' := T a0) (hp' := H a0) (nx' := n) ?_ hf)
  exact run_enter (fun a => ⟨T a, H a, n, nt⟩) inv μ (fun a ha ih => h a ha fun a' _ tm hp nx hi hm hfr => Run.fr (ih a' hi hm) hfr) a0 h0
end
end Go.Ax
