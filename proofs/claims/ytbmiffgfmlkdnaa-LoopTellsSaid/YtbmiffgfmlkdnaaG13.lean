/- The chapter's example of loops. No program is in sight here. -/
import Derived.Test.YtbmiffgfmlkdnaaG11
set_option linter.unusedVariables false
set_option linter.unusedSimpArgs false

namespace Go.Proofs.Ytbmiffgfmlkdnaa
open Go.Ax

def s36 : List (List Int) := [[1], [2, 3], [1], []]
theorem R36_0 {x : Int} (h : x ≠ 0) : Reaches s36 x 0 := .zero (by simp [s36]) h
theorem R36_1 {x : Int} (h : x ≠ 0) (h1 : (1 : Int) ≠ x) : Reaches s36 x 1 := .step (k := 0) (R36_0 h) rfl (by simp) h1
theorem R36_2 {x : Int} (h : x ≠ 0) (h1 : (1 : Int) ≠ x) (h2 : (2 : Int) ≠ x) : Reaches s36 x 2 := .step (k := 1) (R36_1 h h1) rfl (by simp) h2
theorem N36 {t : Int} (h : Reaches s36 1 t) : t = 0 := by
  induction h with
  | zero => rfl
  | @step k t l _ hg hm hn ih =>
    obtain rfl : k = 0 := by omega
    cases hg
    exact absurd (by simpa using hm) hn
theorem D36 : DomN s36 1 2 := ⟨R36_1 (by decide) (by decide), R36_2 (by decide) (by decide) (by decide), fun h => by have := N36 h; omega⟩
theorem notI36 {k : Nat} (h : InL s36 1 k) : k = 1 ∨ k = 2 := by
  have hd := h.dom (R36_1 (by decide) (by decide))
  have hk : k < 4 := by
    have := Rc_lt (s := s36) (by intro l hl x hx; simp [s36] at hl; rcases hl with rfl | rfl | rfl | rfl <;> simp at hx <;> (simp [s36]; omega)) hd.2.1
    simpa [s36] using this
  match k, hk with
  | 0, _ => exact absurd (R36_0 (by decide)) hd.2.2
  | 1, _ => exact .inl rfl
  | 2, _ => exact .inr rfl
  | 3, _ =>
    have no : ∀ x, ¬ Ed s36 3 x := fun x ⟨l, gl, hm⟩ => by cases gl; cases hm
    cases h with
    | latch he _ => exact absurd he (no _)
    | pred _ _ he _ => exact absurd he (no _)
theorem blk36 : blkF s36 1 = [1, 2] := by
  refine sorted_ext (filtN_lt ..) (by simp) fun x => ?_
  unfold blkF
  rw [filtN_mem]
  constructor
  · rintro ⟨h0, _, _, hI⟩
    rcases notI36 hI with h | h
    · have : x = 1 := by omega
      simp [this]
    · have : x = 2 := by omega
      simp [this]
  · intro h
    have h := List.mem_cons.1 h
    rcases h with rfl | h
    · exact ⟨by decide, by decide, R36_1 (by decide) (by decide), .head⟩
    · obtain rfl := List.mem_singleton.1 h
      exact ⟨by decide, by decide, D36.2.1, .latch ⟨[1], rfl, by simp⟩ D36⟩
theorem lat36_0 : latF s36 0 = [] := rfl
theorem lat36_1 : latF s36 1 = [2] := by
  show List.filter (domB s36 1) [0, 2] = _
  rw [List.filter_cons_of_neg (fun h => (domB_iff.1 h).2.2 (R36_0 (by decide))), List.filter_cons_of_pos (domB_iff.2 D36)]
  rfl
theorem lat36_2 : latF s36 2 = [] := by
  show List.filter (domB s36 2) [1] = _
  rw [List.filter_cons_of_neg (fun h => (domB_iff.1 h).2.2 (R36_1 (by decide) (by decide)))]
  rfl
theorem lat36_3 : latF s36 3 = [] := by
  show List.filter (domB s36 3) [1] = _
  rw [List.filter_cons_of_neg (fun h => (domB_iff.1 h).2.2 (R36_1 (by decide) (by decide)))]
  rfl
theorem lps36 : lps s36 4 = [⟨1, [1, 2], [2], -1⟩] := by
  simp only [lps]
  rw [lat36_0, lat36_1, lat36_2, lat36_3, blk36]
  rfl
end Go.Proofs.Ytbmiffgfmlkdnaa
