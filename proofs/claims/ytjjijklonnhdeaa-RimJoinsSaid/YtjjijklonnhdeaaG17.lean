/- Functions as they come in. -/
import Derived.Test.YtjjijklonnhdeaaCR0
set_option linter.unusedVariables false
set_option linter.unusedSimpArgs false

namespace Go.Proofs.Ytjjijklonnhdeaa
open Go.Ax
theorem Fun.low.fits {f : Fun} (h : f.low) : f.fits := by
  have hr := reachBytes_lt
  obtain ⟨_, g1, g2, g3⟩ := h
  refine ⟨by omega, by omega, fun b hb => ?_⟩
  obtain ⟨k1, k2⟩ := g3 b hb
  refine ⟨by omega, fun i hi => ?_⟩
  have := k2 i hi
  unfold Ins.low at this
  unfold Ins.fits
  omega
theorem Fun.low.light {f : Fun} (h : f.low) : f.blocks.length ≤ 1000 → f.count ≤ 100000000000000000 := by
  have hr := reachBytes_lt
  intro hb
  obtain ⟨_, _, _, g3⟩ := h
  have key : ∀ l : List (List Ins), (∀ b ∈ l, b.length * 88 ≤ reachBytes) → (l.map List.length).sum ≤ l.length * 10000000000000 := by
    intro l
    induction l with
    | nil => simp
    | cons b l ih =>
      intro h
      have h1 := h b (List.mem_cons_self ..)
      have h2 := ih fun g hg => h g (List.mem_cons_of_mem _ hg)
      simp only [List.map_cons, List.sum_cons, List.length_cons, Nat.add_mul]; omega
  have := key f.blocks fun b hb => (g3 b hb).1
  have h4 : f.blocks.length * 10000000000000 ≤ 1000 * 10000000000000 := Nat.mul_le_mul_right _ hb
  unfold Fun.count; omega
theorem u8_wf {a : Int} (h : (Lit.int .u8 a).wf = true) : 0 ≤ a ∧ a < 256 := by
  simp [Lit.wf] at h
  have h1 : IntKind.u8.min = 0 := by decide
  have h2 : IntKind.u8.max = 255 := by decide
  rw [h1, h2] at h
  omega
end Go.Proofs.Ytjjijklonnhdeaa
