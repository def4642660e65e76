/- Functions as they come in. -/
import Derived.Test.YtjjijklonnhdeaaCR0
import Derived.Test.YtjjijklonnhdeaaG09
set_option linter.unusedVariables false
set_option linter.unusedSimpArgs false

namespace Go.Proofs.Ytjjijklonnhdeaa
open Go.Ax
theorem Fun.low.fits {f : Fun} (h : f.low) : f.fits := by
  have hr := reachBytes_lt
  obtain ⟨_, g1, g2, g3⟩ := h
  refine ⟨by omega, by omega, fun b hb => ?_⟩
  obtain ⟨k1, k2⟩ := g3 b hb
  refine ⟨by omega, fun i hi => ?_⟩
  have := k2 i hi
  unfold Ins.low at this
  unfold Ins.fits
  omega
theorem Fun.low.light {f : Fun} (h : f.low) : f.blocks.length ≤ 1000 → f.count ≤ 100000000000000000 := by
  have hr := reachBytes_lt
  intro hb
  obtain ⟨_, _, _, g3⟩ := h
  have key : ∀ l : List (List Ins), (∀ b ∈ l, b.length * 88 ≤ reachBytes) → (l.map List.length).sum ≤ l.length * 10000000000000 := by
    intro l
    induction l with
    | nil => simp
    | cons b l ih =>
      intro h
      have h1 := h b (List.mem_cons_self ..)
      have h2 := ih fun g hg => h g (List.mem_cons_of_mem _ hg)
      simp only [List.map_cons, List.sum_cons, List.length_cons, Nat.add_mul]; omega
  have := key f.blocks fun b hb => (g3 b hb).1
  have h4 : f.blocks.length * 10000000000000 ≤ 1000 * 10000000000000 := Nat.mul_le_mul_right _ hb
  unfold Fun.count; omega
theorem u8_wf {a : Int} (h : (Lit.int .u8 a).wf = true) : 0 ≤ a ∧ a < 256 := by
  simp [Lit.wf] at h
  have h1 : IntKind.u8.min = 0 := by decide
  have h2 : IntKind.u8.max = 255 := by decide
  rw [h1, h2] at h
  omega
end Go.Proofs.Ytjjijklonnhdeaa

/- Lists of numbers, and lists of such lists, as they come in. -/
namespace Go.Proofs.Ytjjijklonnhdeaa
open Go.Ax Go.RowKit Go.ChangeShapes Go.WideShapes Go.ChangeAt
theorem opens_lls : Opens Try.prog 22 (fun l => [lsts l]) (fun l : List (List Int) => l.length * 24 ≤ reachBytes ∧ ∀ r ∈ l, r.length * 8 ≤ reachBytes) :=
  (opens_slice ty22 rfl ty23 rfl (by decide) rfl (fun _ => rfl) opens_ints).map id (fun _ => rfl) fun _ h => ⟨h.2, h.1⟩
/-- An argument's list, opened. -/
theorem open_sl {P : Program} {H : Type} {enc : TypeId × Value → H} {w : World} {t e : Nat} {i : TyI} {α : Type} {en : α → AV} {ok : α → Prop} (ht : TyOK P t i) (hd : i.td = .td (.slice e)) (ho : Opens P t (fun a => [en a]) ok) {v : Value} {d : DataW H} {p : List MemPlace}
    {b0 : Nat} (hval : Value.okWide P w .any b0 t v) (h : DataW.Trod enc P w 0 (fun _ => true) true t v d p) (hw : Weighs P t d) : ∃ a, Std (All w) w (.v (en a) v) ∧ ok a := by
  obtain ⟨fuel, hf⟩ := h
  obtain ⟨ad, len, cap, rfl⟩ := okWide_slice (ht.sliceE hd) hval
  obtain ⟨a, h1, h2⟩ := ho H enc w fuel _ _ hf hw
  have h3 : Std (All w) w (.l [en a] [.slice ad len cap]) := h1
  cases h3 with
  | cons h4 _ => exact ⟨a, h4, h2⟩
theorem low_lls {l : List (List Int)} (h : l.length * 24 ≤ reachBytes ∧ ∀ r ∈ l, r.length * 8 ≤ reachBytes) : l.length ≤ 100000000000000 ∧ ∀ r ∈ l, r.length ≤ 100000000000000 := by
  have hr := reachBytes_lt
  exact ⟨by omega, fun r hr2 => by have := h.2 r hr2; omega⟩
end Go.Proofs.Ytjjijklonnhdeaa
