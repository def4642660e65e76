/- Programs as they come in. -/
import Derived.Test.YtdgibhndjdgllaaDoorDTy2
import Derived.Test.YtdgibhndjdgllaaDoorG06
import Derived.Test.YtdgibhndjdgllaaDoorRows
import Derived.WalkKit
import Derived.ProofKit
import Derived.OpenShut
import Derived.ShutString
import Derived.ChangeOld
import Derived.Below
import Derived.SizedLaws
set_option linter.unusedVariables false
set_option linter.unusedSimpArgs false

namespace Go.Proofs.YtdgibhndjdgllaaDoor
open Go.Ax Go.RowKit Go.ChangeShapes Go.WideShapes Go.ChangeAt
open Go.ChangeMaps (open_string shut_string)
set_option maxRecDepth 10000
set_option linter.unusedVariables false

/-- What is so of every program that comes in. -/
def Ins.low (i : Ins) : Prop := i.args.length * 8 ≤ reachBytes
def Fun.low (f : Fun) : Prop := f.name.size ≤ reachBytes ∧ f.regs.length * 8 ≤ reachBytes ∧ f.blocks.length * 24 ≤ reachBytes ∧ ∀ b ∈ f.blocks, b.length * 88 ≤ reachBytes ∧ ∀ i ∈ b, i.low
def Pro.low (p : Pro) : Prop := p.funcs.length * 80 ≤ reachBytes ∧ p.sites.length * 16 ≤ reachBytes ∧ ∀ f ∈ p.funcs, f.low

theorem opens_num : Opens Tryd.prog 3 int1 num64 := opens_int ty3 rfl
theorem opens_ints : Opens Tryd.prog 28 (fun l => [ints l]) (fun l : List Int => l.length * 8 ≤ reachBytes) :=
  (opens_slice ty28 rfl ty3 rfl (by decide) rfl (fun _ => rfl) opens_num).map id (fun _ => rfl) fun _ h => h.2
theorem opens_ins : Opens Tryd.prog 63 Ins.cs Ins.low :=
  (opens_struct ty63 rfl (by kernel_rfl) (opensF_cons ty3 rfl opens_num (opensF_cons ty3 rfl opens_num (opensF_cons ty3 rfl opens_num (opensF_cons ty3 rfl opens_num (opensF_cons ty3 rfl opens_num
    (opensF_cons ty3 rfl opens_num (opensF_cons ty3 rfl opens_num (opensF_cons ty3 rfl opens_num (opensF_cons ty28 rfl opens_ints opensF_nil)))))))))).map
    (fun t => ⟨t.1, t.2.1, t.2.2.1, t.2.2.2.1, t.2.2.2.2.1, t.2.2.2.2.2.1, t.2.2.2.2.2.2.1, t.2.2.2.2.2.2.2.1, t.2.2.2.2.2.2.2.2.1⟩) (fun _ => rfl) fun _ h => h.2.2.2.2.2.2.2.2.1
theorem opens_blk : Opens Tryd.prog 38 blk (fun b => b.length * 88 ≤ reachBytes ∧ ∀ i ∈ b, i.low) :=
  (opens_slice ty38 rfl ty63 rfl (by decide) rfl (fun _ => rfl) opens_ins).map id (fun _ => rfl) fun _ h => ⟨h.2, h.1⟩
theorem opens_fun : Opens Tryd.prog 31 Fun.cs Fun.low :=
  (opens_struct ty31 rfl (by kernel_rfl) (opensF_cons ty9 rfl (opens_string ty9 rfl) (opensF_cons ty3 rfl opens_num (opensF_cons ty3 rfl opens_num (opensF_cons ty28 rfl opens_ints
    (opensF_cons ty29 rfl (opens_slice ty29 rfl ty38 rfl (by decide) rfl (fun _ => rfl) opens_blk) opensF_nil)))))).map
    (fun t => ⟨t.1, t.2.1, t.2.2.1, t.2.2.2.1, t.2.2.2.2.1⟩) (fun _ => rfl) fun _ h => ⟨h.1, h.2.2.2.1, h.2.2.2.2.1.2, h.2.2.2.2.1.1⟩
theorem opens_site : Opens Tryd.prog 153 site (fun _ => True) :=
  (opens_struct ty153 rfl (by kernel_rfl) (opensF_cons ty3 rfl opens_num (opensF_cons ty3 rfl opens_num opensF_nil))).map (fun t => (t.1, t.2.1)) (fun _ => rfl) fun _ _ => trivial
theorem opens_pro : Opens Tryd.prog 25 Pro.cs Pro.low :=
  (opens_struct ty25 rfl (by kernel_rfl) (opensF_cons ty22 rfl (opens_slice ty22 rfl ty31 rfl (by decide) rfl (fun _ => rfl) opens_fun) (opensF_cons ty3 rfl opens_num
    (opensF_cons ty23 rfl (opens_slice ty23 rfl ty153 rfl (by decide) rfl (fun _ => rfl) opens_site) opensF_nil)))).map
    (fun t => ⟨t.1, t.2.1, t.2.2.1⟩) (fun _ => rfl) fun _ h => ⟨h.1.2, h.2.2.1.2, h.1.1⟩

theorem Pro.low.fits {p : Pro} (h : p.low) : p.fits := by
  have hr := reachBytes_lt
  obtain ⟨h1, h2, h3⟩ := h
  refine ⟨by omega, by omega, fun f hf => ?_⟩
  obtain ⟨_, g1, g2, g3⟩ := h3 f hf
  refine ⟨by omega, by omega, fun b hb => ?_⟩
  obtain ⟨k1, k2⟩ := g3 b hb
  refine ⟨by omega, fun i hi => ?_⟩
  have := k2 i hi
  unfold Ins.low at this
  unfold Ins.fits
  omega

theorem Pro.low.light {p : Pro} (h : p.low) : p.light := by
  have hr := reachBytes_lt
  intro f hf hb
  obtain ⟨_, _, _, g3⟩ := h.2.2 f hf
  have key : ∀ l : List (List Ins), (∀ b ∈ l, b.length * 88 ≤ reachBytes) → (l.map List.length).sum ≤ l.length * 10000000000000 := by
    intro l
    induction l with
    | nil => simp
    | cons b l ih =>
      intro h
      have h1 := h b (List.mem_cons_self ..)
      have h2 := ih fun g hg => h g (List.mem_cons_of_mem _ hg)
      simp only [List.map_cons, List.sum_cons, List.length_cons, Nat.add_mul]; omega
  have := key f.blocks fun b hb => (g3 b hb).1
  have h4 : f.blocks.length * 10000000000000 ≤ 1000 * 10000000000000 := Nat.mul_le_mul_right _ hb
  unfold Fun.count; omega

/-- An argument's struct, opened. -/
theorem open_struct {P : Program} {H : Type} {enc : TypeId × Value → H} {w : World} {t : Nat} {fs : List (Nat × Nat)} {i : TyI} {α : Type} {en : α → List AV} {ok : α → Prop} (ht : TyOK P t i) (hd : i.td = .agg fs) (ho : Opens P t en ok) {v : Value} {d : DataW H} {p : List MemPlace}
    {b0 : Nat} (hval : Value.okWide P w .any b0 t v) (h : DataW.Trod enc P w 0 (fun _ => true) true t v d p) (hw : Weighs P t d) : ∃ a, Std (All w) w (.v (.agg (en a)) v) ∧ ok a := by
  obtain ⟨fuel, hf⟩ := h
  obtain ⟨hd2, _⟩ := ht
  rw [hd] at hd2
  obtain ⟨fields, hu, _⟩ := hd2
  obtain ⟨cs, rfl, _⟩ := okWide_struct hu hval
  obtain ⟨a, h1, h2⟩ := ho H enc w fuel _ _ hf hw
  have h3 := Std.agg h1
  rw [Array.toArray_toList] at h3
  exact ⟨a, h3, h2⟩

theorem Tryd.own : ownKnob Tryd.prog.godebug = none := by kernel_rfl
theorem Tryd.laidOut : laidOutB Tryd.prog = true := by kernel_rfl
end Go.Proofs.YtdgibhndjdgllaaDoor
