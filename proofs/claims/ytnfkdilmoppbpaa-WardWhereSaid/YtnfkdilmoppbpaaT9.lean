/- Programs as they come in; the row WardWhere. -/
import Derived.Test.YtnfkdilmoppbpaaT8
import Derived.Test.YtnfkdilmoppbpaaRows
import Derived.WalkKit
import Derived.ProofKit
import Derived.OpenShut
import Derived.ShutString
import Derived.ChangeOld
import Derived.Below
import Derived.SizedLaws
namespace Go.Proofs.Ytnfkdilmoppbpaa
open Go.Ax Go.RowKit Go.ChangeShapes Go.WideShapes Go.ChangeAt
open Go.ChangeMaps (open_string shut_string)
set_option maxRecDepth 10000
set_option linter.unusedVariables false

/-- What is so of every program that comes in. -/
def Ins.low (i : Ins) : Prop := i.args.length * 8 ≤ reachBytes
def Fun.low (f : Fun) : Prop := f.name.size ≤ reachBytes ∧ f.regs.length * 8 ≤ reachBytes ∧ f.blocks.length * 24 ≤ reachBytes ∧ ∀ b ∈ f.blocks, b.length * 88 ≤ reachBytes ∧ ∀ i ∈ b, i.low
def Pro.low (p : Pro) : Prop := p.funcs.length * 80 ≤ reachBytes ∧ p.sites.length * 16 ≤ reachBytes ∧ ∀ f ∈ p.funcs, f.low

theorem opens_num : Opens Try.prog 3 int1 num64 := opens_int ty3 rfl
theorem opens_ints : Opens Try.prog 30 (fun l => [ints l]) (fun l : List Int => l.length * 8 ≤ reachBytes) :=
  (opens_slice ty30 rfl ty3 rfl (by decide) rfl (fun _ => rfl) opens_num).map id (fun _ => rfl) fun _ h => h.2
theorem opens_ins : Opens Try.prog 36 Ins.cs Ins.low :=
  (opens_struct ty36 rfl (by kernel_rfl) (opensF_cons ty3 rfl opens_num (opensF_cons ty3 rfl opens_num (opensF_cons ty3 rfl opens_num (opensF_cons ty3 rfl opens_num (opensF_cons ty3 rfl opens_num
    (opensF_cons ty3 rfl opens_num (opensF_cons ty3 rfl opens_num (opensF_cons ty3 rfl opens_num (opensF_cons ty30 rfl opens_ints opensF_nil)))))))))).map
    (fun t => ⟨t.1, t.2.1, t.2.2.1, t.2.2.2.1, t.2.2.2.2.1, t.2.2.2.2.2.1, t.2.2.2.2.2.2.1, t.2.2.2.2.2.2.2.1, t.2.2.2.2.2.2.2.2.1⟩) (fun _ => rfl) fun _ h => h.2.2.2.2.2.2.2.2.1
theorem opens_blk : Opens Try.prog 34 blk (fun b => b.length * 88 ≤ reachBytes ∧ ∀ i ∈ b, i.low) :=
  (opens_slice ty34 rfl ty36 rfl (by decide) rfl (fun _ => rfl) opens_ins).map id (fun _ => rfl) fun _ h => ⟨h.2, h.1⟩
theorem opens_fun : Opens Try.prog 33 Fun.cs Fun.low :=
  (opens_struct ty33 rfl (by kernel_rfl) (opensF_cons ty9 rfl (opens_string ty9 rfl) (opensF_cons ty3 rfl opens_num (opensF_cons ty3 rfl opens_num (opensF_cons ty30 rfl opens_ints
    (opensF_cons ty31 rfl (opens_slice ty31 rfl ty34 rfl (by decide) rfl (fun _ => rfl) opens_blk) opensF_nil)))))).map
    (fun t => ⟨t.1, t.2.1, t.2.2.1, t.2.2.2.1, t.2.2.2.2.1⟩) (fun _ => rfl) fun _ h => ⟨h.1, h.2.2.2.1, h.2.2.2.2.1.2, h.2.2.2.2.1.1⟩
theorem opens_site : Opens Try.prog 85 site (fun _ => True) :=
  (opens_struct ty85 rfl (by kernel_rfl) (opensF_cons ty3 rfl opens_num (opensF_cons ty3 rfl opens_num opensF_nil))).map (fun t => (t.1, t.2.1)) (fun _ => rfl) fun _ _ => trivial
theorem opens_pro : Opens Try.prog 25 Pro.cs Pro.low :=
  (opens_struct ty25 rfl (by kernel_rfl) (opensF_cons ty22 rfl (opens_slice ty22 rfl ty33 rfl (by decide) rfl (fun _ => rfl) opens_fun) (opensF_cons ty3 rfl opens_num
    (opensF_cons ty23 rfl (opens_slice ty23 rfl ty85 rfl (by decide) rfl (fun _ => rfl) opens_site) opensF_nil)))).map
    (fun t => ⟨t.1, t.2.1, t.2.2.1⟩) (fun _ => rfl) fun _ h => ⟨h.1.2, h.2.2.1.2, h.1.1⟩

theorem Pro.low.fits {p : Pro} (h : p.low) : p.fits := by
  have hr := reachBytes_lt
  obtain ⟨h1, h2, h3⟩ := h
  refine ⟨by omega, by omega, fun f hf => ?_⟩
  obtain ⟨_, g1, g2, g3⟩ := h3 f hf
  refine ⟨by omega, by omega, fun b hb => ?_⟩
  obtain ⟨k1, k2⟩ := g3 b hb
  refine ⟨by omega, fun i hi => ?_⟩
  have := k2 i hi
  unfold Ins.low at this
  omega

theorem Pro.low.light {p : Pro} (h : p.low) : p.light := by
  have hr := reachBytes_lt
  intro f hf hb
  obtain ⟨_, _, _, g3⟩ := h.2.2 f hf
  have key : ∀ l : List (List Ins), (∀ b ∈ l, b.length * 88 ≤ reachBytes) → (l.map List.length).sum ≤ l.length * 10000000000000 := by
    intro l
    induction l with
    | nil => simp
    | cons b l ih =>
      intro h
      have h1 := h b (List.mem_cons_self ..)
      have h2 := ih fun g hg => h g (List.mem_cons_of_mem _ hg)
      simp only [List.map_cons, List.sum_cons, List.length_cons, Nat.add_mul]; omega
  have := key f.blocks fun b hb => (g3 b hb).1
  have h4 : f.blocks.length * 10000000000000 ≤ 1000 * 10000000000000 := Nat.mul_le_mul_right _ hb
  unfold Fun.count; omega

/-- An argument's struct, opened. -/
theorem open_struct {P : Program} {H : Type} {enc : TypeId × Value → H} {w : World} {t : Nat} {fs : List (Nat × Nat)} {i : TyI} {α : Type} {en : α → List AV} {ok : α → Prop} (ht : TyOK P t i) (hd : i.td = .agg fs) (ho : Opens P t en ok) {v : Value} {d : DataW H} {p : List MemPlace}
    {b0 : Nat} (hval : Value.okWide P w .any b0 t v) (h : DataW.Trod enc P w 0 (fun _ => true) true t v d p) (hw : Weighs P t d) : ∃ a, Std (All w) w (.v (.agg (en a)) v) ∧ ok a := by
  obtain ⟨fuel, hf⟩ := h
  obtain ⟨hd2, _⟩ := ht
  rw [hd] at hd2
  obtain ⟨fields, hu, _⟩ := hd2
  obtain ⟨cs, rfl, _⟩ := okWide_struct hu hval
  obtain ⟨a, h1, h2⟩ := ho H enc w fuel _ _ hf hw
  have h3 := Std.agg h1
  rw [Array.toArray_toList] at h3
  exact ⟨a, h3, h2⟩

namespace wardWhere
theorem own : ownKnob Try.prog.godebug = none := by kernel_rfl
theorem laidOut : laidOutB Try.prog = true := by kernel_rfl
theorem params3 : Try.f3.params = #[25, 3] := rfl

set_option maxRecDepth 100000 in
theorem lifted (os : Os) (started : os.Started) (H : Type) (enc : TypeId × Value → H) :
    ReturnsInHanded {} Try.checked os 3 .any (Rows.wardWhereSpec.pre6 enc Try.prog Try.f3 Rows.wardWhereRow.domain false) (Rows.wardWhereSpec.post enc Try.prog Try.f3 false true false false) := by
  refine returnsInHanded_of_change_sized (C := Try.checked) own started (by kernel_rfl) Try.func3
    (ChangeSpec.witness6 (enc := enc) (C := Try.checked) false ⟨#[], #[.agg #[.slice none 0 0, .int .i64 0, .slice none 0 0], .int .i64 0], []⟩ 8 (by kernel_rfl) (by kernel_rfl) (by kernel_rfl) (by kernel_rfl)) ?_
  intro W base args ds gs before hval0 hW hcnd hsz0 _
  have hsz : (DataW.weightsEach Try.prog (Try.f3.params.toList ++ Rows.wardWhereSpec.plain.varTypes Try.prog) (ds ++ gs)).all (· ≤ reachBytes) = true := hsz0
  have hval : ∀ (j : Nat) t v, Try.f3.params[j]? = some t → args[j]? = some v → Value.okWide Try.prog W .any base t v := hval0
  have hW' := hW
  obtain ⟨p, q, hA0, hV, rfl, hfz, hnd⟩ := hW
  have hA : DataW.TrodAll enc Try.prog W 0 (fun _ => true) true Try.f3.params.toList args.toList ds p := hA0
  rw [params3] at hA hval hsz
  obtain ⟨v0, vs0, d0, ds0, p0, q0, hargs, rfl, rfl, h0, r0⟩ := trodAll_cons hA
  obtain ⟨v1, vs1, d1, ds1, p1, q1, rfl, rfl, rfl, h1, r1⟩ := trodAll_cons r0
  obtain ⟨rfl, rfl, rfl⟩ := trodAll_nil r1
  obtain rfl : args = #[v0, v1] := by cases args; simp_all
  obtain ⟨rfl, rfl⟩ := trodVars_none hV
  have lt0 : ∀ x ∈ p0, x.block < W.heap.size := by obtain ⟨m, hm⟩ := h0; exact DataW.trod_lt m _ _ _ hm
  have lt1 : ∀ x ∈ p1, x.block < W.heap.size := by obtain ⟨m, hm⟩ := h1; exact DataW.trod_lt m _ _ _ hm
  have w0 : Weighs Try.prog 25 d0 := fun n hn => by
    have := List.all_eq_true.1 hsz n (DataW.weights_mem_each (j := 0) (t := 25) (d := d0) rfl rfl n hn)
    simpa using this
  obtain ⟨pr, hpr, hlow⟩ := open_struct ty25 rfl opens_pro (hval 0 25 v0 rfl rfl) h0 w0
  obtain ⟨site, rfl, rfl, _⟩ := open_int Try.underlying3 (hval 1 3 v1 rfl rfl) h1
  refine (WardWhere_good pr site hlow.fits hlow.light (All W) W [v0, .int .i64 site] (fun _ h => h) (.cons hpr (.cons (.lit _) .nil))).mono fun e W' ⟨r, hr, hfin⟩ => ?_
  obtain ⟨v, S, F, rfl, ho, _, _, _, _, _, bel⟩ := hfin
  subst hr
  cases ho with
  | std ho =>
    obtain rfl := ho.lit_inv
    exact ⟨_, rfl, _, _, _, [], _, [], hW', trodAll_mk1 (shut_bool Try.underlying4 _), (trodAll_cons_mk (Below.trod laidOut (by kernel_rfl) (of_decide_eq_true (by kernel_rfl)) h0 bel lt0) (trodAll_cons_mk (Below.trod laidOut (by kernel_rfl) (of_decide_eq_true (by kernel_rfl)) h1 bel lt1) trodAll_mk0)), rfl, bel.frame _, fun h => by cases h⟩

theorem over : Rows.wardWhereRow.holds Try.pinned (OpenSpec.ofChange Rows.wardWhereSpec) :=
  OpenClaim.holds_of_wide 3 Try.f3 rfl rfl rfl rfl rfl rfl rfl ⟨rfl, rfl, rfl, rfl, rfl⟩ rfl rfl rfl rfl rfl (by kernel_rfl) Try.func3 (by kernel_rfl)
    (of_decide_eq_true (by kernel_rfl)) (by unfold Func.isWrapper; first | (rw [if_pos (by decide +kernel)]; kernel_rfl) | (rw [if_neg (by decide +kernel)]; exact ⟨rfl, rfl⟩))
    (fun os started H enc _ => lifted os started H enc)
end wardWhere
theorem wardWhere_holds : Rows.WardWhereSaid := wardWhere.over
#print axioms wardWhere_holds
end Go.Proofs.Ytnfkdilmoppbpaa
