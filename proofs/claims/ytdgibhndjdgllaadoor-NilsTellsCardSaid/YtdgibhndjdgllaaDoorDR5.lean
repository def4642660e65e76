/- Which registers are needed where each block begins and ends: the given statement of law 40, for all programs; the table of bits.TrailingZeros64 is tied to the text. -/
import Derived.Test.YtdgibhndjdgllaaDoorDF123
import Derived.Test.YtdgibhndjdgllaaDoorDR1
import Derived.SevenTiedAt
import Derived.Test.YtdgibhndjdgllaaDoorCards
set_option linter.unusedVariables false
set_option linter.unusedSimpArgs false

namespace Go.Proofs.YtdgibhndjdgllaaDoor
open Go.Ax Go.RowKit Go.ChangeShapes Go.WideShapes Go.ChangeAt
open Go.ChangeMaps (open_string shut_string)
set_option maxRecDepth 10000
set_option linter.unusedVariables false
namespace nilsTells
theorem params : Tryd.f5.params = #[25] := rfl

theorem tab_all : ∀ k : Fin 64, (deZ[(deJ (bitW k.val)).toNat]?) = some (k.val : Int) := by decide +kernel
theorem tab_at (k : Nat) (hk : k < 64) : deV[(deJ (bitW k)).toNat]? = some (.int .u8 k) := by
  have h := tab_all ⟨k, hk⟩
  simp only at h
  unfold deV
  rw [List.getElem?_map, h]; rfl
set_option maxRecDepth 100000 in
theorem lifted (os : Os) (started : os.Started) (H : Type) (enc : TypeId × Value → H) :
    ReturnsInHanded {} Tryd.checked os 5 .any (fun w args => (Rows.nilsTellsSpec.pre enc Tryd.prog Tryd.f5 [] false w args ∧ laidMetH Tryd.prog laidL w) ∧ sizedMet enc Tryd.prog Tryd.f5 (OpenSpec.ofChange Rows.nilsTellsSpec) false w args)
      (Rows.nilsTellsSpec.post enc Tryd.prog Tryd.f5 false true false false) := by
  refine returnsInHanded_of_change_and (C := Tryd.checked) (X := fun w _ => laidMetH Tryd.prog laidL w) (fun _ _ _ hh h => h.of_heap hh) Tryd.own started (by kernel_rfl) Tryd.func5
    (ChangeSpec.witness_shaped (enc := enc) (C := Tryd.checked) (os := os) (X := fun w _ => laidMetH Tryd.prog laidL w) false (World.doorLaid Tryd.prog 400 os) #[.agg #[.slice none 0 0, .int .i64 0, .slice none 0 0]] 8 rfl (World.shaped_of_RefB (by kernel_rfl) (by kernel_rfl)) (by kernel_rfl) (by kernel_rfl) (by kernel_rfl) (door_met os _)) ?_
  intro W base args ds gs before hval0 hW _ hsz0 hL _
  have hsz : (DataW.weightsEach Tryd.prog (Tryd.f5.params.toList ++ Rows.nilsTellsSpec.plain.varTypes Tryd.prog) (ds ++ gs)).all (· ≤ reachBytes) = true := hsz0
  have hval : ∀ (j : Nat) t v, Tryd.f5.params[j]? = some t → args[j]? = some v → Value.okWide Tryd.prog W .any base t v := hval0
  have hW' := hW
  obtain ⟨p, q, hA0, hV, rfl, hfz, hnd⟩ := hW
  have hA : DataW.TrodAll enc Tryd.prog W 0 (fun _ => true) true Tryd.f5.params.toList args.toList ds p := hA0
  rw [params] at hA hval hsz
  obtain ⟨v0, vs0, d0, ds0, p0, q0, hargs, rfl, rfl, h0, r0⟩ := trodAll_cons hA
  obtain ⟨rfl, rfl, rfl⟩ := trodAll_nil r0
  obtain rfl : args = #[v0] := by cases args; simp_all
  obtain ⟨rfl, rfl⟩ := trodVars_none hV
  have lt0 : ∀ x ∈ p0, x.block < W.heap.size := by obtain ⟨m, hm⟩ := h0; exact DataW.trod_lt m _ _ _ hm
  have w0 : Weighs Tryd.prog 25 d0 := fun n hn => by
    have := List.all_eq_true.1 hsz n (DataW.weights_mem_each (j := 0) (t := 25) (d := d0) rfl rfl n hn)
    simpa using this
  obtain ⟨a0, s0, l0⟩ := open_struct ty25 rfl opens_pro (hval 0 25 v0 rfl rfl) h0 w0
  have htab := laid_head hL
  have hblk : All W 0 := lt_cell (htab 0 _ rfl)
  refine (calls_tab 0 deV Tryd.func5 rfl rfl (NilsTells_run a0 l0.fits l0.light deV tab_at) (All W) W [v0] (fun _ h => h) hblk htab (.cons s0 .nil)).mono fun e W' ⟨r, hr, hfin⟩ => ?_
  obtain ⟨v, S, F, rfl, ho, _, _, _, _, _, bel⟩ := hfin
  subst hr
  cases ho with
  | std ho =>
    obtain rfl := ho.lit_inv
    exact ⟨_, rfl, _, _, _, [], _, [], hW', trodAll_mk1 (shut_bool Tryd.underlying4 _), (trodAll_cons_mk (Below.trod Tryd.laidOut (by kernel_rfl) (of_decide_eq_true (by kernel_rfl)) h0 bel lt0) trodAll_mk0), rfl, bel.frame _, fun h => by cases h⟩

theorem over : Rows.NilsTellsSaid :=
  OpenClaim.holds_of_wide 5 Tryd.f5 rfl rfl rfl rfl rfl rfl rfl ⟨rfl, rfl, rfl, rfl, rfl⟩ rfl rfl rfl rfl rfl (by kernel_rfl) Tryd.func5 (by kernel_rfl)
    (of_decide_eq_true (by kernel_rfl)) (by unfold Func.isWrapper; first | (rw [if_pos (by decide +kernel)]; kernel_rfl) | (rw [if_neg (by decide +kernel)]; exact ⟨rfl, rfl⟩))
    (fun os started H enc _ => lifted os started H enc)
end nilsTells
/-- The tied card. -/
theorem nilsTells_holds : Rows.NilsTellsCardSaid :=
  Claim7.holds_tied_plain_at .later [] [.data] true (true, "b3ba4815f4c016c688139c129959b3b2084e3480d9a93ff391be4233a6195e85") false
    nilsTells.over (fun _ h => by cases h) (by kernel_rfl) (fun _ h => by cases h) nilsTells_row_tie rfl ⟨rfl, rfl⟩ (by kernel_rfl) rfl
    (fun f fn hf hfn => by
      obtain rfl : f = 5 := Option.some.inj ((show Tryd.prog.funcNamed "balustrade/balustradelaw40.NilsTells" = some 5 by kernel_rfl).symm.trans hf) |>.symm
      obtain rfl : fn = Tryd.f5 := (Option.some.inj (Tryd.func5.symm.trans hfn)).symm
      exact ⟨by kernel_rfl, fun j t ht => by
        rw [nilsTells.params] at ht
        have hts : t ∈ [25] := by
          obtain ⟨hj, rfl⟩ := Array.getElem?_eq_some_iff.1 ht
          have := Array.getElem_mem hj
          simp
        simp only [List.mem_cons, List.not_mem_nil, or_false] at hts
        subst hts
        exact (show Tryd.prog.wantsStandIn 25 = false by kernel_rfl)⟩)
    (by kernel_rfl)
#print axioms nilsTells_holds
end Go.Proofs.YtdgibhndjdgllaaDoor
