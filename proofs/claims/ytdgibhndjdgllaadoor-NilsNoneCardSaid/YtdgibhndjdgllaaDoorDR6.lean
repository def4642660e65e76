/- What is no place, no name, or no block that is reached, is not known, and neither is anything of Facts that no call made: the given statement of law 40, for all programs and numbers; the table of bits.TrailingZeros64 is tied to the text. -/
import Derived.Test.YtdgibhndjdgllaaDoorDF134
import Derived.Test.YtdgibhndjdgllaaDoorDR1
import Derived.SevenTiedAt
import Derived.Test.YtdgibhndjdgllaaDoorCards
set_option linter.unusedVariables false
set_option linter.unusedSimpArgs false

namespace Go.Proofs.YtdgibhndjdgllaaDoor
open Go.Ax Go.RowKit Go.ChangeShapes Go.WideShapes Go.ChangeAt
open Go.ChangeMaps (open_string shut_string)
set_option maxRecDepth 10000
set_option linter.unusedVariables false
namespace nilsNone
theorem tab_all2 : ∀ k : Fin 64, (deZ[(deJ (bitW k.val)).toNat]?) = some (k.val : Int) := by decide +kernel
theorem tab_at2 (k : Nat) (hk : k < 64) : deV[(deJ (bitW k)).toNat]? = some (.int .u8 k) := by
  have h := tab_all2 ⟨k, hk⟩
  simp only at h
  unfold deV
  rw [List.getElem?_map, h]; rfl
/-- What comes in, with the numbers' range. -/
theorem opens_ins2 : Opens Tryd.prog 63 Ins.cs (fun i => i.low ∧ num64 i.a) :=
  (opens_struct ty63 rfl (by kernel_rfl) (opensF_cons ty3 rfl opens_num (opensF_cons ty3 rfl opens_num (opensF_cons ty3 rfl opens_num (opensF_cons ty3 rfl opens_num (opensF_cons ty3 rfl opens_num
    (opensF_cons ty3 rfl opens_num (opensF_cons ty3 rfl opens_num (opensF_cons ty3 rfl opens_num (opensF_cons ty28 rfl opens_ints opensF_nil)))))))))).map
    (fun t => ⟨t.1, t.2.1, t.2.2.1, t.2.2.2.1, t.2.2.2.2.1, t.2.2.2.2.2.1, t.2.2.2.2.2.2.1, t.2.2.2.2.2.2.2.1, t.2.2.2.2.2.2.2.2.1⟩) (fun _ => rfl) fun _ h => ⟨h.2.2.2.2.2.2.2.2.1, h.2.2.1⟩
theorem opens_blk2 : Opens Tryd.prog 38 blk (fun b => b.length * 88 ≤ reachBytes ∧ ∀ i ∈ b, i.low ∧ num64 i.a) :=
  (opens_slice ty38 rfl ty63 rfl (by decide) rfl (fun _ => rfl) opens_ins2).map id (fun _ => rfl) fun _ h => ⟨h.2, h.1⟩
theorem opens_fun2 : Opens Tryd.prog 31 Fun.cs (fun f => f.low ∧ f.numA) :=
  (opens_struct ty31 rfl (by kernel_rfl) (opensF_cons ty9 rfl (opens_string ty9 rfl) (opensF_cons ty3 rfl opens_num (opensF_cons ty3 rfl opens_num (opensF_cons ty28 rfl opens_ints
    (opensF_cons ty29 rfl (opens_slice ty29 rfl ty38 rfl (by decide) rfl (fun _ => rfl) opens_blk2) opensF_nil)))))).map
    (fun t => ⟨t.1, t.2.1, t.2.2.1, t.2.2.2.1, t.2.2.2.2.1⟩) (fun _ => rfl) fun _ h => ⟨⟨h.1, h.2.2.2.1, h.2.2.2.2.1.2, fun b hb => ⟨(h.2.2.2.2.1.1 b hb).1, fun i hi => ((h.2.2.2.2.1.1 b hb).2 i hi).1⟩⟩, fun b hb i hi => ((h.2.2.2.2.1.1 b hb).2 i hi).2⟩
theorem opens_pro2 : Opens Tryd.prog 25 Pro.cs (fun p => p.low ∧ p.numA) :=
  (opens_struct ty25 rfl (by kernel_rfl) (opensF_cons ty22 rfl (opens_slice ty22 rfl ty31 rfl (by decide) rfl (fun _ => rfl) opens_fun2) (opensF_cons ty3 rfl opens_num
    (opensF_cons ty23 rfl (opens_slice ty23 rfl ty153 rfl (by decide) rfl (fun _ => rfl) opens_site) opensF_nil)))).map
    (fun t => ⟨t.1, t.2.1, t.2.2.1⟩) (fun _ => rfl) fun _ h => ⟨⟨h.1.2, h.2.2.1.2, fun f hf => (h.1.1 f hf).1⟩, fun f hf => (h.1.1 f hf).2⟩
theorem params : Tryd.f6.params = #[25, 3, 3, 3] := rfl

set_option maxRecDepth 100000 in
theorem lifted (os : Os) (started : os.Started) (H : Type) (enc : TypeId × Value → H) :
    ReturnsInHanded {} Tryd.checked os 6 .any (fun w args => (Rows.nilsNoneSpec.pre enc Tryd.prog Tryd.f6 [] false w args ∧ laidMetH Tryd.prog laidL w) ∧ sizedMet enc Tryd.prog Tryd.f6 (OpenSpec.ofChange Rows.nilsNoneSpec) false w args)
      (Rows.nilsNoneSpec.post enc Tryd.prog Tryd.f6 false true false false) := by
  refine returnsInHanded_of_change_and (C := Tryd.checked) (X := fun w _ => laidMetH Tryd.prog laidL w) (fun _ _ _ hh h => h.of_heap hh) Tryd.own started (by kernel_rfl) Tryd.func6
    (ChangeSpec.witness_shaped (enc := enc) (C := Tryd.checked) (os := os) (X := fun w _ => laidMetH Tryd.prog laidL w) false (World.doorLaid Tryd.prog 400 os) #[.agg #[.slice none 0 0, .int .i64 0, .slice none 0 0], .int .i64 0, .int .i64 0, .int .i64 0] 8 rfl (World.shaped_of_RefB (by kernel_rfl) (by kernel_rfl)) (by kernel_rfl) (by kernel_rfl) (by kernel_rfl) (door_met os _)) ?_
  intro W base args ds gs before hval0 hW _ hsz0 hL _
  have hsz : (DataW.weightsEach Tryd.prog (Tryd.f6.params.toList ++ Rows.nilsNoneSpec.plain.varTypes Tryd.prog) (ds ++ gs)).all (· ≤ reachBytes) = true := hsz0
  have hval : ∀ (j : Nat) t v, Tryd.f6.params[j]? = some t → args[j]? = some v → Value.okWide Tryd.prog W .any base t v := hval0
  have hW' := hW
  obtain ⟨p, q, hA0, hV, rfl, hfz, hnd⟩ := hW
  have hA : DataW.TrodAll enc Tryd.prog W 0 (fun _ => true) true Tryd.f6.params.toList args.toList ds p := hA0
  rw [params] at hA hval hsz
  obtain ⟨v0, vs0, d0, ds0, p0, q0, hargs, rfl, rfl, h0, r0⟩ := trodAll_cons hA
  obtain ⟨v1, vs1, d1, ds1, p1, q1, rfl, rfl, rfl, h1, r1⟩ := trodAll_cons r0
  obtain ⟨v2, vs2, d2, ds2, p2, q2, rfl, rfl, rfl, h2, r2⟩ := trodAll_cons r1
  obtain ⟨v3, vs3, d3, ds3, p3, q3, rfl, rfl, rfl, h3, r3⟩ := trodAll_cons r2
  obtain ⟨rfl, rfl, rfl⟩ := trodAll_nil r3
  obtain rfl : args = #[v0, v1, v2, v3] := by cases args; simp_all
  obtain ⟨rfl, rfl⟩ := trodVars_none hV
  have lt0 : ∀ x ∈ p0, x.block < W.heap.size := by obtain ⟨m, hm⟩ := h0; exact DataW.trod_lt m _ _ _ hm
  have lt1 : ∀ x ∈ p1, x.block < W.heap.size := by obtain ⟨m, hm⟩ := h1; exact DataW.trod_lt m _ _ _ hm
  have lt2 : ∀ x ∈ p2, x.block < W.heap.size := by obtain ⟨m, hm⟩ := h2; exact DataW.trod_lt m _ _ _ hm
  have lt3 : ∀ x ∈ p3, x.block < W.heap.size := by obtain ⟨m, hm⟩ := h3; exact DataW.trod_lt m _ _ _ hm
  have w0 : Weighs Tryd.prog 25 d0 := fun n hn => by
    have := List.all_eq_true.1 hsz n (DataW.weights_mem_each (j := 0) (t := 25) (d := d0) rfl rfl n hn)
    simpa using this
  obtain ⟨a0, s0, l0⟩ := open_struct ty25 rfl opens_pro2 (hval 0 25 v0 rfl rfl) h0 w0
  obtain ⟨a1, rfl, rfl, l1⟩ := open_int Tryd.underlying3 (hval 1 3 v1 rfl rfl) h1
  obtain ⟨a2, rfl, rfl, l2⟩ := open_int Tryd.underlying3 (hval 2 3 v2 rfl rfl) h2
  obtain ⟨a3, rfl, rfl, l3⟩ := open_int Tryd.underlying3 (hval 3 3 v3 rfl rfl) h3
  have l4 : num64 a3 := by
    have hw := l3.2
    simp [Lit.wf, IntKind.min, IntKind.max, IntKind.signed, IntKind.bits] at hw
    unfold num64; omega
  have htab := laid_head hL
  have hblk : All W 0 := lt_cell (htab 0 _ rfl)
  refine (calls_tab 0 deV Tryd.func6 rfl rfl (NilsNone_run a0 l0.1.fits l0.1.light l0.2 a1 a2 a3 l4 deV tab_at2) (All W) W [v0, .int .i64 a1, .int .i64 a2, .int .i64 a3] (fun _ h => h) hblk htab (.cons s0 (.cons (.lit _) (.cons (.lit _) (.cons (.lit _) .nil))))).mono fun e W' ⟨r, hr, hfin⟩ => ?_
  obtain ⟨v, S, F, rfl, ho, _, _, _, _, _, bel⟩ := hfin
  subst hr
  cases ho with
  | std ho =>
    obtain rfl := ho.lit_inv
    exact ⟨_, rfl, _, _, _, [], _, [], hW', trodAll_mk1 (shut_bool Tryd.underlying4 _), (trodAll_cons_mk (Below.trod Tryd.laidOut (by kernel_rfl) (of_decide_eq_true (by kernel_rfl)) h0 bel lt0) (trodAll_cons_mk (Below.trod Tryd.laidOut (by kernel_rfl) (of_decide_eq_true (by kernel_rfl)) h1 bel lt1) (trodAll_cons_mk (Below.trod Tryd.laidOut (by kernel_rfl) (of_decide_eq_true (by kernel_rfl)) h2 bel lt2) (trodAll_cons_mk (Below.trod Tryd.laidOut (by kernel_rfl) (of_decide_eq_true (by kernel_rfl)) h3 bel lt3) trodAll_mk0)))), rfl, bel.frame _, fun h => by cases h⟩

theorem over : Rows.NilsNoneSaid :=
  OpenClaim.holds_of_wide 6 Tryd.f6 rfl rfl rfl rfl rfl rfl rfl ⟨rfl, rfl, rfl, rfl, rfl⟩ rfl rfl rfl rfl rfl (by kernel_rfl) Tryd.func6 (by kernel_rfl)
    (of_decide_eq_true (by kernel_rfl)) (by unfold Func.isWrapper; first | (rw [if_pos (by decide +kernel)]; kernel_rfl) | (rw [if_neg (by decide +kernel)]; exact ⟨rfl, rfl⟩))
    (fun os started H enc _ => lifted os started H enc)
end nilsNone
/-- The tied card. -/
theorem nilsNone_holds : Rows.NilsNoneCardSaid :=
  Claim7.holds_tied_plain_at .later [] [.data] true (true, "b3ba4815f4c016c688139c129959b3b2084e3480d9a93ff391be4233a6195e85") false
    nilsNone.over (fun _ h => by cases h) (by kernel_rfl) (fun _ h => by cases h) nilsNone_row_tie rfl ⟨rfl, rfl⟩ (by kernel_rfl) rfl
    (fun f fn hf hfn => by
      obtain rfl : f = 6 := Option.some.inj ((show Tryd.prog.funcNamed "balustrade/balustradelaw40.NilsNone" = some 6 by kernel_rfl).symm.trans hf) |>.symm
      obtain rfl : fn = Tryd.f6 := (Option.some.inj (Tryd.func6.symm.trans hfn)).symm
      exact ⟨by kernel_rfl, fun j t ht => by
        rw [nilsNone.params] at ht
        have hts : t ∈ [25, 3, 3, 3] := by
          obtain ⟨hj, rfl⟩ := Array.getElem?_eq_some_iff.1 ht
          have := Array.getElem_mem hj
          simp
        simp only [List.mem_cons, List.not_mem_nil, or_false] at hts
        rcases hts with rfl | rfl | rfl | rfl
        · exact (show Tryd.prog.wantsStandIn 25 = false by kernel_rfl)
        · exact (show Tryd.prog.wantsStandIn 3 = false by kernel_rfl)
        · exact (show Tryd.prog.wantsStandIn 3 = false by kernel_rfl)
        · exact (show Tryd.prog.wantsStandIn 3 = false by kernel_rfl)⟩)
    (by kernel_rfl)
#print axioms nilsNone_holds
end Go.Proofs.YtdgibhndjdgllaaDoor
