/- A tidy function, as the program reckons it. No program is in sight here. -/
import Derived.Test.YtnfkdilmoppbpaaPG08
import Derived.Test.YtnfkdilmoppbpaaPG06
import Derived.Test.YtnfkdilmoppbpaaPG03
import Derived.Test.YtnfkdilmoppbpaaPTy2
import Derived.Test.YtnfkdilmoppbpaaPG05
set_option linter.unusedVariables false
set_option linter.unusedSimpArgs false

namespace Go.Proofs.Ytnfkdilmoppbpaa
open Go.Ax
def fitI (n : Nat) (q : List Int) (i : Ins) : Bool := !(decide (i.op = 44) && decide (i.args.length ≠ q.length)) && (targetsF i).all fun t => decide (t < (n : Int))
/-- Do blocks go to blocks, and have phis their args? -/
def fitsB (f : Fun) (p : List (List Int)) : Bool := (f.blocks.zip p).all fun x => x.1.all (fitI f.blocks.length x.2)
def keptA (m q args : List Int) : List Int := ((q.zip args).filter fun x => decide (0 ≤ m.getD x.1.toNat 0)).map Prod.snd
def movedN (i : Ins) (m : List Int) : Int := match targetsF i with
  | t :: _ => m.getD t.toNat 0
  | [] => i.n
def movedM (i : Ins) (m : List Int) : Int := match targetsF i with
  | _ :: u :: _ => m.getD u.toNat 0
  | _ => i.m
/-- An instruction with the blocks' new numbers. -/
def movedF (i : Ins) (q m : List Int) : Ins := { i with n := movedN i m, m := movedM i m, args := if i.op = 44 then keptA m q i.args else i.args }
def tidyTo (f : Fun) (p : List (List Int)) (m : List Int) : Nat → List (List Ins)
  | 0 => []
  | k + 1 => tidyTo f p m k ++ if 0 ≤ m.getD k 0 then [(f.blocks.getD k []).map fun i => movedF i (p.getD k []) m] else []
noncomputable def tidyF (f : Fun) : Fun := { f with blocks := tidyTo f (predsF (succsF f)) (mapF f) f.blocks.length }
noncomputable def tidyR (f : Fun) : List AV := if fitsB f (predsF (succsF f)) then (tidyF f).ocs else f.cs
theorem tidyTo_len (f : Fun) (p : List (List Int)) (m : List Int) : ∀ k, (tidyTo f p m k).length ≤ k
  | 0 => by simp [tidyTo]
  | k + 1 => by
    have := tidyTo_len f p m k
    simp only [tidyTo, List.length_append]
    split <;> simp <;> omega
theorem keptA_app {m q args : List Int} {j : Nat} {x a : Int} (hq : q[j]? = some x) (ha : args[j]? = some a) :
    keptA m (q.take (j + 1)) (args.take (j + 1)) = keptA m (q.take j) (args.take j) ++ if 0 ≤ m.getD x.toNat 0 then [a] else [] := by
  unfold keptA
  have hj1 := (List.getElem?_eq_some_iff.1 hq).1
  have hj2 := (List.getElem?_eq_some_iff.1 ha).1
  rw [take_succ hq, take_succ ha, List.zip_append (by rw [List.length_take, List.length_take]; omega), List.filter_append, List.map_append]
  congr 1
  by_cases h : 0 ≤ m.getD x.toNat 0
  · rw [if_pos h]; simp at h; simp [h]
  · rw [if_neg h]; simp at h; simp; omega
theorem keptA_len (m q args : List Int) : (keptA m q args).length ≤ args.length := by
  unfold keptA
  rw [List.length_map]
  have := List.length_filter_le (fun x : Int × Int => decide (0 ≤ m.getD x.1.toNat 0)) (q.zip args)
  rw [List.length_zip] at this
  omega
end Go.Proofs.Ytnfkdilmoppbpaa

/- Where nothing is wrong, blocks go to blocks. No program is in sight here. -/
namespace Go.Proofs.Ytnfkdilmoppbpaa
open Go.Ax
theorem proP.right {p : Pro} {f : Fun} (h : proP p) (hf : f ∈ p.funcs) : ∀ b ∈ f.blocks, ∀ i ∈ b, right15 i = true := by
  intro b hb i hi
  obtain ⟨k, gb⟩ := List.getElem?_of_mem hb
  obtain ⟨j, gi⟩ := List.getElem?_of_mem hi
  exact (((h.2.2.2 f hf).2 k b gb).2 j i gi).1.1
theorem proP.fit {p : Pro} {f : Fun} (h : proP p) (hf : f ∈ p.funcs) : fitsB f (predsF (succsF f)) = true := by
  unfold fitsB
  rw [List.all_eq_true]
  rintro ⟨b, q⟩ hx
  obtain ⟨k, hk⟩ := List.getElem?_of_mem hx
  rw [List.getElem?_zip_eq_some] at hk
  obtain ⟨gb, gq⟩ := hk
  have hkl := (List.getElem?_eq_some_iff.1 gb).1
  have hq : q = predOf (succsF f) k (succsF f).length := by
    unfold predsF at gq
    rw [List.getElem?_map, List.getElem?_range (by rw [succsF_len]; exact hkl)] at gq
    exact (Option.some.inj gq).symm
  rw [List.all_eq_true]
  intro i hi
  obtain ⟨j, gi⟩ := List.getElem?_of_mem hi
  have h1 := ((h.2.2.2 f hf).2 k b gb).2 j i gi
  unfold fitI
  rw [Bool.and_eq_true]
  constructor
  · rw [Bool.not_eq_true', Bool.and_eq_false_iff, decide_eq_false_iff_not, decide_eq_false_iff_not]
    by_cases e : i.op = 44
    · right
      have h2 := h1.2.1.2.2.2.2.2 e
      rw [hq, predCount_len f k hkl]
      simp only [ne_eq, Decidable.not_not]
      omega
    · exact .inl e
  · rw [List.all_eq_true]
    intro t ht
    exact decide_eq_true (h1.2.1.2.2.1 t ht).2
theorem fzm (l : List Int) : AV.fzLL (l.map int1) = l.map int1 := fzLL_map (enc2 := int1) (fun _ => rfl) l
theorem fz_iocs (i : Ins) : AV.fzL i.ocs = i.cs := by
  show [_, _, _, _, _, _, _, _, AV.sl false 1 (AV.fzLL (i.args.map int1))] = _
  rw [fzm]; rfl
theorem fz_oblk (b : List Ins) : AV.fzL (oblk b) = blk b := by
  show AV.sl false 9 (AV.fzLL (b.map Ins.ocs)) :: _ = _
  rw [fzLL_map fz_iocs]; rfl
theorem fz_focs (f : Fun) : AV.fzL f.ocs = f.cs := by
  show [_, _, _, AV.sl false 1 (AV.fzLL (f.regs.map int1)), AV.sl false 1 (AV.fzLL (f.blocks.map oblk))] = _
  rw [fzm, fzLL_map fz_oblk]; rfl
theorem tidyR_fit {f : Fun} (h : fitsB f (predsF (succsF f)) = true) : tidyR f = (tidyF f).ocs := by unfold tidyR; rw [if_pos h]
theorem fz_site (s : Int × Int) : AV.fzL (site s) = site s := rfl
theorem tidyTo_mem (f : Fun) (p : List (List Int)) (m : List Int) : ∀ (k : Nat), ∀ c ∈ tidyTo f p m k, ∃ (n : Nat) (b : List Ins), n < k ∧ c = b.map (fun i => movedF i (p.getD n []) m) ∧ b = f.blocks.getD n []
  | 0, c, h => by simp [tidyTo] at h
  | k + 1, c, h => by
    simp only [tidyTo, List.mem_append] at h
    rcases h with h | h
    · obtain ⟨n, b, h1, h2, h3⟩ := tidyTo_mem f p m k c h
      exact ⟨n, b, by omega, h2, h3⟩
    · split at h
      · simp only [List.mem_singleton] at h
        exact ⟨k, _, by omega, h, rfl⟩
      · simp at h
/-- A tidy function is no greater. -/
theorem tidyF_fits {f : Fun} (hf : f.fits) (hb : ∀ b ∈ f.blocks, b.length ≤ 1000000 ∧ ∀ i ∈ b, i.args.length ≤ 1000000) : (tidyF f).fits ∧ (tidyF f).blocks.length ≤ f.blocks.length ∧ ∀ b ∈ (tidyF f).blocks, b.length ≤ 1000000 ∧ ∀ i ∈ b, i.args.length ≤ 1000000 := by
  have h1 := tidyTo_len f (predsF (succsF f)) (mapF f) f.blocks.length
  have key : ∀ b ∈ (tidyF f).blocks, b.length ≤ 1000000 ∧ ∀ i ∈ b, i.args.length ≤ 1000000 := by
    intro c hc
    obtain ⟨n, b, hn, rfl, hbe⟩ := tidyTo_mem f _ _ _ c hc
    have hbm : b ∈ f.blocks := by rw [hbe, List.getD_eq_getElem?_getD, List.getElem?_eq_getElem hn]; exact List.getElem_mem hn
    refine ⟨by rw [List.length_map]; exact (hb b hbm).1, fun i hi => ?_⟩
    obtain ⟨x, hx, rfl⟩ := List.mem_map.1 hi
    have h2 := (hb b hbm).2 x hx
    show (if x.op = 44 then keptA _ _ x.args else x.args).length ≤ _
    split
    · have := keptA_len (mapF f) ((predsF (succsF f)).getD n []) x.args; omega
    · exact h2
  refine ⟨⟨?_, hf.2.1, fun b hb2 => ⟨?_, fun i hi => ?_⟩⟩, h1, key⟩
  · have := hf.1; show (tidyTo _ _ _ _).length < _; omega
  · have := (key b hb2).1; omega
  · have := (key b hb2).2 i hi; unfold Ins.fits; omega
end Go.Proofs.Ytnfkdilmoppbpaa

/- Where a register is not surely written. No program is in sight here. -/
namespace Go.Proofs.Ytnfkdilmoppbpaa
open Go.Ax
/-- One comes to a block without a register being written: w tells which blocks write it. -/
inductive Un (s : List (List Int)) (w : Nat → Bool) : Int → Prop
  | zero : Un s w 0
  | step {k : Nat} {t : Int} {l : List Int} : Un s w k → w k = false → s[k]? = some l → t ∈ l → Un s w t
/-- A list that grows: what stands in it is so, and what comes of the first a of them, and of the first c goals of the next one, stands in it. -/
structure UnL (s : List (List Int)) (w : Nat → Bool) (l : List Int) (a c : Nat) : Prop where
  is : ∀ x ∈ l, 0 ≤ x ∧ x < s.length ∧ Un s w x
  once : l.Nodup
  zero : (0 : Int) ∈ l
  shut : ∀ (b : Nat) (x : Int), b < a → l[b]? = some x → w x.toNat = false → ∀ r, s[x.toNat]? = some r → ∀ t ∈ r, t ∈ l
  part : ∀ (x : Int) (r : List Int), l[a]? = some x → s[x.toNat]? = some r → ∀ (d : Nat) (t : Int), d < c → r[d]? = some t → t ∈ l
theorem UnL.start {s : List (List Int)} {w : Nat → Bool} (h : s ≠ []) : UnL s w [0] 0 0 :=
  ⟨fun x hx => by rw [List.mem_singleton.1 hx]; have := List.length_pos_iff.2 h; exact ⟨by omega, by omega, .zero⟩, by simp, by simp, fun b x hb => by omega, fun x r _ _ d t hd => by omega⟩
theorem UnL.len {s : List (List Int)} {w : Nat → Bool} {l : List Int} {a c : Nat} (h : UnL s w l a c) : l.length ≤ s.length := by
  have h1 : (l.map Int.toNat).Nodup := by
    refine List.Pairwise.map _ ?_ (List.Pairwise.and_mem.1 h.once)
    rintro x y ⟨hx, hy, hne⟩ e
    have := h.is x hx
    have := h.is y hy
    omega
  have h2 : l.map Int.toNat ⊆ List.range s.length := by
    intro x hx
    obtain ⟨y, hy, rfl⟩ := List.mem_map.1 hx
    have := h.is y hy
    exact List.mem_range.2 (by omega)
  have := List.Nodup.length_le_of_subset h1 h2
  simpa using this
theorem UnL.skip {s : List (List Int)} {w : Nat → Bool} {l : List Int} {a c : Nat} {x : Int} (h : UnL s w l a c) (gx : l[a]? = some x) (hw : w x.toNat = true) : UnL s w l (a + 1) 0 := by
  refine ⟨h.is, h.once, h.zero, fun b y hb gy hy => ?_, fun _ _ _ _ d t hd => by omega⟩
  by_cases e : b = a
  · subst e; rw [gx] at gy; cases gy; rw [hw] at hy; cases hy
  · exact h.shut b y (by omega) gy hy
theorem UnL.row {s : List (List Int)} {w : Nat → Bool} {l : List Int} {a c : Nat} {x : Int} {r : List Int} (h : UnL s w l a c) (gx : l[a]? = some x) (gr : s[x.toNat]? = some r) (hc : r.length ≤ c) : UnL s w l (a + 1) 0 := by
  refine ⟨h.is, h.once, h.zero, fun b y hb gy hy q gq t ht => ?_, fun _ _ _ _ d t hd => by omega⟩
  by_cases e : b = a
  · subst e
    rw [gx] at gy; cases gy
    rw [gr] at gq; cases gq
    obtain ⟨d, hd⟩ := List.getElem?_of_mem ht
    have := (List.getElem?_eq_some_iff.1 hd).1
    exact h.part x r gx gr d t (by omega) hd
  · exact h.shut b y (by omega) gy hy q gq t ht
theorem UnL.old {s : List (List Int)} {w : Nat → Bool} {l : List Int} {a c : Nat} {x t : Int} {r : List Int} (h : UnL s w l a c) (gx : l[a]? = some x) (gr : s[x.toNat]? = some r) (gt : r[c]? = some t) (ht : t ∈ l) : UnL s w l a (c + 1) := by
  refine ⟨h.is, h.once, h.zero, h.shut, fun y q gy gq d u hd gu => ?_⟩
  by_cases e : d = c
  · subst e
    rw [gx] at gy; cases gy
    rw [gr] at gq; cases gq
    rw [gt] at gu; cases gu
    exact ht
  · exact h.part y q gy gq d u (by omega) gu
theorem UnL.new {s : List (List Int)} {w : Nat → Bool} {l : List Int} {a c : Nat} {x t : Int} {r : List Int} (hs : Closed s) (h : UnL s w l a c) (gx : l[a]? = some x) (hw : w x.toNat = false) (gr : s[x.toNat]? = some r) (gt : r[c]? = some t) (ht : t ∉ l) : UnL s w (l ++ [t]) a (c + 1) := by
  have hal := (List.getElem?_eq_some_iff.1 gx).1
  have htr := List.mem_of_getElem? gt
  have hx := h.is x (List.mem_of_getElem? gx)
  have hun : Un s w t := .step (k := x.toNat) (by rw [show ((x.toNat : Nat) : Int) = x by omega]; exact hx.2.2) hw gr htr
  have htb := hs r (List.mem_of_getElem? gr) t htr
  refine ⟨fun y hy => ?_, ?_, List.mem_append_left _ h.zero, fun b y hb gy hy q gq u hu => ?_, fun y q gy gq d u hd gu => ?_⟩
  · rcases List.mem_append.1 hy with hy | hy
    · exact h.is y hy
    · rw [List.mem_singleton.1 hy]; exact ⟨htb.1, htb.2, hun⟩
  · rw [List.nodup_append]
    refine ⟨h.once, by simp, fun y hy z hz => ?_⟩
    rw [List.mem_singleton.1 hz]
    intro e; subst e; exact ht hy
  · rw [List.getElem?_append_left (by omega)] at gy
    exact List.mem_append_left _ (h.shut b y hb gy hy q gq u hu)
  · rw [List.getElem?_append_left hal] at gy
    rw [gx] at gy; cases gy
    rw [gr] at gq; cases gq
    by_cases e : d = c
    · subst e; rw [gt] at gu; cases gu; exact List.mem_append_right _ (by simp)
    · exact List.mem_append_left _ (h.part x r gx gr d u (by omega) gu)
theorem UnL.end {s : List (List Int)} {w : Nat → Bool} {l : List Int} {a c : Nat} (h : UnL s w l a c) (ha : l.length ≤ a) (t : Int) : t ∈ l ↔ Un s w t := by
  refine ⟨fun ht => (h.is t ht).2.2, fun ht => ?_⟩
  induction ht with
  | zero => exact h.zero
  | @step k t r _ hw gr htr ih =>
    obtain ⟨b, gb⟩ := List.getElem?_of_mem ih
    have hb := (List.getElem?_eq_some_iff.1 gb).1
    exact h.shut b k (by omega) gb (by simpa using hw) r (by simpa using gr) t htr
end Go.Proofs.Ytnfkdilmoppbpaa

/- Where a register is not surely written, by a contract. -/
namespace Go.Proofs.Ytnfkdilmoppbpaa
open Go.Ax
set_option maxRecDepth 10000
set_option linter.unusedVariables false

def wroteB (f : Fun) (r : Int) (k : Nat) : Bool := wroteI (f.blocks.getD k []) (f.blocks.getD k []).length r
set_option maxHeartbeats 1000000 in
theorem Unsure_spec (f : Fun) (r : Int) (hf : f.fits) (hn : f.blocks.length ≤ 1000000) (h0 : f.blocks ≠ []) (hb : ∀ b ∈ f.blocks, b.length ≤ 1000000) :
    FnSpec Try.prog 135 [funA f, num r] (fun v => ∃ l : List Int, v = .osl 1 (l.map int1) ∧ l.length ≤ f.blocks.length ∧ ∀ t, t ∈ l ↔ f.params ≤ r ∧ Un (succsF f) (wroteB f r) t) := by
  have hcl := succsF_closed f
  have hsm := succsF_small f
  have hsl := succsF_len f
  refine spec_of 21 Try.func135 rfl rfl ?_
  repeat' first | refine Len.map ?_ | refine Len.nil ?_ | refine Len.cons ?_ | refine Br.t rfl ?_ | refine Br.f rfl ?_ | refine Fit.au ?_ | refine Need.au ?_ | refine Pick.map (by assumption) ?_ | refine Pick.mapI (by omega) (by assumption) ?_ | refine PickN.mk _ (by assumption) ?_ | refine PickN.mk _ rfl ?_ | refine PickN.au ?_ | refine App.au rfl ?_ | refine App.au (own_map (fun _ => rfl) _) ?_ | refine Both.mk ?_ ?_ | exact True.intro
  refine Br.d (fun h => ?_) (fun h => ?_)
  · repeat' first | refine Len.map ?_ | refine Len.nil ?_ | refine Len.cons ?_ | refine Br.t rfl ?_ | refine Br.f rfl ?_ | refine Fit.au ?_ | refine Need.au ?_ | refine Pick.map (by assumption) ?_ | refine Pick.mapI (by omega) (by assumption) ?_ | refine PickN.mk _ (by assumption) ?_ | refine PickN.mk _ rfl ?_ | refine PickN.au ?_ | refine App.au rfl ?_ | refine App.au (own_map (fun _ => rfl) _) ?_ | refine Both.mk ?_ ?_ | exact True.intro
    exact ⟨[], rfl, by simp, fun t => by simp; omega⟩
  repeat' first | refine Call.eq (Succs_spec f hf hn) rfl ?_ | refine Len.map ?_ | refine Len.nil ?_ | refine Len.cons ?_ | refine Br.t rfl ?_ | refine Br.f rfl ?_ | refine Fit.au ?_ | refine Need.au ?_ | refine Pick.map (by assumption) ?_ | refine Pick.mapI (by omega) (by assumption) ?_ | refine PickN.mk _ (by assumption) ?_ | refine PickN.mk _ rfl ?_ | refine PickN.au ?_ | refine App.au rfl ?_ | refine App.au (own_map (fun _ => rfl) _) ?_ | refine Both.mk ?_ ?_ | exact True.intro
  refine Stop.mk (run_frzR 1 rfl (fzLL_map fz_olsts _) ?_)
  have hne : succsF f ≠ [] := by intro e; rw [e] at hsl; exact h0 (List.eq_nil_of_length_eq_zero hsl.symm)
  generalize succsF f = s at *
  refine Run.fr (g := []) (tm' := [(2, .hp 0 0), (1, num r), (5, lsts s)]) (hp' := [(0, .var f.cs)]) (nx' := 1) ?_ ⟨rfl, (by repeat' first | exact trivial | refine ⟨rfl, ?_⟩ | refine ⟨congrArg (fun n => AV.lit (.int .i64 n)) (by omega), ?_⟩ | refine ⟨congrArg (fun l => some (Row.row 1 l)) (by simp [int1, num, tru]), ?_⟩), (by repeat' first | exact trivial | refine ⟨rfl, ?_⟩ | refine ⟨congrArg (fun n => AV.lit (.int .i64 n)) (by omega), ?_⟩ | refine ⟨congrArg (fun l => some (Row.row 1 l)) (by simp [int1, num, tru]), ?_⟩)⟩
  refine go 1000 Try.func135 ?_
  repeat' first | refine Len.map ?_ | refine Len.nil ?_ | refine Len.cons ?_ | refine Br.t rfl ?_ | refine Br.f rfl ?_ | refine Fit.au ?_ | refine Need.au ?_ | refine Pick.map (by assumption) ?_ | refine Pick.mapI (by omega) (by assumption) ?_ | refine PickN.mk _ (by assumption) ?_ | refine PickN.mk _ rfl ?_ | refine PickN.au ?_ | refine App.au rfl ?_ | refine App.au (own_map (fun _ => rfl) _) ?_ | refine Both.mk ?_ ?_ | exact True.intro
  refine Stop.mk (loop_in (g := []) (fun p : Nat × List Int => [(2, .hp 0 0), (1, num r), (5, lsts s), (6, .hw 1), (7, num p.1)]) (fun p => [(0, .var f.cs), (1, .row 1 (p.2.map int1))]) 2 (fun p => p.1 ≤ p.2.length ∧ UnL s (wroteB f r) p.2 p.1 0) (fun p => s.length - p.1) (0, [0]) ⟨by simp, .start hne⟩ ⟨rfl, (by repeat' first | exact trivial | refine ⟨rfl, ?_⟩ | refine ⟨congrArg (fun n => AV.lit (.int .i64 n)) (by omega), ?_⟩ | refine ⟨congrArg (fun l => some (Row.row 1 l)) (by simp [int1, num, tru]), ?_⟩), (by repeat' first | exact trivial | refine ⟨rfl, ?_⟩ | refine ⟨congrArg (fun n => AV.lit (.int .i64 n)) (by omega), ?_⟩ | refine ⟨congrArg (fun l => some (Row.row 1 l)) (by simp [int1, num, tru]), ?_⟩)⟩ (fun p hp ih => ?_))
  obtain ⟨a, l⟩ := p
  obtain ⟨ha, hU⟩ := hp
  dsimp only at ha hU ih ⊢
  have hll := hU.len
  refine go 1000 Try.func135 ?_
  repeat' first | refine Len.map ?_ | refine Len.nil ?_ | refine Len.cons ?_ | refine Br.t rfl ?_ | refine Br.f rfl ?_ | refine Fit.au ?_ | refine Need.au ?_ | refine Pick.map (by assumption) ?_ | refine Pick.mapI (by omega) (by assumption) ?_ | refine PickN.mk _ (by assumption) ?_ | refine PickN.mk _ rfl ?_ | refine PickN.au ?_ | refine App.au rfl ?_ | refine App.au (own_map (fun _ => rfl) _) ?_ | refine Both.mk ?_ ?_ | exact True.intro
  refine Br.d (fun h2 => ?_) (fun h2 => ?_)
  · obtain ⟨x, gx, gxm⟩ := getK (l := l) (k := a) (by omega)
    have hx := hU.is x gxm
    obtain ⟨y, rfl⟩ : ∃ y : Nat, x = (y : Int) := ⟨x.toNat, by omega⟩
    obtain ⟨b, gb, gbm⟩ := getK (l := f.blocks) (k := y) (by omega)
    obtain ⟨q, gq, gqm⟩ := getK (l := s) (k := y) (by omega)
    have hbb := hf.2.2 b gbm
    have hql := hsm q gqm
    have hw : wroteB f r y = wroteI b b.length r := by unfold wroteB; rw [List.getD_eq_getElem?_getD, gb]; rfl
    have hW := writes134_spec b b.length r (Nat.le_refl _) (by have := hb b gbm; omega) hbb.2
    repeat' first | refine Draw.mk (ordL [] [0, 1, 2, 3, 4, 5, 6, 7, 8]) (by decide +kernel) ?_ | refine Pick.map gx ?_ | refine Pick.map gb ?_ | refine Call.eq hW rfl ?_ | refine Len.map ?_ | refine Len.nil ?_ | refine Len.cons ?_ | refine Br.t rfl ?_ | refine Br.f rfl ?_ | refine Fit.au ?_ | refine Need.au ?_ | refine Pick.map (by assumption) ?_ | refine Pick.mapI (by omega) (by assumption) ?_ | refine PickN.mk _ (by assumption) ?_ | refine PickN.mk _ rfl ?_ | refine PickN.au ?_ | refine App.au rfl ?_ | refine App.au (own_map (fun _ => rfl) _) ?_ | refine Both.mk ?_ ?_ | exact True.intro
    refine Br.mk (fun h3 => ?_) (fun h3 => ?_)
    · repeat' first | refine Len.map ?_ | refine Len.nil ?_ | refine Len.cons ?_ | refine Br.t rfl ?_ | refine Br.f rfl ?_ | refine Fit.au ?_ | refine Need.au ?_ | refine Pick.map (by assumption) ?_ | refine Pick.mapI (by omega) (by assumption) ?_ | refine PickN.mk _ (by assumption) ?_ | refine PickN.mk _ rfl ?_ | refine PickN.au ?_ | refine App.au rfl ?_ | refine App.au (own_map (fun _ => rfl) _) ?_ | refine Both.mk ?_ ?_ | exact True.intro
      exact Stop.mk (ih (a + 1, l) (g := []) _ _ _ ⟨by simp only; omega, hU.skip gx (by rw [Int.toNat_natCast, hw]; exact h3)⟩ (by simp only; omega) ⟨rfl, (by repeat' first | exact trivial | refine ⟨rfl, ?_⟩ | refine ⟨congrArg (fun n => AV.lit (.int .i64 n)) (by omega), ?_⟩ | refine ⟨congrArg (fun l => some (Row.row 1 l)) (by simp [int1, num, tru]), ?_⟩), (by repeat' first | exact trivial | refine ⟨rfl, ?_⟩ | refine ⟨congrArg (fun n => AV.lit (.int .i64 n)) (by omega), ?_⟩ | refine ⟨congrArg (fun l => some (Row.row 1 l)) (by simp [int1, num, tru]), ?_⟩)⟩)
    · repeat' first | refine Len.map ?_ | refine Len.nil ?_ | refine Len.cons ?_ | refine Br.t rfl ?_ | refine Br.f rfl ?_ | refine Fit.au ?_ | refine Need.au ?_ | refine Pick.map (by assumption) ?_ | refine Pick.mapI (by omega) (by assumption) ?_ | refine PickN.mk _ (by assumption) ?_ | refine PickN.mk _ rfl ?_ | refine PickN.au ?_ | refine App.au rfl ?_ | refine App.au (own_map (fun _ => rfl) _) ?_ | refine Both.mk ?_ ?_ | exact True.intro
      refine Stop.mk (loop_in (g := []) (fun p : Nat × List Int => [(2, .hp 0 0), (1, num r), (5, lsts s), (6, .hw 1), (7, num a), (9, num p.1)]) (fun p => [(0, .var f.cs), (1, .row 1 (p.2.map int1))]) 2 (fun p => p.1 ≤ q.length ∧ p.2[a]? = some (y : Int) ∧ UnL s (wroteB f r) p.2 a p.1) (fun p => q.length - p.1) (0, l) ⟨by simp, gx, hU⟩ ⟨rfl, (by repeat' first | exact trivial | refine ⟨rfl, ?_⟩ | refine ⟨congrArg (fun n => AV.lit (.int .i64 n)) (by omega), ?_⟩ | refine ⟨congrArg (fun l => some (Row.row 1 l)) (by simp [int1, num, tru]), ?_⟩), (by repeat' first | exact trivial | refine ⟨rfl, ?_⟩ | refine ⟨congrArg (fun n => AV.lit (.int .i64 n)) (by omega), ?_⟩ | refine ⟨congrArg (fun l => some (Row.row 1 l)) (by simp [int1, num, tru]), ?_⟩)⟩ (fun p hp ih2 => ?_))
      obtain ⟨c, m⟩ := p
      obtain ⟨hc, gy, hV⟩ := hp
      dsimp only at hc gy hV ih2 ⊢
      have hml := hV.len
      have gqt : s[((y : Nat) : Int).toNat]? = some q := by rw [Int.toNat_natCast]; exact gq
      have ham := (List.getElem?_eq_some_iff.1 gy).1
      refine go 1000 Try.func135 ?_
      repeat' first | refine Pick.map gy ?_ | refine Pick.map gq ?_ | refine Len.map ?_ | refine Len.nil ?_ | refine Len.cons ?_ | refine Br.t rfl ?_ | refine Br.f rfl ?_ | refine Fit.au ?_ | refine Need.au ?_ | refine Pick.map (by assumption) ?_ | refine Pick.mapI (by omega) (by assumption) ?_ | refine PickN.mk _ (by assumption) ?_ | refine PickN.mk _ rfl ?_ | refine PickN.au ?_ | refine App.au rfl ?_ | refine App.au (own_map (fun _ => rfl) _) ?_ | refine Both.mk ?_ ?_ | exact True.intro
      refine Br.d (fun h4 => ?_) (fun h4 => ?_)
      · obtain ⟨t, gt, gtm⟩ := getK (l := q) (k := c) (by omega)
        repeat' first | refine Pick.map gy ?_ | refine Pick.map gq ?_ | refine Pick.map gt ?_ | refine Look.yes ?_ | refine View.map (fun _ => rfl) ?_ | refine CallV.eq (HasInt_spec m t (by omega)) rfl (Free.lit _) ?_ | refine Len.map ?_ | refine Len.nil ?_ | refine Len.cons ?_ | refine Br.t rfl ?_ | refine Br.f rfl ?_ | refine Fit.au ?_ | refine Need.au ?_ | refine Pick.map (by assumption) ?_ | refine Pick.mapI (by omega) (by assumption) ?_ | refine PickN.mk _ (by assumption) ?_ | refine PickN.mk _ rfl ?_ | refine PickN.au ?_ | refine App.au rfl ?_ | refine App.au (own_map (fun _ => rfl) _) ?_ | refine Both.mk ?_ ?_ | exact True.intro
        refine Br.nd (fun h5 => ?_) (fun h5 => ?_)
        · repeat' first | refine Pick.map gy ?_ | refine Pick.map gq ?_ | refine Pick.map gt ?_ | refine Len.map ?_ | refine Len.nil ?_ | refine Len.cons ?_ | refine Br.t rfl ?_ | refine Br.f rfl ?_ | refine Fit.au ?_ | refine Need.au ?_ | refine Pick.map (by assumption) ?_ | refine Pick.mapI (by omega) (by assumption) ?_ | refine PickN.mk _ (by assumption) ?_ | refine PickN.mk _ rfl ?_ | refine PickN.au ?_ | refine App.au rfl ?_ | refine App.au (own_map (fun _ => rfl) _) ?_ | refine Both.mk ?_ ?_ | exact True.intro
          refine Stop.mk (ih2 (c + 1, m ++ [t]) (g := [(1, 3)]) _ _ _ ⟨by simp only; omega, by rw [List.getElem?_append_left ham]; exact gy, hV.new hcl gy (by rw [Int.toNat_natCast, hw]; exact h3) gqt gt h5⟩ (by simp only; omega) ?_)
          dsimp only
          rw [List.map_append]
          exact ⟨rfl, (by repeat' first | exact trivial | refine ⟨rfl, ?_⟩ | refine ⟨congrArg (fun n => AV.lit (.int .i64 n)) (by omega), ?_⟩ | refine ⟨congrArg (fun l => some (Row.row 1 l)) (by simp [int1, num, tru]), ?_⟩), (by repeat' first | exact trivial | refine ⟨rfl, ?_⟩ | refine ⟨congrArg (fun n => AV.lit (.int .i64 n)) (by omega), ?_⟩ | refine ⟨congrArg (fun l => some (Row.row 1 l)) (by simp [int1, num, tru]), ?_⟩)⟩
        · repeat' first | refine Len.map ?_ | refine Len.nil ?_ | refine Len.cons ?_ | refine Br.t rfl ?_ | refine Br.f rfl ?_ | refine Fit.au ?_ | refine Need.au ?_ | refine Pick.map (by assumption) ?_ | refine Pick.mapI (by omega) (by assumption) ?_ | refine PickN.mk _ (by assumption) ?_ | refine PickN.mk _ rfl ?_ | refine PickN.au ?_ | refine App.au rfl ?_ | refine App.au (own_map (fun _ => rfl) _) ?_ | refine Both.mk ?_ ?_ | exact True.intro
          exact Stop.mk (ih2 (c + 1, m) (g := []) _ _ _ ⟨by simp only; omega, gy, hV.old gy gqt gt h5⟩ (by simp only; omega) ⟨rfl, (by repeat' first | exact trivial | refine ⟨rfl, ?_⟩ | refine ⟨congrArg (fun n => AV.lit (.int .i64 n)) (by omega), ?_⟩ | refine ⟨congrArg (fun l => some (Row.row 1 l)) (by simp [int1, num, tru]), ?_⟩), (by repeat' first | exact trivial | refine ⟨rfl, ?_⟩ | refine ⟨congrArg (fun n => AV.lit (.int .i64 n)) (by omega), ?_⟩ | refine ⟨congrArg (fun l => some (Row.row 1 l)) (by simp [int1, num, tru]), ?_⟩)⟩)
      · repeat' first | refine Len.map ?_ | refine Len.nil ?_ | refine Len.cons ?_ | refine Br.t rfl ?_ | refine Br.f rfl ?_ | refine Fit.au ?_ | refine Need.au ?_ | refine Pick.map (by assumption) ?_ | refine Pick.mapI (by omega) (by assumption) ?_ | refine PickN.mk _ (by assumption) ?_ | refine PickN.mk _ rfl ?_ | refine PickN.au ?_ | refine App.au rfl ?_ | refine App.au (own_map (fun _ => rfl) _) ?_ | refine Both.mk ?_ ?_ | exact True.intro
        exact Stop.mk (ih (a + 1, m) (g := []) _ _ _ ⟨by simp only; omega, hV.row gy gqt (by omega)⟩ (by simp only; omega) ⟨rfl, (by repeat' first | exact trivial | refine ⟨rfl, ?_⟩ | refine ⟨congrArg (fun n => AV.lit (.int .i64 n)) (by omega), ?_⟩ | refine ⟨congrArg (fun l => some (Row.row 1 l)) (by simp [int1, num, tru]), ?_⟩), (by repeat' first | exact trivial | refine ⟨rfl, ?_⟩ | refine ⟨congrArg (fun n => AV.lit (.int .i64 n)) (by omega), ?_⟩ | refine ⟨congrArg (fun l => some (Row.row 1 l)) (by simp [int1, num, tru]), ?_⟩)⟩)
  · repeat' first | refine Len.map ?_ | refine Len.nil ?_ | refine Len.cons ?_ | refine Br.t rfl ?_ | refine Br.f rfl ?_ | refine Fit.au ?_ | refine Need.au ?_ | refine Pick.map (by assumption) ?_ | refine Pick.mapI (by omega) (by assumption) ?_ | refine PickN.mk _ (by assumption) ?_ | refine PickN.mk _ rfl ?_ | refine PickN.au ?_ | refine App.au rfl ?_ | refine App.au (own_map (fun _ => rfl) _) ?_ | refine Both.mk ?_ ?_ | exact True.intro
    refine ⟨l, rfl, by omega, fun t => ?_⟩
    rw [hU.end (by omega) t]
    exact ⟨fun ht => ⟨by omega, ht⟩, fun ht => ht.2⟩
end Go.Proofs.Ytnfkdilmoppbpaa

/- Whether a register is surely written, by a contract. -/
namespace Go.Proofs.Ytnfkdilmoppbpaa
open Go.Ax
set_option maxRecDepth 10000
set_option linter.unusedVariables false

/-- A register is surely written ahead of a place. -/
def sureP (f : Fun) (k : Int) (n : Nat) (r : Int) : Prop := wroteI (f.blocks.getD k.toNat []) n r = true ∨ ¬ (f.params ≤ r ∧ Un (succsF f) (wroteB f r) k)
theorem sure113_spec (f : Fun) (k n : Nat) (r : Int) (b : List Ins) (gb : f.blocks[k]? = some b) (hnb : n ≤ b.length) (hf : f.fits) (hn : f.blocks.length ≤ 1000000) (hb : ∀ b ∈ f.blocks, b.length ≤ 1000000) :
    FnSpec Try.prog 113 [funA f, num k, num n, num r] (fun v => ∃ c, v = tru c ∧ (c = true ↔ sureP f k n r)) := by
  have gbm := List.mem_of_getElem? gb
  have hbb := hf.2.2 b gbm
  have h0 : f.blocks ≠ [] := by intro e; rw [e] at gbm; simp at gbm
  have hW := writes134_spec b n r hnb (by have := hb b gbm; omega) hbb.2
  have hd : f.blocks.getD (k : Int).toNat [] = b := by rw [Int.toNat_natCast, List.getD_eq_getElem?_getD, gb]; rfl
  refine spec_of 1000 Try.func113 rfl rfl ?_
  repeat' first | refine Pick.map gb ?_ | refine Call.eq hW rfl ?_ | refine Len.map ?_ | refine Len.nil ?_ | refine Len.cons ?_ | refine Br.t rfl ?_ | refine Br.f rfl ?_ | refine Fit.au ?_ | refine Need.au ?_ | refine Pick.map (by assumption) ?_ | refine Pick.mapI (by omega) (by assumption) ?_ | refine PickN.mk _ (by assumption) ?_ | refine PickN.mk _ rfl ?_ | refine PickN.au ?_ | refine App.au rfl ?_ | refine App.au (own_map (fun _ => rfl) _) ?_ | refine Both.mk ?_ ?_ | exact True.intro
  refine Br.mk (fun h => ?_) (fun h => ?_)
  · rw [h]
    repeat' first | refine Len.map ?_ | refine Len.nil ?_ | refine Len.cons ?_ | refine Br.t rfl ?_ | refine Br.f rfl ?_ | refine Fit.au ?_ | refine Need.au ?_ | refine Pick.map (by assumption) ?_ | refine Pick.mapI (by omega) (by assumption) ?_ | refine PickN.mk _ (by assumption) ?_ | refine PickN.mk _ rfl ?_ | refine PickN.au ?_ | refine App.au rfl ?_ | refine App.au (own_map (fun _ => rfl) _) ?_ | refine Both.mk ?_ ?_ | exact True.intro
    exact ⟨true, rfl, fun _ => .inl (by rw [hd]; exact h), fun _ => rfl⟩
  · rw [h]
    repeat' first | refine Len.map ?_ | refine Len.nil ?_ | refine Len.cons ?_ | refine Br.t rfl ?_ | refine Br.f rfl ?_ | refine Fit.au ?_ | refine Need.au ?_ | refine Pick.map (by assumption) ?_ | refine Pick.mapI (by omega) (by assumption) ?_ | refine PickN.mk _ (by assumption) ?_ | refine PickN.mk _ rfl ?_ | refine PickN.au ?_ | refine App.au rfl ?_ | refine App.au (own_map (fun _ => rfl) _) ?_ | refine Both.mk ?_ ?_ | exact True.intro
    refine Call.of (Unsure_spec f r hf hn h0 hb) ?_
    rintro v ⟨l, rfl, hl, hiff⟩
    refine ⟨rfl, ?_⟩
    repeat' first | refine Look.yes ?_ | refine View.map (fun _ => rfl) ?_ | refine CallV.eq (HasInt_spec l k (by omega)) rfl (Free.lit _) ?_ | refine Len.map ?_ | refine Len.nil ?_ | refine Len.cons ?_ | refine Br.t rfl ?_ | refine Br.f rfl ?_ | refine Fit.au ?_ | refine Need.au ?_ | refine Pick.map (by assumption) ?_ | refine Pick.mapI (by omega) (by assumption) ?_ | refine PickN.mk _ (by assumption) ?_ | refine PickN.mk _ rfl ?_ | refine PickN.au ?_ | refine App.au rfl ?_ | refine App.au (own_map (fun _ => rfl) _) ?_ | refine Both.mk ?_ ?_ | exact True.intro
    refine ⟨!decide ((k : Int) ∈ l), rfl, ?_⟩
    rw [Bool.not_eq_true', decide_eq_false_iff_not, hiff k]
    unfold sureP
    rw [hd, h]
    simp
end Go.Proofs.Ytnfkdilmoppbpaa

/- Whether all that an instruction reads is surely written, by a contract. -/
namespace Go.Proofs.Ytnfkdilmoppbpaa
open Go.Ax
set_option maxRecDepth 10000
set_option linter.unusedVariables false

def readsP (f : Fun) (k : Int) (j : Nat) (i : Ins) : Prop := ∀ u ∈ usesF i, sureP f k j u
theorem reads86_spec (f : Fun) (k j : Nat) (b : List Ins) (i : Ins) (gb : f.blocks[k]? = some b) (gi : b[j]? = some i) (h44 : i.op ≠ 44) (hf : f.fits) (hn : f.blocks.length ≤ 1000000) (hb : ∀ b ∈ f.blocks, b.length ≤ 1000000 ∧ ∀ i ∈ b, i.args.length ≤ 1000000) :
    FnSpec Try.prog 86 [funA f, num k, num j] (fun v => ∃ c, v = tru c ∧ (c = true ↔ readsP f k j i)) := by
  have gbm := List.mem_of_getElem? gb
  have gim := List.mem_of_getElem? gi
  have hjl := (List.getElem?_eq_some_iff.1 gi).1
  have hi := (hf.2.2 b gbm).2 i gim
  have hia := (hb b gbm).2 i gim
  have hul : (usesF i).length ≤ 1000003 := by
    unfold usesF
    split
    · simp only [List.length_append]
      have e1 : (if (abF i.op || oneF i.op) = true then [i.a] else []).length ≤ 1 := by split <;> simp
      have e2 : (if bF i = true then [i.b] else []).length ≤ 1 := by split <;> simp
      have e3 : (if i.op = 30 then [i.c] else []).length ≤ 1 := by split <;> simp
      omega
    · simp
  have hS := fun u => sure113_spec f k j u b gb (by omega) hf hn (fun b h => (hb b h).1)
  refine spec_of 1000 Try.func86 rfl rfl ?_
  repeat' first | refine Pick.map gb ?_ | refine Pick.map gi ?_ | refine Len.map ?_ | refine Len.nil ?_ | refine Len.cons ?_ | refine Br.t rfl ?_ | refine Br.f rfl ?_ | refine Fit.au ?_ | refine Need.au ?_ | refine Pick.map (by assumption) ?_ | refine Pick.mapI (by omega) (by assumption) ?_ | refine PickN.mk _ (by assumption) ?_ | refine PickN.mk _ rfl ?_ | refine PickN.au ?_ | refine App.au rfl ?_ | refine App.au (own_map (fun _ => rfl) _) ?_ | refine Both.mk ?_ ?_ | exact True.intro
  refine Br.d (fun h => absurd h h44) (fun h => ?_)
  repeat' first | refine Call.eq (Uses_spec i hia) rfl ?_ | refine Len.map ?_ | refine Len.nil ?_ | refine Len.cons ?_ | refine Br.t rfl ?_ | refine Br.f rfl ?_ | refine Fit.au ?_ | refine Need.au ?_ | refine Pick.map (by assumption) ?_ | refine Pick.mapI (by omega) (by assumption) ?_ | refine PickN.mk _ (by assumption) ?_ | refine PickN.mk _ rfl ?_ | refine PickN.au ?_ | refine App.au rfl ?_ | refine App.au (own_map (fun _ => rfl) _) ?_ | refine Both.mk ?_ ?_ | exact True.intro
  refine Stop.mk (loop_in (g := [(2, 2)]) (fun e : Nat => [(3, .hp 0 0), (1, num k), (2, num j), (10, .hw 2), (11, num e)]) (fun e => [(0, .var f.cs), (2, .row 1 ((usesF i).map int1))]) 3 (fun e => e ≤ (usesF i).length ∧ ∀ u ∈ (usesF i).take e, sureP f k j u) (fun e => (usesF i).length - e) 0 ⟨by omega, by simp⟩ ⟨rfl, (by repeat' first | exact trivial | refine ⟨rfl, ?_⟩ | refine ⟨congrArg (fun n => AV.lit (.int .i64 n)) (by omega), ?_⟩ | refine ⟨congrArg (fun l => some (Row.row 1 l)) (by simp [int1, num, tru]), ?_⟩), (by repeat' first | exact trivial | refine ⟨rfl, ?_⟩ | refine ⟨congrArg (fun n => AV.lit (.int .i64 n)) (by omega), ?_⟩ | refine ⟨congrArg (fun l => some (Row.row 1 l)) (by simp [int1, num, tru]), ?_⟩)⟩ (fun e he ih => ?_))
  obtain ⟨he, hall⟩ := he
  refine go 1000 Try.func86 ?_
  repeat' first | refine Len.map ?_ | refine Len.nil ?_ | refine Len.cons ?_ | refine Br.t rfl ?_ | refine Br.f rfl ?_ | refine Fit.au ?_ | refine Need.au ?_ | refine Pick.map (by assumption) ?_ | refine Pick.mapI (by omega) (by assumption) ?_ | refine PickN.mk _ (by assumption) ?_ | refine PickN.mk _ rfl ?_ | refine PickN.au ?_ | refine App.au rfl ?_ | refine App.au (own_map (fun _ => rfl) _) ?_ | refine Both.mk ?_ ?_ | exact True.intro
  refine Br.d (fun h2 => ?_) (fun h2 => ?_)
  · obtain ⟨u, gu, gum⟩ := getK (l := usesF i) (k := e) (by omega)
    repeat' first | refine Draw.mk (ordL [19] [0, 1, 2, 3, 4, 5, 6, 7, 8, 9, 10, 11, 12, 13, 14, 15, 16, 17, 18, 19, 20]) (by decide +kernel) ?_ | refine Draw.mk (ordL [7] [0, 1, 2, 3, 4, 5, 6, 7, 8]) (by decide +kernel) ?_ | refine Pick.map gu ?_ | refine Len.map ?_ | refine Len.nil ?_ | refine Len.cons ?_ | refine Br.t rfl ?_ | refine Br.f rfl ?_ | refine Fit.au ?_ | refine Need.au ?_ | refine Pick.map (by assumption) ?_ | refine Pick.mapI (by omega) (by assumption) ?_ | refine PickN.mk _ (by assumption) ?_ | refine PickN.mk _ rfl ?_ | refine PickN.au ?_ | refine App.au rfl ?_ | refine App.au (own_map (fun _ => rfl) _) ?_ | refine Both.mk ?_ ?_ | exact True.intro
    refine Call.of (hS u) ?_
    rintro v ⟨c, rfl, hc⟩
    refine ⟨rfl, ?_⟩
    repeat' first | refine Len.map ?_ | refine Len.nil ?_ | refine Len.cons ?_ | refine Br.t rfl ?_ | refine Br.f rfl ?_ | refine Fit.au ?_ | refine Need.au ?_ | refine Pick.map (by assumption) ?_ | refine Pick.mapI (by omega) (by assumption) ?_ | refine PickN.mk _ (by assumption) ?_ | refine PickN.mk _ rfl ?_ | refine PickN.au ?_ | refine App.au rfl ?_ | refine App.au (own_map (fun _ => rfl) _) ?_ | refine Both.mk ?_ ?_ | exact True.intro
    refine Br.mk (fun h3 => ?_) (fun h3 => ?_)
    · repeat' first | refine Len.map ?_ | refine Len.nil ?_ | refine Len.cons ?_ | refine Br.t rfl ?_ | refine Br.f rfl ?_ | refine Fit.au ?_ | refine Need.au ?_ | refine Pick.map (by assumption) ?_ | refine Pick.mapI (by omega) (by assumption) ?_ | refine PickN.mk _ (by assumption) ?_ | refine PickN.mk _ rfl ?_ | refine PickN.au ?_ | refine App.au rfl ?_ | refine App.au (own_map (fun _ => rfl) _) ?_ | refine Both.mk ?_ ?_ | exact True.intro
      refine ⟨false, rfl, (fun h => by cases h), (fun h => ?_)⟩
      have := hc.2 (h u gum)
      rw [this] at h3; cases h3
    · repeat' first | refine Len.map ?_ | refine Len.nil ?_ | refine Len.cons ?_ | refine Br.t rfl ?_ | refine Br.f rfl ?_ | refine Fit.au ?_ | refine Need.au ?_ | refine Pick.map (by assumption) ?_ | refine Pick.mapI (by omega) (by assumption) ?_ | refine PickN.mk _ (by assumption) ?_ | refine PickN.mk _ rfl ?_ | refine PickN.au ?_ | refine App.au rfl ?_ | refine App.au (own_map (fun _ => rfl) _) ?_ | refine Both.mk ?_ ?_ | exact True.intro
      refine Stop.mk (ih (e + 1) (g := []) _ _ _ ⟨by omega, ?_⟩ (by omega) ⟨rfl, (by repeat' first | exact trivial | refine ⟨rfl, ?_⟩ | refine ⟨congrArg (fun n => AV.lit (.int .i64 n)) (by omega), ?_⟩ | refine ⟨congrArg (fun l => some (Row.row 1 l)) (by simp [int1, num, tru]), ?_⟩), (by repeat' first | exact trivial | refine ⟨rfl, ?_⟩ | refine ⟨congrArg (fun n => AV.lit (.int .i64 n)) (by omega), ?_⟩ | refine ⟨congrArg (fun l => some (Row.row 1 l)) (by simp [int1, num, tru]), ?_⟩)⟩)
      rw [take_succ gu]
      intro y hy
      rcases List.mem_append.1 hy with hy | hy
      · exact hall y hy
      · rw [List.mem_singleton.1 hy]; exact hc.1 (by simpa using h3)
  · rw [take_all (by omega)] at hall
    repeat' first | refine Len.map ?_ | refine Len.nil ?_ | refine Len.cons ?_ | refine Br.t rfl ?_ | refine Br.f rfl ?_ | refine Fit.au ?_ | refine Need.au ?_ | refine Pick.map (by assumption) ?_ | refine Pick.mapI (by omega) (by assumption) ?_ | refine PickN.mk _ (by assumption) ?_ | refine PickN.mk _ rfl ?_ | refine PickN.au ?_ | refine App.au rfl ?_ | refine App.au (own_map (fun _ => rfl) _) ?_ | refine Both.mk ?_ ?_ | exact True.intro
    exact ⟨true, rfl, fun _ => hall, fun _ => rfl⟩
end Go.Proofs.Ytnfkdilmoppbpaa

/- A list of sites, cloned, by a contract; what is small. -/
namespace Go.Proofs.Ytnfkdilmoppbpaa
open Go.Ax
set_option maxRecDepth 10000
set_option linter.unusedVariables false

theorem CloneS_spec (l : List (Int × Int)) (hl : l.length ≤ 1000000) : FnSpec Try.prog 73 [.sl false 2 (l.map site)] (fun r => r = .osl 2 (l.map site)) := by
  refine FnSpec.weakV (spec_of 1000 Try.func73 rfl rfl ?_)
  repeat' first | refine Len.map ?_ | refine Len.nil ?_ | refine Len.cons ?_ | refine Br.t rfl ?_ | refine Br.f rfl ?_ | refine Fit.au ?_ | refine Need.au ?_ | refine Pick.map (by assumption) ?_ | refine Pick.mapI (by omega) (by assumption) ?_ | refine PickN.mk _ (by assumption) ?_ | refine PickN.mk _ rfl ?_ | refine PickN.au ?_ | refine App.au rfl ?_ | refine App.au (own_map (fun _ => rfl) _) ?_ | refine Both.mk ?_ ?_ | exact True.intro
  refine NilT.mk fun b hb => ?_
  refine Br.mk (fun h => ?_) (fun h => ?_)
  · repeat' first | refine Len.map ?_ | refine Len.nil ?_ | refine Len.cons ?_ | refine Br.t rfl ?_ | refine Br.f rfl ?_ | refine Fit.au ?_ | refine Need.au ?_ | refine Pick.map (by assumption) ?_ | refine Pick.mapI (by omega) (by assumption) ?_ | refine PickN.mk _ (by assumption) ?_ | refine PickN.mk _ rfl ?_ | refine PickN.au ?_ | refine App.au rfl ?_ | refine App.au (own_map (fun _ => rfl) _) ?_ | refine Both.mk ?_ ?_ | exact True.intro
    refine .inr ?_
    have : l = [] := by simpa using hb (by simpa using h)
    subst this
    exact OLe.onil
  · repeat' first | refine Len.map ?_ | refine Len.nil ?_ | refine Len.cons ?_ | refine Br.t rfl ?_ | refine Br.f rfl ?_ | refine Fit.au ?_ | refine Need.au ?_ | refine Pick.map (by assumption) ?_ | refine Pick.mapI (by omega) (by assumption) ?_ | refine PickN.mk _ (by assumption) ?_ | refine PickN.mk _ rfl ?_ | refine PickN.au ?_ | refine App.au rfl ?_ | refine App.au (own_map (fun _ => rfl) _) ?_ | refine Both.mk ?_ ?_ | exact True.intro
    exact .inl rfl

def Pro.okT (p : Pro) : Prop := p.funcs.length ≤ 1000000 ∧ p.sites.length ≤ 1000000 ∧ ∀ f ∈ p.funcs, f.fits ∧ f.blocks.length ≤ 100000 ∧ f.regs.length ≤ 1000000 ∧ ∀ b ∈ f.blocks, b.length ≤ 1000000 ∧ ∀ i ∈ b, i.args.length ≤ 1000000
theorem Pro.few.okT {p : Pro} (h : p.few 150) (hp : p.fits) : p.okT := by
  obtain ⟨h1, h2, h3, h4⟩ := h
  refine ⟨by omega, by omega, fun f hf => ?_⟩
  obtain ⟨g1, g2, _, g4⟩ := h4 f hf
  refine ⟨hp.2.2 f hf, by omega, by omega, fun b hb => ⟨?_, fun i hi => ?_⟩⟩
  · have := Fun.len_le hb
    have := p.count_fun hf
    omega
  · have := g4 b hb i hi
    omega

end Go.Proofs.Ytnfkdilmoppbpaa

/- What a name has, what an instruction reads, by contracts. -/
namespace Go.Proofs.Ytnfkdilmoppbpaa
open Go.Ax
set_option maxRecDepth 10000
set_option linter.unusedVariables false

theorem has34_spec (f : Fun) (reg block at_ : Int) (hf : f.fits) (hn : f.blocks.length ≤ 1000000) : FnSpec Try.prog 117 [funA f, num reg, num block, num at_] (fun r => ∃ v, r = tru v ∧ (v = true ↔ HasP f reg block at_)) := by
  refine spec_of 1000 Try.func117 rfl rfl ?_
  repeat' first | refine Len.map ?_ | refine Len.nil ?_ | refine Len.cons ?_ | refine Br.t rfl ?_ | refine Br.f rfl ?_ | refine Fit.au ?_ | refine Need.au ?_ | refine Pick.map (by assumption) ?_ | refine Pick.mapI (by omega) (by assumption) ?_ | refine PickN.mk _ (by assumption) ?_ | refine PickN.mk _ rfl ?_ | refine PickN.au ?_ | refine App.au rfl ?_ | refine App.au (own_map (fun _ => rfl) _) ?_ | refine Both.mk ?_ ?_ | exact True.intro
  refine Br.d (fun h1 => ?_) (fun h1 => ?_)
  · repeat' first | refine Len.map ?_ | refine Len.nil ?_ | refine Len.cons ?_ | refine Br.t rfl ?_ | refine Br.f rfl ?_ | refine Fit.au ?_ | refine Need.au ?_ | refine Pick.map (by assumption) ?_ | refine Pick.mapI (by omega) (by assumption) ?_ | refine PickN.mk _ (by assumption) ?_ | refine PickN.mk _ rfl ?_ | refine PickN.au ?_ | refine App.au rfl ?_ | refine App.au (own_map (fun _ => rfl) _) ?_ | refine Both.mk ?_ ?_ | exact True.intro
    exact ⟨true, rfl, ⟨fun _ => .inl h1, fun _ => rfl⟩⟩
  repeat' first | refine Len.map ?_ | refine Len.nil ?_ | refine Len.cons ?_ | refine Br.t rfl ?_ | refine Br.f rfl ?_ | refine Fit.au ?_ | refine Need.au ?_ | refine Pick.map (by assumption) ?_ | refine Pick.mapI (by omega) (by assumption) ?_ | refine PickN.mk _ (by assumption) ?_ | refine PickN.mk _ rfl ?_ | refine PickN.au ?_ | refine App.au rfl ?_ | refine App.au (own_map (fun _ => rfl) _) ?_ | refine Both.mk ?_ ?_ | exact True.intro
  refine Call.of (Writer34_spec f reg hf hn) ?_
  rintro r ⟨k, i, v, rfl, hw⟩
  refine ⟨rfl, ?_⟩
  repeat' first | refine Len.map ?_ | refine Len.nil ?_ | refine Len.cons ?_ | refine Br.t rfl ?_ | refine Br.f rfl ?_ | refine Fit.au ?_ | refine Need.au ?_ | refine Pick.map (by assumption) ?_ | refine Pick.mapI (by omega) (by assumption) ?_ | refine PickN.mk _ (by assumption) ?_ | refine PickN.mk _ rfl ?_ | refine PickN.au ?_ | refine App.au rfl ?_ | refine App.au (own_map (fun _ => rfl) _) ?_ | refine Both.mk ?_ ?_ | exact True.intro
  refine Br.mk (fun h2 => ?_) (fun h2 => ?_)
  · have h2 : v = false := by simpa using h2
    subst h2
    repeat' first | refine Len.map ?_ | refine Len.nil ?_ | refine Len.cons ?_ | refine Br.t rfl ?_ | refine Br.f rfl ?_ | refine Fit.au ?_ | refine Need.au ?_ | refine Pick.map (by assumption) ?_ | refine Pick.mapI (by omega) (by assumption) ?_ | refine PickN.mk _ (by assumption) ?_ | refine PickN.mk _ rfl ?_ | refine PickN.au ?_ | refine App.au rfl ?_ | refine App.au (own_map (fun _ => rfl) _) ?_ | refine Both.mk ?_ ?_ | exact True.intro
    exact ⟨false, rfl, ⟨fun h => (by cases h), fun h => absurd h (HasP.no h1 hw)⟩⟩
  have h2 : v = true := by simpa using h2
  subst h2
  have e := HasP.of (block := block) (at_ := at_) h1 hw
  repeat' first | refine Len.map ?_ | refine Len.nil ?_ | refine Len.cons ?_ | refine Br.t rfl ?_ | refine Br.f rfl ?_ | refine Fit.au ?_ | refine Need.au ?_ | refine Pick.map (by assumption) ?_ | refine Pick.mapI (by omega) (by assumption) ?_ | refine PickN.mk _ (by assumption) ?_ | refine PickN.mk _ rfl ?_ | refine PickN.au ?_ | refine App.au rfl ?_ | refine App.au (own_map (fun _ => rfl) _) ?_ | refine Both.mk ?_ ?_ | exact True.intro
  refine Br.d (fun h3 => ?_) (fun h3 => ?_)
  · repeat' first | refine Len.map ?_ | refine Len.nil ?_ | refine Len.cons ?_ | refine Br.t rfl ?_ | refine Br.f rfl ?_ | refine Fit.au ?_ | refine Need.au ?_ | refine Pick.map (by assumption) ?_ | refine Pick.mapI (by omega) (by assumption) ?_ | refine PickN.mk _ (by assumption) ?_ | refine PickN.mk _ rfl ?_ | refine PickN.au ?_ | refine App.au rfl ?_ | refine App.au (own_map (fun _ => rfl) _) ?_ | refine Both.mk ?_ ?_ | exact True.intro
    refine ⟨_, rfl, ?_⟩
    rw [e]; simp [h3]
  · repeat' first | refine Len.map ?_ | refine Len.nil ?_ | refine Len.cons ?_ | refine Br.t rfl ?_ | refine Br.f rfl ?_ | refine Fit.au ?_ | refine Need.au ?_ | refine Pick.map (by assumption) ?_ | refine Pick.mapI (by omega) (by assumption) ?_ | refine PickN.mk _ (by assumption) ?_ | refine PickN.mk _ rfl ?_ | refine PickN.au ?_ | refine App.au rfl ?_ | refine App.au (own_map (fun _ => rfl) _) ?_ | refine Both.mk ?_ ?_ | exact True.intro
    refine Call.of (Dominates_spec f k block hf hn) ?_
    rintro r ⟨b, rfl, hb⟩
    refine ⟨rfl, ?_⟩
    repeat' first | refine Len.map ?_ | refine Len.nil ?_ | refine Len.cons ?_ | refine Br.t rfl ?_ | refine Br.f rfl ?_ | refine Fit.au ?_ | refine Need.au ?_ | refine Pick.map (by assumption) ?_ | refine Pick.mapI (by omega) (by assumption) ?_ | refine PickN.mk _ (by assumption) ?_ | refine PickN.mk _ rfl ?_ | refine PickN.au ?_ | refine App.au rfl ?_ | refine App.au (own_map (fun _ => rfl) _) ?_ | refine Both.mk ?_ ?_ | exact True.intro
    refine ⟨b, rfl, ?_⟩
    rw [e, hb]; simp [h3]

theorem reads34_spec (f : Fun) (k j : Nat) (b : List Ins) (i : Ins) (gb : f.blocks[k]? = some b) (gi : b[j]? = some i) (hf : f.fits) (hn : f.blocks.length ≤ 1000000) (ha : ∀ b ∈ f.blocks, ∀ i ∈ b, i.args.length ≤ 1000000) (hu : i.op = 44 → (usesF i).length ≤ (predOf (succsF f) k (succsF f).length).length) :
    FnSpec Try.prog 91 [funA f, num k, num j] (fun r => ∃ v, r = tru v ∧ (v = true → i.op ≠ 44 → ∀ u ∈ usesF i, HasP f u k j)) := by
  have gm := List.mem_of_getElem? gb
  have gim := List.mem_of_getElem? gi
  have hai := ha b gm i gim
  have hul := usesF_len i
  have hkn := (List.getElem?_eq_some_iff.1 gb).1
  have hjn := (List.getElem?_eq_some_iff.1 gi).1
  have hbn := hf.2.2 b gm
  have gp : (predsF (succsF f))[k]? = some (predOf (succsF f) k (succsF f).length) := by
    unfold predsF
    rw [List.getElem?_map, List.getElem?_range (by rw [succsF_len]; exact hkn)]; rfl
  refine spec_of 24 Try.func91 rfl rfl ?_
  repeat' first | refine Call.eq (Uses_spec i hai) rfl ?_ | refine Len.map ?_ | refine Len.nil ?_ | refine Len.cons ?_ | refine Br.t rfl ?_ | refine Br.f rfl ?_ | refine Fit.au ?_ | refine Need.au ?_ | refine Pick.map (by assumption) ?_ | refine Pick.mapI (by omega) (by assumption) ?_ | refine PickN.mk _ (by assumption) ?_ | refine PickN.mk _ rfl ?_ | refine PickN.au ?_ | refine App.au rfl ?_ | refine App.au (own_map (fun _ => rfl) _) ?_ | refine Both.mk ?_ ?_ | exact True.intro
  refine Stop.mk (go 4 Try.func91 ?_)
  repeat' first | refine Call.eq (Preds_spec f hf hn) rfl ?_ | refine Len.map ?_ | refine Len.nil ?_ | refine Len.cons ?_ | refine Br.t rfl ?_ | refine Br.f rfl ?_ | refine Fit.au ?_ | refine Need.au ?_ | refine Pick.map (by assumption) ?_ | refine Pick.mapI (by omega) (by assumption) ?_ | refine PickN.mk _ (by assumption) ?_ | refine PickN.mk _ rfl ?_ | refine PickN.au ?_ | refine App.au rfl ?_ | refine App.au (own_map (fun _ => rfl) _) ?_ | refine Both.mk ?_ ?_ | exact True.intro
  refine Stop.mk (run_frzR 3 rfl (fzLL_map fz_olsts _) ?_)
  refine go 1000 Try.func91 ?_
  repeat' first | refine Len.map ?_ | refine Len.nil ?_ | refine Len.cons ?_ | refine Br.t rfl ?_ | refine Br.f rfl ?_ | refine Fit.au ?_ | refine Need.au ?_ | refine Pick.map (by assumption) ?_ | refine Pick.mapI (by omega) (by assumption) ?_ | refine PickN.mk _ (by assumption) ?_ | refine PickN.mk _ rfl ?_ | refine PickN.au ?_ | refine App.au rfl ?_ | refine App.au (own_map (fun _ => rfl) _) ?_ | refine Both.mk ?_ ?_ | exact True.intro
  refine Stop.mk (loop_in (fun m : Nat => [(3, .hp 0 0), (1, num k), (2, num j), (7, .hp 1 0), (8, .hw 2), (9, ints (predOf (succsF f) k (succsF f).length)), (10, num m)]) (fun _ => [(0, .var f.cs), (1, .var i.cs), (2, .row 1 ((usesF i).map int1))]) 3 (fun m => m ≤ (usesF i).length ∧ (i.op ≠ 44 → ∀ u ∈ (usesF i).take m, HasP f u k j)) (fun m => (usesF i).length - m) 0 ⟨by omega, by simp⟩ (g := []) ⟨rfl, (by repeat' first | exact trivial | refine ⟨rfl, ?_⟩ | refine ⟨congrArg (fun n => AV.lit (.int .i64 n)) (by omega), ?_⟩ | refine ⟨congrArg (fun l => some (Row.row 1 l)) (by simp [int1, num, tru]), ?_⟩), (by repeat' first | exact trivial | refine ⟨rfl, ?_⟩ | refine ⟨congrArg (fun n => AV.lit (.int .i64 n)) (by omega), ?_⟩ | refine ⟨congrArg (fun l => some (Row.row 1 l)) (by simp [int1, num, tru]), ?_⟩)⟩ (fun m hm ih => ?_))
  obtain ⟨hm, hw⟩ := hm
  refine go 1000 Try.func91 ?_
  repeat' first | refine Len.map ?_ | refine Len.nil ?_ | refine Len.cons ?_ | refine Br.t rfl ?_ | refine Br.f rfl ?_ | refine Fit.au ?_ | refine Need.au ?_ | refine Pick.map (by assumption) ?_ | refine Pick.mapI (by omega) (by assumption) ?_ | refine PickN.mk _ (by assumption) ?_ | refine PickN.mk _ rfl ?_ | refine PickN.au ?_ | refine App.au rfl ?_ | refine App.au (own_map (fun _ => rfl) _) ?_ | refine Both.mk ?_ ?_ | exact True.intro
  refine Br.d (fun h2 => ?_) (fun h2 => ?_)
  · obtain ⟨u, gu, gum⟩ := getK (l := usesF i) (k := m) (by omega)
    repeat' first | refine Draw.mk (ordL [22, 37] [0, 1, 2, 3, 4, 5, 6, 7, 8, 9, 10, 11, 12, 13, 14, 15, 16, 17, 18, 19, 20, 21, 22, 23, 24, 25, 26, 27, 28, 29, 30, 31, 32, 33, 34, 35, 36, 37, 38, 39, 40]) (by decide +kernel) ?_ | refine Len.map ?_ | refine Len.nil ?_ | refine Len.cons ?_ | refine Br.t rfl ?_ | refine Br.f rfl ?_ | refine Fit.au ?_ | refine Need.au ?_ | refine Pick.map (by assumption) ?_ | refine Pick.mapI (by omega) (by assumption) ?_ | refine PickN.mk _ (by assumption) ?_ | refine PickN.mk _ rfl ?_ | refine PickN.au ?_ | refine App.au rfl ?_ | refine App.au (own_map (fun _ => rfl) _) ?_ | refine Both.mk ?_ ?_ | exact True.intro
    refine Br.d (fun h3 => ?_) (fun h3 => ?_)
    · obtain ⟨p, gpp, gpm⟩ := getK (l := predOf (succsF f) k (succsF f).length) (k := m) (by have := hu h3; omega)
      have hpl := predOf_lt gpm
      rw [succsF_len] at hpl
      obtain ⟨bp, gbp, gbm⟩ := getK (l := f.blocks) (k := p.toNat) (by omega)
      repeat' first | refine Len.map ?_ | refine Len.nil ?_ | refine Len.cons ?_ | refine Br.t rfl ?_ | refine Br.f rfl ?_ | refine Fit.au ?_ | refine Need.au ?_ | refine Pick.map (by assumption) ?_ | refine Pick.mapI (by omega) (by assumption) ?_ | refine PickN.mk _ (by assumption) ?_ | refine PickN.mk _ rfl ?_ | refine PickN.au ?_ | refine App.au rfl ?_ | refine App.au (own_map (fun _ => rfl) _) ?_ | refine Both.mk ?_ ?_ | exact True.intro
      refine Call.of (has34_spec f u p bp.length hf hn) ?_
      rintro r ⟨v, rfl, hv⟩
      refine ⟨rfl, ?_⟩
      repeat' first | refine Len.map ?_ | refine Len.nil ?_ | refine Len.cons ?_ | refine Br.t rfl ?_ | refine Br.f rfl ?_ | refine Fit.au ?_ | refine Need.au ?_ | refine Pick.map (by assumption) ?_ | refine Pick.mapI (by omega) (by assumption) ?_ | refine PickN.mk _ (by assumption) ?_ | refine PickN.mk _ rfl ?_ | refine PickN.au ?_ | refine App.au rfl ?_ | refine App.au (own_map (fun _ => rfl) _) ?_ | refine Both.mk ?_ ?_ | exact True.intro | refine Br.d (fun h => ?_) (fun h => ?_) | refine Br.nd (fun h => ?_) (fun h => ?_) | refine Br.mk (fun h => ?_) (fun h => ?_)
      all_goals first
        | exact ⟨false, rfl, fun h => (by cases h)⟩
        | exact absurd h3 (by assumption)
        | refine Stop.mk (ih (m + 1) (g := []) _ _ _ ⟨by omega, fun h => absurd h3 h⟩ (by omega) ⟨rfl, (by repeat' first | exact trivial | refine ⟨rfl, ?_⟩ | refine ⟨congrArg (fun n => AV.lit (.int .i64 n)) (by omega), ?_⟩ | refine ⟨congrArg (fun l => some (Row.row 1 l)) (by simp [int1, num, tru]), ?_⟩), (by repeat' first | exact trivial | refine ⟨rfl, ?_⟩ | refine ⟨congrArg (fun n => AV.lit (.int .i64 n)) (by omega), ?_⟩ | refine ⟨congrArg (fun l => some (Row.row 1 l)) (by simp [int1, num, tru]), ?_⟩)⟩)
    · repeat' first | refine Len.map ?_ | refine Len.nil ?_ | refine Len.cons ?_ | refine Br.t rfl ?_ | refine Br.f rfl ?_ | refine Fit.au ?_ | refine Need.au ?_ | refine Pick.map (by assumption) ?_ | refine Pick.mapI (by omega) (by assumption) ?_ | refine PickN.mk _ (by assumption) ?_ | refine PickN.mk _ rfl ?_ | refine PickN.au ?_ | refine App.au rfl ?_ | refine App.au (own_map (fun _ => rfl) _) ?_ | refine Both.mk ?_ ?_ | exact True.intro
      refine Br.nd (fun h4 => ?_) (fun h4 => absurd h4 h3)
      repeat' first | refine Len.map ?_ | refine Len.nil ?_ | refine Len.cons ?_ | refine Br.t rfl ?_ | refine Br.f rfl ?_ | refine Fit.au ?_ | refine Need.au ?_ | refine Pick.map (by assumption) ?_ | refine Pick.mapI (by omega) (by assumption) ?_ | refine PickN.mk _ (by assumption) ?_ | refine PickN.mk _ rfl ?_ | refine PickN.au ?_ | refine App.au rfl ?_ | refine App.au (own_map (fun _ => rfl) _) ?_ | refine Both.mk ?_ ?_ | exact True.intro
      refine Call.of (has34_spec f u k j hf hn) ?_
      rintro r ⟨v, rfl, hv⟩
      refine ⟨rfl, ?_⟩
      repeat' first | refine Len.map ?_ | refine Len.nil ?_ | refine Len.cons ?_ | refine Br.t rfl ?_ | refine Br.f rfl ?_ | refine Fit.au ?_ | refine Need.au ?_ | refine Pick.map (by assumption) ?_ | refine Pick.mapI (by omega) (by assumption) ?_ | refine PickN.mk _ (by assumption) ?_ | refine PickN.mk _ rfl ?_ | refine PickN.au ?_ | refine App.au rfl ?_ | refine App.au (own_map (fun _ => rfl) _) ?_ | refine Both.mk ?_ ?_ | exact True.intro | refine Br.d (fun h => ?_) (fun h => ?_) | refine Br.nd (fun h => ?_) (fun h => ?_) | refine Br.mk (fun h => ?_) (fun h => ?_)
      · exact ⟨false, rfl, fun h => (by cases h)⟩
      · refine Stop.mk (ih (m + 1) (g := []) _ _ _ ⟨by omega, fun h => all_take_succ gu (hw h) (hv.1 (by simpa using ‹(!v) = false›))⟩ (by omega) ⟨rfl, (by repeat' first | exact trivial | refine ⟨rfl, ?_⟩ | refine ⟨congrArg (fun n => AV.lit (.int .i64 n)) (by omega), ?_⟩ | refine ⟨congrArg (fun l => some (Row.row 1 l)) (by simp [int1, num, tru]), ?_⟩), (by repeat' first | exact trivial | refine ⟨rfl, ?_⟩ | refine ⟨congrArg (fun n => AV.lit (.int .i64 n)) (by omega), ?_⟩ | refine ⟨congrArg (fun l => some (Row.row 1 l)) (by simp [int1, num, tru]), ?_⟩)⟩)
  · repeat' first | refine Len.map ?_ | refine Len.nil ?_ | refine Len.cons ?_ | refine Br.t rfl ?_ | refine Br.f rfl ?_ | refine Fit.au ?_ | refine Need.au ?_ | refine Pick.map (by assumption) ?_ | refine Pick.mapI (by omega) (by assumption) ?_ | refine PickN.mk _ (by assumption) ?_ | refine PickN.mk _ rfl ?_ | refine PickN.au ?_ | refine App.au rfl ?_ | refine App.au (own_map (fun _ => rfl) _) ?_ | refine Both.mk ?_ ?_ | exact True.intro
    rw [take_all (by omega)] at hw
    exact ⟨true, rfl, fun _ => hw⟩
end Go.Proofs.Ytnfkdilmoppbpaa

/- The check of programs: how many go to a block, how an instruction stands, by contracts. -/
namespace Go.Proofs.Ytnfkdilmoppbpaa
open Go.Ax
set_option maxRecDepth 10000
set_option linter.unusedVariables false

theorem Preds16_spec (f : Fun) (block : Int) (hf : f.fits) : FnSpec Try.prog 126 [funA f, num block] (fun r => r = num (predCount f block)) := by
  have hf1 := hf.1
  refine spec_of 1000 Try.func126 rfl rfl ?_
  repeat' first | refine Len.map ?_ | refine Len.nil ?_ | refine Len.cons ?_ | refine Br.t rfl ?_ | refine Br.f rfl ?_ | refine Fit.au ?_ | refine Need.au ?_ | refine Pick.map (by assumption) ?_ | refine Pick.mapI (by omega) (by assumption) ?_ | refine PickN.mk _ (by assumption) ?_ | refine PickN.mk _ rfl ?_ | refine PickN.au ?_ | refine App.au rfl ?_ | refine App.au (own_map (fun _ => rfl) _) ?_ | refine Both.mk ?_ ?_ | exact True.intro
  refine Stop.mk (loop_in (fun k : Nat => [(2, .hp 0 0), (1, num block), (5, num ((f.blocks.take k).countP (goesTo block))), (6, num k)]) (fun k => [(0, .var f.cs)]) 1 (fun k => k ≤ f.blocks.length) (fun k => f.blocks.length - k) 0 (by omega) (g := []) ⟨rfl, (by repeat' first | exact trivial | refine ⟨rfl, ?_⟩ | refine ⟨congrArg (fun n => AV.lit (.int .i64 n)) (by omega), ?_⟩ | refine ⟨congrArg (fun l => some (Row.row 1 l)) (by simp [int1, num, tru]), ?_⟩), (by repeat' first | exact trivial | refine ⟨rfl, ?_⟩ | refine ⟨congrArg (fun n => AV.lit (.int .i64 n)) (by omega), ?_⟩ | refine ⟨congrArg (fun l => some (Row.row 1 l)) (by simp [int1, num, tru]), ?_⟩)⟩ (fun k hk ih => ?_))
  have hc := countP_take_le (l := f.blocks) (k := k) (p := goesTo block)
  refine go 1000 Try.func126 ?_
  repeat' first | refine Len.map ?_ | refine Len.nil ?_ | refine Len.cons ?_ | refine Br.t rfl ?_ | refine Br.f rfl ?_ | refine Fit.au ?_ | refine Need.au ?_ | refine Pick.map (by assumption) ?_ | refine Pick.mapI (by omega) (by assumption) ?_ | refine PickN.mk _ (by assumption) ?_ | refine PickN.mk _ rfl ?_ | refine PickN.au ?_ | refine App.au rfl ?_ | refine App.au (own_map (fun _ => rfl) _) ?_ | refine Both.mk ?_ ?_ | exact True.intro
  refine Br.d (fun h2 => ?_) (fun h2 => ?_)
  · obtain ⟨b, gb, gm⟩ := getK (l := f.blocks) (k := k) (by omega)
    obtain ⟨hb1, hb2⟩ := hf.2.2 b gm
    have e1 := countP_take_succ (p := goesTo block) gb
    repeat' first | refine Len.map ?_ | refine Len.nil ?_ | refine Len.cons ?_ | refine Br.t rfl ?_ | refine Br.f rfl ?_ | refine Fit.au ?_ | refine Need.au ?_ | refine Pick.map (by assumption) ?_ | refine Pick.mapI (by omega) (by assumption) ?_ | refine PickN.mk _ (by assumption) ?_ | refine PickN.mk _ rfl ?_ | refine PickN.au ?_ | refine App.au rfl ?_ | refine App.au (own_map (fun _ => rfl) _) ?_ | refine Both.mk ?_ ?_ | exact True.intro
    refine Br.d (fun h3 => ?_) (fun h3 => ?_)
    · obtain ⟨i, gi, gim⟩ := getK (l := b) (k := b.length - 1) (by omega)
      have gi' : b[((b.length : Int) - 1).toNat]? = some i := by rw [show ((b.length : Int) - 1).toNat = b.length - 1 by omega]; exact gi
      have hl := targetsF_len i
      have e2 : goesTo block b = decide (block ∈ targetsF i) := by unfold goesTo; rw [gi]
      repeat' first | refine Call.eq (Targets_spec i (hb2 i gim)) rfl ?_ | refine Look.yes ?_ | refine View.map (fun _ => rfl) ?_ | refine CallV.eq (HasInt_spec (targetsF i) _ (by omega)) rfl (Free.lit _) ?_ | refine Len.map ?_ | refine Len.nil ?_ | refine Len.cons ?_ | refine Br.t rfl ?_ | refine Br.f rfl ?_ | refine Fit.au ?_ | refine Need.au ?_ | refine Pick.map (by assumption) ?_ | refine Pick.mapI (by omega) (by assumption) ?_ | refine PickN.mk _ (by assumption) ?_ | refine PickN.mk _ rfl ?_ | refine PickN.au ?_ | refine App.au rfl ?_ | refine App.au (own_map (fun _ => rfl) _) ?_ | refine Both.mk ?_ ?_ | exact True.intro | refine Br.d (fun h => ?_) (fun h => ?_) | refine Br.nd (fun h => ?_) (fun h => ?_) | refine Br.mk (fun h => ?_) (fun h => ?_)
      all_goals
        rw [e2] at e1
        refine Stop.mk (ih (k + 1) (g := []) _ _ _ (by omega) (by omega) ?_)
        rw [e1]
      · rw [if_pos (by simpa using h), Int.natCast_add]
        exact ⟨rfl, (by repeat' first | exact trivial | refine ⟨rfl, ?_⟩ | refine ⟨congrArg (fun n => AV.lit (.int .i64 n)) (by omega), ?_⟩ | refine ⟨congrArg (fun l => some (Row.row 1 l)) (by simp [int1, num, tru]), ?_⟩), (by repeat' first | exact trivial | refine ⟨rfl, ?_⟩ | refine ⟨congrArg (fun n => AV.lit (.int .i64 n)) (by omega), ?_⟩ | refine ⟨congrArg (fun l => some (Row.row 1 l)) (by simp [int1, num, tru]), ?_⟩)⟩
      · rw [if_neg (by simpa using h), Nat.add_zero]
        exact ⟨rfl, (by repeat' first | exact trivial | refine ⟨rfl, ?_⟩ | refine ⟨congrArg (fun n => AV.lit (.int .i64 n)) (by omega), ?_⟩ | refine ⟨congrArg (fun l => some (Row.row 1 l)) (by simp [int1, num, tru]), ?_⟩), (by repeat' first | exact trivial | refine ⟨rfl, ?_⟩ | refine ⟨congrArg (fun n => AV.lit (.int .i64 n)) (by omega), ?_⟩ | refine ⟨congrArg (fun l => some (Row.row 1 l)) (by simp [int1, num, tru]), ?_⟩)⟩
    · repeat' first | refine Len.map ?_ | refine Len.nil ?_ | refine Len.cons ?_ | refine Br.t rfl ?_ | refine Br.f rfl ?_ | refine Fit.au ?_ | refine Need.au ?_ | refine Pick.map (by assumption) ?_ | refine Pick.mapI (by omega) (by assumption) ?_ | refine PickN.mk _ (by assumption) ?_ | refine PickN.mk _ rfl ?_ | refine PickN.au ?_ | refine App.au rfl ?_ | refine App.au (own_map (fun _ => rfl) _) ?_ | refine Both.mk ?_ ?_ | exact True.intro
      have e2 : goesTo block b = false := by unfold goesTo; rw [List.getElem?_eq_none (by omega)]
      rw [e2] at e1
      refine Stop.mk (ih (k + 1) (g := []) _ _ _ (by omega) (by omega) ?_)
      rw [e1]
      exact ⟨rfl, (by repeat' first | exact trivial | refine ⟨rfl, ?_⟩ | refine ⟨congrArg (fun n => AV.lit (.int .i64 n)) (by omega), ?_⟩ | refine ⟨congrArg (fun l => some (Row.row 1 l)) (by simp [int1, num, tru]), ?_⟩), (by repeat' first | exact trivial | refine ⟨rfl, ?_⟩ | refine ⟨congrArg (fun n => AV.lit (.int .i64 n)) (by omega), ?_⟩ | refine ⟨congrArg (fun l => some (Row.row 1 l)) (by simp [int1, num, tru]), ?_⟩)⟩
  · repeat' first | refine Len.map ?_ | refine Len.nil ?_ | refine Len.cons ?_ | refine Br.t rfl ?_ | refine Br.f rfl ?_ | refine Fit.au ?_ | refine Need.au ?_ | refine Pick.map (by assumption) ?_ | refine Pick.mapI (by omega) (by assumption) ?_ | refine PickN.mk _ (by assumption) ?_ | refine PickN.mk _ rfl ?_ | refine PickN.au ?_ | refine App.au rfl ?_ | refine App.au (own_map (fun _ => rfl) _) ?_ | refine Both.mk ?_ ?_ | exact True.intro
    show _ = _
    rw [take_all (by omega)]; rfl

theorem form_spec (b : List Ins) (j : Nat) (i : Ins) (gi : b[j]? = some i) (hb : b.length < 9223372036854775807) (hi : i.fits) : FnSpec Try.prog 103 [.sl false 9 (b.map Ins.cs), num j] (fun r => ∃ v, r = tru v ∧ (v = true ↔ formF b j i)) := by
  have hj := (List.getElem?_eq_some_iff.1 gi).1
  refine spec_of 1000 Try.func103 rfl rfl ?_
  repeat' first | refine Call.eq (Right15_spec i hi) rfl ?_ | refine Call.eq (Ends_spec _) rfl ?_ | refine Len.map ?_ | refine Len.nil ?_ | refine Len.cons ?_ | refine Br.t rfl ?_ | refine Br.f rfl ?_ | refine Fit.au ?_ | refine Need.au ?_ | refine Pick.map (by assumption) ?_ | refine Pick.mapI (by omega) (by assumption) ?_ | refine PickN.mk _ (by assumption) ?_ | refine PickN.mk _ rfl ?_ | refine PickN.au ?_ | refine App.au rfl ?_ | refine App.au (own_map (fun _ => rfl) _) ?_ | refine Both.mk ?_ ?_ | exact True.intro | refine Br.d (fun h => ?_) (fun h => ?_) | refine Br.nd (fun h => ?_) (fun h => ?_) | refine Br.mk (fun h => ?_) (fun h => ?_)
  · refine ⟨false, rfl, ⟨fun h => (by cases h), fun h' => ?_⟩⟩
    have := h'.1; simp_all
  · refine ⟨false, rfl, ⟨fun h => (by cases h), fun h' => ?_⟩⟩
    exfalso
    have h1 := h'.2.1
    cases he : endsF i.op <;> simp_all <;> omega
  have hr : right15 i = true := by simpa using ‹(!right15 i) = false›
  have he : endsF i.op = true ↔ j + 1 = b.length := by
    have h1 : endsF i.op = decide ((j : Int) = b.length - 1) := by simpa using h
    rw [h1]; simp; omega
  refine Stop.mk (loop_in (fun m : Nat => [(0, .sl false 9 (b.map Ins.cs)), (1, num j), (5, .hp 0 0), (6, num m)]) (fun _ => [(0, .var i.cs)]) 1 (fun m => m ≤ j ∧ (i.op = 44 → ∀ x ∈ b.take m, x.op = 44)) (fun m => j - m) 0 ⟨by omega, by simp⟩ (g := []) ⟨rfl, (by repeat' first | exact trivial | refine ⟨rfl, ?_⟩ | refine ⟨congrArg (fun n => AV.lit (.int .i64 n)) (by omega), ?_⟩ | refine ⟨congrArg (fun l => some (Row.row 1 l)) (by simp [int1, num, tru]), ?_⟩), (by repeat' first | exact trivial | refine ⟨rfl, ?_⟩ | refine ⟨congrArg (fun n => AV.lit (.int .i64 n)) (by omega), ?_⟩ | refine ⟨congrArg (fun l => some (Row.row 1 l)) (by simp [int1, num, tru]), ?_⟩)⟩ (fun m hm ih => ?_))
  obtain ⟨hm, hw⟩ := hm
  refine go 1000 Try.func103 ?_
  repeat' first | refine Len.map ?_ | refine Len.nil ?_ | refine Len.cons ?_ | refine Br.t rfl ?_ | refine Br.f rfl ?_ | refine Fit.au ?_ | refine Need.au ?_ | refine Pick.map (by assumption) ?_ | refine Pick.mapI (by omega) (by assumption) ?_ | refine PickN.mk _ (by assumption) ?_ | refine PickN.mk _ rfl ?_ | refine PickN.au ?_ | refine App.au rfl ?_ | refine App.au (own_map (fun _ => rfl) _) ?_ | refine Both.mk ?_ ?_ | exact True.intro
  refine Br.d (fun h2 => ?_) (fun h2 => ?_)
  · repeat' first | refine Len.map ?_ | refine Len.nil ?_ | refine Len.cons ?_ | refine Br.t rfl ?_ | refine Br.f rfl ?_ | refine Fit.au ?_ | refine Need.au ?_ | refine Pick.map (by assumption) ?_ | refine Pick.mapI (by omega) (by assumption) ?_ | refine PickN.mk _ (by assumption) ?_ | refine PickN.mk _ rfl ?_ | refine PickN.au ?_ | refine App.au rfl ?_ | refine App.au (own_map (fun _ => rfl) _) ?_ | refine Both.mk ?_ ?_ | exact True.intro
    refine Br.d (fun h3 => ?_) (fun h3 => ?_)
    · obtain ⟨x, gx, gxm⟩ := getK (l := b) (k := m) (by omega)
      repeat' first | refine Len.map ?_ | refine Len.nil ?_ | refine Len.cons ?_ | refine Br.t rfl ?_ | refine Br.f rfl ?_ | refine Fit.au ?_ | refine Need.au ?_ | refine Pick.map (by assumption) ?_ | refine Pick.mapI (by omega) (by assumption) ?_ | refine PickN.mk _ (by assumption) ?_ | refine PickN.mk _ rfl ?_ | refine PickN.au ?_ | refine App.au rfl ?_ | refine App.au (own_map (fun _ => rfl) _) ?_ | refine Both.mk ?_ ?_ | exact True.intro
      refine Br.nd (fun h4 => ?_) (fun h4 => ?_)
      · repeat' first | refine Len.map ?_ | refine Len.nil ?_ | refine Len.cons ?_ | refine Br.t rfl ?_ | refine Br.f rfl ?_ | refine Fit.au ?_ | refine Need.au ?_ | refine Pick.map (by assumption) ?_ | refine Pick.mapI (by omega) (by assumption) ?_ | refine PickN.mk _ (by assumption) ?_ | refine PickN.mk _ rfl ?_ | refine PickN.au ?_ | refine App.au rfl ?_ | refine App.au (own_map (fun _ => rfl) _) ?_ | refine Both.mk ?_ ?_ | exact True.intro
        refine ⟨false, rfl, ⟨fun h => (by cases h), fun h' => ?_⟩⟩
        exact absurd (h'.2.2 h3 x (List.mem_of_getElem? (i := m) (by rw [List.getElem?_take_of_lt (by omega)]; exact gx))) h4
      · repeat' first | refine Len.map ?_ | refine Len.nil ?_ | refine Len.cons ?_ | refine Br.t rfl ?_ | refine Br.f rfl ?_ | refine Fit.au ?_ | refine Need.au ?_ | refine Pick.map (by assumption) ?_ | refine Pick.mapI (by omega) (by assumption) ?_ | refine PickN.mk _ (by assumption) ?_ | refine PickN.mk _ rfl ?_ | refine PickN.au ?_ | refine App.au rfl ?_ | refine App.au (own_map (fun _ => rfl) _) ?_ | refine Both.mk ?_ ?_ | exact True.intro
        refine Stop.mk (ih (m + 1) (g := []) _ _ _ ⟨by omega, fun h => all_take_succ gx (hw h) h4⟩ (by omega) ⟨rfl, (by repeat' first | exact trivial | refine ⟨rfl, ?_⟩ | refine ⟨congrArg (fun n => AV.lit (.int .i64 n)) (by omega), ?_⟩ | refine ⟨congrArg (fun l => some (Row.row 1 l)) (by simp [int1, num, tru]), ?_⟩), (by repeat' first | exact trivial | refine ⟨rfl, ?_⟩ | refine ⟨congrArg (fun n => AV.lit (.int .i64 n)) (by omega), ?_⟩ | refine ⟨congrArg (fun l => some (Row.row 1 l)) (by simp [int1, num, tru]), ?_⟩)⟩)
    · repeat' first | refine Len.map ?_ | refine Len.nil ?_ | refine Len.cons ?_ | refine Br.t rfl ?_ | refine Br.f rfl ?_ | refine Fit.au ?_ | refine Need.au ?_ | refine Pick.map (by assumption) ?_ | refine Pick.mapI (by omega) (by assumption) ?_ | refine PickN.mk _ (by assumption) ?_ | refine PickN.mk _ rfl ?_ | refine PickN.au ?_ | refine App.au rfl ?_ | refine App.au (own_map (fun _ => rfl) _) ?_ | refine Both.mk ?_ ?_ | exact True.intro
      exact ⟨true, rfl, ⟨fun _ => ⟨hr, he, fun h => absurd h h3⟩, fun _ => rfl⟩⟩
  · repeat' first | refine Len.map ?_ | refine Len.nil ?_ | refine Len.cons ?_ | refine Br.t rfl ?_ | refine Br.f rfl ?_ | refine Fit.au ?_ | refine Need.au ?_ | refine Pick.map (by assumption) ?_ | refine Pick.mapI (by omega) (by assumption) ?_ | refine PickN.mk _ (by assumption) ?_ | refine PickN.mk _ rfl ?_ | refine PickN.au ?_ | refine App.au rfl ?_ | refine App.au (own_map (fun _ => rfl) _) ?_ | refine Both.mk ?_ ?_ | exact True.intro
    have : m = j := by omega
    subst this
    exact ⟨true, rfl, ⟨fun _ => ⟨hr, he, hw⟩, fun _ => rfl⟩⟩

theorem all_spec (f : Fun) (regs kinds : List Int) (hr : regs.length < 1000000) (hk : kinds.length < 1000000) (hb : ∀ r ∈ regs, 0 ≤ r ∧ r < f.regs.length) : FnSpec Try.prog 105 [funA f, ints regs, ints kinds] (fun r => r = tru (decide (regs.map (fun r => f.regs.getD r.toNat 0) = kinds))) := by
  refine spec_of 1000 Try.func105 rfl rfl ?_
  repeat' first | refine Len.map ?_ | refine Len.nil ?_ | refine Len.cons ?_ | refine Br.t rfl ?_ | refine Br.f rfl ?_ | refine Fit.au ?_ | refine Need.au ?_ | refine Pick.map (by assumption) ?_ | refine Pick.mapI (by omega) (by assumption) ?_ | refine PickN.mk _ (by assumption) ?_ | refine PickN.mk _ rfl ?_ | refine PickN.au ?_ | refine App.au rfl ?_ | refine App.au (own_map (fun _ => rfl) _) ?_ | refine Both.mk ?_ ?_ | exact True.intro
  refine Br.nd (fun h1 => ?_) (fun h1 => ?_)
  · repeat' first | refine Len.map ?_ | refine Len.nil ?_ | refine Len.cons ?_ | refine Br.t rfl ?_ | refine Br.f rfl ?_ | refine Fit.au ?_ | refine Need.au ?_ | refine Pick.map (by assumption) ?_ | refine Pick.mapI (by omega) (by assumption) ?_ | refine PickN.mk _ (by assumption) ?_ | refine PickN.mk _ rfl ?_ | refine PickN.au ?_ | refine App.au rfl ?_ | refine App.au (own_map (fun _ => rfl) _) ?_ | refine Both.mk ?_ ?_ | exact True.intro
    have : ¬ regs.map (fun r => f.regs.getD r.toNat 0) = kinds := fun e => h1 (by rw [← e, List.length_map])
    rw [decide_eq_false this]; rfl
  repeat' first | refine Len.map ?_ | refine Len.nil ?_ | refine Len.cons ?_ | refine Br.t rfl ?_ | refine Br.f rfl ?_ | refine Fit.au ?_ | refine Need.au ?_ | refine Pick.map (by assumption) ?_ | refine Pick.mapI (by omega) (by assumption) ?_ | refine PickN.mk _ (by assumption) ?_ | refine PickN.mk _ rfl ?_ | refine PickN.au ?_ | refine App.au rfl ?_ | refine App.au (own_map (fun _ => rfl) _) ?_ | refine Both.mk ?_ ?_ | exact True.intro
  refine Stop.mk (loop_in (fun m : Nat => [(1, ints regs), (2, ints kinds), (3, .hp 0 0), (7, num m)]) (fun _ => [(0, .var f.cs)]) 1 (fun m => m ≤ regs.length ∧ (regs.take m).map (fun r => f.regs.getD r.toNat 0) = kinds.take m) (fun m => regs.length - m) 0 ⟨by omega, by simp⟩ (g := []) ⟨rfl, (by repeat' first | exact trivial | refine ⟨rfl, ?_⟩ | refine ⟨congrArg (fun n => AV.lit (.int .i64 n)) (by omega), ?_⟩ | refine ⟨congrArg (fun l => some (Row.row 1 l)) (by simp [int1, num, tru]), ?_⟩), (by repeat' first | exact trivial | refine ⟨rfl, ?_⟩ | refine ⟨congrArg (fun n => AV.lit (.int .i64 n)) (by omega), ?_⟩ | refine ⟨congrArg (fun l => some (Row.row 1 l)) (by simp [int1, num, tru]), ?_⟩)⟩ (fun m hm ih => ?_))
  obtain ⟨hm, hw⟩ := hm
  refine go 1000 Try.func105 ?_
  repeat' first | refine Len.map ?_ | refine Len.nil ?_ | refine Len.cons ?_ | refine Br.t rfl ?_ | refine Br.f rfl ?_ | refine Fit.au ?_ | refine Need.au ?_ | refine Pick.map (by assumption) ?_ | refine Pick.mapI (by omega) (by assumption) ?_ | refine PickN.mk _ (by assumption) ?_ | refine PickN.mk _ rfl ?_ | refine PickN.au ?_ | refine App.au rfl ?_ | refine App.au (own_map (fun _ => rfl) _) ?_ | refine Both.mk ?_ ?_ | exact True.intro
  refine Br.d (fun h2 => ?_) (fun h2 => ?_)
  · obtain ⟨x, gx, gxm⟩ := getK (l := regs) (k := m) (by omega)
    obtain ⟨y, gy, gym⟩ := getK (l := kinds) (k := m) (by omega)
    have hx := hb x gxm
    obtain ⟨z, gz, gzm⟩ := getK (l := f.regs) (k := x.toNat) (by omega)
    have ez : f.regs.getD x.toNat 0 = z := by rw [List.getD_eq_getElem?_getD, gz]; rfl
    repeat' first | refine Draw.mk (ordL [] [0, 1, 2, 3, 4, 5, 6, 7, 8, 9, 10, 11, 12]) (by decide +kernel) ?_ | refine Len.map ?_ | refine Len.nil ?_ | refine Len.cons ?_ | refine Br.t rfl ?_ | refine Br.f rfl ?_ | refine Fit.au ?_ | refine Need.au ?_ | refine Pick.map (by assumption) ?_ | refine Pick.mapI (by omega) (by assumption) ?_ | refine PickN.mk _ (by assumption) ?_ | refine PickN.mk _ rfl ?_ | refine PickN.au ?_ | refine App.au rfl ?_ | refine App.au (own_map (fun _ => rfl) _) ?_ | refine Both.mk ?_ ?_ | exact True.intro
    refine Br.nd (fun h4 => ?_) (fun h4 => ?_)
    · repeat' first | refine Len.map ?_ | refine Len.nil ?_ | refine Len.cons ?_ | refine Br.t rfl ?_ | refine Br.f rfl ?_ | refine Fit.au ?_ | refine Need.au ?_ | refine Pick.map (by assumption) ?_ | refine Pick.mapI (by omega) (by assumption) ?_ | refine PickN.mk _ (by assumption) ?_ | refine PickN.mk _ rfl ?_ | refine PickN.au ?_ | refine App.au rfl ?_ | refine App.au (own_map (fun _ => rfl) _) ?_ | refine Both.mk ?_ ?_ | exact True.intro
      have : ¬ regs.map (fun r => f.regs.getD r.toNat 0) = kinds := fun e => by
        have h5 : (regs.map (fun r => f.regs.getD r.toNat 0))[m]? = kinds[m]? := by rw [e]
        rw [List.getElem?_map, gx, gy] at h5
        simp only [Option.map_some, Option.some.injEq] at h5
        exact h4 (by rw [← ez]; exact h5)
      rw [decide_eq_false this]; rfl
    · repeat' first | refine Len.map ?_ | refine Len.nil ?_ | refine Len.cons ?_ | refine Br.t rfl ?_ | refine Br.f rfl ?_ | refine Fit.au ?_ | refine Need.au ?_ | refine Pick.map (by assumption) ?_ | refine Pick.mapI (by omega) (by assumption) ?_ | refine PickN.mk _ (by assumption) ?_ | refine PickN.mk _ rfl ?_ | refine PickN.au ?_ | refine App.au rfl ?_ | refine App.au (own_map (fun _ => rfl) _) ?_ | refine Both.mk ?_ ?_ | exact True.intro
      refine Stop.mk (ih (m + 1) (g := []) _ _ _ ⟨by omega, ?_⟩ (by omega) ⟨rfl, (by repeat' first | exact trivial | refine ⟨rfl, ?_⟩ | refine ⟨congrArg (fun n => AV.lit (.int .i64 n)) (by omega), ?_⟩ | refine ⟨congrArg (fun l => some (Row.row 1 l)) (by simp [int1, num, tru]), ?_⟩), (by repeat' first | exact trivial | refine ⟨rfl, ?_⟩ | refine ⟨congrArg (fun n => AV.lit (.int .i64 n)) (by omega), ?_⟩ | refine ⟨congrArg (fun l => some (Row.row 1 l)) (by simp [int1, num, tru]), ?_⟩)⟩)
      rw [take_succ gx, take_succ gy, List.map_append, hw]
      simp only [List.map_cons, List.map_nil]
      rw [ez, h4]
  · repeat' first | refine Len.map ?_ | refine Len.nil ?_ | refine Len.cons ?_ | refine Br.t rfl ?_ | refine Br.f rfl ?_ | refine Fit.au ?_ | refine Need.au ?_ | refine Pick.map (by assumption) ?_ | refine Pick.mapI (by omega) (by assumption) ?_ | refine PickN.mk _ (by assumption) ?_ | refine PickN.mk _ rfl ?_ | refine PickN.au ?_ | refine App.au rfl ?_ | refine App.au (own_map (fun _ => rfl) _) ?_ | refine Both.mk ?_ ?_ | exact True.intro
    rw [take_all (by omega), take_all (by omega)] at hw
    rw [decide_eq_true hw]; rfl
end Go.Proofs.Ytnfkdilmoppbpaa
