/- Nothing is wrong with a program in which what is told is inserted, and all is surely written there. No program is in sight here. -/
import Derived.Test.YtnfkdilmoppbpaaPG14
import Derived.Test.YtnfkdilmoppbpaaPG09
set_option linter.unusedVariables false
set_option linter.unusedSimpArgs false

namespace Go.Proofs.Ytnfkdilmoppbpaa
open Go.Ax

theorem no_args {i : Ins} (h : right15 i = true) (ho : i.op = 26 ∨ (3 ≤ i.op ∧ i.op ≤ 8) ∨ i.op = 32) : i.args = [] := by
  unfold right15 tailF at h
  rw [if_neg (by omega), if_neg (by omega), if_neg (by omega)] at h
  simp at h
  exact h.2.2.2.1
theorem uses_26 {i : Ins} (h : right15 i = true) (ho : i.op = 26) : usesF i = [i.a] := by
  unfold usesF
  rw [if_pos h, no_args h (.inl ho)]
  have h1 : (abF i.op || oneF i.op) = true := by rw [ho]; unfold oneF; simp
  have h2 : bF i = false := by unfold bF abF twoF; simp [ho]
  rw [h1, h2]
  simp [ho]
theorem uses_3 {i : Ins} (h : right15 i = true) (ho : (3 ≤ i.op ∧ i.op ≤ 8) ∨ i.op = 32) : usesF i = [i.a, i.b] := by
  unfold usesF
  rw [if_pos h, no_args h (.inr ho)]
  have h0 : abF i.op = true := by unfold abF twoF; simp; omega
  have h1 : (abF i.op || oneF i.op) = true := by rw [h0]; rfl
  have h2 : bF i = true := by unfold bF; rw [h0]; simp; omega
  rw [h1, h2]
  simp; omega
theorem kinds_26 {p : Pro} {f : Fun} {k : Nat} {b : List Ins} {j : Nat} {i : Ins} (h : oneP p f k b j i) (ho : i.op = 26) : f.regs.getD i.a.toNat 0 = 3 := by
  obtain ⟨h1, -, h2, -⟩ := h
  rw [uses_26 h1.1 ho] at h2
  unfold kindsF at h2
  rw [if_neg (by omega), if_neg (by omega), if_neg (by omega), if_pos (by omega)] at h2
  simpa using h2
theorem kinds_32 {p : Pro} {f : Fun} {k : Nat} {b : List Ins} {j : Nat} {i : Ins} (h : oneP p f k b j i) (ho : i.op = 32) : f.regs.getD i.a.toNat 0 = 3 ∧ f.regs.getD i.b.toNat 0 = 1 := by
  obtain ⟨h1, -, h2, -⟩ := h
  rw [uses_3 h1.1 (.inr ho)] at h2
  unfold kindsF at h2
  rw [if_neg (by omega), if_neg (by omega), if_neg (by omega), if_neg (by omega), if_pos (by omega)] at h2
  simpa using h2
theorem kinds_3 {p : Pro} {f : Fun} {k : Nat} {b : List Ins} {j : Nat} {i : Ins} (h : oneP p f k b j i) (ho : 3 ≤ i.op ∧ i.op ≤ 8) (ha : f.regs.getD i.a.toNat 0 = 1) : f.regs.getD i.b.toNat 0 = 1 := by
  obtain ⟨h1, -, h2, -⟩ := h
  rw [uses_3 h1.1 (.inl ho)] at h2
  unfold kindsF at h2
  by_cases h34 : i.op = 3 ∨ i.op = 4
  · rw [if_pos h34] at h2
    simp only [List.map_cons, List.map_nil, List.cons.injEq] at h2
    omega
  · repeat' rw [if_neg (by omega)] at h2
    rw [uses_3 h1.1 (.inl ho)] at h2
    simp at h2
    exact h2.2
theorem insB_at {f : Fun} {P : List (List Int)} {k q : Nat} {b : List Ins} {x : Ins} (h : (insB f P k b)[q]? = some x) :
    x ∈ toldF f k P ∨ ∃ j i, b[j]? = some i ∧ (∀ y ∈ b.take j, y ∈ (insB f P k b).take q) ∧ ((x = i ∧ (j + 1 = b.length → i.op ≠ 32 → q + 1 = (insB f P k b).length)) ∨ (x = piIns i.b i.a 20 ∧ i.op = 32)) := by
  unfold insB at h ⊢
  by_cases hq : q < (toldF f k P).length
  · rw [List.getElem?_append_left hq] at h
    exact .inl (List.mem_of_getElem? h)
  · right
    rw [List.getElem?_append_right (by omega)] at h
    obtain ⟨j, i, gi, hx⟩ := aft_at b _ x h
    refine ⟨j, i, gi, fun y hy => ?_, ?_⟩
    · obtain ⟨n, gn⟩ := List.getElem?_of_mem (mem_aft hy)
      have hn := (List.getElem?_eq_some_iff.1 gn).1
      have hl : (b.flatMap aft)[n]? = some y := by
        rw [← List.take_append_drop j b, List.flatMap_append, List.getElem?_append_left hn]; exact gn
      refine List.mem_of_getElem? (i := (toldF f k P).length + n) ?_
      rw [List.getElem?_take_of_lt (by omega), List.getElem?_append_right (by omega), show (toldF f k P).length + n - (toldF f k P).length = n by omega]
      exact hl
    · rcases hx with ⟨h1, h2⟩ | ⟨h1, h2, h3⟩
      · refine .inl ⟨h1, fun hj h32 => ?_⟩
        have hb : b = b.take j ++ [i] := by rw [← take_succ gi, take_all (by omega)]
        have hl : (b.flatMap aft).length = ((b.take j).flatMap aft).length + 1 := by
          have := congrArg (fun l : List Ins => (l.flatMap aft).length) hb
          simp only [List.flatMap_append, List.length_append] at this
          rw [this]
          simp [aft, h32]
        rw [List.length_append, hl]
        omega
      · exact .inr ⟨h1, h2⟩
theorem insB_sub {f : Fun} {P : List (List Int)} {k : Nat} {b : List Ins} {i : Ins} (h : i ∈ b) : i ∈ insB f P k b := List.mem_append_right _ (mem_aft h)
theorem wroteB_mono {f : Fun} {u : Int} (k : Nat) (h : wroteB f u k = true) : wroteB (insF f) u k = true := by
  unfold wroteB at *
  cases g : f.blocks[k]? with
  | none => rw [List.getD_eq_getElem?_getD, g] at h; cases h
  | some b =>
    have e1 : f.blocks.getD k [] = b := by rw [List.getD_eq_getElem?_getD, g]; rfl
    have e2 : (insF f).blocks.getD k [] = insB f (predsF (succsF f)) k b := by rw [List.getD_eq_getElem?_getD, insGet g]; rfl
    rw [e1] at h
    rw [e2]
    refine wroteI_sub (fun i hi => ?_) h
    rw [List.take_length] at hi ⊢
    exact insB_sub hi
theorem FineF.keep {p : Pro} {f : Fun} (h : FineF p f) {k : Nat} {b : List Ins} (gb : f.blocks[k]? = some b) {j q : Nat} {u : Int} (hsub : ∀ y ∈ b.take j, y ∈ (insB f (predsF (succsF f)) k b).take q) (hs : sureP f k j u) : sureP (insF f) k q u := by
  unfold sureP at *
  have e1 : f.blocks.getD ((k : Nat) : Int).toNat [] = b := by rw [Int.toNat_natCast, List.getD_eq_getElem?_getD, gb]; rfl
  have e2 : (insF f).blocks.getD ((k : Nat) : Int).toNat [] = insB f (predsF (succsF f)) k b := by rw [Int.toNat_natCast, List.getD_eq_getElem?_getD, insGet gb]; rfl
  rw [e1] at hs
  rw [e2, h.succs]
  rcases hs with hs | hs
  · exact .inl (wroteI_sub hsub hs)
  · right
    rintro ⟨h1, h2⟩
    exact hs ⟨h1, h2.mono fun n => wroteB_mono n⟩
theorem FineF.told {p : Pro} {f : Fun} (h : FineF p f) {k j m : Nat} {x i : Ins} (hx : From f k x j m i) {u : Int} (hs : sureP f j m u) (q : Nat) : sureP (insF f) k q u := by
  right
  rintro ⟨h1, h2⟩
  rw [h.succs] at h2
  have hk := hx.nz
  have hon := hx.only
  obtain ⟨b, gb, gi⟩ := hx.at_
  generalize ht : (k : Int) = t at *
  cases h2 with
  | zero => omega
  | @step n _ l hun hw gl hl =>
    have := hon n l gl hl
    subst this
    have hwf : wroteB f u n = false := by
      cases e : wroteB f u n with
      | false => rfl
      | true => rw [wroteB_mono n e] at hw; cases hw
    unfold sureP at hs
    rw [Int.toNat_natCast, List.getD_eq_getElem?_getD, gb] at hs
    rcases hs with hs | hs
    · have : wroteB f u n = true := by
        unfold wroteB
        rw [List.getD_eq_getElem?_getD, gb]
        refine wroteI_sub (fun y hy => ?_) hs
        rw [List.take_length]
        exact List.mem_of_mem_take hy
      rw [this] at hwf; cases hwf
    · exact hs ⟨h1, hun.mono fun n => wroteB_mono n⟩

theorem ins_getD (p : Pro) (n : Nat) : ((insPro p).funcs.getD n fun0).regs = (p.funcs.getD n fun0).regs ∧ ((insPro p).funcs.getD n fun0).params = (p.funcs.getD n fun0).params ∧ ((insPro p).funcs.getD n fun0).ret = (p.funcs.getD n fun0).ret := by
  have e : (insPro p).funcs.getD n fun0 = ((p.funcs[n]?).map insF).getD fun0 := by
    rw [List.getD_eq_getElem?_getD]
    show ((p.funcs.map insF)[n]?).getD fun0 = _
    rw [List.getElem?_map]
  rw [e, List.getD_eq_getElem?_getD]
  cases p.funcs[n]? <;> exact ⟨rfl, rfl, rfl⟩
theorem kindsF_ins (p : Pro) (f : Fun) (i : Ins) : kindsF (insPro p) (insF f) i = kindsF p f i := by
  obtain ⟨h1, h2, h3⟩ := ins_getD p i.n.toNat
  unfold kindsF
  rw [h1, h2]
  rfl
theorem kindF_ins (p : Pro) (f : Fun) (i : Ins) : kindF (insPro p) (insF f) i = kindF p f i := by
  obtain ⟨h1, h2, h3⟩ := ins_getD p i.n.toNat
  unfold kindF
  rw [h3]
  rfl
theorem one_keep {p : Pro} {f : Fun} {k : Nat} {b c : List Ins} {j q : Nat} {i : Ins} (h : oneP p f k b j i) (hop : i.op < 44) (he : endsF i.op = true ↔ q + 1 = c.length) : oneP (insPro p) (insF f) k c q i := by
  obtain ⟨⟨h1, h2, h3⟩, ⟨h4, h5, h6, h7, h8, h9⟩, h10, h11⟩ := h
  refine ⟨⟨h1, he, fun e => by omega⟩, ⟨h4, h5, fun t ht => ?_, h7, fun e => ?_, fun e => by omega⟩, ?_, fun e => ?_⟩
  · rw [insLen]; exact h6 t ht
  · have := h8 e
    show i.n < (p.funcs.map insF).length
    rw [List.length_map]; exact this
  · rw [kindsF_ins]; exact h10
  · rw [kindF_ins]; exact h11 e

/-- All that the insertion asks of a function. -/
structure WellF (p : Pro) (f : Fun) : Prop extends FineF p f where
  lv : ∀ (k : Nat) (b : List Ins), f.blocks[k]? = some b → (Proofs.Ytnfkdilmoppbpaa.live f)[k]? = some true
  reads : ∀ (k : Nat) (b : List Ins), f.blocks[k]? = some b → ∀ (j : Nat) (i : Ins), b[j]? = some i → readsP f k j i

theorem WellF.ins {p : Pro} {f : Fun} (h : WellF p f) {k : Nat} {c : List Ins} (gc : (insF f).blocks[k]? = some c) : c.length ≠ 0 ∧ ∀ (q : Nat) (x : Ins), c[q]? = some x → oneP (insPro p) (insF f) k c q x ∧ readsP (insF f) k q x ∧ x.op ≠ 44 := by
  obtain ⟨b, gb, rfl⟩ := insAt gc
  obtain ⟨hb0, hone⟩ := h.one k b gb
  have hrd := h.reads k b gb
  have hbm := List.mem_of_getElem? gb
  obtain ⟨e, ge, hee⟩ := h.last gb
  have heo := endsF_op hee
  have hlast := insB_last (f := f) (P := predsF (succsF f)) (k := k) ge (by omega)
  have hc0 : (insB f (predsF (succsF f)) k b).length ≠ 0 := by
    intro hz
    rw [List.getElem?_eq_none (by omega)] at hlast; cases hlast
  refine ⟨hc0, fun q x gx => ?_⟩
  have hql := (List.getElem?_eq_some_iff.1 gx).1
  have hend : q + 1 = (insB f (predsF (succsF f)) k b).length → x = e := fun hq => by
    rw [show (insB f (predsF (succsF f)) k b).length - 1 = q by omega, gx] at hlast
    exact Option.some.inj hlast
  rcases insB_at gx with hx | ⟨j, i, gi, hsub, hx⟩
  · obtain ⟨j, m, i, hfr⟩ := told_from hx
    obtain ⟨b2, gb2, gi⟩ := hfr.at_
    have hi := (h.one j b2 gb2).2 m i gi
    have hri := h.reads j b2 gb2 m i gi
    have hpos := right_pos hi.1.1
    have hlt := hi.2.1.2.1
    have hq : x.op = 45 → q + 1 ≠ (insB f (predsF (succsF f)) k b).length := fun h45 hq => by
      have := hend hq
      subst this; omega
    rcases hfr.is with ⟨rfl, h26⟩ | ⟨o, ho1, ho2, h3, h8, hka, hx⟩
    · have hu := uses_26 hi.1.1 h26
      have hka := kinds_26 hi h26
      have hal : i.a < f.regs.length := hlt i.a (by rw [hu]; simp)
      have hO : oneP (insPro p) (insF f) k (insB f (predsF (succsF f)) k b) q (piIns i.a 0 21) := pi_one ⟨hpos.2.1, hal⟩ ⟨by omega, fun h => absurd rfl h⟩ (.inr (.inr ⟨rfl, rfl⟩)) (by rw [if_pos rfl]; exact hka) (fun h => absurd rfl h) (hq rfl)
      refine ⟨hO, fun u hu2 => ?_, by simp [piIns]⟩
      rw [pi_uses hO.1.1, if_pos rfl, List.mem_singleton] at hu2
      subst hu2
      exact h.told hfr (hri _ (by rw [hu]; simp)) q
    · have hu := uses_3 hi.1.1 (.inl ⟨h3, h8⟩)
      have hkb := kinds_3 hi ⟨h3, h8⟩ hka
      have hal : i.a < f.regs.length := hlt i.a (by rw [hu]; simp)
      have hbl : i.b < f.regs.length := hlt i.b (by rw [hu]; simp)
      have hsa := fun q => h.told hfr (hri i.a (by rw [hu]; simp)) q
      have hsb := fun q => h.told hfr (hri i.b (by rw [hu]; simp)) q
      rcases hx with rfl | rfl
      · have hO : oneP (insPro p) (insF f) k (insB f (predsF (succsF f)) k b) q (piIns i.a i.b o) := pi_one ⟨hpos.2.1, hal⟩ ⟨hpos.2.2.1, fun _ => hbl⟩ (.inl ⟨ho1, ho2⟩) (by rw [if_neg (by omega)]; exact hka) (fun _ => by rw [if_neg (by omega)]; exact hkb) (hq rfl)
        refine ⟨hO, fun u hu2 => ?_, by simp [piIns]⟩
        rw [pi_uses hO.1.1, if_neg (by omega)] at hu2
        simp only [List.mem_cons, List.not_mem_nil, or_false] at hu2
        rcases hu2 with rfl | rfl
        · exact hsa q
        · exact hsb q
      · have hO : oneP (insPro p) (insF f) k (insB f (predsF (succsF f)) k b) q (piIns i.b i.a o) := pi_one ⟨hpos.2.2.1, hbl⟩ ⟨hpos.2.1, fun _ => hal⟩ (.inl ⟨ho1, ho2⟩) (by rw [if_neg (by omega)]; exact hkb) (fun _ => by rw [if_neg (by omega)]; exact hka) (hq rfl)
        refine ⟨hO, fun u hu2 => ?_, by simp [piIns]⟩
        rw [pi_uses hO.1.1, if_neg (by omega)] at hu2
        simp only [List.mem_cons, List.not_mem_nil, or_false] at hu2
        rcases hu2 with rfl | rfl
        · exact hsb q
        · exact hsa q
  · have hi := hone j i gi
    have hiop := h.op b hbm i (List.mem_of_getElem? gi)
    have hri := hrd j i gi
    rcases hx with ⟨rfl, hlen⟩ | ⟨rfl, h32⟩
    · refine ⟨one_keep hi hiop ⟨fun hend2 => ?_, fun hq => ?_⟩, fun u hu => h.keep gb hsub (hri u hu), by omega⟩
      · have := endsF_op hend2
        exact hlen (hi.1.2.1.1 hend2) (by omega)
      · have := hend hq
        subst this; exact hee
    · have hu := uses_3 hi.1.1 (.inr h32)
      obtain ⟨hka, hkb⟩ := kinds_32 hi h32
      have hpos := right_pos hi.1.1
      have hlt := hi.2.1.2.1
      have hal : i.a < f.regs.length := hlt i.a (by rw [hu]; simp)
      have hbl : i.b < f.regs.length := hlt i.b (by rw [hu]; simp)
      have hq : q + 1 ≠ (insB f (predsF (succsF f)) k b).length := fun hq => by
        have := hend hq
        have h45 : e.op = 45 := by rw [← this]; rfl
        omega
      have hO : oneP (insPro p) (insF f) k (insB f (predsF (succsF f)) k b) q (piIns i.b i.a 20) := pi_one ⟨hpos.2.2.1, hbl⟩ ⟨hpos.2.1, fun _ => hal⟩ (.inr (.inl rfl)) (by rw [if_neg (by omega)]; exact hkb) (fun _ => by rw [if_pos rfl]; exact hka) hq
      refine ⟨hO, fun u hu2 => ?_, by simp [piIns]⟩
      rw [pi_uses hO.1.1, if_neg (by omega)] at hu2
      simp only [List.mem_cons, List.not_mem_nil, or_false] at hu2
      rcases hu2 with rfl | rfl
      · exact h.keep gb hsub (hri _ (by rw [hu]; simp))
      · exact h.keep gb hsub (hri _ (by rw [hu]; simp))
end Go.Proofs.Ytnfkdilmoppbpaa

/- A valid program in which what is told is inserted: nothing is wrong, all is surely written, and it is small. No program is in sight here. -/
namespace Go.Proofs.Ytnfkdilmoppbpaa
open Go.Ax

theorem fz_icsL (b : List Ins) : AV.fzLL (b.map Ins.cs) = b.map Ins.cs := fzLL_map (enc2 := Ins.cs) (fun _ => rfl) b
theorem fz_prO (l : List Fun) (m : Int) (s : List (Int × Int)) : AV.fzL [.osl 5 (l.map Fun.ocs), num m, .osl 2 (s.map site)] = [.sl false 5 (l.map Fun.cs), num m, .sl false 2 (s.map site)] := by
  show [AV.sl false 5 (AV.fzLL (l.map Fun.ocs)), _, AV.sl false 2 (AV.fzLL (s.map site))] = _
  rw [fzLL_map fz_focs, fzLL_map fz_site]; rfl
theorem insB_len (f : Fun) (P : List (List Int)) (k : Nat) (b : List Ins) : (insB f P k b).length ≤ 2 + 2 * b.length := by
  unfold insB
  rw [List.length_append]
  have := toldF_len f k P
  have := aft_len b
  omega
theorem insB_mem {f : Fun} {k : Nat} {b : List Ins} {x : Ins} (h : x ∈ insB f (predsF (succsF f)) k b) : x.args = [] ∨ x ∈ b := by
  obtain ⟨q, gx⟩ := List.getElem?_of_mem h
  rcases insB_at gx with hx | ⟨j, i, gi, -, hx⟩
  · left
    obtain ⟨j, m, i, hfr⟩ := told_from hx
    rcases hfr.is with ⟨rfl, -⟩ | ⟨o, _, _, _, _, _, rfl | rfl⟩ <;> rfl
  · rcases hx with ⟨rfl, -⟩ | ⟨rfl, -⟩
    · right; exact List.mem_of_getElem? gi
    · left; rfl
theorem insF_mem {f : Fun} {c : List Ins} (h : c ∈ (insF f).blocks) : ∃ b ∈ f.blocks, c.length ≤ 2 + 2 * b.length ∧ ∀ x ∈ c, x.args = [] ∨ x ∈ b := by
  obtain ⟨k, gc⟩ := List.getElem?_of_mem h
  obtain ⟨b, gb, rfl⟩ := insAt gc
  exact ⟨b, List.mem_of_getElem? gb, insB_len f _ k b, fun x hx => insB_mem hx⟩
theorem sum_mapIdx_le {α β : Type} (g : Nat → α → List β) (w : α → Nat) : ∀ (l : List α) (n : Nat), (∀ k, ∀ x ∈ l, (g k x).length ≤ 2 + 2 * w x) → ((l.mapIdx (fun k x => g (n + k) x)).map List.length).sum ≤ 2 * l.length + 2 * (l.map w).sum
  | [], n, h => by simp
  | x :: l, n, h => by
    rw [List.mapIdx_cons]
    simp only [List.map_cons, List.sum_cons, List.length_cons]
    have h1 := h (n + 0) x (List.mem_cons_self ..)
    have h2 := sum_mapIdx_le g w l (n + 1) fun k y hy => h k y (List.mem_cons_of_mem _ hy)
    have e : (fun (k : Nat) x => g (n + (k + 1)) x) = fun k x => g (n + 1 + k) x := by funext k x; congr 1; omega
    rw [e]
    omega
theorem insF_count (f : Fun) : (insF f).count ≤ 2 * f.blocks.length + 2 * f.count := by
  have := sum_mapIdx_le (insB f (predsF (succsF f))) List.length f.blocks 0 fun k x _ => insB_len f _ k x
  simp only [Nat.zero_add] at this
  exact this
theorem insF_fits {f : Fun} (hf : f.fits) (hb : ∀ b ∈ f.blocks, b.length ≤ 1000000) : (insF f).fits := by
  refine ⟨by rw [insLen]; exact hf.1, hf.2.1, fun c hc => ?_⟩
  obtain ⟨b, hbm, h1, h2⟩ := insF_mem hc
  have := hb b hbm
  refine ⟨by omega, fun x hx => ?_⟩
  rcases h2 x hx with h | h
  · unfold Ins.fits; rw [h]; decide
  · exact (hf.2.2 b hbm).2 x h
theorem insPro_okT {p : Pro} (h : p.few 150) (hp : p.fits) : (insPro p).okT := by
  obtain ⟨h1, h2, h3⟩ := h.okT hp
  refine ⟨by show (p.funcs.map insF).length ≤ _; rw [List.length_map]; exact h1, h2, fun g hg => ?_⟩
  obtain ⟨f, hf, rfl⟩ := List.mem_map.1 hg
  obtain ⟨a1, a2, a3, a4⟩ := h3 f hf
  have hc := Pro.count_fun hf
  have hc2 := h.2.2.1
  refine ⟨insF_fits a1 fun b hb => (a4 b hb).1, by rw [insLen]; exact a2, a3, fun c hc => ?_⟩
  obtain ⟨b, hbm, b1, b2⟩ := insF_mem hc
  have := Fun.len_le hbm
  refine ⟨by omega, fun x hx => ?_⟩
  rcases b2 x hx with h | h
  · rw [h]; decide
  · exact (a4 b hbm).2 x h
theorem insPro_fits {p : Pro} (h : p.few 150) (hp : p.fits) : (insPro p).fits := by
  obtain ⟨h1, h2, h3⟩ := insPro_okT h hp
  exact ⟨by omega, by omega, fun f hf => (h3 f hf).1⟩
theorem insPro_slim {p : Pro} (h : p.few 150) (hp : p.fits) : (insPro p).slim := by
  obtain ⟨-, h3⟩ := h.slim (by decide) hp
  refine ⟨insPro_fits h hp, fun g hg => ?_⟩
  obtain ⟨f, hf, rfl⟩ := List.mem_map.1 hg
  obtain ⟨b1, b2, b3⟩ := h3 f hf
  have hc := Pro.count_fun hf
  have hc2 := h.2.2.1
  have hfb := (h.2.2.2 f hf).2.1
  have := insF_count f
  refine ⟨by omega, b2, fun c hc x hx => ?_⟩
  obtain ⟨b, hbm, -, a2⟩ := insF_mem hc
  rcases a2 x hx with h | h
  · rw [h]; decide
  · exact b3 b hbm x h
theorem validP.well {p : Pro} (hv : validP p) {f : Fun} (hf : f ∈ p.funcs) : WellF p f := by
  obtain ⟨h1, h2, h3⟩ := hv
  exact ⟨⟨(h1.2.2.2 f hf).2, h2 f hf⟩, fun k b gb => (h3 f hf k b gb).1, fun k b gb => (h3 f hf k b gb).2⟩
theorem insPro_valid {p : Pro} (h : p.few 150) (hv : validP p) : proP (insPro p) ∧ surelyP (insPro p) ∧ ∀ f ∈ (insPro p).funcs, ∀ b ∈ f.blocks, ∀ i ∈ b, i.op ≠ 44 := by
  have hw := fun f (hf : f ∈ p.funcs) => validP.well hv hf
  obtain ⟨h1, h2, h3, h4⟩ := hv.1
  refine ⟨⟨?_, h2, ?_, fun g hg => ?_⟩, fun g hg k c gc => ?_, fun g hg c hc x hx => ?_⟩
  · show (p.funcs.map insF).length ≤ 200
    rw [List.length_map]; exact h1
  · obtain ⟨m1, m2, m3, m4, m5, m6⟩ := h3
    obtain ⟨e1, e2, e3⟩ := ins_getD p p.main.toNat
    refine ⟨m1, ?_, ?_, ?_, ?_, ?_⟩
    · show p.main < (p.funcs.map insF).length
      rw [List.length_map]; exact m2
    · show ((insPro p).funcs.getD p.main.toNat fun0).params = 1
      rw [e2]; exact m3
    · show ((insPro p).funcs.getD p.main.toNat fun0).regs.length ≠ 0
      rw [e1]; exact m4
    · show ((insPro p).funcs.getD p.main.toNat fun0).regs.getD 0 0 = 3
      rw [e1]; exact m5
    · show ((insPro p).funcs.getD p.main.toNat fun0).ret = 1
      rw [e3]; exact m6
  · obtain ⟨f, hf, rfl⟩ := List.mem_map.1 hg
    obtain ⟨⟨⟨l1, l2, l3, l4, l5, l6⟩, l7, l8⟩, -⟩ := h4 f hf
    have hc := Pro.count_fun hf
    have hc2 := h.2.2.1
    have hfb := (h.2.2.2 f hf).2.1
    have := insF_count f
    refine ⟨⟨⟨l1, l2, l3, l4, by rw [insLen]; exact l5, by omega⟩, l7, fun e => ?_⟩, fun k c gc => ?_⟩
    · apply l8
      have := insLen f
      rw [e] at this
      exact List.eq_nil_of_length_eq_zero this.symm
    · obtain ⟨a1, a2⟩ := (hw f hf).ins gc
      exact ⟨a1, fun q x gx => (a2 q x gx).1⟩
  · obtain ⟨f, hf, rfl⟩ := List.mem_map.1 hg
    obtain ⟨a1, a2⟩ := (hw f hf).ins gc
    obtain ⟨b, gb, -⟩ := insAt gc
    refine ⟨?_, fun q x gx => (a2 q x gx).2.1⟩
    rw [(hw f hf).toFineF.live]
    exact (hw f hf).lv k b gb
  · obtain ⟨f, hf, rfl⟩ := List.mem_map.1 hg
    obtain ⟨k, gc⟩ := List.getElem?_of_mem hc
    obtain ⟨q, gx⟩ := List.getElem?_of_mem hx
    obtain ⟨a1, a2⟩ := (hw f hf).ins gc
    exact (a2 q x gx).2.2
end Go.Proofs.Ytnfkdilmoppbpaa
