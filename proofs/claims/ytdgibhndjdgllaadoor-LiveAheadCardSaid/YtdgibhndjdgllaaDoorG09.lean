/- What a proper program is, and what its names are, as the document's answer says it. No program is in sight here. -/
import Derived.Test.YtdgibhndjdgllaaDoorG08
import Derived.Test.YtdgibhndjdgllaaDoorG07
set_option linter.unusedVariables false
set_option linter.unusedSimpArgs false

namespace Go.Proofs.YtdgibhndjdgllaaDoor
open Go.Ax
/-- A function is proper. -/
def properF (f : Fun) : Prop := (∀ k : Nat, k < f.blocks.length → Reaches (succsF f) (-1) k) ∧ ∀ (k : Nat) (b : List Ins), f.blocks[k]? = some b → ∀ (j : Nat) (i : Ins), b[j]? = some i →
  (0 ≤ def15 i → f.params ≤ def15 i ∧ FirstAt f (def15 i) k j) ∧ (i.op ≠ 44 → ∀ u ∈ usesF i, HasP f u k j)
def properP (p : Pro) : Prop := proP p ∧ ∀ f ∈ p.funcs, properF f
theorem uses_phi {i : Ins} (e : i.op = 44) : (usesF i).length ≤ i.args.length := by
  unfold usesF
  split
  · have h1 : (abF i.op || oneF i.op) = false := by unfold abF twoF oneF; simp [e]
    have h2 : bF i = false := by unfold bF abF twoF; simp [e]
    rw [if_neg (by rw [h1]; simp), if_neg (by rw [h2]; simp), if_neg (by omega)]
    simp
  · simp
theorem countP_range {α : Type} (p : α → Bool) (l : List α) : ∀ n, n ≤ l.length → (l.take n).countP p = ((List.range n).filter (fun j => match l[j]? with | some x => p x | none => false)).length
  | 0, _ => rfl
  | n + 1, h => by
    rw [countP_take_succ (List.getElem?_eq_getElem (by omega)), List.range_succ, List.filter_append, List.length_append, countP_range p l n (by omega)]
    congr 1
    simp only [List.filter_cons, List.filter_nil]
    rw [List.getElem?_eq_getElem (by omega)]
    dsimp only
    split <;> rfl
theorem mem_succ1 {n k : Nat} {b : List Ins} (hk : k < n) : (k : Int) ∈ succ1 n b ↔ goesTo k b = true := by
  unfold succ1 goesTo below
  cases b[b.length - 1]? with
  | none => simp
  | some i =>
    simp only [decide_eq_true_iff, List.mem_filter]
    constructor
    · rintro ⟨h, _⟩; exact h
    · intro h; exact ⟨h, by omega⟩
theorem predCount_len (f : Fun) (k : Nat) (hk : k < f.blocks.length) : (predOf (succsF f) k (succsF f).length).length = predCount f k := by
  unfold predOf predCount
  have h1 := countP_range (goesTo k) f.blocks f.blocks.length (Nat.le_refl _)
  rw [List.take_length] at h1
  rw [List.length_map, h1, succsF_len]
  congr 1
  refine List.filter_congr fun j hj => ?_
  have hj := List.mem_range.1 hj
  unfold succsF
  rw [List.getElem?_map, List.getElem?_eq_getElem hj]
  simp only [Option.map_some, Option.getD_some]
  rw [Bool.eq_iff_iff, decide_eq_true_iff]
  exact mem_succ1 hk
theorem phi_preds {p : Pro} {f : Fun} {k j : Nat} {b : List Ins} {i : Ins} (gb : f.blocks[k]? = some b) (h : oneP p f k b j i) (e : i.op = 44) : (usesF i).length ≤ (predOf (succsF f) k (succsF f).length).length := by
  rw [predCount_len f k (List.getElem?_eq_some_iff.1 gb).1]
  have h1 := h.2.1.2.2.2.2.2 e
  have h2 := uses_phi e
  omega

/-- A way of so many steps. -/
inductive PathN (s : List (List Int)) : Nat → Int → Prop
  | zero : s ≠ [] → PathN s 0 0
  | step {n k : Nat} {t : Int} {l : List Int} : PathN s n k → s[k]? = some l → t ∈ l → PathN s (n + 1) t
theorem Reaches.path {s : List (List Int)} {x t : Int} (h : Reaches s x t) : ∃ n, PathN s n t := by
  induction h with
  | zero h _ => exact ⟨0, .zero h⟩
  | step _ hl ht _ ih => obtain ⟨n, ih⟩ := ih; exact ⟨n + 1, .step ih hl ht⟩
theorem PathN.thru {s : List (List Int)} {n : Nat} {t : Int} (a : Int) (h : PathN s n t) : Reaches s a t ∨ ∃ m, m ≤ n ∧ PathN s m a ∧ (m = n → a = t) := by
  induction h with
  | zero h =>
    by_cases e : a = 0
    · subst e; exact .inr ⟨0, by omega, .zero h, fun _ => rfl⟩
    · exact .inl (.zero h e)
  | @step n k t l hp hl ht ih =>
    by_cases e : t = a
    · subst e; exact .inr ⟨n + 1, by omega, .step hp hl ht, fun _ => rfl⟩
    · rcases ih with ih | ⟨m, h1, h2, h3⟩
      · exact .inl (.step ih hl ht e)
      · exact .inr ⟨m, by omega, h2, fun h => by omega⟩
theorem Dom.path {s : List (List Int)} {n : Nat} {a b : Int} (h : Dom s a b) (hn : a ≠ b) (hp : PathN s n b) : ∃ m, m < n ∧ PathN s m a := by
  rcases hp.thru a with h1 | ⟨m, h1, h2, h3⟩
  · exact absurd h1 h.2.2
  · refine ⟨m, ?_, h2⟩
    by_cases e : m = n
    · exact absurd (h3 e) hn
    · omega

/-- Of writers up to a place: what is known. -/
def WsAt (f : Fun) (ws : List Wr) (k j : Nat) : Prop := ws.length = f.regs.length ∧ ∀ d : Nat, d < f.regs.length →
  ((ws.getD d Wr0).is = true → ∃ k' a' b i, f.blocks[k']? = some b ∧ b[a']? = some i ∧ FirstAt f d k' a' ∧ ws.getD d Wr0 = ⟨i, k', true⟩) ∧
  ((ws.getD d Wr0).is = false → ws.getD d Wr0 = Wr0 ∧ ∀ k' a', WrittenAt f d k' a' → k < k' ∨ (k = k' ∧ j ≤ a'))
theorem WsAt.step {f : Fun} {ws : List Wr} {k j : Nat} {b : List Ins} {i : Ins} (h : WsAt f ws k j) (gb : f.blocks[k]? = some b) (gi : b[j]? = some i) : WsAt f (setW ws k i) k (j + 1) := by
  refine ⟨by rw [setW_len]; exact h.1, fun d hd => ?_⟩
  obtain ⟨h1, h2⟩ := h.2 d hd
  have keep : (setW ws k i).getD d Wr0 = ws.getD d Wr0 → (def15 i = d → (ws.getD d Wr0).is = true) → 
      (((setW ws k i).getD d Wr0).is = true → ∃ k' a' b i', f.blocks[k']? = some b ∧ b[a']? = some i' ∧ FirstAt f d k' a' ∧ (setW ws k i).getD d Wr0 = ⟨i', k', true⟩) ∧
      (((setW ws k i).getD d Wr0).is = false → (setW ws k i).getD d Wr0 = Wr0 ∧ ∀ k' a', WrittenAt f d k' a' → k < k' ∨ (k = k' ∧ j + 1 ≤ a')) := by
    intro e hw
    rw [e]
    refine ⟨h1, fun hf => ⟨(h2 hf).1, fun k' a' h' => ?_⟩⟩
    rcases (h2 hf).2 k' a' h' with h3 | ⟨rfl, h3⟩
    · exact .inl h3
    · refine .inr ⟨rfl, ?_⟩
      by_cases ej : j = a'
      · subst ej
        obtain ⟨b', i', e1, e2, e3⟩ := h'
        rw [gb] at e1; cases e1
        rw [gi] at e2; cases e2
        rw [hw e3] at hf; cases hf
      · omega
  by_cases hc : 0 ≤ defF i ∧ defF i < ws.length ∧ (ws.getD (defF i).toNat Wr0).is = false
  · have es : setW ws k i = ws.set (defF i).toNat ⟨i, k, true⟩ := if_pos hc
    by_cases ed : (defF i).toNat = d
    · have edI : def15 i = d := by rw [← def_eq]; omega
      have eg : (setW ws k i).getD d Wr0 = ⟨i, k, true⟩ := by
        rw [es, ed, List.getD_eq_getElem?_getD, List.getElem?_set_self (by omega)]; rfl
      rw [eg]
      refine ⟨fun _ => ⟨k, j, b, i, gb, gi, ⟨⟨b, i, gb, gi, edI⟩, fun k' a' h' => ?_⟩, rfl⟩, fun h => by cases h⟩
      have hf := hc.2.2
      rw [ed] at hf
      exact (h2 hf).2 k' a' h'
    · refine keep ?_ ?_
      · rw [es, List.getD_eq_getElem?_getD, List.getElem?_set_ne ed, ← List.getD_eq_getElem?_getD]
      · intro e; rw [← def_eq] at e; omega
  · have es : setW ws k i = ws := if_neg hc
    refine keep (by rw [es]) fun e => ?_
    rw [← def_eq] at e
    rw [e] at hc
    cases hf : (ws.getD d Wr0).is with
    | true => rfl
    | false => exact absurd ⟨by omega, by have := h.1; omega, by simpa using hf⟩ hc
theorem WsAt.blk {f : Fun} {ws : List Wr} {k : Nat} {b : List Ins} (h : WsAt f ws k 0) (gb : f.blocks[k]? = some b) : ∀ j, j ≤ b.length → WsAt f (blkW ws k b j) k j
  | 0, _ => h
  | j + 1, hj => by
    rw [blkW_succ (List.getElem?_eq_getElem (by omega))]
    exact (WsAt.blk h gb j (by omega)).step gb (List.getElem?_eq_getElem (by omega))
theorem WsAt.out {f : Fun} : ∀ k, k ≤ f.blocks.length → WsAt f (outW f k) k 0
  | 0, _ => by
    refine ⟨by simp [outW], fun d hd => ?_⟩
    have e : (outW f 0).getD d Wr0 = Wr0 := by simp only [outW, List.getD_eq_getElem?_getD, List.getElem?_replicate]; split <;> rfl
    rw [e]
    exact ⟨fun h => (by cases h), fun _ => ⟨rfl, fun k' a' _ => by omega⟩⟩
  | k + 1, hk => by
    have gb := List.getElem?_eq_getElem (l := f.blocks) (i := k) (by omega)
    rw [outW_succ gb]
    have h := (WsAt.out k (by omega)).blk gb _ (Nat.le_refl _)
    refine ⟨h.1, fun d hd => ⟨(h.2 d hd).1, fun hf => ⟨((h.2 d hd).2 hf).1, fun k' a' h' => ?_⟩⟩⟩
    rcases ((h.2 d hd).2 hf).2 k' a' h' with h3 | ⟨rfl, h3⟩
    · omega
    · obtain ⟨b', i', e1, e2, _⟩ := h'
      rw [gb] at e1; cases e1
      have := (List.getElem?_eq_some_iff.1 e2).1
      omega
/-- What is told of a name's writer. -/
theorem newF_of {f : Fun} {x k a : Int} {v : Bool} (h : WriterIs f x k a v) : (0 ≤ x ∧ x < f.regs.length → v = true → ∃ (k' a' : Nat) (b : List Ins) (i : Ins), k = k' ∧ a = a' ∧ f.blocks[k']? = some b ∧ b[a']? = some i ∧ (newF f).of x = ⟨i, k', true⟩) ∧
    ((v = false ∨ ¬ (0 ≤ x ∧ x < f.regs.length)) → (newF f).of x = Wr0) := by
  have hw := WsAt.out (f := f) _ (Nat.le_refl _)
  have hl : (newF f).ws.length = f.regs.length := newF_len f
  constructor
  · intro hx hv
    obtain ⟨k', a', rfl, rfl, h0, h1⟩ := h.1 hv
    obtain ⟨⟨b, i, gb, gi, ed⟩, h2⟩ := h1
    refine ⟨k', a', b, i, rfl, rfl, gb, gi, ?_⟩
    obtain ⟨g1, g2⟩ := hw.2 x.toNat (by omega)
    have ex : ((x.toNat : Nat) : Int) = x := by omega
    unfold Names.of
    rw [if_pos (by omega)]
    show (outW f f.blocks.length).getD _ _ = _
    cases hi : ((outW f f.blocks.length).getD x.toNat Wr0).is with
    | true =>
      obtain ⟨k2, a2, b2, i2, e1, e2, e3, e4⟩ := g1 hi
      rw [e4]
      rw [ex] at e3
      obtain ⟨rfl, rfl⟩ := e3.uniq ⟨⟨b, i, gb, gi, ed⟩, h2⟩
      rw [gb] at e1; cases e1
      rw [gi] at e2; cases e2
      rfl
    | false =>
      have := (g2 hi).2 k' a' (by rw [ex]; exact ⟨b, i, gb, gi, ed⟩)
      have := (List.getElem?_eq_some_iff.1 gb).1
      omega
  · intro hx
    unfold Names.of
    split
    · rename_i hr
      rcases hx with hv | hx
      · obtain ⟨g1, g2⟩ := hw.2 x.toNat (by omega)
        have ex : ((x.toNat : Nat) : Int) = x := by omega
        show (outW f f.blocks.length).getD _ _ = _
        cases hi : ((outW f f.blocks.length).getD x.toNat Wr0).is with
        | true =>
          obtain ⟨k2, a2, b2, i2, e1, e2, e3, e4⟩ := g1 hi
          rw [ex] at e3
          exact absurd e3.1 ((h.2 hv).2.2 hr.1 k2 a2)
        | false => exact (g2 hi).1
      · rw [hl] at hr; exact absurd hr hx
    · rfl

/-- A name's chain. -/
def Names.cp (n : Names) (x : Int) : Prop := (n.of x).is = true ∧ ((n.of x).i.op = 23 ∨ (n.of x).i.op = 45)
def Names.inR (n : Names) (x : Int) : Prop := 0 ≤ x ∧ x < n.ws.length
inductive ChainR (n : Names) : Int → List Int → Prop
  | stop {x} : n.inR x → ¬ n.cp x → ChainR n x [x]
  | step {x l} : n.inR x → n.cp x → ChainR n (n.of x).i.a l → ChainR n x (x :: l)
theorem ChainR.det {n : Names} {x : Int} {l l' : List Int} (h : ChainR n x l) (h' : ChainR n x l') : l = l' := by
  induction h generalizing l' with
  | stop h1 h2 => cases h' with
    | stop => rfl
    | step _ h3 _ => exact absurd h3 h2
  | step h1 h2 _ ih => cases h' with
    | stop _ h3 => exact absurd h2 h3
    | step _ _ h4 => rw [ih h4]
theorem ChainR.mem {n : Names} {x y : Int} {l : List Int} (h : ChainR n x l) (hy : y ∈ l) : n.inR y ∧ ∃ l', ChainR n y l' ∧ l'.length ≤ l.length := by
  induction h with
  | stop h1 h2 => simp at hy; subst hy; exact ⟨h1, _, .stop h1 h2, Nat.le_refl _⟩
  | step h1 h2 h3 ih =>
    rcases List.mem_cons.1 hy with rfl | hy
    · exact ⟨h1, _, .step h1 h2 h3, Nat.le_refl _⟩
    · obtain ⟨g1, l', g2, g3⟩ := ih hy
      exact ⟨g1, l', g2, by simp; omega⟩
theorem ChainR.nodup {n : Names} {x : Int} {l : List Int} (h : ChainR n x l) : l.Nodup := by
  induction h with
  | stop => simp
  | @step x l h1 h2 h3 ih =>
    refine List.nodup_cons.2 ⟨fun hm => ?_, ih⟩
    obtain ⟨_, l', g2, g3⟩ := h3.mem hm
    have := g2.det (.step h1 h2 h3)
    subst this; simp at g3
    omega
theorem nodup_len : ∀ (n : Nat) (l : List Int), l.Nodup → (∀ x ∈ l, 0 ≤ x ∧ x < n) → l.length ≤ n
  | 0, l, _, h => by
    cases l with
    | nil => simp
    | cons x l => have := h x (List.mem_cons_self ..); omega
  | n + 1, l, hn, h => by
    have ih := nodup_len n (l.erase (n : Int)) (hn.erase _) fun x hx => by
      have h1 := (hn.mem_erase_iff).1 hx
      have := h x h1.2
      have := h1.1
      omega
    by_cases hm : (n : Int) ∈ l
    · rw [List.length_erase_of_mem hm] at ih; omega
    · rw [List.erase_of_not_mem hm] at ih; omega
theorem ChainR.up {n : Names} {x : Int} {l : List Int} (h : ChainR n x l) : ∀ k, l.length ≤ k + 1 → n.up k x = l := by
  induction h with
  | stop h1 h2 =>
    intro k _
    cases k with
    | zero => rfl
    | succ k => unfold Names.up; exact if_neg h2
  | @step x l h1 h2 h3 ih =>
    intro k hk
    have : l ≠ [] := by cases h3 <;> simp
    have := List.length_pos_iff.2 this
    simp only [List.length_cons] at hk
    cases k with
    | zero => omega
    | succ k => unfold Names.up; rw [← ih k (by omega)]; exact if_pos h2
theorem ChainR.chain {n : Names} {x : Int} {l : List Int} (h : ChainR n x l) : n.chain x = l := by
  have h1 : n.inR x := by cases h <;> assumption
  have h2 := nodup_len n.ws.length l h.nodup fun y hy => (h.mem hy).1
  unfold Names.chain
  rw [← h.up n.ws.length (by omega)]; exact if_pos h1

theorem uses_copy {i : Ins} (h : right15 i = true) (e : i.op = 23 ∨ i.op = 45) : i.a ∈ usesF i := uses_a h (by unfold abF oneF; rcases e with e | e <;> simp [e])
theorem writer_is {f : Fun} {x : Int} {k a : Nat} (h0 : 0 ≤ x) (h : FirstAt f x k a) : WriterIs f x k a true := ⟨fun _ => ⟨k, a, rfl, rfl, h0, h⟩, fun h => by cases h⟩
theorem right_of_def {i : Ins} (h : 0 ≤ def15 i) : right15 i = true := by
  unfold def15 at h
  split at h
  · rename_i h1; exact h1.1
  · omega
theorem writer_all (f : Fun) (x : Int) : (∃ k a : Nat, FirstAt f x k a) ∨ ∀ k a, ¬ WrittenAt f x k a := by
  have hw : ∀ K, (∃ k a : Nat, FirstAt f x k a) ∨ ∀ k a, k < K → ¬ WrittenAt f x k a := by
    intro K
    induction K with
    | zero => exact .inr fun k a h => by omega
    | succ K ih =>
      rcases ih with ih | ih
      · exact .inl ih
      · have h2 : ∀ A, (∃ k a : Nat, FirstAt f x k a) ∨ ∀ a, a < A → ¬ WrittenAt f x K a := by
          intro A
          induction A with
          | zero => exact .inr fun a h => by omega
          | succ A ih2 =>
            rcases ih2 with ih2 | ih2
            · exact .inl ih2
            · by_cases h : WrittenAt f x K A
              · refine .inl ⟨K, A, h, fun k' a' h' => ?_⟩
                by_cases e : k' < K
                · exact absurd h' (ih k' a' e)
                · by_cases e2 : k' = K
                  · subst e2
                    by_cases e3 : a' < A
                    · exact absurd h' (ih2 a' e3)
                    · omega
                  · omega
              · refine .inr fun a ha => ?_
                by_cases e : a = A
                · subst e; exact h
                · exact ih2 a (by omega)
        cases gb : f.blocks[K]? with
        | none =>
          refine .inr fun k a hk h => ?_
          by_cases e : k = K
          · subst e; obtain ⟨b, i, e1, _⟩ := h; rw [gb] at e1; cases e1
          · exact ih k a (by omega) h
        | some b =>
          rcases h2 b.length with h2 | h2
          · exact .inl h2
          · refine .inr fun k a hk h => ?_
            by_cases e : k = K
            · subst e
              obtain ⟨b', i, e1, e2, e3⟩ := h
              rw [gb] at e1; cases e1
              exact h2 a (List.getElem?_eq_some_iff.1 e2).1 ⟨b, i, gb, e2, e3⟩
            · exact ih k a (by omega) h
  rcases hw f.blocks.length with h | h
  · exact .inl h
  · refine .inr fun k a h' => ?_
    obtain ⟨b, i, e1, _⟩ := id h'
    exact h k a (List.getElem?_eq_some_iff.1 e1).1 h'
theorem chain_ends {p : Pro} {f : Fun} (hf : funP p f) (hp : properF f) : ∀ x, (newF f).inR x → ∃ l, ChainR (newF f) x l := by
  have hl : (newF f).ws.length = f.regs.length := newF_len f
  have none : ∀ x, (newF f).inR x → (∀ k a, ¬ WrittenAt f x k a) → ∃ l, ChainR (newF f) x l := fun x hx h => by
    have := (newF_of (f := f) (x := x) (k := 0) (a := 0) (v := false) ⟨fun h => absurd h (by decide), fun _ => ⟨rfl, rfl, fun _ => h⟩⟩).2 (.inl rfl)
    exact ⟨_, .stop hx fun hc => by unfold Names.cp at hc; rw [this] at hc; cases hc.1⟩
  have key : ∀ n, ∀ j, ∀ x (k : Nat), (newF f).inR x → FirstAt f x k j → PathN (succsF f) n k → ∃ l, ChainR (newF f) x l := by
    intro n
    induction n using Nat.strongRecOn with
    | ind n ihn =>
      intro j
      induction j using Nat.strongRecOn with
      | ind j ihj =>
        intro x k hx hfirst hpath
        have hxr := hx
        unfold Names.inR at hxr
        obtain ⟨k', a', b, i, e1, e2, gb, gi, eo⟩ := (newF_of (writer_is hxr.1 hfirst)).1 (by rw [← hl]; exact hxr) rfl
        obtain rfl : k = k' := by omega
        obtain rfl : j = a' := by omega
        by_cases hc : (newF f).cp x
        · have hop : i.op = 23 ∨ i.op = 45 := by
            have := hc.2; rw [eo] at this; exact this
          have hone := (hf.2 k b gb).2 j i gi
          have hr := hone.1.1
          have hu := uses_copy hr hop
          have hub := hone.2.1.2.1 i.a hu
          have hup := uses_pos hr i.a hu
          have hin : (newF f).inR i.a := ⟨hup, by rw [hl]; exact hub⟩
          have hh := (hp.2 k b gb j i gi).2 (by omega) i.a hu
          have fin : (∃ l, ChainR (newF f) i.a l) → ∃ l, ChainR (newF f) x l := fun ⟨l, h⟩ => ⟨_, .step hx hc (by rw [eo]; exact h)⟩
          refine fin ?_
          rcases hh with h1 | ⟨h0, k2, i2, h3, h4⟩
          · refine none _ hin fun k2 a2 ⟨b2, j2, g1, g2, g3⟩ => ?_
            have := ((hp.2 k2 b2 g1 a2 j2 g2).1 (by omega)).1
            omega
          · rcases h4 with ⟨h4, h5⟩ | ⟨h4, h5⟩
            · obtain rfl : k2 = k := by omega
              exact ihj i2 (by omega) i.a k2 hin h3 hpath
            · obtain ⟨m, hm, hpm⟩ := h5.path h4 hpath
              exact ihn m hm i2 i.a k2 hin h3 hpm
        · exact ⟨_, .stop hx hc⟩
  intro x hx
  rcases writer_all f x with ⟨k, a, h⟩ | h
  · obtain ⟨b, i, e1, _⟩ := h.1
    obtain ⟨n, hn⟩ := (hp.1 k (List.getElem?_eq_some_iff.1 e1).1).path
    exact key n a x k hx h hn
  · exact none x hx h
end Go.Proofs.YtdgibhndjdgllaaDoor

/- What an instruction reads, as the program says it. No program is in sight here. -/
namespace Go.Proofs.YtdgibhndjdgllaaDoor
open Go.Ax
theorem bits {op : Int} (ho : opF op = true) : (band (hasF op) 2 ≠ 0 ↔ (abF op || oneF op) = true) ∧ (band (hasF op) 4 ≠ 0 ↔ abF op = true) ∧ (band (hasF op) 8 ≠ 0 ↔ op = 30) ∧ (band (hasF op) 2048 = 0 ↔ op ≠ 45) := by
  unfold opF at ho
  simp at ho
  have hh : (3 ≤ op ∧ op ≤ 16) ∨ (23 ≤ op ∧ op ≤ 28) ∨ op = 20 ∨ op = 21 ∨ op = 22 ∨ op = 29 ∨ op = 30 ∨ op = 31 ∨ op = 32 ∨ op = 33 ∨ op = 34 ∨ op = 35 ∨ op = 36 ∨ op = 37 ∨ op = 38 ∨ op = 39 ∨ op = 40 ∨ op = 41 ∨ op = 42 ∨ op = 43 ∨ op = 44 ∨ op = 45 := by omega
  unfold abF oneF twoF
  rcases hh with h | h | h | h | h | h | h | h | h | h | h | h | h | h | h | h | h | h | h | h | h | h
  · obtain ⟨b1, b2, b4, b8, b16, b32, b64, b128, b256, b512, b1024, b2048⟩ := bd7
    rw [show hasF op = 7 by unfold hasF; rw [if_pos (by omega)], b2, b4, b8, b2048]; simp; omega
  · obtain ⟨b1, b2, b4, b8, b16, b32, b64, b128, b256, b512, b1024, b2048⟩ := bd3
    rw [show hasF op = 3 by unfold hasF; rw [if_neg (by omega), if_pos (by omega)], b2, b4, b8, b2048]; simp; omega
  all_goals (rw [h]; decide)
def usesA (i : Ins) : List Int := if band (hasF i.op) 2 ≠ 0 then [i.a] else []
def usesB (i : Ins) : List Int := if band (hasF i.op) 4 ≠ 0 ∧ (band (hasF i.op) 2048 = 0 ∨ i.m ≠ 21) then [i.b] else []
def usesC (i : Ins) : List Int := if band (hasF i.op) 8 ≠ 0 then [i.c] else []
theorem uses_eq {i : Ins} (h : rightF i = true) : usesF i = usesA i ++ (usesB i ++ (usesC i ++ i.args)) := by
  rw [right_eq] at h
  have ho : opF i.op = true := by unfold right15 at h; simp at h; exact h.1
  obtain ⟨h1, h2, h3, h4⟩ := bits ho
  unfold usesF usesA usesB usesC
  rw [if_pos h]
  have hb : bF i = true ↔ (band (hasF i.op) 4 ≠ 0 ∧ (band (hasF i.op) 2048 = 0 ∨ i.m ≠ 21)) := by
    rw [h2, h4]; unfold bF; simp
  congr 1
  · by_cases e : (abF i.op || oneF i.op) = true
    · rw [if_pos e, if_pos (h1.2 e)]
    · rw [if_neg e, if_neg fun x => e (h1.1 x)]
  · congr 1
    · by_cases e : bF i = true
      · rw [if_pos e, if_pos (hb.1 e)]
      · rw [if_neg e, if_neg fun x => e (hb.2 x)]
    · congr 1
      by_cases e : i.op = 30
      · rw [if_pos e, if_pos (h3.2 e)]
      · rw [if_neg e, if_neg fun x => e (h3.1 x)]
theorem usesA_len (i : Ins) : (usesA i).length ≤ 1 := by unfold usesA; split <;> simp
theorem usesB_len (i : Ins) : (usesB i).length ≤ 1 := by unfold usesB; split <;> simp
theorem usesC_len (i : Ins) : (usesC i).length ≤ 1 := by unfold usesC; split <;> simp
end Go.Proofs.YtdgibhndjdgllaaDoor

/- Where blocks go and come from, as the program reckons it: lists that are filled. No program is in sight here. -/
namespace Go.Proofs.YtdgibhndjdgllaaDoor
open Go.Ax
/-- Lists, the first ones of which are done. -/
def outS {α : Type} (s : List (List α)) (k : Nat) : List (List α) := s.take k ++ List.replicate (s.length - k) []
theorem outS_len {α : Type} (s : List (List α)) {k : Nat} (h : k ≤ s.length) : (outS s k).length = s.length := by
  unfold outS; rw [List.length_append, List.length_take, List.length_replicate]; omega
theorem outS_at {α : Type} (s : List (List α)) {k : Nat} (h : k < s.length) : (outS s k)[k]? = some [] := by
  unfold outS
  rw [List.getElem?_append_right (by rw [List.length_take]; omega), List.length_take, List.getElem?_replicate, if_pos (by omega)]
theorem outS_succ {α : Type} {s : List (List α)} {k : Nat} {l : List α} (h : s[k]? = some l) : outS s (k + 1) = (outS s k).set k l := by
  have hk := (List.getElem?_eq_some_iff.1 h).1
  unfold outS
  rw [take_succ h, show s.length - k = (s.length - (k + 1)) + 1 by omega, List.replicate_succ, List.set_append_right _ _ (by rw [List.length_take]; omega), List.length_take, show k - min k s.length = 0 by omega, List.append_assoc]
  rfl
theorem outS_all {α : Type} (s : List (List α)) : outS s s.length = s := by unfold outS; simp
theorem outS_nil {α : Type} {s : List (List α)} {k : Nat} (h : s[k]? = some []) : outS s (k + 1) = outS s k := by
  have hk := (List.getElem?_eq_some_iff.1 h).1
  rw [outS_succ h]
  refine List.ext_getElem? fun j => ?_
  rw [List.getElem?_set]
  split
  · rename_i e; subst e; rw [if_pos (by rw [outS_len s (by omega)]; exact hk), outS_at s hk]
  · rfl
theorem set_at {α : Type} {s : List α} {k : Nat} {a b : α} (h : s[k]? = some b) : (s.set k a)[k]? = some a := by
  rw [List.getElem?_set_self (List.getElem?_eq_some_iff.1 h).1]
theorem below_succ {n : Nat} {l : List Int} {j : Nat} {t : Int} (h : l[j]? = some t) : below n (l.take (j + 1)) = if t < n then below n (l.take j) ++ [t] else below n (l.take j) := by
  unfold below
  rw [take_succ h, List.filter_append]
  split <;> simp_all
theorem below_len (n : Nat) (l : List Int) : (below n l).length ≤ l.length := List.length_filter_le _ _
/-- The blocks that go to each one, up to a block, and to a place in its list. -/
def predP (s : List (List Int)) (k j : Nat) (t : Nat) : List Int := ((List.range k).flatMap fun a : Nat => ((s[a]?.getD []).filter (· = (t : Int))).map fun _ => (a : Int)) ++ (((s[k]?.getD []).take j).filter (· = (t : Int))).map fun _ => (k : Int)
def predsP (s : List (List Int)) (k j : Nat) : List (List Int) := (List.range s.length).map fun t => predP s k j t
theorem predsP_len (s : List (List Int)) (k j : Nat) : (predsP s k j).length = s.length := by unfold predsP; simp
theorem predsP_zero (s : List (List Int)) : predsP s 0 0 = List.replicate s.length [] := by
  unfold predsP predP
  refine List.ext_getElem (by simp) fun i h1 h2 => ?_
  simp
theorem predsP_at {s : List (List Int)} {k j t : Nat} (h : t < s.length) : (predsP s k j)[t]? = some (predP s k j t) := by
  unfold predsP; rw [List.getElem?_map, List.getElem?_range h]; rfl
theorem predP_step {s : List (List Int)} {k j : Nat} {l : List Int} {t : Int} (hl : s[k]? = some l) (ht : l[j]? = some t) (u : Nat) : predP s k (j + 1) u = if (u : Int) = t then predP s k j u ++ [(k : Int)] else predP s k j u := by
  unfold predP
  simp only [hl, Option.getD_some]
  rw [take_succ ht, List.filter_append, List.map_append]
  by_cases e : (u : Int) = t
  · subst e; simp
  · rw [if_neg e]
    have : ¬ t = (u : Int) := fun h => e h.symm
    simp [this]
theorem predsP_step {s : List (List Int)} {k j : Nat} {l : List Int} {t : Nat} (hl : s[k]? = some l) (ht : l[j]? = some (t : Int)) (h : t < s.length) : predsP s k (j + 1) = (predsP s k j).set t (predP s k j t ++ [(k : Int)]) := by
  refine List.ext_getElem? fun u => ?_
  rw [List.getElem?_set]
  by_cases hu : u < s.length
  · rw [predsP_at hu, predP_step hl ht]
    by_cases e : t = u
    · subst e; rw [if_pos rfl, if_pos rfl, if_pos (by rw [predsP_len]; exact h)]
    · rw [if_neg (by omega), if_neg e, predsP_at hu]
  · rw [List.getElem?_eq_none (by rw [predsP_len]; omega)]
    rw [if_neg (by omega), List.getElem?_eq_none (by rw [predsP_len]; omega)]
theorem predsP_next {s : List (List Int)} {k : Nat} {l : List Int} (hl : s[k]? = some l) : predsP s k l.length = predsP s (k + 1) 0 := by
  unfold predsP
  refine List.map_congr_left fun t _ => ?_
  unfold predP
  rw [List.range_succ, List.flatMap_append]
  simp [hl]
theorem predP_len {s : List (List Int)} (hs : ∀ l ∈ s, l.length ≤ 2) (k j t : Nat) : (predP s k j t).length ≤ 2 * k + 2 := by
  have h1 : ∀ a : Nat, (s[a]?.getD []).length ≤ 2 := fun a => by
    cases h : s[a]? with
    | none => simp
    | some l => exact hs l (List.mem_of_getElem? h)
  unfold predP
  rw [List.length_append, List.length_map]
  have h2 : (((s[k]?.getD []).take j).filter (· = (t : Int))).length ≤ 2 := Nat.le_trans (List.length_filter_le _ _) (Nat.le_trans (by rw [List.length_take]; omega) (h1 k))
  have h3 : ∀ k : Nat, ((List.range k).flatMap fun a : Nat => ((s[a]?.getD []).filter (· = (t : Int))).map fun _ => (a : Int)).length ≤ 2 * k := by
    intro k
    induction k with
    | zero => simp
    | succ k ih =>
      rw [List.range_succ, List.flatMap_append, List.length_append]
      have := Nat.le_trans (List.length_filter_le (· = (t : Int)) (s[k]?.getD [])) (h1 k)
      simp only [List.flatMap_cons, List.flatMap_nil, List.append_nil, List.length_map]
      omega
  have := h3 k
  omega
theorem filter_nodup {l : List Int} (h : l.Nodup) (t : Int) (a : Int) : ((l.filter (· = t)).map fun _ => a) = if t ∈ l then [a] else [] := by
  induction l with
  | nil => simp
  | cons x l ih =>
    obtain ⟨h1, h2⟩ := List.nodup_cons.1 h
    by_cases e : x = t
    · subst e
      have : l.filter (· = x) = [] := List.filter_eq_nil_iff.2 fun y hy => by
        simp only [decide_eq_true_eq]
        exact fun e => h1 (e ▸ hy)
      simp [this]
    · rw [List.filter_cons_of_neg (by simpa using e), ih h2]
      have : ¬ t = x := fun h => e h.symm
      simp [this]
/-- Each list names none twice: then so do these. -/
theorem predP_eq {s : List (List Int)} (hs : ∀ l ∈ s, l.Nodup) (t : Nat) : ∀ k, predP s k 0 t = predOf s t k
  | 0 => by unfold predP predOf; simp
  | k + 1 => by
    have ih := predP_eq hs t k
    unfold predP predOf at *
    rw [List.range_succ, List.flatMap_append, List.filter_append, List.map_append, ← ih]
    simp only [List.take_zero, List.filter_nil, List.map_nil, List.append_nil, List.flatMap_cons, List.flatMap_nil, List.filter_cons, List.filter_nil]
    congr 1
    have h2 : (s[k]?.getD []).Nodup := by
      cases h : s[k]? with
      | none => simp
      | some l => exact hs l (List.mem_of_getElem? h)
    rw [filter_nodup h2]
    by_cases e : (t : Int) ∈ s[k]?.getD []
    · simp [e]
    · simp [e]
theorem targetsF_nodup (i : Ins) : (targetsF i).Nodup := by
  unfold targetsF
  split
  · simp
  · split
    · rename_i h
      have h2 := h.1
      unfold right15 tailF tailA at h2
      simp [h.2] at h2
      simp
      omega
    · simp
theorem succsF_nodup (f : Fun) : ∀ l ∈ succsF f, l.Nodup := by
  intro l hl
  unfold succsF at hl
  obtain ⟨b, _, rfl⟩ := List.mem_map.1 hl
  unfold succ1
  split
  · exact (targetsF_nodup _).filter _
  · simp
/-- The blocks that go to each one, as often as they do. -/
def predsD (s : List (List Int)) : List (List Int) := predsP s s.length 0
theorem predsD_eq (f : Fun) : predsD (succsF f) = predsF (succsF f) := by
  unfold predsD predsP predsF
  exact List.map_congr_left fun t _ => predP_eq (succsF_nodup f) t _
theorem predsD_len (s : List (List Int)) : (predsD s).length = s.length := predsP_len _ _ _
end Go.Proofs.YtdgibhndjdgllaaDoor

/- How facts flow: a problem, its parts as they are written. No program is in sight here. -/
namespace Go.Proofs.YtdgibhndjdgllaaDoor
open Go.Ax
def setL (s : List W) : List AV := [sets s]
def setsL (l : List (List W)) : AV := .sl false 1 (l.map setL)
def osetL (s : List W) : List AV := [.osl 1 (s.map u1)]
def elst (l : List Int) : List AV := [.sl false 1 (l.map fun n => [num n])]
structure Prob where
  edges : List (List Int)
  back : Bool
  all : Bool
  width : Nat
  gen : List (List W)
  kill : List (List W)
  start : List W
def Prob.cs (p : Prob) : List AV := [.sl false 1 (p.edges.map elst), tru p.back, tru p.all, num p.width, setsL p.gen, setsL p.kill, sets p.start]
def probA (p : Prob) : AV := .agg p.cs
/-- It may be. -/
structure Prob.OK (p : Prob) : Prop where
  few : p.edges.length ≤ 65536
  wid : p.width ≤ 65536
  genl : p.gen.length = p.edges.length
  kill_ : p.kill.length = p.edges.length
  start_ : RightW p.start p.width
  gens : ∀ s ∈ p.gen, RightW s p.width
  kills : ∀ s ∈ p.kill, RightW s p.width
  closed : Closed p.edges
  small : ∀ l ∈ p.edges, l.length ≤ 2
theorem RightW.len {s : List W} {n : Nat} (h : RightW s n) (hn : n ≤ 65536) : s.length ≤ 1024 := by rw [h.1]; exact wn_le hn
end Go.Proofs.YtdgibhndjdgllaaDoor

/- Facts that flow: what a round does, and what the rounds come to. No program is in sight here. -/
namespace Go.Proofs.YtdgibhndjdgllaaDoor
open Go.Ax
def noneW (p : Prob) : List W := if p.all then fullW p.width else newW p.width
def meetW (p : Prob) (a b : List W) : List W := if p.all then andW a b else orW a b
def beginW (p : Prob) (k : Nat) (row : List Int) : List W := if (p.back && row.isEmpty) || (!p.back && k == 0) then meetW p (noneW p) p.start else noneW p
def fromW (p : Prob) (k : Nat) (row : List Int) (to : List (List W)) : List W := row.foldl (fun o a => meetW p o (to.getD a.toNat [])) (beginW p k row)
def toW (p : Prob) (k : Nat) (from_ : List W) : List W := orW (p.gen.getD k []) (lessW from_ (p.kill.getD k []))
/-- The same, bit by bit. -/
def noneB (p : Prob) (i : Nat) : Bool := p.all && decide (i < p.width)
def meetB (p : Prob) (a b : Bool) : Bool := if p.all then a && b else a || b
def beginB (p : Prob) (k : Nat) (row : List Int) (i : Nat) : Bool := if (p.back && row.isEmpty) || (!p.back && k == 0) then meetB p (noneB p i) (hasW p.start i) else noneB p i
def fromB (p : Prob) (k : Nat) (row : List Int) (t : Nat → Nat → Bool) (i : Nat) : Bool := row.foldl (fun o a => meetB p o (t a.toNat i)) (beginB p k row i)
def toB (p : Prob) (k : Nat) (b : Bool) (i : Nat) : Bool := hasW (p.gen.getD k []) i || (b && !hasW (p.kill.getD k []) i)
theorem hasW_none (p : Prob) (i : Nat) : hasW (noneW p) i = noneB p i := by
  unfold noneW noneB
  cases p.all
  · rw [if_neg (by simp), hasW_new]; rfl
  · rw [if_pos rfl, hasW_full]; simp
theorem hasW_meet (p : Prob) (a b : List W) (i : Nat) : hasW (meetW p a b) i = meetB p (hasW a i) (hasW b i) := by
  unfold meetW meetB
  cases p.all
  · rw [if_neg (by simp), if_neg (by simp), hasW_or]
  · rw [if_pos rfl, if_pos rfl, hasW_and]
theorem hasW_begin (p : Prob) (k : Nat) (row : List Int) (i : Nat) : hasW (beginW p k row) i = beginB p k row i := by
  unfold beginW beginB
  split
  · rw [hasW_meet, hasW_none]
  · rw [hasW_none]
def bitsOf (T : List (List W)) (k i : Nat) : Bool := hasW (T.getD k []) i
theorem hasW_from (p : Prob) (k : Nat) (row : List Int) (T : List (List W)) (i : Nat) : hasW (fromW p k row T) i = fromB p k row (bitsOf T) i := by
  unfold fromW fromB
  rw [← hasW_begin]
  generalize beginW p k row = o
  induction row generalizing o with
  | nil => rfl
  | cons a row ih =>
    rw [List.foldl_cons, List.foldl_cons, ih, hasW_meet]; rfl
theorem hasW_to (p : Prob) (k : Nat) (s : List W) (i : Nat) : hasW (toW p k s) i = toB p k (hasW s i) i := by
  unfold toW toB
  rw [hasW_or, hasW_less]
/-- Nearer to where it began. -/
def leB (p : Prob) (a b : Bool) : Prop := if p.all then (b = true → a = true) else (a = true → b = true)
theorem leB.refl (p : Prob) (a : Bool) : leB p a a := by unfold leB; split <;> exact id
theorem leB.trans {p : Prob} {a b c : Bool} (h : leB p a b) (g : leB p b c) : leB p a c := by
  unfold leB at *
  split
  · rename_i hp; rw [if_pos hp] at h g; exact h ∘ g
  · rename_i hp; rw [if_neg hp] at h g; exact g ∘ h
theorem leB.meet {p : Prob} {a b c d : Bool} (h : leB p a b) (g : leB p c d) : leB p (meetB p a c) (meetB p b d) := by
  unfold leB meetB at *
  split
  · rename_i hp; rw [if_pos hp] at h g
    intro h1
    simp only [Bool.and_eq_true] at h1 ⊢
    exact ⟨h h1.1, g h1.2⟩
  · rename_i hp; rw [if_neg hp] at h g
    intro h1
    simp only [Bool.or_eq_true] at h1 ⊢
    exact h1.imp h g
theorem leB.to {p : Prob} {k i : Nat} {a b : Bool} (h : leB p a b) : leB p (toB p k a i) (toB p k b i) := by
  unfold leB toB at *
  split
  · rename_i hp; rw [if_pos hp] at h
    intro h1
    simp only [Bool.or_eq_true, Bool.and_eq_true] at h1 ⊢
    exact h1.imp id fun h2 => ⟨h h2.1, h2.2⟩
  · rename_i hp; rw [if_neg hp] at h
    intro h1
    simp only [Bool.or_eq_true, Bool.and_eq_true] at h1 ⊢
    exact h1.imp id fun h2 => ⟨h h2.1, h2.2⟩
theorem leB.from {p : Prob} {k i : Nat} {row : List Int} {t u : Nat → Nat → Bool} (h : ∀ a ∈ row, leB p (t a.toNat i) (u a.toNat i)) : leB p (fromB p k row t i) (fromB p k row u i) := by
  unfold fromB
  have key : ∀ (o q : Bool), leB p o q → leB p (row.foldl (fun o a => meetB p o (t a.toNat i)) o) (row.foldl (fun o a => meetB p o (u a.toNat i)) q) := by
    induction row with
    | nil => exact fun _ _ h => h
    | cons a row ih =>
      intro o q hoq
      rw [List.foldl_cons, List.foldl_cons]
      exact ih (fun b hb => h b (List.mem_cons_of_mem _ hb)) _ _ (hoq.meet (h a (List.mem_cons_self ..)))
  exact key _ _ (.refl p _)
/-- What is no bit of that width. -/
def Low (p : Prob) (s : List W) : Prop := s.length ≤ 1024 ∧ ∀ i, hasW s i = true → i < p.width
theorem Low.none {p : Prob} (hp : p.OK) : Low p (noneW p) := by
  refine ⟨?_, fun i h => ?_⟩
  · have := wn_le hp.wid
    unfold noneW
    split
    · rw [fullW_len]; exact this
    · rw [newW_len]; exact this
  · rw [hasW_none] at h
    unfold noneB at h
    simp at h; exact h.2
theorem RightW.low {p : Prob} (hp : p.OK) {s : List W} (h : RightW s p.width) : Low p s := ⟨h.len hp.wid, h.2⟩
theorem meetW_len {p : Prob} {a b : List W} : (meetW p a b).length ≤ max a.length b.length := by
  unfold meetW
  split
  · unfold andW; rw [fillW_len]; omega
  · unfold orW; rw [fillW_len]; omega
theorem Low.meet {p : Prob} {a b : List W} (h : Low p a) (g : Low p b) : Low p (meetW p a b) := by
  refine ⟨by have := @meetW_len p a b; have := h.1; have := g.1; omega, fun i hi => ?_⟩
  rw [hasW_meet] at hi
  unfold meetB at hi
  split at hi
  · simp only [Bool.and_eq_true] at hi; exact h.2 i hi.1
  · simp only [Bool.or_eq_true] at hi; exact hi.elim (h.2 i) (g.2 i)
theorem Low.begin {p : Prob} (hp : p.OK) {k : Nat} {row : List Int} : Low p (beginW p k row) := by
  unfold beginW
  split
  · exact (Low.none hp).meet (RightW.low hp hp.start_)
  · exact .none hp
theorem Low.from {p : Prob} (hp : p.OK) {k : Nat} {row : List Int} {T : List (List W)} (hT : ∀ s ∈ T, Low p s) : Low p (fromW p k row T) := by
  unfold fromW
  have h0 := Low.begin hp (k := k) (row := row)
  generalize beginW p k row = o at *
  induction row generalizing o with
  | nil => exact h0
  | cons a row ih =>
    rw [List.foldl_cons]
    refine ih _ (h0.meet ?_)
    rw [List.getD_eq_getElem?_getD]
    cases h : T[a.toNat]? with
    | none => exact ⟨by simp, fun i hi => by simp [hasW] at hi⟩
    | some s => exact hT s (List.mem_of_getElem? h)
theorem Low.to {p : Prob} (hp : p.OK) {k : Nat} (hk : k < p.edges.length) {s : List W} (h : Low p s) : Low p (toW p k s) := by
  have e1 := hp.genl
  obtain ⟨x, gx, gxm⟩ := getK (l := p.gen) (k := k) (by omega)
  have hx := RightW.low hp (hp.gens x gxm)
  refine ⟨?_, fun i hi => ?_⟩
  · unfold toW orW lessW
    rw [fillW_len, fillW_len, List.getD_eq_getElem?_getD, gx]
    have := hx.1
    have := h.1
    simp only [Option.getD_some]; omega
  · rw [hasW_to] at hi
    unfold toB at hi
    rw [List.getD_eq_getElem?_getD, gx] at hi
    simp only [Option.getD_some, Bool.or_eq_true, Bool.and_eq_true] at hi
    exact hi.elim (hx.2 i) fun h2 => h.2 i h2.1
end Go.Proofs.YtdgibhndjdgllaaDoor

/- The rounds of a flow: what stays so, and that they end in the nearest solution. No program is in sight here. -/
namespace Go.Proofs.YtdgibhndjdgllaaDoor
open Go.Ax
def aheadL (p : Prob) : List (List Int) := if p.back then p.edges else predsD p.edges
def behindL (p : Prob) : List (List Int) := if p.back then predsD p.edges else p.edges
def aheadAt (p : Prob) (k : Nat) : List Int := (aheadL p).getD k []
def behindAt (p : Prob) (k : Nat) : List Int := (behindL p).getD k []
/-- Who is ahead of whom, is behind of him; and all are blocks. -/
structure Turned (p : Prob) : Prop where
  turn : ∀ (j k : Nat), j < p.edges.length → k < p.edges.length → (k : Int) ∈ aheadAt p j → (j : Int) ∈ behindAt p k
  rng : ∀ (k : Nat), k < p.edges.length → ∀ a ∈ aheadAt p k, 0 ≤ a ∧ a < p.edges.length
def stepB (p : Prob) (t : Nat → Nat → Bool) (k i : Nat) : Bool := fromB p k (aheadAt p k) t i
/-- A solution, bit by bit. -/
structure SolB (p : Prob) (t : Nat → Nat → Bool) : Prop where
  eq : ∀ k i, k < p.edges.length → t k i = toB p k (stepB p t k i) i
  low : ∀ k i, k < p.edges.length → t k i = true → i < p.width
structure FlowI (p : Prob) (T F : List (List W)) (Q : List Nat) : Prop where
  lenT : T.length = p.edges.length
  lenF : F.length = p.edges.length
  low : ∀ s ∈ T, Low p s
  lowF : ∀ s ∈ F, Low p s
  nod : Q.Nodup
  rng : ∀ k ∈ Q, k < p.edges.length
  pre : ∀ k i, k < p.edges.length → leB p (bitsOf T k i) (toB p k (stepB p (bitsOf T) k i) i)
  done : ∀ k, k < p.edges.length → k ∉ Q → ∀ i, bitsOf F k i = stepB p (bitsOf T) k i ∧ bitsOf T k i = toB p k (stepB p (bitsOf T) k i) i
  near : ∀ t, SolB p t → ∀ k i, k < p.edges.length → leB p (bitsOf T k i) (t k i)
  widT : ∀ s ∈ T, s.length = wn p.width
  widF : ∀ k, k < p.edges.length → k ∉ Q → (F.getD k []).length = wn p.width
theorem noneW_wid (p : Prob) : (noneW p).length = wn p.width := by
  unfold noneW; split
  · exact fullW_len _
  · exact newW_len _
theorem meetW_wid {p : Prob} {a b : List W} {n : Nat} (ha : a.length = n) (hb : b.length = n) : (meetW p a b).length = n := by
  unfold meetW; split
  · unfold andW; rw [fillW_len]; omega
  · unfold orW; rw [fillW_len]; omega
theorem beginW_wid {p : Prob} (hp : p.OK) (k : Nat) (row : List Int) : (beginW p k row).length = wn p.width := by
  unfold beginW; split
  · exact meetW_wid (noneW_wid p) hp.start_.1
  · exact noneW_wid p
theorem fromW_wid {p : Prob} (hp : p.OK) {k : Nat} {row : List Int} {T : List (List W)} (hT : ∀ s ∈ T, s.length = wn p.width) (hr : ∀ a ∈ row, a.toNat < T.length) : (fromW p k row T).length = wn p.width := by
  unfold fromW
  have h0 := beginW_wid hp k row
  generalize beginW p k row = o at *
  induction row generalizing o with
  | nil => exact h0
  | cons a row ih =>
    rw [List.foldl_cons]
    refine ih (fun b hb => hr b (List.mem_cons_of_mem _ hb)) _ (meetW_wid h0 (hT _ ?_))
    have := hr a (List.mem_cons_self ..)
    rw [List.getD_eq_getElem?_getD, List.getElem?_eq_getElem this]; exact List.getElem_mem this
theorem toW_wid {p : Prob} (hp : p.OK) {k : Nat} (hk : k < p.edges.length) {s : List W} (hs : s.length = wn p.width) : (toW p k s).length = wn p.width := by
  have hg : (p.gen.getD k []).length = wn p.width := by
    have h2 : k < p.gen.length := by rw [hp.genl]; exact hk
    refine (hp.gens _ ?_).1
    rw [List.getD_eq_getElem?_getD, List.getElem?_eq_getElem h2]; exact List.getElem_mem h2
  unfold toW orW
  rw [fillW_len]
  unfold lessW
  rw [fillW_len, hg, hs]; omega
theorem leB_none {p : Prob} {b : Bool} {i : Nat} (h : b = true → i < p.width) : leB p (noneB p i) b := by
  unfold leB noneB
  split
  · rename_i hp; intro hb; rw [hp]; simpa using h hb
  · rename_i hp; intro hb; simp [hp] at hb
theorem getD_rep {α : Type} {n k : Nat} {x d : α} (h : k < n) : (List.replicate n x).getD k d = x := by
  rw [List.getD_eq_getElem?_getD, List.getElem?_replicate, if_pos h]; rfl
theorem getD_mem {α : Type} {l : List α} {k : Nat} {d : α} (h : k < l.length) : l.getD k d ∈ l := by
  rw [List.getD_eq_getElem?_getD, List.getElem?_eq_getElem h]; exact List.getElem_mem h
theorem getD_set {α : Type} {l : List α} {k j : Nat} {x d : α} (h : k < l.length) : (l.set k x).getD j d = if j = k then x else l.getD j d := by
  rw [List.getD_eq_getElem?_getD, List.getD_eq_getElem?_getD, List.getElem?_set]
  by_cases e : k = j
  · subst e; rw [if_pos rfl, if_pos rfl, if_pos h]; rfl
  · rw [if_neg e, if_neg (Ne.symm e)]
theorem FlowI.start {p : Prob} (hp : p.OK) : FlowI p (List.replicate p.edges.length (noneW p)) (List.replicate p.edges.length []) (List.range p.edges.length) := by
  have hlow : ∀ s ∈ List.replicate p.edges.length (noneW p), Low p s := fun s hs => by rw [(List.mem_replicate.1 hs).2]; exact .none hp
  refine ⟨by simp, by simp, hlow, fun s hs => ?_, List.nodup_range, fun k hk => List.mem_range.1 hk, fun k i hk => ?_, fun k hk hn => absurd (List.mem_range.2 hk) hn, fun t ht k i hk => ?_, fun s hs => by rw [(List.mem_replicate.1 hs).2]; exact noneW_wid p, fun k hk hn => absurd (List.mem_range.2 hk) hn⟩
  · rw [(List.mem_replicate.1 hs).2]; exact ⟨by simp, fun i hi => by simp [hasW] at hi⟩
  · unfold bitsOf
    rw [getD_rep hk, hasW_none]
    refine leB_none fun h => ?_
    have e : hasW (toW p k (fromW p k (aheadAt p k) (List.replicate p.edges.length (noneW p)))) i = toB p k (stepB p (bitsOf (List.replicate p.edges.length (noneW p))) k i) i := by rw [hasW_to, hasW_from]; rfl
    exact ((Low.from hp hlow).to hp hk).2 i (e.trans h)
  · unfold bitsOf
    rw [getD_rep hk, hasW_none]
    exact leB_none (ht.low k i hk)
theorem fromB_congr {p : Prob} {k i : Nat} {row : List Int} {t u : Nat → Nat → Bool} (h : ∀ a ∈ row, t a.toNat i = u a.toNat i) : fromB p k row t i = fromB p k row u i := by
  unfold fromB
  generalize beginB p k row i = o
  induction row generalizing o with
  | nil => rfl
  | cons a row ih =>
    rw [List.foldl_cons, List.foldl_cons, h a (List.mem_cons_self ..)]
    exact ih (fun b hb => h b (List.mem_cons_of_mem _ hb)) _
theorem set_low {p : Prob} {l : List (List W)} {k : Nat} {s : List W} (h : ∀ x ∈ l, Low p x) (hs : Low p s) : ∀ x ∈ l.set k s, Low p x := fun x hx => by
  rcases List.mem_or_eq_of_mem_set hx with h2 | h2
  · exact h x h2
  · rw [h2]; exact hs
/-- The block comes to what it came to. -/
theorem FlowI.same {p : Prob} (hp : p.OK) (ht : Turned p) {T F : List (List W)} {k : Nat} {Q : List Nat} (h : FlowI p T F (k :: Q)) (hs : sameW (toW p k (fromW p k (aheadAt p k) T)) (T.getD k [])) : FlowI p T (F.set k (fromW p k (aheadAt p k) T)) Q := by
  have hk := h.rng k (List.mem_cons_self ..)
  have hkF : k < F.length := by rw [h.lenF]; exact hk
  have ef : ∀ i, hasW (fromW p k (aheadAt p k) T) i = stepB p (bitsOf T) k i := fun i => hasW_from ..
  have et : ∀ i, toB p k (stepB p (bitsOf T) k i) i = bitsOf T k i := fun i => by rw [← ef, ← hasW_to]; exact sameW_bits.1 hs i
  refine ⟨h.lenT, by rw [List.length_set]; exact h.lenF, h.low, set_low h.lowF (Low.from hp h.low), (List.nodup_cons.1 h.nod).2, fun j hj => h.rng j (List.mem_cons_of_mem _ hj), h.pre, fun j hj hn i => ?_, h.near, h.widT, fun j hj hn => ?_⟩
  case refine_2 =>
    rw [getD_set hkF]
    split
    · exact fromW_wid hp h.widT fun a ha => by have := ht.rng k hk a ha; have := h.lenT; omega
    · rename_i e; exact h.widF j hj fun h3 => (List.mem_cons.1 h3).elim e hn
  by_cases e : j = k
  · subst e
    refine ⟨?_, (et i).symm⟩
    show hasW ((F.set j _).getD j []) i = _
    rw [getD_set hkF, if_pos rfl, ef]
  · have h2 := h.done j hj (fun h3 => (List.mem_cons.1 h3).elim e hn) i
    refine ⟨?_, h2.2⟩
    rw [← h2.1]
    show hasW ((F.set k _).getD j []) i = _
    rw [getD_set hkF, if_neg e]; rfl
theorem FlowI.step {p : Prob} (hp : p.OK) (ht : Turned p) {T F : List (List W)} {k : Nat} {Q Q2 : List Nat} (h : FlowI p T F (k :: Q)) (hn : Q2.Nodup) (hr : ∀ j ∈ Q2, j < p.edges.length) (hs : ∀ j ∈ Q, j ∈ Q2) (hb : ∀ j : Nat, j < p.edges.length → (j : Int) ∈ behindAt p k → j ∈ Q2) :
    FlowI p (T.set k (toW p k (fromW p k (aheadAt p k) T))) (F.set k (fromW p k (aheadAt p k) T)) Q2 := by
  have hk := h.rng k (List.mem_cons_self ..)
  have hkT : k < T.length := by rw [h.lenT]; exact hk
  have hkF : k < F.length := by rw [h.lenF]; exact hk
  have hf : Low p (fromW p k (aheadAt p k) T) := Low.from hp h.low
  have hto := hf.to hp hk
  have ef : ∀ i, hasW (fromW p k (aheadAt p k) T) i = stepB p (bitsOf T) k i := fun i => hasW_from ..
  have et : ∀ i, hasW (toW p k (fromW p k (aheadAt p k) T)) i = toB p k (stepB p (bitsOf T) k i) i := fun i => by rw [hasW_to, ef]
  have bT : ∀ j i, bitsOf (T.set k (toW p k (fromW p k (aheadAt p k) T))) j i = if j = k then toB p k (stepB p (bitsOf T) k i) i else bitsOf T j i := fun j i => by
    unfold bitsOf
    rw [getD_set hkT]
    split
    · exact et i
    · rfl
  have bF : ∀ j i, bitsOf (F.set k (fromW p k (aheadAt p k) T)) j i = if j = k then stepB p (bitsOf T) k i else bitsOf F j i := fun j i => by
    unfold bitsOf
    rw [getD_set hkF]
    split
    · exact ef i
    · rfl
  have l1 : (T.set k (toW p k (fromW p k (aheadAt p k) T))).length = p.edges.length := by rw [List.length_set]; exact h.lenT
  have l2 : (F.set k (fromW p k (aheadAt p k) T)).length = p.edges.length := by rw [List.length_set]; exact h.lenF
  have w1 := set_low (k := k) h.low hto
  have w2 := set_low (k := k) h.lowF hf
  have v0 : (fromW p k (aheadAt p k) T).length = wn p.width := fromW_wid hp h.widT fun a ha => by have := ht.rng k hk a ha; have := h.lenT; omega
  have v1 : ∀ s ∈ T.set k (toW p k (fromW p k (aheadAt p k) T)), s.length = wn p.width := fun s hs => by
    rcases List.mem_or_eq_of_mem_set hs with h2 | h2
    · exact h.widT s h2
    · rw [h2]; exact toW_wid hp hk v0
  have v2 : ∀ j, j < p.edges.length → j ∉ Q2 → ((F.set k (fromW p k (aheadAt p k) T)).getD j []).length = wn p.width := fun j hj hq => by
    rw [getD_set hkF]
    split
    · exact v0
    · rename_i e; exact h.widF j hj fun h3 => (List.mem_cons.1 h3).elim e fun h4 => hq (hs j h4)
  generalize T.set k (toW p k (fromW p k (aheadAt p k) T)) = T2 at *
  generalize F.set k (fromW p k (aheadAt p k) T) = F2 at *
  have up : ∀ j i, j < p.edges.length → leB p (bitsOf T j i) (bitsOf T2 j i) := fun j i hj => by
    rw [bT]
    split
    · rename_i e; rw [e]; exact h.pre k i hk
    · exact .refl _ _
  have mono : ∀ j i, j < p.edges.length → leB p (stepB p (bitsOf T) j i) (stepB p (bitsOf T2) j i) := fun j i hj => leB.from fun a ha => up _ i (by have := ht.rng j hj a ha; omega)
  refine ⟨l1, l2, w1, w2, hn, hr, fun j i hj => ?_, fun j hj hq i => ?_, fun t hsol j i hj => ?_, v1, v2⟩
  · rw [bT]
    split
    · rename_i e; subst e; exact (mono j i hj).to
    · exact (h.pre j i hj).trans (mono j i hj).to
  · have hkj : (k : Int) ∉ aheadAt p j := fun h1 => hq (hb j hj (ht.turn j k hj hk h1))
    have hst : stepB p (bitsOf T2) j i = stepB p (bitsOf T) j i := fromB_congr fun a ha => by
      have := ht.rng j hj a ha
      rw [bT, if_neg (fun e => hkj (by rw [show (k : Int) = a by omega]; exact ha))]
    rw [bT, bF, hst]
    by_cases e : j = k
    · subst e; rw [if_pos rfl, if_pos rfl]; exact ⟨rfl, rfl⟩
    · rw [if_neg e, if_neg e]
      exact h.done j hj (fun h3 => (List.mem_cons.1 h3).elim e fun h4 => hq (hs j h4)) i
  · rw [bT]
    split
    · rename_i e
      subst e
      rw [hsol.eq j i hj]
      exact leB.to (leB.from fun a ha => h.near t hsol _ i (by have := ht.rng j hj a ha; omega))
    · exact h.near t hsol j i hj
/-- What the rounds come to. -/
structure SolP (p : Prob) (T F : List (List W)) : Prop where
  lenT : T.length = p.edges.length
  lenF : F.length = p.edges.length
  low : ∀ s ∈ T, Low p s
  lowF : ∀ s ∈ F, Low p s
  sol : SolB p (bitsOf T)
  from_ : ∀ k i, k < p.edges.length → bitsOf F k i = stepB p (bitsOf T) k i
  near : ∀ t, SolB p t → ∀ k i, k < p.edges.length → leB p (bitsOf T k i) (t k i)
  widT : ∀ s ∈ T, s.length = wn p.width
  widF : ∀ k, k < p.edges.length → (F.getD k []).length = wn p.width
theorem FlowI.end_ {p : Prob} {T F : List (List W)} (h : FlowI p T F []) : SolP p T F :=
  ⟨h.lenT, h.lenF, h.low, h.lowF, ⟨fun k i hk => (h.done k hk (by simp) i).2, fun k i hk hb => (h.low _ (getD_mem (by rw [h.lenT]; exact hk))).2 i hb⟩, fun k i hk => (h.done k hk (by simp) i).1, h.near, h.widT, fun k hk => h.widF k hk (by simp)⟩
/-- How far it may go yet. -/
def cntW (p : Prob) (s : List W) : Nat := ((List.range p.width).filter fun i => hasW s i == p.all).length
def muT (p : Prob) (T : List (List W)) : Nat := (T.map (cntW p)).sum
theorem filter_lt {α : Type} {f g : α → Bool} : ∀ {l : List α}, (∀ x ∈ l, g x = true → f x = true) → (∃ x ∈ l, f x = true ∧ g x = false) → (l.filter g).length < (l.filter f).length
  | [], _, ⟨x, hx, _⟩ => by cases hx
  | a :: l, h, ⟨x, hx, h1, h2⟩ => by
    have hle : (l.filter g).length ≤ (l.filter f).length := by
      clear hx
      have h3 := fun y hy => h y (List.mem_cons_of_mem a hy)
      clear h
      induction l with
      | nil => simp
      | cons b l ih =>
        have h4 := ih fun y hy => h3 y (List.mem_cons_of_mem _ hy)
        cases hg : g b with
        | true => rw [List.filter_cons_of_pos hg, List.filter_cons_of_pos (h3 b (List.mem_cons_self ..) hg)]; simp; omega
        | false =>
          rw [List.filter_cons_of_neg (by simp [hg])]
          by_cases hf : f b = true
          · rw [List.filter_cons_of_pos hf]; simp; omega
          · rw [List.filter_cons_of_neg hf]; exact h4
    rcases List.mem_cons.1 hx with rfl | hx
    · rw [List.filter_cons_of_pos h1, List.filter_cons_of_neg (by simp [h2])]; simp; omega
    · have ih := filter_lt (f := f) (g := g) (l := l) (fun y hy => h y (List.mem_cons_of_mem _ hy)) ⟨x, hx, h1, h2⟩
      cases hg : g a with
      | true => rw [List.filter_cons_of_pos hg, List.filter_cons_of_pos (h a (List.mem_cons_self ..) hg)]; simp; omega
      | false =>
        rw [List.filter_cons_of_neg (by simp [hg])]
        by_cases hf : f a = true
        · rw [List.filter_cons_of_pos hf]; simp; omega
        · rw [List.filter_cons_of_neg hf]; exact ih
theorem sum_set_lt : ∀ {l : List Nat} {k x y : Nat}, l[k]? = some x → y < x → (l.set k y).sum < l.sum
  | [], k, x, y, h, _ => by simp at h
  | a :: l, 0, x, y, h, hy => by
    simp only [List.getElem?_cons_zero, Option.some.injEq] at h
    subst h
    simp only [List.set_cons_zero, List.sum_cons]; omega
  | a :: l, k + 1, x, y, h, hy => by
    simp only [List.getElem?_cons_succ] at h
    have := sum_set_lt (l := l) h hy
    simp only [List.set_cons_succ, List.sum_cons]; omega
theorem muT_lt {p : Prob} {T : List (List W)} {k : Nat} {s : List W} (hk : k < T.length) (hl : ∀ i, leB p (bitsOf T k i) (hasW s i)) (hlo : Low p s) (hloT : ∀ x ∈ T, Low p x) (hne : ¬ sameW s (T.getD k [])) : muT p (T.set k s) < muT p T := by
  unfold muT
  rw [List.map_set]
  have e : T.getD k [] = T[k] := by rw [List.getD_eq_getElem?_getD, List.getElem?_eq_getElem hk]; rfl
  refine sum_set_lt (x := cntW p T[k]) (by rw [List.getElem?_map, List.getElem?_eq_getElem hk]; rfl) ?_
  have hd : ∃ i, hasW s i ≠ hasW T[k] i := Classical.byContradiction fun h => hne (by
    rw [e]
    exact sameW_bits.2 fun i => Classical.byContradiction fun h2 => h ⟨i, h2⟩)
  obtain ⟨i, hi⟩ := hd
  have hTk := hloT _ (List.getElem_mem hk)
  have hli := fun i => hl i
  unfold bitsOf at hli
  rw [e] at hli
  unfold cntW
  refine filter_lt (fun j hj h => ?_) ⟨i, ?_, ?_⟩
  · have := hli j
    unfold leB at this
    cases ha : p.all <;> rw [ha] at this h <;> simp at this h ⊢
    · cases h3 : hasW T[k] j with
      | false => rfl
      | true => rw [this h3] at h; cases h
    · exact this h
  · refine List.mem_range.2 ?_
    cases h3 : hasW s i with
    | true => exact hlo.2 i h3
    | false =>
      cases h4 : hasW T[k] i with
      | true => exact hTk.2 i h4
      | false => rw [h3, h4] at hi; exact absurd rfl hi
  · have := hli i
    unfold leB at this
    cases ha : p.all <;> rw [ha] at this <;> cases h3 : hasW s i <;> cases h4 : hasW T[k] i <;> simp_all
end Go.Proofs.YtdgibhndjdgllaaDoor

/- Lists that are filled from the front. No program is in sight here. -/
namespace Go.Proofs.YtdgibhndjdgllaaDoor
def fillX {α : Type} (n k : Nat) (x d : α) : List α := (List.range n).map fun i => if i < k then x else d
theorem fillX_len {α : Type} (n k : Nat) (x d : α) : (fillX n k x d).length = n := by simp [fillX]
theorem fillX_zero {α : Type} (n : Nat) (x d : α) : fillX n 0 x d = List.replicate n d := by
  unfold fillX
  refine List.ext_getElem? fun i => ?_
  rw [List.getElem?_map, List.getElem?_replicate]
  by_cases h : i < n
  · rw [List.getElem?_range h]; simp [h]
  · rw [List.getElem?_eq_none (by simpa using h)]; simp [h]
theorem fillX_all {α : Type} (n : Nat) (x d : α) : fillX n n x d = List.replicate n x := by
  unfold fillX
  refine List.ext_getElem? fun i => ?_
  rw [List.getElem?_map, List.getElem?_replicate]
  by_cases h : i < n
  · rw [List.getElem?_range h]; simp [h]
  · rw [List.getElem?_eq_none (by simpa using h)]; simp [h]
theorem fillX_at {α : Type} {n k i : Nat} {x d : α} (h : i < n) : (fillX n k x d)[i]? = some (if i < k then x else d) := by
  unfold fillX
  rw [List.getElem?_map, List.getElem?_range h]; rfl
theorem fillX_set {α : Type} {n k : Nat} {x d : α} (hk : k < n) : (fillX n k x d).set k x = fillX n (k + 1) x d := by
  refine List.ext_getElem? fun i => ?_
  rw [List.getElem?_set, fillX_len]
  by_cases hi : i < n
  · rw [fillX_at hi, fillX_at hi]
    by_cases h : k = i
    · subst h; rw [if_pos rfl, if_pos hk, if_pos (by omega)]
    · rw [if_neg h]
      by_cases h2 : i < k
      · rw [if_pos h2, if_pos (by omega)]
      · rw [if_neg h2, if_neg (by omega)]
  · rw [List.getElem?_eq_none (by rw [fillX_len]; omega), List.getElem?_eq_none (by rw [fillX_len]; omega), if_neg (by omega)]
end Go.Proofs.YtdgibhndjdgllaaDoor

/- Ways from their ends, and a queue into which several are put. No program is in sight here. -/
namespace Go.Proofs.YtdgibhndjdgllaaDoor
theorem mem_predsD {s : List (List Int)} {t : Nat} (ht : t < s.length) {a : Int} : a ∈ (predsD s).getD t [] ↔ ∃ k : Nat, k < s.length ∧ a = k ∧ (t : Int) ∈ s.getD k [] := by
  have e : (predsD s).getD t [] = predP s s.length 0 t := by
    rw [List.getD_eq_getElem?_getD]; unfold predsD; rw [predsP_at ht]; rfl
  rw [e]
  unfold predP
  simp only [List.take_zero, List.filter_nil, List.map_nil, List.append_nil, List.mem_flatMap, List.mem_range, List.mem_map, List.mem_filter, decide_eq_true_eq]
  constructor
  · rintro ⟨k, hk, b, ⟨hb, rfl⟩, rfl⟩
    exact ⟨k, hk, rfl, by rw [List.getD_eq_getElem?_getD]; exact hb⟩
  · rintro ⟨k, hk, rfl, hm⟩
    rw [List.getD_eq_getElem?_getD] at hm
    exact ⟨k, hk, (t : Int), ⟨hm, rfl⟩, rfl⟩
theorem Prob.OK.row {p : Prob} (hp : p.OK) {k : Nat} (hk : k < p.edges.length) {a : Int} (h : a ∈ p.edges.getD k []) : 0 ≤ a ∧ a < p.edges.length := by
  have hm : p.edges.getD k [] ∈ p.edges := getD_mem hk
  exact hp.closed _ hm a h
theorem turned_ok {p : Prob} (hp : p.OK) : Turned p := by
  refine ⟨fun j k hj hk h => ?_, fun k hk a h => ?_⟩
  · unfold aheadAt aheadL at h
    unfold behindAt behindL
    cases hb : p.back with
    | true =>
      rw [hb] at h
      rw [if_pos rfl] at h ⊢
      exact (mem_predsD hk).2 ⟨j, hj, rfl, h⟩
    | false =>
      rw [hb] at h
      rw [if_neg (by simp)] at h ⊢
      obtain ⟨i, hi, e, hm⟩ := (mem_predsD hj).1 h
      obtain rfl : k = i := by omega
      exact hm
  · unfold aheadAt aheadL at h
    split at h
    · exact hp.row hk h
    · obtain ⟨i, hi, rfl, hm⟩ := (mem_predsD hk).1 h; omega
theorem behind_rng {p : Prob} (hp : p.OK) {k : Nat} (hk : k < p.edges.length) : ∀ a ∈ behindAt p k, 0 ≤ a ∧ a < p.edges.length := by
  intro a h
  unfold behindAt behindL at h
  split at h
  · obtain ⟨i, hi, rfl, hm⟩ := (mem_predsD hk).1 h; omega
  · exact hp.row hk h
theorem aheadL_len (p : Prob) : (aheadL p).length = p.edges.length := by
  unfold aheadL; split
  · rfl
  · exact predsD_len _
theorem behindL_len (p : Prob) : (behindL p).length = p.edges.length := by
  unfold behindL; split
  · exact predsD_len _
  · rfl
theorem row_len {p : Prob} (hp : p.OK) {k : Nat} (hk : k < p.edges.length) : (p.edges.getD k []).length ≤ 2 * p.edges.length + 2 ∧ ((predsD p.edges).getD k []).length ≤ 2 * p.edges.length + 2 := by
  constructor
  · have := hp.small _ (getD_mem (d := []) hk); omega
  · have e : (predsD p.edges).getD k [] = predP p.edges p.edges.length 0 k := by
      rw [List.getD_eq_getElem?_getD]; unfold predsD; rw [predsP_at hk]; rfl
    rw [e]; exact predP_len hp.small _ _ _
theorem ahead_len {p : Prob} (hp : p.OK) {k : Nat} (hk : k < p.edges.length) : (aheadAt p k).length ≤ 1000000 := by
  have := row_len hp hk; have := hp.few
  unfold aheadAt aheadL; split <;> omega
theorem behind_len {p : Prob} (hp : p.OK) {k : Nat} (hk : k < p.edges.length) : (behindAt p k).length ≤ 1000000 := by
  have := row_len hp hk; have := hp.few
  unfold behindAt behindL; split <;> omega
/-- One more waits, if it doesn't. -/
def put1 (Q : List Nat) (b : Nat) : List Nat := if b ∈ Q then Q else Q ++ [b]
def putL (Q : List Nat) (l : List Int) : List Nat := l.foldl (fun Q b => put1 Q b.toNat) Q
theorem put1_mem {Q : List Nat} {b a : Nat} : a ∈ put1 Q b ↔ a ∈ Q ∨ a = b := by
  unfold put1; split
  · exact ⟨.inl, fun h => h.elim id fun e => e ▸ by assumption⟩
  · simp
theorem put1_nodup {Q : List Nat} {b : Nat} (h : Q.Nodup) : (put1 Q b).Nodup := by
  unfold put1; split
  · exact h
  · rw [List.nodup_append]
    refine ⟨h, by simp, fun x hx y hy => ?_⟩
    rw [List.mem_singleton.1 hy]
    intro e; subst e; contradiction
theorem putL_mem {l : List Int} : ∀ {Q : List Nat} {a : Nat}, a ∈ putL Q l ↔ a ∈ Q ∨ ∃ b ∈ l, a = b.toNat := by
  induction l with
  | nil => intro Q a; simp [putL]
  | cons x l ih =>
    intro Q a
    show a ∈ putL (put1 Q x.toNat) l ↔ _
    rw [ih, put1_mem]
    constructor
    · rintro ((h | h) | ⟨b, hb, e⟩)
      · exact .inl h
      · exact .inr ⟨x, List.mem_cons_self .., h⟩
      · exact .inr ⟨b, List.mem_cons_of_mem _ hb, e⟩
    · rintro (h | ⟨b, hb, e⟩)
      · exact .inl (.inl h)
      · rcases List.mem_cons.1 hb with rfl | hb
        · exact .inl (.inr e)
        · exact .inr ⟨b, hb, e⟩
theorem putL_nodup {l : List Int} : ∀ {Q : List Nat}, Q.Nodup → (putL Q l).Nodup := by
  induction l with
  | nil => exact id
  | cons x l ih => intro Q h; exact ih (put1_nodup h)
theorem putL_take {Q : List Nat} {l : List Int} {j : Nat} {b : Int} (h : l[j]? = some b) : putL Q (l.take (j + 1)) = put1 (putL Q (l.take j)) b.toNat := by
  obtain ⟨hj, rfl⟩ := List.getElem?_eq_some_iff.1 h
  unfold putL
  rw [List.take_succ_eq_append_getElem hj, List.foldl_append]; rfl
theorem nodup_le {n : Nat} : ∀ {Q : List Nat}, Q.Nodup → (∀ k ∈ Q, k < n) → Q.length ≤ n := by
  induction n with
  | zero =>
    intro Q h hr
    cases Q with
    | nil => simp
    | cons a Q => exact absurd (hr a (List.mem_cons_self ..)) (by omega)
  | succ n ih =>
    intro Q h hr
    have h2 : (Q.erase n).length ≤ n := ih (h.erase n) fun k hk => by
      have h3 := (h.mem_erase_iff).1 hk
      have := hr k h3.2
      have := h3.1
      omega
    rw [List.length_erase] at h2
    split at h2 <;> omega
theorem nodup_lt {n i : Nat} {Q : List Nat} (h : Q.Nodup) (hr : ∀ k ∈ Q, k < n) (hi : i < n) (hn : i ∉ Q) : Q.length < n := by
  have e : put1 Q i = Q ++ [i] := if_neg hn
  have h1 := put1_nodup (b := i) h
  rw [e] at h1
  have := nodup_le h1 (n := n) fun k hk => by
    rcases List.mem_append.1 hk with hk | hk
    · exact hr k hk
    · rw [List.mem_singleton.1 hk]; exact hi
  rw [List.length_append] at this
  simp at this; omega
end Go.Proofs.YtdgibhndjdgllaaDoor

/- Which registers are needed, as a flow and by going on from block to block. No program is in sight here. -/
namespace Go.Proofs.YtdgibhndjdgllaaDoor
open Go.Ax
/-- A number is put in, or taken out. -/
def bitW (i : Nat) : W := 1#64 <<< (i % 64)
def putW (s : List W) (i : Nat) : List W := s.set (i / 64) (s.getD (i / 64) 0 ||| bitW i)
def dropW (s : List W) (i : Nat) : List W := s.set (i / 64) (s.getD (i / 64) 0 &&& ~~~bitW i)
theorem bitW_at {i j : Nat} (hj : j < 64) : (bitW i).getLsbD j = decide (j = i % 64) := by
  unfold bitW
  rw [BitVec.getLsbD_shiftLeft]
  have : i % 64 < 64 := Nat.mod_lt _ (by decide)
  by_cases h : j = i % 64
  · simp [h, this]
  · by_cases h2 : j < i % 64
    · simp [h, h2]
    · have : 1 ≤ j - i % 64 := by omega
      simp [h, hj]
      intro _
      omega
theorem getD_set_W {s : List W} {k j : Nat} {x : W} : (s.set k x).getD j 0 = if j = k ∧ k < s.length then x else s.getD j 0 := by
  by_cases h : k < s.length
  · rw [getD_set h]; simp [h]
  · rw [List.set_eq_of_length_le (by omega), if_neg (by omega)]
theorem putW_len (s : List W) (i : Nat) : (putW s i).length = s.length := by simp [putW]
theorem dropW_len (s : List W) (i : Nat) : (dropW s i).length = s.length := by simp [dropW]
theorem hasW_put {s : List W} {i : Nat} (hi : i / 64 < s.length) (j : Nat) : hasW (putW s i) j = (hasW s j || decide (j = i)) := by
  unfold hasW putW
  have hm : j % 64 < 64 := Nat.mod_lt _ (by decide)
  rw [getD_set_W]
  by_cases e : j / 64 = i / 64
  · rw [if_pos ⟨e, hi⟩, BitVec.getLsbD_or, bitW_at hm, e]
    congr 1
    rw [Bool.eq_iff_iff]; simp; omega
  · rw [if_neg (fun h => e h.1)]
    have : j ≠ i := fun h => e (by rw [h])
    simp [this]
theorem hasW_drop {s : List W} {i : Nat} (hi : i / 64 < s.length) (j : Nat) : hasW (dropW s i) j = (hasW s j && !decide (j = i)) := by
  unfold hasW dropW
  have hm : j % 64 < 64 := Nat.mod_lt _ (by decide)
  rw [getD_set_W]
  by_cases e : j / 64 = i / 64
  · rw [if_pos ⟨e, hi⟩, BitVec.getLsbD_and, BitVec.getLsbD_not, bitW_at hm, e]
    have : decide (j % 64 = i % 64) = decide (j = i) := by rw [Bool.eq_iff_iff]; simp; omega
    rw [this]; simp [hm]
  · rw [if_neg (fun h => e h.1)]
    have : j ≠ i := fun h => e (by rw [h])
    simp [this]
def putsW (s : List W) (l : List Int) : List W := l.foldl (fun s u => putW s u.toNat) s
theorem putsW_len {l : List Int} : ∀ {s : List W}, (putsW s l).length = s.length := by
  induction l with
  | nil => intro s; rfl
  | cons u l ih => intro s; exact (ih (s := putW s u.toNat)).trans (putW_len _ _)
theorem putsW_take {s : List W} {l : List Int} {j : Nat} {b : Int} (h : l[j]? = some b) : putsW s (l.take (j + 1)) = putW (putsW s (l.take j)) b.toNat := by
  obtain ⟨hj, rfl⟩ := List.getElem?_eq_some_iff.1 h
  unfold putsW
  rw [List.take_succ_eq_append_getElem hj, List.foldl_append]; rfl
theorem hasW_puts {l : List Int} : ∀ {s : List W}, (∀ u ∈ l, 0 ≤ u ∧ u.toNat / 64 < s.length) → ∀ j : Nat, hasW (putsW s l) j = (hasW s j || decide ((j : Int) ∈ l)) := by
  induction l with
  | nil => intro s _ j; simp [putsW]
  | cons u l ih =>
    intro s h j
    have hu := h u (List.mem_cons_self ..)
    show hasW (putsW (putW s u.toNat) l) j = _
    rw [ih (fun v hv => by rw [putW_len]; exact h v (List.mem_cons_of_mem _ hv)), hasW_put hu.2, Bool.or_assoc]
    congr 1
    rw [Bool.eq_iff_iff]
    simp only [Bool.or_eq_true, decide_eq_true_eq, List.mem_cons]
    constructor
    · rintro (e | e)
      · left; omega
      · exact .inr e
    · rintro (e | e)
      · left; omega
      · exact .inr e
/-- What is needed ahead of an instruction, by what is needed behind it. -/
def overW (i : Ins) (s : List W) : List W := putsW (if 0 ≤ defF i then dropW s (defF i).toNat else s) (usesF i)
def scanW (l : List Ins) (s : List W) : List W := l.foldr overW s
def killW (n : Nat) (l : List Ins) (s : List W) : List W := l.foldr (fun i s => if 0 ≤ defF i ∧ defF i < n then putW s (defF i).toNat else s) s
theorem overW_len (i : Ins) (s : List W) : (overW i s).length = s.length := by
  unfold overW; rw [putsW_len]; split
  · exact dropW_len _ _
  · rfl
theorem scanW_len (l : List Ins) (s : List W) : (scanW l s).length = s.length := by
  induction l with
  | nil => rfl
  | cons i l ih => exact (overW_len ..).trans ih
theorem killW_len (n : Nat) (l : List Ins) (s : List W) : (killW n l s).length = s.length := by
  induction l with
  | nil => rfl
  | cons i l ih =>
    show (if _ then putW (killW n l s) _ else killW n l s).length = _
    split
    · rw [putW_len]; exact ih
    · exact ih
/-- What instructions do with a register: 1: it is read first, 2: written first, 0: neither. -/
def lookL : List Ins → Int → Int
  | [], _ => 0
  | i :: l, r => if r ∈ usesF i then 1 else if defF i = r then 2 else lookL l r
theorem lookL_cons (i : Ins) (l : List Ins) (r : Int) : lookL (i :: l) r = if r ∈ usesF i then 1 else if defF i = r then 2 else lookL l r := rfl
theorem lookL_cases (l : List Ins) (r : Int) : lookL l r = 0 ∨ lookL l r = 1 ∨ lookL l r = 2 := by
  induction l with
  | nil => exact .inl rfl
  | cons i l ih =>
    unfold lookL
    split
    · exact .inr (.inl rfl)
    · split
      · exact .inr (.inr rfl)
      · exact ih
/-- All names are below n. -/
def InsB (n : Nat) (i : Ins) : Prop := defF i < n ∧ ∀ u ∈ usesF i, 0 ≤ u ∧ u < n
theorem div_lt {n i : Nat} (h : i < n) : i / 64 < wn n := by unfold wn; omega
theorem hasW_over {n : Nat} {i : Ins} {s : List W} (hb : InsB n i) (hs : s.length = wn n) (r : Nat) : hasW (overW i s) r = (decide ((r : Int) ∈ usesF i) || (!decide (defF i = r) && hasW s r)) := by
  unfold overW
  by_cases hd : 0 ≤ defF i
  · rw [if_pos hd]
    have h1 := hb.1
    have h2 := div_lt (show (defF i).toNat < n by omega)
    rw [hasW_puts (fun u hu => ⟨(hb.2 u hu).1, by rw [dropW_len, hs]; exact div_lt (by have := hb.2 u hu; omega)⟩), hasW_drop (by rw [hs]; exact h2)]
    have : decide (r = (defF i).toNat) = decide (defF i = r) := by rw [Bool.eq_iff_iff]; simp; omega
    rw [this, Bool.or_comm, Bool.and_comm (hasW s r)]
  · rw [if_neg hd, hasW_puts (fun u hu => ⟨(hb.2 u hu).1, by rw [hs]; exact div_lt (by have := hb.2 u hu; omega)⟩)]
    have : decide (defF i = r) = false := by rw [decide_eq_false_iff_not]; omega
    rw [this, Bool.or_comm]; simp
theorem hasW_scan {n : Nat} {l : List Ins} {s : List W} (hb : ∀ i ∈ l, InsB n i) (hs : s.length = wn n) (r : Nat) : hasW (scanW l s) r = (decide (lookL l r = 1) || (decide (lookL l r = 0) && hasW s r)) := by
  induction l with
  | nil => simp [scanW, lookL]
  | cons i l ih =>
    show hasW (overW i (scanW l s)) r = _
    rw [hasW_over (hb i (List.mem_cons_self ..)) (by rw [scanW_len]; exact hs), ih (fun j hj => hb j (List.mem_cons_of_mem _ hj))]
    rw [lookL_cons]
    by_cases h1 : (r : Int) ∈ usesF i
    · simp [h1]
    · by_cases h2 : defF i = r
      · simp [h1, h2]
      · simp [h1, h2]
theorem hasW_kill {n : Nat} {l : List Ins} {s : List W} (hs : s.length = wn n) (r : Nat) : hasW (killW n l s) r = (hasW s r || decide (r < n ∧ ∃ i ∈ l, defF i = r)) := by
  induction l with
  | nil => simp [killW]
  | cons i l ih =>
    show hasW (if _ then putW (killW n l s) _ else killW n l s) r = _
    split
    · rename_i h
      rw [hasW_put (by rw [killW_len, hs]; exact div_lt (by omega)), ih, Bool.or_assoc]
      congr 1
      rw [Bool.eq_iff_iff]
      simp only [Bool.or_eq_true, decide_eq_true_eq, List.mem_cons, exists_eq_or_imp]
      constructor
      · rintro (h | h)
        · exact ⟨h.1, .inr h.2⟩
        · exact ⟨by omega, by left; omega⟩
      · rintro ⟨h1, h | h⟩
        · right; omega
        · exact .inl ⟨h1, h⟩
    · rename_i h
      rw [ih]
      congr 1
      rw [Bool.eq_iff_iff]
      simp only [decide_eq_true_eq, List.mem_cons, exists_eq_or_imp]
      constructor
      · exact fun h => ⟨h.1, .inr h.2⟩
      · rintro ⟨h1, h2 | h2⟩
        · exact absurd ⟨by omega, by omega⟩ h
        · exact ⟨h1, h2⟩
theorem look_one {l : List Ins} {r : Int} (h : lookL l r = 1) : ∃ i ∈ l, r ∈ usesF i := by
  induction l with
  | nil => cases h
  | cons i l ih =>
    rw [lookL_cons] at h
    split at h
    · rename_i h2; exact ⟨i, List.mem_cons_self .., h2⟩
    · split at h
      · cases h
      · obtain ⟨j, hj, e⟩ := ih h; exact ⟨j, List.mem_cons_of_mem _ hj, e⟩
theorem look_def {l : List Ins} {r : Int} (h : lookL l r = 0) : ¬ ∃ i ∈ l, defF i = r := by
  induction l with
  | nil => simp
  | cons i l ih =>
    unfold lookL at h
    split at h
    · cases h
    · split at h
      · cases h
      · rename_i h1 h2
        rintro ⟨j, hj, e⟩
        rcases List.mem_cons.1 hj with rfl | hj
        · exact h2 e
        · exact ih h ⟨j, hj, e⟩
theorem look_two {l : List Ins} {r : Int} (h : lookL l r = 2) : ∃ i ∈ l, defF i = r := by
  induction l with
  | nil => cases h
  | cons i l ih =>
    unfold lookL at h
    split at h
    · cases h
    · split at h
      · rename_i h2; exact ⟨i, List.mem_cons_self .., h2⟩
      · obtain ⟨j, hj, e⟩ := ih h; exact ⟨j, List.mem_cons_of_mem _ hj, e⟩
end Go.Proofs.YtdgibhndjdgllaaDoor
