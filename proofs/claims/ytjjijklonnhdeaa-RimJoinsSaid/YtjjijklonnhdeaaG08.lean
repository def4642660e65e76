/- What a proper program is, and what its names are, as the document's answer says it. No program is in sight here. -/
import Derived.Test.YtjjijklonnhdeaaG07
import Derived.Test.YtjjijklonnhdeaaG03
import Derived.Test.YtjjijklonnhdeaaG05
set_option linter.unusedVariables false
set_option linter.unusedSimpArgs false

namespace Go.Proofs.Ytjjijklonnhdeaa
open Go.Ax
/-- A function is proper. -/
def properF (f : Fun) : Prop := (∀ k : Nat, k < f.blocks.length → Reaches (succsF f) (-1) k) ∧ ∀ (k : Nat) (b : List Ins), f.blocks[k]? = some b → ∀ (j : Nat) (i : Ins), b[j]? = some i →
  (0 ≤ def15 i → f.params ≤ def15 i ∧ FirstAt f (def15 i) k j) ∧ (i.op ≠ 44 → ∀ u ∈ usesF i, HasP f u k j)
def properP (p : Pro) : Prop := proP p ∧ ∀ f ∈ p.funcs, properF f
theorem uses_phi {i : Ins} (e : i.op = 44) : (usesF i).length ≤ i.args.length := by
  unfold usesF
  split
  · have h1 : (abF i.op || oneF i.op) = false := by unfold abF twoF oneF; simp [e]
    have h2 : bF i = false := by unfold bF abF twoF; simp [e]
    rw [if_neg (by rw [h1]; simp), if_neg (by rw [h2]; simp), if_neg (by omega)]
    simp
  · simp
theorem countP_range {α : Type} (p : α → Bool) (l : List α) : ∀ n, n ≤ l.length → (l.take n).countP p = ((List.range n).filter (fun j => match l[j]? with | some x => p x | none => false)).length
  | 0, _ => rfl
  | n + 1, h => by
    rw [countP_take_succ (List.getElem?_eq_getElem (by omega)), List.range_succ, List.filter_append, List.length_append, countP_range p l n (by omega)]
    congr 1
    simp only [List.filter_cons, List.filter_nil]
    rw [List.getElem?_eq_getElem (by omega)]
    dsimp only
    split <;> rfl
theorem mem_succ1 {n k : Nat} {b : List Ins} (hk : k < n) : (k : Int) ∈ succ1 n b ↔ goesTo k b = true := by
  unfold succ1 goesTo below
  cases b[b.length - 1]? with
  | none => simp
  | some i =>
    simp only [decide_eq_true_iff, List.mem_filter]
    constructor
    · rintro ⟨h, _⟩; exact h
    · intro h; exact ⟨h, by omega⟩
theorem predCount_len (f : Fun) (k : Nat) (hk : k < f.blocks.length) : (predOf (succsF f) k (succsF f).length).length = predCount f k := by
  unfold predOf predCount
  have h1 := countP_range (goesTo k) f.blocks f.blocks.length (Nat.le_refl _)
  rw [List.take_length] at h1
  rw [List.length_map, h1, succsF_len]
  congr 1
  refine List.filter_congr fun j hj => ?_
  have hj := List.mem_range.1 hj
  unfold succsF
  rw [List.getElem?_map, List.getElem?_eq_getElem hj]
  simp only [Option.map_some, Option.getD_some]
  rw [Bool.eq_iff_iff, decide_eq_true_iff]
  exact mem_succ1 hk
theorem phi_preds {p : Pro} {f : Fun} {k j : Nat} {b : List Ins} {i : Ins} (gb : f.blocks[k]? = some b) (h : oneP p f k b j i) (e : i.op = 44) : (usesF i).length ≤ (predOf (succsF f) k (succsF f).length).length := by
  rw [predCount_len f k (List.getElem?_eq_some_iff.1 gb).1]
  have h1 := h.2.1.2.2.2.2.2 e
  have h2 := uses_phi e
  omega

/-- A way of so many steps. -/
inductive PathN (s : List (List Int)) : Nat → Int → Prop
  | zero : s ≠ [] → PathN s 0 0
  | step {n k : Nat} {t : Int} {l : List Int} : PathN s n k → s[k]? = some l → t ∈ l → PathN s (n + 1) t
theorem Reaches.path {s : List (List Int)} {x t : Int} (h : Reaches s x t) : ∃ n, PathN s n t := by
  induction h with
  | zero h _ => exact ⟨0, .zero h⟩
  | step _ hl ht _ ih => obtain ⟨n, ih⟩ := ih; exact ⟨n + 1, .step ih hl ht⟩
theorem PathN.thru {s : List (List Int)} {n : Nat} {t : Int} (a : Int) (h : PathN s n t) : Reaches s a t ∨ ∃ m, m ≤ n ∧ PathN s m a ∧ (m = n → a = t) := by
  induction h with
  | zero h =>
    by_cases e : a = 0
    · subst e; exact .inr ⟨0, by omega, .zero h, fun _ => rfl⟩
    · exact .inl (.zero h e)
  | @step n k t l hp hl ht ih =>
    by_cases e : t = a
    · subst e; exact .inr ⟨n + 1, by omega, .step hp hl ht, fun _ => rfl⟩
    · rcases ih with ih | ⟨m, h1, h2, h3⟩
      · exact .inl (.step ih hl ht e)
      · exact .inr ⟨m, by omega, h2, fun h => by omega⟩
theorem Dom.path {s : List (List Int)} {n : Nat} {a b : Int} (h : Dom s a b) (hn : a ≠ b) (hp : PathN s n b) : ∃ m, m < n ∧ PathN s m a := by
  rcases hp.thru a with h1 | ⟨m, h1, h2, h3⟩
  · exact absurd h1 h.2.2
  · refine ⟨m, ?_, h2⟩
    by_cases e : m = n
    · exact absurd (h3 e) hn
    · omega

/-- Of writers up to a place: what is known. -/
def WsAt (f : Fun) (ws : List Wr) (k j : Nat) : Prop := ws.length = f.regs.length ∧ ∀ d : Nat, d < f.regs.length →
  ((ws.getD d Wr0).is = true → ∃ k' a' b i, f.blocks[k']? = some b ∧ b[a']? = some i ∧ FirstAt f d k' a' ∧ ws.getD d Wr0 = ⟨i, k', true⟩) ∧
  ((ws.getD d Wr0).is = false → ws.getD d Wr0 = Wr0 ∧ ∀ k' a', WrittenAt f d k' a' → k < k' ∨ (k = k' ∧ j ≤ a'))
theorem WsAt.step {f : Fun} {ws : List Wr} {k j : Nat} {b : List Ins} {i : Ins} (h : WsAt f ws k j) (gb : f.blocks[k]? = some b) (gi : b[j]? = some i) : WsAt f (setW ws k i) k (j + 1) := by
  refine ⟨by rw [setW_len]; exact h.1, fun d hd => ?_⟩
  obtain ⟨h1, h2⟩ := h.2 d hd
  have keep : (setW ws k i).getD d Wr0 = ws.getD d Wr0 → (def15 i = d → (ws.getD d Wr0).is = true) → 
      (((setW ws k i).getD d Wr0).is = true → ∃ k' a' b i', f.blocks[k']? = some b ∧ b[a']? = some i' ∧ FirstAt f d k' a' ∧ (setW ws k i).getD d Wr0 = ⟨i', k', true⟩) ∧
      (((setW ws k i).getD d Wr0).is = false → (setW ws k i).getD d Wr0 = Wr0 ∧ ∀ k' a', WrittenAt f d k' a' → k < k' ∨ (k = k' ∧ j + 1 ≤ a')) := by
    intro e hw
    rw [e]
    refine ⟨h1, fun hf => ⟨(h2 hf).1, fun k' a' h' => ?_⟩⟩
    rcases (h2 hf).2 k' a' h' with h3 | ⟨rfl, h3⟩
    · exact .inl h3
    · refine .inr ⟨rfl, ?_⟩
      by_cases ej : j = a'
      · subst ej
        obtain ⟨b', i', e1, e2, e3⟩ := h'
        rw [gb] at e1; cases e1
        rw [gi] at e2; cases e2
        rw [hw e3] at hf; cases hf
      · omega
  by_cases hc : 0 ≤ defF i ∧ defF i < ws.length ∧ (ws.getD (defF i).toNat Wr0).is = false
  · have es : setW ws k i = ws.set (defF i).toNat ⟨i, k, true⟩ := if_pos hc
    by_cases ed : (defF i).toNat = d
    · have edI : def15 i = d := by rw [← def_eq]; omega
      have eg : (setW ws k i).getD d Wr0 = ⟨i, k, true⟩ := by
        rw [es, ed, List.getD_eq_getElem?_getD, List.getElem?_set_self (by omega)]; rfl
      rw [eg]
      refine ⟨fun _ => ⟨k, j, b, i, gb, gi, ⟨⟨b, i, gb, gi, edI⟩, fun k' a' h' => ?_⟩, rfl⟩, fun h => by cases h⟩
      have hf := hc.2.2
      rw [ed] at hf
      exact (h2 hf).2 k' a' h'
    · refine keep ?_ ?_
      · rw [es, List.getD_eq_getElem?_getD, List.getElem?_set_ne ed, ← List.getD_eq_getElem?_getD]
      · intro e; rw [← def_eq] at e; omega
  · have es : setW ws k i = ws := if_neg hc
    refine keep (by rw [es]) fun e => ?_
    rw [← def_eq] at e
    rw [e] at hc
    cases hf : (ws.getD d Wr0).is with
    | true => rfl
    | false => exact absurd ⟨by omega, by have := h.1; omega, by simpa using hf⟩ hc
theorem WsAt.blk {f : Fun} {ws : List Wr} {k : Nat} {b : List Ins} (h : WsAt f ws k 0) (gb : f.blocks[k]? = some b) : ∀ j, j ≤ b.length → WsAt f (blkW ws k b j) k j
  | 0, _ => h
  | j + 1, hj => by
    rw [blkW_succ (List.getElem?_eq_getElem (by omega))]
    exact (WsAt.blk h gb j (by omega)).step gb (List.getElem?_eq_getElem (by omega))
theorem WsAt.out {f : Fun} : ∀ k, k ≤ f.blocks.length → WsAt f (outW f k) k 0
  | 0, _ => by
    refine ⟨by simp [outW], fun d hd => ?_⟩
    have e : (outW f 0).getD d Wr0 = Wr0 := by simp only [outW, List.getD_eq_getElem?_getD, List.getElem?_replicate]; split <;> rfl
    rw [e]
    exact ⟨fun h => (by cases h), fun _ => ⟨rfl, fun k' a' _ => by omega⟩⟩
  | k + 1, hk => by
    have gb := List.getElem?_eq_getElem (l := f.blocks) (i := k) (by omega)
    rw [outW_succ gb]
    have h := (WsAt.out k (by omega)).blk gb _ (Nat.le_refl _)
    refine ⟨h.1, fun d hd => ⟨(h.2 d hd).1, fun hf => ⟨((h.2 d hd).2 hf).1, fun k' a' h' => ?_⟩⟩⟩
    rcases ((h.2 d hd).2 hf).2 k' a' h' with h3 | ⟨rfl, h3⟩
    · omega
    · obtain ⟨b', i', e1, e2, _⟩ := h'
      rw [gb] at e1; cases e1
      have := (List.getElem?_eq_some_iff.1 e2).1
      omega
/-- What is told of a name's writer. -/
theorem newF_of {f : Fun} {x k a : Int} {v : Bool} (h : WriterIs f x k a v) : (0 ≤ x ∧ x < f.regs.length → v = true → ∃ (k' a' : Nat) (b : List Ins) (i : Ins), k = k' ∧ a = a' ∧ f.blocks[k']? = some b ∧ b[a']? = some i ∧ (newF f).of x = ⟨i, k', true⟩) ∧
    ((v = false ∨ ¬ (0 ≤ x ∧ x < f.regs.length)) → (newF f).of x = Wr0) := by
  have hw := WsAt.out (f := f) _ (Nat.le_refl _)
  have hl : (newF f).ws.length = f.regs.length := newF_len f
  constructor
  · intro hx hv
    obtain ⟨k', a', rfl, rfl, h0, h1⟩ := h.1 hv
    obtain ⟨⟨b, i, gb, gi, ed⟩, h2⟩ := h1
    refine ⟨k', a', b, i, rfl, rfl, gb, gi, ?_⟩
    obtain ⟨g1, g2⟩ := hw.2 x.toNat (by omega)
    have ex : ((x.toNat : Nat) : Int) = x := by omega
    unfold Names.of
    rw [if_pos (by omega)]
    show (outW f f.blocks.length).getD _ _ = _
    cases hi : ((outW f f.blocks.length).getD x.toNat Wr0).is with
    | true =>
      obtain ⟨k2, a2, b2, i2, e1, e2, e3, e4⟩ := g1 hi
      rw [e4]
      rw [ex] at e3
      obtain ⟨rfl, rfl⟩ := e3.uniq ⟨⟨b, i, gb, gi, ed⟩, h2⟩
      rw [gb] at e1; cases e1
      rw [gi] at e2; cases e2
      rfl
    | false =>
      have := (g2 hi).2 k' a' (by rw [ex]; exact ⟨b, i, gb, gi, ed⟩)
      have := (List.getElem?_eq_some_iff.1 gb).1
      omega
  · intro hx
    unfold Names.of
    split
    · rename_i hr
      rcases hx with hv | hx
      · obtain ⟨g1, g2⟩ := hw.2 x.toNat (by omega)
        have ex : ((x.toNat : Nat) : Int) = x := by omega
        show (outW f f.blocks.length).getD _ _ = _
        cases hi : ((outW f f.blocks.length).getD x.toNat Wr0).is with
        | true =>
          obtain ⟨k2, a2, b2, i2, e1, e2, e3, e4⟩ := g1 hi
          rw [ex] at e3
          exact absurd e3.1 ((h.2 hv).2.2 hr.1 k2 a2)
        | false => exact (g2 hi).1
      · rw [hl] at hr; exact absurd hr hx
    · rfl

/-- A name's chain. -/
def Names.cp (n : Names) (x : Int) : Prop := (n.of x).is = true ∧ ((n.of x).i.op = 23 ∨ (n.of x).i.op = 45)
def Names.inR (n : Names) (x : Int) : Prop := 0 ≤ x ∧ x < n.ws.length
inductive ChainR (n : Names) : Int → List Int → Prop
  | stop {x} : n.inR x → ¬ n.cp x → ChainR n x [x]
  | step {x l} : n.inR x → n.cp x → ChainR n (n.of x).i.a l → ChainR n x (x :: l)
theorem ChainR.det {n : Names} {x : Int} {l l' : List Int} (h : ChainR n x l) (h' : ChainR n x l') : l = l' := by
  induction h generalizing l' with
  | stop h1 h2 => cases h' with
    | stop => rfl
    | step _ h3 _ => exact absurd h3 h2
  | step h1 h2 _ ih => cases h' with
    | stop _ h3 => exact absurd h2 h3
    | step _ _ h4 => rw [ih h4]
theorem ChainR.mem {n : Names} {x y : Int} {l : List Int} (h : ChainR n x l) (hy : y ∈ l) : n.inR y ∧ ∃ l', ChainR n y l' ∧ l'.length ≤ l.length := by
  induction h with
  | stop h1 h2 => simp at hy; subst hy; exact ⟨h1, _, .stop h1 h2, Nat.le_refl _⟩
  | step h1 h2 h3 ih =>
    rcases List.mem_cons.1 hy with rfl | hy
    · exact ⟨h1, _, .step h1 h2 h3, Nat.le_refl _⟩
    · obtain ⟨g1, l', g2, g3⟩ := ih hy
      exact ⟨g1, l', g2, by simp; omega⟩
theorem ChainR.nodup {n : Names} {x : Int} {l : List Int} (h : ChainR n x l) : l.Nodup := by
  induction h with
  | stop => simp
  | @step x l h1 h2 h3 ih =>
    refine List.nodup_cons.2 ⟨fun hm => ?_, ih⟩
    obtain ⟨_, l', g2, g3⟩ := h3.mem hm
    have := g2.det (.step h1 h2 h3)
    subst this; simp at g3
    omega
theorem nodup_len : ∀ (n : Nat) (l : List Int), l.Nodup → (∀ x ∈ l, 0 ≤ x ∧ x < n) → l.length ≤ n
  | 0, l, _, h => by
    cases l with
    | nil => simp
    | cons x l => have := h x (List.mem_cons_self ..); omega
  | n + 1, l, hn, h => by
    have ih := nodup_len n (l.erase (n : Int)) (hn.erase _) fun x hx => by
      have h1 := (hn.mem_erase_iff).1 hx
      have := h x h1.2
      have := h1.1
      omega
    by_cases hm : (n : Int) ∈ l
    · rw [List.length_erase_of_mem hm] at ih; omega
    · rw [List.erase_of_not_mem hm] at ih; omega
theorem ChainR.up {n : Names} {x : Int} {l : List Int} (h : ChainR n x l) : ∀ k, l.length ≤ k + 1 → n.up k x = l := by
  induction h with
  | stop h1 h2 =>
    intro k _
    cases k with
    | zero => rfl
    | succ k => unfold Names.up; exact if_neg h2
  | @step x l h1 h2 h3 ih =>
    intro k hk
    have : l ≠ [] := by cases h3 <;> simp
    have := List.length_pos_iff.2 this
    simp only [List.length_cons] at hk
    cases k with
    | zero => omega
    | succ k => unfold Names.up; rw [← ih k (by omega)]; exact if_pos h2
theorem ChainR.chain {n : Names} {x : Int} {l : List Int} (h : ChainR n x l) : n.chain x = l := by
  have h1 : n.inR x := by cases h <;> assumption
  have h2 := nodup_len n.ws.length l h.nodup fun y hy => (h.mem hy).1
  unfold Names.chain
  rw [← h.up n.ws.length (by omega)]; exact if_pos h1

theorem uses_copy {i : Ins} (h : right15 i = true) (e : i.op = 23 ∨ i.op = 45) : i.a ∈ usesF i := uses_a h (by unfold abF oneF; rcases e with e | e <;> simp [e])
theorem writer_is {f : Fun} {x : Int} {k a : Nat} (h0 : 0 ≤ x) (h : FirstAt f x k a) : WriterIs f x k a true := ⟨fun _ => ⟨k, a, rfl, rfl, h0, h⟩, fun h => by cases h⟩
theorem right_of_def {i : Ins} (h : 0 ≤ def15 i) : right15 i = true := by
  unfold def15 at h
  split at h
  · rename_i h1; exact h1.1
  · omega
theorem writer_all (f : Fun) (x : Int) : (∃ k a : Nat, FirstAt f x k a) ∨ ∀ k a, ¬ WrittenAt f x k a := by
  have hw : ∀ K, (∃ k a : Nat, FirstAt f x k a) ∨ ∀ k a, k < K → ¬ WrittenAt f x k a := by
    intro K
    induction K with
    | zero => exact .inr fun k a h => by omega
    | succ K ih =>
      rcases ih with ih | ih
      · exact .inl ih
      · have h2 : ∀ A, (∃ k a : Nat, FirstAt f x k a) ∨ ∀ a, a < A → ¬ WrittenAt f x K a := by
          intro A
          induction A with
          | zero => exact .inr fun a h => by omega
          | succ A ih2 =>
            rcases ih2 with ih2 | ih2
            · exact .inl ih2
            · by_cases h : WrittenAt f x K A
              · refine .inl ⟨K, A, h, fun k' a' h' => ?_⟩
                by_cases e : k' < K
                · exact absurd h' (ih k' a' e)
                · by_cases e2 : k' = K
                  · subst e2
                    by_cases e3 : a' < A
                    · exact absurd h' (ih2 a' e3)
                    · omega
                  · omega
              · refine .inr fun a ha => ?_
                by_cases e : a = A
                · subst e; exact h
                · exact ih2 a (by omega)
        cases gb : f.blocks[K]? with
        | none =>
          refine .inr fun k a hk h => ?_
          by_cases e : k = K
          · subst e; obtain ⟨b, i, e1, _⟩ := h; rw [gb] at e1; cases e1
          · exact ih k a (by omega) h
        | some b =>
          rcases h2 b.length with h2 | h2
          · exact .inl h2
          · refine .inr fun k a hk h => ?_
            by_cases e : k = K
            · subst e
              obtain ⟨b', i, e1, e2, e3⟩ := h
              rw [gb] at e1; cases e1
              exact h2 a (List.getElem?_eq_some_iff.1 e2).1 ⟨b, i, gb, e2, e3⟩
            · exact ih k a (by omega) h
  rcases hw f.blocks.length with h | h
  · exact .inl h
  · refine .inr fun k a h' => ?_
    obtain ⟨b, i, e1, _⟩ := id h'
    exact h k a (List.getElem?_eq_some_iff.1 e1).1 h'
theorem chain_ends {p : Pro} {f : Fun} (hf : funP p f) (hp : properF f) : ∀ x, (newF f).inR x → ∃ l, ChainR (newF f) x l := by
  have hl : (newF f).ws.length = f.regs.length := newF_len f
  have none : ∀ x, (newF f).inR x → (∀ k a, ¬ WrittenAt f x k a) → ∃ l, ChainR (newF f) x l := fun x hx h => by
    have := (newF_of (f := f) (x := x) (k := 0) (a := 0) (v := false) ⟨fun h => absurd h (by decide), fun _ => ⟨rfl, rfl, fun _ => h⟩⟩).2 (.inl rfl)
    exact ⟨_, .stop hx fun hc => by unfold Names.cp at hc; rw [this] at hc; cases hc.1⟩
  have key : ∀ n, ∀ j, ∀ x (k : Nat), (newF f).inR x → FirstAt f x k j → PathN (succsF f) n k → ∃ l, ChainR (newF f) x l := by
    intro n
    induction n using Nat.strongRecOn with
    | ind n ihn =>
      intro j
      induction j using Nat.strongRecOn with
      | ind j ihj =>
        intro x k hx hfirst hpath
        have hxr := hx
        unfold Names.inR at hxr
        obtain ⟨k', a', b, i, e1, e2, gb, gi, eo⟩ := (newF_of (writer_is hxr.1 hfirst)).1 (by rw [← hl]; exact hxr) rfl
        obtain rfl : k = k' := by omega
        obtain rfl : j = a' := by omega
        by_cases hc : (newF f).cp x
        · have hop : i.op = 23 ∨ i.op = 45 := by
            have := hc.2; rw [eo] at this; exact this
          have hone := (hf.2 k b gb).2 j i gi
          have hr := hone.1.1
          have hu := uses_copy hr hop
          have hub := hone.2.1.2.1 i.a hu
          have hup := uses_pos hr i.a hu
          have hin : (newF f).inR i.a := ⟨hup, by rw [hl]; exact hub⟩
          have hh := (hp.2 k b gb j i gi).2 (by omega) i.a hu
          have fin : (∃ l, ChainR (newF f) i.a l) → ∃ l, ChainR (newF f) x l := fun ⟨l, h⟩ => ⟨_, .step hx hc (by rw [eo]; exact h)⟩
          refine fin ?_
          rcases hh with h1 | ⟨h0, k2, i2, h3, h4⟩
          · refine none _ hin fun k2 a2 ⟨b2, j2, g1, g2, g3⟩ => ?_
            have := ((hp.2 k2 b2 g1 a2 j2 g2).1 (by omega)).1
            omega
          · rcases h4 with ⟨h4, h5⟩ | ⟨h4, h5⟩
            · obtain rfl : k2 = k := by omega
              exact ihj i2 (by omega) i.a k2 hin h3 hpath
            · obtain ⟨m, hm, hpm⟩ := h5.path h4 hpath
              exact ihn m hm i2 i.a k2 hin h3 hpm
        · exact ⟨_, .stop hx hc⟩
  intro x hx
  rcases writer_all f x with ⟨k, a, h⟩ | h
  · obtain ⟨b, i, e1, _⟩ := h.1
    obtain ⟨n, hn⟩ := (hp.1 k (List.getElem?_eq_some_iff.1 e1).1).path
    exact key n a x k hx h hn
  · exact none x hx h
end Go.Proofs.Ytjjijklonnhdeaa

/- What an instruction reads, as the program says it. No program is in sight here. -/
namespace Go.Proofs.Ytjjijklonnhdeaa
open Go.Ax
theorem bits {op : Int} (ho : opF op = true) : (band (hasF op) 2 ≠ 0 ↔ (abF op || oneF op) = true) ∧ (band (hasF op) 4 ≠ 0 ↔ abF op = true) ∧ (band (hasF op) 8 ≠ 0 ↔ op = 30) ∧ (band (hasF op) 2048 = 0 ↔ op ≠ 45) := by
  unfold opF at ho
  simp at ho
  have hh : (3 ≤ op ∧ op ≤ 16) ∨ (23 ≤ op ∧ op ≤ 28) ∨ op = 20 ∨ op = 21 ∨ op = 22 ∨ op = 29 ∨ op = 30 ∨ op = 31 ∨ op = 32 ∨ op = 33 ∨ op = 34 ∨ op = 35 ∨ op = 36 ∨ op = 37 ∨ op = 38 ∨ op = 39 ∨ op = 40 ∨ op = 41 ∨ op = 42 ∨ op = 43 ∨ op = 44 ∨ op = 45 := by omega
  unfold abF oneF twoF
  rcases hh with h | h | h | h | h | h | h | h | h | h | h | h | h | h | h | h | h | h | h | h | h | h
  · obtain ⟨b1, b2, b4, b8, b16, b32, b64, b128, b256, b512, b1024, b2048⟩ := bd7
    rw [show hasF op = 7 by unfold hasF; rw [if_pos (by omega)], b2, b4, b8, b2048]; simp; omega
  · obtain ⟨b1, b2, b4, b8, b16, b32, b64, b128, b256, b512, b1024, b2048⟩ := bd3
    rw [show hasF op = 3 by unfold hasF; rw [if_neg (by omega), if_pos (by omega)], b2, b4, b8, b2048]; simp; omega
  all_goals (rw [h]; decide)
def usesA (i : Ins) : List Int := if band (hasF i.op) 2 ≠ 0 then [i.a] else []
def usesB (i : Ins) : List Int := if band (hasF i.op) 4 ≠ 0 ∧ (band (hasF i.op) 2048 = 0 ∨ i.m ≠ 21) then [i.b] else []
def usesC (i : Ins) : List Int := if band (hasF i.op) 8 ≠ 0 then [i.c] else []
theorem uses_eq {i : Ins} (h : rightF i = true) : usesF i = usesA i ++ (usesB i ++ (usesC i ++ i.args)) := by
  rw [right_eq] at h
  have ho : opF i.op = true := by unfold right15 at h; simp at h; exact h.1
  obtain ⟨h1, h2, h3, h4⟩ := bits ho
  unfold usesF usesA usesB usesC
  rw [if_pos h]
  have hb : bF i = true ↔ (band (hasF i.op) 4 ≠ 0 ∧ (band (hasF i.op) 2048 = 0 ∨ i.m ≠ 21)) := by
    rw [h2, h4]; unfold bF; simp
  congr 1
  · by_cases e : (abF i.op || oneF i.op) = true
    · rw [if_pos e, if_pos (h1.2 e)]
    · rw [if_neg e, if_neg fun x => e (h1.1 x)]
  · congr 1
    · by_cases e : bF i = true
      · rw [if_pos e, if_pos (hb.1 e)]
      · rw [if_neg e, if_neg fun x => e (hb.2 x)]
    · congr 1
      by_cases e : i.op = 30
      · rw [if_pos e, if_pos (h3.2 e)]
      · rw [if_neg e, if_neg fun x => e (h3.1 x)]
theorem usesA_len (i : Ins) : (usesA i).length ≤ 1 := by unfold usesA; split <;> simp
theorem usesB_len (i : Ins) : (usesB i).length ≤ 1 := by unfold usesB; split <;> simp
theorem usesC_len (i : Ins) : (usesC i).length ≤ 1 := by unfold usesC; split <;> simp
end Go.Proofs.Ytjjijklonnhdeaa

/- What an instruction reads and goes to, as the program says it, by contracts; copies of lists. -/
namespace Go.Proofs.Ytjjijklonnhdeaa
open Go.Ax
set_option maxRecDepth 10000
set_option linter.unusedVariables false

/-- The parts of the first loop over a function. -/
def findRange : Code → Option (Array Nat × Code × Code)
  | .rangeFunc _ ps a b => some (ps, a, b)
  | .seq a b => (findRange a).or (findRange b)
  | .block _ c => findRange c
  | _ => none
def rangeOf (f : Func) : Array Nat × Code × Code := (f.body.bind findRange).getD (#[], .skip, .skip)

theorem Ends123_spec (op : Int) : FnSpec Try.prog 66 [num op] (fun r => r = tru (endsF op)) := by
  refine spec_of 1000 Try.func66 rfl rfl ?_
  repeat' first | refine Len.map ?_ | refine Len.nil ?_ | refine Len.cons ?_ | refine Br.t rfl ?_ | refine Br.f rfl ?_ | refine Fit.au ?_ | refine Cv.au ?_ | refine Need.ne ?_ | refine Need.au ?_ | refine Pick.map (by assumption) ?_ | refine Pick.mapI (by omega) (by assumption) ?_ | refine PickN.mk _ (by assumption) ?_ | refine PickN.mk _ rfl ?_ | refine PickN.au ?_ | refine App.au rfl ?_ | refine App.au (own_map (fun _ => rfl) _) ?_ | refine Both.mk ?_ ?_ | exact True.intro | refine Br.d (fun h => ?_) (fun h => ?_) | refine Br.nd (fun h => ?_) (fun h => ?_) | refine Br.mk (fun h => ?_) (fun h => ?_)
  all_goals (show _ = _; unfold endsF; simp_all [asRes, tru]; try omega)
theorem Targets100_spec (i : Ins) (hi : i.fits) : FnSpec Try.prog 51 [insA i] (fun r => r = .osl 1 ((targetsF i).map int1)) := by
  refine FnSpec.weakV (spec_of 1000 Try.func51 rfl rfl ?_)
  repeat' first | refine Call.eq (Right_spec i hi) rfl ?_ | refine Call.eq (Ends123_spec _) rfl ?_ | refine Len.map ?_ | refine Len.nil ?_ | refine Len.cons ?_ | refine Br.t rfl ?_ | refine Br.f rfl ?_ | refine Fit.au ?_ | refine Cv.au ?_ | refine Need.ne ?_ | refine Need.au ?_ | refine Pick.map (by assumption) ?_ | refine Pick.mapI (by omega) (by assumption) ?_ | refine PickN.mk _ (by assumption) ?_ | refine PickN.mk _ rfl ?_ | refine PickN.au ?_ | refine App.au rfl ?_ | refine App.au (own_map (fun _ => rfl) _) ?_ | refine Both.mk ?_ ?_ | exact True.intro | refine Br.d (fun h => ?_) (fun h => ?_) | refine Br.nd (fun h => ?_) (fun h => ?_) | refine Br.mk (fun h => ?_) (fun h => ?_)
  all_goals (try simp only [right_eq, endsF] at *)
  all_goals first
    | (refine .inr ?_
       have e : targetsF i = [] := by unfold targetsF; rw [if_neg (by simp_all <;> omega), if_neg (by simp_all <;> omega)]
       rw [e]; exact OLe.onil)
    | (refine .inl ?_
       have e : targetsF i = [i.n] := by unfold targetsF; rw [if_pos (by simp_all)]
       rw [e]; rfl)
    | (refine .inl ?_
       have e : targetsF i = [i.n, i.m] := by unfold targetsF; rw [if_neg (by simp_all), if_pos (by simp_all <;> omega)]
       rw [e]; rfl)
theorem Clone_spec (l : List Int) (hl : l.length ≤ 1000000) : FnSpec Try.prog 15 [ints l] (fun r => r = .osl 1 (l.map int1)) := by
  refine FnSpec.weakV (spec_of 1000 Try.func15 rfl rfl ?_)
  repeat' first | refine Len.map ?_ | refine Len.nil ?_ | refine Len.cons ?_ | refine Br.t rfl ?_ | refine Br.f rfl ?_ | refine Fit.au ?_ | refine Cv.au ?_ | refine Need.ne ?_ | refine Need.au ?_ | refine Pick.map (by assumption) ?_ | refine Pick.mapI (by omega) (by assumption) ?_ | refine PickN.mk _ (by assumption) ?_ | refine PickN.mk _ rfl ?_ | refine PickN.au ?_ | refine App.au rfl ?_ | refine App.au (own_map (fun _ => rfl) _) ?_ | refine Both.mk ?_ ?_ | exact True.intro
  refine NilT.mk fun b hb => ?_
  refine Br.mk (fun h => ?_) (fun h => ?_)
  · repeat' first | refine Len.map ?_ | refine Len.nil ?_ | refine Len.cons ?_ | refine Br.t rfl ?_ | refine Br.f rfl ?_ | refine Fit.au ?_ | refine Cv.au ?_ | refine Need.ne ?_ | refine Need.au ?_ | refine Pick.map (by assumption) ?_ | refine Pick.mapI (by omega) (by assumption) ?_ | refine PickN.mk _ (by assumption) ?_ | refine PickN.mk _ rfl ?_ | refine PickN.au ?_ | refine App.au rfl ?_ | refine App.au (own_map (fun _ => rfl) _) ?_ | refine Both.mk ?_ ?_ | exact True.intro
    refine .inr ?_
    have : l = [] := by simpa using hb (by simpa using h)
    subst this
    exact OLe.onil
  · repeat' first | refine Len.map ?_ | refine Len.nil ?_ | refine Len.cons ?_ | refine Br.t rfl ?_ | refine Br.f rfl ?_ | refine Fit.au ?_ | refine Cv.au ?_ | refine Need.ne ?_ | refine Need.au ?_ | refine Pick.map (by assumption) ?_ | refine Pick.mapI (by omega) (by assumption) ?_ | refine PickN.mk _ (by assumption) ?_ | refine PickN.mk _ rfl ?_ | refine PickN.au ?_ | refine App.au rfl ?_ | refine App.au (own_map (fun _ => rfl) _) ?_ | refine Both.mk ?_ ?_ | exact True.intro
    exact .inl rfl
theorem Ints_spec (l : List Int) (hl : l.length ≤ 1000000) : FnSpec Try.prog 17 [ints l] (fun r => r = .osl 1 (l.map int1)) := by
  refine spec_of 1000 Try.func17 rfl rfl ?_
  repeat' first | refine Len.map ?_ | refine Len.nil ?_ | refine Len.cons ?_ | refine Br.t rfl ?_ | refine Br.f rfl ?_ | refine Fit.au ?_ | refine Cv.au ?_ | refine Need.ne ?_ | refine Need.au ?_ | refine Pick.map (by assumption) ?_ | refine Pick.mapI (by omega) (by assumption) ?_ | refine PickN.mk _ (by assumption) ?_ | refine PickN.mk _ rfl ?_ | refine PickN.au ?_ | refine App.au rfl ?_ | refine App.au (own_map (fun _ => rfl) _) ?_ | refine Both.mk ?_ ?_ | exact True.intro
  rfl
end Go.Proofs.Ytjjijklonnhdeaa

/- What an instruction reads, as the program says it, by a contract. -/
namespace Go.Proofs.Ytjjijklonnhdeaa
open Go.Ax
set_option maxRecDepth 10000
set_option linter.unusedVariables false

def uY (l : Nat) : AV := .lit (.func (.yield l) #[] #[])
def rangeSa (f : Func) : Code := (rangeOf f).2.1
def rangeBd (f : Func) : Code := (rangeOf f).2.2
end Go.Proofs.Ytjjijklonnhdeaa

/- Where blocks go and come from, as the program reckons it: lists that are filled. No program is in sight here. -/
namespace Go.Proofs.Ytjjijklonnhdeaa
open Go.Ax
/-- Lists, the first ones of which are done. -/
def outS {α : Type} (s : List (List α)) (k : Nat) : List (List α) := s.take k ++ List.replicate (s.length - k) []
theorem outS_len {α : Type} (s : List (List α)) {k : Nat} (h : k ≤ s.length) : (outS s k).length = s.length := by
  unfold outS; rw [List.length_append, List.length_take, List.length_replicate]; omega
theorem outS_at {α : Type} (s : List (List α)) {k : Nat} (h : k < s.length) : (outS s k)[k]? = some [] := by
  unfold outS
  rw [List.getElem?_append_right (by rw [List.length_take]; omega), List.length_take, List.getElem?_replicate, if_pos (by omega)]
theorem outS_succ {α : Type} {s : List (List α)} {k : Nat} {l : List α} (h : s[k]? = some l) : outS s (k + 1) = (outS s k).set k l := by
  have hk := (List.getElem?_eq_some_iff.1 h).1
  unfold outS
  rw [take_succ h, show s.length - k = (s.length - (k + 1)) + 1 by omega, List.replicate_succ, List.set_append_right _ _ (by rw [List.length_take]; omega), List.length_take, show k - min k s.length = 0 by omega, List.append_assoc]
  rfl
theorem outS_all {α : Type} (s : List (List α)) : outS s s.length = s := by unfold outS; simp
theorem outS_nil {α : Type} {s : List (List α)} {k : Nat} (h : s[k]? = some []) : outS s (k + 1) = outS s k := by
  have hk := (List.getElem?_eq_some_iff.1 h).1
  rw [outS_succ h]
  refine List.ext_getElem? fun j => ?_
  rw [List.getElem?_set]
  split
  · rename_i e; subst e; rw [if_pos (by rw [outS_len s (by omega)]; exact hk), outS_at s hk]
  · rfl
theorem set_at {α : Type} {s : List α} {k : Nat} {a b : α} (h : s[k]? = some b) : (s.set k a)[k]? = some a := by
  rw [List.getElem?_set_self (List.getElem?_eq_some_iff.1 h).1]
theorem below_succ {n : Nat} {l : List Int} {j : Nat} {t : Int} (h : l[j]? = some t) : below n (l.take (j + 1)) = if t < n then below n (l.take j) ++ [t] else below n (l.take j) := by
  unfold below
  rw [take_succ h, List.filter_append]
  split <;> simp_all
theorem below_len (n : Nat) (l : List Int) : (below n l).length ≤ l.length := List.length_filter_le _ _
/-- The blocks that go to each one, up to a block, and to a place in its list. -/
def predP (s : List (List Int)) (k j : Nat) (t : Nat) : List Int := ((List.range k).flatMap fun a : Nat => ((s[a]?.getD []).filter (· = (t : Int))).map fun _ => (a : Int)) ++ (((s[k]?.getD []).take j).filter (· = (t : Int))).map fun _ => (k : Int)
def predsP (s : List (List Int)) (k j : Nat) : List (List Int) := (List.range s.length).map fun t => predP s k j t
theorem predsP_len (s : List (List Int)) (k j : Nat) : (predsP s k j).length = s.length := by unfold predsP; simp
theorem predsP_zero (s : List (List Int)) : predsP s 0 0 = List.replicate s.length [] := by
  unfold predsP predP
  refine List.ext_getElem (by simp) fun i h1 h2 => ?_
  simp
theorem predsP_at {s : List (List Int)} {k j t : Nat} (h : t < s.length) : (predsP s k j)[t]? = some (predP s k j t) := by
  unfold predsP; rw [List.getElem?_map, List.getElem?_range h]; rfl
theorem predP_step {s : List (List Int)} {k j : Nat} {l : List Int} {t : Int} (hl : s[k]? = some l) (ht : l[j]? = some t) (u : Nat) : predP s k (j + 1) u = if (u : Int) = t then predP s k j u ++ [(k : Int)] else predP s k j u := by
  unfold predP
  simp only [hl, Option.getD_some]
  rw [take_succ ht, List.filter_append, List.map_append]
  by_cases e : (u : Int) = t
  · subst e; simp
  · rw [if_neg e]
    have : ¬ t = (u : Int) := fun h => e h.symm
    simp [this]
theorem predsP_step {s : List (List Int)} {k j : Nat} {l : List Int} {t : Nat} (hl : s[k]? = some l) (ht : l[j]? = some (t : Int)) (h : t < s.length) : predsP s k (j + 1) = (predsP s k j).set t (predP s k j t ++ [(k : Int)]) := by
  refine List.ext_getElem? fun u => ?_
  rw [List.getElem?_set]
  by_cases hu : u < s.length
  · rw [predsP_at hu, predP_step hl ht]
    by_cases e : t = u
    · subst e; rw [if_pos rfl, if_pos rfl, if_pos (by rw [predsP_len]; exact h)]
    · rw [if_neg (by omega), if_neg e, predsP_at hu]
  · rw [List.getElem?_eq_none (by rw [predsP_len]; omega)]
    rw [if_neg (by omega), List.getElem?_eq_none (by rw [predsP_len]; omega)]
theorem predsP_next {s : List (List Int)} {k : Nat} {l : List Int} (hl : s[k]? = some l) : predsP s k l.length = predsP s (k + 1) 0 := by
  unfold predsP
  refine List.map_congr_left fun t _ => ?_
  unfold predP
  rw [List.range_succ, List.flatMap_append]
  simp [hl]
theorem predP_len {s : List (List Int)} (hs : ∀ l ∈ s, l.length ≤ 2) (k j t : Nat) : (predP s k j t).length ≤ 2 * k + 2 := by
  have h1 : ∀ a : Nat, (s[a]?.getD []).length ≤ 2 := fun a => by
    cases h : s[a]? with
    | none => simp
    | some l => exact hs l (List.mem_of_getElem? h)
  unfold predP
  rw [List.length_append, List.length_map]
  have h2 : (((s[k]?.getD []).take j).filter (· = (t : Int))).length ≤ 2 := Nat.le_trans (List.length_filter_le _ _) (Nat.le_trans (by rw [List.length_take]; omega) (h1 k))
  have h3 : ∀ k : Nat, ((List.range k).flatMap fun a : Nat => ((s[a]?.getD []).filter (· = (t : Int))).map fun _ => (a : Int)).length ≤ 2 * k := by
    intro k
    induction k with
    | zero => simp
    | succ k ih =>
      rw [List.range_succ, List.flatMap_append, List.length_append]
      have := Nat.le_trans (List.length_filter_le (· = (t : Int)) (s[k]?.getD [])) (h1 k)
      simp only [List.flatMap_cons, List.flatMap_nil, List.append_nil, List.length_map]
      omega
  have := h3 k
  omega
theorem filter_nodup {l : List Int} (h : l.Nodup) (t : Int) (a : Int) : ((l.filter (· = t)).map fun _ => a) = if t ∈ l then [a] else [] := by
  induction l with
  | nil => simp
  | cons x l ih =>
    obtain ⟨h1, h2⟩ := List.nodup_cons.1 h
    by_cases e : x = t
    · subst e
      have : l.filter (· = x) = [] := List.filter_eq_nil_iff.2 fun y hy => by
        simp only [decide_eq_true_eq]
        exact fun e => h1 (e ▸ hy)
      simp [this]
    · rw [List.filter_cons_of_neg (by simpa using e), ih h2]
      have : ¬ t = x := fun h => e h.symm
      simp [this]
/-- Each list names none twice: then so do these. -/
theorem predP_eq {s : List (List Int)} (hs : ∀ l ∈ s, l.Nodup) (t : Nat) : ∀ k, predP s k 0 t = predOf s t k
  | 0 => by unfold predP predOf; simp
  | k + 1 => by
    have ih := predP_eq hs t k
    unfold predP predOf at *
    rw [List.range_succ, List.flatMap_append, List.filter_append, List.map_append, ← ih]
    simp only [List.take_zero, List.filter_nil, List.map_nil, List.append_nil, List.flatMap_cons, List.flatMap_nil, List.filter_cons, List.filter_nil]
    congr 1
    have h2 : (s[k]?.getD []).Nodup := by
      cases h : s[k]? with
      | none => simp
      | some l => exact hs l (List.mem_of_getElem? h)
    rw [filter_nodup h2]
    by_cases e : (t : Int) ∈ s[k]?.getD []
    · simp [e]
    · simp [e]
theorem targetsF_nodup (i : Ins) : (targetsF i).Nodup := by
  unfold targetsF
  split
  · simp
  · split
    · rename_i h
      have h2 := h.1
      unfold right15 tailF tailA at h2
      simp [h.2] at h2
      simp
      omega
    · simp
theorem succsF_nodup (f : Fun) : ∀ l ∈ succsF f, l.Nodup := by
  intro l hl
  unfold succsF at hl
  obtain ⟨b, _, rfl⟩ := List.mem_map.1 hl
  unfold succ1
  split
  · exact (targetsF_nodup _).filter _
  · simp
/-- The blocks that go to each one, as often as they do. -/
def predsD (s : List (List Int)) : List (List Int) := predsP s s.length 0
theorem predsD_eq (f : Fun) : predsD (succsF f) = predsF (succsF f) := by
  unfold predsD predsP predsF
  exact List.map_congr_left fun t _ => predP_eq (succsF_nodup f) t _
theorem predsD_len (s : List (List Int)) : (predsD s).length = s.length := predsP_len _ _ _
end Go.Proofs.Ytjjijklonnhdeaa

/- The document's answer for instructions, by contracts. -/
namespace Go.Proofs.Ytjjijklonnhdeaa
open Go.Ax
set_option maxRecDepth 10000
set_option linter.unusedVariables false

theorem HasInt_spec (l : List Int) (x : Int) (hl : l.length < 9223372036854775807) : FnSpec Try.prog 12 [ints l, num x] (fun r => r = tru (decide (x ∈ l))) := by
  refine spec_of 1000 Try.func12 rfl rfl ?_
  repeat' first | refine Len.map ?_ | refine Len.nil ?_ | refine Len.cons ?_ | refine Br.t rfl ?_ | refine Br.f rfl ?_ | refine Fit.au ?_ | refine Cv.au ?_ | refine Need.ne ?_ | refine Need.au ?_ | refine Pick.map (by assumption) ?_ | refine Pick.mapI (by omega) (by assumption) ?_ | refine PickN.mk _ (by assumption) ?_ | refine PickN.mk _ rfl ?_ | refine PickN.au ?_ | refine App.au rfl ?_ | refine App.au (own_map (fun _ => rfl) _) ?_ | refine Both.mk ?_ ?_ | exact True.intro
  refine Stop.mk (loop_in (fun k : Nat => [(0, ints l), (1, num x), (5, num k)]) (fun _ => []) 0 (fun k => k ≤ l.length ∧ x ∉ l.take k) (fun k => l.length - k) 0 ⟨by omega, by simp⟩ (g := []) ⟨rfl, (by repeat' first | exact trivial | refine ⟨rfl, ?_⟩ | refine ⟨congrArg (fun n => AV.lit (.int .i64 n)) (by omega), ?_⟩ | refine ⟨congrArg (fun l => some (Row.row 1 l)) (by simp [int1, num, tru]), ?_⟩), (by repeat' first | exact trivial | refine ⟨rfl, ?_⟩ | refine ⟨congrArg (fun n => AV.lit (.int .i64 n)) (by omega), ?_⟩ | refine ⟨congrArg (fun l => some (Row.row 1 l)) (by simp [int1, num, tru]), ?_⟩)⟩ (fun k hk ih => ?_))
  obtain ⟨hk1, hk2⟩ := hk
  refine go 1000 Try.func12 ?_
  repeat' first | refine Len.map ?_ | refine Len.nil ?_ | refine Len.cons ?_ | refine Br.t rfl ?_ | refine Br.f rfl ?_ | refine Fit.au ?_ | refine Cv.au ?_ | refine Need.ne ?_ | refine Need.au ?_ | refine Pick.map (by assumption) ?_ | refine Pick.mapI (by omega) (by assumption) ?_ | refine PickN.mk _ (by assumption) ?_ | refine PickN.mk _ rfl ?_ | refine PickN.au ?_ | refine App.au rfl ?_ | refine App.au (own_map (fun _ => rfl) _) ?_ | refine Both.mk ?_ ?_ | exact True.intro
  refine Br.d (fun h2 => ?_) (fun h2 => ?_)
  · obtain ⟨y, gy, gm⟩ := getK (l := l) (k := k) (by omega)
    repeat' first | refine Len.map ?_ | refine Len.nil ?_ | refine Len.cons ?_ | refine Br.t rfl ?_ | refine Br.f rfl ?_ | refine Fit.au ?_ | refine Cv.au ?_ | refine Need.ne ?_ | refine Need.au ?_ | refine Pick.map (by assumption) ?_ | refine Pick.mapI (by omega) (by assumption) ?_ | refine PickN.mk _ (by assumption) ?_ | refine PickN.mk _ rfl ?_ | refine PickN.au ?_ | refine App.au rfl ?_ | refine App.au (own_map (fun _ => rfl) _) ?_ | refine Both.mk ?_ ?_ | exact True.intro
    refine Br.d (fun h3 => ?_) (fun h3 => ?_)
    · subst h3
      show _ = _
      simp [asRes, tru, gm]
    · repeat' first | refine Len.map ?_ | refine Len.nil ?_ | refine Len.cons ?_ | refine Br.t rfl ?_ | refine Br.f rfl ?_ | refine Fit.au ?_ | refine Cv.au ?_ | refine Need.ne ?_ | refine Need.au ?_ | refine Pick.map (by assumption) ?_ | refine Pick.mapI (by omega) (by assumption) ?_ | refine PickN.mk _ (by assumption) ?_ | refine PickN.mk _ rfl ?_ | refine PickN.au ?_ | refine App.au rfl ?_ | refine App.au (own_map (fun _ => rfl) _) ?_ | refine Both.mk ?_ ?_ | exact True.intro
      refine Stop.mk (ih (k + 1) _ _ _ ⟨by omega, ?_⟩ (by omega) (g := []) ⟨rfl, (by repeat' first | exact trivial | refine ⟨rfl, ?_⟩ | refine ⟨congrArg (fun n => AV.lit (.int .i64 n)) (by omega), ?_⟩ | refine ⟨congrArg (fun l => some (Row.row 1 l)) (by simp [int1, num, tru]), ?_⟩), (by repeat' first | exact trivial | refine ⟨rfl, ?_⟩ | refine ⟨congrArg (fun n => AV.lit (.int .i64 n)) (by omega), ?_⟩ | refine ⟨congrArg (fun l => some (Row.row 1 l)) (by simp [int1, num, tru]), ?_⟩)⟩)
      rw [take_succ gy]; simp [hk2]; omega
  · rw [take_all (by omega)] at hk2
    repeat' first | refine Len.map ?_ | refine Len.nil ?_ | refine Len.cons ?_ | refine Br.t rfl ?_ | refine Br.f rfl ?_ | refine Fit.au ?_ | refine Cv.au ?_ | refine Need.ne ?_ | refine Need.au ?_ | refine Pick.map (by assumption) ?_ | refine Pick.mapI (by omega) (by assumption) ?_ | refine PickN.mk _ (by assumption) ?_ | refine PickN.mk _ rfl ?_ | refine PickN.au ?_ | refine App.au rfl ?_ | refine App.au (own_map (fun _ => rfl) _) ?_ | refine Both.mk ?_ ?_ | exact True.intro
    show _ = _
    simp [asRes, tru, hk2]

theorem two_spec (op : Int) : FnSpec Try.prog 59 [num op] (fun r => r = tru (twoF op)) := by
  refine spec_of 1000 Try.func59 rfl rfl ?_
  repeat' first | refine Look.yes (View.mk _ rfl ?_) | refine CallV.eq (HasInt_spec [29, 32, 33, 34, 35, 37] op (by decide)) rfl (Free.lit _) ?_ | refine Len.map ?_ | refine Len.nil ?_ | refine Len.cons ?_ | refine Br.t rfl ?_ | refine Br.f rfl ?_ | refine Fit.au ?_ | refine Cv.au ?_ | refine Need.ne ?_ | refine Need.au ?_ | refine Pick.map (by assumption) ?_ | refine Pick.mapI (by omega) (by assumption) ?_ | refine PickN.mk _ (by assumption) ?_ | refine PickN.mk _ rfl ?_ | refine PickN.au ?_ | refine App.au rfl ?_ | refine App.au (own_map (fun _ => rfl) _) ?_ | refine Both.mk ?_ ?_ | exact True.intro | refine Br.d (fun h => ?_) (fun h => ?_) | refine Br.nd (fun h => ?_) (fun h => ?_) | refine Br.mk (fun h => ?_) (fun h => ?_)
  all_goals (show _ = _; try simp_all [asRes, tru, num, twoF]; try first | done | omega | (rw [Bool.eq_iff_iff]; simp; omega) | (simp; omega))
theorem one_spec (op : Int) : FnSpec Try.prog 62 [num op] (fun r => r = tru (oneF op)) := by
  refine spec_of 1000 Try.func62 rfl rfl ?_
  repeat' first | refine Look.yes (View.mk _ rfl ?_) | refine CallV.eq (HasInt_spec [23, 24, 25, 26, 27, 28, 31, 36, 38, 40, 42, 43] op (by decide)) rfl (Free.lit _) ?_ | refine Len.map ?_ | refine Len.nil ?_ | refine Len.cons ?_ | refine Br.t rfl ?_ | refine Br.f rfl ?_ | refine Fit.au ?_ | refine Cv.au ?_ | refine Need.ne ?_ | refine Need.au ?_ | refine Pick.map (by assumption) ?_ | refine Pick.mapI (by omega) (by assumption) ?_ | refine PickN.mk _ (by assumption) ?_ | refine PickN.mk _ rfl ?_ | refine PickN.au ?_ | refine App.au rfl ?_ | refine App.au (own_map (fun _ => rfl) _) ?_ | refine Both.mk ?_ ?_ | exact True.intro | refine Br.d (fun h => ?_) (fun h => ?_) | refine Br.nd (fun h => ?_) (fun h => ?_) | refine Br.mk (fun h => ?_) (fun h => ?_)
  all_goals (show _ = _; try simp_all [asRes, tru, num, oneF]; try first | done | omega | (rw [Bool.eq_iff_iff]; simp; omega) | (simp; omega))
theorem fits_spec (h : Bool) (n : Int) : FnSpec Try.prog 60 [tru h, num n] (fun r => r = tru (fits0 h n)) := by
  refine spec_of 1000 Try.func60 rfl rfl ?_
  repeat' first | refine Len.map ?_ | refine Len.nil ?_ | refine Len.cons ?_ | refine Br.t rfl ?_ | refine Br.f rfl ?_ | refine Fit.au ?_ | refine Cv.au ?_ | refine Need.ne ?_ | refine Need.au ?_ | refine Pick.map (by assumption) ?_ | refine Pick.mapI (by omega) (by assumption) ?_ | refine PickN.mk _ (by assumption) ?_ | refine PickN.mk _ rfl ?_ | refine PickN.au ?_ | refine App.au rfl ?_ | refine App.au (own_map (fun _ => rfl) _) ?_ | refine Both.mk ?_ ?_ | exact True.intro | refine Br.d (fun h => ?_) (fun h => ?_) | refine Br.nd (fun h => ?_) (fun h => ?_) | refine Br.mk (fun h => ?_) (fun h => ?_)
  all_goals (show _ = _; try simp_all [asRes, tru, num, fits0]; try first | done | omega | (rw [Bool.eq_iff_iff]; simp; omega) | (simp; omega))
theorem Writes_spec (op : Int) : FnSpec Try.prog 61 [num op] (fun r => r = tru (writesF op)) := by
  refine spec_of 1000 Try.func61 rfl rfl ?_
  repeat' first | refine Len.map ?_ | refine Len.nil ?_ | refine Len.cons ?_ | refine Br.t rfl ?_ | refine Br.f rfl ?_ | refine Fit.au ?_ | refine Cv.au ?_ | refine Need.ne ?_ | refine Need.au ?_ | refine Pick.map (by assumption) ?_ | refine Pick.mapI (by omega) (by assumption) ?_ | refine PickN.mk _ (by assumption) ?_ | refine PickN.mk _ rfl ?_ | refine PickN.au ?_ | refine App.au rfl ?_ | refine App.au (own_map (fun _ => rfl) _) ?_ | refine Both.mk ?_ ?_ | exact True.intro | refine Br.d (fun h => ?_) (fun h => ?_) | refine Br.nd (fun h => ?_) (fun h => ?_) | refine Br.mk (fun h => ?_) (fun h => ?_)
  all_goals (show _ = _; try simp_all [asRes, tru, num, writesF]; try first | done | omega | (rw [Bool.eq_iff_iff]; simp; omega) | (simp; omega))
theorem Check_spec (op : Int) : FnSpec Try.prog 63 [num op] (fun r => r = tru (checkF op)) := by
  refine spec_of 1000 Try.func63 rfl rfl ?_
  repeat' first | refine Len.map ?_ | refine Len.nil ?_ | refine Len.cons ?_ | refine Br.t rfl ?_ | refine Br.f rfl ?_ | refine Fit.au ?_ | refine Cv.au ?_ | refine Need.ne ?_ | refine Need.au ?_ | refine Pick.map (by assumption) ?_ | refine Pick.mapI (by omega) (by assumption) ?_ | refine PickN.mk _ (by assumption) ?_ | refine PickN.mk _ rfl ?_ | refine PickN.au ?_ | refine App.au rfl ?_ | refine App.au (own_map (fun _ => rfl) _) ?_ | refine Both.mk ?_ ?_ | exact True.intro | refine Br.d (fun h => ?_) (fun h => ?_) | refine Br.nd (fun h => ?_) (fun h => ?_) | refine Br.mk (fun h => ?_) (fun h => ?_)
  all_goals (show _ = _; try simp_all [asRes, tru, num, checkF]; try first | done | omega | (rw [Bool.eq_iff_iff]; simp; omega) | (simp; omega))
end Go.Proofs.Ytjjijklonnhdeaa
