/- Entries under other numbers. -/
import Derived.Test.YtnfkdilmoppbpaaAxX
namespace Go.Ax
open Go.RowKit
set_option linter.unusedVariables false
set_option linter.unusedSimpArgs false

def rn : List (Nat × Nat) → Nat → Nat
  | [], id => id
  | (a, b) :: l, id => bif Nat.beq a id then b else rn l id
def rnOK (lo : Nat) : List (Nat × Nat) → Bool
  | [] => true
  | (a, _) :: l => Nat.ble lo a && rnOK lo l
theorem rn_low {lo id : Nat} : ∀ {l : List (Nat × Nat)}, rnOK lo l = true → id < lo → rn l id = id
  | [], _, _ => rfl
  | (a, b) :: l, h, hi => by
    simp only [rnOK, Bool.and_eq_true] at h
    have h1 := Nat.le_of_ble_eq_true h.1
    have : Nat.beq a id = false := by
      cases hb : Nat.beq a id with
      | false => rfl
      | true => have := Nat.eq_of_beq_eq_true hb; omega
    simp only [rn, this, cond_false]
    exact rn_low h.2 hi

mutual
def AV.ren (g : List (Nat × Nat)) : AV → AV
  | .hw id => .hw (rn g id)
  | .hs id a b => .hs (rn g id) a b
  | .hp id o => .hp (rn g id) o
  | .hq id i o => .hq (rn g id) i o
  | .agg cs => .agg (AV.renL g cs)
  | .tup cs => .tup (AV.renL g cs)
  | .fn f cs => .fn f (AV.renL g cs)
  | a => a
def AV.renL (g : List (Nat × Nat)) : List AV → List AV
  | [] => []
  | a :: as => AV.ren g a :: AV.renL g as
end

theorem AV.renL_len (g : List (Nat × Nat)) : ∀ (as : List AV), (AV.renL g as).length = as.length
  | [] => rfl
  | a :: as => by simp only [AV.renL, List.length_cons, AV.renL_len g as]

def Row.ren (g : List (Nat × Nat)) : Row → Row
  | .var cs => .var (AV.renL g cs)
  | .row sz xs => .row sz xs
  | .foc sz xs cs n off j => .foc sz xs cs n off (rn g j)

def Interp.ren (I : Interp) (g : List (Nat × Nat)) (n : Nat) : Interp := { S := I.S, at_ := fun id => I.at_ (rn g id), ln := fun id => I.ln (rn g id), sz := fun id => I.sz (rn g id), nx := n }

section
variable {I : Interp} {w : World} {g : List (Nat × Nat)} {n : Nat}

mutual
theorem Rep.ren : ∀ {a : AV} {x : Value}, Rep I w (.v (a.ren g) x) → a.sc n = true → Rep (I.ren g n) w (.v a x)
  | .any, x, h, _ => .std (.any _)
  | .lit v, x, h, _ => by cases h with | std h => exact .std h
  | .sl f s xs, x, h, _ => by cases h with | std h => exact .std h
  | .pt cs, x, h, _ => by cases h with | std h => exact .std h
  | .osl s xs, x, h, _ => by cases h with | std h => cases h
  | .opt cs, x, h, _ => by cases h with | std h => cases h
  | .mp kvs, x, h, _ => by cases h with | std h => exact .std h
  | .hw id, x, h, hq0 => by
    have hs' : id < n := by simpa [AV.sc] using hq0
    simp only [AV.ren] at h
    cases h with
    | std h => cases h
    | hw0 h ha h0 hc => exact .hw0 hs' ha h0 hc
    | hw h ha hn hb hsz => exact Rep.hw (I := I.ren g n) (id := id) hs' ha hn hb hsz
  | .hs id a b, x, h, hq0 => by
    have hs' : id < n := by simpa [AV.sc] using hq0
    simp only [AV.ren] at h
    cases h with
    | std h => cases h
    | hs0 h hc => exact .hs0 hs' hc
    | hs h ha hn hb hsz => exact Rep.hs (I := I.ren g n) (id := id) hs' ha hn hb hsz
  | .hp id o, x, h, hq0 => by
    have hs' : id < n := by simpa [AV.sc] using hq0
    simp only [AV.ren] at h
    cases h with
    | std h => cases h
    | hp h ha => exact .hp (I := I.ren g n) hs' ha
  | .hq id i o, x, h, hq0 => by
    have hs' : id < n := by simpa [AV.sc] using hq0
    simp only [AV.ren] at h
    cases h with
    | std h => cases h
    | hq h ha => exact Rep.hq (I := I.ren g n) (id := id) hs' ha
  | .agg cs, x, h, hq0 => by
    simp only [AV.ren] at h
    obtain ⟨vs, rfl, h2⟩ := h.agg_inv
    exact .agg (Rep.renL h2 (by simpa [AV.sc] using hq0))
  | .tup cs, x, h, hq0 => by
    simp only [AV.ren] at h
    obtain ⟨vs, rfl, h2⟩ := h.tup_inv
    exact .tup (Rep.renL h2 (by simpa [AV.sc] using hq0))
  | .fn f cs, x, h, hq0 => by
    simp only [AV.ren] at h
    have : ∃ vs : List Value, x = .func (.func f) #[] vs.toArray ∧ Rep I w (.l (AV.renL g cs) vs) := by
      cases h with
      | std h => cases h with | fn h => exact ⟨_, rfl, h.l_rep⟩
      | fn h => exact ⟨_, rfl, h⟩
    obtain ⟨vs, rfl, h2⟩ := this
    exact .fn (Rep.renL h2 (by simpa [AV.sc] using hq0))
theorem Rep.renL : ∀ {as : List AV} {xs : List Value}, Rep I w (.l (AV.renL g as) xs) → AV.scL n as = true → Rep (I.ren g n) w (.l as xs)
  | [], xs, h, _ => by simp only [AV.renL] at h; cases h; exact .nil
  | a :: as, xs, h, hq0 => by
    simp only [AV.renL] at h
    simp only [AV.scL, Bool.and_eq_true] at hq0
    cases h with | cons h1 h2 => exact .cons (Rep.ren h1 hq0.1) (Rep.renL h2 hq0.2)
end

mutual
theorem Std.unren {S : Nat → Prop} : ∀ {a : AV} {x : Value}, Std S w (.v (a.ren g) x) → Std S w (.v a x)
  | .any, x, h => h
  | .lit v, x, h => h
  | .sl f s xs, x, h => h
  | .pt cs, x, h => h
  | .osl s xs, x, h => h
  | .opt cs, x, h => h
  | .mp kvs, x, h => h
  | .hw id, x, h => by simp only [AV.ren] at h; cases h
  | .hs id a b, x, h => by simp only [AV.ren] at h; cases h
  | .hp id o, x, h => by simp only [AV.ren] at h; cases h
  | .hq id i o, x, h => by simp only [AV.ren] at h; cases h
  | .agg cs, x, h => by simp only [AV.ren] at h; cases h with | agg h => exact .agg (Std.unrenL h)
  | .tup cs, x, h => by simp only [AV.ren] at h; cases h with | tup h => exact .tup (Std.unrenL h)
  | .fn f cs, x, h => by simp only [AV.ren] at h; cases h with | fn h => exact .fn (Std.unrenL h)
theorem Std.unrenL {S : Nat → Prop} : ∀ {as : List AV} {xs : List Value}, Std S w (.l (AV.renL g as) xs) → Std S w (.l as xs)
  | [], xs, h => h
  | a :: as, xs, h => by simp only [AV.renL] at h; cases h with | cons h1 h2 => exact .cons (Std.unren h1) (Std.unrenL h2)
end
mutual
theorem Own.unren {S : Nat → Prop} : ∀ {a : AV} {x : Value} {F : List Nat}, Own S w (.v (a.ren g) x) F → Own S w (.v a x) F
  | .any, x, F, h => h
  | .lit v, x, F, h => h
  | .sl f s xs, x, F, h => h
  | .pt cs, x, F, h => h
  | .osl s xs, x, F, h => h
  | .opt cs, x, F, h => h
  | .mp kvs, x, F, h => h
  | .hw id, x, F, h => by simp only [AV.ren] at h; cases h with | std h => cases h
  | .hs id a b, x, F, h => by simp only [AV.ren] at h; cases h with | std h => cases h
  | .hp id o, x, F, h => by simp only [AV.ren] at h; cases h with | std h => cases h
  | .hq id i o, x, F, h => by simp only [AV.ren] at h; cases h with | std h => cases h
  | .agg cs, x, F, h => by
    simp only [AV.ren] at h
    cases h with
    | std h => exact .std (Std.unren (g := g) (a := .agg cs) h)
    | agg h => exact .agg (Own.unrenL h)
  | .tup cs, x, F, h => by
    simp only [AV.ren] at h
    cases h with
    | std h => exact .std (Std.unren (g := g) (a := .tup cs) h)
    | tup h => exact .tup (Own.unrenL h)
  | .fn f cs, x, F, h => by
    simp only [AV.ren] at h
    cases h with
    | std h => exact .std (Std.unren (g := g) (a := .fn f cs) h)
theorem Own.unrenL {S : Nat → Prop} : ∀ {as : List AV} {xs : List Value} {F : List Nat}, Own S w (.l (AV.renL g as) xs) F → Own S w (.l as xs) F
  | [], xs, F, h => h
  | a :: as, xs, F, h => by simp only [AV.renL] at h; cases h with | cons h1 h2 => exact .cons (Own.unren h1) (Own.unrenL h2)
end

theorem Leaf.ren {a : AV} {x : Value} {F : List Nat} (h : Leaf I w (a.ren g) x F) (hq0 : a.sc n = true) : Leaf (I.ren g n) w a x F := by
  rcases h with ⟨h, hf⟩ | h
  · exact .inl ⟨h.ren hq0, hf⟩
  · exact .inr h.unren

theorem VarC.ren {b : Nat} : ∀ {as : List AV} {o : Nat} {F : List Nat}, VarC I w b o (AV.renL g as) F → AV.scL n as = true → VarC (I.ren g n) w b o as F
  | [], o, F, h, _ => by simp only [AV.renL] at h; cases h; exact .nil
  | a :: as, o, F, h, hq0 => by
    simp only [AV.renL] at h
    simp only [AV.scL, Bool.and_eq_true] at hq0
    cases h with | cons h1 h2 h3 => exact .cons h1 (h2.ren hq0.1) (h3.ren hq0.2)

theorem RowOK.ren {id : Nat} {r : Row} {F : List Nat} (h : RowOK I w (rn g id) (r.ren g) F) (hi : id < n) (hq0 : r.sc n = true) : RowOK (I.ren g n) w id r F := by
  cases r with
  | var cs =>
    simp only [Row.ren] at h
    cases h with | var _ ha hb hz hv => exact .var (I := I.ren g n) hi ha hb (by rw [AV.renL_len] at hz; exact hz) (hv.ren hq0)
  | row sz xs =>
    simp only [Row.ren] at h
    cases h with
    | row0 _ ha h0 hz => exact .row0 (I := I.ren g n) hi ha h0 hz
    | row _ ha hl hz hb hs2 hx hv => exact .row (I := I.ren g n) hi ha hl hz hb hs2 hx hv
  | foc sz xs cs k off j =>
    simp only [Row.ren] at h
    cases h with
    | foc _ ha hl hz hb hs2 hx hn ho hf hA o1 hc hr o2 => exact .foc (I := I.ren g n) hi ha hl hz hb hs2 hx hn ho hf hA o1 hc (Rep.ren (a := .hw j) hr hq0) o2

/-- These entries are among those, under other numbers. -/
def subR (g : List (Nat × Nat)) : HP → HP → Prop
  | _, [] => True
  | hp, (id, r) :: l => row (rn g id) hp = some (r.ren g) ∧ subR g (rem (rn g id) hp) l
def scHP (n : Nat) : HP → Bool
  | [] => true
  | (id, r) :: l => Nat.blt id n && r.sc n && scHP n l
def frL (g : List (Nat × Nat)) (tm : TM) : TM → Prop
  | [] => True
  | (d, v) :: l => get d tm = v.ren g ∧ frL g tm l
def scTM (n : Nat) : TM → Bool
  | [] => true
  | (_, v) :: l => v.sc n && scTM n l

theorem HeapOK.subR {l : HP} : ∀ {hp : HP} {T : List Nat}, HeapOK I w hp T → subR g hp l → scHP n l = true → ∃ F G, HeapOK (I.ren g n) w l F ∧ T.Perm (F ++ G) := by
  induction l with
  | nil => intro hp T h _ _; exact ⟨[], T, .nil, List.Perm.refl _⟩
  | cons p l ih =>
    obtain ⟨id, r⟩ := p
    intro hp T h hs hq0
    obtain ⟨h3, h4⟩ := hs
    simp only [scHP, Bool.and_eq_true] at hq0
    obtain ⟨F, T', g1, g2, g3⟩ := h.take h3
    obtain ⟨F2, G, k1, k2⟩ := ih g2 h4 hq0.2
    refine ⟨F ++ F2, G, .cons (g1.ren (by simpa using hq0.1.1) hq0.1.2) k1, g3.trans ?_⟩
    rw [List.append_assoc]; exact List.Perm.append_left F k2

theorem frL_get {tm : TM} : ∀ {l : TM}, frL g tm l → scTM n l = true → ∀ d, get d l = .any ∨ (get d tm = (get d l).ren g ∧ (get d l).sc n = true)
  | [], _, _, d => .inl rfl
  | (j, v) :: l, ⟨h1, h2⟩, hq0, d => by
    simp only [scTM, Bool.and_eq_true] at hq0
    rw [get_cons]
    by_cases e : j = d
    · subst e; rw [if_pos rfl]; exact .inr ⟨h1, hq0.1⟩
    · rw [if_neg e]; exact frL_get h2 hq0.2 d
end

/-- A state says all that another one says. -/
structure Fr (g : List (Nat × Nat)) (lo : Nat) (tm : TM) (hp : HP) (tm' : TM) (hp' : HP) (nx' : Nat) : Prop where
  sc : (scTM nx' tm' && scHP nx' hp' && rnOK lo g && Nat.ble lo nx') = true
  tm : frL g tm tm'
  hp : subR g hp hp'

theorem Run.fr {P : Program} {f : Nat} {Q : Post} {tm tm' : TM} {hp hp' : HP} {nx nx' nt : Nat} {g : List (Nat × Nat)} {todo : List Item} (h : Run P f Q todo ⟨tm', hp', nx', nt⟩) (hf : Fr g Q.lo tm hp tm' hp' nx') : Run P f Q todo ⟨tm, hp, nx, nt⟩ := by
  have hs := hf.sc
  simp only [Bool.and_eq_true] at hs
  obtain ⟨⟨⟨h1, h2⟩, h3⟩, h4⟩ := hs
  intro S0 B w0 I a w hlo hr
  obtain ⟨T, t1, t2, t3⟩ := hr.hp
  obtain ⟨F, G, g1, g2⟩ := t1.subR hf.hp h2
  have he := hr.ext
  have hl' := Nat.le_of_ble_eq_true h4
  refine h S0 B w0 (I.ren g nx') a w hlo ⟨fun d => ?_, hr.nt, hr.df, rfl, ⟨F, g1, (List.nodup_append.1 (g2.nodup_iff.1 t2)).1, fun b hb => t3 b (g2.mem_iff.2 (List.mem_append_left _ hb))⟩, hr.ss,
    ⟨he.S, he.hold, by rw [hlo]; exact hl', fun id hi => ?_, fun id hi => ?_, fun id hi => ?_, he.last⟩, hr.sb, hr.bl, hr.bs⟩
  · rcases frL_get hf.tm h1 d with e | ⟨e1, e2⟩
    · show Rep _ w (.v (get d tm') _)
      rw [e]; exact .std (.any _)
    · have := hr.tm d
      rw [show get d (St.tm ⟨tm, hp, nx, nt⟩) = get d tm from rfl, e1] at this
      exact this.ren e2
  · show I.at_ (rn g id) = _
    rw [rn_low h3 (by omega)]; exact he.at_ id hi
  · show I.ln (rn g id) = _
    rw [rn_low h3 (by omega)]; exact he.ln id hi
  · show I.sz (rn g id) = _
    rw [rn_low h3 (by omega)]; exact he.sz id hi
end Go.Ax
