/- Facts on types, laid; the end of a symbolic run: how its states are weakened, and how its loops go. -/
import Derived.Test.YtnfkdilmoppbpaaAxJ
namespace Go.Ax
open Go.RowKit
set_option linter.unusedVariables false
set_option linter.unusedSimpArgs false

theorem tyOK_td {P : Program} {t n b : Nat} {d : TypeDesc} {z : Value} {zs : List Value} (h1 : P.underlying t = some d) (hp : plainD d = true) (h2 : (P.info? t).map (fun i => (i.size, i.bytes, i.zero)) = some (n, b, some z))
    (hz : z.cells = zs.toArray) (hl : zs.length = n) : TyOK P t ⟨.td d, n, b, zs⟩ := by
  refine ⟨⟨h1, hp⟩, hl, ?_⟩
  cases h : P.info? t with
  | none => simp [h] at h2
  | some i =>
    simp only [h, Option.map_some, Option.some.injEq, Prod.mk.injEq] at h2
    exact ⟨i, rfl, h2.1, h2.2.1, z, h2.2.2, hz⟩

def offsets : TypeDesc → Option (List (Nat × Nat))
  | .struct fs => some (fs.toList.map fun f => (f.offset, f.type))
  | _ => none

theorem tyOK_agg {P : Program} {t n b : Nat} {fs : List (Nat × Nat)} {z : Value} {zs : List Value} (h1 : (P.underlying t).bind offsets = some fs) (h2 : (P.info? t).map (fun i => (i.size, i.bytes, i.zero)) = some (n, b, some z))
    (hz : z.cells = zs.toArray) (hl : zs.length = n) : TyOK P t ⟨.agg fs, n, b, zs⟩ := by
  refine ⟨?_, hl, ?_⟩
  · cases hu : P.underlying t with
    | none => simp [hu] at h1
    | some d =>
      rw [hu] at h1
      cases d <;> simp [offsets] at h1
      exact ⟨_, hu, h1⟩
  · cases h : P.info? t with
    | none => simp [h] at h2
    | some i =>
      simp only [h, Option.map_some, Option.some.injEq, Prod.mk.injEq] at h2
      exact ⟨i, rfl, h2.1, h2.2.1, z, h2.2.2, hz⟩

/-- The type's facts, found by its number. -/
class TyF (P : Program) (t : Nat) (i : outParam TyI) : Prop where
  ok : TyOK P t i

def upTo : Nat → Nat → List Nat
  | 0, _ => []
  | n + 1, s => s :: upTo n (s + 1)

theorem range_upTo (n : Nat) : List.range n = upTo n 0 := by
  rw [List.range_eq_range']
  have : ∀ m s, List.range' s m = upTo m s := by
    intro m
    induction m with
    | zero => intro s; rfl
    | succ m ih => intro s; simp [List.range'_succ, upTo, ih]
  exact this n 0

section
variable {P : Program} {f : Nat} {Q : Post} {k : List Item} {st : St}

theorem run_reg {id : Nat} {ops : Array Oper} (h : Run P f Q (.inRegion ops (upTo ops.size 0) :: k) st) : Run P f Q (.code (.region id ops false) :: k) st := by
  rw [← range_upTo] at h; exact run_region h

/-- A loop, by induction over a measure: the state at its head is told by a parameter, of which something holds. -/
theorem run_while {α : Type} {c : Code} (J : α → St) (inv : α → Prop) (μ : α → Nat)
    (h : ∀ a, inv a → (∀ a', inv a' → μ a' < μ a → Run P f Q (.inLoop c :: k) (J a')) → Run P f Q (.code c :: .inLoop c :: k) (J a)) (a0 : α) (h0 : inv a0) : Run P f Q (.inLoop c :: k) (J a0) := by
  have key : ∀ n a, μ a = n → inv a → Run P f Q (.inLoop c :: k) (J a) := by
    intro n
    induction n using Nat.strongRecOn with
    | _ n ih => intro a hn hi; exact run_inLoop (h a hi fun a' hi' ha => ih (μ a') (by omega) a' rfl hi')
  exact key _ a0 rfl h0

/-- A loop, entered. -/
theorem run_enter {α : Type} {c : Code} (J : α → St) (inv : α → Prop) (μ : α → Nat)
    (h : ∀ a, inv a → (∀ a', inv a' → μ a' < μ a → Run P f Q (.inLoop c :: k) (J a')) → Run P f Q (.code c :: .inLoop c :: k) (J a)) (a0 : α) (h0 : inv a0) : Run P f Q (.code c :: .inLoop c :: k) (J a0) :=
  h a0 h0 fun a' hi _ => run_while J inv μ h a' hi
end

mutual
def AV.sc (n : Nat) : AV → Bool
  | .hw id | .hs id _ _ | .hp id _ | .hq id _ _ => Nat.blt id n
  | .agg cs | .tup cs | .fn _ cs => AV.scL n cs
  | _ => true
def AV.scL (n : Nat) : List AV → Bool
  | [] => true
  | a :: as => AV.sc n a && AV.scL n as
end

def Row.sc (n : Nat) : Row → Bool
  | .var cs => AV.scL n cs
  | .row _ _ => true
  | .foc _ _ _ _ _ j => Nat.blt j n

def Interp.cut (I : Interp) (n : Nat) : Interp := { I with nx := n }

theorem Rep.cut {I : Interp} {w : World} {q : Ask} (h : Rep I w q) {n : Nat} (hq : match q with | .v a _ => a.sc n = true | .l as _ => AV.scL n as = true | .c _ _ _ => True) : Rep (I.cut n) w q := by
  induction h with
  | std h => exact .std h
  | agg _ ih => exact .agg (ih (by simpa [AV.sc] using hq))
  | tup _ ih => exact .tup (ih (by simpa [AV.sc] using hq))
  | fn _ ih => exact .fn (ih (by simpa [AV.sc] using hq))
  | nil => exact .nil
  | cons _ _ ih1 ih2 =>
    simp only [AV.scL, Bool.and_eq_true] at hq
    exact .cons (ih1 hq.1) (ih2 hq.2)
  | hw0 h ha h0 hc => exact .hw0 (by simpa [AV.sc, Interp.cut] using hq) ha h0 hc
  | hw h ha hn hb hs => exact .hw (I := I.cut n) (by simpa [AV.sc, Interp.cut] using hq) ha hn hb hs
  | hs0 h hc => exact .hs0 (by simpa [AV.sc, Interp.cut] using hq) hc
  | hs h ha hn hb hs => exact .hs (I := I.cut n) (by simpa [AV.sc, Interp.cut] using hq) ha hn hb hs
  | hp h ha => exact .hp (by simpa [AV.sc, Interp.cut] using hq) ha
  | hq h ha => exact .hq (I := I.cut n) (by simpa [AV.sc, Interp.cut] using hq) ha

theorem VarC.cut {I : Interp} {w : World} {b o : Nat} {as : List AV} {F : List Nat} (h : VarC I w b o as F) {n : Nat} (hs : AV.scL n as = true) : VarC (I.cut n) w b o as F := by
  induction h with
  | nil => exact .nil
  | cons hc hl _ ih =>
    simp only [AV.scL, Bool.and_eq_true] at hs
    exact .cons hc (hl.imp (fun h => ⟨h.1.cut (q := .v _ _) hs.1, h.2⟩) id) (ih hs.2)

theorem RowOK.cut {I : Interp} {w : World} {id : Nat} {r : Row} {F : List Nat} (h : RowOK I w id r F) {n : Nat} (hi : id < n) (hs : r.sc n = true) : RowOK (I.cut n) w id r F := by
  cases h with
  | var _ ha hb hz hv => exact .var (I := I.cut n) hi ha hb hz (hv.cut hs)
  | row0 _ ha h0 hz => exact .row0 (I := I.cut n) hi ha h0 hz
  | row _ ha hl hz hb hs2 hx hv => exact .row (I := I.cut n) hi ha hl hz hb hs2 hx hv
  | foc _ ha hl hz hb hs2 hx hn ho hf hA o1 hc hr o2 => exact .foc (I := I.cut n) hi ha hl hz hb hs2 hx hn ho hf hA o1 hc (hr.cut (q := .v _ _) hs) o2

/-- These entries are among those, each by its own number. -/
def sub (n : Nat) : List (Nat × Row) → List (Nat × Row) → Prop
  | [], _ => True
  | (id, r) :: l, hp => Nat.blt id n = true ∧ r.sc n = true ∧ row id hp = some r ∧ sub n l (rem id hp)

theorem HeapOK.sub {I : Interp} {w : World} {n : Nat} {l : List (Nat × Row)} : ∀ {hp : List (Nat × Row)} {T : List Nat}, HeapOK I w hp T → sub n l hp → ∃ F G, HeapOK (I.cut n) w l F ∧ T.Perm (F ++ G) := by
  induction l with
  | nil => intro hp T h _; exact ⟨[], T, .nil, List.Perm.refl _⟩
  | cons p l ih =>
    obtain ⟨id, r⟩ := p
    intro hp T h hs
    obtain ⟨h1, h2, h3, h4⟩ := hs
    obtain ⟨F, T', g1, g2, g3⟩ := h.take h3
    obtain ⟨F2, G, k1, k2⟩ := ih g2 h4
    refine ⟨F ++ F2, G, .cons (g1.cut (by simpa using h1) h2) k1, g3.trans ?_⟩
    rw [List.append_assoc]; exact List.Perm.append_left F k2

section
variable {P : Program} {f : Nat} {Q : Post} {k : List Item} {st : St}

/-- These slots hold what is said. -/
def frameOK (st : St) (n : Nat) : List (Nat × AV) → Prop
  | [] => True
  | (d, v) :: l => get d st.tm = v ∧ v.sc n = true ∧ frameOK st n l

/-- A weaker state: these slots, these entries. -/
theorem run_frame {todo : List Item} {tm : List (Nat × AV)} {hp : List (Nat × Row)} {n nt : Nat} (h : Run P f Q todo ⟨tm, hp, n, nt⟩) (ht : frameOK st n tm) (hh : sub n hp st.hp) (hnt : st.nt = nt) (hl : Nat.ble Q.lo n = true) : Run P f Q todo st := by
  subst hnt
  intro S0 B w0 I a w hlo hr
  have key : ∀ d, get d tm = .any ∨ (get d tm = get d st.tm ∧ (get d tm).sc n = true) := by
    intro d
    clear h
    induction tm with
    | nil => left; rfl
    | cons p l ih =>
      obtain ⟨j, v⟩ := p
      obtain ⟨h1, h2, h3⟩ := ht
      rw [get_cons]
      by_cases e : j = d
      · subst e
        right
        rw [if_pos rfl]; exact ⟨h1.symm, h2⟩
      · rw [if_neg e]; exact ih h3
  obtain ⟨T, t1, t2, t3⟩ := hr.hp
  obtain ⟨F, G, g1, g2⟩ := t1.sub hh
  have hl' := Nat.le_of_ble_eq_true hl
  have he := hr.ext
  refine h S0 B w0 (I.cut n) a w hlo ⟨fun d => ?_, hr.nt, hr.df, rfl, ⟨F, g1, (List.nodup_append.1 (g2.nodup_iff.1 t2)).1, fun b hb => t3 b (g2.mem_iff.2 (List.mem_append_left _ hb))⟩, hr.ss, ⟨he.S, he.hold, by rw [hlo]; exact hl', he.at_, he.ln, he.sz, he.last⟩, hr.sb, hr.bl, hr.bs⟩
  rcases key d with e | ⟨e1, e2⟩
  · rw [e]; exact .std (.any _)
  · have := hr.tm d
    rw [← e1] at this
    exact this.cut (q := .v _ _) e2

theorem wrap_in {n : Int} (h1 : -9223372036854775808 ≤ n) (h2 : n ≤ 9223372036854775807) : IntKind.i64.wrap n = n := by
  simp only [IntKind.wrap, IntKind.bits, IntKind.signed]
  simp
  split <;> omega

/-- A sum, a difference, a product that fits. -/
theorem rd_add {o : Oper} {t t2 : Nat} {x y : Operand} {m n : Int} (h : o.op = .binOp .add t x y t2) (hx : st.ev x = .lit (.int .i64 m)) (hy : st.ev y = .lit (.int .i64 n)) (h1 : -9223372036854775808 ≤ m + n) (h2 : m + n ≤ 9223372036854775807) :
    Reads P st o (.lit (.int .i64 (m + n))) := rd_bin h hx hy (by simp only [bin2, wrap_in h1 h2])
theorem rd_sub {o : Oper} {t t2 : Nat} {x y : Operand} {m n : Int} (h : o.op = .binOp .sub t x y t2) (hx : st.ev x = .lit (.int .i64 m)) (hy : st.ev y = .lit (.int .i64 n)) (h1 : -9223372036854775808 ≤ m - n) (h2 : m - n ≤ 9223372036854775807) :
    Reads P st o (.lit (.int .i64 (m - n))) := rd_bin h hx hy (by simp only [bin2, wrap_in h1 h2])
theorem rd_inc {o : Oper} {t t2 : Nat} {x y : Operand} {m : Nat} (h : o.op = .binOp .add t x y t2) (hx : st.ev x = .lit (.int .i64 (m : Int))) (hy : st.ev y = .lit (.int .i64 1)) (h2 : m + 1 ≤ 9223372036854775807) :
    Reads P st o (.lit (.int .i64 ((m + 1 : Nat) : Int))) := rd_bin h hx hy (by simp only [bin2]; rw [wrap_in (by omega) (by omega)]; rfl)

theorem idx_nat {α : Type} {l : List α} {enc : α → List AV} {k : Nat} {e : α} (h : l[k]? = some e) : (l.map enc)[(k : Int).toNat]? = some (enc e) := by simp [h]
theorem idx_int {α : Type} {l : List α} {enc : α → List AV} {k : Int} {e : α} (h : l[k.toNat]? = some e) : (l.map enc)[k.toNat]? = some (enc e) := by simp [h]
end
end Go.Ax
