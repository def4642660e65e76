/- Arguments that say less; rows that are one's own no more. -/
import Derived.Test.YtnfkdilmoppbpaaAxQ
namespace Go.Ax
open Go.RowKit
set_option linter.unusedVariables false
set_option linter.unusedSimpArgs false

/-- Whatever the first tells, the second tells. -/
def Le (a b : AV) : Prop := ∀ S w x, Std S w (.v a x) → Std S w (.v b x)

inductive LeL : List AV → List AV → Prop
  | nil : LeL [] []
  | cons {a b as bs} : Le a b → LeL as bs → LeL (a :: as) (b :: bs)

theorem Le.refl (a : AV) : Le a a := fun _ _ _ h => h
theorem Le.any (a : AV) : Le a .any := fun _ _ _ _ => .any _
theorem Le.none {f : Bool} {sz : Nat} : Le (.lit (.slice none 0 0)) (.sl f sz []) := fun _ _ _ h => by
  rw [h.lit_inv]; exact .sl0 (fun _ => rfl) (fun _ => rfl)
theorem Le.full {sz : Nat} {xs : List (List AV)} : Le (.sl true sz xs) (.sl false sz xs) := fun S w x h => by
  cases h with
  | sl0 h1 h2 => exact .sl0 (fun h => by cases h) h2
  | sl h1 h2 h3 h4 h5 => exact .sl (fun h => by cases h) h2 h3 h4 h5

theorem LeL.refl : ∀ (as : List AV), LeL as as
  | [] => .nil
  | a :: as => .cons (Le.refl a) (LeL.refl as)

theorem LeL.std {S : Nat → Prop} {w : World} {as bs : List AV} (h : LeL as bs) : ∀ {xs : List Value}, Std S w (.l as xs) → Std S w (.l bs xs) := by
  induction h with
  | nil => intro xs h; exact h
  | cons h1 _ ih => intro xs h; cases h with | cons k1 k2 => exact .cons (h1 _ _ _ k1) (ih k2)

theorem Le.agg {as bs : List AV} (h : LeL as bs) : Le (.agg as) (.agg bs) := fun _ _ _ k => by
  cases k with | agg k => exact .agg (h.std k)

theorem Good.le {P : Program} {f : Nat} {as bs : List AV} {Q : AV → Prop} (h : Good P f bs Q) (hl : LeL as bs) : Good P f as Q :=
  fun S0 w vs h1 h2 => h S0 w vs h1 (hl.std h2)

theorem Good.imp {P : Program} {f : Nat} {as : List AV} {Q R : AV → Prop} (h : Good P f as Q) (hq : ∀ r, Q r → R r) : Good P f as R :=
  fun S0 w vs h1 h2 => (h S0 w vs h1 h2).mono fun _ _ ⟨r, h3, h4⟩ => ⟨r, hq r h3, h4⟩

theorem rd_indexS {P : Program} {st : St} {o : Oper} {t e : Nat} {x ix : Operand} {it ie : TyI} {full : Bool} {sz : Nat} {xs : List (List AV)} {kk : IntKind} {n : Int} {cs : List AV} (h : o.op = .indexAddr t x ix) (ht : TyOK P t it)
    (hd : it.td = .td (.slice e)) (he : TyOK P e ie) (hx : st.ev x = .sl full sz xs) (hi : st.ev ix = .lit (.int kk n)) (hsz : Nat.beq ie.size sz = true) (h0 : 0 ≤ n) (hg : xs[n.toNat]? = some cs) : Reads P st o (.pt cs) :=
  rd_index_sl h ht hd he hsz hx hi h0 hg

theorem rd_lenM {P : Program} {st : St} {o : Oper} {t e : Nat} {x : Operand} {it : TyI} {full : Bool} {sz : Nat} {α : Type} {enc : α → List AV} {l : List α} (h : o.op = .call { callee := .builtin .len, args := #[x], argTypes := #[t] }) (ht : TyOK P t it)
    (hd : it.td = .td (.slice e)) (hx : st.ev x = .sl full sz (l.map enc)) : Reads P st o (.lit (.int .i64 l.length)) := by
  have := rd_len_sl h ht hd hx
  rw [List.length_map] at this; exact this

section
variable {P : Program} {f : Nat} {Q : Post} {k : List Item} {st st' : St} {A : Array Oper} {i : Nat} {rest : List Nat}

/-- A call whose arguments say more than is asked. -/
theorem run_callL {d t g : Nat} {pos : String} {af : Array Edge} {gd : Option (Nat × Bool)} {xs : Array Operand} {ts : Array Nat} {fn : Func} {c : Code} {Qg : AV → Prop} {as bs : List AV}
    (ho : A[i]? = some ⟨some d, .call { callee := .value (.func g), args := xs, argTypes := ts }, t, pos, af, gd⟩) (hw : Want A st gd) (hd : Nat.blt d st.nt = true)
    (hg : P.funcs[g]? = some fn) (hb : fn.body = some c) (hn : (fn.name == "runtime.NumGoroutine") = false) (has : xs.toList.map st.ev = as) (hstd : as.all AV.std = true) (hgood : Good P g bs Qg) (hle : LeL as bs)
    (h : ∀ r, Qg r → r.flat3 = true ∧ Run P f Q (.inRegion A rest :: k) ((st.back r).set d (imp st.nx r).1)) : Run P f Q (.inRegion A (i :: rest) :: k) st :=
  run_call ho hw hd hg hb hn has hstd (hgood.le hle) h

/-- A row of one's own, whose elements stay, stays from now on: in slot d it is told as such. -/
theorem run_freeze {todo : List Item} (d : Nat) {id sz : Nat} {xs : List (List AV)} (hv : get d st.tm = .hw id) (hrow : row id st.hp = some (.row sz xs)) (hs : xs.flatten.all AV.stays = true)
    (h : Run P f Q todo ⟨(d, .sl false sz xs) :: st.tm, rem id st.hp, st.nx, st.nt⟩) : Run P f Q todo st := by
  intro S0 B w0 I a w hlo hr
  obtain ⟨T, t1, t2, t3⟩ := hr.hp
  obtain ⟨F, T', g1, g2, g3⟩ := t1.take hrow
  have hx := hr.tm d
  rw [hv] at hx
  have hnd := g3.nodup_iff.1 t2
  obtain ⟨hid, ⟨ha, h0, ad, e⟩ | ⟨b, of, cap, c, ha, hcap, hblk, hfit, e⟩⟩ := hx.hw_inv
  · have hnil : xs = [] := List.eq_nil_of_length_eq_zero (by rw [← g1.ln_eq.1]; exact h0)
    subst hnil
    refine h S0 B w0 I a w hlo { hr with tm := fun j => ?_, hp := ⟨T', g2, (List.nodup_append.1 hnd).2.1, fun b hb => t3 b (g3.mem_iff.2 (List.mem_append_right _ hb))⟩ }
    rw [get_cons]
    by_cases ej : d = j
    · subst ej; rw [if_pos rfl, e]; exact .std (.sl0 (fun h => by cases h) (fun _ => rfl))
    · rw [if_neg ej]; exact hr.tm j
  · obtain ⟨hxs, vs, G, ho, hc⟩ := g1.cells ha
    have hbF : b ∈ F := by
      cases g1 with
      | row0 _ ha' => rw [ha] at ha'; cases ha'
      | row _ ha' => rw [ha] at ha'; cases ha'; simp
    obtain ⟨_, hstd⟩ := stays_own_l ho hs
    let S' : Nat → Prop := fun z => I.S z ∨ z = b
    let I' : Interp := { I with S := S' }
    have hbT := t3 b (g3.mem_iff.2 (List.mem_append_left _ hbF))
    have he : Ext I w I' w := ⟨fun _ h => .inl h, fun _ _ => rfl, Nat.le_refl _, fun _ _ => rfl, fun _ _ => rfl, fun _ _ => rfl, .refl w⟩
    have hcell : Std S' w (.c b of xs.flatten) := by
      have : ∀ (as : List AV) (us : List Value) (o : Nat), Std I.S w (.l as us) → CellsAt w b o us → Std S' w (.c b o as) := by
        intro as
        induction as with
        | nil => intro us o _ _; exact .cnil
        | cons a as ih =>
          intro us o k1 k2
          cases k1 with
          | cons k3 k4 =>
            refine .ccons (k2 0 _ rfl) (k3.monoV (fun _ h => .inl h) fun _ _ => rfl) (ih _ _ k4 fun j v hj => ?_)
            have := k2 (j + 1) v (by simpa using hj)
            rw [show o + 1 + j = o + (j + 1) from by omega]; exact this
      exact this _ _ _ hstd hc
    have := hr.next he (Below.refl B w) (fun z hz => hz.elim .inl fun e => .inr (e ▸ hbT.1)) (fun z hz => hz.elim (hr.ss z) fun e => e ▸ hbT.2.2) (hp := rem id st.hp)
      ⟨T', g2.mono he fun _ _ => rfl, (List.nodup_append.1 hnd).2.1, fun z hz => by
        have h1 := t3 z (g3.mem_iff.2 (List.mem_append_right _ hz))
        refine ⟨h1.1, fun hh => hh.elim h1.2.1 fun e => ?_, h1.2.2⟩
        subst e
        exact (List.nodup_append.1 hnd).2.2 _ hbF _ hz rfl⟩
    rw [show I'.nx = st.nx from hr.nx] at this
    refine h S0 B w0 I' a w hlo { this with tm := fun j => ?_ }
    rw [get_cons]
    by_cases ej : d = j
    · subst ej
      rw [if_pos rfl, e, g1.ln_eq.1]
      refine .std (.sl (fun h => by cases h) (by rw [← g1.ln_eq.1]; exact hcap) hxs (.inr rfl) hcell)
    · rw [if_neg ej]; exact this.tm j
end
end Go.Ax
