/- Appending to a row. -/
import Derived.Test.YtnfkdilmoppbpaaTGC
import Derived.Laws.AppendOwn
import Derived.ChangeArms
import Derived.SizedLaws
import Derived.MapKept
set_option linter.unusedVariables false
set_option linter.unusedSimpArgs false

namespace Go.Ax
open Go.RowKit
set_option linter.unusedVariables false
set_option linter.unusedSimpArgs false

/-- What one cell holds, and is one's own or stays. -/
def AV.own1 : AV → Bool
  | .lit u => u.oneCell'
  | .sl .. | .pt _ | .osl .. | .opt _ => true
  | _ => false

theorem Own.one {S : Nat → Prop} {w : World} {a : AV} {x : Value} {F : List Nat} (h : Own S w (.v a x) F) (hl : a.own1 = true) : x.oneCell' = true := by
  cases h with
  | std h => cases h <;> first | rfl | exact hl | cases hl
  | agg => cases hl
  | tup => cases hl
  | osl0 => rfl
  | osl => rfl
  | opt => rfl

theorem Own.ones {S : Nat → Prop} {w : World} {as : List AV} : ∀ {xs : List Value} {F : List Nat}, Own S w (.l as xs) F → as.all AV.own1 = true → ∀ x ∈ xs, x.oneCell' = true := by
  induction as with
  | nil => intro xs F h _; cases h; simp
  | cons a as ih =>
    intro xs F h hl
    simp only [List.all_cons, Bool.and_eq_true] at hl
    cases h with
    | cons h1 h2 =>
      intro x hx
      rcases List.mem_cons.1 hx with rfl | hx
      · exact h1.one hl.1
      · exact ih h2 hl.2 x hx

theorem run_first {P : Program} {w : World} {A : Option Addr} {n m cap size : Nat} {vs : List Value} (hl : vs.length = n * size) (h : vs = [] ∨ ∃ b o, A = some ⟨b, o, none⟩ ∧ CellsAt w b o vs) :
    (Builtin.firstCells size n (.slice A m cap)).run P w = .ok vs.toArray w := by
  cases A with
  | none =>
    rcases h with rfl | ⟨_, _, h, _⟩
    · rfl
    · cases h
  | some ad =>
    simp only [Builtin.firstCells]
    rcases h with rfl | ⟨b, o, h, hc⟩
    · rw [← hl]; rfl
    · cases h; rw [← hl]; exact run_cells vs hc

section
variable {P : Program} {st : St}

theorem ok_append {o : Oper} {t t2 e e2 ty sz : Nat} {x y : Operand} {it ie i2 : TyI} {xs ys : List (List AV)} {hp1 hp2 : List (Nat × Row)} {dst : Option Nat} {pos : String} {af : Array Edge} {gd : Option (Nat × Bool)}
    (h : o = ⟨dst, .call { callee := .builtin .append, args := #[x, y], argTypes := #[t, t2] }, ty, pos, af, gd⟩) (ht : TyOK P t it)
    (hd : it.td = .td (.slice e)) (he : TyOK P e ie) (ht2 : TyOK P t2 i2) (hd2 : i2.td = .td (.slice e2)) (hsz : Nat.beq ie.size sz = true) (hx : FirstA st st.hp (st.ev x) sz xs hp1) (hy : SrcA st hp1 (st.ev y) sz ys hp2)
    (hl : ys.flatten.all AV.own1 = true) (hb : (xs.length + ys.length) * ie.bytes ≤ 140737488355328) (h63 : xs.length + ys.length ≤ 9223372036854775807) :
    OpOK P st o (.hw st.nx) ⟨st.tm, (st.nx, .row sz (xs ++ ys)) :: hp2, st.nx + 1, st.nt⟩ := by
  subst h
  obtain rfl := Nat.eq_of_beq_eq_true hsz
  refine ⟨rfl, fun S0 B w0 I a w hr => ?_⟩
  obtain ⟨T, t1, t2', t3⟩ := hr.hp
  obtain ⟨A, cap, vs, F, G, T1, e1, hcap, hown, hxs, hh1, hperm1, hA⟩ := hx I w _ (hr.ev x) T t1
  obtain ⟨A2, cap2, us, F2, G2, T2, k1, kown, kys, hh2, hperm2, kA⟩ := hy I w _ (hr.ev y) T1 hh1
  have hvl : vs.length = xs.length * ie.size := by rw [hown.l_len, flat_len hxs]
  have hul : us.length = ys.length * ie.size := by rw [kown.l_len, flat_len kys]
  have hu1 := kown.ones hl
  have hboth : Own I.S w (.l (xs ++ ys).flatten (vs ++ us)) (F ++ F2) := by rw [List.flatten_append]; exact hown.l_app kown
  have hxy : ∀ z ∈ xs ++ ys, z.length = ie.size := fun z hz => (List.mem_append.1 hz).elim (hxs z) (kys z)
  have hus : us = [] ∨ ∃ b o, A2 = some ⟨b, o, none⟩ ∧ CellsAt w b o us := by
    rcases kA with ⟨_, rfl⟩ | rfl | kA
    · left; refine List.eq_nil_of_length_eq_zero ?_; rw [hul]; simp
    · left; refine List.eq_nil_of_length_eq_zero ?_; rw [hul]; simp
    · exact .inr kA
  have hvs : vs = [] ∨ ∃ b o, A = some ⟨b, o, none⟩ ∧ CellsAt w b o vs := by
    rcases hA with ⟨h0, _⟩ | ⟨b, o, c, h1, _, _, _, h2⟩
    · left; refine List.eq_nil_of_length_eq_zero ?_; rw [hvl, show xs.length = 0 from by omega]; simp
    · exact .inr ⟨b, o, h1, h2⟩
  have hperm : T.Perm (F ++ F2 ++ (T2 ++ (G2 ++ G))) := by
    refine hperm1.trans (List.perm_iff_count.2 fun z => ?_)
    have := List.perm_iff_count.1 hperm2 z
    simp only [List.count_append] at this ⊢
    omega
  obtain ⟨hd2', _⟩ := ht2
  rw [hd2] at hd2'
  have hu2 : P.underlying t2 = some (.slice e2) := hd2'.1
  have hzl := he.2.1
  have hsize := fun w => run_size (P := P) (w := w) he
  obtain ⟨_, _, info, hinfo, hisz, hiby, z, hz, hzc⟩ := he
  have hinfo2 : ∀ w, (typeInfo e).run P w = .ok info w := fun w => by simp only [typeInfo, Sem.run_bind, run_program, Result.andThen_ok, hinfo, Sem.run_pure]
  have hzero : ∀ w, (zeroValue e).run P w = .ok z w := fun w => by simp only [zeroValue, hinfo2, Sem.run_bind, Result.andThen_ok, hz, Sem.run_pure]
  by_cases hfit : xs.length + ys.length ≤ cap
  · have hfit' : xs.length + ys.length ≤ cap := hfit
    have hnx : I.nx = st.nx := hr.nx
    have hn : ∀ at_, (I.add at_ (xs ++ ys).length ie.size).nx = st.nx + 1 := fun _ => by show I.nx + 1 = _; rw [hnx]
    have hat : ∀ at_, (I.add at_ (xs ++ ys).length ie.size).at_ st.nx = at_ := fun _ => by simp [Interp.add, hnx]
    have hln : ∀ at_, (I.add at_ (xs ++ ys).length ie.size).ln st.nx = (xs ++ ys).length := fun _ => by simp [Interp.add, hnx]
    have hszz : ∀ at_, (I.add at_ (xs ++ ys).length ie.size).sz st.nx = ie.size := fun _ => by simp [Interp.add, hnx]
    have hnew := run_first (P := P) (w := w) (A := A2) (n := ys.length) (m := ys.length) (cap := cap2) hul hus
    have hrun : ∀ w', (match A with | some a => storeCells (a.add (xs.length * ie.size)) us | none => pure ()).run P w = .ok () w' →
        (execOp a.eval ⟨dst, .call { callee := .builtin .append, args := #[x, y], argTypes := #[t, t2] }, ty, pos, af, gd⟩).run P w = .ok (.value (.slice A (xs.length + ys.length) cap)) w' := by
      intro w' hw'
      cases A with
      | none =>
        simp at hw'
        subst hw'
        simp [execOp, resolve, invoke, builtin, Builtin.append_, e1, k1, run_under (ht.sliceE hd), run_under hu2, hsize, hinfo2, hzero, Builtin.lenOf, hfit, hnew]
      | some ad =>
        simp at hw'
        simp [execOp, resolve, invoke, builtin, Builtin.append_, e1, k1, run_under (ht.sliceE hd), run_under hu2, hsize, hinfo2, hzero, Builtin.lenOf, hfit, hnew, hw']
    rcases hA with ⟨h0, _⟩ | ⟨b, of, c, rfl, hbG, hblk, hroom, hcv⟩
    · obtain rfl : xs = [] := List.eq_nil_of_length_eq_zero (by omega)
      obtain rfl : ys = [] := List.eq_nil_of_length_eq_zero (by omega)
      obtain rfl : cap = 0 := h0
      obtain rfl : us = [] := List.eq_nil_of_length_eq_zero (by rw [hul]; simp)
      cases hown
      cases kown
      have he : Ext I w (I.add none ([] ++ [] : List (List AV)).length ie.size) w := .add _ _ _ (fun _ _ => rfl) (.refl w)
      refine ⟨_, w, I.add none ([] ++ [] : List (List AV)).length ie.size, hrun w ?_, ?_, ?_, fun hk => by cases hk⟩
      · cases A <;> rfl
      · have := hr.next he (Below.refl B w) (fun b h => .inl h) hr.ss (hp := (st.nx, .row ie.size ([] ++ [])) :: hp2) ⟨_, .cons (.row0 (by rw [hn]; omega) (hat _) (hln _) (hszz _)) (hh2.mono he fun _ _ => rfl), ?_, fun z hz => t3 z (hperm.mem_iff.2 ?_)⟩
        · rw [hn] at this; exact this
        · have := hperm.nodup_iff.1 t2'
          simp only [List.nil_append] at this ⊢
          exact (List.nodup_append.1 this).1
        · simp only [List.nil_append, List.mem_append] at hz ⊢
          exact .inl hz
      · exact .hw0 (by rw [hn]; omega) (hat _) (hln _) trivial
    · obtain ⟨w', r1, r2⟩ := run_stores (P := P) (b := b) (o := of + xs.length * ie.size) us 0 w c hblk (by
        rw [hul]
        have : (xs.length + ys.length) * ie.size ≤ cap * ie.size := Nat.mul_le_mul_right _ hfit'
        rw [Nat.add_mul] at this; omega) hu1
      rw [Nat.add_zero] at r2
      have hbT := t3 b (hperm.mem_iff.2 (by simp [hbG]))
      have hnd := hperm.nodup_iff.1 t2'
      have hne : ∀ z ∈ F ++ F2 ++ T2, w'.heap[z]? = w.heap[z]? := by
        intro z hz
        refine r2.other z fun ez => ?_
        subst ez
        have h1 : (F ++ F2 ++ (T2 ++ (G2 ++ G))).count z ≤ 1 := List.nodup_iff_count.1 hnd z
        have h2 : 0 < (F ++ F2 ++ T2).count z := List.count_pos_iff.2 hz
        have h3 : 0 < G.count z := List.count_pos_iff.2 hbG
        simp only [List.count_append] at h1 h2
        omega
      have he : Ext I w (I.add (some (b, of)) (xs ++ ys).length ie.size) w' := .add _ _ _ (fun z hz => r2.other z fun e => hbT.2.1 (e ▸ hz)) r2.lasts
      obtain ⟨c', hb', hs'⟩ := r2.blk c hblk
      have hcells : CellsAt w' b of (vs ++ us) := by
        refine CellsAt.app (fun j v hj => ?_) ?_
        · rw [r2.cell _ (by have := (List.getElem?_eq_some_iff.1 hj).1; omega)]; exact hcv j v hj
        · rw [hvl]; exact r2.new
      have hfin : of + cap * ie.size ≤ c'.size := by omega
      have hle : (xs ++ ys).length * ie.size ≤ cap * ie.size := Nat.mul_le_mul_right _ (by simpa using hfit')
      have hrow : RowOK (I.add (some (b, of)) (xs ++ ys).length ie.size) w' st.nx (.row ie.size (xs ++ ys)) (b :: (F ++ F2)) :=
        .row (by rw [hn]; omega) (hat _) (hln _) (hszz _) hb' (by omega) hxy (Own.ofCells (hboth.l_mono he fun z hz => hne z (by simp only [List.mem_append] at hz ⊢; exact .inl hz)) hcells)
      refine ⟨_, w', I.add (some (b, of)) (xs ++ ys).length ie.size, hrun w' ?_, ?_, ?_, fun hk => by cases hk⟩
      · show (storeCells ((⟨b, of, none⟩ : Addr).add (xs.length * ie.size)) us).run P w = _
        rw [addr_add]; exact r1
      · have := hr.next he (r2.below hbT.1) (fun b h => .inl h) (fun z hz => by rw [r2.size]; exact hr.ss z hz) (hp := (st.nx, .row ie.size (xs ++ ys)) :: hp2)
          ⟨_, .cons hrow (hh2.mono he fun z hz => hne z (by simp [hz])), ?_, fun z hz => ?_⟩
        · rw [hn] at this; exact this
        · refine List.nodup_iff_count.2 fun z => ?_
          have h1 := List.nodup_iff_count.1 hnd z
          have h3 : z = b → 0 < G.count z := fun e => by subst e; exact List.count_pos_iff.2 hbG
          simp only [List.count_append, List.count_cons, beq_iff_eq] at h1 ⊢
          split
          · have := h3 (by simp_all); omega
          · omega
        · rw [r2.size]
          refine t3 z (hperm.mem_iff.2 ?_)
          simp only [List.mem_append, List.mem_cons] at hz ⊢
          rcases hz with (h | h | h) | h
          · subst h; simp [hbG]
          all_goals simp [h]
      · have := Rep.hw (I := I.add (some (b, of)) (xs ++ ys).length ie.size) (w := w') (id := st.nx) (cap := cap) (c := c') (b := b) (o := of) (by rw [hn]; omega) (hat _) (by rw [hln]; simpa using hfit') hb' (by rw [hszz]; exact hfin)
        rw [hln] at this
        rw [show (AV.hw st.nx) = AV.hw st.nx from rfl, ← List.length_append]; exact this
  · let nc := grownCap w (xs.length + ys.length) cap e
    have hge : xs.length + ys.length ≤ nc := grownCap_ge w _ _ e
    let cs : Array Value := vs.toArray ++ us.toArray ++ Builtin.zeroCells z.cells (nc - (xs.length + ys.length))
    let w1 : World := { w with drawn := w.drawn + 1 }
    have hr1 : Rel S0 B w0 I st a w1 := hr.drawn _
    have he1 : Ext I w I w1 := ⟨fun _ h => h, fun _ _ => rfl, Nat.le_refl _, fun _ _ => rfl, fun _ _ => rfl, fun _ _ => rfl, fun b c h => ⟨c, h, rfl⟩⟩
    have hcs : cs.toList = (vs ++ us) ++ cs.toList.drop (vs ++ us).length := by
      simp only [cs, Array.toList_append]
      rw [List.drop_left]
    have hcsz : nc * ie.size ≤ cs.size := by
      simp only [cs, Array.size_append, List.size_toArray, size_zeroCells, hzc, hvl, hul, hzl, ← Nat.add_mul]
      exact Nat.mul_le_mul_right _ (by omega)
    obtain ⟨g1, g2⟩ := hr1.newRow (fun b hb => t3 b hb) t2' (hh2.mono he1 fun _ _ => rfl) (F := F ++ F2) ⟨G2 ++ G, hperm⟩ hxy (hboth.l_mono he1 fun _ _ => rfl) hcs e nc (by simpa using hge) hcsz
    refine ⟨_, _, _, ?_, g1, g2, fun hk => by cases hk⟩
    have h63' : ¬ (9223372036854775807 < ((xs.length : Int) + (ys.length : Int))) := by omega
    have h48' : ¬ (281474976710656 < Builtin.nextslicecap (xs.length + ys.length) cap * info.bytes) := by
      have := growslice_fits (need := xs.length + ys.length) (old := cap) (bytes := ie.bytes) (by omega) hb
      rw [hiby]; omega
    have hold := run_first (P := P) (w := w1) (A := A) (n := xs.length) (m := xs.length) (cap := cap) hvl hvs
    have hnew := run_first (P := P) (w := w1) (A := A2) (n := ys.length) (m := ys.length) (cap := cap2) hul hus
    have hd1 : w.drew = w1 := rfl
    simp [execOp, resolve, invoke, builtin, Builtin.append_, e1, k1, run_under (ht.sliceE hd), run_under hu2, hsize, hinfo2, hzero, Builtin.lenOf, hfit, h63', h48', Question.forced, hd1, hold, hnew, newRow]
    exact ⟨rfl, by simp only [cs, Array.append_assoc]; rfl⟩
end
end Go.Ax

/- One's own rows, read; closures made. -/
namespace Go.Ax
open Go.RowKit
set_option linter.unusedVariables false
set_option linter.unusedSimpArgs false

/-- The sizes of a struct's fields, found. -/
class SzF (P : Program) (fs : List (Nat × Nat)) (ss : outParam (List Nat)) : Prop where
  ok : Sizes P fs ss

instance szNil {P : Program} : SzF P [] [] := ⟨.nil⟩
instance szCons {P : Program} {off t : Nat} {i : TyI} {fs : List (Nat × Nat)} {ss : List Nat} [h1 : TyF P t i] [h2 : SzF P fs ss] : SzF P ((off, t) :: fs) (i.size :: ss) := ⟨.cons h1.ok h2.ok⟩

theorem Own.l_drop {S : Nat → Prop} {w : World} {as : List AV} {vs : List Value} {F : List Nat} (h : Own S w (.l as vs) F) (n : Nat) : ∃ G, Own S w (.l (as.drop n) (vs.drop n)) G := by
  induction n generalizing as vs F with
  | zero => exact ⟨F, by simpa using h⟩
  | succ n ih =>
    cases as with
    | nil => cases h; exact ⟨[], .nil⟩
    | cons a as => cases h with | cons _ h2 => simpa using ih h2

theorem Own.l_take {S : Nat → Prop} {w : World} {as : List AV} {vs : List Value} {F : List Nat} (h : Own S w (.l as vs) F) (n : Nat) : ∃ G, Own S w (.l (as.take n) (vs.take n)) G := by
  induction n generalizing as vs F with
  | zero => exact ⟨[], by simpa using (Own.nil (S := S) (w := w))⟩
  | succ n ih =>
    cases as with
    | nil => cases h; exact ⟨[], .nil⟩
    | cons a as =>
      cases h with
      | cons h1 h2 =>
        obtain ⟨G, hG⟩ := ih h2
        exact ⟨_, by simpa using Own.cons h1 hG⟩

theorem Own.rep {I : Interp} {w : World} {a : AV} {x : Value} {F : List Nat} (h : Own I.S w (.v a x) F) (hp : a.plain = true) : Rep I w (.v a x) := (show Leaf I w a x F from .inr h).rep hp

theorem Own.l_rep {I : Interp} {w : World} {as : List AV} : ∀ {vs : List Value} {F : List Nat}, Own I.S w (.l as vs) F → as.all AV.plain = true → Rep I w (.l as vs) := by
  induction as with
  | nil => intro vs F h _; cases h; exact .nil
  | cons a as ih =>
    intro vs F h hp
    simp only [List.all_cons, Bool.and_eq_true] at hp
    cases h with | cons h1 h2 => exact .cons (h1.rep hp.1) (ih h2 hp.2)

theorem CellsAt.drop {w : World} {b o : Nat} {vs : List Value} (h : CellsAt w b o vs) (n : Nat) : CellsAt w b (o + n) (vs.drop n) := by
  intro j v hj
  rw [List.getElem?_drop] at hj
  have := h _ v hj
  rw [show o + n + j = o + (n + j) from by omega]; exact this

theorem CellsAt.take {w : World} {b o : Nat} {vs : List Value} (h : CellsAt w b o vs) (n : Nat) : CellsAt w b o (vs.take n) := by
  intro j v hj
  rw [List.getElem?_take] at hj
  split at hj
  · exact h j v hj
  · cases hj

theorem Rep.hw_inv {I : Interp} {w : World} {id : Nat} {x : Value} (h : Rep I w (.v (.hw id) x)) : id < I.nx ∧ ((I.at_ id = none ∧ I.ln id = 0 ∧ ∃ a, x = .slice a 0 0) ∨
    ∃ b o cap c, I.at_ id = some (b, o) ∧ I.ln id ≤ cap ∧ Blk w b c ∧ o + cap * I.sz id ≤ c.size ∧ x = .slice (some ⟨b, o, none⟩) (I.ln id) cap) := by
  cases h with
  | std h => cases h
  | hw0 hi ha h0 _ => exact ⟨hi, .inl ⟨ha, h0, _, rfl⟩⟩
  | hw hi ha hn hb hs => exact ⟨hi, .inr ⟨_, _, _, _, ha, hn, hb, hs, rfl⟩⟩

theorem RowOK.ln_eq {I : Interp} {w : World} {id sz : Nat} {xs : List (List AV)} {F : List Nat} (h : RowOK I w id (.row sz xs) F) : I.ln id = xs.length ∧ I.sz id = sz := by
  cases h with
  | row0 _ _ h1 h2 => exact ⟨h1, h2⟩
  | row _ _ h1 h2 => exact ⟨h1, h2⟩

theorem RowOK.cells {I : Interp} {w : World} {id sz b o : Nat} {xs : List (List AV)} {F : List Nat} (h : RowOK I w id (.row sz xs) F) (ha : I.at_ id = some (b, o)) :
    (∀ x ∈ xs, x.length = sz) ∧ ∃ vs G, Own I.S w (.l xs.flatten vs) G ∧ CellsAt w b o vs := by
  cases h with
  | row0 _ ha' => rw [ha] at ha'; cases ha'
  | row _ ha' _ _ _ _ hx ho =>
    rw [ha] at ha'
    cases ha'
    obtain ⟨vs, h1, h2⟩ := ho.cells
    exact ⟨hx, vs, _, h1, h2⟩

theorem Rep.hq_inv {I : Interp} {w : World} {id i off : Nat} {x : Value} (h : Rep I w (.v (.hq id i off) x)) : ∃ b o, id < I.nx ∧ I.at_ id = some (b, o) ∧ x = .pointer (some ⟨b, o + i * I.sz id + off, none⟩) := by
  cases h with
  | std h => cases h
  | hq hi ha => exact ⟨_, _, hi, ha, rfl⟩

section
variable {P : Program} {st : St}

theorem rd_len_hw {o : Oper} {t e id sz : Nat} {x : Operand} {it : TyI} {xs : List (List AV)} (h : o.op = .call { callee := .builtin .len, args := #[x], argTypes := #[t] }) (ht : TyOK P t it)
    (hd : it.td = .td (.slice e)) (hx : st.ev x = .hw id) (hrow : row id st.hp = some (.row sz xs)) : Reads P st o (.lit (.int .i64 xs.length)) := by
  refine rd_pure fun S0 B w0 I a w1 hr w => ?_
  have h1 := hr.ev x
  rw [hx] at h1
  obtain ⟨T, k1, _, _⟩ := hr.hp
  obtain ⟨F, T', g1, _, _⟩ := k1.take hrow
  have hln := g1.ln_eq.1
  generalize ex : a.eval x = y at h1
  have : ∃ ad cap, y = .slice ad xs.length cap := by
    obtain ⟨_, ⟨_, h0, ad, rfl⟩ | ⟨b, of, cap, c, _, _, _, _, rfl⟩⟩ := h1.hw_inv
    · rw [h0] at hln; rw [← hln]; exact ⟨_, _, rfl⟩
    · rw [hln]; exact ⟨_, _, rfl⟩
  obtain ⟨ad, cap, rfl⟩ := this
  simp [execOp, h, ex, resolve, invoke, builtin, Builtin.len_, goInt, run_under (ht.sliceE hd)]

theorem rd_index_hw {o : Oper} {t e id sz : Nat} {x ix : Operand} {it ie : TyI} {xs : List (List AV)} {kk : IntKind} {n : Int} (h : o.op = .indexAddr t x ix) (ht : TyOK P t it)
    (hd : it.td = .td (.slice e)) (he : TyOK P e ie) (hx : st.ev x = .hw id) (hrow : row id st.hp = some (.row sz xs)) (hsz : Nat.beq ie.size sz = true) (hi : st.ev ix = .lit (.int kk n)) (h0 : 0 ≤ n) (hg : n.toNat < xs.length) : Reads P st o (.hq id n.toNat 0) := by
  intro S0 B w0 I a w hr
  have h1 := hr.ev x
  have h2 := hr.ev ix
  rw [hx] at h1
  rw [hi] at h2
  have hsz' := Nat.eq_of_beq_eq_true hsz
  obtain ⟨T, k1, _, _⟩ := hr.hp
  obtain ⟨F, T', g1, _, _⟩ := k1.take hrow
  obtain ⟨hln, hszz⟩ := g1.ln_eq
  obtain ⟨hid, ⟨_, h0', ad, _⟩ | ⟨b, of, cap, c, ha, _, _, _, ex⟩⟩ := h1.hw_inv
  · omega
  · refine ⟨_, fun w' hw => ?_, .hq hid ha⟩
    have hlt2 : n < (I.ln id : Int) := by omega
    simp only [execOp, h, ex, h2.lit_inv, Instr.indexAt, asIntOf, Sem.run_bind, run_under (ht.sliceE hd), Result.andThen_ok, Sem.run_pure, h0, hlt2, and_self, if_true, run_size he, hsz', addr_add, decide_eq_true_eq, hszz, Nat.add_zero]

theorem rd_field_hq {o : Oper} {t j off ft id n of : Nat} {x : Operand} {i ift : TyI} {fs : List (Nat × Nat)} (h : o.op = .fieldAddr t x j) (ht : TyOK P t i) (hd : i.td = .agg fs) (hj : fs[j]? = some (off, ft))
    (hft : TyOK P ft ift) (hs : Nat.beq ift.size 0 = false) (hx : st.ev x = .hq id n of) : Reads P st o (.hq id n (of + off)) := by
  intro S0 B w0 I a w hr
  have h1 := hr.ev x
  rw [hx] at h1
  obtain ⟨fields, h2, fd, h3, rfl, rfl⟩ := ht.field hd hj
  obtain ⟨b, o', hid, ha, e⟩ := h1.hq_inv
  refine ⟨_, fun w' hw => ?_, .hq hid ha⟩
  simp only [execOp, h, e, Instr.fieldAt, Instr.sureAddr, Sem.run_bind, run_under h2, Result.andThen_ok, h3, Sem.run_pure, run_fieldPlace (t := t) hft (Nat.ne_of_beq_eq_false hs), Nat.add_assoc]

theorem rd_loads_hq {o : Oper} {t id n off sz : Nat} {x : Operand} {i : TyI} {xs : List (List AV)} {cs : List AV} (h : o.op = .load t x) (ht : TyOK P t i) (ha : i.isAgg = true) (hx : st.ev x = .hq id n off)
    (hrow : row id st.hp = some (.row sz xs)) (hg : xs[n]? = some cs) (hn : Nat.ble (off + i.size) cs.length = true) (hp : ((cs.drop off).take i.size).all AV.plain = true) : Reads P st o (.agg ((cs.drop off).take i.size)) := by
  intro S0 B w0 I a w hr
  have h1 := hr.ev x
  rw [hx] at h1
  have hn' := Nat.le_of_ble_eq_true hn
  obtain ⟨b, of, hi, hat, e⟩ := h1.hq_inv
  obtain ⟨T, k1, k2, k3⟩ := hr.hp
  obtain ⟨F, T', g1, g2, g3⟩ := k1.take hrow
  obtain ⟨hxs, vs, G, ho, hc⟩ := g1.cells hat
  obtain ⟨G2, ho2⟩ := ho.l_drop (n * sz + off)
  have e1 : (xs.flatten.drop (n * sz + off)).take i.size = (cs.drop off).take i.size := by
    rw [← List.drop_drop, flatten_at hxs hg, List.drop_append_of_le_length (by omega), List.take_append_of_le_length (by rw [List.length_drop]; omega)]
  obtain ⟨G3, ho3⟩ := ho2.l_take i.size
  have hc3 := (hc.drop (n * sz + off)).take i.size
  rw [e1] at ho3
  have hlen : ((vs.drop (n * sz + off)).take i.size).length = i.size := by rw [ho3.l_len, List.length_take, List.length_drop]; omega
  refine ⟨.agg ((vs.drop (n * sz + off)).take i.size).toArray, fun w' hw0 => ?_, .agg (ho3.l_rep hp)⟩
  have hw : Same _ w' := hw0.resolve_left (by rw [h]; simp [memFree])
  have := run_cells (P := P) _ (hc3.same hw)
  rw [hlen, ← Nat.add_assoc] at this
  simp only [execOp, h, e, Instr.loadAt, Instr.sureAddr, loadVar, Sem.run_bind, Sem.run_pure, Result.andThen_ok, run_isAgg ht, ha, if_true, run_size ht, g1.ln_eq.2, this]

theorem rd_load_hq {o : Oper} {t id n off sz : Nat} {x : Operand} {i : TyI} {xs : List (List AV)} {cs : List AV} {v : AV} {r : List AV} (h : o.op = .load t x) (ht : TyOK P t i) (ha : i.isAgg = false) (hx : st.ev x = .hq id n off)
    (hrow : row id st.hp = some (.row sz xs)) (hg : xs[n]? = some cs) (hd : cs.drop off = v :: r) (hp : v.plain = true) : Reads P st o v := by
  intro S0 B w0 I a w hr
  have h1 := hr.ev x
  rw [hx] at h1
  obtain ⟨b, of, hi, hat, e⟩ := h1.hq_inv
  obtain ⟨T, k1, k2, k3⟩ := hr.hp
  obtain ⟨F, T', g1, g2, g3⟩ := k1.take hrow
  obtain ⟨hxs, vs, G, ho, hc⟩ := g1.cells hat
  obtain ⟨G2, ho2⟩ := ho.l_drop (n * sz + off)
  have hlt : off < cs.length := by
    rcases Nat.lt_or_ge off cs.length with h | h
    · exact h
    · rw [List.drop_eq_nil_of_le h] at hd; cases hd
  have e1 : xs.flatten.drop (n * sz + off) = v :: (r ++ (xs.drop (n + 1)).flatten) := by
    rw [← List.drop_drop, flatten_at hxs hg, List.drop_append_of_le_length (by omega), hd]; rfl
  have hc3 := hc.drop (n * sz + off)
  rw [e1] at ho2
  generalize vs.drop (n * sz + off) = us at ho2 hc3
  cases ho2 with
  | cons h1 _ =>
    refine ⟨_, fun w' hw0 => ?_, h1.rep hp⟩
    have hw : Same _ w' := hw0.resolve_left (by rw [h]; simp [memFree])
    have hcell := hw.cell (hc3 0 _ rfl)
    rw [Nat.add_zero, ← Nat.add_assoc] at hcell
    simp only [execOp, h, e, Instr.loadAt, Instr.sureAddr, loadVar, Sem.run_bind, Sem.run_pure, Result.andThen_ok, run_isAgg ht, ha, if_false, Bool.false_eq_true, run_load, g1.ln_eq.2, hcell]

theorem rd_makeFunc {o : Oper} {g : Nat} {xs : Array Operand} {cs : List AV} (h : o.op = .makeFunc (.func g) #[] xs) (hx : xs.toList.map st.ev = cs) : Reads P st o (.fn g cs) := by
  intro S0 B w0 I a w hr
  have h1 := hr.evs xs.toList
  rw [hx] at h1
  refine ⟨.func (.func g) #[] (xs.toList.map a.eval).toArray, fun w' hw => ?_, .fn h1⟩
  have e0 : xs.map a.eval = (xs.toList.map a.eval).toArray := by rw [← Array.toList_map, Array.toArray_toList]
  simp [execOp, h, Instr.makeFunc, e0]

theorem rd_min {o : Oper} {x y : Operand} {ts : Array Nat} {k : IntKind} {m n : Int} (h : o.op = .call { callee := .builtin .min, args := #[x, y], argTypes := ts }) (hx : st.ev x = .lit (.int k m)) (hy : st.ev y = .lit (.int k n)) :
    Reads P st o (.lit (.int k (min m n))) := by
  refine rd_pure fun S0 B w0 I a w1 hr w => ?_
  have h1 := hr.ev x
  have h2 := hr.ev y
  rw [hx] at h1; rw [hy] at h2
  have e : (if n < m then n else m) = min m n := by split <;> omega
  simp [execOp, h, h1.lit_inv, h2.lit_inv, resolve, invoke, builtin, Builtin.min_, Builtin.min2, e]
end
end Go.Ax

/- Arguments that say less; rows that are one's own no more. -/
namespace Go.Ax
open Go.RowKit
set_option linter.unusedVariables false
set_option linter.unusedSimpArgs false

/-- Whatever the first tells, the second tells. -/
def Le (a b : AV) : Prop := ∀ S w x, Std S w (.v a x) → Std S w (.v b x)

inductive LeL : List AV → List AV → Prop
  | nil : LeL [] []
  | cons {a b as bs} : Le a b → LeL as bs → LeL (a :: as) (b :: bs)

theorem Le.refl (a : AV) : Le a a := fun _ _ _ h => h
theorem Le.any (a : AV) : Le a .any := fun _ _ _ _ => .any _
theorem Le.none {f : Bool} {sz : Nat} : Le (.lit (.slice none 0 0)) (.sl f sz []) := fun _ _ _ h => by
  rw [h.lit_inv]; exact .sl0 (fun _ => rfl) (fun _ => rfl)
theorem Le.full {sz : Nat} {xs : List (List AV)} : Le (.sl true sz xs) (.sl false sz xs) := fun S w x h => by
  cases h with
  | sl0 h1 h2 => exact .sl0 (fun h => by cases h) h2
  | sl h1 h2 h3 h4 h5 => exact .sl (fun h => by cases h) h2 h3 h4 h5

theorem LeL.refl : ∀ (as : List AV), LeL as as
  | [] => .nil
  | a :: as => .cons (Le.refl a) (LeL.refl as)

theorem LeL.std {S : Nat → Prop} {w : World} {as bs : List AV} (h : LeL as bs) : ∀ {xs : List Value}, Std S w (.l as xs) → Std S w (.l bs xs) := by
  induction h with
  | nil => intro xs h; exact h
  | cons h1 _ ih => intro xs h; cases h with | cons k1 k2 => exact .cons (h1 _ _ _ k1) (ih k2)

theorem Le.agg {as bs : List AV} (h : LeL as bs) : Le (.agg as) (.agg bs) := fun _ _ _ k => by
  cases k with | agg k => exact .agg (h.std k)

theorem Good.le {P : Program} {f : Nat} {as bs : List AV} {Q : AV → Prop} (h : Good P f bs Q) (hl : LeL as bs) : Good P f as Q :=
  fun S0 w vs h1 h2 => h S0 w vs h1 (hl.std h2)

theorem Good.imp {P : Program} {f : Nat} {as : List AV} {Q R : AV → Prop} (h : Good P f as Q) (hq : ∀ r, Q r → R r) : Good P f as R :=
  fun S0 w vs h1 h2 => (h S0 w vs h1 h2).mono fun _ _ ⟨r, h3, h4⟩ => ⟨r, hq r h3, h4⟩

theorem rd_indexS {P : Program} {st : St} {o : Oper} {t e : Nat} {x ix : Operand} {it ie : TyI} {full : Bool} {sz : Nat} {xs : List (List AV)} {kk : IntKind} {n : Int} {cs : List AV} (h : o.op = .indexAddr t x ix) (ht : TyOK P t it)
    (hd : it.td = .td (.slice e)) (he : TyOK P e ie) (hx : st.ev x = .sl full sz xs) (hi : st.ev ix = .lit (.int kk n)) (hsz : Nat.beq ie.size sz = true) (h0 : 0 ≤ n) (hg : xs[n.toNat]? = some cs) : Reads P st o (.pt cs) :=
  rd_index_sl h ht hd he hsz hx hi h0 hg

theorem rd_lenM {P : Program} {st : St} {o : Oper} {t e : Nat} {x : Operand} {it : TyI} {full : Bool} {sz : Nat} {α : Type} {enc : α → List AV} {l : List α} (h : o.op = .call { callee := .builtin .len, args := #[x], argTypes := #[t] }) (ht : TyOK P t it)
    (hd : it.td = .td (.slice e)) (hx : st.ev x = .sl full sz (l.map enc)) : Reads P st o (.lit (.int .i64 l.length)) := by
  have := rd_len_sl h ht hd hx
  rw [List.length_map] at this; exact this

section
variable {P : Program} {f : Nat} {Q : Post} {k : List Item} {st st' : St} {A : Array Oper} {i : Nat} {rest : List Nat}

/-- A call whose arguments say more than is asked. -/
theorem run_callL {d t g : Nat} {pos : String} {af : Array Edge} {gd : Option (Nat × Bool)} {xs : Array Operand} {ts : Array Nat} {fn : Func} {c : Code} {Qg : AV → Prop} {as bs : List AV}
    (ho : A[i]? = some ⟨some d, .call { callee := .value (.func g), args := xs, argTypes := ts }, t, pos, af, gd⟩) (hw : Want A st gd) (hd : Nat.blt d st.nt = true)
    (hg : P.funcs[g]? = some fn) (hb : fn.body = some c) (hn : (fn.name == "runtime.NumGoroutine") = false) (has : xs.toList.map st.ev = as) (hstd : as.all AV.std = true) (hgood : Good P g bs Qg) (hle : LeL as bs)
    (h : ∀ r, Qg r → r.flat3 = true ∧ Run P f Q (.inRegion A rest :: k) ((st.back r).set d (imp st.nx r).1)) : Run P f Q (.inRegion A (i :: rest) :: k) st :=
  run_call ho hw hd hg hb hn has hstd (hgood.le hle) h

/-- A row of one's own, whose elements stay, stays from now on: in slot d it is told as such. -/
theorem run_freeze {todo : List Item} (d : Nat) {id sz : Nat} {xs : List (List AV)} (hv : get d st.tm = .hw id) (hrow : row id st.hp = some (.row sz xs)) (hs : xs.flatten.all AV.stays = true)
    (h : Run P f Q todo ⟨(d, .sl false sz xs) :: st.tm, rem id st.hp, st.nx, st.nt⟩) : Run P f Q todo st := by
  intro S0 B w0 I a w hlo hr
  obtain ⟨T, t1, t2, t3⟩ := hr.hp
  obtain ⟨F, T', g1, g2, g3⟩ := t1.take hrow
  have hx := hr.tm d
  rw [hv] at hx
  have hnd := g3.nodup_iff.1 t2
  obtain ⟨hid, ⟨ha, h0, ad, e⟩ | ⟨b, of, cap, c, ha, hcap, hblk, hfit, e⟩⟩ := hx.hw_inv
  · have hnil : xs = [] := List.eq_nil_of_length_eq_zero (by rw [← g1.ln_eq.1]; exact h0)
    subst hnil
    refine h S0 B w0 I a w hlo { hr with tm := fun j => ?_, hp := ⟨T', g2, (List.nodup_append.1 hnd).2.1, fun b hb => t3 b (g3.mem_iff.2 (List.mem_append_right _ hb))⟩ }
    rw [get_cons]
    by_cases ej : d = j
    · subst ej; rw [if_pos rfl, e]; exact .std (.sl0 (fun h => by cases h) (fun _ => rfl))
    · rw [if_neg ej]; exact hr.tm j
  · obtain ⟨hxs, vs, G, ho, hc⟩ := g1.cells ha
    have hbF : b ∈ F := by
      cases g1 with
      | row0 _ ha' => rw [ha] at ha'; cases ha'
      | row _ ha' => rw [ha] at ha'; cases ha'; simp
    obtain ⟨_, hstd⟩ := stays_own_l ho hs
    let S' : Nat → Prop := fun z => I.S z ∨ z = b
    let I' : Interp := { I with S := S' }
    have hbT := t3 b (g3.mem_iff.2 (List.mem_append_left _ hbF))
    have he : Ext I w I' w := ⟨fun _ h => .inl h, fun _ _ => rfl, Nat.le_refl _, fun _ _ => rfl, fun _ _ => rfl, fun _ _ => rfl, .refl w⟩
    have hcell : Std S' w (.c b of xs.flatten) := by
      have : ∀ (as : List AV) (us : List Value) (o : Nat), Std I.S w (.l as us) → CellsAt w b o us → Std S' w (.c b o as) := by
        intro as
        induction as with
        | nil => intro us o _ _; exact .cnil
        | cons a as ih =>
          intro us o k1 k2
          cases k1 with
          | cons k3 k4 =>
            refine .ccons (k2 0 _ rfl) (k3.monoV (fun _ h => .inl h) fun _ _ => rfl) (ih _ _ k4 fun j v hj => ?_)
            have := k2 (j + 1) v (by simpa using hj)
            rw [show o + 1 + j = o + (j + 1) from by omega]; exact this
      exact this _ _ _ hstd hc
    have := hr.next he (Below.refl B w) (fun z hz => hz.elim .inl fun e => .inr (e ▸ hbT.1)) (fun z hz => hz.elim (hr.ss z) fun e => e ▸ hbT.2.2) (hp := rem id st.hp)
      ⟨T', g2.mono he fun _ _ => rfl, (List.nodup_append.1 hnd).2.1, fun z hz => by
        have h1 := t3 z (g3.mem_iff.2 (List.mem_append_right _ hz))
        refine ⟨h1.1, fun hh => hh.elim h1.2.1 fun e => ?_, h1.2.2⟩
        subst e
        exact (List.nodup_append.1 hnd).2.2 _ hbF _ hz rfl⟩
    rw [show I'.nx = st.nx from hr.nx] at this
    refine h S0 B w0 I' a w hlo { this with tm := fun j => ?_ }
    rw [get_cons]
    by_cases ej : d = j
    · subst ej
      rw [if_pos rfl, e, g1.ln_eq.1]
      refine .std (.sl (fun h => by cases h) (by rw [← g1.ln_eq.1]; exact hcap) hxs (.inr rfl) hcell)
    · rw [if_neg ej]; exact this.tm j
end
end Go.Ax

/- What comes in from outside: arguments of known types, opened. -/
namespace Go.Ax
open Go.RowKit
set_option linter.unusedVariables false
set_option linter.unusedSimpArgs false

/-- All blocks that are there. -/
def All (w : World) (b : Nat) : Prop := b < w.heap.size

def Weighs {H : Type} (P : Program) (t : Nat) (d : DataW H) : Prop := ∀ n ∈ d.weights P t, n ≤ reachBytes

/-- Whatever reads as of type t is some a, told as enc a. -/
def Opens (P : Program) (t : Nat) {α : Type} (enc : α → List AV) (ok : α → Prop) : Prop :=
  ∀ (H : Type) (en : TypeId × Value → H) (w : World) (fuel : Nat) (cs : List Value) (x : DataW H × List MemPlace), DataW.trod en P w 0 (fun _ => true) true fuel t cs = some x → Weighs P t x.1 →
    ∃ a, Std (All w) w (.l (enc a) cs) ∧ ok a

theorem cellsOf_ty {P : Program} {t : Nat} {i : TyI} (h : TyOK P t i) : P.cellsOf t = i.size := by
  obtain ⟨_, _, info, h1, h2, _⟩ := h
  simp [Program.cellsOf, h1, h2]

theorem bytesOf_ty {P : Program} {t : Nat} {i : TyI} (h : TyOK P t i) : P.bytesOf t = i.bytes := by
  obtain ⟨_, _, info, h1, _, h2, _⟩ := h
  simp [Program.bytesOf, h1, h2]

/-- A number of 64 bits. -/
def num64 (n : Int) : Prop := -9223372036854775808 ≤ n ∧ n ≤ 9223372036854775807

theorem opens_int {P : Program} {t : Nat} {i : TyI} (ht : TyOK P t i) (hd : i.td = .td (.int .i64)) : Opens P t (fun n : Int => [.lit (.int .i64 n)]) num64 := by
  intro H en w fuel cs x h _
  obtain ⟨hd2, _⟩ := ht; rw [hd] at hd2
  obtain ⟨n, rfl, _, hw⟩ := DataW.trod_int hd2.1 h
  refine ⟨n, .cons (.lit _) .nil, ?_⟩
  simp [Lit.wf, IntKind.min, IntKind.max, IntKind.signed, IntKind.bits] at hw
  unfold num64; omega

theorem opens_bool {P : Program} {t : Nat} {i : TyI} (ht : TyOK P t i) (hd : i.td = .td .bool) : Opens P t (fun b : Bool => [.lit (.bool b)]) (fun _ => True) := by
  intro H en w fuel cs x h _
  obtain ⟨hd2, _⟩ := ht; rw [hd] at hd2
  obtain ⟨n, rfl, _⟩ := DataW.trod_bool hd2.1 h
  exact ⟨n, .cons (.lit _) .nil, trivial⟩

theorem opens_string {P : Program} {t : Nat} {i : TyI} (ht : TyOK P t i) (hd : i.td = .td .string) : Opens P t (fun s : ByteArray => [.lit (.string s)]) (fun s => s.size ≤ reachBytes) := by
  intro H en w fuel cs x h hw
  obtain ⟨hd2, _⟩ := ht; rw [hd] at hd2
  obtain ⟨s, rfl, rfl, _⟩ := DataW.trod_string hd2.1 h
  refine ⟨s, .cons (.lit _) .nil, ?_⟩
  have := hw s.data.toList.length (by simp [DataW.weights])
  simpa using this

theorem cells?_spec {w : World} {a : Addr} {n : Nat} {cs : List Value} (h : w.cells? 0 a n = some cs) : cs.length = n ∧ ∀ i, i < n → w.cell? (a.add i) = cs[i]? := by
  simp only [World.cells?, Nat.zero_le, if_true] at h
  refine ⟨by simpa using mapM_some_length h, fun i hi => ?_⟩
  exact mapM_some_get h i i (by simp [hi])

theorem std_cells_of {S : Nat → Prop} {w : World} {b : Nat} : ∀ (as : List AV) (us : List Value) (o : Nat), Std S w (.l as us) → CellsAt w b o us → Std S w (.c b o as) := by
  intro as
  induction as with
  | nil => intro us o _ _; exact .cnil
  | cons a as ih =>
    intro us o k1 k2
    cases k1 with
    | cons k3 k4 =>
      refine .ccons (k2 0 _ rfl) k3 (ih _ _ k4 fun j v hj => ?_)
      have := k2 (j + 1) v (by simpa using hj)
      rw [show o + 1 + j = o + (j + 1) from by omega]; exact this

theorem weightsAll_mem {H : Type} {P : Program} {e n : Nat} {d : DataW H} : ∀ {ds : List (DataW H)}, d ∈ ds → n ∈ d.weights P e → n ∈ DataW.weightsAll P e ds
  | d0 :: ds, h, hn => by
    simp only [DataW.weightsAll, List.mem_append]
    rcases List.mem_cons.1 h with rfl | h
    · exact .inl hn
    · exact .inr (weightsAll_mem h hn)

theorem opens_slice {P : Program} {t e : Nat} {i ie : TyI} {α : Type} {enc : α → List AV} {ok : α → Prop} (ht : TyOK P t i) (hd : i.td = .td (.slice e)) (he : TyOK P e ie) {sz by_ : Nat} (hsz : ie.size = sz) (h0 : 0 < sz) (hby : ie.bytes = by_) (hlen : ∀ a, (enc a).length = sz) (ho : Opens P e enc ok) :
    Opens P t (fun l : List α => [.sl false sz (l.map enc)]) (fun l => (∀ a ∈ l, ok a) ∧ l.length * by_ ≤ reachBytes) := by
  intro H en w fuel cs x h hw
  have hu := ht.sliceE hd
  have hc := cellsOf_ty he
  rcases DataW.trod_slice hu h with ⟨rfl, _⟩ | ⟨a, len, cap, elems, rest, n, _, rfl, rfl, _, hlc, _, hel, hall, hsp, _⟩
  · exact ⟨[], .cons (.sl0 (fun h => by cases h) (fun _ => rfl)) .nil, by simp, by simp⟩
  · have hrest := (hsp rfl).1
    rw [hc, hsz] at hall
    have hwt : len * by_ ≤ reachBytes := by
      have := hw ((elems.length + rest.length) * P.bytesOf e) (by simp [DataW.weights, hu])
      rw [bytesOf_ty he, hby, hel] at this
      exact Nat.le_trans (Nat.mul_le_mul_right _ (Nat.le_add_right _ _)) this
    have hel2 : ∀ j, j < len → ∃ y cs', elems[j]? = some y ∧ w.cells? 0 (a.add (j * sz)) sz = some cs' ∧ DataW.trod en P w 0 (fun _ => true) true n e cs' = some y ∧ Weighs P e y.1 := by
      intro j hj
      have h1 := hall j hj
      have h2 : elems[j]? = some elems[j] := List.getElem?_eq_getElem (by omega)
      rw [h2] at h1
      obtain ⟨cs', h3, h4⟩ := Option.bind_eq_some_iff.1 h1
      refine ⟨_, cs', h2, h3, h4, fun m hm => hw m ?_⟩
      simp only [DataW.weights, hu, List.mem_cons, List.mem_append]
      exact .inr (.inl (weightsAll_mem (List.mem_map.2 ⟨_, List.getElem_mem _, rfl⟩) hm))
    by_cases hl : len = 0
    · subst hl
      exact ⟨[], .cons (.sl0 (fun h => by cases h) (fun h => by cases h)) .nil, by simp, by simp⟩
    · obtain ⟨b, of, spot⟩ := a
      have hs : spot = none ∧ b < w.heap.size := by
        obtain ⟨y, cs', _, h2, _⟩ := hel2 0 (by omega)
        obtain ⟨h3, h4⟩ := cells?_spec h2
        have h5 := h4 0 h0
        have h6 : cs'[0]? = some cs'[0] := List.getElem?_eq_getElem (by omega)
        rw [h6] at h5
        simp only [Nat.zero_mul, Addr.add, if_true, World.cell?] at h5
        split at h5
        · rename_i c _ _ hb
          refine ⟨by cases spot <;> simp_all, ?_⟩
          exact (Array.getElem?_eq_some_iff.1 hb).1
        · cases h5
      obtain ⟨rfl, hb⟩ := hs
      have key : ∀ k, k ≤ len → ∃ l : List α, l.length = k ∧ (∀ a ∈ l, ok a) ∧ Std (All w) w (.c b of (l.map enc).flatten) := by
        intro k
        induction k with
        | zero => intro _; exact ⟨[], rfl, by simp, .cnil⟩
        | succ k ih =>
          intro hk
          obtain ⟨l, g1, g2, g3⟩ := ih (by omega)
          obtain ⟨y, cs', _, h2, h3, h4⟩ := hel2 k (by omega)
          obtain ⟨a, h5, h6⟩ := ho H en w n cs' y h3 h4
          obtain ⟨h7, h8⟩ := cells?_spec h2
          refine ⟨l ++ [a], by simp [g1], ?_, ?_⟩
          · intro z hz
            rcases List.mem_append.1 hz with hz | hz
            · exact g2 z hz
            · rw [List.mem_singleton] at hz; subst hz; exact h6
          · rw [List.map_append, List.flatten_append]
            refine g3.app ?_
            rw [flat_len (n := sz) (by intro z hz; obtain ⟨u, _, rfl⟩ := List.mem_map.1 hz; exact hlen u), List.length_map, g1]
            simp only [List.map_cons, List.map_nil, List.flatten_cons, List.flatten_nil, List.append_nil]
            refine std_cells_of _ _ _ h5 fun j v hj => ?_
            have hjs : j < sz := by have := (List.getElem?_eq_some_iff.1 hj).1; omega
            have := h8 j hjs
            rw [addr_add, addr_add] at this
            rw [this]; exact hj
      obtain ⟨l, g1, g2, g3⟩ := key len (Nat.le_refl _)
      refine ⟨l, .cons ?_ .nil, g2, by rw [g1]; exact hwt⟩
      have := Std.sl (S := All w) (w := w) (full := false) (sz := sz) (xs := l.map enc) (b := b) (o := of) (cap := cap) (fun h => by cases h) (by rw [List.length_map, g1]; exact hlc) (by intro z hz; obtain ⟨u, _, rfl⟩ := List.mem_map.1 hz; exact hlen u) hb g3
      rw [List.length_map, g1] at this
      exact this

/-- The same of a struct's fields, from a place on. -/
def OpensF (P : Program) (fs : List (Nat × Nat)) (start : Nat) {α : Type} (enc : α → List AV) (ok : α → Prop) : Prop :=
  ∀ (H : Type) (en : TypeId × Value → H) (w : World) (fuel : Nat) (cs : List Value) (ds : List (DataW H)), ds.length = fs.length →
    (∀ (j off t : Nat), fs[j]? = some (off, t) → ∃ x, DataW.trod en P w 0 (fun _ => true) true fuel t ((cs.drop off).take (P.cellsOf t)) = some x ∧ ds[j]? = some x.1 ∧ Weighs P t x.1) →
    cs.length = start + (fs.map fun f => P.cellsOf f.2).sum → ∃ a, Std (All w) w (.l (enc a) (cs.drop start)) ∧ ok a

theorem opensF_nil {P : Program} {start : Nat} : OpensF P [] start (fun _ : Unit => []) (fun _ => True) := by
  intro H en w fuel cs ds _ _ hl
  refine ⟨(), ?_, trivial⟩
  rw [List.drop_eq_nil_of_le (by simp at hl; omega)]; exact .nil

theorem Std.l_app {S : Nat → Prop} {w : World} {as bs : List AV} {vs us : List Value} (h : Std S w (.l as vs)) (h2 : Std S w (.l bs us)) : Std S w (.l (as ++ bs) (vs ++ us)) := by
  induction as generalizing vs with
  | nil => cases h; exact h2
  | cons a as ih => cases h with | cons h1 h3 => exact .cons h1 (ih h3)

theorem opensF_cons {P : Program} {t start sz : Nat} {i : TyI} {fs : List (Nat × Nat)} {α β : Type} {enc : α → List AV} {ok : α → Prop} {enc2 : β → List AV} {ok2 : β → Prop} (ht : TyOK P t i) (hsz : i.size = sz) (h1 : Opens P t enc ok) (h2 : OpensF P fs (start + sz) enc2 ok2) :
    OpensF P ((start, t) :: fs) start (fun p : α × β => enc p.1 ++ enc2 p.2) (fun p => ok p.1 ∧ ok2 p.2) := by
  intro H en w fuel cs ds hl hx hlen
  cases ds with
  | nil => simp at hl
  | cons d ds =>
    obtain ⟨x, g1, g2, g3⟩ := hx 0 start t rfl
    have hc := cellsOf_ty ht
    rw [hc, hsz] at g1
    obtain ⟨a, k1, k2⟩ := h1 H en w fuel _ x g1 g3
    obtain ⟨b, k3, k4⟩ := h2 H en w fuel cs ds (by simpa using hl) (fun j off t' hj => by
      obtain ⟨x, m1, m2, m3⟩ := hx (j + 1) off t' (by simpa using hj)
      exact ⟨x, m1, by simpa using m2, m3⟩) (by simp only [List.map_cons, List.sum_cons, hc, hsz] at hlen; omega)
    refine ⟨(a, b), ?_, k2, k4⟩
    have e : cs.drop start = (cs.drop start).take sz ++ cs.drop (start + sz) := by
      rw [← List.drop_drop, List.take_append_drop]
    rw [e]
    exact k1.l_app k3

theorem opens_struct {P : Program} {t : Nat} {i : TyI} {fs : List (Nat × Nat)} {α : Type} {enc : α → List AV} {ok : α → Prop} (ht : TyOK P t i) (hd : i.td = .agg fs) (hs : i.size = (fs.map fun f => P.cellsOf f.2).sum) (h : OpensF P fs 0 enc ok) :
    Opens P t enc ok := by
  intro H en w fuel cs x hx hw
  have hc := cellsOf_ty ht
  obtain ⟨hd2, _⟩ := ht
  rw [hd] at hd2
  obtain ⟨fields, hu, rfl⟩ := hd2
  obtain ⟨xs, n, rfl, rfl, hl, hlen, hall⟩ := DataW.trod_struct hu hx
  have := h H en w n cs (xs.map (·.1)) (by simp [hlen]) (fun j off t' hj => by
    rw [List.getElem?_map] at hj
    cases hf : fields.toList[j]? with
    | none => simp [hf] at hj
    | some fd =>
      rw [hf] at hj
      simp at hj
      obtain ⟨rfl, rfl⟩ := hj
      have h1 := hall j fd (by simpa using hf)
      have hjx : j < xs.length := by rw [hlen]; have := (List.getElem?_eq_some_iff.1 hf).1; simpa using this
      have h2 : xs[j]? = some xs[j] := List.getElem?_eq_getElem hjx
      rw [h2] at h1
      refine ⟨_, h1, by simp [h2], fun m hm => hw m ?_⟩
      simp only [DataW.weights, hu]
      exact DataW.weights_mem_each (ts := fields.toList.map (·.type)) (ds := xs.map (·.1)) (j := j) (t := fd.type) (d := xs[j].1) (by rw [List.getElem?_map, hf]; rfl) (by rw [List.getElem?_map, h2]; rfl) m hm) (by rw [hl, hc, hs]; omega)
  simpa using this

theorem Opens.map {P : Program} {t : Nat} {α β : Type} {enc : α → List AV} {ok : α → Prop} {enc2 : β → List AV} {ok2 : β → Prop} (h : Opens P t enc ok) (f : α → β) (he : ∀ a, enc2 (f a) = enc a) (hk : ∀ a, ok a → ok2 (f a)) : Opens P t enc2 ok2 := by
  intro H en w fuel cs x hx hw
  obtain ⟨a, h1, h2⟩ := h H en w fuel cs x hx hw
  exact ⟨f a, by rw [he]; exact h1, hk a h2⟩
end Go.Ax

/- What is one's own, with all that hangs on it, stays from now on. -/
namespace Go.Ax
open Go.RowKit
set_option linter.unusedVariables false
set_option linter.unusedSimpArgs false

mutual
def AV.fz : AV → AV
  | .osl sz xs => .sl false sz (AV.fzLL xs)
  | .opt cs => .pt (AV.fzL cs)
  | .agg cs => .agg (AV.fzL cs)
  | .tup cs => .tup (AV.fzL cs)
  | a => a
def AV.fzL : List AV → List AV
  | [] => []
  | a :: as => AV.fz a :: AV.fzL as
def AV.fzLL : List (List AV) → List (List AV)
  | [] => []
  | x :: xs => AV.fzL x :: AV.fzLL xs
end

theorem AV.fzL_len : ∀ (as : List AV), (AV.fzL as).length = as.length
  | [] => rfl
  | a :: as => by simp only [AV.fzL, List.length_cons, AV.fzL_len as]

theorem AV.fzL_app : ∀ (as bs : List AV), AV.fzL (as ++ bs) = AV.fzL as ++ AV.fzL bs
  | [], bs => rfl
  | a :: as, bs => by simp only [List.cons_append, AV.fzL, AV.fzL_app as bs]

theorem AV.fzLL_len : ∀ (xs : List (List AV)), (AV.fzLL xs).length = xs.length
  | [] => rfl
  | x :: xs => by simp only [AV.fzLL, List.length_cons, AV.fzLL_len xs]

theorem AV.fzLL_flat : ∀ (xs : List (List AV)), (AV.fzLL xs).flatten = AV.fzL xs.flatten
  | [] => rfl
  | x :: xs => by simp only [AV.fzLL, List.flatten_cons, AV.fzL_app, AV.fzLL_flat xs]

theorem AV.fzLL_mem {sz : Nat} : ∀ {xs : List (List AV)}, (∀ x ∈ xs, x.length = sz) → ∀ x ∈ AV.fzLL xs, x.length = sz
  | [], _, x, hx => by simp [AV.fzLL] at hx
  | y :: xs, h, x, hx => by
    simp only [AV.fzLL, List.mem_cons] at hx
    rcases hx with rfl | hx
    · rw [AV.fzL_len]; exact h y (List.mem_cons_self ..)
    · exact AV.fzLL_mem (fun z hz => h z (List.mem_cons_of_mem _ hz)) x hx

def Ask.fz : Ask → Ask
  | .v a x => .v a.fz x
  | .l as xs => .l (AV.fzL as) xs
  | .c b o as => .c b o (AV.fzL as)

theorem Std.fz {S : Nat → Prop} {w : World} {q : Ask} (h : Std S w q) : Std S w q.fz := by
  induction h with
  | any x => exact .any x
  | lit x => exact .lit x
  | agg _ ih => exact .agg ih
  | tup _ ih => exact .tup ih
  | sl0 h1 h2 => exact .sl0 h1 h2
  | sl h1 h2 h3 h4 h5 _ => exact .sl h1 h2 h3 h4 h5
  | pt h1 h2 _ => exact .pt h1 h2
  | fn h _ => exact .fn h
  | mp h1 h2 h3 => exact .mp h1 h2 h3
  | nil => exact .nil
  | cons _ _ ih1 ih2 => exact .cons ih1 ih2
  | cnil => exact .cnil
  | ccons h _ _ ih1 ih2 => exact .ccons h ih1 ih2

theorem Std.grow {S S' : Nat → Prop} {w : World} {q : Ask} (h : Std S w q) (hS : ∀ b, S b → S' b) : Std S' w q := by
  induction h with
  | any x => exact .any x
  | lit x => exact .lit x
  | agg _ ih => exact .agg ih
  | tup _ ih => exact .tup ih
  | sl0 h1 h2 => exact .sl0 h1 h2
  | sl h1 h2 h3 h4 _ ih => exact .sl h1 h2 h3 (hS _ h4) ih
  | pt h1 _ ih => exact .pt (hS _ h1) ih
  | fn _ ih => exact .fn ih
  | mp h1 h2 h3 => exact .mp (hS _ h1) h2 h3
  | nil => exact .nil
  | cons _ _ ih1 ih2 => exact .cons ih1 ih2
  | cnil => exact .cnil
  | ccons h _ _ ih1 ih2 => exact .ccons h ih1 ih2

theorem Own.freeze {S : Nat → Prop} {w : World} {q : Ask} {F : List Nat} (h : Own S w q F) : Std (fun b => S b ∨ b ∈ F) w q.fz := by
  induction h with
  | std h => exact h.fz.grow fun _ h => .inl h
  | agg _ ih => exact .agg ih
  | tup _ ih => exact .tup ih
  | osl0 _ => exact .sl0 (fun h => by cases h) (fun _ => rfl)
  | @osl sz xs b o cap c F h1 h2 h3 h4 _ ih =>
    have ih' := ih.grow (S' := fun z => S z ∨ z ∈ b :: F) fun z hz => hz.imp id (List.mem_cons_of_mem _)
    have := Std.sl (S := fun z => S z ∨ z ∈ b :: F) (w := w) (full := false) (xs := AV.fzLL xs) (sz := sz) (cap := cap) (b := b) (o := o) (fun h => by cases h) (by rw [AV.fzLL_len]; exact h2) (AV.fzLL_mem h3) (.inr (List.mem_cons_self ..)) (by rw [AV.fzLL_flat]; exact ih')
    rw [AV.fzLL_len] at this
    exact this
  | opt h1 h2 _ ih =>
    exact .pt (.inr (List.mem_cons_self ..)) (ih.grow fun z hz => hz.imp id (List.mem_cons_of_mem _))
  | nil => exact .nil
  | cons _ _ ih1 ih2 => exact .cons (ih1.grow fun z hz => hz.imp id (List.mem_append_left _)) (ih2.grow fun z hz => hz.imp id (List.mem_append_right _))
  | cnil => exact .cnil
  | ccons h _ _ ih1 ih2 => exact .ccons h (ih1.grow fun z hz => hz.imp id (List.mem_append_left _)) (ih2.grow fun z hz => hz.imp id (List.mem_append_right _))

theorem VarC.own {I : Interp} {w : World} {b o : Nat} {as : List AV} {F : List Nat} (h : VarC I w b o as F) (hc : as.all AV.closed = true) : Own I.S w (.c b o as) F := by
  induction h with
  | nil => exact .cnil
  | cons h1 h2 _ ih =>
    simp only [List.all_cons, Bool.and_eq_true] at hc
    exact .ccons h1 (h2.own hc.1) (ih hc.2)

section
variable {P : Program} {f : Nat} {Q : Post} {st : St} {S0 : Interp} {B : Nat} {w0 : World} {I : Interp} {a : Act} {w : World}

/-- These blocks stay from now on. -/
theorem Rel.freeze (hr : Rel S0 B w0 I st a w) {T F T' : List Nat} {hp : List (Nat × Row)} (t2 : T.Nodup) (t3 : ∀ b ∈ T, B ≤ b ∧ ¬ I.S b ∧ b < w.heap.size) (hh : HeapOK I w hp T') (hp0 : T.Perm (F ++ T')) :
    Rel S0 B w0 { I with S := fun z => I.S z ∨ z ∈ F } ⟨st.tm, hp, st.nx, st.nt⟩ a w := by
  have he : Ext I w { I with S := fun z => I.S z ∨ z ∈ F } w := ⟨fun _ h => .inl h, fun _ _ => rfl, Nat.le_refl _, fun _ _ => rfl, fun _ _ => rfl, fun _ _ => rfl, .refl w⟩
  have hnd := hp0.nodup_iff.1 t2
  have hF : ∀ z ∈ F, z ∈ T := fun z hz => hp0.mem_iff.2 (List.mem_append_left _ hz)
  have := hr.next he (Below.refl B w) (fun z hz => hz.imp id fun h => (t3 z (hF z h)).1) (fun z hz => hz.elim (hr.ss z) fun h => (t3 z (hF z h)).2.2) (hp := hp)
    ⟨T', hh.mono he fun _ _ => rfl, (List.nodup_append.1 hnd).2.1, fun z hz => by
      have h1 := t3 z (hp0.mem_iff.2 (List.mem_append_right _ hz))
      exact ⟨h1.1, fun hh => hh.elim h1.2.1 fun h => (List.nodup_append.1 hnd).2.2 _ h _ hz rfl, h1.2.2⟩⟩
  have e2 : (⟨st.tm, hp, ({ I with S := fun z => I.S z ∨ z ∈ F } : Interp).nx, st.nt⟩ : St) = ⟨st.tm, hp, st.nx, st.nt⟩ := by
    show (⟨st.tm, hp, I.nx, st.nt⟩ : St) = _
    rw [hr.nx]
  rw [← e2]; exact this

/-- A variable of one's own, with all that hangs on it, stays: slot d tells it so. -/
theorem run_freezeV {todo : List Item} (d : Nat) {id : Nat} {cs cs' : List AV} (hv : get d st.tm = .hp id 0) (hrow : row id st.hp = some (.var cs)) (hc : cs.all AV.closed = true) (hz : AV.fzL cs = cs')
    (h : Run P f Q todo ⟨(d, .pt cs') :: st.tm, rem id st.hp, st.nx, st.nt⟩) : Run P f Q todo st := by
  subst hz
  intro S0 B w0 I a w hlo hr
  obtain ⟨T, t1, t2, t3⟩ := hr.hp
  obtain ⟨F, T', g1, g2, g3⟩ := t1.take hrow
  have hx := hr.tm d
  rw [hv] at hx
  obtain ⟨b, o, hid, ha, e⟩ := hx.hp_inv
  obtain ⟨c, G, _, hb, hs, hvc, rfl⟩ := g1.var_inv ha
  have hstd := (hvc.own hc).freeze
  have hr2 := hr.freeze t2 t3 g2 g3
  refine h S0 B w0 _ a w hlo { hr2 with tm := fun j => ?_ }
  rw [get_cons]
  by_cases ej : d = j
  · subst ej
    rw [if_pos rfl, e]
    exact .std (.pt (.inr (List.mem_cons_self ..)) (hstd.grow fun z hz => hz.imp (fun h => h) (List.mem_cons_of_mem _)))
  · rw [if_neg ej]; exact hr2.tm j

/-- The same of a row. -/
theorem run_freezeR {todo : List Item} (d : Nat) {id sz : Nat} {xs xs' : List (List AV)} (hv : get d st.tm = .hw id) (hrow : row id st.hp = some (.row sz xs)) (hz : AV.fzLL xs = xs')
    (h : Run P f Q todo ⟨(d, .sl false sz xs') :: st.tm, rem id st.hp, st.nx, st.nt⟩) : Run P f Q todo st := by
  subst hz
  intro S0 B w0 I a w hlo hr
  obtain ⟨T, t1, t2, t3⟩ := hr.hp
  obtain ⟨F, T', g1, g2, g3⟩ := t1.take hrow
  have hx := hr.tm d
  rw [hv] at hx
  have hr2 := hr.freeze t2 t3 g2 g3
  refine h S0 B w0 _ a w hlo { hr2 with tm := fun j => ?_ }
  rw [get_cons]
  by_cases ej : d = j
  · subst ej
    rw [if_pos rfl]
    obtain ⟨hid, ⟨_, h0, ad, e⟩ | ⟨b, of, cap, c, ha, hcap, hblk, hfit, e⟩⟩ := hx.hw_inv
    · have hnil : xs = [] := List.eq_nil_of_length_eq_zero (by rw [← g1.ln_eq.1]; exact h0)
      subst hnil
      rw [e]; exact .std (.sl0 (fun h => by cases h) (fun _ => rfl))
    · have hln := g1.ln_eq.1
      cases g1 with
      | row0 _ ha' => rw [ha] at ha'; cases ha'
      | row _ ha' hl hz hb hs hx2 ho =>
        rw [ha] at ha'
        cases ha'
        have hstd := ho.freeze
        rw [e, hln]
        have := Std.sl (S := fun z => I.S z ∨ z ∈ b :: _) (w := w) (full := false) (xs := AV.fzLL xs) (sz := sz) (cap := cap) (b := b) (o := of) (fun h => by cases h) (by rw [AV.fzLL_len, ← hln]; exact hcap) (AV.fzLL_mem hx2) (.inr (List.mem_cons_self ..))
          (by rw [AV.fzLL_flat]; exact hstd.grow fun z hz => hz.imp (fun h => h) (List.mem_cons_of_mem _))
        rw [AV.fzLL_len] at this
        exact .std this
  · rw [if_neg ej]; exact hr2.tm j
end
end Go.Ax

/- Maps that are filled once, and read. -/
namespace Go.Ax
open Go.RowKit
set_option linter.unusedVariables false
set_option linter.unusedSimpArgs false

def mget : List (Int × Int) → Int → Option Int
  | [], _ => none
  | (k, v) :: r, n => bif decide (n = k) then some v else mget r n

def pairV (p : Int × Int) : Value × Value := (.int .i64 p.1, .int .i64 p.2)

theorem findNow_mp (n : Int) : ∀ (l : List MapEntry) (kvs : List (Int × Int)) (i : Nat), l.map (fun e => (e.key, e.val)) = kvs.map (fun p => (Value.int .i64 p.1, Value.int .i64 p.2)) →
    (mget kvs n = none → Instr.findNow (.int .i64) (.int .i64 n) l i = some none) ∧ (∀ v, mget kvs n = some v → ∃ j, Instr.findNow (.int .i64) (.int .i64 n) l i = some (some (j, .int .i64 v)))
  | [], [], i, _ => ⟨fun _ => rfl, fun v h => by cases h⟩
  | [], _ :: _, i, h => by simp at h
  | _ :: _, [], i, h => by simp at h
  | e :: l, (k, v) :: kvs, i, h => by
    simp only [List.map_cons, List.cons.injEq, Prod.mk.injEq] at h
    obtain ⟨⟨h1, h2⟩, h3⟩ := h
    obtain ⟨ih1, ih2⟩ := findNow_mp n l kvs (i + 1) h3
    by_cases hk : n = k
    · subst hk
      refine ⟨fun h => by simp [mget] at h, fun u h => ?_⟩
      simp only [mget, decide_true, cond_true, Option.some.injEq] at h
      subst h
      exact ⟨i, by simp [Instr.findNow, h1, Instr.sameNow, h2]⟩
    · have e1 : mget ((k, v) :: kvs) n = mget kvs n := by simp [mget, hk]
      rw [e1]
      have e2 : Instr.findNow (.int .i64) (.int .i64 n) (e :: l) i = Instr.findNow (.int .i64) (.int .i64 n) l (i + 1) := by
        have hb : (n == k) = false := by simpa using hk
        simp [Instr.findNow, h1, Instr.sameNow, hb]
      rw [e2]
      exact ⟨ih1, ih2⟩

theorem TyOK.mapE {P : Program} {t k e : Nat} {i : TyI} (h : TyOK P t i) (hd : i.td = .td (.map k e)) : P.underlying t = some (.map k e) := by
  obtain ⟨h, _⟩ := h; rw [hd] at h; exact h.1

theorem TyOK.intE {P : Program} {t : Nat} {i : TyI} (h : TyOK P t i) (hd : i.td = .td (.int .i64)) : P.underlying t = some (.int .i64) := by
  obtain ⟨h, _⟩ := h; rw [hd] at h; exact h.1

theorem Own.blk {S : Nat → Prop} {w : World} {q : Ask} {F : List Nat} (h : Own S w q F) : ∀ b ∈ F, ∃ c, Blk w b c := by
  induction h with
  | std => simp
  | agg _ ih => exact ih
  | tup _ ih => exact ih
  | osl0 => simp
  | osl h1 _ _ _ _ ih => exact fun z hz => (List.mem_cons.1 hz).elim (fun e => e ▸ ⟨_, h1⟩) (ih z)
  | opt h1 _ _ ih => exact fun z hz => (List.mem_cons.1 hz).elim (fun e => e ▸ ⟨_, h1⟩) (ih z)
  | nil => simp
  | cons _ _ ih1 ih2 => exact fun z hz => (List.mem_append.1 hz).elim (ih1 z) (ih2 z)
  | cnil => simp
  | ccons _ _ _ ih1 ih2 => exact fun z hz => (List.mem_append.1 hz).elim (ih1 z) (ih2 z)

theorem VarC.blk {I : Interp} {w : World} {b o : Nat} {as : List AV} {F : List Nat} (h : VarC I w b o as F) : ∀ z ∈ F, ∃ c, Blk w z c := by
  induction h with
  | nil => simp
  | cons _ hl _ ih =>
    refine fun z hz => (List.mem_append.1 hz).elim (fun h => ?_) (ih z)
    rcases hl with ⟨_, rfl⟩ | hl
    · simp at h
    · exact hl.blk z h

theorem HeapOK.blk {I : Interp} {w : World} {hp : List (Nat × Row)} {T : List Nat} (h : HeapOK I w hp T) : ∀ z ∈ T, ∀ es clock, w.heap[z]? ≠ some (.map es clock) := by
  have key : ∀ {z}, (∃ c, Blk w z c) → ∀ es clock, w.heap[z]? ≠ some (.map es clock) := fun ⟨c, t, hc⟩ es clock h => by rw [hc] at h; cases h
  induction h with
  | nil => simp
  | cons h _ ih =>
    refine fun z hz => (List.mem_append.1 hz).elim (fun hz => ?_) (ih z)
    cases h with
    | var _ _ hb _ hv => exact key ((List.mem_cons.1 hz).elim (fun e => e ▸ ⟨_, hb⟩) (hv.blk z))
    | row0 => simp at hz
    | row _ _ _ _ hb _ _ ho => exact key ((List.mem_cons.1 hz).elim (fun e => e ▸ ⟨_, hb⟩) (ho.blk z))
    | foc _ _ _ _ hb _ _ _ _ _ _ o1 _ _ o2 => exact key ((List.mem_cons.1 hz).elim (fun e => e ▸ ⟨_, hb⟩) fun hz => (List.mem_append.1 hz).elim (o1.blk z) (o2.blk z))
    | lp _ _ h1 h2 _ _ =>
      intro es clock he
      simp only [List.mem_cons, List.not_mem_nil, or_false] at hz
      rcases hz with rfl | rfl
      · rw [h1] at he; cases he
      · rw [h2] at he; cases he

section
variable {P : Program} {f : Nat} {Q : Post} {k : List Item} {st : St} {A : Array Oper} {i : Nat} {rest : List Nat}

theorem rd_lookup {o : Oper} {t kt et : Nat} {x ix : Operand} {it ki : TyI} {kvs : List (Int × Int)} {n v : Int} (h : o.op = .lookup t x ix false) (ht : TyOK P t it) (hd : it.td = .td (.map kt et)) (hk : TyOK P kt ki) (hkd : ki.td = .td (.int .i64))
    (hez : (P.info? et).bind (·.zero) = some (.int .i64 0)) (hx : st.ev x = .mp kvs) (hi : st.ev ix = .lit (.int .i64 n)) (hv : (mget kvs n).getD 0 = v) : Reads P st o (.lit (.int .i64 v)) := by
  subst hv
  intro S0 B w0 I a w hr
  have h1 := hr.ev x
  have h2 := hr.ev ix
  rw [hx] at h1
  rw [hi] at h2
  refine ⟨_, fun w' hw0 => ?_, .std (.lit _)⟩
  have hw : Same _ w' := hw0.resolve_left (by rw [h]; simp [memFree])
  generalize ex : a.eval x = y at h1
  cases h1 with
  | std h1 =>
    cases h1 with
    | @mp r es clock _ hS hb hes =>
      have hb' : w'.heap[r]? = some (.map es clock) := (hw r (hr.ss r hS)).trans hb
      have hkd' := hk.intE hkd
      have hik : MapKept.IsKey (.int .i64) (.int .i64 n) := by simp [MapKept.IsKey]
      obtain ⟨f1, f2⟩ := findNow_mp n es.toList kvs 0 hes
      have hz : (zeroValue et).run P w' = .ok (.int .i64 0) w' := by
        cases hin : P.info? et with
        | none => simp [hin] at hez
        | some info =>
          simp only [hin, Option.bind_some] at hez
          simp only [zeroValue, typeInfo, Sem.run_bind, run_program, Result.andThen_ok, hin, Sem.run_pure, hez]
      cases hm : mget kvs n with
      | none =>
        simp only [execOp, h, ex, h2.lit_inv, Instr.lookup, Sem.run_bind, run_under (ht.mapE hd), Result.andThen_ok, MapKept.run_getObj_map hb', Sem.run_pure, MapKept.run_checkKey hkd' hik, MapKept.run_findKey hkd' (f1 hm), hz, Option.getD_none, if_false, Bool.false_eq_true]
      | some v =>
        obtain ⟨j, hj⟩ := f2 v hm
        simp only [execOp, h, ex, h2.lit_inv, Instr.lookup, Sem.run_bind, run_under (ht.mapE hd), Result.andThen_ok, MapKept.run_getObj_map hb', Sem.run_pure, MapKept.run_checkKey hkd' hik, MapKept.run_findKey hkd' hj, Option.getD_some, if_false, Bool.false_eq_true]

/-- A map of one's own that is being filled, in slot d. -/
def Filling (I : Interp) (B : Nat) (a : Act) (w : World) (d : Nat) (kvs : List (Int × Int)) : Prop :=
  ∃ r es clock, a.tmps.getD d undef = .map (some r) ∧ w.heap[r]? = some (.map es clock) ∧ es.toList.map (fun e => (e.key, e.val)) = kvs.map (fun p => (Value.int .i64 p.1, Value.int .i64 p.2)) ∧ B ≤ r ∧ ¬ I.S r

def RunM (P : Program) (f : Nat) (Q : Post) (todo : List Item) (st : St) (d : Nat) (kvs : List (Int × Int)) : Prop :=
  ∀ S0 B w0 I a w, S0.nx = Q.lo → Rel S0 B w0 I st a w → Filling I B a w d kvs → a.defers = Q.ds → ∀ (b : Frame), b.fn = f → b.kind = .normal → b.roundOf = Q.ro → ∀ cs, ∃ e w',
    Q.R S0 B w0 e w' ∧ Goes P f Q.ro (b.atR a todo) cs w e w'

theorem run_makeMap {d t t0 : Nat} {pos : String} {af : Array Edge} (ho : A[i]? = some ⟨some d, .makeMap t none, t0, pos, af, none⟩) (hd : Nat.blt d st.nt = true)
    (h : RunM P f Q (.inRegion A rest :: k) (st.set d .any) d []) : Run P f Q (.inRegion A (i :: rest) :: k) st := by
  intro S0 B w0 I a w hlo hr hds b hb hk hro cs
  let w1 : World := { w with heap := w.heap.push (.map #[] 0) }
  have hrun : (execOp a.eval ⟨some d, .makeMap t none, t0, pos, af, none⟩).run P w = .ok (.value (.map (some w.heap.size))) w1 := by
    simp [execOp, Instr.makeMap, run_newObj, w1]
  have hold : ∀ z, z < w.heap.size → w1.heap[z]? = w.heap[z]? := fun z hz => heap_push w _ z hz
  have he : Ext I w I w1 := ⟨fun _ h => h, fun z hz => hold z (hr.ss z hz), Nat.le_refl _, fun _ _ => rfl, fun _ _ => rfl, fun _ _ => rfl, .push _ _⟩
  obtain ⟨T, t1, t2, t3⟩ := hr.hp
  have hr1 := hr.next he (Below.push B w _ hr.bs) (fun _ h => .inl h) (fun z hz => by have := hr.ss z hz; simp [w1]; omega) (hp := st.hp)
    ⟨T, t1.mono he fun z hz => hold z (t3 z hz).2.2, t2, fun z hz => ⟨(t3 z hz).1, (t3 z hz).2.1, by have := (t3 z hz).2.2; simp [w1]; omega⟩⟩
  rw [hr.nx] at hr1
  have hr2 : Rel S0 B w0 I (st.set d .any) (a.put (some d) (.map (some w.heap.size))) w1 := hr1.put hd (.std (.any _))
  have hd' : d < a.tmps.size := by rw [hr.nt]; simpa using hd
  obtain ⟨e, w2, g1, g2⟩ := h S0 B w0 I _ w1 hlo hr2 ⟨w.heap.size, #[], 0, by simp [Act.put, hd'], by simp [w1], rfl, hr.bs, fun hs => by have := hr.ss _ hs; omega⟩ hds b hb hk hro cs
  exact ⟨e, w2, g1, g2.of_steps (.one (step_op_value ho rfl hrun))⟩

theorem runM_insert {d t kt et t0 : Nat} {pos : String} {af : Array Edge} {it ki : TyI} {kvs : List (Int × Int)} {n v : Int} (ho : A[i]? = some ⟨none, .insert t (.tmp d) (.const (.int .i64 n)) (.const (.int .i64 v)), t0, pos, af, none⟩)
    (ht : TyOK P t it) (hd : it.td = .td (.map kt et)) (hk : TyOK P kt ki) (hkd : ki.td = .td (.int .i64)) (hn : mget kvs n = none)
    (h : RunM P f Q (.inRegion A rest :: k) st d (kvs ++ [(n, v)])) : RunM P f Q (.inRegion A (i :: rest) :: k) st d kvs := by
  intro S0 B w0 I a w hlo hr ⟨r, es, clock, m1, m2, m3, m4, m5⟩ hds b hb hkk hro cs
  let o : Obj := .map (es.push { key := .int .i64 n, val := .int .i64 v, born := clock }) (clock + 1)
  let w1 : World := { w with heap := w.heap.setIfInBounds r o }
  have hkd' := hk.intE hkd
  have hik : MapKept.IsKey (.int .i64) (.int .i64 n) := by simp [MapKept.IsKey]
  have hrun : (execOp a.eval ⟨none, .insert t (.tmp d) (.const (.int .i64 n)) (.const (.int .i64 v)), t0, pos, af, none⟩).run P w = .ok .skip w1 := by
    have e1 : a.eval (.tmp d) = .map (some r) := m1
    have e2 : ∀ x, a.eval (.const x) = x := fun _ => rfl
    simp only [execOp, e1, e2, Instr.mapUpdate, Sem.run_bind, run_under (ht.mapE hd), Result.andThen_ok, MapKept.run_getObj_map m2, MapKept.run_checkKey hkd' hik, MapKept.run_findKey hkd' ((findNow_mp n es.toList kvs 0 m3).1 hn), MapKept.run_setObj_map _ m2, Sem.run_pure]
    rfl
  obtain ⟨k1, k2⟩ := MapKept.heap_set (o' := o) m2
  obtain ⟨T, t1, t2, t3⟩ := hr.hp
  have hT : ∀ z ∈ T, w1.heap[z]? = w.heap[z]? := fun z hz => k2 z fun e => by
    exact t1.blk z hz _ _ (e ▸ m2)
  have he : Ext I w I w1 := ⟨fun _ h => h, fun z hz => k2 z fun e => m5 (e ▸ hz), Nat.le_refl _, fun _ _ => rfl, fun _ _ => rfl, fun _ _ => rfl, fun z c hz => by
    obtain ⟨t, hc⟩ := hz
    exact ⟨c, ⟨t, (k2 z fun e => by rw [e, m2] at hc; cases hc).trans hc⟩, rfl⟩⟩
  have hsz : w1.heap.size = w.heap.size := by simp [w1]
  have hr1 := hr.next he ⟨rfl, rfl, rfl, by rw [hsz]; exact Nat.le_refl _, fun z hz => k2 z (by omega)⟩ (fun _ h => .inl h) (fun z hz => by rw [hsz]; exact hr.ss z hz) (hp := st.hp)
    ⟨T, t1.mono he hT, t2, fun z hz => by rw [hsz]; exact t3 z hz⟩
  rw [hr.nx] at hr1
  obtain ⟨e, w2, g1, g2⟩ := h S0 B w0 I a w1 hlo hr1 ⟨r, _, _, m1, k1, by simp [m3], m4, m5⟩ hds b hb hkk hro cs
  exact ⟨e, w2, g1, g2.of_steps (.one (step_op_do ho rfl hrun))⟩

theorem runM_done {todo : List Item} {d : Nat} {kvs : List (Int × Int)} (h : Run P f Q todo ⟨(d, .mp kvs) :: st.tm, st.hp, st.nx, st.nt⟩) : RunM P f Q todo st d kvs := by
  intro S0 B w0 I a w hlo hr ⟨r, es, clock, m1, m2, m3, m4, m5⟩ hds b hb hkk hro cs
  let I' : Interp := { I with S := fun z => I.S z ∨ z = r }
  have hlt : r < w.heap.size := (Array.getElem?_eq_some_iff.1 m2).1
  have he : Ext I w I' w := ⟨fun _ h => .inl h, fun _ _ => rfl, Nat.le_refl _, fun _ _ => rfl, fun _ _ => rfl, fun _ _ => rfl, .refl w⟩
  obtain ⟨T, t1, t2, t3⟩ := hr.hp
  have hr1 := hr.next he (Below.refl B w) (fun z hz => by
      rcases hz with hz | hz
      · exact .inl hz
      · subst hz; exact .inr m4) (fun z hz => by
      rcases hz with hz | hz
      · exact hr.ss z hz
      · subst hz; exact hlt) (hp := st.hp)
    ⟨T, t1.mono he fun _ _ => rfl, t2, fun z hz => ⟨(t3 z hz).1, fun (hs : I.S z ∨ z = r) => hs.elim (t3 z hz).2.1 (fun e => by
      exact t1.blk z hz _ _ (e ▸ m2)), (t3 z hz).2.2⟩⟩
  have e2 : (⟨st.tm, st.hp, I'.nx, st.nt⟩ : St) = st := by
    show (⟨st.tm, st.hp, I.nx, st.nt⟩ : St) = _
    rw [hr.nx]
  rw [e2] at hr1
  refine h S0 B w0 I' a w hlo ⟨fun j => ?_, hr1.nt, hr1.nx, hr1.hp, hr1.ss, hr1.ext, hr1.sb, hr1.bl, hr1.bs⟩ hds b hb hkk hro cs
  show Rep I' w (.v (get j ((d, _) :: st.tm)) _)
  rw [get_cons]
  by_cases ej : d = j
  · subst ej
    rw [if_pos rfl, m1]
    exact .std (.mp (.inr rfl) m2 m3)
  · rw [if_neg ej]; exact hr1.tm j
end
end Go.Ax
