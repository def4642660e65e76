/- Appending to a row. -/
import Derived.Test.YtnfkdilmoppbpaaAxO
import Derived.Laws.AppendOwn
namespace Go.Ax
open Go.RowKit
set_option linter.unusedVariables false
set_option linter.unusedSimpArgs false

/-- What one cell holds, and is one's own or stays. -/
def AV.own1 : AV → Bool
  | .lit u => u.oneCell'
  | .sl .. | .pt _ | .osl .. | .opt _ => true
  | _ => false

theorem Own.one {S : Nat → Prop} {w : World} {a : AV} {x : Value} {F : List Nat} (h : Own S w (.v a x) F) (hl : a.own1 = true) : x.oneCell' = true := by
  cases h with
  | std h => cases h <;> first | rfl | exact hl | cases hl
  | agg => cases hl
  | tup => cases hl
  | osl0 => rfl
  | osl => rfl
  | opt => rfl

theorem Own.ones {S : Nat → Prop} {w : World} {as : List AV} : ∀ {xs : List Value} {F : List Nat}, Own S w (.l as xs) F → as.all AV.own1 = true → ∀ x ∈ xs, x.oneCell' = true := by
  induction as with
  | nil => intro xs F h _; cases h; simp
  | cons a as ih =>
    intro xs F h hl
    simp only [List.all_cons, Bool.and_eq_true] at hl
    cases h with
    | cons h1 h2 =>
      intro x hx
      rcases List.mem_cons.1 hx with rfl | hx
      · exact h1.one hl.1
      · exact ih h2 hl.2 x hx

theorem run_first {P : Program} {w : World} {A : Option Addr} {n m cap size : Nat} {vs : List Value} (hl : vs.length = n * size) (h : vs = [] ∨ ∃ b o, A = some ⟨b, o, none⟩ ∧ CellsAt w b o vs) :
    (Builtin.firstCells size n (.slice A m cap)).run P w = .ok vs.toArray w := by
  cases A with
  | none =>
    rcases h with rfl | ⟨_, _, h, _⟩
    · rfl
    · cases h
  | some ad =>
    simp only [Builtin.firstCells]
    rcases h with rfl | ⟨b, o, h, hc⟩
    · rw [← hl]; rfl
    · cases h; rw [← hl]; exact run_cells vs hc

section
variable {P : Program} {st : St}

theorem ok_append {o : Oper} {t t2 e e2 ty sz : Nat} {x y : Operand} {it ie i2 : TyI} {xs ys : List (List AV)} {hp1 hp2 : List (Nat × Row)} {dst : Option Nat} {pos : String} {af : Array Edge} {gd : Option (Nat × Bool)}
    (h : o = ⟨dst, .call { callee := .builtin .append, args := #[x, y], argTypes := #[t, t2] }, ty, pos, af, gd⟩) (ht : TyOK P t it)
    (hd : it.td = .td (.slice e)) (he : TyOK P e ie) (ht2 : TyOK P t2 i2) (hd2 : i2.td = .td (.slice e2)) (hsz : Nat.beq ie.size sz = true) (hx : FirstA st st.hp (st.ev x) sz xs hp1) (hy : SrcA st hp1 (st.ev y) sz ys hp2)
    (hl : ys.flatten.all AV.own1 = true) (hb : (xs.length + ys.length) * ie.bytes ≤ 140737488355328) (h63 : xs.length + ys.length ≤ 9223372036854775807) :
    OpOK P st o (.hw st.nx) ⟨st.tm, (st.nx, .row sz (xs ++ ys)) :: hp2, st.nx + 1, st.nt⟩ := by
  subst h
  obtain rfl := Nat.eq_of_beq_eq_true hsz
  refine ⟨rfl, fun S0 B w0 I a w hr => ?_⟩
  obtain ⟨T, t1, t2', t3⟩ := hr.hp
  obtain ⟨A, cap, vs, F, G, T1, e1, hcap, hown, hxs, hh1, hperm1, hA⟩ := hx I w _ (hr.ev x) T t1
  obtain ⟨A2, cap2, us, F2, G2, T2, k1, kown, kys, hh2, hperm2, kA⟩ := hy I w _ (hr.ev y) T1 hh1
  have hvl : vs.length = xs.length * ie.size := by rw [hown.l_len, flat_len hxs]
  have hul : us.length = ys.length * ie.size := by rw [kown.l_len, flat_len kys]
  have hu1 := kown.ones hl
  have hboth : Own I.S w (.l (xs ++ ys).flatten (vs ++ us)) (F ++ F2) := by rw [List.flatten_append]; exact hown.l_app kown
  have hxy : ∀ z ∈ xs ++ ys, z.length = ie.size := fun z hz => (List.mem_append.1 hz).elim (hxs z) (kys z)
  have hus : us = [] ∨ ∃ b o, A2 = some ⟨b, o, none⟩ ∧ CellsAt w b o us := by
    rcases kA with ⟨_, rfl⟩ | rfl | kA
    · left; refine List.eq_nil_of_length_eq_zero ?_; rw [hul]; simp
    · left; refine List.eq_nil_of_length_eq_zero ?_; rw [hul]; simp
    · exact .inr kA
  have hvs : vs = [] ∨ ∃ b o, A = some ⟨b, o, none⟩ ∧ CellsAt w b o vs := by
    rcases hA with ⟨h0, _⟩ | ⟨b, o, c, h1, _, _, _, h2⟩
    · left; refine List.eq_nil_of_length_eq_zero ?_; rw [hvl, show xs.length = 0 from by omega]; simp
    · exact .inr ⟨b, o, h1, h2⟩
  have hperm : T.Perm (F ++ F2 ++ (T2 ++ (G2 ++ G))) := by
    refine hperm1.trans (List.perm_iff_count.2 fun z => ?_)
    have := List.perm_iff_count.1 hperm2 z
    simp only [List.count_append] at this ⊢
    omega
  obtain ⟨hd2', _⟩ := ht2
  rw [hd2] at hd2'
  have hu2 : P.underlying t2 = some (.slice e2) := hd2'.1
  have hzl := he.2.1
  have hsize := fun w => run_size (P := P) (w := w) he
  obtain ⟨_, _, info, hinfo, hisz, hiby, z, hz, hzc⟩ := he
  have hinfo2 : ∀ w, (typeInfo e).run P w = .ok info w := fun w => by simp only [typeInfo, Sem.run_bind, run_program, Result.andThen_ok, hinfo, Sem.run_pure]
  have hzero : ∀ w, (zeroValue e).run P w = .ok z w := fun w => by simp only [zeroValue, hinfo2, Sem.run_bind, Result.andThen_ok, hz, Sem.run_pure]
  by_cases hfit : xs.length + ys.length ≤ cap
  · have hfit' : xs.length + ys.length ≤ cap := hfit
    have hnx : I.nx = st.nx := hr.nx
    have hn : ∀ at_, (I.add at_ (xs ++ ys).length ie.size).nx = st.nx + 1 := fun _ => by show I.nx + 1 = _; rw [hnx]
    have hat : ∀ at_, (I.add at_ (xs ++ ys).length ie.size).at_ st.nx = at_ := fun _ => by simp [Interp.add, hnx]
    have hln : ∀ at_, (I.add at_ (xs ++ ys).length ie.size).ln st.nx = (xs ++ ys).length := fun _ => by simp [Interp.add, hnx]
    have hszz : ∀ at_, (I.add at_ (xs ++ ys).length ie.size).sz st.nx = ie.size := fun _ => by simp [Interp.add, hnx]
    have hnew := run_first (P := P) (w := w) (A := A2) (n := ys.length) (m := ys.length) (cap := cap2) hul hus
    have hrun : ∀ w', (match A with | some a => storeCells (a.add (xs.length * ie.size)) us | none => pure ()).run P w = .ok () w' →
        (execOp a.eval ⟨dst, .call { callee := .builtin .append, args := #[x, y], argTypes := #[t, t2] }, ty, pos, af, gd⟩).run P w = .ok (.value (.slice A (xs.length + ys.length) cap)) w' := by
      intro w' hw'
      cases A with
      | none =>
        simp at hw'
        subst hw'
        simp [execOp, resolve, invoke, builtin, Builtin.append_, e1, k1, run_under (ht.sliceE hd), run_under hu2, hsize, hinfo2, hzero, Builtin.lenOf, hfit, hnew]
      | some ad =>
        simp at hw'
        simp [execOp, resolve, invoke, builtin, Builtin.append_, e1, k1, run_under (ht.sliceE hd), run_under hu2, hsize, hinfo2, hzero, Builtin.lenOf, hfit, hnew, hw']
    rcases hA with ⟨h0, _⟩ | ⟨b, of, c, rfl, hbG, hblk, hroom, hcv⟩
    · obtain rfl : xs = [] := List.eq_nil_of_length_eq_zero (by omega)
      obtain rfl : ys = [] := List.eq_nil_of_length_eq_zero (by omega)
      obtain rfl : cap = 0 := h0
      obtain rfl : us = [] := List.eq_nil_of_length_eq_zero (by rw [hul]; simp)
      cases hown
      cases kown
      have he : Ext I w (I.add none ([] ++ [] : List (List AV)).length ie.size) w := .add _ _ _ (fun _ _ => rfl) (.refl w)
      refine ⟨_, w, I.add none ([] ++ [] : List (List AV)).length ie.size, hrun w ?_, ?_, ?_, fun hk => by cases hk⟩
      · cases A <;> rfl
      · have := hr.next he (Below.refl B w) (fun b h => .inl h) hr.ss (hp := (st.nx, .row ie.size ([] ++ [])) :: hp2) ⟨_, .cons (.row0 (by rw [hn]; omega) (hat _) (hln _) (hszz _)) (hh2.mono he fun _ _ => rfl), ?_, fun z hz => t3 z (hperm.mem_iff.2 ?_)⟩
        · rw [hn] at this; exact this
        · have := hperm.nodup_iff.1 t2'
          simp only [List.nil_append] at this ⊢
          exact (List.nodup_append.1 this).1
        · simp only [List.nil_append, List.mem_append] at hz ⊢
          exact .inl hz
      · exact .hw0 (by rw [hn]; omega) (hat _) (hln _) trivial
    · obtain ⟨w', r1, r2⟩ := run_stores (P := P) (b := b) (o := of + xs.length * ie.size) us 0 w c hblk (by
        rw [hul]
        have : (xs.length + ys.length) * ie.size ≤ cap * ie.size := Nat.mul_le_mul_right _ hfit'
        rw [Nat.add_mul] at this; omega) hu1
      rw [Nat.add_zero] at r2
      have hbT := t3 b (hperm.mem_iff.2 (by simp [hbG]))
      have hnd := hperm.nodup_iff.1 t2'
      have hne : ∀ z ∈ F ++ F2 ++ T2, w'.heap[z]? = w.heap[z]? := by
        intro z hz
        refine r2.other z fun ez => ?_
        subst ez
        have h1 : (F ++ F2 ++ (T2 ++ (G2 ++ G))).count z ≤ 1 := List.nodup_iff_count.1 hnd z
        have h2 : 0 < (F ++ F2 ++ T2).count z := List.count_pos_iff.2 hz
        have h3 : 0 < G.count z := List.count_pos_iff.2 hbG
        simp only [List.count_append] at h1 h2
        omega
      have he : Ext I w (I.add (some (b, of)) (xs ++ ys).length ie.size) w' := .add _ _ _ (fun z hz => r2.other z fun e => hbT.2.1 (e ▸ hz)) r2.lasts
      obtain ⟨c', hb', hs'⟩ := r2.blk c hblk
      have hcells : CellsAt w' b of (vs ++ us) := by
        refine CellsAt.app (fun j v hj => ?_) ?_
        · rw [r2.cell _ (by have := (List.getElem?_eq_some_iff.1 hj).1; omega)]; exact hcv j v hj
        · rw [hvl]; exact r2.new
      have hfin : of + cap * ie.size ≤ c'.size := by omega
      have hle : (xs ++ ys).length * ie.size ≤ cap * ie.size := Nat.mul_le_mul_right _ (by simpa using hfit')
      have hrow : RowOK (I.add (some (b, of)) (xs ++ ys).length ie.size) w' st.nx (.row ie.size (xs ++ ys)) (b :: (F ++ F2)) :=
        .row (by rw [hn]; omega) (hat _) (hln _) (hszz _) hb' (by omega) hxy (Own.ofCells (hboth.l_mono he fun z hz => hne z (by simp only [List.mem_append] at hz ⊢; exact .inl hz)) hcells)
      refine ⟨_, w', I.add (some (b, of)) (xs ++ ys).length ie.size, hrun w' ?_, ?_, ?_, fun hk => by cases hk⟩
      · show (storeCells ((⟨b, of, none⟩ : Addr).add (xs.length * ie.size)) us).run P w = _
        rw [addr_add]; exact r1
      · have := hr.next he (r2.below hbT.1) (fun b h => .inl h) (fun z hz => by rw [r2.size]; exact hr.ss z hz) (hp := (st.nx, .row ie.size (xs ++ ys)) :: hp2)
          ⟨_, .cons hrow (hh2.mono he fun z hz => hne z (by simp [hz])), ?_, fun z hz => ?_⟩
        · rw [hn] at this; exact this
        · refine List.nodup_iff_count.2 fun z => ?_
          have h1 := List.nodup_iff_count.1 hnd z
          have h3 : z = b → 0 < G.count z := fun e => by subst e; exact List.count_pos_iff.2 hbG
          simp only [List.count_append, List.count_cons, beq_iff_eq] at h1 ⊢
          split
          · have := h3 (by simp_all); omega
          · omega
        · rw [r2.size]
          refine t3 z (hperm.mem_iff.2 ?_)
          simp only [List.mem_append, List.mem_cons] at hz ⊢
          rcases hz with (h | h | h) | h
          · subst h; simp [hbG]
          all_goals simp [h]
      · have := Rep.hw (I := I.add (some (b, of)) (xs ++ ys).length ie.size) (w := w') (id := st.nx) (cap := cap) (c := c') (b := b) (o := of) (by rw [hn]; omega) (hat _) (by rw [hln]; simpa using hfit') hb' (by rw [hszz]; exact hfin)
        rw [hln] at this
        rw [show (AV.hw st.nx) = AV.hw st.nx from rfl, ← List.length_append]; exact this
  · let nc := grownCap w (xs.length + ys.length) cap e
    have hge : xs.length + ys.length ≤ nc := grownCap_ge w _ _ e
    let cs : Array Value := vs.toArray ++ us.toArray ++ Builtin.zeroCells z.cells (nc - (xs.length + ys.length))
    let w1 : World := { w with drawn := w.drawn + 1 }
    have hr1 : Rel S0 B w0 I st a w1 := hr.drawn _
    have he1 : Ext I w I w1 := ⟨fun _ h => h, fun _ _ => rfl, Nat.le_refl _, fun _ _ => rfl, fun _ _ => rfl, fun _ _ => rfl, fun b c h => ⟨c, h, rfl⟩⟩
    have hcs : cs.toList = (vs ++ us) ++ cs.toList.drop (vs ++ us).length := by
      simp only [cs, Array.toList_append]
      rw [List.drop_left]
    have hcsz : nc * ie.size ≤ cs.size := by
      simp only [cs, Array.size_append, List.size_toArray, size_zeroCells, hzc, hvl, hul, hzl, ← Nat.add_mul]
      exact Nat.mul_le_mul_right _ (by omega)
    obtain ⟨g1, g2⟩ := hr1.newRow (fun b hb => t3 b hb) t2' (hh2.mono he1 fun _ _ => rfl) (F := F ++ F2) ⟨G2 ++ G, hperm⟩ hxy (hboth.l_mono he1 fun _ _ => rfl) hcs e nc (by simpa using hge) hcsz
    refine ⟨_, _, _, ?_, g1, g2, fun hk => by cases hk⟩
    have h63' : ¬ (9223372036854775807 < ((xs.length : Int) + (ys.length : Int))) := by omega
    have h48' : ¬ (281474976710656 < Builtin.nextslicecap (xs.length + ys.length) cap * info.bytes) := by
      have := growslice_fits (need := xs.length + ys.length) (old := cap) (bytes := ie.bytes) (by omega) hb
      rw [hiby]; omega
    have hold := run_first (P := P) (w := w1) (A := A) (n := xs.length) (m := xs.length) (cap := cap) hvl hvs
    have hnew := run_first (P := P) (w := w1) (A := A2) (n := ys.length) (m := ys.length) (cap := cap2) hul hus
    have hd1 : w.drew = w1 := rfl
    simp [execOp, resolve, invoke, builtin, Builtin.append_, e1, k1, run_under (ht.sliceE hd), run_under hu2, hsize, hinfo2, hzero, Builtin.lenOf, hfit, h63', h48', Question.forced, hd1, hold, hnew, newRow]
    exact ⟨rfl, by simp only [cs, Array.append_assoc]; rfl⟩
end
end Go.Ax
