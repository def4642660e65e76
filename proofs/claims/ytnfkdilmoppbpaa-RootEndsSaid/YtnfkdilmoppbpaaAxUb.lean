/- A row within a row is written back; what is nil; texts the same; results that are pointers; control. -/
import Derived.Test.YtnfkdilmoppbpaaAxUa
namespace Go.Ax
open Go.RowKit
set_option linter.unusedVariables false
set_option linter.unusedSimpArgs false

theorem Own.c_wrote {I : Interp} {w w' : World} {b o o2 : Nat} {As : List AV} {F : List Nat} {vs : List Value} (h : Own I.S w (.c b o As) F) (hw : Wrote w w' b o2 vs) (hd : o + As.length ≤ o2 ∨ o2 + vs.length ≤ o) (he : Ext I w I w') (hF : ∀ z ∈ F, w'.heap[z]? = w.heap[z]?) : Own I.S w' (.c b o As) F := by
  obtain ⟨us, h1, h2⟩ := h.cells
  have := h1.l_len
  exact Own.ofCells (h1.l_mono he hF) (hw.cellsAt h2 (by omega))

section
variable {P : Program} {st : St}

/-- A write of a row within a row that is looked at. -/
theorem ok_store_foc {o : Oper} {t id n off sz j : Nat} {x y : Operand} {i : TyI} {v u : AV} {xs : List (List AV)} {cs : List AV} {hp1 : List (Nat × Row)} (h : o.op = .store t x y) (ht : TyOK P t i) (hx : st.ev x = .hq id n off)
    (hy : st.ev y = v) (hk : v.known = true) (hl : v.cells.all AV.leaf = true) (hsz : Nat.beq v.cells.length i.size = true) (hf : foldL st.hp v.cells = ([u], hp1)) (hc : u.closed = true)
    (hrow : row id hp1 = some (.foc sz xs cs n off j)) : OpDo P st o ⟨st.tm, (id, .row sz (xs.set n (cs.set off u))) :: rem id hp1, st.nx, st.nt⟩ := by
  intro S0 B w0 I a w hr
  have h1 := hr.ev x
  have h2 := hr.ev y
  rw [hx] at h1
  rw [hy] at h2
  obtain ⟨b, of, hi, hat, e⟩ := h1.hq_inv
  have hcells := h2.cells hk (fun u hu => by subst hu; simp [AV.cells, AV.leaf] at hl; cases u <;> simp_all [Value.oneCell', Value.cells])
  obtain ⟨T, k1, k2, k3⟩ := hr.hp
  obtain ⟨Fv, T1, f1, f2, f3⟩ := foldL_ok hcells k1
  rw [hf] at f1 f2
  obtain ⟨F, T', g1, g2, g3⟩ := f2.take hrow
  have hlx : (a.eval y).cells.toList.length = v.cells.length := hcells.l_len
  have hsz' : v.cells.length = i.size := Nat.eq_of_beq_eq_true hsz
  have hlv : i.size = 1 := by have := f1.length; simp at this; rw [← hsz', ← hlx]; simp [← this]
  cases g1 with
  | foc hi hat2 hln hz hb hs hxs hg hof hff hA o1 hcell hrep o2 =>
    rw [hat] at hat2
    cases hat2
    rename_i c y0 a0 As Cs F1 F2
    obtain ⟨e1, e2, e3⟩ := flatten_parts hxs hg
    have hoff : off < cs.length := by omega
    obtain ⟨c1, c2⟩ := cells_of_cons (v := u) hoff
    have hd : cs.drop off = cs[off] :: cs.drop (off + 1) := List.drop_eq_getElem_cons hoff
    obtain ⟨p1, p2, _⟩ := foc_parts hxs hg hd
    have hAs : As = (xs.take n).flatten ++ cs.take off ∧ a0 :: Cs = cs[off] :: (cs.drop (off + 1) ++ (xs.drop (n + 1)).flatten) := by
      rw [hff] at p1
      exact List.append_inj p1 (by rw [hA, p2])
    obtain ⟨rfl, hC⟩ := hAs
    simp only [List.cons.injEq] at hC
    obtain ⟨_, rfl⟩ := hC
    have hlt : n < xs.length := (List.getElem?_eq_some_iff.1 hg).1
    have hmul : (n + 1) * sz ≤ xs.length * sz := Nat.mul_le_mul_right _ hlt
    rw [Nat.add_mul, Nat.one_mul] at hmul
    have hall : T.Perm (Fv ++ ((b :: (F1 ++ F2)) ++ T')) := f3.trans (List.Perm.append_left Fv g3)
    obtain ⟨w', r1, r2⟩ := run_stores (P := P) (b := b) (o := of + n * sz + off) (a.eval y).cells.toList 0 w c hb (by rw [hlx, hsz']; omega) (hcells.ones hl)
    rw [Nat.add_zero] at r2
    have hbB := k3 b (hall.mem_iff.2 (by simp))
    have he : Ext I w I w' := r2.ext hbB.2.1
    have hnd : (Fv ++ ((b :: (F1 ++ F2)) ++ T')).Nodup := hall.nodup_iff.1 k2
    have hne : ∀ z ∈ Fv ++ ((F1 ++ F2) ++ T'), w'.heap[z]? = w.heap[z]? := by
      intro z hz
      refine r2.other z fun ez => ?_
      subst ez
      have hc : (Fv ++ ((z :: (F1 ++ F2)) ++ T')).count z ≤ 1 := List.nodup_iff_count.1 hnd z
      have hm : 0 < (Fv ++ ((F1 ++ F2) ++ T')).count z := List.count_pos_iff.2 hz
      simp only [List.count_append, List.count_cons, beq_self_eq_true, if_true] at hc hm
      omega
    obtain ⟨c', hb', hs'⟩ := r2.blk c hb
    have hflat : (xs.set n (cs.set off u)).flatten = ((xs.take n).flatten ++ cs.take off) ++ u :: (cs.drop (off + 1) ++ (xs.drop (n + 1)).flatten) := by
      rw [flatten_set (sz := sz) hg]
      conv => lhs; rw [← List.take_append_drop off (cs.set off u), c1, c2]
      simp only [List.append_assoc, List.cons_append]
    rw [show of + n * sz + off = of + (n * sz + off) from by omega] at r2
    have hlx1 : (a.eval y).cells.toList.length = 1 := by rw [hlx, hsz', hlv]
    have q1 := o1.c_wrote r2 (.inl (by rw [p2]; exact Nat.le_refl _)) he (fun z hz => hne z (by simp [hz]))
    have q2 := o2.c_wrote r2 (.inr (by rw [hlx1]; exact Nat.le_refl _)) he (fun z hz => hne z (by simp [hz]))
    obtain ⟨x1, hx1⟩ : ∃ x1, (a.eval y).cells.toList = [x1] := by
      match h : (a.eval y).cells.toList, hlx1 with
      | [x1], _ => exact ⟨x1, rfl⟩
    rw [hx1] at f1 r2
    have hnew := r2.new 0 x1 rfl
    rw [Nat.add_zero] at hnew
    obtain ⟨hu, hF0⟩ : Own I.S w (.v u x1) Fv ∧ True := by
      cases f1 with
      | cons l1 l2 =>
        cases l2
        rw [List.append_nil]
        exact ⟨l1.own hc, trivial⟩
    have hu' : Own I.S w' (.v u x1) Fv := hu.mono he.S he.hold (fun z hz => hne z (by simp [hz])) (by simp)
    have hown := Own.c_app q1 (by rw [p2]; exact hnew) hu' (by rw [p2]; exact q2)
    rw [← hflat] at hown
    refine ⟨w', I, ?_, ?_⟩
    · have hsz2 : (a.eval y).cells.size = i.size := by rw [← Array.length_toList, hlx, hsz']
      rw [hx1] at r1
      simp only [execOp, h, e, hz, Instr.storeAt, Instr.sureAddr, storeVar, Sem.run_bind, Sem.run_pure, Result.andThen_ok, run_size ht, hsz2, ne_eq, not_true, if_false, hx1, r1]
    · have hrowok : RowOK I w' id (.row sz (xs.set n (cs.set off u))) (b :: (F1 ++ (Fv ++ F2))) := .row hi hat (by rw [List.length_set]; exact hln) hz hb' (by rw [List.length_set, hs']; exact hs) (set_mem_len hxs (by rw [List.length_set]; exact e3)) hown
      have hnew : ((b :: (F1 ++ (Fv ++ F2))) ++ T').Nodup := by
        refine List.nodup_iff_count.2 fun z => ?_
        have := List.nodup_iff_count.1 hnd z
        simp only [List.count_append, List.count_cons] at this ⊢
        omega
      have := hr.next he (r2.below hbB.1) (fun b h => .inl h) (fun z hz => by rw [r2.size]; exact hr.ss z hz) (hp := (id, .row sz (xs.set n (cs.set off u))) :: rem id hp1)
        ⟨_, .cons hrowok (g2.mono he fun z hz => hne z (by simp only [List.mem_append]; exact .inr (.inr hz))), hnew, fun z hz => by
          rw [r2.size]
          refine k3 z (hall.mem_iff.2 ?_)
          simp only [List.mem_append, List.mem_cons] at hz ⊢
          rcases hz with (h | h | h | h) | h <;> simp [h]⟩
      rw [hr.nx] at this; exact this
end
end Go.Ax
