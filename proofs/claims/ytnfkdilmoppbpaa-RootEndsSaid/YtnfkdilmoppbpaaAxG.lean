/- Writes into one's own variables. -/
import Derived.Test.YtnfkdilmoppbpaaAxF
namespace Go.Ax
open Go.RowKit
set_option linter.unusedVariables false
set_option linter.unusedSimpArgs false

/-- A list in which others stand from a place on. -/
def splice : List AV → Nat → List AV → List AV
  | cs, _, [] => cs
  | [], _, _ => []
  | _ :: cs, 0, v :: vs => v :: splice cs 0 vs
  | c :: cs, n + 1, v :: vs => c :: splice cs n (v :: vs)

theorem splice_eq : ∀ (cs : List AV) (n : Nat) (vs : List AV), n + vs.length ≤ cs.length → splice cs n vs = cs.take n ++ (vs ++ cs.drop (n + vs.length))
  | cs, n, [], h => by simp [splice]
  | [], n, v :: vs, h => by simp at h
  | c :: cs, 0, v :: vs, h => by
    have := splice_eq cs 0 vs (by simp at h ⊢; omega)
    simp [splice, this]
  | c :: cs, n + 1, v :: vs, h => by
    have := splice_eq cs n (v :: vs) (by simp at h ⊢; omega)
    simp only [splice, this, List.take_succ_cons, List.cons_append, List.length_cons]
    rw [show n + 1 + (vs.length + 1) = (n + (vs.length + 1)) + 1 from by omega, List.drop_succ_cons]

section
variable {P : Program} {st : St}

theorem ok_store_hp {o : Oper} {t id off : Nat} {x y : Operand} {i : TyI} {v : AV} {cs cs' : List AV} {hp1 : List (Nat × Row)} {vs : List AV} (h : o.op = .store t x y) (ht : TyOK P t i) (hx : st.ev x = .hp id off)
    (hy : st.ev y = v) (hk : v.known = true) (hl : v.cells.all AV.leaf = true) (hsz : Nat.beq v.cells.length i.size = true) (hf : foldL st.hp v.cells = (vs, hp1))
    (hrow : row id hp1 = some (.var cs)) (hn : Nat.ble (off + i.size) cs.length = true) (hcs : splice cs off vs = cs') : OpDo P st o ⟨st.tm, (id, .var cs') :: rem id hp1, st.nx, st.nt⟩ := by
  intro S0 B w0 I a w hr
  have h1 := hr.ev x
  have h2 := hr.ev y
  rw [hx] at h1
  rw [hy] at h2
  obtain ⟨b, of, hi, hat, e⟩ := h1.hp_inv
  have hcells := h2.cells hk (fun u hu => by subst hu; simp [AV.cells, AV.leaf] at hl; cases u <;> simp_all [Value.oneCell', Value.cells])
  obtain ⟨T, k1, k2, k3⟩ := hr.hp
  obtain ⟨Fv, T1, f1, f2, f3⟩ := foldL_ok hcells k1
  rw [hf] at f1 f2
  obtain ⟨F, T', g1, g2, g3⟩ := f2.take hrow
  obtain ⟨c, G, _, hb, hs, hv, rfl⟩ := g1.var_inv hat
  have hn' := Nat.le_of_ble_eq_true hn
  have hlx : (a.eval y).cells.toList.length = v.cells.length := by
    clear f1 hl
    generalize (a.eval y).cells.toList = xs at hcells
    generalize v.cells = as at hcells
    induction as generalizing xs with
    | nil => cases hcells; rfl
    | cons _ _ ih => cases hcells with | cons _ h => simp [ih _ h]
  have hsz' : v.cells.length = i.size := Nat.eq_of_beq_eq_true hsz
  have hlv : vs.length = i.size := by rw [f1.length, hlx, hsz']
  have hall : T.Perm (Fv ++ ((b :: G) ++ T')) := f3.trans (List.Perm.append_left Fv g3)
  obtain ⟨w', r1, r2⟩ := run_stores (P := P) (b := b) (o := of + off) (a.eval y).cells.toList 0 w c hb (by rw [hlx, hsz']; omega) (hcells.ones hl)
  have hbB := k3 b (hall.mem_iff.2 (by simp))
  have he : Ext I w I w' := r2.ext hbB.2.1
  have hnd : (Fv ++ ((b :: G) ++ T')).Nodup := hall.nodup_iff.1 k2
  have hne : ∀ z ∈ Fv ++ (G ++ T'), w'.heap[z]? = w.heap[z]? := by
    intro z hz
    refine r2.other z fun ez => ?_
    subst ez
    have hc : (Fv ++ ((z :: G) ++ T')).count z ≤ 1 := List.nodup_iff_count.1 hnd z
    have hm : 0 < (Fv ++ (G ++ T')).count z := List.count_pos_iff.2 hz
    simp only [List.count_append, List.count_cons, beq_self_eq_true, if_true] at hc hm
    omega
  obtain ⟨c', hb', hs'⟩ := r2.blk c hb
  rw [← List.take_append_drop off cs, ← List.take_append_drop i.size (cs.drop off)] at hv
  obtain ⟨F1, F2', rfl, hv1, hv2⟩ := hv.split
  obtain ⟨Fo, F2, rfl, _, hv3⟩ := hv2.split
  have hoff : (cs.take off).length = off := by rw [List.length_take]; omega
  have hmid : ((cs.drop off).take i.size).length = i.size := by rw [List.length_take, List.length_drop]; omega
  rw [hoff, hmid] at hv3
  have hvar : VarC I w' b of cs' (F1 ++ (Fv ++ F2)) := by
    rw [← hcs, splice_eq cs off vs (by omega), hlv]
    refine VarC.app (hv1.keep he (fun z hz => hne z (by simp [hz])) (fun j h1 h2 => r2.cell j (by rw [hoff] at h2; omega))) ?_
    rw [hoff]
    refine VarC.app ((f1.mono he (fun z hz => hne z (by simp [hz]))).varC r2.new) ?_
    rw [hlv]
    rw [List.drop_drop] at hv3
    exact hv3.keep he (fun z hz => hne z (by simp [hz])) (fun j h1 h2 => r2.cell j (by rw [hlx, hsz']; omega))
  have hlen : cs'.length = cs.length := by
    rw [← hcs, splice_eq cs off vs (by omega)]; simp only [List.length_append, List.length_take, List.length_drop]; omega
  refine ⟨w', I, ?_, ?_⟩
  · have hsz2 : (a.eval y).cells.size = i.size := by rw [← Array.length_toList, hlx, hsz']
    simp only [execOp, h, e, Instr.storeAt, Instr.sureAddr, storeVar, Sem.run_bind, Sem.run_pure, Result.andThen_ok, run_size ht, hsz2, ne_eq, not_true, if_false, r1]
  · have hrowok : RowOK I w' id (.var cs') (b :: (F1 ++ (Fv ++ F2))) := .var hi hat hb' (by rw [hlen]; omega) hvar
    have hnew : ((b :: (F1 ++ (Fv ++ F2))) ++ T').Nodup := by
      refine List.nodup_iff_count.2 fun z => ?_
      have := List.nodup_iff_count.1 hnd z
      simp only [List.count_append, List.count_cons] at this ⊢
      omega
    have := hr.next he (r2.below hbB.1) (fun b h => .inl h) (fun z hz => by rw [r2.size]; exact hr.ss z hz) (hp := (id, .var cs') :: rem id hp1)
      ⟨_, .cons hrowok (g2.mono he fun z hz => hne z (by simp [hz])), hnew, fun z hz => by
        rw [r2.size]
        refine k3 z (hall.mem_iff.2 ?_)
        simp only [List.mem_append, List.mem_cons] at hz ⊢
        rcases hz with (h | h | h | h) | h <;> simp [h]⟩
    rw [hr.nx] at this; exact this
end
end Go.Ax
