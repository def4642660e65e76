/- Values that say less, within rows. -/
import Derived.Test.YtnfkdilmoppbpaaAxY
namespace Go.Ax
open Go.RowKit
set_option linter.unusedVariables false
set_option linter.unusedSimpArgs false

/-- Row by row. -/
inductive LeLL : List (List AV) → List (List AV) → Prop
  | nil : LeLL [] []
  | cons {a b as bs} : LeL a b → LeLL as bs → LeLL (a :: as) (b :: bs)

theorem LeL.len {as bs : List AV} (h : LeL as bs) : as.length = bs.length := by
  induction h with
  | nil => rfl
  | cons _ _ ih => simp [ih]
theorem LeL.app {as bs cs ds : List AV} (h : LeL as bs) (h2 : LeL cs ds) : LeL (as ++ cs) (bs ++ ds) := by
  induction h with
  | nil => exact h2
  | cons h _ ih => exact .cons h ih
theorem LeLL.len {as bs : List (List AV)} (h : LeLL as bs) : as.length = bs.length := by
  induction h with
  | nil => rfl
  | cons _ _ ih => simp [ih]
theorem LeLL.flat {as bs : List (List AV)} (h : LeLL as bs) : LeL as.flatten bs.flatten := by
  induction h with
  | nil => exact .nil
  | cons h _ ih => exact h.app ih
theorem LeLL.mem {as bs : List (List AV)} (h : LeLL as bs) {sz : Nat} (hs : ∀ x ∈ as, x.length = sz) : ∀ x ∈ bs, x.length = sz := by
  induction h with
  | nil => simp
  | cons h _ ih =>
    intro x hx
    rcases List.mem_cons.1 hx with rfl | hx
    · rw [← h.len]; exact hs _ (List.mem_cons_self ..)
    · exact ih (fun y hy => hs y (List.mem_cons_of_mem _ hy)) x hx
theorem LeLL.refl : ∀ (xs : List (List AV)), LeLL xs xs
  | [] => .nil
  | x :: xs => .cons (.refl x) (.refl xs)
theorem LeLL.rep {a b : List AV} (h : LeL a b) : ∀ (n : Nat), LeLL (List.replicate n a) (List.replicate n b)
  | 0 => .nil
  | n + 1 => .cons h (LeLL.rep h n)

theorem LeL.c {S : Nat → Prop} {w : World} {b : Nat} {as bs : List AV} (h : LeL as bs) : ∀ {o : Nat}, Std S w (.c b o as) → Std S w (.c b o bs) := by
  induction h with
  | nil => intro o h; cases h; exact .cnil
  | cons h _ ih => intro o k; cases k with | ccons k1 k2 k3 => exact .ccons k1 (h _ _ _ k2) (ih k3)

theorem Le.sl {f : Bool} {sz : Nat} {xs ys : List (List AV)} (h : LeLL xs ys) : Le (.sl f sz xs) (.sl f sz ys) := fun S w x k => by
  cases k with
  | sl0 h1 h2 => cases h; exact .sl0 h1 h2
  | sl h1 h2 h3 h4 h5 => rw [h.len] at h1 h2 ⊢; exact .sl h1 h2 (h.mem h3) h4 (h.flat.c h5)
theorem Le.pt {cs ds : List AV} (h : LeL cs ds) : Le (.pt cs) (.pt ds) := fun S w x k => by
  cases k with | pt k1 k2 => exact .pt k1 (h.c k2)

section
variable {P : Program} {f : Nat} {Q : Post} {todo : List Item} {tm : TM} {hp : HP} {nx nt : Nat}

/-- A row of one's own that is told to hold less. -/
theorem run_rowLe (id : Nat) {sz : Nat} {xs ys : List (List AV)} (hrow : row id hp = some (.row sz xs)) (hs : ∀ x ∈ xs, x.all AV.stays = true) (hle : LeLL xs ys) (h : Run P f Q todo ⟨tm, (id, .row sz ys) :: rem id hp, nx, nt⟩) : Run P f Q todo ⟨tm, hp, nx, nt⟩ := by
  intro S0 B w0 I a w hlo hr
  obtain ⟨T, t1, t2, t3⟩ := hr.hp
  obtain ⟨F, T', g1, g2, g3⟩ := t1.take hrow
  refine h S0 B w0 I a w hlo { hr with hp := ⟨F ++ T', .cons ?_ g2, g3.nodup_iff.1 t2, fun z hz => t3 z (g3.mem_iff.2 hz)⟩ }
  cases g1 with
  | row0 hi ha h0 hz => cases hle; exact .row0 hi ha h0 hz
  | row hi ha hl hz hb hs2 hx ho =>
    refine .row hi ha (by rw [← hle.len]; exact hl) hz hb (by rw [← hle.len]; exact hs2) (hle.mem hx) ?_
    obtain ⟨vs, o1, o2⟩ := ho.cells
    obtain ⟨rfl, o3⟩ := stays_own_l o1 (by
      rw [List.all_eq_true]
      intro a ha
      obtain ⟨x, hx1, hx2⟩ := List.mem_flatten.1 ha
      exact List.all_eq_true.1 (hs x hx1) a hx2)
    exact Own.ofCells (hle.flat.std o3).l_own o2

/-- Rows that are one's own go back into the variable that leads to them. -/
theorem run_foldV (id : Nat) {cs rs : List AV} {hp' : HP} (hrow : row id hp = some (.var cs)) (hf : foldL (rem id hp) cs = (rs, hp')) (h : Run P f Q todo ⟨tm, (id, .var rs) :: hp', nx, nt⟩) : Run P f Q todo ⟨tm, hp, nx, nt⟩ := by
  intro S0 B w0 I a w hlo hr
  obtain ⟨T, t1, t2, t3⟩ := hr.hp
  obtain ⟨F, T', g1, g2, g3⟩ := t1.take hrow
  cases g1 with
  | var hi ha hb hs hv =>
    obtain ⟨xs, l1, l2, l3⟩ := hv.leaves
    obtain ⟨G2, T2, k1, k2, k3⟩ := foldLv_ok l1 g2
    rw [hf] at k1 k2
    have hlen : rs.length = cs.length := by rw [k1.length, l3]
    rename_i b o c F
    have hperm : T.Perm ((b :: G2) ++ T2) := by
      refine g3.trans (List.perm_iff_count.2 fun z => ?_)
      have := List.perm_iff_count.1 k3 z
      simp only [List.count_append, List.count_cons] at this ⊢
      omega
    exact h S0 B w0 I a w hlo { hr with hp := ⟨_, .cons (.var hi ha hb (by rw [hlen]; exact hs) (k1.varC l2)) k2, hperm.nodup_iff.1 t2, fun z hz => t3 z (hperm.mem_iff.2 hz)⟩ }

theorem run_hp {hp' : HP} (e : hp = hp') (h : Run P f Q todo ⟨tm, hp', nx, nt⟩) : Run P f Q todo ⟨tm, hp, nx, nt⟩ := by rw [e]; exact h
end

/-- What is one's own and says more. -/
def OLe (a b : AV) : Prop := ∀ S w x F, Own S w (.v a x) F → Own S w (.v b x) F
theorem OLe.refl (a : AV) : OLe a a := fun _ _ _ _ h => h
theorem OLe.agg {as bs : List AV} (h : LeL as bs) (hs : as.all AV.stays = true) : OLe (.agg as) (.agg bs) := fun S w x F k => by
  cases k with
  | std k => exact .std (Le.agg h _ _ _ k)
  | agg k =>
    obtain ⟨e, k2⟩ := stays_own_l k hs
    rw [e]; exact .std (.agg (h.std k2))
theorem OLe.one {a b : AV} (h : Le a b) (hs : a.stays = true) : OLe a b := fun S w x F k => by
  obtain ⟨e, k2⟩ := stays_own k hs
  rw [e]; exact .std (h _ _ _ k2)
inductive OLeL : List AV → List AV → Prop
  | nil : OLeL [] []
  | cons {a b as bs} : OLe a b → OLeL as bs → OLeL (a :: as) (b :: bs)
theorem OLeL.own {S : Nat → Prop} {w : World} {as bs : List AV} (h : OLeL as bs) : ∀ {xs : List Value} {F : List Nat}, Own S w (.l as xs) F → Own S w (.l bs xs) F := by
  induction h with
  | nil => intro xs F k; exact k
  | cons h _ ih => intro xs F k; cases k with | cons k1 k2 => exact .cons (h _ _ _ _ k1) (ih k2)
theorem OLe.tup {as bs : List AV} (h : OLeL as bs) : OLe (.tup as) (.tup bs) := fun S w x F k => by
  cases k with
  | std k => cases k with | tup k => exact .tup (h.own k.l_own)
  | tup k => exact .tup (h.own k)
theorem OLe.osl {sz : Nat} {xs ys : List (List AV)} (h : LeLL xs ys) (hs : ∀ x ∈ xs, x.all AV.stays = true) : OLe (.osl sz xs) (.osl sz ys) := fun S w x F k => by
  cases k with
  | std k => cases k
  | osl0 h0 => cases h; exact .osl0 h0
  | osl h1 h2 h3 h4 ho =>
    rw [h.len] at h2 ⊢
    refine .osl h1 h2 (h.mem h3) h4 ?_
    obtain ⟨vs, o1, o2⟩ := ho.cells
    obtain ⟨rfl, o3⟩ := stays_own_l o1 (by
      rw [List.all_eq_true]
      intro a ha
      obtain ⟨x, hx1, hx2⟩ := List.mem_flatten.1 ha
      exact List.all_eq_true.1 (hs x hx1) a hx2)
    exact Own.ofCells (h.flat.std o3).l_own o2

/-- A cell that is told to hold less. -/
def VLe (a b : AV) : Prop := ∀ I w x F, Leaf I w a x F → Leaf I w b x F
theorem VLe.refl (a : AV) : VLe a a := fun _ _ _ _ h => h
theorem VLe.osl {sz : Nat} {xs ys : List (List AV)} (h : LeLL xs ys) (hs : ∀ x ∈ xs, x.all AV.stays = true) : VLe (.osl sz xs) (.osl sz ys) := fun I w x F k => by
  rcases k with ⟨k, _⟩ | k
  · cases k with | std k => cases k
  · exact .inr (OLe.osl h hs _ _ _ _ k)
theorem VLe.one {a b : AV} (h : Le a b) (hs : a.stays = true) : VLe a b := fun I w x F k => by
  rcases k with ⟨k, hf⟩ | k
  · exact .inl ⟨.std (h _ _ _ (k.std_of (by cases a <;> simp_all [AV.stays, AV.closed]))), hf⟩
  · exact .inr (OLe.one h hs _ _ _ _ k)
inductive VLeL : List AV → List AV → Prop
  | nil : VLeL [] []
  | cons {a b as bs} : VLe a b → VLeL as bs → VLeL (a :: as) (b :: bs)
theorem VLeL.len {as bs : List AV} (h : VLeL as bs) : as.length = bs.length := by
  induction h with
  | nil => rfl
  | cons _ _ ih => simp [ih]
theorem VLeL.varC {I : Interp} {w : World} {b : Nat} {as bs : List AV} (h : VLeL as bs) : ∀ {o : Nat} {F : List Nat}, VarC I w b o as F → VarC I w b o bs F := by
  induction h with
  | nil => intro o F k; cases k; exact .nil
  | cons h _ ih => intro o F k; cases k with | cons k1 k2 k3 => exact .cons k1 (h _ _ _ _ k2) (ih k3)
theorem run_varLe {P : Program} {f : Nat} {Q : Post} {todo : List Item} {tm : TM} {hp : HP} {nx nt : Nat} (id : Nat) {cs ds : List AV} (hrow : row id hp = some (.var cs)) (hle : VLeL cs ds) (h : Run P f Q todo ⟨tm, (id, .var ds) :: rem id hp, nx, nt⟩) : Run P f Q todo ⟨tm, hp, nx, nt⟩ := by
  intro S0 B w0 I a w hlo hr
  obtain ⟨T, t1, t2, t3⟩ := hr.hp
  obtain ⟨F, T', g1, g2, g3⟩ := t1.take hrow
  refine h S0 B w0 I a w hlo { hr with hp := ⟨F ++ T', .cons ?_ g2, g3.nodup_iff.1 t2, fun z hz => t3 z (g3.mem_iff.2 hz)⟩ }
  cases g1 with
  | var hi ha hb hs hv => exact .var hi ha hb (by rw [← hle.len]; exact hs) (hle.varC hv)
theorem FnSpec.weak {P : Program} {g : Nat} {as : List AV} {v : AV} (h : FnSpec P g as fun r => OLe r v) : FnSpec P g as fun r => r = v := ⟨h.has, fun S0 w vs h1 h2 => (h.good S0 w vs h1 h2).mono fun e w' ⟨r, hr, u, S, F, he, ho, h3⟩ => ⟨v, rfl, u, S, F, he, hr _ _ _ _ ho, h3⟩⟩
theorem FnSpec.weakE {P : Program} {g : Nat} {as : List AV} {Q Q2 : AV → Prop} (h : FnSpec P g as Q) (hq : ∀ r, Q r → ∃ v, Q2 v ∧ OLe r v) : FnSpec P g as Q2 := ⟨h.has, fun S0 w vs h1 h2 => (h.good S0 w vs h1 h2).mono fun e w' ⟨r, hr, u, S, F, he, ho, h3⟩ => by
  obtain ⟨v, k1, k2⟩ := hq r hr
  exact ⟨v, k1, u, S, F, he, k2 _ _ _ _ ho, h3⟩⟩
theorem FnSpec.imp {P : Program} {g : Nat} {as : List AV} {Q Q2 : AV → Prop} (h : FnSpec P g as Q) (hq : ∀ r, Q r → Q2 r) : FnSpec P g as Q2 := ⟨h.has, h.good.imp hq⟩
theorem FnSpec.args {P : Program} {g : Nat} {as bs : List AV} {Q : AV → Prop} (h : FnSpec P g bs Q) (hl : LeL as bs) : FnSpec P g as Q := ⟨h.has, h.good.le hl⟩
end Go.Ax
