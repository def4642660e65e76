/- What comes in from outside: arguments of known types, opened. -/
import Derived.Test.YtdgibhndjdgllaaDoorG01
import Derived.ChangeArms
import Derived.SizedLaws
import Derived.MapKept
import Derived.Laws.Pointers
import Derived.WalkSpells
import Derived.Laws.StructEq
set_option linter.unusedVariables false
set_option linter.unusedSimpArgs false

namespace Go.Ax
open Go.RowKit
set_option linter.unusedVariables false
set_option linter.unusedSimpArgs false

/-- All blocks that are there. -/
def All (w : World) (b : Nat) : Prop := b < w.heap.size

def Weighs {H : Type} (P : Program) (t : Nat) (d : DataW H) : Prop := ∀ n ∈ d.weights P t, n ≤ reachBytes

/-- Whatever reads as of type t is some a, told as enc a. -/
def Opens (P : Program) (t : Nat) {α : Type} (enc : α → List AV) (ok : α → Prop) : Prop :=
  ∀ (H : Type) (en : TypeId × Value → H) (w : World) (fuel : Nat) (cs : List Value) (x : DataW H × List MemPlace), DataW.trod en P w 0 (fun _ => true) true fuel t cs = some x → Weighs P t x.1 →
    ∃ a, Std (All w) w (.l (enc a) cs) ∧ ok a

theorem cellsOf_ty {P : Program} {t : Nat} {i : TyI} (h : TyOK P t i) : P.cellsOf t = i.size := by
  obtain ⟨_, _, info, h1, h2, _⟩ := h
  simp [Program.cellsOf, h1, h2]

theorem bytesOf_ty {P : Program} {t : Nat} {i : TyI} (h : TyOK P t i) : P.bytesOf t = i.bytes := by
  obtain ⟨_, _, info, h1, _, h2, _⟩ := h
  simp [Program.bytesOf, h1, h2]

/-- A number of 64 bits. -/
def num64 (n : Int) : Prop := -9223372036854775808 ≤ n ∧ n ≤ 9223372036854775807

theorem opens_int {P : Program} {t : Nat} {i : TyI} (ht : TyOK P t i) (hd : i.td = .td (.int .i64)) : Opens P t (fun n : Int => [.lit (.int .i64 n)]) num64 := by
  intro H en w fuel cs x h _
  obtain ⟨hd2, _⟩ := ht; rw [hd] at hd2
  obtain ⟨n, rfl, _, hw⟩ := DataW.trod_int hd2.1 h
  refine ⟨n, .cons (.lit _) .nil, ?_⟩
  simp [Lit.wf, IntKind.min, IntKind.max, IntKind.signed, IntKind.bits] at hw
  unfold num64; omega

theorem opens_string {P : Program} {t : Nat} {i : TyI} (ht : TyOK P t i) (hd : i.td = .td .string) : Opens P t (fun s : ByteArray => [.lit (.string s)]) (fun s => s.size ≤ reachBytes) := by
  intro H en w fuel cs x h hw
  obtain ⟨hd2, _⟩ := ht; rw [hd] at hd2
  obtain ⟨s, rfl, rfl, _⟩ := DataW.trod_string hd2.1 h
  refine ⟨s, .cons (.lit _) .nil, ?_⟩
  have := hw s.data.toList.length (by simp [DataW.weights])
  simpa using this

theorem cells?_spec {w : World} {a : Addr} {n : Nat} {cs : List Value} (h : w.cells? 0 a n = some cs) : cs.length = n ∧ ∀ i, i < n → w.cell? (a.add i) = cs[i]? := by
  simp only [World.cells?, Nat.zero_le, if_true] at h
  refine ⟨by simpa using mapM_some_length h, fun i hi => ?_⟩
  exact mapM_some_get h i i (by simp [hi])

theorem std_cells_of {S : Nat → Prop} {w : World} {b : Nat} : ∀ (as : List AV) (us : List Value) (o : Nat), Std S w (.l as us) → CellsAt w b o us → Std S w (.c b o as) := by
  intro as
  induction as with
  | nil => intro us o _ _; exact .cnil
  | cons a as ih =>
    intro us o k1 k2
    cases k1 with
    | cons k3 k4 =>
      refine .ccons (k2 0 _ rfl) k3 (ih _ _ k4 fun j v hj => ?_)
      have := k2 (j + 1) v (by simpa using hj)
      rw [show o + 1 + j = o + (j + 1) from by omega]; exact this

theorem weightsAll_mem {H : Type} {P : Program} {e n : Nat} {d : DataW H} : ∀ {ds : List (DataW H)}, d ∈ ds → n ∈ d.weights P e → n ∈ DataW.weightsAll P e ds
  | d0 :: ds, h, hn => by
    simp only [DataW.weightsAll, List.mem_append]
    rcases List.mem_cons.1 h with rfl | h
    · exact .inl hn
    · exact .inr (weightsAll_mem h hn)

theorem opens_slice {P : Program} {t e : Nat} {i ie : TyI} {α : Type} {enc : α → List AV} {ok : α → Prop} (ht : TyOK P t i) (hd : i.td = .td (.slice e)) (he : TyOK P e ie) {sz by_ : Nat} (hsz : ie.size = sz) (h0 : 0 < sz) (hby : ie.bytes = by_) (hlen : ∀ a, (enc a).length = sz) (ho : Opens P e enc ok) :
    Opens P t (fun l : List α => [.sl false sz (l.map enc)]) (fun l => (∀ a ∈ l, ok a) ∧ l.length * by_ ≤ reachBytes) := by
  intro H en w fuel cs x h hw
  have hu := ht.sliceE hd
  have hc := cellsOf_ty he
  rcases DataW.trod_slice hu h with ⟨rfl, _⟩ | ⟨a, len, cap, elems, rest, n, _, rfl, rfl, _, hlc, _, hel, hall, hsp, _⟩
  · exact ⟨[], .cons (.sl0 (fun h => by cases h) (fun _ => rfl)) .nil, by simp, by simp⟩
  · have hrest := (hsp rfl).1
    rw [hc, hsz] at hall
    have hwt : len * by_ ≤ reachBytes := by
      have := hw ((elems.length + rest.length) * P.bytesOf e) (by simp [DataW.weights, hu])
      rw [bytesOf_ty he, hby, hel] at this
      exact Nat.le_trans (Nat.mul_le_mul_right _ (Nat.le_add_right _ _)) this
    have hel2 : ∀ j, j < len → ∃ y cs', elems[j]? = some y ∧ w.cells? 0 (a.add (j * sz)) sz = some cs' ∧ DataW.trod en P w 0 (fun _ => true) true n e cs' = some y ∧ Weighs P e y.1 := by
      intro j hj
      have h1 := hall j hj
      have h2 : elems[j]? = some elems[j] := List.getElem?_eq_getElem (by omega)
      rw [h2] at h1
      obtain ⟨cs', h3, h4⟩ := Option.bind_eq_some_iff.1 h1
      refine ⟨_, cs', h2, h3, h4, fun m hm => hw m ?_⟩
      simp only [DataW.weights, hu, List.mem_cons, List.mem_append]
      exact .inr (.inl (weightsAll_mem (List.mem_map.2 ⟨_, List.getElem_mem _, rfl⟩) hm))
    by_cases hl : len = 0
    · subst hl
      exact ⟨[], .cons (.sl0 (fun h => by cases h) (fun h => by cases h)) .nil, by simp, by simp⟩
    · obtain ⟨b, of, spot⟩ := a
      have hs : spot = none ∧ b < w.heap.size := by
        obtain ⟨y, cs', _, h2, _⟩ := hel2 0 (by omega)
        obtain ⟨h3, h4⟩ := cells?_spec h2
        have h5 := h4 0 h0
        have h6 : cs'[0]? = some cs'[0] := List.getElem?_eq_getElem (by omega)
        rw [h6] at h5
        simp only [Nat.zero_mul, Addr.add, if_true, World.cell?] at h5
        split at h5
        · rename_i c _ _ hb
          refine ⟨by cases spot <;> simp_all, ?_⟩
          exact (Array.getElem?_eq_some_iff.1 hb).1
        · cases h5
      obtain ⟨rfl, hb⟩ := hs
      have key : ∀ k, k ≤ len → ∃ l : List α, l.length = k ∧ (∀ a ∈ l, ok a) ∧ Std (All w) w (.c b of (l.map enc).flatten) := by
        intro k
        induction k with
        | zero => intro _; exact ⟨[], rfl, by simp, .cnil⟩
        | succ k ih =>
          intro hk
          obtain ⟨l, g1, g2, g3⟩ := ih (by omega)
          obtain ⟨y, cs', _, h2, h3, h4⟩ := hel2 k (by omega)
          obtain ⟨a, h5, h6⟩ := ho H en w n cs' y h3 h4
          obtain ⟨h7, h8⟩ := cells?_spec h2
          refine ⟨l ++ [a], by simp [g1], ?_, ?_⟩
          · intro z hz
            rcases List.mem_append.1 hz with hz | hz
            · exact g2 z hz
            · rw [List.mem_singleton] at hz; subst hz; exact h6
          · rw [List.map_append, List.flatten_append]
            refine g3.app ?_
            rw [flat_len (n := sz) (by intro z hz; obtain ⟨u, _, rfl⟩ := List.mem_map.1 hz; exact hlen u), List.length_map, g1]
            simp only [List.map_cons, List.map_nil, List.flatten_cons, List.flatten_nil, List.append_nil]
            refine std_cells_of _ _ _ h5 fun j v hj => ?_
            have hjs : j < sz := by have := (List.getElem?_eq_some_iff.1 hj).1; omega
            have := h8 j hjs
            rw [addr_add, addr_add] at this
            rw [this]; exact hj
      obtain ⟨l, g1, g2, g3⟩ := key len (Nat.le_refl _)
      refine ⟨l, .cons ?_ .nil, g2, by rw [g1]; exact hwt⟩
      have := Std.sl (S := All w) (w := w) (full := false) (sz := sz) (xs := l.map enc) (b := b) (o := of) (cap := cap) (fun h => by cases h) (by rw [List.length_map, g1]; exact hlc) (by intro z hz; obtain ⟨u, _, rfl⟩ := List.mem_map.1 hz; exact hlen u) hb g3
      rw [List.length_map, g1] at this
      exact this

/-- The same of a struct's fields, from a place on. -/
def OpensF (P : Program) (fs : List (Nat × Nat)) (start : Nat) {α : Type} (enc : α → List AV) (ok : α → Prop) : Prop :=
  ∀ (H : Type) (en : TypeId × Value → H) (w : World) (fuel : Nat) (cs : List Value) (ds : List (DataW H)), ds.length = fs.length →
    (∀ (j off t : Nat), fs[j]? = some (off, t) → ∃ x, DataW.trod en P w 0 (fun _ => true) true fuel t ((cs.drop off).take (P.cellsOf t)) = some x ∧ ds[j]? = some x.1 ∧ Weighs P t x.1) →
    cs.length = start + (fs.map fun f => P.cellsOf f.2).sum → ∃ a, Std (All w) w (.l (enc a) (cs.drop start)) ∧ ok a

theorem opensF_nil {P : Program} {start : Nat} : OpensF P [] start (fun _ : Unit => []) (fun _ => True) := by
  intro H en w fuel cs ds _ _ hl
  refine ⟨(), ?_, trivial⟩
  rw [List.drop_eq_nil_of_le (by simp at hl; omega)]; exact .nil

theorem Std.l_app {S : Nat → Prop} {w : World} {as bs : List AV} {vs us : List Value} (h : Std S w (.l as vs)) (h2 : Std S w (.l bs us)) : Std S w (.l (as ++ bs) (vs ++ us)) := by
  induction as generalizing vs with
  | nil => cases h; exact h2
  | cons a as ih => cases h with | cons h1 h3 => exact .cons h1 (ih h3)

theorem opensF_cons {P : Program} {t start sz : Nat} {i : TyI} {fs : List (Nat × Nat)} {α β : Type} {enc : α → List AV} {ok : α → Prop} {enc2 : β → List AV} {ok2 : β → Prop} (ht : TyOK P t i) (hsz : i.size = sz) (h1 : Opens P t enc ok) (h2 : OpensF P fs (start + sz) enc2 ok2) :
    OpensF P ((start, t) :: fs) start (fun p : α × β => enc p.1 ++ enc2 p.2) (fun p => ok p.1 ∧ ok2 p.2) := by
  intro H en w fuel cs ds hl hx hlen
  cases ds with
  | nil => simp at hl
  | cons d ds =>
    obtain ⟨x, g1, g2, g3⟩ := hx 0 start t rfl
    have hc := cellsOf_ty ht
    rw [hc, hsz] at g1
    obtain ⟨a, k1, k2⟩ := h1 H en w fuel _ x g1 g3
    obtain ⟨b, k3, k4⟩ := h2 H en w fuel cs ds (by simpa using hl) (fun j off t' hj => by
      obtain ⟨x, m1, m2, m3⟩ := hx (j + 1) off t' (by simpa using hj)
      exact ⟨x, m1, by simpa using m2, m3⟩) (by simp only [List.map_cons, List.sum_cons, hc, hsz] at hlen; omega)
    refine ⟨(a, b), ?_, k2, k4⟩
    have e : cs.drop start = (cs.drop start).take sz ++ cs.drop (start + sz) := by
      rw [← List.drop_drop, List.take_append_drop]
    rw [e]
    exact k1.l_app k3

theorem opens_struct {P : Program} {t : Nat} {i : TyI} {fs : List (Nat × Nat)} {α : Type} {enc : α → List AV} {ok : α → Prop} (ht : TyOK P t i) (hd : i.td = .agg fs) (hs : i.size = (fs.map fun f => P.cellsOf f.2).sum) (h : OpensF P fs 0 enc ok) :
    Opens P t enc ok := by
  intro H en w fuel cs x hx hw
  have hc := cellsOf_ty ht
  obtain ⟨hd2, _⟩ := ht
  rw [hd] at hd2
  obtain ⟨fields, hu, rfl⟩ := hd2
  obtain ⟨xs, n, rfl, rfl, hl, hlen, hall⟩ := DataW.trod_struct hu hx
  have := h H en w n cs (xs.map (·.1)) (by simp [hlen]) (fun j off t' hj => by
    rw [List.getElem?_map] at hj
    cases hf : fields.toList[j]? with
    | none => simp [hf] at hj
    | some fd =>
      rw [hf] at hj
      simp at hj
      obtain ⟨rfl, rfl⟩ := hj
      have h1 := hall j fd (by simpa using hf)
      have hjx : j < xs.length := by rw [hlen]; have := (List.getElem?_eq_some_iff.1 hf).1; simpa using this
      have h2 : xs[j]? = some xs[j] := List.getElem?_eq_getElem hjx
      rw [h2] at h1
      refine ⟨_, h1, by simp [h2], fun m hm => hw m ?_⟩
      simp only [DataW.weights, hu]
      exact DataW.weights_mem_each (ts := fields.toList.map (·.type)) (ds := xs.map (·.1)) (j := j) (t := fd.type) (d := xs[j].1) (by rw [List.getElem?_map, hf]; rfl) (by rw [List.getElem?_map, h2]; rfl) m hm) (by rw [hl, hc, hs]; omega)
  simpa using this

theorem Opens.map {P : Program} {t : Nat} {α β : Type} {enc : α → List AV} {ok : α → Prop} {enc2 : β → List AV} {ok2 : β → Prop} (h : Opens P t enc ok) (f : α → β) (he : ∀ a, enc2 (f a) = enc a) (hk : ∀ a, ok a → ok2 (f a)) : Opens P t enc2 ok2 := by
  intro H en w fuel cs x hx hw
  obtain ⟨a, h1, h2⟩ := h H en w fuel cs x hx hw
  exact ⟨f a, by rw [he]; exact h1, hk a h2⟩
end Go.Ax

/- What is one's own, with all that hangs on it, stays from now on. -/
namespace Go.Ax
open Go.RowKit
set_option linter.unusedVariables false
set_option linter.unusedSimpArgs false

mutual
def AV.fz : AV → AV
  | .osl sz xs => .sl false sz (AV.fzLL xs)
  | .opt cs => .pt (AV.fzL cs)
  | .agg cs => .agg (AV.fzL cs)
  | .tup cs => .tup (AV.fzL cs)
  | a => a
def AV.fzL : List AV → List AV
  | [] => []
  | a :: as => AV.fz a :: AV.fzL as
def AV.fzLL : List (List AV) → List (List AV)
  | [] => []
  | x :: xs => AV.fzL x :: AV.fzLL xs
end

theorem AV.fzL_len : ∀ (as : List AV), (AV.fzL as).length = as.length
  | [] => rfl
  | a :: as => by simp only [AV.fzL, List.length_cons, AV.fzL_len as]

theorem AV.fzL_app : ∀ (as bs : List AV), AV.fzL (as ++ bs) = AV.fzL as ++ AV.fzL bs
  | [], bs => rfl
  | a :: as, bs => by simp only [List.cons_append, AV.fzL, AV.fzL_app as bs]

theorem AV.fzLL_len : ∀ (xs : List (List AV)), (AV.fzLL xs).length = xs.length
  | [] => rfl
  | x :: xs => by simp only [AV.fzLL, List.length_cons, AV.fzLL_len xs]

theorem AV.fzLL_flat : ∀ (xs : List (List AV)), (AV.fzLL xs).flatten = AV.fzL xs.flatten
  | [] => rfl
  | x :: xs => by simp only [AV.fzLL, List.flatten_cons, AV.fzL_app, AV.fzLL_flat xs]

theorem AV.fzLL_mem {sz : Nat} : ∀ {xs : List (List AV)}, (∀ x ∈ xs, x.length = sz) → ∀ x ∈ AV.fzLL xs, x.length = sz
  | [], _, x, hx => by simp [AV.fzLL] at hx
  | y :: xs, h, x, hx => by
    simp only [AV.fzLL, List.mem_cons] at hx
    rcases hx with rfl | hx
    · rw [AV.fzL_len]; exact h y (List.mem_cons_self ..)
    · exact AV.fzLL_mem (fun z hz => h z (List.mem_cons_of_mem _ hz)) x hx

def Ask.fz : Ask → Ask
  | .v a x => .v a.fz x
  | .l as xs => .l (AV.fzL as) xs
  | .c b o as => .c b o (AV.fzL as)

theorem Std.fz {S : Nat → Prop} {w : World} {q : Ask} (h : Std S w q) : Std S w q.fz := by
  induction h with
  | any x => exact .any x
  | lit x => exact .lit x
  | agg _ ih => exact .agg ih
  | tup _ ih => exact .tup ih
  | sl0 h1 h2 => exact .sl0 h1 h2
  | sl h1 h2 h3 h4 h5 _ => exact .sl h1 h2 h3 h4 h5
  | pt h1 h2 _ => exact .pt h1 h2
  | fn h _ => exact .fn h
  | mp h1 h2 h3 => exact .mp h1 h2 h3
  | nil => exact .nil
  | cons _ _ ih1 ih2 => exact .cons ih1 ih2
  | cnil => exact .cnil
  | ccons h _ _ ih1 ih2 => exact .ccons h ih1 ih2

theorem Std.grow {S S' : Nat → Prop} {w : World} {q : Ask} (h : Std S w q) (hS : ∀ b, S b → S' b) : Std S' w q := by
  induction h with
  | any x => exact .any x
  | lit x => exact .lit x
  | agg _ ih => exact .agg ih
  | tup _ ih => exact .tup ih
  | sl0 h1 h2 => exact .sl0 h1 h2
  | sl h1 h2 h3 h4 _ ih => exact .sl h1 h2 h3 (hS _ h4) ih
  | pt h1 _ ih => exact .pt (hS _ h1) ih
  | fn _ ih => exact .fn ih
  | mp h1 h2 h3 => exact .mp (hS _ h1) h2 h3
  | nil => exact .nil
  | cons _ _ ih1 ih2 => exact .cons ih1 ih2
  | cnil => exact .cnil
  | ccons h _ _ ih1 ih2 => exact .ccons h ih1 ih2

theorem Own.freeze {S : Nat → Prop} {w : World} {q : Ask} {F : List Nat} (h : Own S w q F) : Std (fun b => S b ∨ b ∈ F) w q.fz := by
  induction h with
  | std h => exact h.fz.grow fun _ h => .inl h
  | agg _ ih => exact .agg ih
  | tup _ ih => exact .tup ih
  | osl0 _ => exact .sl0 (fun h => by cases h) (fun _ => rfl)
  | @osl sz xs b o cap c F h1 h2 h3 h4 _ ih =>
    have ih' := ih.grow (S' := fun z => S z ∨ z ∈ b :: F) fun z hz => hz.imp id (List.mem_cons_of_mem _)
    have := Std.sl (S := fun z => S z ∨ z ∈ b :: F) (w := w) (full := false) (xs := AV.fzLL xs) (sz := sz) (cap := cap) (b := b) (o := o) (fun h => by cases h) (by rw [AV.fzLL_len]; exact h2) (AV.fzLL_mem h3) (.inr (List.mem_cons_self ..)) (by rw [AV.fzLL_flat]; exact ih')
    rw [AV.fzLL_len] at this
    exact this
  | opt h1 h2 _ ih =>
    exact .pt (.inr (List.mem_cons_self ..)) (ih.grow fun z hz => hz.imp id (List.mem_cons_of_mem _))
  | nil => exact .nil
  | cons _ _ ih1 ih2 => exact .cons (ih1.grow fun z hz => hz.imp id (List.mem_append_left _)) (ih2.grow fun z hz => hz.imp id (List.mem_append_right _))
  | cnil => exact .cnil
  | ccons h _ _ ih1 ih2 => exact .ccons h (ih1.grow fun z hz => hz.imp id (List.mem_append_left _)) (ih2.grow fun z hz => hz.imp id (List.mem_append_right _))

theorem VarC.own {I : Interp} {w : World} {b o : Nat} {as : List AV} {F : List Nat} (h : VarC I w b o as F) (hc : as.all AV.closed = true) : Own I.S w (.c b o as) F := by
  induction h with
  | nil => exact .cnil
  | cons h1 h2 _ ih =>
    simp only [List.all_cons, Bool.and_eq_true] at hc
    exact .ccons h1 (h2.own hc.1) (ih hc.2)

section
variable {P : Program} {f : Nat} {Q : Post} {st : St} {S0 : Interp} {B : Nat} {w0 : World} {I : Interp} {a : Act} {w : World}

/-- These blocks stay from now on. -/
theorem Rel.freeze (hr : Rel S0 B w0 I st a w) {T F T' : List Nat} {hp : List (Nat × Row)} (t2 : T.Nodup) (t3 : ∀ b ∈ T, B ≤ b ∧ ¬ I.S b ∧ b < w.heap.size) (hh : HeapOK I w hp T') (hp0 : T.Perm (F ++ T')) :
    Rel S0 B w0 { I with S := fun z => I.S z ∨ z ∈ F } ⟨st.tm, hp, st.nx, st.nt⟩ a w := by
  have he : Ext I w { I with S := fun z => I.S z ∨ z ∈ F } w := ⟨fun _ h => .inl h, fun _ _ => rfl, Nat.le_refl _, fun _ _ => rfl, fun _ _ => rfl, fun _ _ => rfl, .refl w⟩
  have hnd := hp0.nodup_iff.1 t2
  have hF : ∀ z ∈ F, z ∈ T := fun z hz => hp0.mem_iff.2 (List.mem_append_left _ hz)
  have := hr.next he (Below.refl B w) (fun z hz => hz.imp id fun h => (t3 z (hF z h)).1) (fun z hz => hz.elim (hr.ss z) fun h => (t3 z (hF z h)).2.2) (hp := hp)
    ⟨T', hh.mono he fun _ _ => rfl, (List.nodup_append.1 hnd).2.1, fun z hz => by
      have h1 := t3 z (hp0.mem_iff.2 (List.mem_append_right _ hz))
      exact ⟨h1.1, fun hh => hh.elim h1.2.1 fun h => (List.nodup_append.1 hnd).2.2 _ h _ hz rfl, h1.2.2⟩⟩
  have e2 : (⟨st.tm, hp, ({ I with S := fun z => I.S z ∨ z ∈ F } : Interp).nx, st.nt⟩ : St) = ⟨st.tm, hp, st.nx, st.nt⟩ := by
    show (⟨st.tm, hp, I.nx, st.nt⟩ : St) = _
    rw [hr.nx]
  rw [← e2]; exact this

end
end Go.Ax

/- Maps that are filled once, and read. -/
namespace Go.Ax
open Go.RowKit
set_option linter.unusedVariables false
set_option linter.unusedSimpArgs false

def mget : List (Int × Int) → Int → Option Int
  | [], _ => none
  | (k, v) :: r, n => bif decide (n = k) then some v else mget r n

theorem findNow_mp (n : Int) : ∀ (l : List MapEntry) (kvs : List (Int × Int)) (i : Nat), l.map (fun e => (e.key, e.val)) = kvs.map (fun p => (Value.int .i64 p.1, Value.int .i64 p.2)) →
    (mget kvs n = none → Instr.findNow (.int .i64) (.int .i64 n) l i = some none) ∧ (∀ v, mget kvs n = some v → ∃ j, Instr.findNow (.int .i64) (.int .i64 n) l i = some (some (j, .int .i64 v)))
  | [], [], i, _ => ⟨fun _ => rfl, fun v h => by cases h⟩
  | [], _ :: _, i, h => by simp at h
  | _ :: _, [], i, h => by simp at h
  | e :: l, (k, v) :: kvs, i, h => by
    simp only [List.map_cons, List.cons.injEq, Prod.mk.injEq] at h
    obtain ⟨⟨h1, h2⟩, h3⟩ := h
    obtain ⟨ih1, ih2⟩ := findNow_mp n l kvs (i + 1) h3
    by_cases hk : n = k
    · subst hk
      refine ⟨fun h => by simp [mget] at h, fun u h => ?_⟩
      simp only [mget, decide_true, cond_true, Option.some.injEq] at h
      subst h
      exact ⟨i, by simp [Instr.findNow, h1, Instr.sameNow, h2]⟩
    · have e1 : mget ((k, v) :: kvs) n = mget kvs n := by simp [mget, hk]
      rw [e1]
      have e2 : Instr.findNow (.int .i64) (.int .i64 n) (e :: l) i = Instr.findNow (.int .i64) (.int .i64 n) l (i + 1) := by
        have hb : (n == k) = false := by simpa using hk
        simp [Instr.findNow, h1, Instr.sameNow, hb]
      rw [e2]
      exact ⟨ih1, ih2⟩

theorem TyOK.mapE {P : Program} {t k e : Nat} {i : TyI} (h : TyOK P t i) (hd : i.td = .td (.map k e)) : P.underlying t = some (.map k e) := by
  obtain ⟨h, _⟩ := h; rw [hd] at h; exact h.1

theorem TyOK.intE {P : Program} {t : Nat} {i : TyI} (h : TyOK P t i) (hd : i.td = .td (.int .i64)) : P.underlying t = some (.int .i64) := by
  obtain ⟨h, _⟩ := h; rw [hd] at h; exact h.1

theorem Own.blk {S : Nat → Prop} {w : World} {q : Ask} {F : List Nat} (h : Own S w q F) : ∀ b ∈ F, ∃ c, Blk w b c := by
  induction h with
  | std => simp
  | agg _ ih => exact ih
  | tup _ ih => exact ih
  | osl0 => simp
  | osl h1 _ _ _ _ ih => exact fun z hz => (List.mem_cons.1 hz).elim (fun e => e ▸ ⟨_, h1⟩) (ih z)
  | opt h1 _ _ ih => exact fun z hz => (List.mem_cons.1 hz).elim (fun e => e ▸ ⟨_, h1⟩) (ih z)
  | nil => simp
  | cons _ _ ih1 ih2 => exact fun z hz => (List.mem_append.1 hz).elim (ih1 z) (ih2 z)
  | cnil => simp
  | ccons _ _ _ ih1 ih2 => exact fun z hz => (List.mem_append.1 hz).elim (ih1 z) (ih2 z)

theorem VarC.blk {I : Interp} {w : World} {b o : Nat} {as : List AV} {F : List Nat} (h : VarC I w b o as F) : ∀ z ∈ F, ∃ c, Blk w z c := by
  induction h with
  | nil => simp
  | cons _ hl _ ih =>
    refine fun z hz => (List.mem_append.1 hz).elim (fun h => ?_) (ih z)
    rcases hl with ⟨_, rfl⟩ | hl
    · simp at h
    · exact hl.blk z h

/-- No map of one's own is there. -/
def noM : List (Nat × Row) → Bool
  | [] => true
  | (_, .mpr _) :: _ => false
  | (_, .itr _ _) :: _ => false
  | (_, .chn _ _) :: _ => false
  | _ :: r => noM r
theorem HeapOK.blk {I : Interp} {w : World} {hp : List (Nat × Row)} {T : List Nat} (h : HeapOK I w hp T) : noM hp = true → ∀ z ∈ T, ∀ es clock, w.heap[z]? ≠ some (.map es clock) := by
  have key : ∀ {z}, (∃ c, Blk w z c) → ∀ es clock, w.heap[z]? ≠ some (.map es clock) := fun ⟨c, t, hc⟩ es clock h => by rw [hc] at h; cases h
  induction h with
  | nil => simp
  | @cons id r hp F T h _ ih =>
    intro hn
    refine fun z hz => (List.mem_append.1 hz).elim (fun hz => ?_) (ih (by cases r <;> first | exact hn | cases hn) z)
    cases h with
    | mpr => cases hn
    | chn => cases hn
    | itr => cases hn
    | tab => simp at hz
    | var _ _ hb _ hv => exact key ((List.mem_cons.1 hz).elim (fun e => e ▸ ⟨_, hb⟩) (hv.blk z))
    | row0 => simp at hz
    | row _ _ _ _ hb _ _ ho => exact key ((List.mem_cons.1 hz).elim (fun e => e ▸ ⟨_, hb⟩) (ho.blk z))
    | foc _ _ _ _ hb _ _ _ _ _ _ o1 _ _ o2 => exact key ((List.mem_cons.1 hz).elim (fun e => e ▸ ⟨_, hb⟩) fun hz => (List.mem_append.1 hz).elim (o1.blk z) (o2.blk z))
    | lp _ _ h1 h2 _ _ =>
      intro es clock he
      simp only [List.mem_cons, List.not_mem_nil, or_false] at hz
      rcases hz with rfl | rfl
      · rw [h1] at he; cases he
      · rw [h2] at he; cases he

section
variable {P : Program} {f : Nat} {Q : Post} {k : List Item} {st : St} {A : Array Oper} {i : Nat} {rest : List Nat}

theorem rd_lookup {o : Oper} {t kt et : Nat} {x ix : Operand} {it ki : TyI} {kvs : List (Int × Int)} {n v : Int} (h : o.op = .lookup t x ix false) (ht : TyOK P t it) (hd : it.td = .td (.map kt et)) (hk : TyOK P kt ki) (hkd : ki.td = .td (.int .i64))
    (hez : (P.info? et).bind (·.zero) = some (.int .i64 0)) (hx : st.ev x = .mp kvs) (hi : st.ev ix = .lit (.int .i64 n)) (hv : (mget kvs n).getD 0 = v) : Reads P st o (.lit (.int .i64 v)) := by
  subst hv
  intro S0 B w0 I a w hr
  have h1 := hr.ev x
  have h2 := hr.ev ix
  rw [hx] at h1
  rw [hi] at h2
  refine ⟨_, fun w' hw0 => ?_, .std (.lit _)⟩
  have hw : Same _ w' := hw0.resolve_left (by rw [h]; simp [memFree])
  generalize ex : a.eval x = y at h1
  cases h1 with
  | std h1 =>
    cases h1 with
    | @mp r es clock _ hS hb hes =>
      have hb' : w'.heap[r]? = some (.map es clock) := (hw r (hr.ss r hS)).trans hb
      have hkd' := hk.intE hkd
      have hik : MapKept.IsKey (.int .i64) (.int .i64 n) := by simp [MapKept.IsKey]
      obtain ⟨f1, f2⟩ := findNow_mp n es.toList kvs 0 hes
      have hz : (zeroValue et).run P w' = .ok (.int .i64 0) w' := by
        cases hin : P.info? et with
        | none => simp [hin] at hez
        | some info =>
          simp only [hin, Option.bind_some] at hez
          simp only [zeroValue, typeInfo, Sem.run_bind, run_program, Result.andThen_ok, hin, Sem.run_pure, hez]
      cases hm : mget kvs n with
      | none =>
        simp only [execOp, h, ex, h2.lit_inv, Instr.lookup, Sem.run_bind, run_under (ht.mapE hd), Result.andThen_ok, MapKept.run_getObj_map hb', Sem.run_pure, MapKept.run_checkKey hkd' hik, MapKept.run_findKey hkd' (f1 hm), hz, Option.getD_none, if_false, Bool.false_eq_true]
      | some v =>
        obtain ⟨j, hj⟩ := f2 v hm
        simp only [execOp, h, ex, h2.lit_inv, Instr.lookup, Sem.run_bind, run_under (ht.mapE hd), Result.andThen_ok, MapKept.run_getObj_map hb', Sem.run_pure, MapKept.run_checkKey hkd' hik, MapKept.run_findKey hkd' hj, Option.getD_some, if_false, Bool.false_eq_true]

/-- A map of one's own that is being filled, in slot d. -/
def Filling (I : Interp) (B : Nat) (a : Act) (w : World) (d : Nat) (kvs : List (Int × Int)) : Prop :=
  ∃ r es clock, a.tmps.getD d undef = .map (some r) ∧ w.heap[r]? = some (.map es clock) ∧ es.toList.map (fun e => (e.key, e.val)) = kvs.map (fun p => (Value.int .i64 p.1, Value.int .i64 p.2)) ∧ B ≤ r ∧ ¬ I.S r

def RunM (P : Program) (f : Nat) (Q : Post) (todo : List Item) (st : St) (d : Nat) (kvs : List (Int × Int)) : Prop :=
  ∀ S0 B w0 I a w, S0.nx = Q.lo → Rel S0 B w0 I st a w → Filling I B a w d kvs → a.defers = Q.ds → ∀ (b : Frame), b.fn = f → b.kind = .normal → b.roundOf = Q.ro → ∀ cs, ∃ e w',
    Q.R S0 B w0 e w' ∧ Goes P f Q.ro (b.atR a todo) cs w e w'

theorem run_makeMap {d t t0 : Nat} {pos : String} {af : Array Edge} (ho : A[i]? = some ⟨some d, .makeMap t none, t0, pos, af, none⟩) (hd : Nat.blt d st.nt = true)
    (h : RunM P f Q (.inRegion A rest :: k) (st.set d .any) d []) : Run P f Q (.inRegion A (i :: rest) :: k) st := by
  intro S0 B w0 I a w hlo hr hds b hb hk hro cs
  let w1 : World := { w with heap := w.heap.push (.map #[] 0) }
  have hrun : (execOp a.eval ⟨some d, .makeMap t none, t0, pos, af, none⟩).run P w = .ok (.value (.map (some w.heap.size))) w1 := by
    simp [execOp, Instr.makeMap, run_newObj, w1]
  have hold : ∀ z, z < w.heap.size → w1.heap[z]? = w.heap[z]? := fun z hz => heap_push w _ z hz
  have he : Ext I w I w1 := ⟨fun _ h => h, fun z hz => hold z (hr.ss z hz), Nat.le_refl _, fun _ _ => rfl, fun _ _ => rfl, fun _ _ => rfl, .push _ _⟩
  obtain ⟨T, t1, t2, t3⟩ := hr.hp
  have hr1 := hr.next he (Below.push B w _ hr.bs) (fun _ h => .inl h) (fun z hz => by have := hr.ss z hz; simp [w1]; omega) (hp := st.hp)
    ⟨T, t1.mono he fun z hz => hold z (t3 z hz).2.2, t2, fun z hz => ⟨(t3 z hz).1, (t3 z hz).2.1, by have := (t3 z hz).2.2; simp [w1]; omega⟩⟩
  rw [hr.nx] at hr1
  have hr2 : Rel S0 B w0 I (st.set d .any) (a.put (some d) (.map (some w.heap.size))) w1 := hr1.put hd (.std (.any _))
  have hd' : d < a.tmps.size := by rw [hr.nt]; simpa using hd
  obtain ⟨e, w2, g1, g2⟩ := h S0 B w0 I _ w1 hlo hr2 ⟨w.heap.size, #[], 0, by simp [Act.put, hd'], by simp [w1], rfl, hr.bs, fun hs => by have := hr.ss _ hs; omega⟩ hds b hb hk hro cs
  exact ⟨e, w2, g1, g2.of_steps (.one (step_op_value ho rfl hrun))⟩

theorem runM_insert {d t kt et t0 : Nat} {pos : String} {af : Array Edge} {it ki : TyI} {kvs : List (Int × Int)} {n v : Int} (ho : A[i]? = some ⟨none, .insert t (.tmp d) (.const (.int .i64 n)) (.const (.int .i64 v)), t0, pos, af, none⟩)
    (ht : TyOK P t it) (hd : it.td = .td (.map kt et)) (hk : TyOK P kt ki) (hkd : ki.td = .td (.int .i64)) (hn : mget kvs n = none)
    (h : RunM P f Q (.inRegion A rest :: k) st d (kvs ++ [(n, v)])) (hnm : noM st.hp = true := by rfl) : RunM P f Q (.inRegion A (i :: rest) :: k) st d kvs := by
  intro S0 B w0 I a w hlo hr ⟨r, es, clock, m1, m2, m3, m4, m5⟩ hds b hb hkk hro cs
  let o : Obj := .map (es.push { key := .int .i64 n, val := .int .i64 v, born := clock }) (clock + 1)
  let w1 : World := { w with heap := w.heap.setIfInBounds r o }
  have hkd' := hk.intE hkd
  have hik : MapKept.IsKey (.int .i64) (.int .i64 n) := by simp [MapKept.IsKey]
  have hrun : (execOp a.eval ⟨none, .insert t (.tmp d) (.const (.int .i64 n)) (.const (.int .i64 v)), t0, pos, af, none⟩).run P w = .ok .skip w1 := by
    have e1 : a.eval (.tmp d) = .map (some r) := m1
    have e2 : ∀ x, a.eval (.const x) = x := fun _ => rfl
    simp only [execOp, e1, e2, Instr.mapUpdate, Sem.run_bind, run_under (ht.mapE hd), Result.andThen_ok, MapKept.run_getObj_map m2, MapKept.run_checkKey hkd' hik, MapKept.run_findKey hkd' ((findNow_mp n es.toList kvs 0 m3).1 hn), MapKept.run_setObj_map _ m2, Sem.run_pure]
    rfl
  obtain ⟨k1, k2⟩ := MapKept.heap_set (o' := o) m2
  obtain ⟨T, t1, t2, t3⟩ := hr.hp
  have hT : ∀ z ∈ T, w1.heap[z]? = w.heap[z]? := fun z hz => k2 z fun e => by
    exact t1.blk hnm z hz _ _ (e ▸ m2)
  have he : Ext I w I w1 := ⟨fun _ h => h, fun z hz => k2 z fun e => m5 (e ▸ hz), Nat.le_refl _, fun _ _ => rfl, fun _ _ => rfl, fun _ _ => rfl, fun z c hz => by
    obtain ⟨t, hc⟩ := hz
    exact ⟨c, ⟨t, (k2 z fun e => by rw [e, m2] at hc; cases hc).trans hc⟩, rfl⟩⟩
  have hsz : w1.heap.size = w.heap.size := by simp [w1]
  have hr1 := hr.next he ⟨rfl, rfl, rfl, by rw [hsz]; exact Nat.le_refl _, fun z hz => k2 z (by omega)⟩ (fun _ h => .inl h) (fun z hz => by rw [hsz]; exact hr.ss z hz) (hp := st.hp)
    ⟨T, t1.mono he hT, t2, fun z hz => by rw [hsz]; exact t3 z hz⟩
  rw [hr.nx] at hr1
  obtain ⟨e, w2, g1, g2⟩ := h S0 B w0 I a w1 hlo hr1 ⟨r, _, _, m1, k1, by simp [m3], m4, m5⟩ hds b hb hkk hro cs
  exact ⟨e, w2, g1, g2.of_steps (.one (step_op_do ho rfl hrun))⟩

theorem runM_done {todo : List Item} {d : Nat} {kvs : List (Int × Int)} (h : Run P f Q todo ⟨(d, .mp kvs) :: st.tm, st.hp, st.nx, st.nt⟩) (hnm : noM st.hp = true := by rfl) : RunM P f Q todo st d kvs := by
  intro S0 B w0 I a w hlo hr ⟨r, es, clock, m1, m2, m3, m4, m5⟩ hds b hb hkk hro cs
  let I' : Interp := { I with S := fun z => I.S z ∨ z = r }
  have hlt : r < w.heap.size := (Array.getElem?_eq_some_iff.1 m2).1
  have he : Ext I w I' w := ⟨fun _ h => .inl h, fun _ _ => rfl, Nat.le_refl _, fun _ _ => rfl, fun _ _ => rfl, fun _ _ => rfl, .refl w⟩
  obtain ⟨T, t1, t2, t3⟩ := hr.hp
  have hr1 := hr.next he (Below.refl B w) (fun z hz => by
      rcases hz with hz | hz
      · exact .inl hz
      · subst hz; exact .inr m4) (fun z hz => by
      rcases hz with hz | hz
      · exact hr.ss z hz
      · subst hz; exact hlt) (hp := st.hp)
    ⟨T, t1.mono he fun _ _ => rfl, t2, fun z hz => ⟨(t3 z hz).1, fun (hs : I.S z ∨ z = r) => hs.elim (t3 z hz).2.1 (fun e => by
      exact t1.blk hnm z hz _ _ (e ▸ m2)), (t3 z hz).2.2⟩⟩
  have e2 : (⟨st.tm, st.hp, I'.nx, st.nt⟩ : St) = st := by
    show (⟨st.tm, st.hp, I.nx, st.nt⟩ : St) = _
    rw [hr.nx]
  rw [e2] at hr1
  refine h S0 B w0 I' a w hlo ⟨fun j => ?_, hr1.nt, hr1.nx, hr1.hp, hr1.ss, hr1.ext, hr1.sb, hr1.bl, hr1.bs⟩ hds b hb hkk hro cs
  show Rep I' w (.v (get j ((d, _) :: st.tm)) _)
  rw [get_cons]
  by_cases ej : d = j
  · subst ej
    rw [if_pos rfl, m1]
    exact .std (.mp (.inr rfl) m2 m3)
  · rw [if_neg ej]; exact hr1.tm j
end
end Go.Ax

/- Writes into rows of one's own; rows within rows, taken out and put back; what is nil; results that are pointers; views. -/
namespace Go.Ax
open Go.RowKit
set_option linter.unusedVariables false
set_option linter.unusedSimpArgs false

theorem flatten_parts {xs : List (List AV)} {sz n : Nat} {cs : List AV} (hx : ∀ x ∈ xs, x.length = sz) (h : xs[n]? = some cs) : xs.flatten = (xs.take n).flatten ++ (cs ++ (xs.drop (n + 1)).flatten) ∧ (xs.take n).flatten.length = n * sz ∧ cs.length = sz := by
  obtain ⟨hlt, rfl⟩ := List.getElem?_eq_some_iff.1 h
  refine ⟨?_, ?_, hx _ (List.getElem_mem _)⟩
  · conv => lhs; rw [← List.take_append_drop n xs, List.drop_eq_getElem_cons hlt]
    rw [List.flatten_append, List.flatten_cons]
  · rw [flat_len fun x hx' => hx x (List.mem_of_mem_take hx'), List.length_take]
    congr 1; omega

theorem flatten_set {xs : List (List AV)} {sz n : Nat} {cs : List AV} (h : xs[n]? = some cs) (cs' : List AV) : (xs.set n cs').flatten = (xs.take n).flatten ++ (cs' ++ (xs.drop (n + 1)).flatten) := by
  obtain ⟨hlt, rfl⟩ := List.getElem?_eq_some_iff.1 h
  rw [List.set_eq_take_append_cons_drop, if_pos hlt, List.flatten_append, List.flatten_cons]

theorem set_mem_len {xs : List (List AV)} {sz n : Nat} {cs' : List AV} (hx : ∀ x ∈ xs, x.length = sz) (hc : cs'.length = sz) : ∀ x ∈ xs.set n cs', x.length = sz := by
  intro x h
  rcases List.mem_or_eq_of_mem_set h with h | rfl
  · exact hx x h
  · exact hc

theorem splice_len (cs : List AV) (n : Nat) (vs : List AV) (h : n + vs.length ≤ cs.length) : (splice cs n vs).length = cs.length := by
  rw [splice_eq cs n vs h]; simp only [List.length_append, List.length_take, List.length_drop]; omega

theorem Wrote.cellsAt {w w' : World} {b o o2 : Nat} {vs us : List Value} (h : Wrote w w' b o vs) (hc : CellsAt w b o2 us) (hd : o2 + us.length ≤ o ∨ o + vs.length ≤ o2) : CellsAt w' b o2 us := by
  intro j v hj
  have hlt := (List.getElem?_eq_some_iff.1 hj).1
  rw [h.cell _ (by omega)]; exact hc j v hj

section
variable {P : Program} {st : St}

/-- Own cells of three parts, the middle one written anew. -/
theorem Own.mid {I : Interp} {w w' : World} {b o n : Nat} {As Ms Cs Ns : List AV} {F Fv : List Nat} {vs : List Value} (h : Own I.S w (.c b o (As ++ (Ms ++ Cs))) F) (hl : Ns.length = Ms.length) (hn : As.length = n) (hv : Own I.S w (.l Ns vs) Fv) (hw : Wrote w w' b (o + n) vs)
    (he : Ext I w I w') (hF : ∀ z ∈ F, w'.heap[z]? = w.heap[z]?) (hFv : ∀ z ∈ Fv, w'.heap[z]? = w.heap[z]?) : ∃ F1 F2 F3, F = F1 ++ (F2 ++ F3) ∧ Own I.S w' (.c b o (As ++ (Ns ++ Cs))) (F1 ++ (Fv ++ F3)) := by
  obtain ⟨us, h1, h2⟩ := h.cells
  obtain ⟨u1, u2, F1, G, rfl, rfl, k1, k2⟩ := h1.l_split
  obtain ⟨u3, u4, F2, F3, rfl, rfl, k3, k4⟩ := k2.l_split
  have l1 := k1.l_len
  have l3 := k3.l_len
  have lv := hv.l_len
  refine ⟨F1, F2, F3, rfl, Own.ofCells ((k1.l_mono he fun z hz => hF z (by simp [hz])).l_app ((hv.l_mono he hFv).l_app (k4.l_mono he fun z hz => hF z (by simp [hz])))) ?_⟩
  have c1 : CellsAt w b o u1 := fun j v hj => h2 j v (by rw [List.getElem?_append_left (List.getElem?_eq_some_iff.1 hj).1]; exact hj)
  have c4 : CellsAt w b (o + (u1.length + u3.length)) u4 := fun j v hj => by
    have := h2 (u1.length + u3.length + j) v (by rw [← List.append_assoc, List.getElem?_append_right (by simp <;> omega)]; simpa using hj)
    rw [show o + (u1.length + u3.length) + j = o + (u1.length + u3.length + j) from by omega]; exact this
  refine CellsAt.app (hw.cellsAt c1 (by omega)) (CellsAt.app ?_ ?_)
  · rw [l1, hn]; exact hw.new
  · have := hw.cellsAt c4 (.inr (by omega))
    rw [show o + u1.length + vs.length = o + (u1.length + u3.length) from by omega]; exact this

/-- A write into an element of a row of one's own. -/
theorem ok_store_hq {o : Oper} {t id n off sz : Nat} {x y : Operand} {i : TyI} {v : AV} {xs : List (List AV)} {cs cs' vs : List AV} {hp1 : List (Nat × Row)} (h : o.op = .store t x y) (ht : TyOK P t i) (hx : st.ev x = .hq id n off)
    (hy : st.ev y = v) (hk : v.known = true) (hl : v.cells.all AV.leaf = true) (hsz : Nat.beq v.cells.length i.size = true) (hf : foldL st.hp v.cells = (vs, hp1)) (hc : vs.all AV.closed = true)
    (hrow : row id hp1 = some (.row sz xs)) (hg : xs[n]? = some cs) (hn : Nat.ble (off + i.size) cs.length = true) (hcs : splice cs off vs = cs') : OpDo P st o ⟨st.tm, (id, .row sz (xs.set n cs')) :: rem id hp1, st.nx, st.nt⟩ := by
  intro S0 B w0 I a w hr
  have h1 := hr.ev x
  have h2 := hr.ev y
  rw [hx] at h1
  rw [hy] at h2
  obtain ⟨b, of, hi, hat, e⟩ := h1.hq_inv
  have hcells := h2.cells hk (fun u hu => by subst hu; simp [AV.cells, AV.leaf] at hl; cases u <;> simp_all [Value.oneCell', Value.cells])
  obtain ⟨T, k1, k2, k3⟩ := hr.hp
  obtain ⟨Fv, T1, f1, f2, f3⟩ := foldL_ok hcells k1
  rw [hf] at f1 f2
  obtain ⟨F, T', g1, g2, g3⟩ := f2.take hrow
  have hn' := Nat.le_of_ble_eq_true hn
  have hlx : (a.eval y).cells.toList.length = v.cells.length := hcells.l_len
  have hsz' : v.cells.length = i.size := Nat.eq_of_beq_eq_true hsz
  have hlv : vs.length = i.size := by rw [f1.length, hlx, hsz']
  cases g1 with
  | row0 _ ha' => rw [hat] at ha'; cases ha'
  | row _ ha' hln hz hb hs hxs ho =>
    rw [hat] at ha'
    cases ha'
    rename_i c G _
    obtain ⟨e1, e2, e3⟩ := flatten_parts hxs hg
    have hlt : n < xs.length := (List.getElem?_eq_some_iff.1 hg).1
    have hmul : (n + 1) * sz ≤ xs.length * sz := Nat.mul_le_mul_right _ hlt
    rw [Nat.add_mul, Nat.one_mul] at hmul
    have hall : T.Perm (Fv ++ ((b :: G) ++ T')) := f3.trans (List.Perm.append_left Fv g3)
    obtain ⟨w', r1, r2⟩ := run_stores (P := P) (b := b) (o := of + n * sz + off) (a.eval y).cells.toList 0 w c hb (by rw [hlx, hsz']; omega) (hcells.ones hl)
    rw [Nat.add_zero] at r2
    have hbB := k3 b (hall.mem_iff.2 (by simp))
    have he : Ext I w I w' := r2.ext hbB.2.1
    have hnd : (Fv ++ ((b :: G) ++ T')).Nodup := hall.nodup_iff.1 k2
    have hne : ∀ z ∈ Fv ++ (G ++ T'), w'.heap[z]? = w.heap[z]? := by
      intro z hz
      refine r2.other z fun ez => ?_
      subst ez
      have hc : (Fv ++ ((z :: G) ++ T')).count z ≤ 1 := List.nodup_iff_count.1 hnd z
      have hm : 0 < (Fv ++ (G ++ T')).count z := List.count_pos_iff.2 hz
      simp only [List.count_append, List.count_cons, beq_self_eq_true, if_true] at hc hm
      omega
    obtain ⟨c', hb', hs'⟩ := r2.blk c hb
    have hsplit : cs = cs.take off ++ ((cs.drop off).take i.size ++ cs.drop (off + i.size)) := by
      rw [← List.drop_drop, List.take_append_drop, List.take_append_drop]
    have hmid : ((cs.drop off).take i.size).length = i.size := by rw [List.length_take, List.length_drop]; omega
    have hflat : xs.flatten = ((xs.take n).flatten ++ cs.take off) ++ ((cs.drop off).take i.size ++ (cs.drop (off + i.size) ++ (xs.drop (n + 1)).flatten)) := by
      rw [e1]
      conv => lhs; rw [hsplit]
      simp only [List.append_assoc]
    rw [hflat] at ho
    have hlen1 : ((xs.take n).flatten ++ cs.take off).length = n * sz + off := by rw [List.length_append, e2, List.length_take]; omega
    rw [show of + n * sz + off = of + (n * sz + off) from by omega] at r2
    obtain ⟨F1, F2, F3, rfl, hown⟩ := ho.mid (n := n * sz + off) (by rw [hlv, hmid]) hlen1 (f1.own hc) r2 he (fun z hz => hne z (by simp [hz])) (fun z hz => hne z (by simp [hz]))
    have hlen' : cs'.length = sz := by rw [← hcs, splice_len cs off vs (by omega), e3]
    have hflat' : (xs.set n cs').flatten = ((xs.take n).flatten ++ cs.take off) ++ (vs ++ (cs.drop (off + i.size) ++ (xs.drop (n + 1)).flatten)) := by
      rw [flatten_set (sz := sz) hg, ← hcs, splice_eq cs off vs (by omega), hlv]; simp only [List.append_assoc]
    rw [← hflat'] at hown
    refine ⟨w', I, ?_, ?_⟩
    · have hsz2 : (a.eval y).cells.size = i.size := by rw [← Array.length_toList, hlx, hsz']
      simp only [execOp, h, e, hz, Instr.storeAt, Instr.sureAddr, storeVar, Sem.run_bind, Sem.run_pure, Result.andThen_ok, run_size ht, hsz2, ne_eq, not_true, if_false, r1]
    · have hrowok : RowOK I w' id (.row sz (xs.set n cs')) (b :: (F1 ++ (Fv ++ F3))) := .row hi hat (by rw [List.length_set]; exact hln) hz hb' (by rw [List.length_set, hs']; exact hs) (set_mem_len hxs hlen') hown
      have hnew : ((b :: (F1 ++ (Fv ++ F3))) ++ T').Nodup := by
        refine List.nodup_iff_count.2 fun z => ?_
        have := List.nodup_iff_count.1 hnd z
        simp only [List.count_append, List.count_cons] at this ⊢
        omega
      have := hr.next he (r2.below hbB.1) (fun b h => .inl h) (fun z hz => by rw [r2.size]; exact hr.ss z hz) (hp := (id, .row sz (xs.set n cs')) :: rem id hp1)
        ⟨_, .cons hrowok (g2.mono he fun z hz => hne z (by simp [hz])), hnew, fun z hz => by
          rw [r2.size]
          refine k3 z (hall.mem_iff.2 ?_)
          simp only [List.mem_append, List.mem_cons] at hz ⊢
          rcases hz with (h | h | h | h) | h <;> simp [h]⟩
      rw [hr.nx] at this; exact this
end

theorem Own.c_split {S : Nat → Prop} {w : World} {b : Nat} {a : AV} {Cs : List AV} : ∀ {As : List AV} {o : Nat} {F : List Nat}, Own S w (.c b o (As ++ a :: Cs)) F →
    ∃ F1 Fa F2 x, F = F1 ++ (Fa ++ F2) ∧ Own S w (.c b o As) F1 ∧ w.cell? ⟨b, o + As.length, none⟩ = some x ∧ Own S w (.v a x) Fa ∧ Own S w (.c b (o + As.length + 1) Cs) F2
  | [], o, F, h => by
    cases h with | ccons h1 h2 h3 => exact ⟨[], _, _, _, rfl, .cnil, h1, h2, h3⟩
  | c :: As, o, F, h => by
    cases h with
    | ccons h1 h2 h3 =>
      obtain ⟨F1, Fa, F2, x, rfl, g1, g2, g3, g4⟩ := Own.c_split h3
      refine ⟨_ ++ F1, Fa, F2, x, by rw [List.append_assoc], .ccons h1 h2 g1, ?_, g3, ?_⟩
      · rw [show o + (c :: As).length = o + 1 + As.length from by simp; omega]; exact g2
      · rw [show o + (c :: As).length = o + 1 + As.length from by simp; omega]; exact g4

theorem Own.c_app {S : Nat → Prop} {w : World} {b : Nat} {a : AV} {x : Value} {Cs : List AV} {Fa F2 : List Nat} : ∀ {As : List AV} {o : Nat} {F1 : List Nat}, Own S w (.c b o As) F1 → w.cell? ⟨b, o + As.length, none⟩ = some x → Own S w (.v a x) Fa →
    Own S w (.c b (o + As.length + 1) Cs) F2 → Own S w (.c b o (As ++ a :: Cs)) (F1 ++ (Fa ++ F2))
  | [], o, F1, h, h1, h2, h3 => by cases h; exact (Own.ccons h1 h2 h3 : Own S w _ (Fa ++ F2))
  | c :: As, o, F1, h, h1, h2, h3 => by
    cases h with
    | ccons g1 g2 g3 =>
      rw [show o + (c :: As).length = o + 1 + As.length from by simp; omega] at h1 h3
      rw [List.append_assoc]
      exact .ccons g1 g2 (Own.c_app g3 h1 h2 h3)

/-- A row that is led to is one's own value. -/
theorem hw_own {I : Interp} {w : World} {j sz : Nat} {ys : List (List AV)} {F : List Nat} {x : Value} (h : RowOK I w j (.row sz ys) F) (hr : Rep I w (.v (.hw j) x)) : Own I.S w (.v (.osl sz ys) x) F := by
  cases hr with
  | std hr => cases hr
  | hw0 hi ha h0 hx =>
    cases h with
    | row0 _ _ _ hz => exact .osl0 hx
    | row _ ha' => rw [ha] at ha'; cases ha'
  | hw hi ha hn hb hs =>
    cases h with
    | row0 _ ha' => rw [ha] at ha'; cases ha'
    | row _ ha' hl hz hb' hs' hx ho =>
      rw [ha] at ha'
      cases ha'
      rw [hl] at hn ⊢
      rw [hz] at hs
      exact .osl hb hn hx hs ho

/-- One's own value, as an entry. -/
theorem own_hw {I : Interp} {w : World} {sz : Nat} {ys : List (List AV)} {F : List Nat} {x : Value} (h : Own I.S w (.v (.osl sz ys) x) F) : ∃ at_ : Option (Nat × Nat), Rep (I.add at_ ys.length sz) w (.v (.hw I.nx) x) ∧ RowOK (I.add at_ ys.length sz) w I.nx (.row sz ys) F := by
  cases h with
  | std h => cases h
  | osl0 ha0 =>
    refine ⟨none, ?_, ?_⟩
    · exact .hw0 (by show I.nx < I.nx + 1; omega) (by simp [Interp.add]) (by simp [Interp.add]) ha0
    · exact .row0 (by show I.nx < I.nx + 1; omega) (by simp [Interp.add]) (by simp [Interp.add]) (by simp [Interp.add])
  | osl hb1 hc1 hx1 hs1 ho1 =>
    rename_i b1 o1 cap1 c1 F3
    have hln : (I.add (some (b1, o1)) ys.length sz).ln I.nx = ys.length := by simp [Interp.add]
    refine ⟨some (b1, o1), ?_, ?_⟩
    · have := Rep.hw (I := I.add (some (b1, o1)) ys.length sz) (w := w) (id := I.nx) (cap := cap1) (c := c1) (b := b1) (o := o1) (by show I.nx < I.nx + 1; omega) (by simp [Interp.add]) (by rw [hln]; exact hc1) hb1
        (by simp only [Interp.add, if_true]; exact hs1)
      rw [hln] at this; exact this
    · refine .row (by show I.nx < I.nx + 1; omega) (by simp [Interp.add]) hln (by simp [Interp.add]) hb1 ?_ hx1 ho1
      have : ys.length * sz ≤ cap1 * sz := Nat.mul_le_mul_right _ hc1
      omega

section
variable {P : Program} {st : St}

theorem foc_parts {xs : List (List AV)} {sz n off : Nat} {cs : List AV} (hx : ∀ x ∈ xs, x.length = sz) (h : xs[n]? = some cs) {a : AV} {r : List AV} (hd : cs.drop off = a :: r) :
    xs.flatten = ((xs.take n).flatten ++ cs.take off) ++ a :: (r ++ (xs.drop (n + 1)).flatten) ∧ ((xs.take n).flatten ++ cs.take off).length = n * sz + off ∧ off < sz := by
  obtain ⟨e1, e2, e3⟩ := flatten_parts hx h
  have hlt : off < cs.length := by
    rcases Nat.lt_or_ge off cs.length with h | h
    · exact h
    · rw [List.drop_eq_nil_of_le h] at hd; cases hd
  refine ⟨?_, by rw [List.length_append, e2, List.length_take]; omega, by omega⟩
  rw [e1]
  conv => lhs; rw [← List.take_append_drop off cs, hd]
  simp only [List.append_assoc, List.cons_append]

/-- A row within a row is looked at: it becomes an entry of its own. -/
theorem ok_focus {o : Oper} {t id n off sz sz2 : Nat} {x : Operand} {i : TyI} {xs ys : List (List AV)} {cs r : List AV} (h : o.op = .load t x) (ht : TyOK P t i) (ha : i.isAgg = false) (hx : st.ev x = .hq id n off)
    (hrow : row id st.hp = some (.row sz xs)) (hg : xs[n]? = some cs) (hd : cs.drop off = .osl sz2 ys :: r) : OpOK P st o (.hw st.nx) ⟨st.tm, (st.nx, .row sz2 ys) :: (id, .foc sz xs cs n off st.nx) :: rem id st.hp, st.nx + 1, st.nt⟩ := by
  refine ⟨rfl, fun S0 B w0 I a w hr => ?_⟩
  have h1 := hr.ev x
  rw [hx] at h1
  obtain ⟨b, of, hi, hat, e⟩ := h1.hq_inv
  obtain ⟨T, k1, k2, k3⟩ := hr.hp
  obtain ⟨F, T', g1, g2, g3⟩ := k1.take hrow
  have hnx := hr.nx
  cases g1 with
  | row0 _ ha' => rw [hat] at ha'; cases ha'
  | row _ ha' hln hz hb hs hxs ho =>
    rw [hat] at ha'
    cases ha'
    rename_i c G _
    obtain ⟨e1, e2, e3⟩ := foc_parts hxs hg hd
    rw [e1] at ho
    obtain ⟨F1, Fa, F2, y, rfl, o1, hc, oa, o2⟩ := ho.c_split
    rw [e2] at hc o2
    obtain ⟨at_, hrep, hrowok⟩ := own_hw oa
    rw [hnx] at hrep hrowok
    have he : Ext I w (I.add at_ ys.length sz2) w := .add _ _ _ (fun _ _ => rfl) (.refl w)
    have hfoc : RowOK (I.add at_ ys.length sz2) w id (.foc sz xs cs n off st.nx) (b :: (F1 ++ F2)) :=
      .foc (by show id < I.nx + 1; omega) ((he.at_ id hi).trans hat) ((he.ln id hi).trans hln) ((he.sz id hi).trans hz) hb hs hxs hg e3 e1 e2
        (o1.mono he.S he.hold (fun _ _ => rfl) (fun _ _ _ _ => rfl)) hc hrep (o2.mono he.S he.hold (fun _ _ => rfl) (fun _ _ _ _ => rfl))
    refine ⟨y, w, I.add at_ ys.length sz2, ?_, ?_, hrep, fun _ => Same.refl w⟩
    · rw [← Nat.add_assoc] at hc
      simp only [execOp, h, e, hz, Instr.loadAt, Instr.sureAddr, loadVar, Sem.run_bind, Sem.run_pure, Result.andThen_ok, run_isAgg ht, ha, if_false, Bool.false_eq_true, run_load, hc]
    · have hperm : T.Perm (Fa ++ ((b :: (F1 ++ F2)) ++ T')) := by
        refine g3.trans (List.perm_iff_count.2 fun z => ?_)
        simp only [List.count_append, List.count_cons]; omega
      have := hr.next he (Below.refl B w) (fun b h => .inl h) hr.ss (hp := (st.nx, .row sz2 ys) :: (id, .foc sz xs cs n off st.nx) :: rem id st.hp)
        ⟨_, .cons hrowok (.cons hfoc (g2.mono he fun _ _ => rfl)), hperm.nodup_iff.1 k2, fun z hz => k3 z (hperm.mem_iff.2 hz)⟩
      have e4 : (I.add at_ ys.length sz2).nx = st.nx + 1 := by show I.nx + 1 = _; rw [hnx]
      rw [e4] at this; exact this

theorem cells_of_cons {cs : List AV} {off : Nat} {v : AV} (h : off < cs.length) : (cs.set off v).drop off = v :: cs.drop (off + 1) ∧ (cs.set off v).take off = cs.take off := by
  constructor
  · rw [List.drop_eq_getElem_cons (by simpa using h), List.getElem_set_self, List.drop_set_of_lt (by omega)]
  · simp [List.take_set_of_le]

/-- A row within a row is put back. -/
def unf1 (id : Nat) (hp : List (Nat × Row)) : Option (List (Nat × Row)) :=
  match row id hp with
  | some (.foc sz xs cs n off j) => match row j (rem id hp) with
    | some (.row sz2 ys) => some ((id, .row sz (xs.set n (cs.set off (.osl sz2 ys)))) :: rem j (rem id hp))
    | _ => none
  | _ => none

theorem Rel.unf {S0 : Interp} {B : Nat} {w0 : World} {I : Interp} {a : Act} {w : World} (hr : Rel S0 B w0 I st a w) {id : Nat} {hp' : List (Nat × Row)} (h : unf1 id st.hp = some hp') : Rel S0 B w0 I ⟨st.tm, hp', st.nx, st.nt⟩ a w := by
  unfold unf1 at h
  split at h
  · rename_i sz xs cs n off j hrow
    split at h
    · rename_i sz2 ys hrow2
      simp only [Option.some.injEq] at h
      subst h
      obtain ⟨T, k1, k2, k3⟩ := hr.hp
      obtain ⟨F, T', g1, g2, g3⟩ := k1.take hrow
      obtain ⟨Fj, T2, j1, j2, j3⟩ := g2.take hrow2
      cases g1 with
      | foc hi hat hln hz hb hs hxs hg hof hf hA o1 hc hrep o2 =>
        rename_i b of c y a0 As Cs F1 F2
        have oa := hw_own j1 hrep
        obtain ⟨e1, e2, e3⟩ := flatten_parts hxs hg
        have hoff : off < cs.length := by omega
        obtain ⟨c1, c2⟩ := cells_of_cons (v := .osl sz2 ys) hoff
        have hd : cs.drop off = cs[off] :: cs.drop (off + 1) := List.drop_eq_getElem_cons hoff
        obtain ⟨p1, p2, _⟩ := foc_parts hxs hg hd
        have hAs : As = (xs.take n).flatten ++ cs.take off ∧ a0 :: Cs = cs[off] :: (cs.drop (off + 1) ++ (xs.drop (n + 1)).flatten) := by
          rw [hf] at p1
          exact List.append_inj p1 (by rw [hA, p2])
        obtain ⟨rfl, hC⟩ := hAs
        simp only [List.cons.injEq] at hC
        obtain ⟨_, rfl⟩ := hC
        have hlt : n < xs.length := (List.getElem?_eq_some_iff.1 hg).1
        have hflat : (xs.set n (cs.set off (.osl sz2 ys))).flatten = ((xs.take n).flatten ++ cs.take off) ++ .osl sz2 ys :: (cs.drop (off + 1) ++ (xs.drop (n + 1)).flatten) := by
          rw [flatten_set (sz := sz) hg]
          conv => lhs; rw [← List.take_append_drop off (cs.set off (.osl sz2 ys)), c1, c2]
          simp only [List.append_assoc, List.cons_append]
        have hown := Own.c_app o1 (by rw [p2]; exact hc) oa (by rw [p2]; exact o2)
        rw [← hflat] at hown
        have hrowok : RowOK I w id (.row sz (xs.set n (cs.set off (.osl sz2 ys)))) (b :: (F1 ++ (Fj ++ F2))) :=
          .row hi hat (by rw [List.length_set]; exact hln) hz hb (by rw [List.length_set]; exact hs) (set_mem_len hxs (by rw [List.length_set]; exact e3)) hown
        have hperm : T.Perm ((b :: (F1 ++ (Fj ++ F2))) ++ T2) := by
          refine g3.trans (List.perm_iff_count.2 fun z => ?_)
          have := List.perm_iff_count.1 j3 z
          simp only [List.count_append, List.count_cons] at this ⊢
          omega
        exact { hr with hp := ⟨_, .cons hrowok j2, hperm.nodup_iff.1 k2, fun z hz => k3 z (hperm.mem_iff.2 hz)⟩ }
    · cases h
  · cases h

theorem run_unf {f : Nat} {Q : Post} {todo : List Item} {id : Nat} {hp' : List (Nat × Row)} (h : unf1 id st.hp = some hp') (k : Run P f Q todo ⟨st.tm, hp', st.nx, st.nt⟩) : Run P f Q todo st :=
  fun S0 B w0 I a w hlo hr => k S0 B w0 I a w hlo (hr.unf h)
end
end Go.Ax

/- A row within a row is written back; what is nil; texts the same; results that are pointers; control. -/
namespace Go.Ax
open Go.RowKit
set_option linter.unusedVariables false
set_option linter.unusedSimpArgs false

theorem Own.c_wrote {I : Interp} {w w' : World} {b o o2 : Nat} {As : List AV} {F : List Nat} {vs : List Value} (h : Own I.S w (.c b o As) F) (hw : Wrote w w' b o2 vs) (hd : o + As.length ≤ o2 ∨ o2 + vs.length ≤ o) (he : Ext I w I w') (hF : ∀ z ∈ F, w'.heap[z]? = w.heap[z]?) : Own I.S w' (.c b o As) F := by
  obtain ⟨us, h1, h2⟩ := h.cells
  have := h1.l_len
  exact Own.ofCells (h1.l_mono he hF) (hw.cellsAt h2 (by omega))

section
variable {P : Program} {st : St}

/-- A write of a row within a row that is looked at. -/
theorem ok_store_foc {o : Oper} {t id n off sz j : Nat} {x y : Operand} {i : TyI} {v u : AV} {xs : List (List AV)} {cs : List AV} {hp1 : List (Nat × Row)} (h : o.op = .store t x y) (ht : TyOK P t i) (hx : st.ev x = .hq id n off)
    (hy : st.ev y = v) (hk : v.known = true) (hl : v.cells.all AV.leaf = true) (hsz : Nat.beq v.cells.length i.size = true) (hf : foldL st.hp v.cells = ([u], hp1)) (hc : u.closed = true)
    (hrow : row id hp1 = some (.foc sz xs cs n off j)) : OpDo P st o ⟨st.tm, (id, .row sz (xs.set n (cs.set off u))) :: rem id hp1, st.nx, st.nt⟩ := by
  intro S0 B w0 I a w hr
  have h1 := hr.ev x
  have h2 := hr.ev y
  rw [hx] at h1
  rw [hy] at h2
  obtain ⟨b, of, hi, hat, e⟩ := h1.hq_inv
  have hcells := h2.cells hk (fun u hu => by subst hu; simp [AV.cells, AV.leaf] at hl; cases u <;> simp_all [Value.oneCell', Value.cells])
  obtain ⟨T, k1, k2, k3⟩ := hr.hp
  obtain ⟨Fv, T1, f1, f2, f3⟩ := foldL_ok hcells k1
  rw [hf] at f1 f2
  obtain ⟨F, T', g1, g2, g3⟩ := f2.take hrow
  have hlx : (a.eval y).cells.toList.length = v.cells.length := hcells.l_len
  have hsz' : v.cells.length = i.size := Nat.eq_of_beq_eq_true hsz
  have hlv : i.size = 1 := by have := f1.length; simp at this; rw [← hsz', ← hlx]; simp [← this]
  cases g1 with
  | foc hi hat2 hln hz hb hs hxs hg hof hff hA o1 hcell hrep o2 =>
    rw [hat] at hat2
    cases hat2
    rename_i c y0 a0 As Cs F1 F2
    obtain ⟨e1, e2, e3⟩ := flatten_parts hxs hg
    have hoff : off < cs.length := by omega
    obtain ⟨c1, c2⟩ := cells_of_cons (v := u) hoff
    have hd : cs.drop off = cs[off] :: cs.drop (off + 1) := List.drop_eq_getElem_cons hoff
    obtain ⟨p1, p2, _⟩ := foc_parts hxs hg hd
    have hAs : As = (xs.take n).flatten ++ cs.take off ∧ a0 :: Cs = cs[off] :: (cs.drop (off + 1) ++ (xs.drop (n + 1)).flatten) := by
      rw [hff] at p1
      exact List.append_inj p1 (by rw [hA, p2])
    obtain ⟨rfl, hC⟩ := hAs
    simp only [List.cons.injEq] at hC
    obtain ⟨_, rfl⟩ := hC
    have hlt : n < xs.length := (List.getElem?_eq_some_iff.1 hg).1
    have hmul : (n + 1) * sz ≤ xs.length * sz := Nat.mul_le_mul_right _ hlt
    rw [Nat.add_mul, Nat.one_mul] at hmul
    have hall : T.Perm (Fv ++ ((b :: (F1 ++ F2)) ++ T')) := f3.trans (List.Perm.append_left Fv g3)
    obtain ⟨w', r1, r2⟩ := run_stores (P := P) (b := b) (o := of + n * sz + off) (a.eval y).cells.toList 0 w c hb (by rw [hlx, hsz']; omega) (hcells.ones hl)
    rw [Nat.add_zero] at r2
    have hbB := k3 b (hall.mem_iff.2 (by simp))
    have he : Ext I w I w' := r2.ext hbB.2.1
    have hnd : (Fv ++ ((b :: (F1 ++ F2)) ++ T')).Nodup := hall.nodup_iff.1 k2
    have hne : ∀ z ∈ Fv ++ ((F1 ++ F2) ++ T'), w'.heap[z]? = w.heap[z]? := by
      intro z hz
      refine r2.other z fun ez => ?_
      subst ez
      have hc : (Fv ++ ((z :: (F1 ++ F2)) ++ T')).count z ≤ 1 := List.nodup_iff_count.1 hnd z
      have hm : 0 < (Fv ++ ((F1 ++ F2) ++ T')).count z := List.count_pos_iff.2 hz
      simp only [List.count_append, List.count_cons, beq_self_eq_true, if_true] at hc hm
      omega
    obtain ⟨c', hb', hs'⟩ := r2.blk c hb
    have hflat : (xs.set n (cs.set off u)).flatten = ((xs.take n).flatten ++ cs.take off) ++ u :: (cs.drop (off + 1) ++ (xs.drop (n + 1)).flatten) := by
      rw [flatten_set (sz := sz) hg]
      conv => lhs; rw [← List.take_append_drop off (cs.set off u), c1, c2]
      simp only [List.append_assoc, List.cons_append]
    rw [show of + n * sz + off = of + (n * sz + off) from by omega] at r2
    have hlx1 : (a.eval y).cells.toList.length = 1 := by rw [hlx, hsz', hlv]
    have q1 := o1.c_wrote r2 (.inl (by rw [p2]; exact Nat.le_refl _)) he (fun z hz => hne z (by simp [hz]))
    have q2 := o2.c_wrote r2 (.inr (by rw [hlx1]; exact Nat.le_refl _)) he (fun z hz => hne z (by simp [hz]))
    obtain ⟨x1, hx1⟩ : ∃ x1, (a.eval y).cells.toList = [x1] := by
      match h : (a.eval y).cells.toList, hlx1 with
      | [x1], _ => exact ⟨x1, rfl⟩
    rw [hx1] at f1 r2
    have hnew := r2.new 0 x1 rfl
    rw [Nat.add_zero] at hnew
    obtain ⟨hu, hF0⟩ : Own I.S w (.v u x1) Fv ∧ True := by
      cases f1 with
      | cons l1 l2 =>
        cases l2
        rw [List.append_nil]
        exact ⟨l1.own hc, trivial⟩
    have hu' : Own I.S w' (.v u x1) Fv := hu.mono he.S he.hold (fun z hz => hne z (by simp [hz])) (by simp)
    have hown := Own.c_app q1 (by rw [p2]; exact hnew) hu' (by rw [p2]; exact q2)
    rw [← hflat] at hown
    refine ⟨w', I, ?_, ?_⟩
    · have hsz2 : (a.eval y).cells.size = i.size := by rw [← Array.length_toList, hlx, hsz']
      rw [hx1] at r1
      simp only [execOp, h, e, hz, Instr.storeAt, Instr.sureAddr, storeVar, Sem.run_bind, Sem.run_pure, Result.andThen_ok, run_size ht, hsz2, ne_eq, not_true, if_false, hx1, r1]
    · have hrowok : RowOK I w' id (.row sz (xs.set n (cs.set off u))) (b :: (F1 ++ (Fv ++ F2))) := .row hi hat (by rw [List.length_set]; exact hln) hz hb' (by rw [List.length_set, hs']; exact hs) (set_mem_len hxs (by rw [List.length_set]; exact e3)) hown
      have hnew : ((b :: (F1 ++ (Fv ++ F2))) ++ T').Nodup := by
        refine List.nodup_iff_count.2 fun z => ?_
        have := List.nodup_iff_count.1 hnd z
        simp only [List.count_append, List.count_cons] at this ⊢
        omega
      have := hr.next he (r2.below hbB.1) (fun b h => .inl h) (fun z hz => by rw [r2.size]; exact hr.ss z hz) (hp := (id, .row sz (xs.set n (cs.set off u))) :: rem id hp1)
        ⟨_, .cons hrowok (g2.mono he fun z hz => hne z (by simp only [List.mem_append]; exact .inr (.inr hz))), hnew, fun z hz => by
          rw [r2.size]
          refine k3 z (hall.mem_iff.2 ?_)
          simp only [List.mem_append, List.mem_cons] at hz ⊢
          rcases hz with (h | h | h | h) | h <;> simp [h]⟩
      rw [hr.nx] at this; exact this
end
end Go.Ax

/- What is read, of several values; what is nil; parts of rows; results that are pointers; control; calls that look at one's own; calls with the heap; what is one's own no more. -/
namespace Go.Ax
open Go.RowKit
set_option linter.unusedVariables false
set_option linter.unusedSimpArgs false

/-- What an operation reads, one of several. -/
def ReadsN (P : Program) (st : St) (o : Oper) (V : AV → Prop) : Prop :=
  ∀ S0 B w0 I a w, Rel S0 B w0 I st a w → ∃ v x, V v ∧ (∀ w', (memFree o.op = true ∨ Same w w') → (execOp a.eval o).run P w' = .ok (.value x) w') ∧ Rep I w (.v v x)

theorem Reads.n {P : Program} {st : St} {o : Oper} {v : AV} (h : Reads P st o v) : ReadsN P st o (· = v) := fun S0 B w0 I a w hr =>
  let ⟨x, h1, h2⟩ := h S0 B w0 I a w hr
  ⟨v, x, rfl, h1, h2⟩

section
variable {P : Program} {f : Nat} {Q : Post} {k : List Item} {st : St} {A : Array Oper} {i : Nat} {rest : List Nat}

theorem run_opN {d : Nat} {op : Op} {t : Nat} {pos : String} {af : Array Edge} {g : Option (Nat × Bool)} {V : AV → Prop} (ho : A[i]? = some ⟨some d, op, t, pos, af, g⟩) (hw : Want A st g) (hd : Nat.blt d st.nt = true)
    (hop : ReadsN P st ⟨some d, op, t, pos, af, g⟩ V) (h : ∀ v, V v → Run P f Q (.inRegion A rest :: k) (st.set d v)) : Run P f Q (.inRegion A (i :: rest) :: k) st := by
  intro S0 B w0 I a w hlo hr hds b hb hk hro cs
  obtain ⟨v, x, hv, h1, h2⟩ := hop S0 B w0 I a w hr
  obtain ⟨e, w2, g1, g2⟩ := h v hv S0 B w0 I _ w hlo (hr.put hd h2) hds b hb hk hro cs
  exact ⟨e, w2, g1, g2.of_steps (.one (step_op_value ho (hr.wanted hw) (h1 w (.inr (Same.refl w)))))⟩

theorem drawn_readN {L : Array Bool} {n d : Nat} {op : Op} {t : Nat} {pos : String} {af : Array Edge} {g : Option (Nat × Bool)} {V : AV → Prop} (ho : A[i]? = some ⟨some d, op, t, pos, af, g⟩) (hc : clear A L i = true) (hw : Want A st g) (hd : Nat.blt d st.nt = true)
    (hop : ReadsN P st ⟨some d, op, t, pos, af, g⟩ V) (h : ∀ v, V v → Drawn P f Q k A n (L.setIfInBounds i true) (st.set d v)) : Drawn P f Q k A (n + 1) L st := by
  intro S0 B w0 I a w hlo hr hds
  obtain ⟨v, x, hv, h1, h2⟩ := hop S0 B w0 I a w hr
  obtain ⟨c1, c2, c3⟩ := clear_spec ho hc
  exact anyB_first ho c1 n L a w c3 c2 (.inl ⟨hr.wanted hw, h1⟩) (h v hv S0 B w0 I _ w hlo (hr.put hd h2) hds)

theorem step_scope {b : Frame} {a : Act} {cs : List Frame} {w : World} {body : Code} : step P (lone (b.atR a (.code (.scope body) :: k)) cs w) = .next (lone (b.atR a (.code body :: .inScope body :: k)) cs w) :=
  step_lone_go (by simp [stepG, stepG.exec, Frame.atR])
theorem step_inScope {b : Frame} {a : Act} {cs : List Frame} {w : World} {body : Code} : step P (lone (b.atR a (.inScope body :: k)) cs w) = .next (lone (b.atR a k) cs w) :=
  step_lone_go (by simp [stepG, stepG.exec, Frame.atR])
theorem run_scope {c : Code} (h : Run P f Q (.code c :: .inScope c :: k) st) : Run P f Q (.code (.scope c) :: k) st := run_move' h fun _ _ _ _ => step_scope
theorem run_inScope {c : Code} (h : Run P f Q k st) : Run P f Q (.inScope c :: k) st := run_move' h fun _ _ _ _ => step_inScope
end

section
variable {P : Program} {st : St} {o : Oper}

/-- What is a row, whatever it hangs on. -/
def SlOf (st : St) (v : AV) (xs : List (List AV)) : Prop := ∀ S0 B w0 I a w y, Rel S0 B w0 I st a w → Rep I w (.v v y) → ∃ ad cap, y = .slice ad xs.length cap ∧ (ad = none → xs = [])

theorem slOf_sl {f : Bool} {sz : Nat} {xs : List (List AV)} : SlOf st (.sl f sz xs) xs := fun S0 B w0 I a w y hr h => by
  cases h with
  | std h => cases h with
    | sl0 => exact ⟨_, _, rfl, fun _ => rfl⟩
    | sl => exact ⟨_, _, rfl, fun h => by cases h⟩

theorem slOf_hw {id sz : Nat} {xs : List (List AV)} (hrow : row id st.hp = some (.row sz xs)) : SlOf st (.hw id) xs := fun S0 B w0 I a w y hr h => by
  obtain ⟨T, k1, _, _⟩ := hr.hp
  obtain ⟨F, T', g1, _, _⟩ := k1.take hrow
  have hln := g1.ln_eq.1
  obtain ⟨_, ⟨_, h0, ad, rfl⟩ | ⟨b, of, cap, c, _, _, _, _, rfl⟩⟩ := h.hw_inv
  · rw [h0] at hln
    have : xs = [] := List.eq_nil_of_length_eq_zero hln.symm
    subst this
    exact ⟨_, _, rfl, fun _ => rfl⟩
  · rw [hln]; exact ⟨_, _, rfl, fun h => by cases h⟩

theorem rd_slnil {t t2 e : Nat} {x y : Operand} {i : TyI} {v : AV} {xs : List (List AV)} {neg : Bool} (h : o.op = .binOp (bif neg then .neq else .eql) t x y t2) (ht : TyOK P t i) (hd : i.td = .td (.slice e)) (hx : st.ev x = v) (hs : SlOf st v xs) (hy : st.ev y = .lit (.slice none 0 0)) :
    ReadsN P st o (fun u => ∃ b : Bool, (b = true → xs = []) ∧ u = .lit (.bool (neg != b))) := by
  intro S0 B w0 I a w hr
  have h1 := hr.ev x
  have h2 := hr.ev y
  rw [hx] at h1; rw [hy] at h2
  obtain ⟨ad, cap, e1, e2⟩ := hs S0 B w0 I a w _ hr h1
  have e3 := h2.lit_inv
  have hu := ht.sliceE hd
  refine ⟨_, .bool (neg != ad.isNone), ⟨ad.isNone, fun hb => e2 (by simpa using hb), rfl⟩, fun w' _ => ?_, .std (.lit _)⟩
  cases neg with
  | false =>
    simp only [execOp, h, cond_false, e1, e3]
    simp only [Sem.run_bind]
    simp only [eqGuard, bne]
    cases ad <;> simp [Lib.run_eql_slice_nil w' t e _ _ _ _ _ hu]
  | true =>
    simp only [execOp, h, cond_true, e1, e3]
    simp only [Sem.run_bind]
    simp only [eqGuard, bne]
    cases ad <;> simp [run_neq_slice_nil_any w' t e _ _ _ _ _ hu]

/-- What is a pointer, and whether it is nil. -/
theorem rd_ptrnil {t t2 e : Nat} {x y : Operand} {i : TyI} {v : AV} {neg b : Bool} (h : o.op = .binOp (bif neg then .neq else .eql) t x y t2) (ht : TyOK P t i) (hd : i.td = .td (.pointer e)) (hx : st.ev x = v) (hv : ∀ I w z, Rep I w (.v v z) → ∃ p : Option Addr, z = .pointer p ∧ p.isNone = b) (hy : st.ev y = .lit (.pointer none)) :
    Reads P st o (.lit (.bool (neg != b))) := by
  refine rd_pure fun S0 B w0 I a w1 hr w => ?_
  have h1 := hr.ev x
  have h2 := hr.ev y
  rw [hx] at h1; rw [hy] at h2
  obtain ⟨p, e1, rfl⟩ := hv _ _ _ h1
  have e3 := h2.lit_inv
  have hu : P.underlying t = some (.pointer (P.pointee t)) := by
    obtain ⟨h3, _⟩ := ht; rw [hd] at h3
    have := h3.1
    unfold Program.pointee; rw [this]
  cases neg with
  | false =>
    simp only [execOp, h, cond_false, e1, e3]
    simp only [Sem.run_bind]
    simp only [eqGuard, bne]
    cases p <;> simp [run_eql_pointer_nil w t _ hu]
  | true =>
    simp only [execOp, h, cond_true, e1, e3]
    simp only [Sem.run_bind]
    simp only [eqGuard, bne]
    cases p <;> simp [run_neq_pointer_nil w t _ hu]

theorem rd_eq_text {t t2 : Nat} {x y : Operand} {m n : ByteArray} {neg : Bool} (h : o.op = .binOp (bif neg then .neq else .eql) t x y t2) (ht : P.underlying t = some .string) (hx : st.ev x = .lit (.string m)) (hy : st.ev y = .lit (.string n)) :
    Reads P st o (.lit (.bool (neg != (m.toList == n.toList)))) := by
  refine rd_pure fun S0 B w0 I a w1 hr w => ?_
  have h1 := hr.ev x
  have h2 := hr.ev y
  rw [hx] at h1; rw [hy] at h2
  cases neg with
  | false =>
    simp only [execOp, h, cond_false]
    rw [h1.lit_inv, h2.lit_inv]
    simp only [Sem.run_bind]
    simp only [eqGuard, bne, binOp]
    simp [Op.stringOp]
  | true =>
    simp only [execOp, h, cond_true]
    rw [h1.lit_inv, h2.lit_inv]
    simp only [Sem.run_bind]
    simp only [eqGuard, bne, binOp]
    simp [Op.stringOp]

theorem rd_max {x y : Operand} {ts : Array Nat} {k : IntKind} {m n : Int} (h : o.op = .call { callee := .builtin .max, args := #[x, y], argTypes := ts }) (hx : st.ev x = .lit (.int k m)) (hy : st.ev y = .lit (.int k n)) :
    Reads P st o (.lit (.int k (max m n))) := by
  refine rd_pure fun S0 B w0 I a w1 hr w => ?_
  have h1 := hr.ev x
  have h2 := hr.ev y
  rw [hx] at h1; rw [hy] at h2
  have e : (if m < n then n else m) = max m n := by split <;> omega
  simp [execOp, h, h1.lit_inv, h2.lit_inv, resolve, invoke, builtin, Builtin.max_, Builtin.max2, e]

/-- A part of a row that stays. -/
theorem rd_slice {t e : Nat} {x : Operand} {lo hi : Option Operand} {it ie : TyI} {f : Bool} {sz : Nat} {xs : List (List AV)} {l m : Int} (h : o.op = .slice t x lo hi none) (ht : TyOK P t it) (hd : it.td = .td (.slice e)) (he : TyOK P e ie) (hsz : Nat.beq ie.size sz = true) (hx : st.ev x = .sl f sz xs)
    (hl : match lo with | none => l = 0 | some y => st.ev y = .lit (.int .i64 l)) (hh : match hi with | none => m = xs.length | some y => st.ev y = .lit (.int .i64 m)) (h0 : 0 ≤ l) (h1 : l ≤ m) (h2 : m ≤ xs.length) :
    Reads P st o (.sl false sz ((xs.drop l.toNat).take (m.toNat - l.toNat))) := by
  intro S0 B w0 I a w hr
  have k1 := hr.ev x
  rw [hx] at k1
  obtain ⟨l, rfl⟩ : ∃ n : Nat, l = n := ⟨l.toNat, by omega⟩
  obtain ⟨m, rfl⟩ : ∃ n : Nat, m = n := ⟨m.toNat, by omega⟩
  have hlen : ((xs.drop l).take (m - l)).length = m - l := by rw [List.length_take, List.length_drop]; omega
  have hsz' := Nat.eq_of_beq_eq_true hsz
  generalize ex : a.eval x = y at k1
  have hcap : ∃ ad cap, y = .slice ad xs.length cap ∧ xs.length ≤ cap := by
    cases k1 with | std k1 => cases k1 with
      | sl0 => exact ⟨_, _, rfl, by simp⟩
      | sl _ hc => exact ⟨_, _, rfl, hc⟩
  obtain ⟨ad, cap, rfl, hcap⟩ := hcap
  have hb : ∀ w', (Instr.sliceBounds true xs.length cap (lo.map a.eval) (hi.map a.eval) none).run P w' = .ok (l, m, cap) w' := by
    intro w'
    have hlo : ∀ y, lo = some y → a.eval y = .int .i64 l := fun y e => by
      subst e; have := hr.ev y; rw [hl] at this; exact this.lit_inv
    have hhi : ∀ y, hi = some y → a.eval y = .int .i64 m := fun y e => by
      subst e; have := hr.ev y; rw [hh] at this; exact this.lit_inv
    cases lo with
    | none =>
      have : l = 0 := by simp at hl; omega
      subst this
      cases hi with
      | none =>
        have : m = xs.length := by simp at hh; omega
        subst this
        simp [Instr.sliceBounds]
      | some y =>
        have : (0 : Int) ≤ m ∧ m ≤ cap := by omega
        simp [Instr.sliceBounds, Instr.sliceBound, asIntOf, hhi y rfl]; omega
    | some y =>
      cases hi with
      | none =>
        have : m = xs.length := by simp at hh; omega
        subst this
        simp [Instr.sliceBounds, Instr.sliceBound, asIntOf, hlo y rfl]; omega
      | some z =>
        have : (m : Int) ≤ cap := by omega
        have h3 : m ≤ cap := by omega
        have h4 : l ≤ m := by omega
        simp [Instr.sliceBounds, Instr.sliceBound, asIntOf, hlo y rfl, hhi z rfl, h3, h4]
  have hrun : ∀ w', (execOp a.eval o).run P w' = .ok (.value (.slice (if cap = l then ad else ad.map (·.add (l * ie.size))) (m - l) (cap - l))) w' := by
    intro w'
    simp only [execOp, h, ex, Option.map_none, Instr.sliceAt, Instr.slice, Sem.run_bind, run_under (ht.sliceE hd), Result.andThen_ok, hb w', run_size he, Sem.run_pure]
  refine ⟨_, fun w' _ => hrun w', .std ?_⟩
  simp only [Int.toNat_natCast]
  by_cases hz : m - l = 0
  · have : (xs.drop l).take (m - l) = [] := by rw [hz]; simp
    rw [this, hz]
    refine .sl0 (fun h => by cases h) (fun hn => ?_)
    by_cases hc : cap = l
    · omega
    · rw [if_neg hc] at hn
      cases k1 with | std k1 => cases k1 with
        | sl0 _ h5 => simp at hn; have := h5 hn; omega
        | sl => cases hn
  · cases k1 with | std k1 => cases k1 with
      | sl0 => simp at h2; omega
      | @sl _ _ _ b of _ h3 h4 h5 h6 h7 =>
        rw [if_neg (by omega), Option.map_some, addr_add]
        have hx2 : ∀ x ∈ (xs.drop l).take (m - l), x.length = sz := fun x hx => h5 x (List.mem_of_mem_drop (List.mem_of_mem_take hx))
        have hc2 : Std I.S w (.c b (of + l * sz) ((xs.drop l).take (m - l)).flatten) := by
          have g1 := (h7.drop (l * sz)).take ((m - l) * sz)
          have g2 : (xs.flatten.drop (l * sz)).take ((m - l) * sz) = ((xs.drop l).take (m - l)).flatten := by
            have e1 : xs.flatten = (xs.take l).flatten ++ ((xs.drop l).take (m - l)).flatten ++ ((xs.drop l).drop (m - l)).flatten := by
              conv => lhs; rw [← List.take_append_drop l xs, ← List.take_append_drop (m - l) (xs.drop l)]
              rw [List.flatten_append, List.flatten_append, List.append_assoc]
            have l1 : (xs.take l).flatten.length = l * sz := by rw [flat_len fun x hx => h5 x (List.mem_of_mem_take hx), List.length_take]; congr 1; omega
            have l2 : ((xs.drop l).take (m - l)).flatten.length = (m - l) * sz := by rw [flat_len hx2, hlen]
            rw [e1, List.append_assoc, ← l1, List.drop_left, ← l2, List.take_left]
          rw [g2] at g1; exact g1
        have := Std.sl (S := I.S) (w := w) (full := false) (sz := sz) (xs := (xs.drop l).take (m - l)) (b := b) (o := of + l * sz) (cap := cap - l) (fun h => by cases h) (by rw [hlen]; omega) hx2 h6 hc2
        rw [hlen] at this
        rw [hsz']; exact this
end
end Go.Ax

/- Results that are pointers; calls that look at one's own; calls with the heap; what is one's own no more. -/
namespace Go.Ax
open Go.RowKit
set_option linter.unusedVariables false
set_option linter.unusedSimpArgs false

theorem foldLv_ok {I : Interp} {w : World} {as : List AV} {xs : List Value} {F : List Nat} (h : Leaves I w as xs F) : ∀ {hp : List (Nat × Row)} {T : List Nat}, HeapOK I w hp T →
    ∃ G T', Leaves I w (foldL hp as).1 xs G ∧ HeapOK I w (foldL hp as).2 T' ∧ (F ++ T).Perm (G ++ T') := by
  induction h with
  | nil => intro hp T h; exact ⟨[], T, .nil, h, List.Perm.refl _⟩
  | @cons a x as xs F1 G1 hl _ ih =>
    intro hp T h
    rcases hl with ⟨hr, rfl⟩ | ho
    · obtain ⟨F2, T1, g1, g2, g3⟩ := fold1_ok h hr
      obtain ⟨G, T2, k1, k2, k3⟩ := ih g2
      refine ⟨F2 ++ G, T2, .cons g1 k1, k2, List.perm_iff_count.2 fun z => ?_⟩
      have e1 := List.perm_iff_count.1 g3 z
      have e2 := List.perm_iff_count.1 k3 z
      simp only [List.count_append, List.count_nil] at e1 e2 ⊢
      omega
    · have e : fold1 hp a = (a, hp) := by
        cases a with
        | hw id => cases ho with | std ho => cases ho
        | _ => rfl
      obtain ⟨G, T2, k1, k2, k3⟩ := ih h
      refine ⟨F1 ++ G, T2, ?_, ?_, List.perm_iff_count.2 fun z => ?_⟩
      · simp only [foldL, e]; exact .cons (.inr ho) k1
      · simp only [foldL, e]; exact k2
      · have e2 := List.perm_iff_count.1 k3 z
        simp only [List.count_append] at e2 ⊢
        omega

section
variable {P : Program} {st : St} {hp : List (Nat × Row)}

theorem res_ptr {d id : Nat} {cs rs : List AV} {hp' : List (Nat × Row)} (hv : get d st.tm = .hp id 0) (hrow : row id hp = some (.var cs)) (hf : foldL (rem id hp) cs = (rs, hp')) (hc : rs.all AV.closed = true) : Res P st hp (.tmp d) (.opt rs) hp' := by
  intro I w tmps T hr hh _
  have h1 := hr d
  rw [hv] at h1
  obtain ⟨b, of, hi, hat, e⟩ := h1.hp_inv
  obtain ⟨F, T', g1, g2, g3⟩ := hh.take hrow
  obtain ⟨c, G, _, hb, hs, hvc, rfl⟩ := g1.var_inv hat
  obtain ⟨xs, l1, l2, l3⟩ := hvc.leaves
  obtain ⟨G2, T2, k1, k2, k3⟩ := foldLv_ok l1 g2
  rw [hf] at k1 k2
  have hlen : rs.length = cs.length := by rw [k1.length, l3]
  refine ⟨_, b :: G2, T2, [], rfl, ?_, k2, ?_⟩
  · rw [e]
    exact .opt hb (by rw [hlen]; exact hs) ((k1.varC l2).own hc)
  · refine g3.trans (List.perm_iff_count.2 fun z => ?_)
    have := List.perm_iff_count.1 k3 z
    simp only [List.count_append, List.count_cons, List.count_nil] at this ⊢
    omega
end

/-- What hangs on nothing that stays. -/
def AV.Free (r : AV) : Prop := ∀ S S' w x F, Own S w (.v r x) F → Own S' w (.v r x) F

theorem Free.lit (v : Value) : AV.Free (.lit v) := fun S S' w x F h => by
  cases h with | std h => rw [h.lit_inv]; exact .std (.lit _)
theorem Free.l {cs : List AV} (h : ∀ a ∈ cs, a.Free) : ∀ {S S' : Nat → Prop} {w : World} {xs : List Value} {F : List Nat}, Own S w (.l cs xs) F → Own S' w (.l cs xs) F := by
  induction cs with
  | nil => intro S S' w xs F ho; cases ho; exact .nil
  | cons a as ih =>
    intro S S' w xs F ho
    cases ho with
    | cons h1 h2 => exact .cons (h a (List.mem_cons_self ..) _ _ _ _ _ h1) (ih (fun b hb => h b (List.mem_cons_of_mem _ hb)) h2)
theorem Free.c {cs : List AV} (h : ∀ a ∈ cs, a.Free) {S S' : Nat → Prop} {w : World} {b o : Nat} {F : List Nat} (ho : Own S w (.c b o cs) F) : Own S' w (.c b o cs) F := by
  obtain ⟨vs, h1, h2⟩ := ho.cells
  exact Own.ofCells (Free.l h h1) h2
theorem Free.agg {cs : List AV} (h : ∀ a ∈ cs, a.Free) : AV.Free (.agg cs) := fun S S' w x F ho => by
  cases ho with
  | std ho => cases ho with | agg ho => exact .agg (Free.l h ho.l_own)
  | agg ho => exact .agg (Free.l h ho)
theorem Free.tup {cs : List AV} (h : ∀ a ∈ cs, a.Free) : AV.Free (.tup cs) := fun S S' w x F ho => by
  cases ho with
  | std ho => cases ho with | tup ho => exact .tup (Free.l h ho.l_own)
  | tup ho => exact .tup (Free.l h ho)
theorem Free.osl {sz : Nat} {xs : List (List AV)} (h : ∀ x ∈ xs, ∀ a ∈ x, a.Free) : AV.Free (.osl sz xs) := fun S S' w x F ho => by
  cases ho with
  | std ho => cases ho
  | osl0 h0 => exact .osl0 h0
  | osl h1 h2 h3 h4 h5 => exact .osl h1 h2 h3 h4 (Free.c (fun a ha => by obtain ⟨y, hy, ha⟩ := List.mem_flatten.1 ha; exact h y hy a ha) h5)
theorem Free.map {α : Type} {sz : Nat} {enc : α → List AV} {l : List α} (h : ∀ e ∈ l, ∀ a ∈ enc e, a.Free) : AV.Free (.osl sz (l.map enc)) := Free.osl fun x hx => by
  obtain ⟨e, he, rfl⟩ := List.mem_map.1 hx; exact h e he

/-- A value, as one who only looks sees it. -/
def Seen (hp : List (Nat × Row)) (a a' : AV) : Prop := a' = a ∨ ∀ I w x T, HeapOK I w hp T → Rep I w (.v a x) → Std (fun b => I.S b ∨ b ∈ T) w (.v a' x)

inductive SeenL (hp : List (Nat × Row)) : List AV → List AV → Prop
  | nil : SeenL hp [] []
  | cons {a a' as as'} : Seen hp a a' → SeenL hp as as' → SeenL hp (a :: as) (a' :: as')

theorem seen_hw {hp : List (Nat × Row)} {id sz : Nat} {xs ys : List (List AV)} (hrow : row id hp = some (.row sz xs)) (hz : AV.fzLL xs = ys) : Seen hp (.hw id) (.sl false sz ys) := .inr fun I w x T hh hr => by
  subst hz
  obtain ⟨F, T', g1, g2, g3⟩ := hh.take hrow
  have := (hw_own g1 hr).freeze
  exact this.grow fun z hz => hz.imp (fun h => h) fun h => g3.mem_iff.2 (List.mem_append_left _ h)

theorem seen_hp {hp : List (Nat × Row)} {id : Nat} {cs cs' : List AV} (hrow : row id hp = some (.var cs)) (hc : cs.all AV.closed = true) (hz : AV.fzL cs = cs') : Seen hp (.hp id 0) (.pt cs') := .inr fun I w x T hh hr => by
  subst hz
  obtain ⟨F, T', g1, g2, g3⟩ := hh.take hrow
  obtain ⟨b, o, hid, ha, rfl⟩ := hr.hp_inv
  obtain ⟨c, G, _, hb, hs, hvc, rfl⟩ := g1.var_inv ha
  have hstd := (hvc.own hc).freeze
  refine .pt (.inr (g3.mem_iff.2 (by simp))) (hstd.grow fun z hz => hz.imp (fun h => h) fun h => g3.mem_iff.2 (List.mem_append_left _ (List.mem_cons_of_mem _ h)))

theorem seen_std {hp : List (Nat × Row)} {a a' : AV} (h : Seen hp a a') (hs : a'.std = true) {I : Interp} {w : World} {x : Value} {T : List Nat} (hh : HeapOK I w hp T) (hr : Rep I w (.v a x)) : Std (fun b => I.S b ∨ b ∈ T) w (.v a' x) := by
  rcases h with rfl | h
  · exact (hr.std_std hs).grow fun _ h => .inl h
  · exact h I w x T hh hr

theorem seen_l {hp : List (Nat × Row)} {cs cs' : List AV} (h : SeenL hp cs cs') (hs : cs'.all AV.std = true) {I : Interp} {w : World} {T : List Nat} (hh : HeapOK I w hp T) : ∀ {vs : List Value}, Rep I w (.l cs vs) → Std (fun b => I.S b ∨ b ∈ T) w (.l cs' vs) := by
  induction h with
  | nil => intro vs hr; cases hr; exact .nil
  | cons h1 _ ih =>
    intro vs hr
    simp only [List.all_cons, Bool.and_eq_true] at hs
    cases hr with
    | cons r1 r2 => exact .cons (seen_std h1 hs.1 hh r1) (ih hs.2 r2)

theorem seen_agg {hp : List (Nat × Row)} {cs cs' : List AV} (h : SeenL hp cs cs') (hs : cs'.all AV.std = true) : Seen hp (.agg cs) (.agg cs') := .inr fun I w x T hh hr => by
  obtain ⟨vs, rfl, hr2⟩ := hr.agg_inv
  exact .agg (seen_l h hs hh hr2)

/-- One operation of a region whose order is open, and how it goes on. -/
def StepD (P : Program) (f : Nat) (Q : Post) (k : List Item) (A : Array Oper) (n : Nat) (L : Array Bool) (i : Nat) (st : St) : Prop :=
  ∀ S0 B w0 I a w, S0.nx = Q.lo → Rel S0 B w0 I st a w → a.defers = Q.ds → wpOp P A (NQ fun a' w' => ∃ I' st', Rel S0 B w0 I' st' a' w' ∧ a'.defers = Q.ds ∧ Run P f Q k st') i
    (fun a' w' => (kpAt A i = true → Same w w') ∧ anyB P A (fun a' w' => ∃ I' st', Rel S0 B w0 I' st' a' w' ∧ a'.defers = Q.ds ∧ Run P f Q k st') n (L.setIfInBounds i true) a' w') a w

theorem drawn_steps {P : Program} {f : Nat} {Q : Post} {k : List Item} {st : St} {A : Array Oper} {n : Nat} {L : Array Bool} {l : List Nat} (hrd : Region.ready .any A L = l) (h0 : l ≠ []) (h : ∀ i ∈ l, StepD P f Q k A n L i st) : Drawn P f Q k A (n + 1) L st :=
  fun S0 B w0 I a w hlo hr hds => ⟨fun h => absurd (hrd ▸ h) h0, fun j hj => h j (hrd ▸ hj) S0 B w0 I a w hlo hr hds⟩

section
variable {P : Program} {f : Nat} {Q : Post} {k : List Item} {st st' : St} {A : Array Oper} {n : Nat} {L : Array Bool} {i : Nat}

theorem stepD_read {d : Nat} {op : Op} {t : Nat} {pos : String} {af : Array Edge} {g : Option (Nat × Bool)} {V : AV → Prop} (ho : A[i]? = some ⟨some d, op, t, pos, af, g⟩) (hw : Want A st g) (hd : Nat.blt d st.nt = true)
    (hop : ReadsN P st ⟨some d, op, t, pos, af, g⟩ V) (h : ∀ v, V v → Drawn P f Q k A n (L.setIfInBounds i true) (st.set d v)) : StepD P f Q k A n L i st := by
  intro S0 B w0 I a w hlo hr hds
  obtain ⟨v, x, hv, h1, h2⟩ := hop S0 B w0 I a w hr
  unfold wpOp
  simp only [ho]
  rw [if_pos (hr.wanted hw)]
  refine .inl ?_
  simp only [Oper.wp, h1 w (.inr (Same.refl w)), Oper.upon]
  exact ⟨fun _ => Same.refl w, h v hv S0 B w0 I _ w hlo (hr.put hd h2) hds⟩

theorem stepD_skip {o : Oper} {j d : Nat} {want : Bool} {v : Value} (ho : A[i]? = some o) (hg : o.guard = some (j, want)) (hj : (A[j]?).bind (·.dst) = some d) (hd : Nat.blt d st.nt = true)
    (hv : get d st.tm = .lit v) (hb : asks v want = false) (hdst : ∀ d, o.dst = some d → Nat.blt d st.nt = true) (h : Drawn P f Q k A n (L.setIfInBounds i true) (match o.dst with | some d => st.set d (.lit undef) | none => st)) :
    StepD P f Q k A n L i st := by
  intro S0 B w0 I a w hlo hr hds
  have hw : Region.wanted o (yielded A a.tmps) = false := hr.yieldL hj hd hv hg hb
  unfold wpOp
  simp only [ho]
  rw [if_neg (by rw [hw]; simp)]
  refine ⟨fun _ => Same.refl w, h S0 B w0 I _ w hlo ?_ ((put_defers _ _ _).trans hds)⟩
  cases hdd : o.dst with
  | none => exact hr
  | some d => exact hr.put (hdst d hdd) (.std (.lit _))

theorem stepD_op {d : Nat} {op : Op} {t : Nat} {pos : String} {af : Array Edge} {g : Option (Nat × Bool)} {v : AV} (ho : A[i]? = some ⟨some d, op, t, pos, af, g⟩) (hw : Want A st g) (hd : Nat.blt d st.nt = true)
    (hop : OpOK P st ⟨some d, op, t, pos, af, g⟩ v st') (h : Drawn P f Q k A n (L.setIfInBounds i true) (st'.set d v)) : StepD P f Q k A n L i st := by
  intro S0 B w0 I a w hlo hr hds
  obtain ⟨hn, hop⟩ := hop
  obtain ⟨x, w', I', h1, h2, h3, h4⟩ := hop S0 B w0 I a w hr
  unfold wpOp
  simp only [ho]
  rw [if_pos (hr.wanted hw)]
  refine .inl ?_
  simp only [Oper.wp, h1, Oper.upon]
  exact ⟨fun hk => h4 (by simpa [kpAt, ho] using hk), h S0 B w0 I' _ w' hlo (h2.put (by rw [hn]; exact hd) h3) hds⟩

theorem stepD_do {op : Op} {t : Nat} {pos : String} {af : Array Edge} {g : Option (Nat × Bool)} (ho : A[i]? = some ⟨none, op, t, pos, af, g⟩) (hw : Want A st g) (hkp : kp op = false)
    (hop : OpDo P st ⟨none, op, t, pos, af, g⟩ st') (h : Drawn P f Q k A n (L.setIfInBounds i true) st') : StepD P f Q k A n L i st := by
  intro S0 B w0 I a w hlo hr hds
  obtain ⟨w', I', h1, h2⟩ := hop S0 B w0 I a w hr
  unfold wpOp
  simp only [ho]
  rw [if_pos (hr.wanted hw)]
  refine .inl ?_
  simp only [Oper.wp, h1, Oper.upon]
  exact ⟨fun hk => absurd hk (by simp [kpAt, ho, hkp]), h S0 B w0 I' _ w' hlo h2 hds⟩

theorem stepD_call {d t g : Nat} {pos : String} {af : Array Edge} {gd : Option (Nat × Bool)} {xs : Array Operand} {ts : Array Nat} {fn : Func} {c : Code} {Qg : AV → Prop} {as : List AV}
    (ho : A[i]? = some ⟨some d, .call { callee := .value (.func g), args := xs, argTypes := ts }, t, pos, af, gd⟩) (hw : Want A st gd) (hd : Nat.blt d st.nt = true)
    (hg : P.funcs[g]? = some fn) (hb : fn.body = some c) (hn : (fn.name == "runtime.NumGoroutine") = false) (has : xs.toList.map st.ev = as) (hstd : as.all AV.std = true) (hgood : GoodT P (tabs st.hp) g as Qg)
    (h : ∀ r, Qg r → r.flat3 = true ∧ Drawn P f Q k A n (L.setIfInBounds i true) ((st.back r).set d (imp st.nx r).1)) : StepD P f Q k A n L i st := by
  intro S0 B w0 I a w hlo hr hds
  unfold wpOp
  simp only [ho]
  rw [if_pos (hr.wanted hw)]
  refine .inl ?_
  have hx : (execOp a.eval ⟨some d, .call { callee := .value (.func g), args := xs, argTypes := ts }, t, pos, af, gd⟩).run P w = .ok (.enter g (xs.toList.map a.eval).toArray) w := by
    have e0 : xs.map a.eval = (xs.toList.map a.eval).toArray := by rw [← Array.toList_map, Array.toArray_toList]
    have e1 : a.eval (.func g) = .func (.func g) #[] #[] := rfl
    simp only [execOp, resolve, e0, e1, Deferred.ofValue, Sem.run_bind, Sem.run_pure, Result.andThen_ok, invoke]
    rw [show (#[] ++ (xs.toList.map a.eval).toArray ++ #[] : Array Value) = (xs.toList.map a.eval).toArray from by simp]
    exact run_callFunc hg hb hn _
  simp only [Oper.wp, hx, Oper.upon]
  have h1 := hr.evs xs.toList
  rw [has] at h1
  have htb : TabsOK I.S w (tabs st.hp) := by obtain ⟨T, k1, _, _⟩ := hr.hp; exact tabs_ok k1
  refine (hgood I.S w _ hr.ss htb (h1.l_stds hstd)).mono fun e w' ⟨r, hq, hfin⟩ => ?_
  obtain ⟨hfl, hrest⟩ := h r hq
  have hbl := hfin
  obtain ⟨v, I', rfl, hr', hrep⟩ := hr.back hfin hfl
  obtain ⟨_, _, _, _, _, _, _, _, _, _, hbl⟩ := hbl
  exact ⟨fun _ b hb => hbl.block b hb, hrest S0 B w0 I' _ w' hlo (hr'.put (d := d) (by exact hd) hrep) hds⟩

theorem stepD_unf {id : Nat} {hp' : List (Nat × Row)} (h : unf1 id st.hp = some hp') (hd : StepD P f Q k A n L i ⟨st.tm, hp', st.nx, st.nt⟩) : StepD P f Q k A n L i st :=
  fun S0 B w0 I a w hlo hr hds => hd S0 B w0 I a w hlo (hr.unf h) hds

theorem stepD_guard {d : Nat} {b : Bool} (hd : Nat.blt d st.nt = true) (hv : get d st.tm = .lit (.bool b))
    (ht : b = true → StepD P f Q k A n L i (st.set d (.lit (.bool true)))) (hf : b = false → StepD P f Q k A n L i (st.set d (.lit (.bool false)))) : StepD P f Q k A n L i st := by
  intro S0 B w0 I a w hlo hr hds
  have hx := hr.tm d
  have hx2 := hx
  rw [hv] at hx2
  have hx3 := hx2.lit_inv
  have key : Rel S0 B w0 I (st.set d (.lit (.bool b))) a w := by
    refine { hr with tm := fun j => ?_ }
    show Rep I w (.v (get j ((d, _) :: st.tm)) _)
    rw [get_cons]
    by_cases e : d = j
    · subst e; rw [if_pos rfl, hx3]; exact .std (.lit _)
    · rw [if_neg e]; exact hr.tm j
  cases b
  · exact hf rfl S0 B w0 I a w hlo key hds
  · exact ht rfl S0 B w0 I a w hlo key hds
end

section
variable {P : Program} {f : Nat} {Q : Post} {k : List Item} {st : St} {A : Array Oper} {i : Nat} {rest : List Nat}

/-- Behind a call that only looked. -/
theorem Rel.backV {S0 : Interp} {B : Nat} {w0 : World} {I : Interp} {a : Act} {w : World} (hr : Rel S0 B w0 I st a w) {T : List Nat} (t1 : HeapOK I w st.hp T) (t2 : T.Nodup) (t3 : ∀ b ∈ T, B ≤ b ∧ ¬ I.S b ∧ b < w.heap.size) {r : AV} {e : Ending} {w' : World}
    (hf : Fin (fun b => I.S b ∨ b ∈ T) w.heap.size w r e w') (hfl : r.flat3 = true) (hfree : r.Free) : ∃ v I', e = .returned v ∧ Rel S0 B w0 I' (st.back r) a w' ∧ Rep I' w' (.v (imp st.nx r).1 v) := by
  obtain ⟨v, S, F, he, ho, hnd, hF, hSs, hS0, hSb, hbl⟩ := hf
  let I1 : Interp := { I with S := fun b => I.S b ∨ (S b ∧ w.heap.size ≤ b) }
  have e1 : Ext I w I1 w' := ⟨fun b h => .inl h, fun b hb => hbl.block b (hr.ss b hb), Nat.le_refl _, fun _ _ => rfl, fun _ _ => rfl, fun _ _ => rfl, lasts_below hbl⟩
  have ho' : Own I1.S w' (.v r v) F := hfree _ _ _ _ _ ho
  obtain ⟨I2, e2, s2, n2, r2, F2, o2, p2⟩ := imp_ok (I := I1) ho' hfl
  have hnx : I1.nx = st.nx := hr.nx
  rw [hnx] at n2 r2 o2
  refine ⟨v, I2, he, ?_, r2⟩
  have hsz := hbl.size
  have := hr.next (e1.trans e2) (hbl.mono hr.bs) (fun b hb => by
    rw [s2] at hb
    exact hb.imp id fun h => Nat.le_trans hr.bs h.2) (fun b hb => by
    rw [s2] at hb
    rcases hb with h | h
    · exact Nat.lt_of_lt_of_le (hr.ss b h) hsz
    · exact hSs b h.1)
    (hp := (imp st.nx r).2.1 ++ st.hp) ⟨F2 ++ T, o2.app (t1.mono (e1.trans e2) fun b hb => hbl.block b (t3 b hb).2.2), ?_, ?_⟩
  · rw [n2] at this; exact this
  · refine List.nodup_append.2 ⟨p2.nodup_iff.2 hnd, t2, fun x hx y hy e => ?_⟩
    subst e
    have := (hF x (p2.mem_iff.1 hx)).1
    have := (t3 x hy).2.2
    omega
  · intro b hb
    rw [s2]
    rcases List.mem_append.1 hb with hb | hb
    · have := hF b (p2.mem_iff.1 hb)
      exact ⟨Nat.le_trans hr.bs this.1, fun h => h.elim (fun h => by have := hr.ss b h; omega) (fun h => this.2.1 h.1), this.2.2⟩
    · have := t3 b hb
      exact ⟨this.1, fun h => h.elim this.2.1 (fun h => by omega), Nat.lt_of_lt_of_le this.2.2 hsz⟩

theorem exec_call {a : Act} {w : World} {dst : Option Nat} {t g : Nat} {pos : String} {af : Array Edge} {gd : Option (Nat × Bool)} {xs : Array Operand} {ts : Array Nat} {x : Operand} {cs : List Value} {fn : Func} {c : Code} (hx : a.eval x = .func (.func g) #[] cs.toArray)
    (hg : P.funcs[g]? = some fn) (hb : fn.body = some c) (hn : (fn.name == "runtime.NumGoroutine") = false) :
    (execOp a.eval ⟨dst, .call { callee := .value x, args := xs, argTypes := ts }, t, pos, af, gd⟩).run P w = .ok (.enter g (xs.toList.map a.eval ++ cs).toArray) w := by
  have e0 : xs.map a.eval = (xs.toList.map a.eval).toArray := by rw [← Array.toList_map, Array.toArray_toList]
  simp only [execOp, resolve, e0, hx, Deferred.ofValue, Sem.run_bind, Sem.run_pure, Result.andThen_ok, invoke]
  rw [show (#[] ++ (xs.toList.map a.eval).toArray ++ cs.toArray : Array Value) = (xs.toList.map a.eval ++ cs).toArray from by simp]
  exact run_callFunc hg hb hn _

/-- A call that only looks at what is one's own. -/
theorem run_callV {d t g : Nat} {pos : String} {af : Array Edge} {gd : Option (Nat × Bool)} {xs : Array Operand} {ts : Array Nat} {fn : Func} {c : Code} {Qg : AV → Prop} {as as' : List AV}
    (ho : A[i]? = some ⟨some d, .call { callee := .value (.func g), args := xs, argTypes := ts }, t, pos, af, gd⟩) (hw : Want A st gd) (hd : Nat.blt d st.nt = true)
    (hg : P.funcs[g]? = some fn) (hb : fn.body = some c) (hn : (fn.name == "runtime.NumGoroutine") = false) (has : xs.toList.map st.ev = as) (hseen : SeenL st.hp as as') (hstd : as'.all AV.std = true) (hgood : Good P g as' Qg)
    (h : ∀ r, Qg r → r.flat3 = true ∧ r.Free ∧ Run P f Q (.inRegion A rest :: k) ((st.back r).set d (imp st.nx r).1)) : Run P f Q (.inRegion A (i :: rest) :: k) st := by
  intro S0 B w0 I a w hlo hr hds b hbf hk hro cs
  have h1 := hr.evs xs.toList
  rw [has] at h1
  obtain ⟨T, t1, t2, t3⟩ := hr.hp
  have hcall := hgood (fun b => I.S b ∨ b ∈ T) w _ (fun b hb => hb.elim (hr.ss b) fun h => (t3 b h).2.2) (seen_l hseen hstd t1 h1)
  obtain ⟨e, w2, fr, ⟨r, hq, hfin⟩, hcomes, _, hleave⟩ := hcall (b.atR a (.inRegion A (i :: rest) :: k) :: cs)
  obtain ⟨hfl, hfree, hrun⟩ := h r hq
  obtain ⟨v, I', rfl, hr', hrep⟩ := hr.backV t1 t2 t3 hfin hfl hfree
  have hx := exec_call (P := P) (a := a) (w := w) (dst := some d) (t := t) (pos := pos) (af := af) (gd := gd) (xs := xs) (ts := ts) (x := .func g) (cs := []) rfl hg hb hn
  rw [List.append_nil] at hx
  have hst := enter_back ho (hr.wanted hw) hx hcomes hleave (R := fun _ _ => True)
  have hrel := hr'.put (d := d) (by exact hd) hrep
  obtain ⟨e3, w3, g1, g2⟩ := hrun S0 B w0 I' _ w2 hlo hrel hds b hbf hk hro cs
  exact ⟨e3, w3, g1, g2.of_steps hst⟩

theorem stepD_callV {n : Nat} {L : Array Bool} {d t g : Nat} {pos : String} {af : Array Edge} {gd : Option (Nat × Bool)} {xs : Array Operand} {ts : Array Nat} {fn : Func} {c : Code} {Qg : AV → Prop} {as as' : List AV}
    (ho : A[i]? = some ⟨some d, .call { callee := .value (.func g), args := xs, argTypes := ts }, t, pos, af, gd⟩) (hw : Want A st gd) (hd : Nat.blt d st.nt = true)
    (hg : P.funcs[g]? = some fn) (hb : fn.body = some c) (hn : (fn.name == "runtime.NumGoroutine") = false) (has : xs.toList.map st.ev = as) (hseen : SeenL st.hp as as') (hstd : as'.all AV.std = true) (hgood : Good P g as' Qg)
    (h : ∀ r, Qg r → r.flat3 = true ∧ r.Free ∧ Drawn P f Q k A n (L.setIfInBounds i true) ((st.back r).set d (imp st.nx r).1)) : StepD P f Q k A n L i st := by
  intro S0 B w0 I a w hlo hr hds
  unfold wpOp
  simp only [ho]
  rw [if_pos (hr.wanted hw)]
  refine .inl ?_
  have hx := exec_call (P := P) (a := a) (w := w) (dst := some d) (t := t) (pos := pos) (af := af) (gd := gd) (xs := xs) (ts := ts) (x := .func g) (cs := []) rfl hg hb hn
  rw [List.append_nil] at hx
  simp only [Oper.wp, hx, Oper.upon]
  have h1 := hr.evs xs.toList
  rw [has] at h1
  obtain ⟨T, t1, t2, t3⟩ := hr.hp
  refine (hgood (fun b => I.S b ∨ b ∈ T) w _ (fun b hb => hb.elim (hr.ss b) fun h => (t3 b h).2.2) (seen_l hseen hstd t1 h1)).mono fun e w' ⟨r, hq, hfin⟩ => ?_
  obtain ⟨hfl, hfree, hrest⟩ := h r hq
  have hbl := hfin
  obtain ⟨v, I', rfl, hr', hrep⟩ := hr.backV t1 t2 t3 hfin hfl hfree
  obtain ⟨_, _, _, _, _, _, _, _, _, _, hbl⟩ := hbl
  exact ⟨fun _ b hb => hbl.block b hb, hrest S0 B w0 I' _ w' hlo (hr'.put (d := d) (by exact hd) hrep) hds⟩
theorem Rep.fnc {I : Interp} {w : World} {g : Nat} {cs : List AV} {x : Value} (h : Rep I w (.v (.fn g cs) x)) : ∃ vs : List Value, x = .func (.func g) #[] vs.toArray ∧ Rep I w (.l cs vs) := by
  cases h with
  | std h => cases h with | fn h => exact ⟨_, rfl, h.l_rep⟩
  | fn h => exact ⟨_, rfl, h⟩

/-- A call through a function value, by a contract. -/
theorem run_callD {d t g : Nat} {pos : String} {af : Array Edge} {gd : Option (Nat × Bool)} {xs : Array Operand} {ts : Array Nat} {x : Operand} {cs : List AV} {fn : Func} {c : Code} {Qg : AV → Prop} {as as' : List AV}
    (ho : A[i]? = some ⟨some d, .call { callee := .value x, args := xs, argTypes := ts }, t, pos, af, gd⟩) (hx0 : st.ev x = .fn g cs) (hw : Want A st gd) (hd : Nat.blt d st.nt = true)
    (hg : P.funcs[g]? = some fn) (hb : fn.body = some c) (hn : (fn.name == "runtime.NumGoroutine") = false) (has : xs.toList.map st.ev ++ cs = as) (hseen : SeenL st.hp as as') (hstd : as'.all AV.std = true) (hgood : Good P g as' Qg)
    (h : ∀ r, Qg r → r.flat3 = true ∧ r.Free ∧ Run P f Q (.inRegion A rest :: k) ((st.back r).set d (imp st.nx r).1)) : Run P f Q (.inRegion A (i :: rest) :: k) st := by
  intro S0 B w0 I a w hlo hr hds b hbf hk hro cs2
  obtain ⟨vs, hxv, hcv⟩ := (hx0 ▸ hr.ev x).fnc
  have h1 := (hr.evs xs.toList).l_app hcv
  rw [has] at h1
  obtain ⟨T, t1, t2, t3⟩ := hr.hp
  have hcall := hgood (fun b => I.S b ∨ b ∈ T) w _ (fun b hb => hb.elim (hr.ss b) fun h => (t3 b h).2.2) (seen_l hseen hstd t1 h1)
  obtain ⟨e, w2, fr, ⟨r, hq, hfin⟩, hcomes, _, hleave⟩ := hcall (b.atR a (.inRegion A (i :: rest) :: k) :: cs2)
  obtain ⟨hfl, hfree, hrun⟩ := h r hq
  obtain ⟨v, I', rfl, hr', hrep⟩ := hr.backV t1 t2 t3 hfin hfl hfree
  have hx := exec_call (P := P) (a := a) (w := w) (dst := some d) (t := t) (pos := pos) (af := af) (gd := gd) (xs := xs) (ts := ts) (x := x) (cs := vs) hxv hg hb hn
  have hst := enter_back ho (hr.wanted hw) hx hcomes hleave (R := fun _ _ => True)
  have hrel := hr'.put (d := d) (by exact hd) hrep
  obtain ⟨e3, w3, g1, g2⟩ := hrun S0 B w0 I' _ w2 hlo hrel hds b hbf hk hro cs2
  exact ⟨e3, w3, g1, g2.of_steps hst⟩

theorem stepD_callD {n : Nat} {L : Array Bool} {d t g : Nat} {pos : String} {af : Array Edge} {gd : Option (Nat × Bool)} {xs : Array Operand} {ts : Array Nat} {x : Operand} {cs : List AV} {fn : Func} {c : Code} {Qg : AV → Prop} {as as' : List AV}
    (ho : A[i]? = some ⟨some d, .call { callee := .value x, args := xs, argTypes := ts }, t, pos, af, gd⟩) (hx0 : st.ev x = .fn g cs) (hw : Want A st gd) (hd : Nat.blt d st.nt = true)
    (hg : P.funcs[g]? = some fn) (hb : fn.body = some c) (hn : (fn.name == "runtime.NumGoroutine") = false) (has : xs.toList.map st.ev ++ cs = as) (hseen : SeenL st.hp as as') (hstd : as'.all AV.std = true) (hgood : Good P g as' Qg)
    (h : ∀ r, Qg r → r.flat3 = true ∧ r.Free ∧ Drawn P f Q k A n (L.setIfInBounds i true) ((st.back r).set d (imp st.nx r).1)) : StepD P f Q k A n L i st := by
  intro S0 B w0 I a w hlo hr hds
  unfold wpOp
  simp only [ho]
  rw [if_pos (hr.wanted hw)]
  refine .inl ?_
  obtain ⟨vs, hxv, hcv⟩ := (hx0 ▸ hr.ev x).fnc
  have hx := exec_call (P := P) (a := a) (w := w) (dst := some d) (t := t) (pos := pos) (af := af) (gd := gd) (xs := xs) (ts := ts) (x := x) (cs := vs) hxv hg hb hn
  simp only [Oper.wp, hx, Oper.upon]
  have h1 := (hr.evs xs.toList).l_app hcv
  rw [has] at h1
  obtain ⟨T, t1, t2, t3⟩ := hr.hp
  refine (hgood (fun b => I.S b ∨ b ∈ T) w _ (fun b hb => hb.elim (hr.ss b) fun h => (t3 b h).2.2) (seen_l hseen hstd t1 h1)).mono fun e w' ⟨r, hq, hfin⟩ => ?_
  obtain ⟨hfl, hfree, hrest⟩ := h r hq
  have hbl := hfin
  obtain ⟨v, I', rfl, hr', hrep⟩ := hr.backV t1 t2 t3 hfin hfl hfree
  obtain ⟨_, _, _, _, _, _, _, _, _, _, hbl⟩ := hbl
  exact ⟨fun _ b hb => hbl.block b hb, hrest S0 B w0 I' _ w' hlo (hr'.put (d := d) (by exact hd) hrep) hds⟩
end

/-- A frame whose heap is its caller's. -/
def inlR (K : AV → List (Nat × Row) → Nat → Prop) : Interp → Nat → World → Ending → World → Prop := fun S0 B w0 e w' => ∃ v r hp nx I', e = .returned v ∧ K r hp nx ∧ I'.nx = nx ∧ Rep I' w' (.v r v) ∧ HOK B I' w' hp ∧ (∀ b, I'.S b → b < w'.heap.size) ∧ Ext S0 w0 I' w' ∧
  (∀ b, I'.S b → S0.S b ∨ B ≤ b) ∧ Below B w0 w' ∧ B ≤ w'.heap.size
def Post.inl (lo : Nat) (K : AV → List (Nat × Row) → Nat → Prop) : Post := { lo := lo, R := inlR K }
/-- A result, as it is. -/
def ResI (P : Program) (st : St) (rv : ResultVar) (r : AV) : Prop :=
  ∀ S0 B w0 I a w, Rel S0 B w0 I st a w → ∃ x, (resVar rv a.tmps).run P w = .ok x w ∧ Rep I w (.v r x)

inductive ResIL (P : Program) (st : St) : List ResultVar → List AV → Prop
  | nil : ResIL P st [] []
  | cons {rv rvs r rs} : ResI P st rv r → ResIL P st rvs rs → ResIL P st (rv :: rvs) (r :: rs)

section
variable {P : Program} {f : Nat} {k : List Item} {st : St} {A : Array Oper} {i : Nat} {rest : List Nat}

theorem resI_tmp {d : Nat} : ResI P st (.tmp d) (get d st.tm) := fun S0 B w0 I a w hr => ⟨_, rfl, hr.tm d⟩

theorem resI_cell {d t id : Nat} {i : TyI} {cs : List AV} {v : AV} {r : List AV} (hv : get d st.tm = .hp id 0) (ht : TyOK P t i) (ha : i.isAgg = false) (hrow : row id st.hp = some (.var cs)) (hcs : cs = v :: r) (hp : v.plain = true) : ResI P st (.cell d t) v := by
  intro S0 B w0 I a w hr
  have h1 := hr.tm d
  rw [hv] at h1
  obtain ⟨b, of, hi, hat, e⟩ := h1.hp_inv
  obtain ⟨T, k1, k2, k3⟩ := hr.hp
  obtain ⟨F, T', g1, g2, g3⟩ := k1.take hrow
  obtain ⟨c, G, _, hb, hs, hvc, rfl⟩ := g1.var_inv hat
  subst hcs
  cases hvc with
  | cons hc hl _ => exact ⟨_, by simp only [resVar, e, asAddr, loadVar, Sem.run_bind, Sem.run_pure, Result.andThen_ok, run_isAgg ht, ha, if_false, Bool.false_eq_true, run_load, Nat.add_zero, hc], hl.rep hp⟩

theorem ResIL.run {rvs : List ResultVar} {rs : List AV} (h : ResIL P st rvs rs) {S0 : Interp} {B : Nat} {w0 : World} {I : Interp} {a : Act} {w : World} (hr : Rel S0 B w0 I st a w) :
    ∃ xs, (rvs.mapM fun rv => resVar rv a.tmps).run P w = .ok xs w ∧ Rep I w (.l rs xs) ∧ xs.length = rvs.length := by
  induction h with
  | nil => exact ⟨[], by simp, .nil, rfl⟩
  | cons h _ ih =>
    obtain ⟨x, h1, h2⟩ := h S0 B w0 I a w hr
    obtain ⟨xs, k1, k2, k3⟩ := ih
    exact ⟨x :: xs, by simp only [List.mapM_cons, Sem.run_bind, h1, Result.andThen_ok, k1, Sem.run_pure], .cons h2 k2, by simp [k3]⟩

theorem leave_inl {fn : Func} {rs : List AV} {lo : Nat} {K : AV → List (Nat × Row) → Nat → Prop} (hf : P.funcs[f]? = some fn) (h : ResIL P st fn.results.toList rs) (hk2 : K (asRes rs) st.hp st.nx) {S0 : Interp} {B : Nat} {w0 : World} {I : Interp} {a : Act} {w : World} (hr : Rel S0 B w0 I st a w)
    (hds : a.defers = []) (b : Frame) (hb : b.fn = f) (hk : b.kind = .normal) (todo : List Item) : ∃ v, (Post.inl lo K).R S0 B w0 (.returned v) w ∧ Frame.leaving P { b.atR a todo with mode := .returning } w (.returned v) := by
  obtain ⟨xs, h1, h2, h3⟩ := h.run hr
  have hres : (results fn a.tmps).run P w = .ok (if h : xs.toArray.size = 1 then xs.toArray[0] else .tuple xs.toArray) w := by
    have e : results fn a.tmps = (do let vs ← fn.results.mapM (fun rv => resVar rv a.tmps); pure (if h : vs.size = 1 then vs[0] else .tuple vs)) := rfl
    rw [e, ← Array.toArray_toList (xs := fn.results), List.mapM_toArray]
    simp only [Sem.run_bind, Sem.run_map, h1, Result.andThen_ok, Sem.run_pure]
  refine ⟨_, ⟨_, asRes rs, st.hp, st.nx, I, rfl, hk2, hr.nx, ?_, hr.hp, hr.ss, hr.ext, hr.sb, hr.bl, hr.bs⟩, rfl, hds, hk, fn, by subst hb; exact hf, hres⟩
  clear hres
  cases h2 with
  | nil => exact .tup .nil
  | cons g1 g2 =>
    cases g2 with
    | nil => simpa [asRes] using g1
    | cons g2 g3 => simpa [asRes] using Rep.tup (.cons g1 (.cons g2 g3))

theorem run_retI {fn : Func} {rs : List AV} {lo : Nat} {K : AV → List (Nat × Row) → Nat → Prop} (hf : P.funcs[f]? = some fn) (h : ResIL P st fn.results.toList rs) (hk2 : K (asRes rs) st.hp st.nx) : Run P f (Post.inl lo K) (.code .ret :: k) st ∧ Run P f (Post.inl lo K) [] st := by
  refine ⟨fun S0 B w0 I a w hlo hr hds b hb hk hro cs => ?_, fun S0 B w0 I a w hlo hr hds b hb hk hro cs => ?_⟩
  · obtain ⟨v, h1, h2⟩ := leave_inl (lo := lo) hf h hk2 hr hds b hb hk (.code .ret :: k)
    exact ⟨_, w, h1, _, Steps.one (stepR_ret hro), hb, h2⟩
  · obtain ⟨v, h1, h2⟩ := leave_inl (lo := lo) hf h hk2 hr hds b hb hk []
    exact ⟨_, w, h1, _, Steps.one (stepR_end hro), hb, h2⟩

theorem Rel.evl {S0 : Interp} {B : Nat} {w0 : World} {I : Interp} {a : Act} {w : World} (h : Rel S0 B w0 I st a w) {x : Operand} {g : Nat} {cs : List AV} (hx : st.ev x = .fn g cs) : ∃ vs : List Value, a.eval x = .func (.func g) #[] vs.toArray ∧ Rep I w (.l cs vs) := by
  have := h.ev x
  rw [hx] at this
  cases h2 : a.eval x
  all_goals rw [h2] at this
  all_goals first
    | (cases this with
      | std h3 => cases h3 with | fn h3 => exact ⟨_, rfl, h3.l_rep⟩
      | fn h3 => exact ⟨_, rfl, h3⟩)
    | (cases this with | std h3 => cases h3)

def slots : Nat → List AV → List (Nat × AV)
  | _, [] => []
  | s, a :: as => (s, a) :: slots (s + 1) as

theorem slots_rep {I : Interp} {w : World} : ∀ {as : List AV} {vs : List Value} {s : Nat}, Rep I w (.l as vs) → ∀ d, (s ≤ d ∧ ∃ x, vs[d - s]? = some x ∧ Rep I w (.v (get d (slots s as)) x)) ∨ get d (slots s as) = .any
  | [], vs, s, h, d => .inr rfl
  | a :: as, vs, s, h, d => by
    cases h with
    | cons h1 h2 =>
      simp only [slots]
      rw [get_cons]
      by_cases e : s = d
      · subst e; rename_i y _; exact .inl ⟨Nat.le_refl _, y, by simp, by rw [if_pos rfl]; exact h1⟩
      · rw [if_neg e]
        rcases slots_rep (s := s + 1) h2 d with ⟨g1, x, g2, g3⟩ | g
        · exact .inl ⟨by omega, x, by rw [show d - s = (d - (s + 1)) + 1 from by omega]; simpa using g2, g3⟩
        · exact .inr g

/-- A call with the heap, as the machine makes it. -/
theorem calls_inl {S0 : Interp} {B : Nat} {w0 : World} {I : Interp} {a : Act} {w : World} (hr : Rel S0 B w0 I st a w) {g : Nat} {fn : Func} {c : Code} {as : List AV} {us : List Value} {K : AV → List (Nat × Row) → Nat → Prop}
    (hg : P.funcs[g]? = some fn) (hb : fn.body = some c) (hnt : Nat.ble as.length fn.ntmps = true) (hargs : Rep I w (.l as us)) (hrun : Run P g (Post.inl st.nx K) [.code c] ⟨slots 0 as, st.hp, st.nx, fn.ntmps⟩) :
    Calls P g us.toArray w fun e w2 => ∃ v r hp nx I', e = .returned v ∧ K r hp nx ∧ Rep I' w2 (.v r v) ∧ Rel S0 B w0 I' ⟨st.tm, hp, nx, st.nt⟩ a w2 ∧ (∀ b, b < w.heap.size → (∀ T, HeapOK I w st.hp T → b ∉ T) → True) := by
  intro fs
  have hnt' := Nat.le_of_ble_eq_true hnt
  have hlen := hargs.l_len
  let b2 : Frame := { (default : Frame) with fn := g, kind := .normal, roundOf := none }
  have henter : Frame.enter P g us.toArray .normal = b2.atR { tmps := us.toArray ++ Array.replicate (fn.ntmps - us.toArray.size) undef, defers := [] } [.code c] := by
    simp [Frame.enter, Frame.atR, hg, hb, b2]
  obtain ⟨T, t1, t2, t3⟩ := hr.hp
  have hst0 : Rel I B w I ⟨slots 0 as, st.hp, st.nx, fn.ntmps⟩ { tmps := us.toArray ++ Array.replicate (fn.ntmps - us.toArray.size) undef, defers := [] } w := by
    refine ⟨fun d => ?_, by simp; omega, hr.nx, ⟨T, t1, t2, t3⟩, hr.ss, Ext.refl _ _, fun _ h => .inl h, Below.refl _ _, hr.bs⟩
    show Rep I w (.v (get d (slots 0 as)) _)
    rcases slots_rep (s := 0) hargs d with ⟨_, y, g2, g3⟩ | g
    · have : (us.toArray ++ Array.replicate (fn.ntmps - us.toArray.size) undef).getD d undef = y := by
        rw [Nat.sub_zero] at g2
        have hd2 : d < us.length := (List.getElem?_eq_some_iff.1 g2).1
        simp [Array.getD_eq_getD_getElem?, Array.getElem?_append, hd2]
        obtain ⟨_, g2⟩ := List.getElem?_eq_some_iff.1 g2
        exact g2
      show Rep I w (.v _ ((us.toArray ++ Array.replicate (fn.ntmps - us.toArray.size) undef).getD d undef))
      rw [this]; exact g3
    · rw [g]; exact .std (.any _)
  obtain ⟨e, w2, hR, fr, hcomes, hfn, hleave⟩ := hrun I B w I _ w hr.nx hst0 rfl b2 rfl rfl rfl fs
  obtain ⟨v, r, hp', nx', I', rfl, hK, hnx, hrep, hhp, hss, hext, hsb, hbl, hbs⟩ := hR
  rw [← henter] at hcomes
  exact ⟨_, w2, fr, ⟨v, r, hp', nx', I', rfl, hK, hrep, ⟨fun d => (hr.tm d).mono hext, hr.nt, hnx, hhp, hss, hr.ext.trans hext, fun b hb => (hsb b hb).elim (hr.sb b) .inr, hr.bl.trans hbl, hbs⟩, fun _ _ _ => trivial⟩, hcomes, hfn, hleave⟩

/-- A call with the heap. -/
theorem run_inl {Q : Post} {d t g : Nat} {pos : String} {af : Array Edge} {gd : Option (Nat × Bool)} {xs : Array Operand} {ts : Array Nat} {x : Operand} {fn : Func} {c : Code} {as cs : List AV} {K : AV → List (Nat × Row) → Nat → Prop}
    (ho : A[i]? = some ⟨some d, .call { callee := .value x, args := xs, argTypes := ts }, t, pos, af, gd⟩) (hw : Want A st gd) (hd : Nat.blt d st.nt = true) (hx : st.ev x = .fn g cs)
    (hg : P.funcs[g]? = some fn) (hb : fn.body = some c) (hn : (fn.name == "runtime.NumGoroutine") = false) (has : xs.toList.map st.ev ++ cs = as) (hnt : Nat.ble as.length fn.ntmps = true)
    (hrun : Run P g (Post.inl st.nx K) [.code c] ⟨slots 0 as, st.hp, st.nx, fn.ntmps⟩) (h : ∀ r hp nx, K r hp nx → Run P f Q (.inRegion A rest :: k) ⟨(d, r) :: st.tm, hp, nx, st.nt⟩) : Run P f Q (.inRegion A (i :: rest) :: k) st := by
  intro S0 B w0 I a w hlo hr hds b hbf hk hro fs
  obtain ⟨vs, e1, e2⟩ := hr.evl hx
  have hargs := (hr.evs xs.toList).l_app e2
  rw [has] at hargs
  have hxx := exec_call (P := P) (a := a) (w := w) (dst := some d) (t := t) (pos := pos) (af := af) (gd := gd) (xs := xs) (ts := ts) (x := x) (cs := vs) e1 hg hb hn
  obtain ⟨e, w2, fr, ⟨v, r, hp', nx', I', rfl, hK, hrep, hrel, _⟩, hcomes, _, hleave⟩ := calls_inl hr hg hb hnt hargs hrun (b.atR a (.inRegion A (i :: rest) :: k) :: fs)
  have hst := enter_back ho (hr.wanted hw) hxx hcomes hleave (R := fun _ _ => True)
  obtain ⟨e3, w3, g1, g2⟩ := h r hp' nx' hK S0 B w0 I' _ w2 hlo (hrel.put (d := d) hd hrep) hds b hbf hk hro fs
  exact ⟨e3, w3, g1, g2.of_steps hst⟩

theorem stepD_inl {Q : Post} {n : Nat} {L : Array Bool} {d t g : Nat} {pos : String} {af : Array Edge} {gd : Option (Nat × Bool)} {xs : Array Operand} {ts : Array Nat} {x : Operand} {fn : Func} {c : Code} {as cs : List AV} {K : AV → List (Nat × Row) → Nat → Prop}
    (ho : A[i]? = some ⟨some d, .call { callee := .value x, args := xs, argTypes := ts }, t, pos, af, gd⟩) (hw : Want A st gd) (hd : Nat.blt d st.nt = true) (hx : st.ev x = .fn g cs) (hkp : kp (.call { callee := .value x, args := xs, argTypes := ts }) = false)
    (hg : P.funcs[g]? = some fn) (hb : fn.body = some c) (hn : (fn.name == "runtime.NumGoroutine") = false) (has : xs.toList.map st.ev ++ cs = as) (hnt : Nat.ble as.length fn.ntmps = true)
    (hrun : Run P g (Post.inl st.nx K) [.code c] ⟨slots 0 as, st.hp, st.nx, fn.ntmps⟩) (h : ∀ r hp nx, K r hp nx → Drawn P f Q k A n (L.setIfInBounds i true) ⟨(d, r) :: st.tm, hp, nx, st.nt⟩) : StepD P f Q k A n L i st := by
  intro S0 B w0 I a w hlo hr hds
  obtain ⟨vs, e1, e2⟩ := hr.evl hx
  have hargs := (hr.evs xs.toList).l_app e2
  rw [has] at hargs
  have hxx := exec_call (P := P) (a := a) (w := w) (dst := some d) (t := t) (pos := pos) (af := af) (gd := gd) (xs := xs) (ts := ts) (x := x) (cs := vs) e1 hg hb hn
  unfold wpOp
  simp only [ho]
  rw [if_pos (hr.wanted hw)]
  refine .inl ?_
  simp only [Oper.wp, hxx, Oper.upon]
  refine (calls_inl hr hg hb hnt hargs hrun).mono fun e w' ⟨v, r, hp', nx', I', he, hK, hrep, hrel, _⟩ => ?_
  subst he
  exact ⟨fun hk => absurd hk (by simp [kpAt, ho, hkp]), h r hp' nx' hK S0 B w0 I' _ w' hlo (hrel.put (d := d) hd hrep) hds⟩

/-- What was an own row or variable is told as what stays, wherever it is told. -/
def toTM (p : AV → Bool) (v : AV) : List (Nat × AV) → List (Nat × AV)
  | [] => []
  | (d, a) :: l => (d, bif p a then v else a) :: toTM p v l
theorem get_toTM (p : AV → Bool) (v : AV) (hp : p .any = false) : ∀ (l : List (Nat × AV)) (d : Nat), get d (toTM p v l) = bif p (get d l) then v else get d l
  | [], d => by show AV.any = _; rw [show get d [] = AV.any from rfl, hp]; rfl
  | (j, a) :: l, d => by
    simp only [toTM]
    rw [get_cons, get_cons]
    by_cases e : j = d
    · rw [if_pos e, if_pos e]
    · rw [if_neg e, if_neg e]; exact get_toTM p v hp l d
def isHw (id : Nat) : AV → Bool
  | .hw j => Nat.beq j id
  | _ => false
def isHp (id : Nat) : AV → Bool
  | .hp j 0 => Nat.beq j id
  | _ => false
theorem isHw_eq {id : Nat} {a : AV} (h : isHw id a = true) : a = .hw id := by
  cases a <;> simp [isHw] at h
  rw [h]
theorem isHp_eq {id : Nat} {a : AV} (h : isHp id a = true) : a = .hp id 0 := by
  unfold isHp at h
  split at h
  · rw [Nat.eq_of_beq_eq_true h]
  · cases h

theorem run_frzR {Q : Post} {todo : List Item} {tm : List (Nat × AV)} {hp : List (Nat × Row)} {nx nt : Nat} (id : Nat) {sz : Nat} {xs xs' : List (List AV)} (hrow : row id hp = some (.row sz xs)) (hz : AV.fzLL xs = xs')
    (h : Run P f Q todo ⟨toTM (isHw id) (.sl false sz xs') tm, rem id hp, nx, nt⟩) : Run P f Q todo ⟨tm, hp, nx, nt⟩ := by
  intro S0 B w0 I a w hlo hr
  obtain ⟨T, t1, t2, t3⟩ := hr.hp
  obtain ⟨F, T', g1, g2, g3⟩ := t1.take hrow
  have hr2 := hr.freeze t2 t3 g2 g3
  refine h S0 B w0 _ a w hlo { hr2 with tm := fun j => ?_ }
  show Rep _ w (.v (get j (toTM (isHw id) _ tm)) _)
  rw [get_toTM _ _ rfl]
  cases hb : isHw id (get j tm) with
  | false => exact hr2.tm j
  | true =>
    have hx := hr.tm j
    rw [isHw_eq hb] at hx
    have := (hw_own g1 hx).freeze
    subst hz
    exact .std (this.grow fun z hz => hz)

theorem run_frzV {Q : Post} {todo : List Item} {tm : List (Nat × AV)} {hp : List (Nat × Row)} {nx nt : Nat} (id : Nat) {cs cs' : List AV} (hrow : row id hp = some (.var cs)) (hc : cs.all AV.closed = true) (hz : AV.fzL cs = cs')
    (h : Run P f Q todo ⟨toTM (isHp id) (.pt cs') tm, rem id hp, nx, nt⟩) : Run P f Q todo ⟨tm, hp, nx, nt⟩ := by
  subst hz
  intro S0 B w0 I a w hlo hr
  obtain ⟨T, t1, t2, t3⟩ := hr.hp
  obtain ⟨F, T', g1, g2, g3⟩ := t1.take hrow
  have hr2 := hr.freeze t2 t3 g2 g3
  refine h S0 B w0 _ a w hlo { hr2 with tm := fun j => ?_ }
  show Rep _ w (.v (get j (toTM (isHp id) _ tm)) _)
  rw [get_toTM _ _ rfl]
  cases hb : isHp id (get j tm) with
  | false => exact hr2.tm j
  | true =>
    have hx := hr.tm j
    rw [isHp_eq hb] at hx
    obtain ⟨b, o, hid, ha, e⟩ := hx.hp_inv
    obtain ⟨c, G, _, hb, hs, hvc, rfl⟩ := g1.var_inv ha
    have hstd := (hvc.own hc).freeze
    rw [e]
    exact .std (.pt (.inr (List.mem_cons_self ..)) (hstd.grow fun z hz => hz.imp (fun h => h) (List.mem_cons_of_mem _)))
end
end Go.Ax

/- Quotients, remainders, words' bits, shifts, conversions between kinds of numbers. -/
namespace Go.Ax
section
variable {P : Program} {st : St}
theorem rd_quo {o : Oper} {t t2 : Nat} {x y : Operand} {k : IntKind} {m n : Int} (h : o.op = .binOp .quo t x y t2) (hx : st.ev x = .lit (.int k m)) (hy : st.ev y = .lit (.int k n)) (hn : n ≠ 0) : Reads P st o (.lit (.int k (k.wrap (m.tdiv n)))) := by
  refine rd_pure fun S0 B w0 I a w1 hr w => ?_
  have h1 := hr.ev x
  have h2 := hr.ev y
  rw [hx] at h1; rw [hy] at h2
  simp [execOp, h, h1.lit_inv, h2.lit_inv, eqGuard, binOp, Op.intDiv, hn, Sem.run, pure, bind, Sem.bind]
theorem rd_rem {o : Oper} {t t2 : Nat} {x y : Operand} {k : IntKind} {m n : Int} (h : o.op = .binOp .rem t x y t2) (hx : st.ev x = .lit (.int k m)) (hy : st.ev y = .lit (.int k n)) (hn : n ≠ 0) : Reads P st o (.lit (.int k (m.tmod n))) := by
  refine rd_pure fun S0 B w0 I a w1 hr w => ?_
  have h1 := hr.ev x
  have h2 := hr.ev y
  rw [hx] at h1; rw [hy] at h2
  simp [execOp, h, h1.lit_inv, h2.lit_inv, eqGuard, binOp, Op.intDiv, hn, Sem.run, pure, bind, Sem.bind]
theorem rd_or {o : Oper} {t t2 : Nat} {x y : Operand} {k : IntKind} {m n : Int} (h : o.op = .binOp .or t x y t2) (hx : st.ev x = .lit (.int k m)) (hy : st.ev y = .lit (.int k n)) :
    Reads P st o (.lit (.int k (k.wrap (BitVec.ofInt k.bits m ||| BitVec.ofInt k.bits n).toNat))) := by
  refine rd_pure fun S0 B w0 I a w1 hr w => ?_
  have h1 := hr.ev x
  have h2 := hr.ev y
  rw [hx] at h1; rw [hy] at h2
  simp [execOp, h, h1.lit_inv, h2.lit_inv, eqGuard, binOp, Op.intBits, Sem.run, pure, bind, Sem.bind]
theorem rd_xor {o : Oper} {t t2 : Nat} {x y : Operand} {k : IntKind} {m n : Int} (h : o.op = .binOp .xor t x y t2) (hx : st.ev x = .lit (.int k m)) (hy : st.ev y = .lit (.int k n)) :
    Reads P st o (.lit (.int k (k.wrap (BitVec.ofInt k.bits m ^^^ BitVec.ofInt k.bits n).toNat))) := by
  refine rd_pure fun S0 B w0 I a w1 hr w => ?_
  have h1 := hr.ev x
  have h2 := hr.ev y
  rw [hx] at h1; rw [hy] at h2
  simp [execOp, h, h1.lit_inv, h2.lit_inv, eqGuard, binOp, Op.intBits, Sem.run, pure, bind, Sem.bind]
theorem rd_andNot {o : Oper} {t t2 : Nat} {x y : Operand} {k : IntKind} {m n : Int} (h : o.op = .binOp .andNot t x y t2) (hx : st.ev x = .lit (.int k m)) (hy : st.ev y = .lit (.int k n)) :
    Reads P st o (.lit (.int k (k.wrap (BitVec.ofInt k.bits m &&& ~~~BitVec.ofInt k.bits n).toNat))) := by
  refine rd_pure fun S0 B w0 I a w1 hr w => ?_
  have h1 := hr.ev x
  have h2 := hr.ev y
  rw [hx] at h1; rw [hy] at h2
  simp [execOp, h, h1.lit_inv, h2.lit_inv, eqGuard, binOp, Op.intBits, Sem.run, pure, bind, Sem.bind]
theorem rd_shl {o : Oper} {t t2 : Nat} {x y : Operand} {k k2 : IntKind} {m n : Int} (h : o.op = .binOp .shl t x y t2) (hx : st.ev x = .lit (.int k m)) (hy : st.ev y = .lit (.int k2 n)) (hn : 0 ≤ n) :
    Reads P st o (.lit (.int k (k.wrap (m * 2 ^ min n.toNat k.bits)))) := by
  refine rd_pure fun S0 B w0 I a w1 hr w => ?_
  have h1 := hr.ev x
  have h2 := hr.ev y
  rw [hx] at h1; rw [hy] at h2
  have h3 : ¬ n < 0 := by omega
  simp [execOp, h, h1.lit_inv, h2.lit_inv, eqGuard, binOp, Op.shift, h3, Sem.run, pure, bind, Sem.bind]
theorem rd_shr {o : Oper} {t t2 : Nat} {x y : Operand} {k k2 : IntKind} {m n : Int} (h : o.op = .binOp .shr t x y t2) (hx : st.ev x = .lit (.int k m)) (hy : st.ev y = .lit (.int k2 n)) (hn : 0 ≤ n) :
    Reads P st o (.lit (.int k (m.fdiv (2 ^ min n.toNat k.bits)))) := by
  refine rd_pure fun S0 B w0 I a w1 hr w => ?_
  have h1 := hr.ev x
  have h2 := hr.ev y
  rw [hx] at h1; rw [hy] at h2
  have h3 : ¬ n < 0 := by omega
  simp [execOp, h, h1.lit_inv, h2.lit_inv, eqGuard, binOp, Op.shift, h3, Sem.run, pure, bind, Sem.bind]
theorem rd_conv {o : Oper} {t t2 : Nat} {x : Operand} {d : TypeDesc} {k k2 : IntKind} {n : Int} (h : o.op = .convert t t2 x) (ht : P.underlying t = some d) (ht2 : P.underlying t2 = some (.int k2)) (hx : st.ev x = .lit (.int k n)) :
    Reads P st o (.lit (.int k2 (k2.wrap n))) := by
  refine rd_pure fun S0 B w0 I a w1 hr w => ?_
  have h1 := hr.ev x
  rw [hx] at h1
  simp [execOp, h, h1.lit_inv, convert, Sem.run_bind, run_under ht, run_under ht2, Conv.intToInt]
variable {o : Oper}
theorem TyOK.chanE {t e : Nat} {d : ChanDir} {i : TyI} (h : TyOK P t i) (hd : i.td = .td (.chan d e)) : P.underlying t = some (.chan d e) := by
  obtain ⟨h, _⟩ := h; rw [hd] at h; exact h.1

theorem ok_makeChanO {t e : Nat} {d : ChanDir} {x : Operand} {it ie : TyI} {kk : IntKind} {n : Int} (h : o.op = .makeChan t x) (ht : TyOK P t it) (hd : it.td = .td (.chan d e)) (he : TyOK P e ie) (hx : st.ev x = .lit (.int kk n)) (h0 : 0 ≤ n) (h1 : n ≤ 1000000000)
    (hb : ie.bytes = 8) : OpOK P st o (.hc st.nx) ⟨st.tm, (st.nx, .chn n.toNat []) :: st.hp, st.nx + 1, st.nt⟩ := by
  refine ⟨rfl, fun S0 B w0 I a w hr => ?_⟩
  have g2 := hr.ev x
  rw [hx] at g2
  obtain ⟨T, h1', h2, h3⟩ := hr.hp
  let w1 : World := { w with heap := w.heap.push (.chan n.toNat #[] false 0 0 false) }
  have hold : ∀ b, b < w.heap.size → w1.heap[b]? = w.heap[b]? := fun b hb => heap_push _ _ _ hb
  have he1 : Ext I w (I.add (some (w.heap.size, 0)) 0 0) w1 := .add _ _ _ (fun b hb => hold b (hr.ss b hb)) (.push _ _)
  have hnx : I.nx = st.nx := hr.nx
  have hn : (I.add (some (w.heap.size, 0)) 0 0).nx = st.nx + 1 := by show I.nx + 1 = _; rw [hnx]
  have hat : (I.add (some (w.heap.size, 0)) 0 0).at_ st.nx = some (w.heap.size, 0) := by simp [Interp.add, hnx]
  have hrow : RowOK (I.add (some (w.heap.size, 0)) 0 0) w1 st.nx (.chn n.toNat []) [w.heap.size] :=
    .chn (buf := #[]) (s := 0) (rc := 0) (by rw [hn]; omega) hat (by simp [w1]) rfl
  refine ⟨.chan (some w.heap.size), w1, _, ?_, ?_, .hc (by rw [hn]; omega) hat, fun _ b hb => hold b hb⟩
  · obtain ⟨_, _, info, hi1, hi2, hi3, _⟩ := he
    have hmax : ¬ (n < 0 ∨ n > IntKind.i64.max ∨ (info.bytes : Int) * n > 2 ^ 48 - 112) := by
      have : IntKind.i64.max = 9223372036854775807 := by decide
      rw [this, hi3, hb]; omega
    simp only [execOp, h, Instr.makeChan, g2.lit_inv, asInt, asIntOf, Sem.run_bind, Sem.run_pure, Result.andThen_ok, run_under (ht.chanE hd), typeInfo, run_program, hi1, hmax, if_false, run_newObj]
    rfl
  · have := hr.next he1 (Below.push B w _ hr.bs) (fun b h => .inl h) (fun b h => by have := hr.ss b h; simp [w1]; omega)
      (hp := (st.nx, .chn n.toNat []) :: st.hp) ⟨[w.heap.size] ++ T, .cons hrow (h1'.mono he1 fun b hb => hold b (h3 b hb).2.2), ?_, ?_⟩
    · rw [hn] at this; exact this
    · refine List.nodup_cons.2 ⟨fun hm => ?_, h2⟩
      have := (h3 _ hm).2.2; omega
    · intro b hb
      rcases List.mem_cons.1 hb with rfl | hb
      · exact ⟨hr.bs, fun h => by have := hr.ss _ h; omega, by simp [w1]⟩
      · have := h3 b hb
        exact ⟨this.1, this.2.1, by have := this.2.2; simp [w1]; omega⟩

end
end Go.Ax

/- A symbolic run, reckoned by a function: what one operation comes to, and what it asks. -/
namespace Go.Ax
open Go.RowKit
set_option linter.unusedVariables false
set_option linter.unusedSimpArgs false

/-- What is to be shown, and how it goes on. -/
inductive Need (c k : Prop) : Prop
  | mk : c → k → Need c k
/-- A number, as a machine's number: it fits, or what it comes to is taken. -/
inductive Fit (n : Int) (K : AV → Prop) : Prop
  | ok : (-9223372036854775808 ≤ n ∧ n ≤ 9223372036854775807) → K (.lit (.int .i64 n)) → Fit n K
  | wr : K (.lit (.int .i64 (IntKind.i64.wrap n))) → Fit n K
/-- A number, as a number of a kind: it fits, or what it comes to is taken. -/
inductive Cv (k : IntKind) (n : Int) (K : AV → Prop) : Prop
  | same : k.wrap n = n → K (.lit (.int k n)) → Cv k n K
  | wr : K (.lit (.int k (k.wrap n))) → Cv k n K
theorem Cv.get {k : IntKind} {n : Int} {K : AV → Prop} (h : Cv k n K) : K (.lit (.int k (k.wrap n))) := by
  cases h with
  | same h1 h2 => rw [h1]; exact h2
  | wr h => exact h
inductive Br (b : Bool) (t f : Prop) : Prop
  | mk : (b = true → t) → (b = false → f) → Br b t f
inductive Pick (xs : List (List AV)) (n : Int) (k : List AV → Prop) : Prop
  | mk (cs : List AV) : 0 ≤ n → xs[n.toNat]? = some cs → k cs → Pick xs n k
inductive PickN (xs : List (List AV)) (n : Nat) (k : List AV → Prop) : Prop
  | mk (cs : List AV) : xs[n]? = some cs → k cs → PickN xs n k
inductive Len (xs : List (List AV)) (k : Nat → Prop) : Prop
  | mk (n : Nat) : xs.length = n → k n → Len xs k
inductive MkS (m m2 : Int) (bytes : Nat) (k : Nat → Prop) : Prop
  | mk (n : Nat) : m = (n : Int) → m2 = (n : Int) → (n : Int) * bytes ≤ 281474976710656 → (n : Int) ≤ 9223372036854775807 → k n → MkS m m2 bytes k
inductive App (xs ys : List (List AV)) (bytes : Nat) (k : Prop) : Prop
  | mk : ys.flatten.all AV.own1 = true → (xs.length + ys.length) * bytes ≤ 140737488355328 → xs.length + ys.length ≤ 9223372036854775807 → k → App xs ys bytes k
inductive NilT (xs : List (List AV)) (neg : Bool) (k : Bool → Prop) : Prop
  | mk : (∀ b : Bool, (b = true → xs = []) → k (neg != b)) → NilT xs neg k
inductive Sub (xs : List (List AV)) (l m : Int) (k : List (List AV) → Prop) : Prop
  | mk (ys : List (List AV)) : 0 ≤ l → l ≤ m → m ≤ xs.length → (xs.drop l.toNat).take (m.toNat - l.toNat) = ys → k ys → Sub xs l m k
inductive SubFrom (xs : List (List AV)) (l : Int) (k : List (List AV) → Prop) : Prop
  | mk (ys : List (List AV)) : 0 ≤ l → l ≤ xs.length → xs.drop l.toNat = ys → k ys → SubFrom xs l k
inductive View (xs : List (List AV)) (k : List (List AV) → Prop) : Prop
  | mk (ys : List (List AV)) : AV.fzLL xs = ys → k ys → View xs k
inductive Look (F k : Prop) : Prop
  | yes : k → Look F k
  | stop : F → Look F k
inductive Stop (p : Prop) : Prop
  | mk : p → Stop p

theorem Br.t {b : Bool} {t f : Prop} (h : b = true) (k : t) : Br b t f := ⟨fun _ => k, fun e => by rw [h] at e; cases e⟩
theorem Br.f {b : Bool} {t f : Prop} (h : b = false) (k : f) : Br b t f := ⟨fun e => (by rw [h] at e; cases e), fun _ => k⟩
theorem Len.map {α : Type} {enc : α → List AV} {l : List α} {k : Nat → Prop} (h : k l.length) : Len (l.map enc) k := ⟨_, by simp, h⟩
theorem Pick.map {α : Type} {enc : α → List AV} {l : List α} {n : Nat} {k : List AV → Prop} {e : α} (h : l[n]? = some e) (hk : k (enc e)) : Pick (l.map enc) (n : Int) k := ⟨_, by omega, by simp [h], hk⟩
theorem Sub.map {α : Type} {enc : α → List AV} {l : List α} {a b : Nat} {k : List (List AV) → Prop} (h : a ≤ b) (h2 : b ≤ l.length) (hk : k (((l.drop a).take (b - a)).map enc)) : Sub (l.map enc) (a : Int) (b : Int) k :=
  ⟨_, by omega, by omega, by simp; omega, by simp [List.map_drop, List.map_take], hk⟩
theorem SubFrom.map {α : Type} {enc : α → List AV} {l : List α} {a : Nat} {k : List (List AV) → Prop} (h : a ≤ l.length) (hk : k ((l.drop a).map enc)) : SubFrom (l.map enc) (a : Int) k :=
  ⟨_, by omega, by simp; omega, by simp [List.map_drop], hk⟩
theorem fzLL_map {α : Type} {enc enc2 : α → List AV} (h : ∀ e, AV.fzL (enc e) = enc2 e) : ∀ (l : List α), AV.fzLL (l.map enc) = l.map enc2
  | [] => rfl
  | e :: l => by simp only [List.map_cons, AV.fzLL, h e, fzLL_map h l]
theorem View.map {α : Type} {enc enc2 : α → List AV} {l : List α} {k : List (List AV) → Prop} (h : ∀ e, AV.fzL (enc e) = enc2 e) (hk : k (l.map enc2)) : View (l.map enc) k := ⟨_, fzLL_map h l, hk⟩
theorem Pick.mapI {α : Type} {enc : α → List AV} {l : List α} {n : Int} {k : List AV → Prop} {e : α} (h0 : 0 ≤ n) (h : l[n.toNat]? = some e) (hk : k (enc e)) : Pick (l.map enc) n k := ⟨_, h0, by simp [h], hk⟩

/-- A value, and how it goes on: its head is reckoned first. -/
def AV.on (v : AV) (k : AV → Prop) : Prop := match v with
  | .any => k .any | .lit u => k (.lit u) | .agg cs => k (.agg cs) | .tup cs => k (.tup cs) | .sl f s xs => k (.sl f s xs) | .pt cs => k (.pt cs) | .osl s xs => k (.osl s xs) | .opt cs => k (.opt cs)
  | .hw i => k (.hw i) | .hs i l n => k (.hs i l n) | .hp i o => k (.hp i o) | .hq i j o => k (.hq i j o) | .fn f cs => k (.fn f cs) | .mp kvs => k (.mp kvs) | .hm i => k (.hm i) | .hc i => k (.hc i)
theorem AV.on_eq (v : AV) (k : AV → Prop) : v.on k = k v := by cases v <;> rfl

def onL : List AV → (List AV → Prop) → Prop
  | [], k => k []
  | a :: as, k => a.on fun a' => onL as fun as' => k (a' :: as')
theorem onL_eq (l : List AV) : ∀ (k : List AV → Prop), onL l k = k l := by
  induction l with
  | nil => intro k; rfl
  | cons a as ih => intro k; simp only [onL, AV.on_eq, ih]

def onLL : List (List AV) → (List (List AV) → Prop) → Prop
  | [], k => k []
  | a :: as, k => onL a fun a' => onLL as fun as' => k (a' :: as')
theorem onLL_eq (l : List (List AV)) : ∀ (k : List (List AV) → Prop), onLL l k = k l := by
  induction l with
  | nil => intro k; rfl
  | cons a as ih => intro k; simp only [onLL, onL_eq, ih]

/-- The same, a struct's or a tuple's parts too. -/
def AV.onD (v : AV) (k : AV → Prop) : Prop := match v with
  | .agg cs => onL cs fun cs => k (.agg cs)
  | .tup cs => onL cs fun cs => k (.tup cs)
  | v => v.on k
theorem AV.onD_eq (v : AV) (k : AV → Prop) : v.onD k = k v := by cases v <;> simp only [AV.onD, onL_eq, AV.on_eq]

def onH : List (Nat × Row) → (List (Nat × Row) → Prop) → Prop
  | [], k => k []
  | (i, .var cs) :: r, k => onH r fun r' => k ((i, .var cs) :: r')
  | (i, .row s xs) :: r, k => onH r fun r' => k ((i, .row s xs) :: r')
  | (i, .foc s xs cs n o j) :: r, k => onH r fun r' => k ((i, .foc s xs cs n o j) :: r')
  | (i, .lp L) :: r, k => onH r fun r' => k ((i, .lp L) :: r')
  | (i, .mpr l) :: r, k => onH r fun r' => k ((i, .mpr l) :: r')
  | (i, .chn c l) :: r, k => onH r fun r' => k ((i, .chn c l) :: r')
  | (i, .itr l c) :: r, k => onH r fun r' => k ((i, .itr l c) :: r')
  | (i, .tab b l) :: r, k => onH r fun r' => k ((i, .tab b l) :: r')
theorem onH_eq (l : List (Nat × Row)) : ∀ (k : List (Nat × Row) → Prop), onH l k = k l := by
  induction l with
  | nil => intro k; rfl
  | cons a as ih => obtain ⟨i, r⟩ := a; intro k; cases r <;> simp only [onH, ih]

/-- The types, by their numbers. -/
inductive TyT where
  | leaf
  | node (l : TyT) (k : Nat) (i : TyI) (r : TyT)
def TyT.find : TyT → Nat → Option TyI
  | .leaf, _ => none
  | .node l k i r, t => bif Nat.beq t k then some i else bif Nat.blt t k then l.find t else r.find t
def TyT.OK (P : Program) : TyT → Prop
  | .leaf => True
  | .node l k i r => l.OK P ∧ TyOK P k i ∧ r.OK P
theorem TyT.find_ok {P : Program} {t : Nat} {i : TyI} : ∀ {tr : TyT}, tr.OK P → tr.find t = some i → TyOK P t i
  | .leaf, _, h => by simp [TyT.find] at h
  | .node l k j r, h, e => by
    obtain ⟨h1, h2, h3⟩ := h
    simp only [TyT.find] at e
    cases hb : Nat.beq t k with
    | true => rw [hb] at e; simp at e; rw [Nat.eq_of_beq_eq_true hb, ← e]; exact h2
    | false =>
      rw [hb] at e
      cases hc : Nat.blt t k with
      | true => rw [hc] at e; exact TyT.find_ok h1 (by simpa using e)
      | false => rw [hc] at e; exact TyT.find_ok h3 (by simpa using e)
class HasT (P : Program) where
  tr : TyT
  ok : tr.OK P

def okNum (n : Int) : Prop := -9223372036854775808 ≤ n ∧ n ≤ 9223372036854775807

def arith (op : BinOp) (k : IntKind) (m n : Int) (K : AV → Prop) (F : Prop) : Prop :=
  match op, k with
  | .add, .i64 => Fit (m + n) K
  | .sub, .i64 => Fit (m - n) K
  | .mul, .i64 => Fit (m * n) K
  | .eql, _ => K (.lit (.bool (decide (m = n))))
  | .neq, _ => K (.lit (.bool (!decide (m = n))))
  | .lss, _ => K (.lit (.bool (decide (m < n))))
  | .leq, _ => K (.lit (.bool (decide (m ≤ n))))
  | .gtr, _ => K (.lit (.bool (decide (n < m))))
  | .geq, _ => K (.lit (.bool (decide (n ≤ m))))
  | .and, k => K (.lit (.int k (k.wrap (BitVec.ofInt k.bits m &&& BitVec.ofInt k.bits n).toNat)))
  | .add, k => Cv k (m + n) K
  | .sub, k => Cv k (m - n) K
  | .mul, k => Cv k (m * n) K
  | .quo, k => Need (n ≠ 0) (Cv k (m.tdiv n) K)
  | .rem, k => Need (n ≠ 0) (K (.lit (.int k (m.tmod n))))
  | .or, k => K (.lit (.int k (k.wrap (BitVec.ofInt k.bits m ||| BitVec.ofInt k.bits n).toNat)))
  | .xor, k => K (.lit (.int k (k.wrap (BitVec.ofInt k.bits m ^^^ BitVec.ofInt k.bits n).toNat)))
  | .andNot, k => K (.lit (.int k (k.wrap (BitVec.ofInt k.bits m &&& ~~~BitVec.ofInt k.bits n).toNat)))
  | _, _ => F
def convV (tr : TyT) (st : St) (t t2 : Nat) (x : Operand) (K : AV → Prop) (F : Prop) : Prop :=
  match tr.find t with
  | some ⟨.td _, _, _, _⟩ => match tr.find t2 with
    | some ⟨.td (.int k2), _, _, _⟩ => match st.ev x with
      | .lit (.int _ n) => Cv k2 n K
      | _ => F
    | _ => F
  | _ => F

def beqK : IntKind → IntKind → Bool
  | .i8, .i8 | .i16, .i16 | .i32, .i32 | .i64, .i64 | .u8, .u8 | .u16, .u16 | .u32, .u32 | .u64, .u64 => true
  | _, _ => false
theorem beqK_eq {a b : IntKind} (h : beqK a b = true) : a = b := by cases a <;> cases b <;> first | rfl | cases h

def truths (tr : TyT) (t : Nat) (op : BinOp) (m n : Bool) (K : AV → Prop) (F : Prop) : Prop :=
  match tr.find t with
  | some ⟨.td .bool, _, _, _⟩ => match op with
    | .eql => K (.lit (.bool (m == n)))
    | .neq => K (.lit (.bool (m != n)))
    | _ => F
  | _ => F

def slnil (tr : TyT) (st : St) (t : Nat) (op : BinOp) (v : AV) (K : AV → Prop) (F : Prop) : Prop :=
  match tr.find t with
  | some ⟨.td (.slice _), _, _, _⟩ => match op, v with
    | .eql, .sl _ _ xs => NilT xs false fun b => K (.lit (.bool b))
    | .neq, .sl _ _ xs => NilT xs true fun b => K (.lit (.bool b))
    | .eql, .hw id => match row id st.hp with
      | some (.row _ xs) => NilT xs false fun b => K (.lit (.bool b))
      | _ => F
    | .neq, .hw id => match row id st.hp with
      | some (.row _ xs) => NilT xs true fun b => K (.lit (.bool b))
      | _ => F
    | _, _ => F
  | _ => F

def ptrnil (tr : TyT) (t : Nat) (op : BinOp) (v : AV) (K : AV → Prop) (F : Prop) : Prop :=
  match tr.find t with
  | some ⟨.td (.pointer _), _, _, _⟩ => match op, v with
    | .eql, .lit (.pointer none) => K (.lit (.bool true))
    | .neq, .lit (.pointer none) => K (.lit (.bool false))
    | .eql, .pt _ => K (.lit (.bool false))
    | .neq, .pt _ => K (.lit (.bool true))
    | .eql, .hp _ _ => K (.lit (.bool false))
    | .neq, .hp _ _ => K (.lit (.bool true))
    | _, _ => F
  | _ => F

def texts (tr : TyT) (t : Nat) (op : BinOp) (m n : ByteArray) (K : AV → Prop) (F : Prop) : Prop :=
  match tr.find t with
  | some ⟨.td .string, _, _, _⟩ => match op with
    | .eql => K (.lit (.bool (m.toList == n.toList)))
    | .neq => K (.lit (.bool (!(m.toList == n.toList))))
    | _ => F
  | _ => F

def sliceV (tr : TyT) (st : St) (t : Nat) (x : Operand) (lo hi : Option Operand) (K : AV → Prop) (F : Prop) : Prop :=
  match tr.find t with
  | some ⟨.td (.slice e), _, _, _⟩ => match tr.find e with
    | some ie => match st.ev x with
      | .sl _ sz xs => bif Nat.beq ie.size sz then match lo, hi with
        | none, none => K (.sl false sz xs)
        | some y, none => match st.ev y with
          | .lit (.int .i64 l) => SubFrom xs l fun ys => K (.sl false sz ys)
          | _ => F
        | none, some z => match st.ev z with
          | .lit (.int .i64 m) => Sub xs 0 m fun ys => K (.sl false sz ys)
          | _ => F
        | some y, some z => match st.ev y, st.ev z with
          | .lit (.int .i64 l), .lit (.int .i64 m) => Sub xs l m fun ys => K (.sl false sz ys)
          | _, _ => F
        else F
      | _ => F
    | _ => F
  | _ => F

def fieldA (tr : TyT) (st : St) (t j : Nat) (x : Operand) (K : AV → Prop) (F : Prop) : Prop :=
  match tr.find t with
  | some ⟨.agg fs, _, _, _⟩ => match fs[j]? with
    | some (off, ft) => match tr.find ft with
      | some ⟨_, sz, _, _⟩ => bif Nat.beq sz 0 then F else match st.ev x with
        | .pt cs => onL (cs.drop off) fun cs => K (.pt cs)
        | .hp id o => K (.hp id (o + off))
        | .hq id n o => K (.hq id n (o + off))
        | _ => F
      | _ => F
    | _ => F
  | _ => F

def fieldV (tr : TyT) (st : St) (t j : Nat) (x : Operand) (K : AV → Prop) (F : Prop) : Prop :=
  match tr.find t with
  | some ⟨.agg fs, _, _, _⟩ => match fs[j]? with
    | some (off, ft) => match tr.find ft with
      | some i => match st.ev x with
        | .agg cs => bif i.isAgg then onL ((cs.drop off).take i.size) fun cs => K (.agg cs) else match cs[off]? with
          | some c => c.on K
          | none => F
        | _ => F
      | _ => F
    | _ => F
  | _ => F

/-- A part of a value's cells: one cell, or a struct's. -/
def part (i : TyI) (cs : List AV) (off : Nat) (K : AV → Prop) (F : Prop) : Prop :=
  bif i.isAgg then (bif Nat.ble (off + i.size) cs.length && ((cs.drop off).take i.size).all AV.plain then onL ((cs.drop off).take i.size) fun cs => K (.agg cs) else F)
  else match cs.drop off with
    | v :: _ => bif v.plain then v.on K else F
    | [] => F

def loadV (tr : TyT) (st : St) (t : Nat) (x : Operand) (K : AV → Prop) (F : Prop) : Prop :=
  match tr.find t with
  | some i => match st.ev x with
    | .pt cs => bif i.isAgg then (bif Nat.ble i.size cs.length then onL (cs.take i.size) fun cs => K (.agg cs) else F) else match cs with
      | v :: _ => v.on K
      | [] => F
    | .hp id off => match row id st.hp with
      | some (.var cs) => part i cs off K F
      | _ => F
    | .hq id n off => match row id st.hp with
      | some (.row _ xs) => PickN xs n fun cs => part i cs off K F
      | _ => F
    | _ => F
  | _ => F

def indexA (tr : TyT) (st : St) (t : Nat) (x ix : Operand) (K : AV → Prop) (F : Prop) : Prop :=
  match tr.find t with
  | some ⟨.td (.slice e), _, _, _⟩ => match tr.find e with
    | some ie => match st.ev ix with
      | .lit (.int _ n) => match st.ev x with
        | .sl _ sz xs => bif Nat.beq ie.size sz then Pick xs n fun cs => onL cs fun cs => K (.pt cs) else F
        | .hw id => match row id st.hp with
          | some (.row sz xs) => bif Nat.beq ie.size sz then Need (0 ≤ n ∧ n.toNat < xs.length) (K (.hq id n.toNat 0)) else F
          | some (.foc sz xs _ _ _ _) => bif Nat.beq ie.size sz then Need (0 ≤ n ∧ n.toNat < xs.length) (K (.hq id n.toNat 0)) else F
          | _ => F
        | _ => F
      | _ => F
    | _ => F
  | _ => F

def lenV (tr : TyT) (st : St) (t : Nat) (x : Operand) (K : AV → Prop) (F : Prop) : Prop :=
  match tr.find t with
  | some ⟨.td (.slice _), _, _, _⟩ => match st.ev x with
    | .sl _ _ xs => Len xs fun n => K (.lit (.int .i64 n))
    | .hw id => match row id st.hp with
      | some (.row _ xs) => Len xs fun n => K (.lit (.int .i64 n))
      | _ => F
    | .lit (.slice none 0 0) => K (.lit (.int .i64 0))
    | _ => F
  | some ⟨.td .string, _, _, _⟩ => match st.ev x with
    | .lit (.string s) => K (.lit (.int .i64 s.size))
    | _ => F
  | _ => F

/-- The sizes of a struct's fields. -/
def sizesOf (tr : TyT) : List (Nat × Nat) → Option (List Nat)
  | [] => some []
  | (_, t) :: r => match tr.find t with
    | some i => match sizesOf tr r with
      | some l => some (i.size :: l)
      | none => none
    | none => none

def buildV (tr : TyT) (st : St) (t : Nat) (ps : List (Nat × Operand)) (K : AV → Prop) (F : Prop) : Prop :=
  match tr.find t with
  | some ⟨.agg fs, _, _, zero⟩ => match sizesOf tr fs with
    | some ss => bif litOK st ps then match lay (placeOf fs ss) (zero.map .lit) (ps.map fun p => (p.1, st.ev p.2)) with
        | some cs => onL cs fun cs => K (.agg cs)
        | none => F
      else F
    | none => F
  | _ => F

/-- Structs of known words, compared. -/
def AggEq1 (P : Program) (t : Nat) (us vs : List Value) (b : Bool) : Prop :=
  P.eqGuardType P.depth t = false ∧ ∀ w, (Op.equalIn 10000 t (.agg us.toArray) (.agg vs.toArray)).run P w = .ok b w
inductive AggEq (P : Program) (t : Nat) (xs ys : List AV) (k : Bool → Prop) : Prop
  | mk (us vs : List Value) (b : Bool) : xs = us.map .lit → ys = vs.map .lit → AggEq1 P t us vs b → k b → AggEq P t xs ys k
def aggs (P : Program) (op : BinOp) (t : Nat) (xs ys : List AV) (K : AV → Prop) (F : Prop) : Prop :=
  match op with
  | .eql => AggEq P t xs ys fun b => K (.lit (.bool b))
  | .neq => AggEq P t xs ys fun b => K (.lit (.bool !b))
  | _ => F

/-- What only reads. -/
def rdOp (P : Program) (tr : TyT) (st : St) (op : Op) (K : AV → Prop) (F : Prop) : Prop :=
  match op with
  | .move x => (st.ev x).on K
  | .assign x => (st.ev x).on K
  | .pick c x y => match st.ev c with
    | .lit (.bool b) => Br b ((st.ev x).on K) ((st.ev y).on K)
    | _ => F
  | .nilCheck x => match st.ev x with
    | .pt cs => K (.pt cs)
    | .hp i o => K (.hp i o)
    | .hq i n o => K (.hq i n o)
    | _ => F
  | .binOp op t x y _ => match st.ev x, st.ev y with
    | .lit (.int k m), .lit (.int k2 n) => match op with
      | .shl => Need (0 ≤ n) (Cv k (m * 2 ^ min n.toNat k.bits) K)
      | .shr => Need (0 ≤ n) (K (.lit (.int k (m.fdiv (2 ^ min n.toNat k.bits)))))
      | op => bif beqK k k2 then arith op k m n K F else F
    | .lit (.bool m), .lit (.bool n) => truths tr t op m n K F
    | .lit (.string m), .lit (.string n) => texts tr t op m n K F
    | .agg xs, .agg ys => aggs P op t xs ys K F
    | v, .lit (.slice none 0 0) => slnil tr st t op v K F
    | v, .lit (.pointer none) => ptrnil tr t op v K F
    | _, _ => F
  | .unOp u _ x => match u, st.ev x with
    | .not, .lit (.bool b) => K (.lit (.bool !b))
    | .neg, .lit (.int .i64 n) => Need (okNum (0 - n)) (K (.lit (.int .i64 (0 - n))))
    | _, _ => F
  | .fieldAddr t x j => fieldA tr st t j x K F
  | .field t x j => fieldV tr st t j x K F
  | .load t x => loadV tr st t x K F
  | .indexAddr t x ix => indexA tr st t x ix K F
  | .extract x j => match st.ev x with
    | .tup cs => match cs[j]? with
      | some c => c.onD K
      | none => F
    | _ => F
  | .makeFunc (.func g) first xs => match first.toList with
    | [] => onL (xs.toList.map st.ev) fun cs => K (.fn g cs)
    | _ => F
  | .build t ps => buildV tr st t ps.toList K F
  | .call c => match c.callee with
    | .builtin .len => match c.args.toList, c.argTypes.toList with
      | [x], [t] => lenV tr st t x K F
      | _, _ => F
    | .builtin .min => match c.args.toList with
      | [x, y] => match st.ev x, st.ev y with
        | .lit (.int k m), .lit (.int k2 n) => bif beqK k k2 then K (.lit (.int k (min m n))) else F
        | _, _ => F
      | _ => F
    | .builtin .max => match c.args.toList with
      | [x, y] => match st.ev x, st.ev y with
        | .lit (.int k m), .lit (.int k2 n) => bif beqK k k2 then K (.lit (.int k (max m n))) else F
        | _, _ => F
      | _ => F
    | _ => F
  | .slice t x lo hi none => sliceV tr st t x lo hi K F
  | .convert t t2 x => convV tr st t t2 x K F
  | _ => F

section
variable {P : Program} {tr : TyT} {st : St} {K : AV → Prop} {F : Prop} {o : Oper}

/-- What is read, or that it stops. -/
def Rd (P : Program) (st : St) (o : Oper) (K : AV → Prop) (F : Prop) : Prop := (∃ V, ReadsN P st o V ∧ ∀ v, V v → K v) ∨ F
theorem Rd.of {v : AV} (h : Reads P st o v) (hk : K v) : Rd P st o K F := .inl ⟨_, h.n, fun _ e => by rw [e]; exact hk⟩

theorem arith_ok {op : BinOp} {t t2 : Nat} {x y : Operand} {k : IntKind} {m n : Int} (h : o.op = .binOp op t x y t2) (hx : st.ev x = .lit (.int k m)) (hy : st.ev y = .lit (.int k n)) (hk : arith op k m n K F) : Rd P st o K F := by
  have key : ∀ v, bin2 op k m n = some v → K (.lit v) → Rd P st o K F := fun v h1 h2 => .of (rd_bin h hx hy h1) h2
  unfold arith at hk
  split at hk
  · cases hk with
    | ok h1 h2 => exact key _ (by simp only [bin2, wrap_in h1.1 h1.2]) h2
    | wr h2 => exact key _ rfl h2
  · cases hk with
    | ok h1 h2 => exact key _ (by simp only [bin2, wrap_in h1.1 h1.2]) h2
    | wr h2 => exact key _ rfl h2
  · cases hk with
    | ok h1 h2 => exact key _ (by simp only [bin2, wrap_in h1.1 h1.2]) h2
    | wr h2 => exact key _ rfl h2
  · exact key _ rfl hk
  · exact key _ rfl hk
  · exact key _ rfl hk
  · exact key _ rfl hk
  · exact key _ rfl hk
  · exact key _ rfl hk
  · exact key _ rfl hk
  · exact key _ rfl hk.get
  · exact key _ rfl hk.get
  · exact key _ rfl hk.get
  · obtain ⟨h1, hk⟩ := hk; exact .of (rd_quo h hx hy h1) hk.get
  · obtain ⟨h1, hk⟩ := hk; exact .of (rd_rem h hx hy h1) hk
  · exact .of (rd_or h hx hy) hk
  · exact .of (rd_xor h hx hy) hk
  · exact .of (rd_andNot h hx hy) hk
  · exact .inr hk

theorem convV_ok (hT : tr.OK P) {t t2 : Nat} {x : Operand} (h : o.op = .convert t t2 x) (hk : convV tr st t t2 x K F) : Rd P st o K F := by
  unfold convV at hk
  split at hk
  · rename_i hf
    obtain ⟨⟨hu, _⟩, _⟩ := TyT.find_ok hT hf
    split at hk
    · rename_i hf2
      obtain ⟨⟨hu2, _⟩, _⟩ := TyT.find_ok hT hf2
      split at hk
      · rename_i hx; exact .of (rd_conv h hu hu2 hx) hk.get
      · exact .inr hk
    · exact .inr hk
  · exact .inr hk

theorem truths_ok (hT : tr.OK P) {op : BinOp} {t t2 : Nat} {x y : Operand} {m n : Bool} (h : o.op = .binOp op t x y t2) (hx : st.ev x = .lit (.bool m)) (hy : st.ev y = .lit (.bool n)) (hk : truths tr t op m n K F) : Rd P st o K F := by
  unfold truths at hk
  split at hk
  · rename_i hf
    have ht := TyT.find_ok hT hf
    obtain ⟨⟨hu, _⟩, _⟩ := ht
    split at hk
    · exact .of (rd_eq_bool h hu hx hy) hk
    · exact .of (rd_ne_bool h hu hx hy) hk
    · exact .inr hk
  · exact .inr hk

theorem slnil_ok (hT : tr.OK P) {op : BinOp} {t t2 : Nat} {x y : Operand} {v : AV} (h : o.op = .binOp op t x y t2) (hx : st.ev x = v) (hy : st.ev y = .lit (.slice none 0 0)) (hk : slnil tr st t op v K F) : Rd P st o K F := by
  unfold slnil at hk
  split at hk
  · rename_i hf
    have ht := TyT.find_ok hT hf
    have key : ∀ (neg : Bool) xs, o.op = .binOp (bif neg then .neq else .eql) t x y t2 → SlOf st v xs → NilT xs neg (fun b => K (.lit (.bool b))) → Rd P st o K F := fun neg xs h1 h2 ⟨h3⟩ =>
      .inl ⟨_, rd_slnil h1 ht rfl hx h2 hy, fun u ⟨b, hb, e⟩ => by rw [e]; exact h3 b hb⟩
    split at hk
    · exact key false _ h slOf_sl hk
    · exact key true _ h slOf_sl hk
    · split at hk
      · rename_i hrow; exact key false _ h (slOf_hw hrow) hk
      · exact .inr hk
    · split at hk
      · rename_i hrow; exact key true _ h (slOf_hw hrow) hk
      · exact .inr hk
    · exact .inr hk
  · exact .inr hk

theorem ptrnil_ok (hT : tr.OK P) {op : BinOp} {t t2 : Nat} {x y : Operand} {v : AV} (h : o.op = .binOp op t x y t2) (hx : st.ev x = v) (hy : st.ev y = .lit (.pointer none)) (hk : ptrnil tr t op v K F) : Rd P st o K F := by
  unfold ptrnil at hk
  split at hk
  · rename_i hf
    have ht := TyT.find_ok hT hf
    split at hk
    · exact .of (rd_ptrnil (neg := false) (b := true) h ht rfl hx (fun I w z hr => ⟨none, hr.lit_inv, rfl⟩) hy) hk
    · exact .of (rd_ptrnil (neg := true) (b := true) h ht rfl hx (fun I w z hr => ⟨none, hr.lit_inv, rfl⟩) hy) hk
    · exact .of (rd_ptrnil (neg := false) (b := false) h ht rfl hx (fun I w z hr => by obtain ⟨b, o, e, _⟩ := hr.pt_inv; exact ⟨_, e, rfl⟩) hy) hk
    · exact .of (rd_ptrnil (neg := true) (b := false) h ht rfl hx (fun I w z hr => by obtain ⟨b, o, e, _⟩ := hr.pt_inv; exact ⟨_, e, rfl⟩) hy) hk
    · exact .of (rd_ptrnil (neg := false) (b := false) h ht rfl hx (fun I w z hr => by obtain ⟨b, o, _, _, e⟩ := hr.hp_inv; exact ⟨_, e, rfl⟩) hy) hk
    · exact .of (rd_ptrnil (neg := true) (b := false) h ht rfl hx (fun I w z hr => by obtain ⟨b, o, _, _, e⟩ := hr.hp_inv; exact ⟨_, e, rfl⟩) hy) hk
    · exact .inr hk
  · exact .inr hk

theorem texts_ok (hT : tr.OK P) {op : BinOp} {t t2 : Nat} {x y : Operand} {m n : ByteArray} (h : o.op = .binOp op t x y t2) (hx : st.ev x = .lit (.string m)) (hy : st.ev y = .lit (.string n)) (hk : texts tr t op m n K F) : Rd P st o K F := by
  unfold texts at hk
  split at hk
  · rename_i hf
    have ht := TyT.find_ok hT hf
    obtain ⟨⟨hu, _⟩, _⟩ := ht
    split at hk
    · refine .of (rd_eq_text (neg := false) h hu hx hy) ?_; rw [Bool.false_bne]; exact hk
    · refine .of (rd_eq_text (neg := true) h hu hx hy) ?_; rw [Bool.true_bne]; exact hk
    · exact .inr hk
  · exact .inr hk

theorem sliceV_ok (hT : tr.OK P) {t : Nat} {x : Operand} {lo hi : Option Operand} (h : o.op = .slice t x lo hi none) (hk : sliceV tr st t x lo hi K F) : Rd P st o K F := by
  unfold sliceV at hk
  split at hk
  · rename_i hf
    have ht := TyT.find_ok hT hf
    split at hk
    · rename_i ie hf2
      have he := TyT.find_ok hT hf2
      split at hk
      · rename_i f sz xs hx
        cases hb : Nat.beq ie.size sz with
        | false => rw [hb] at hk; exact .inr hk
        | true =>
          rw [hb] at hk; dsimp only [cond_true] at hk
          split at hk
          · refine .of (rd_slice h ht rfl he hb hx (l := 0) (m := xs.length) rfl rfl (by omega) (by omega) (by omega)) ?_
            simpa using hk
          · split at hk
            · rename_i y l hy
              obtain ⟨ys, h0, h1, rfl, hk⟩ := hk
              refine .of (rd_slice h ht rfl he hb hx (m := xs.length) hy rfl h0 h1 (by omega)) ?_
              rw [List.take_of_length_le (by rw [List.length_drop]; omega)]; exact hk
            · exact .inr hk
          · split at hk
            · rename_i z m hz
              obtain ⟨ys, h0, h1, h2, rfl, hk⟩ := hk
              exact .of (rd_slice h ht rfl he hb hx (l := 0) rfl hz h0 h1 h2) hk
            · exact .inr hk
          · split at hk
            · rename_i hy hz
              obtain ⟨ys, h0, h1, h2, rfl, hk⟩ := hk
              exact .of (rd_slice h ht rfl he hb hx hy hz h0 h1 h2) hk
            · exact .inr hk
      · exact .inr hk
    · exact .inr hk
  · exact .inr hk

theorem fieldA_ok (hT : tr.OK P) {t j : Nat} {x : Operand} (h : o.op = .fieldAddr t x j) (hk : fieldA tr st t j x K F) : Rd P st o K F := by
  unfold fieldA at hk
  split at hk
  · rename_i hf
    have ht := TyT.find_ok hT hf
    split at hk
    · rename_i hj
      split at hk
      · rename_i hf2
        have hft := TyT.find_ok hT hf2
        cases hb : Nat.beq _ 0 with
        | true => rw [hb] at hk; exact .inr hk
        | false =>
          rw [hb] at hk
          dsimp only [cond_false] at hk
          split at hk
          · rename_i hx; rw [onL_eq] at hk; exact .of (rd_field_pt h ht rfl hj hft hb hx) hk
          · rename_i hx; exact .of (rd_field_hp h ht rfl hj hft hb hx) hk
          · rename_i hx; exact .of (rd_field_hq h ht rfl hj hft hb hx) hk
          · exact .inr hk
      · exact .inr hk
    · exact .inr hk
  · exact .inr hk

theorem fieldV_ok (hT : tr.OK P) {t j : Nat} {x : Operand} (h : o.op = .field t x j) (hk : fieldV tr st t j x K F) : Rd P st o K F := by
  unfold fieldV at hk
  split at hk
  · rename_i hf
    have ht := TyT.find_ok hT hf
    split at hk
    · rename_i hj
      split at hk
      · rename_i i hf2
        have hft := TyT.find_ok hT hf2
        split at hk
        · rename_i hx
          cases hb : i.isAgg with
          | true => rw [hb] at hk; dsimp only [cond_true] at hk; rw [onL_eq] at hk; exact .of (rd_field_agg h ht rfl hj hft hb hx) hk
          | false =>
            rw [hb] at hk
            dsimp only [cond_false] at hk
            split at hk
            · rename_i hc; rw [AV.on_eq] at hk; exact .of (rd_field h ht rfl hj hft hb hx hc) hk
            · exact .inr hk
        · exact .inr hk
      · exact .inr hk
    · exact .inr hk
  · exact .inr hk

theorem loadV_ok (hT : tr.OK P) {t : Nat} {x : Operand} (h : o.op = .load t x) (hk : loadV tr st t x K F) : Rd P st o K F := by
  unfold loadV at hk
  split at hk
  · rename_i i hf
    have ht := TyT.find_ok hT hf
    split at hk
    · rename_i hx
      cases hb : i.isAgg with
      | true =>
        rw [hb] at hk; dsimp only [cond_true] at hk
        cases hn : Nat.ble i.size _ with
        | true => rw [hn] at hk; dsimp only [cond_true] at hk; rw [onL_eq] at hk; exact .of (rd_loads_pt h ht hb hx hn) hk
        | false => rw [hn] at hk; exact .inr hk
      | false =>
        rw [hb] at hk; dsimp only [cond_false] at hk
        split at hk
        · rw [AV.on_eq] at hk; exact .of (rd_load_pt h ht hb hx) hk
        · exact .inr hk
    · rename_i hx
      split at hk
      · rename_i hrow
        unfold part at hk
        cases hb : i.isAgg with
        | true =>
          rw [hb] at hk; dsimp only [cond_true] at hk
          cases hn : (Nat.ble _ _ && List.all _ _ : Bool) with
          | true =>
            rw [hn] at hk; dsimp only [cond_true] at hk; rw [onL_eq] at hk
            rw [Bool.and_eq_true] at hn
            exact .of (rd_loads_hp h ht hb hx hrow hn.1 hn.2) hk
          | false => rw [hn] at hk; exact .inr hk
        | false =>
          rw [hb] at hk; dsimp only [cond_false] at hk
          split at hk
          · rename_i v r hd
            cases hp : v.plain with
            | true => rw [hp] at hk; dsimp only [cond_true] at hk; rw [AV.on_eq] at hk; exact .of (rd_load_hp h ht hb hx hrow hd hp) hk
            | false => rw [hp] at hk; exact .inr hk
          · exact .inr hk
      · exact .inr hk
    · rename_i hx
      split at hk
      · rename_i hrow
        obtain ⟨cs, hg, hk⟩ := hk
        unfold part at hk
        cases hb : i.isAgg with
        | true =>
          rw [hb] at hk; dsimp only [cond_true] at hk
          cases hn : (Nat.ble _ _ && List.all _ _ : Bool) with
          | true =>
            rw [hn] at hk; dsimp only [cond_true] at hk; rw [onL_eq] at hk
            rw [Bool.and_eq_true] at hn
            exact .of (rd_loads_hq h ht hb hx hrow hg hn.1 hn.2) hk
          | false => rw [hn] at hk; exact .inr hk
        | false =>
          rw [hb] at hk; dsimp only [cond_false] at hk
          split at hk
          · rename_i v r hd
            cases hp : v.plain with
            | true => rw [hp] at hk; dsimp only [cond_true] at hk; rw [AV.on_eq] at hk; exact .of (rd_load_hq h ht hb hx hrow hg hd hp) hk
            | false => rw [hp] at hk; exact .inr hk
          · exact .inr hk
      · exact .inr hk
    · exact .inr hk
  · exact .inr hk

theorem rd_index_foc {o : Oper} {t e id sz n2 off j : Nat} {x ix : Operand} {it ie : TyI} {xs : List (List AV)} {cs : List AV} {kk : IntKind} {n : Int} (h : o.op = .indexAddr t x ix) (ht : TyOK P t it)
    (hd : it.td = .td (.slice e)) (he : TyOK P e ie) (hx : st.ev x = .hw id) (hrow : row id st.hp = some (.foc sz xs cs n2 off j)) (hsz : Nat.beq ie.size sz = true) (hi : st.ev ix = .lit (.int kk n)) (h0 : 0 ≤ n) (hg : n.toNat < xs.length) : Reads P st o (.hq id n.toNat 0) := by
  intro S0 B w0 I a w hr
  have h1 := hr.ev x
  have h2 := hr.ev ix
  rw [hx] at h1
  rw [hi] at h2
  have hsz' := Nat.eq_of_beq_eq_true hsz
  obtain ⟨T, k1, _, _⟩ := hr.hp
  obtain ⟨F, T', g1, _, _⟩ := k1.take hrow
  have hln : I.ln id = xs.length := by cases g1; assumption
  have hszz : I.sz id = sz := by cases g1; assumption
  obtain ⟨hid, ⟨_, h0', ad, _⟩ | ⟨b, of, cap, c, ha, _, _, _, ex⟩⟩ := h1.hw_inv
  · omega
  · refine ⟨_, fun w' hw => ?_, .hq hid ha⟩
    have hlt2 : n < (I.ln id : Int) := by omega
    simp only [execOp, h, ex, h2.lit_inv, Instr.indexAt, asIntOf, Sem.run_bind, run_under (ht.sliceE hd), Result.andThen_ok, Sem.run_pure, h0, hlt2, and_self, if_true, run_size he, hsz', addr_add, decide_eq_true_eq, hszz, Nat.add_zero]

theorem indexA_ok (hT : tr.OK P) {t : Nat} {x ix : Operand} (h : o.op = .indexAddr t x ix) (hk : indexA tr st t x ix K F) : Rd P st o K F := by
  unfold indexA at hk
  split at hk
  · rename_i hf
    have ht := TyT.find_ok hT hf
    split at hk
    · rename_i ie hf2
      have he := TyT.find_ok hT hf2
      split at hk
      · rename_i hi
        split at hk
        · rename_i hx
          cases hb : Nat.beq ie.size _ with
          | true =>
            rw [hb] at hk; dsimp only [cond_true] at hk
            obtain ⟨cs, h0, hg, hk⟩ := hk
            rw [onL_eq] at hk
            exact .of (rd_index_sl h ht rfl he hb hx hi h0 hg) hk
          | false => rw [hb] at hk; exact .inr hk
        · rename_i hx
          split at hk
          · rename_i hrow
            cases hb : Nat.beq ie.size _ with
            | true =>
              rw [hb] at hk; dsimp only [cond_true] at hk
              obtain ⟨⟨h0, hg⟩, hk⟩ := hk
              exact .of (rd_index_hw h ht rfl he hx hrow hb hi h0 hg) hk
            | false => rw [hb] at hk; exact .inr hk
          · rename_i hrow
            cases hb : Nat.beq ie.size _ with
            | true =>
              rw [hb] at hk; dsimp only [cond_true] at hk
              obtain ⟨⟨h0, hg⟩, hk⟩ := hk
              exact .of (rd_index_foc h ht rfl he hx hrow hb hi h0 hg) hk
            | false => rw [hb] at hk; exact .inr hk
          · exact .inr hk
        · exact .inr hk
      · exact .inr hk
    · exact .inr hk
  · exact .inr hk

theorem lenV_ok (hT : tr.OK P) {t : Nat} {x : Operand} (h : o.op = .call { callee := .builtin .len, args := #[x], argTypes := #[t] }) (hk : lenV tr st t x K F) : Rd P st o K F := by
  unfold lenV at hk
  split at hk
  · rename_i hf
    have ht := TyT.find_ok hT hf
    split at hk
    · rename_i hx; obtain ⟨n, rfl, hk⟩ := hk; exact .of (rd_len_sl h ht rfl hx) hk
    · rename_i hx
      split at hk
      · rename_i hrow; obtain ⟨n, rfl, hk⟩ := hk; exact .of (rd_len_hw h ht rfl hx hrow) hk
      · exact .inr hk
    · rename_i hx; exact .of (rd_len_nil h ht rfl hx) hk
    · exact .inr hk
  · rename_i hf
    have ht := TyT.find_ok hT hf
    split at hk
    · rename_i hx; exact .of (rd_len_str h ht rfl hx) hk
    · exact .inr hk
  · exact .inr hk

theorem sizesOf_ok (hT : tr.OK P) : ∀ {fs : List (Nat × Nat)} {ss : List Nat}, sizesOf tr fs = some ss → Sizes P fs ss
  | [], ss, h => by simp [sizesOf] at h; subst h; exact .nil
  | (off, t) :: r, ss, h => by
    simp only [sizesOf] at h
    split at h
    · rename_i i hf
      split at h
      · rename_i l hl
        simp at h; subst h
        exact .cons (TyT.find_ok hT hf) (sizesOf_ok hT hl)
      · cases h
    · cases h

theorem buildV_ok (hT : tr.OK P) {t : Nat} {ps : Array (Nat × Operand)} (h : o.op = .build t ps) (hk : buildV tr st t ps.toList K F) : Rd P st o K F := by
  unfold buildV at hk
  split at hk
  · rename_i hf
    have ht := TyT.find_ok hT hf
    split at hk
    · rename_i hs
      cases hb : litOK st ps.toList with
      | true =>
        rw [hb] at hk; dsimp only [cond_true] at hk
        split at hk
        · rename_i hc; rw [onL_eq] at hk; exact .of (rd_build h ht rfl (sizesOf_ok hT hs) hb hc) hk
        · exact .inr hk
      | false => rw [hb] at hk; exact .inr hk
    · exact .inr hk
  · exact .inr hk

theorem Rep.lits_inv {I : Interp} {w : World} {us vs : List Value} (h : Rep I w (.l (us.map .lit) vs)) : vs = us := by
  refine List.ext_getElem? fun j => ?_
  cases hj : us[j]? with
  | none =>
    have hl := h.l_len
    rw [List.length_map] at hl
    rw [List.getElem?_eq_none_iff] at hj ⊢
    omega
  | some u =>
    obtain ⟨v, h1, h2⟩ := h.l_at (j := j) (c := .lit u) (by rw [List.getElem?_map, hj]; rfl)
    rw [h1, h2.lit_inv]

theorem rd_agg_eq {t t2 : Nat} {x y : Operand} {us vs : List Value} {b neg : Bool} (h : o.op = .binOp (bif neg then .neq else .eql) t x y t2) (hx : st.ev x = .agg (us.map .lit)) (hy : st.ev y = .agg (vs.map .lit)) (hq : AggEq1 P t us vs b) :
    Reads P st o (.lit (.bool (neg != b))) := by
  refine rd_pure fun S0 B w0 I a w1 hr w => ?_
  have h1 := hr.ev x
  have h2 := hr.ev y
  rw [hx] at h1; rw [hy] at h2
  obtain ⟨us', e1, h3⟩ := h1.agg_inv
  obtain ⟨vs', e2, h4⟩ := h2.agg_inv
  obtain rfl := h3.lits_inv
  obtain rfl := h4.lits_inv
  obtain ⟨hg, hq⟩ := hq
  cases neg with
  | false =>
    simp only [execOp, h, cond_false]
    rw [e1, e2]
    simp only [Sem.run_bind, run_eqGuard_agg w _ _ _ _ _ _ hg, Result.andThen_ok, run_eql_struct, hq]
    simp
  | true =>
    simp only [execOp, h, cond_true]
    rw [e1, e2]
    simp only [Sem.run_bind, run_eqGuard_agg w _ _ _ _ _ _ hg, Result.andThen_ok, run_neq_struct, hq]
    simp

theorem aggs_ok {op : BinOp} {t t2 : Nat} {x y : Operand} {xs ys : List AV} (h : o.op = .binOp op t x y t2) (hx : st.ev x = .agg xs) (hy : st.ev y = .agg ys) (hk : aggs P op t xs ys K F) : Rd P st o K F := by
  unfold aggs at hk
  split at hk
  · obtain ⟨us, vs, b, rfl, rfl, hq, hk⟩ := hk
    refine .of (rd_agg_eq (neg := false) h hx hy hq) ?_; rw [Bool.false_bne]; exact hk
  · obtain ⟨us, vs, b, rfl, rfl, hq, hk⟩ := hk
    refine .of (rd_agg_eq (neg := true) h hx hy hq) ?_; rw [Bool.true_bne]; exact hk
  · exact .inr hk

theorem rdOp_ok (hT : tr.OK P) (hk : rdOp P tr st o.op K F) : Rd P st o K F := by
  generalize ho : o.op = op at hk
  unfold rdOp at hk
  split at hk
  · rw [AV.on_eq] at hk; exact .of (rd_move ho rfl) hk
  · rw [AV.on_eq] at hk; exact .of (rd_assign ho rfl) hk
  · split at hk
    · rename_i b hc
      obtain ⟨h1, h2⟩ := hk
      cases b with
      | true => have := h1 rfl; rw [AV.on_eq] at this; exact .of (rd_pick ho hc rfl) this
      | false => have := h2 rfl; rw [AV.on_eq] at this; exact .of (rd_pick ho hc rfl) this
    · exact .inr hk
  · split at hk
    · rename_i hx; exact .of (rd_nilCheck_pt ho hx) hk
    · rename_i hx; exact .of (rd_nilCheck_hp ho hx) hk
    · rename_i hx; exact .of (rd_nilCheck_hq ho hx) hk
    · exact .inr hk
  · split at hk
    · rename_i k m k2 n hx hy
      split at hk
      · obtain ⟨h1, hk⟩ := hk; exact .of (rd_shl ho hx hy h1) hk.get
      · obtain ⟨h1, hk⟩ := hk; exact .of (rd_shr ho hx hy h1) hk
      · cases hb : beqK k k2 with
        | true => rw [hb] at hk; obtain rfl := beqK_eq hb; exact arith_ok ho hx hy hk
        | false => rw [hb] at hk; exact .inr hk
    · rename_i hx hy; exact truths_ok hT ho hx hy hk
    · rename_i hx hy; exact texts_ok hT ho hx hy hk
    · rename_i hx hy; exact aggs_ok ho hx hy hk
    · rename_i hx; exact slnil_ok hT ho rfl hx hk
    · rename_i hx; exact ptrnil_ok hT ho rfl hx hk
    · exact .inr hk
  · split at hk
    · rename_i hx; exact .of (rd_not ho hx) hk
    · rename_i hx; obtain ⟨h1, hk⟩ := hk; refine .of (rd_neg ho hx) ?_; rw [wrap_in h1.1 h1.2]; exact hk
    · exact .inr hk
  · exact fieldA_ok hT ho hk
  · exact fieldV_ok hT ho hk
  · exact loadV_ok hT ho hk
  · exact indexA_ok hT ho hk
  · split at hk
    · rename_i hx
      split at hk
      · rename_i hj; rw [AV.onD_eq] at hk; exact .of (rd_extract ho hx hj) hk
      · exact .inr hk
    · exact .inr hk
  · split at hk
    · rename_i first xs _ hfirst
      rw [onL_eq] at hk
      have : first = #[] := by cases first; simp_all
      subst this
      exact .of (rd_makeFunc ho rfl) hk
    · exact .inr hk
  · exact buildV_ok hT ho hk
  · rename_i c
    obtain ⟨callee, args, argTypes⟩ := c
    dsimp only at hk
    split at hk
    · split at hk
      · rename_i x t h1 h2
        have e1 : args = #[x] := by cases args; simp_all
        have e2 : argTypes = #[t] := by cases argTypes; simp_all
        subst e1 e2
        exact lenV_ok hT ho hk
      · exact .inr hk
    · split at hk
      · rename_i x y h1
        split at hk
        · rename_i k m k2 n hx hy
          cases hb : beqK k k2 with
          | true =>
            rw [hb] at hk; obtain rfl := beqK_eq hb
            have e1 : args = #[x, y] := by cases args; simp_all
            subst e1
            exact .of (rd_min ho hx hy) hk
          | false => rw [hb] at hk; exact .inr hk
        · exact .inr hk
      · exact .inr hk
    · split at hk
      · rename_i x y h1
        split at hk
        · rename_i k m k2 n hx hy
          cases hb : beqK k k2 with
          | true =>
            rw [hb] at hk; obtain rfl := beqK_eq hb
            have e1 : args = #[x, y] := by cases args; simp_all
            subst e1
            exact .of (rd_max ho hx hy) hk
          | false => rw [hb] at hk; exact .inr hk
        · exact .inr hk
      · exact .inr hk
    · exact .inr hk
  · exact sliceV_ok hT ho hk
  · exact convV_ok hT ho hk
  · exact .inr hk
end
end Go.Ax
