/- What comes in from outside: arguments of known types, opened. -/
import Derived.Test.YtnfkdilmoppbpaaAxR
import Derived.ChangeArms
import Derived.SizedLaws
namespace Go.Ax
open Go.RowKit
set_option linter.unusedVariables false
set_option linter.unusedSimpArgs false

/-- All blocks that are there. -/
def All (w : World) (b : Nat) : Prop := b < w.heap.size

def Weighs {H : Type} (P : Program) (t : Nat) (d : DataW H) : Prop := ∀ n ∈ d.weights P t, n ≤ reachBytes

/-- Whatever reads as of type t is some a, told as enc a. -/
def Opens (P : Program) (t : Nat) {α : Type} (enc : α → List AV) (ok : α → Prop) : Prop :=
  ∀ (H : Type) (en : TypeId × Value → H) (w : World) (fuel : Nat) (cs : List Value) (x : DataW H × List MemPlace), DataW.trod en P w 0 (fun _ => true) true fuel t cs = some x → Weighs P t x.1 →
    ∃ a, Std (All w) w (.l (enc a) cs) ∧ ok a

theorem cellsOf_ty {P : Program} {t : Nat} {i : TyI} (h : TyOK P t i) : P.cellsOf t = i.size := by
  obtain ⟨_, _, info, h1, h2, _⟩ := h
  simp [Program.cellsOf, h1, h2]

theorem bytesOf_ty {P : Program} {t : Nat} {i : TyI} (h : TyOK P t i) : P.bytesOf t = i.bytes := by
  obtain ⟨_, _, info, h1, _, h2, _⟩ := h
  simp [Program.bytesOf, h1, h2]

/-- A number of 64 bits. -/
def num64 (n : Int) : Prop := -9223372036854775808 ≤ n ∧ n ≤ 9223372036854775807

theorem opens_int {P : Program} {t : Nat} {i : TyI} (ht : TyOK P t i) (hd : i.td = .td (.int .i64)) : Opens P t (fun n : Int => [.lit (.int .i64 n)]) num64 := by
  intro H en w fuel cs x h _
  obtain ⟨hd2, _⟩ := ht; rw [hd] at hd2
  obtain ⟨n, rfl, _, hw⟩ := DataW.trod_int hd2.1 h
  refine ⟨n, .cons (.lit _) .nil, ?_⟩
  simp [Lit.wf, IntKind.min, IntKind.max, IntKind.signed, IntKind.bits] at hw
  unfold num64; omega

theorem opens_bool {P : Program} {t : Nat} {i : TyI} (ht : TyOK P t i) (hd : i.td = .td .bool) : Opens P t (fun b : Bool => [.lit (.bool b)]) (fun _ => True) := by
  intro H en w fuel cs x h _
  obtain ⟨hd2, _⟩ := ht; rw [hd] at hd2
  obtain ⟨n, rfl, _⟩ := DataW.trod_bool hd2.1 h
  exact ⟨n, .cons (.lit _) .nil, trivial⟩

theorem opens_string {P : Program} {t : Nat} {i : TyI} (ht : TyOK P t i) (hd : i.td = .td .string) : Opens P t (fun s : ByteArray => [.lit (.string s)]) (fun s => s.size ≤ reachBytes) := by
  intro H en w fuel cs x h hw
  obtain ⟨hd2, _⟩ := ht; rw [hd] at hd2
  obtain ⟨s, rfl, rfl, _⟩ := DataW.trod_string hd2.1 h
  refine ⟨s, .cons (.lit _) .nil, ?_⟩
  have := hw s.data.toList.length (by simp [DataW.weights])
  simpa using this

theorem cells?_spec {w : World} {a : Addr} {n : Nat} {cs : List Value} (h : w.cells? 0 a n = some cs) : cs.length = n ∧ ∀ i, i < n → w.cell? (a.add i) = cs[i]? := by
  simp only [World.cells?, Nat.zero_le, if_true] at h
  refine ⟨by simpa using mapM_some_length h, fun i hi => ?_⟩
  exact mapM_some_get h i i (by simp [hi])

theorem std_cells_of {S : Nat → Prop} {w : World} {b : Nat} : ∀ (as : List AV) (us : List Value) (o : Nat), Std S w (.l as us) → CellsAt w b o us → Std S w (.c b o as) := by
  intro as
  induction as with
  | nil => intro us o _ _; exact .cnil
  | cons a as ih =>
    intro us o k1 k2
    cases k1 with
    | cons k3 k4 =>
      refine .ccons (k2 0 _ rfl) k3 (ih _ _ k4 fun j v hj => ?_)
      have := k2 (j + 1) v (by simpa using hj)
      rw [show o + 1 + j = o + (j + 1) from by omega]; exact this

theorem weightsAll_mem {H : Type} {P : Program} {e n : Nat} {d : DataW H} : ∀ {ds : List (DataW H)}, d ∈ ds → n ∈ d.weights P e → n ∈ DataW.weightsAll P e ds
  | d0 :: ds, h, hn => by
    simp only [DataW.weightsAll, List.mem_append]
    rcases List.mem_cons.1 h with rfl | h
    · exact .inl hn
    · exact .inr (weightsAll_mem h hn)

theorem opens_slice {P : Program} {t e : Nat} {i ie : TyI} {α : Type} {enc : α → List AV} {ok : α → Prop} (ht : TyOK P t i) (hd : i.td = .td (.slice e)) (he : TyOK P e ie) {sz by_ : Nat} (hsz : ie.size = sz) (h0 : 0 < sz) (hby : ie.bytes = by_) (hlen : ∀ a, (enc a).length = sz) (ho : Opens P e enc ok) :
    Opens P t (fun l : List α => [.sl false sz (l.map enc)]) (fun l => (∀ a ∈ l, ok a) ∧ l.length * by_ ≤ reachBytes) := by
  intro H en w fuel cs x h hw
  have hu := ht.sliceE hd
  have hc := cellsOf_ty he
  rcases DataW.trod_slice hu h with ⟨rfl, _⟩ | ⟨a, len, cap, elems, rest, n, _, rfl, rfl, _, hlc, _, hel, hall, hsp, _⟩
  · exact ⟨[], .cons (.sl0 (fun h => by cases h) (fun _ => rfl)) .nil, by simp, by simp⟩
  · have hrest := (hsp rfl).1
    rw [hc, hsz] at hall
    have hwt : len * by_ ≤ reachBytes := by
      have := hw ((elems.length + rest.length) * P.bytesOf e) (by simp [DataW.weights, hu])
      rw [bytesOf_ty he, hby, hel] at this
      exact Nat.le_trans (Nat.mul_le_mul_right _ (Nat.le_add_right _ _)) this
    have hel2 : ∀ j, j < len → ∃ y cs', elems[j]? = some y ∧ w.cells? 0 (a.add (j * sz)) sz = some cs' ∧ DataW.trod en P w 0 (fun _ => true) true n e cs' = some y ∧ Weighs P e y.1 := by
      intro j hj
      have h1 := hall j hj
      have h2 : elems[j]? = some elems[j] := List.getElem?_eq_getElem (by omega)
      rw [h2] at h1
      obtain ⟨cs', h3, h4⟩ := Option.bind_eq_some_iff.1 h1
      refine ⟨_, cs', h2, h3, h4, fun m hm => hw m ?_⟩
      simp only [DataW.weights, hu, List.mem_cons, List.mem_append]
      exact .inr (.inl (weightsAll_mem (List.mem_map.2 ⟨_, List.getElem_mem _, rfl⟩) hm))
    by_cases hl : len = 0
    · subst hl
      exact ⟨[], .cons (.sl0 (fun h => by cases h) (fun h => by cases h)) .nil, by simp, by simp⟩
    · obtain ⟨b, of, spot⟩ := a
      have hs : spot = none ∧ b < w.heap.size := by
        obtain ⟨y, cs', _, h2, _⟩ := hel2 0 (by omega)
        obtain ⟨h3, h4⟩ := cells?_spec h2
        have h5 := h4 0 h0
        have h6 : cs'[0]? = some cs'[0] := List.getElem?_eq_getElem (by omega)
        rw [h6] at h5
        simp only [Nat.zero_mul, Addr.add, if_true, World.cell?] at h5
        split at h5
        · rename_i c _ _ hb
          refine ⟨by cases spot <;> simp_all, ?_⟩
          exact (Array.getElem?_eq_some_iff.1 hb).1
        · cases h5
      obtain ⟨rfl, hb⟩ := hs
      have key : ∀ k, k ≤ len → ∃ l : List α, l.length = k ∧ (∀ a ∈ l, ok a) ∧ Std (All w) w (.c b of (l.map enc).flatten) := by
        intro k
        induction k with
        | zero => intro _; exact ⟨[], rfl, by simp, .cnil⟩
        | succ k ih =>
          intro hk
          obtain ⟨l, g1, g2, g3⟩ := ih (by omega)
          obtain ⟨y, cs', _, h2, h3, h4⟩ := hel2 k (by omega)
          obtain ⟨a, h5, h6⟩ := ho H en w n cs' y h3 h4
          obtain ⟨h7, h8⟩ := cells?_spec h2
          refine ⟨l ++ [a], by simp [g1], ?_, ?_⟩
          · intro z hz
            rcases List.mem_append.1 hz with hz | hz
            · exact g2 z hz
            · rw [List.mem_singleton] at hz; subst hz; exact h6
          · rw [List.map_append, List.flatten_append]
            refine g3.app ?_
            rw [flat_len (n := sz) (by intro z hz; obtain ⟨u, _, rfl⟩ := List.mem_map.1 hz; exact hlen u), List.length_map, g1]
            simp only [List.map_cons, List.map_nil, List.flatten_cons, List.flatten_nil, List.append_nil]
            refine std_cells_of _ _ _ h5 fun j v hj => ?_
            have hjs : j < sz := by have := (List.getElem?_eq_some_iff.1 hj).1; omega
            have := h8 j hjs
            rw [addr_add, addr_add] at this
            rw [this]; exact hj
      obtain ⟨l, g1, g2, g3⟩ := key len (Nat.le_refl _)
      refine ⟨l, .cons ?_ .nil, g2, by rw [g1]; exact hwt⟩
      have := Std.sl (S := All w) (w := w) (full := false) (sz := sz) (xs := l.map enc) (b := b) (o := of) (cap := cap) (fun h => by cases h) (by rw [List.length_map, g1]; exact hlc) (by intro z hz; obtain ⟨u, _, rfl⟩ := List.mem_map.1 hz; exact hlen u) hb g3
      rw [List.length_map, g1] at this
      exact this

/-- The same of a struct's fields, from a place on. -/
def OpensF (P : Program) (fs : List (Nat × Nat)) (start : Nat) {α : Type} (enc : α → List AV) (ok : α → Prop) : Prop :=
  ∀ (H : Type) (en : TypeId × Value → H) (w : World) (fuel : Nat) (cs : List Value) (ds : List (DataW H)), ds.length = fs.length →
    (∀ (j off t : Nat), fs[j]? = some (off, t) → ∃ x, DataW.trod en P w 0 (fun _ => true) true fuel t ((cs.drop off).take (P.cellsOf t)) = some x ∧ ds[j]? = some x.1 ∧ Weighs P t x.1) →
    cs.length = start + (fs.map fun f => P.cellsOf f.2).sum → ∃ a, Std (All w) w (.l (enc a) (cs.drop start)) ∧ ok a

theorem opensF_nil {P : Program} {start : Nat} : OpensF P [] start (fun _ : Unit => []) (fun _ => True) := by
  intro H en w fuel cs ds _ _ hl
  refine ⟨(), ?_, trivial⟩
  rw [List.drop_eq_nil_of_le (by simp at hl; omega)]; exact .nil

theorem Std.l_app {S : Nat → Prop} {w : World} {as bs : List AV} {vs us : List Value} (h : Std S w (.l as vs)) (h2 : Std S w (.l bs us)) : Std S w (.l (as ++ bs) (vs ++ us)) := by
  induction as generalizing vs with
  | nil => cases h; exact h2
  | cons a as ih => cases h with | cons h1 h3 => exact .cons h1 (ih h3)

theorem opensF_cons {P : Program} {t start sz : Nat} {i : TyI} {fs : List (Nat × Nat)} {α β : Type} {enc : α → List AV} {ok : α → Prop} {enc2 : β → List AV} {ok2 : β → Prop} (ht : TyOK P t i) (hsz : i.size = sz) (h1 : Opens P t enc ok) (h2 : OpensF P fs (start + sz) enc2 ok2) :
    OpensF P ((start, t) :: fs) start (fun p : α × β => enc p.1 ++ enc2 p.2) (fun p => ok p.1 ∧ ok2 p.2) := by
  intro H en w fuel cs ds hl hx hlen
  cases ds with
  | nil => simp at hl
  | cons d ds =>
    obtain ⟨x, g1, g2, g3⟩ := hx 0 start t rfl
    have hc := cellsOf_ty ht
    rw [hc, hsz] at g1
    obtain ⟨a, k1, k2⟩ := h1 H en w fuel _ x g1 g3
    obtain ⟨b, k3, k4⟩ := h2 H en w fuel cs ds (by simpa using hl) (fun j off t' hj => by
      obtain ⟨x, m1, m2, m3⟩ := hx (j + 1) off t' (by simpa using hj)
      exact ⟨x, m1, by simpa using m2, m3⟩) (by simp only [List.map_cons, List.sum_cons, hc, hsz] at hlen; omega)
    refine ⟨(a, b), ?_, k2, k4⟩
    have e : cs.drop start = (cs.drop start).take sz ++ cs.drop (start + sz) := by
      rw [← List.drop_drop, List.take_append_drop]
    rw [e]
    exact k1.l_app k3

theorem opens_struct {P : Program} {t : Nat} {i : TyI} {fs : List (Nat × Nat)} {α : Type} {enc : α → List AV} {ok : α → Prop} (ht : TyOK P t i) (hd : i.td = .agg fs) (hs : i.size = (fs.map fun f => P.cellsOf f.2).sum) (h : OpensF P fs 0 enc ok) :
    Opens P t enc ok := by
  intro H en w fuel cs x hx hw
  have hc := cellsOf_ty ht
  obtain ⟨hd2, _⟩ := ht
  rw [hd] at hd2
  obtain ⟨fields, hu, rfl⟩ := hd2
  obtain ⟨xs, n, rfl, rfl, hl, hlen, hall⟩ := DataW.trod_struct hu hx
  have := h H en w n cs (xs.map (·.1)) (by simp [hlen]) (fun j off t' hj => by
    rw [List.getElem?_map] at hj
    cases hf : fields.toList[j]? with
    | none => simp [hf] at hj
    | some fd =>
      rw [hf] at hj
      simp at hj
      obtain ⟨rfl, rfl⟩ := hj
      have h1 := hall j fd (by simpa using hf)
      have hjx : j < xs.length := by rw [hlen]; have := (List.getElem?_eq_some_iff.1 hf).1; simpa using this
      have h2 : xs[j]? = some xs[j] := List.getElem?_eq_getElem hjx
      rw [h2] at h1
      refine ⟨_, h1, by simp [h2], fun m hm => hw m ?_⟩
      simp only [DataW.weights, hu]
      exact DataW.weights_mem_each (ts := fields.toList.map (·.type)) (ds := xs.map (·.1)) (j := j) (t := fd.type) (d := xs[j].1) (by rw [List.getElem?_map, hf]; rfl) (by rw [List.getElem?_map, h2]; rfl) m hm) (by rw [hl, hc, hs]; omega)
  simpa using this

theorem Opens.map {P : Program} {t : Nat} {α β : Type} {enc : α → List AV} {ok : α → Prop} {enc2 : β → List AV} {ok2 : β → Prop} (h : Opens P t enc ok) (f : α → β) (he : ∀ a, enc2 (f a) = enc a) (hk : ∀ a, ok a → ok2 (f a)) : Opens P t enc2 ok2 := by
  intro H en w fuel cs x hx hw
  obtain ⟨a, h1, h2⟩ := h H en w fuel cs x hx hw
  exact ⟨f a, by rw [he]; exact h1, hk a h2⟩
end Go.Ax
