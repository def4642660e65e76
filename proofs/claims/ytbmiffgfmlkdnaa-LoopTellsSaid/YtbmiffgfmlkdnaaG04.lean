/- A call that sorts one's own list of numbers in place. -/
import Derived.Test.YtbmiffgfmlkdnaaG03
import Derived.Sort.Grow
set_option linter.unusedVariables false
set_option linter.unusedSimpArgs false

namespace Go.Ax
open Go.RowKit Go.Sort
set_option linter.unusedVariables false
set_option linter.unusedSimpArgs false

def intsL (l : List Int) : List (List AV) := l.map fun n => [AV.lit (.int .i64 n)]
theorem own_ints {S : Nat → Prop} {w : World} {b : Nat} : ∀ {l : List Int} {o : Nat} {F : List Nat}, Own S w (.c b o (intsL l).flatten) F → F = [] ∧ ∀ j, (h : j < l.length) → w.cell? ⟨b, o + j, none⟩ = some (.int .i64 l[j])
  | [], o, F, h => by
    cases h
    exact ⟨rfl, fun j hj => absurd hj (Nat.not_lt_zero _)⟩
  | n :: l, o, F, h => by
    replace h : Own S w (.c b o (AV.lit (.int .i64 n) :: (intsL l).flatten)) F := h
    cases h with
    | ccons hc hv hr =>
      obtain ⟨rfl, h2⟩ := own_ints hr
      cases hv with
      | std hv =>
        obtain rfl := hv.lit_inv
        refine ⟨rfl, fun j hj => ?_⟩
        match j with
        | 0 => exact hc
        | j + 1 =>
          have := h2 j (by simpa using hj)
          rw [show o + (j + 1) = o + 1 + j by omega]
          exact this
theorem ints_own {S : Nat → Prop} {w : World} {b : Nat} : ∀ {l : List Int} {o : Nat}, (∀ j, (h : j < l.length) → w.cell? ⟨b, o + j, none⟩ = some (.int .i64 l[j])) → Own S w (.c b o (intsL l).flatten) []
  | [], o, h => .cnil
  | n :: l, o, h => by
    have h1 := h 0 (by simp)
    have h2 := ints_own (S := S) (w := w) (b := b) (l := l) (o := o + 1) fun j hj => by
      have := h (j + 1) (by simpa using hj)
      rw [show o + 1 + j = o + (j + 1) by omega]
      exact this
    exact Own.ccons (F := []) (G := []) h1 (.std (.lit _)) h2

/-- What a function that sorts numbers in place does. -/
structure Sorts (P : Program) (g : Nat) : Prop where
  has : HasF P g
  full : ∀ (blk off cap : Nat) (zs : List Int) (w : World), Holds (Value.int .i64) w blk off zs.toArray → blk < w.heap.size → zs.length < 4611686018427387904 →
    Calls P g #[.slice (some ⟨blk, off, none⟩) zs.length cap] w fun e w' => e = .returned (.tuple #[]) ∧ ∃ n os, w' = grow (putRow (Value.int .i64) (Sort.ahead w n) blk off (zs.mergeSort fun x y => decide (x ≤ y)).toArray) os
  none : ∀ (p : Option Addr) (cap : Nat) (w : World), Calls P g #[.slice p 0 cap] w fun e w' => e = .returned (.tuple #[]) ∧ w' = w

/-- The world behind the sort. -/
theorem sorted_heap {w : World} {n blk off : Nat} {d : Array Int} {os : Array Obj} {c : Array Value} (hb : Blk w blk c) :
    (∀ z, z ≠ blk → z < w.heap.size → (grow (putRow (Value.int .i64) (Sort.ahead w n) blk off d) os).heap[z]? = w.heap[z]?) ∧ Blk (grow (putRow (Value.int .i64) (Sort.ahead w n) blk off d) os) blk (putCells (Value.int .i64) off d c) := by
  have hh : ∀ z, z < w.heap.size → (grow (putRow (Value.int .i64) (Sort.ahead w n) blk off d) os).heap[z]? = (w.heap.modify blk (onCells (putCells (Value.int .i64) off d)))[z]? := fun z hz => by
    show ((w.heap.modify blk (onCells (putCells (Value.int .i64) off d))) ++ os)[z]? = _
    rw [Array.getElem?_append_left (by rw [Array.size_modify]; exact hz)]
  refine ⟨fun z hz hzl => ?_, ?_⟩
  · rw [hh z hzl, Array.getElem?_modify, if_neg (fun e => hz e.symm)]
  · have hlt := hb.lt
    obtain ⟨e, he⟩ := hb
    refine ⟨e, ?_⟩
    rw [hh blk hlt, Array.getElem?_modify, if_pos rfl, he]
    rfl

section
variable {P : Program} {f : Nat} {Q : Post} {k : List Item} {st : St} {A : Array Oper} {i : Nat} {rest : List Nat}
theorem run_sort {d t g : Nat} {pos : String} {af : Array Edge} {gd : Option (Nat × Bool)} {x : Operand} {ts : Array Nat} {zs : List Int} (id : Nat)
    (ho : A[i]? = some ⟨some d, .call { callee := .value (.func g), args := #[x], argTypes := ts }, t, pos, af, gd⟩) (hw : Want A st gd) (hd : Nat.blt d st.nt = true) (hx : st.ev x = .hw id) (hrow : row id st.hp = some (.row 1 (intsL zs)))
    (hl : zs.length ≤ 1000000000) (hs : Sorts P g)
    (h : Run P f Q (.inRegion A rest :: k) ⟨(d, .tup []) :: st.tm, (id, .row 1 (intsL (zs.mergeSort fun x y => decide (x ≤ y)))) :: rem id st.hp, st.nx, st.nt⟩) : Run P f Q (.inRegion A (i :: rest) :: k) st := by
  intro S0 B w0 I a w hlo hr hds b hbf hk hro cs
  have h1 := hr.ev x
  rw [hx] at h1
  obtain ⟨hid, h2⟩ := h1.hw_inv
  obtain ⟨T, t1, t2, t3⟩ := hr.hp
  obtain ⟨F, T', g1, g2, g3⟩ := t1.take hrow
  have key : ∃ R : Ending → World → Prop, Calls P g #[a.eval x] w R ∧ ∀ e w', R e w' → e = .returned (.tuple #[]) ∧ Rel S0 B w0 I ⟨st.tm, (id, .row 1 (intsL (zs.mergeSort fun x y => decide (x ≤ y)))) :: rem id st.hp, st.nx, st.nt⟩ a w' := by
    generalize hxs : intsL zs = xs at g1
    cases g1 with
    | row0 hi ha h0 hz =>
      have hz0 : zs = [] := by cases zs with | nil => rfl | cons a l => cases hxs
      subst hz0
      rcases h2 with ⟨ha2, hln, p, he⟩ | ⟨b', o', cap, c, ha2, _⟩
      · refine ⟨_, by rw [he]; exact hs.none p 0 w, ?_⟩
        rintro e w' ⟨rfl, rfl⟩
        refine ⟨rfl, { hr with hp := ⟨[] ++ T', .cons ?_ g2, g3.nodup_iff.1 t2, fun z hz => t3 z (g3.mem_iff.2 hz)⟩ }⟩
        have : (([] : List Int).mergeSort fun x y => decide (x ≤ y)) = [] := by simp
        rw [this]
        exact .row0 hi ha h0 hz
      · rw [ha] at ha2; cases ha2
    | row hi ha hln hz hb hsz hxl hown =>
      rename_i b1 o1 c1 F1
      subst hxs
      obtain ⟨rfl, hcell⟩ := own_ints hown
      have hlen : (intsL zs).length = zs.length := by unfold intsL; simp
      rcases h2 with ⟨ha2, _⟩ | ⟨b', o', cap, c, ha2, hcap, hb2, hcs, he⟩
      · rw [ha] at ha2; cases ha2
      · rw [ha] at ha2
        cases ha2
        rw [hln, hlen] at he
        have hH : Holds (Value.int .i64) w b1 o1 zs.toArray := fun j hj => by
          have hj' : j < zs.length := by simpa using hj
          refine ⟨?_, hb.frozen _⟩
          rw [hcell j hj', getElem!_pos _ j (by simpa using hj')]
          simp
        have hbB := t3 b1 (g3.mem_iff.2 (by simp))
        refine ⟨_, by rw [he]; exact hs.full b1 o1 cap zs w hH hb.lt (by omega), ?_⟩
        rintro e w' ⟨rfl, n, os, rfl⟩
        refine ⟨rfl, ?_⟩
        obtain ⟨k1, k2⟩ := sorted_heap (n := n) (off := o1) (d := (zs.mergeSort fun x y => decide (x ≤ y)).toArray) (os := os) hb
        generalize hw' : grow (putRow (Value.int .i64) (Sort.ahead w n) b1 o1 (zs.mergeSort fun x y => decide (x ≤ y)).toArray) os = w' at *
        have hsize : w.heap.size ≤ w'.heap.size := by rw [← hw']; simp
        have hos : w'.os = w.os := by rw [← hw']; rfl
        have htape : w'.tape = w.tape := by rw [← hw']; rfl
        have hout : w'.output = w.output := by rw [← hw']; rfl
        have hlast : Lasts w w' := fun z c hz => by
          by_cases e : z = b1
          · subst e
            obtain ⟨e1, he1⟩ := hz
            obtain ⟨e2, he2⟩ := hb
            rw [he1] at he2
            cases he2
            exact ⟨_, k2, by unfold putCells; rw [Array.size_mapIdx]⟩
          · have hzl := hz.lt
            obtain ⟨e1, he1⟩ := hz
            exact ⟨c, ⟨e1, (k1 z e hzl).trans he1⟩, rfl⟩
        have hext : Ext I w I w' := ⟨fun _ h => h, fun z hz => k1 z (fun e => hbB.2.1 (e ▸ hz)) (hr.ss z hz), Nat.le_refl _, fun _ _ => rfl, fun _ _ => rfl, fun _ _ => rfl, hlast⟩
        have hbel : Below B w w' := ⟨hos, htape, hout, hsize, fun z hz => k1 z (by omega) (Nat.lt_of_lt_of_le hz hr.bs)⟩
        have hlen2 : (zs.mergeSort fun x y => decide (x ≤ y)).length = zs.length := List.length_mergeSort _
        have hsz1 : o1 + zs.length * 1 ≤ c1.size := by rw [← hlen]; exact hsz
        have hown2 : Own I.S w' (.c b1 o1 (intsL (zs.mergeSort fun x y => decide (x ≤ y))).flatten) [] := ints_own fun j hj => by
          rw [k2.cell]
          unfold putCells
          rw [Array.getElem?_mapIdx]
          have hjc : o1 + j < c1.size := by omega
          rw [Array.getElem?_eq_getElem hjc]
          simp only [Option.map_some]
          rw [if_pos ⟨by omega, by simp; omega⟩]
          congr 2
          rw [show o1 + j - o1 = j by omega, getElem!_pos _ j (by simpa using hj)]
          simp
        have hT' : ∀ z ∈ T', w'.heap[z]? = w.heap[z]? := fun z hz => by
          refine k1 z (fun e => ?_) (t3 z (g3.mem_iff.2 (by simp [hz]))).2.2
          subst e
          have hnd := g3.nodup_iff.1 t2
          simp at hnd
          exact hnd.1 hz
        have hrowok : RowOK I w' id (.row 1 (intsL (zs.mergeSort fun x y => decide (x ≤ y)))) [b1] :=
          .row hi ha (by unfold intsL; rw [List.length_map, hlen2, hln, hlen]) hz k2 (by unfold intsL putCells; rw [List.length_map, hlen2, Array.size_mapIdx]; exact hsz1) (fun x hx => by unfold intsL at hx; obtain ⟨n, _, rfl⟩ := List.mem_map.1 hx; rfl) hown2
        have := hr.next hext hbel (fun b h => .inl h) (fun z hz => Nat.lt_of_lt_of_le (hr.ss z hz) hsize) (hp := (id, .row 1 (intsL (zs.mergeSort fun x y => decide (x ≤ y)))) :: rem id st.hp)
          ⟨[b1] ++ T', .cons hrowok (g2.mono hext hT'), g3.nodup_iff.1 t2, fun z hz => by
            have := t3 z (g3.mem_iff.2 hz)
            exact ⟨this.1, this.2.1, Nat.lt_of_lt_of_le this.2.2 hsize⟩⟩
        rw [hr.nx] at this; exact this
  obtain ⟨R, hcalls, hR⟩ := key
  obtain ⟨e, w2, fr, hre, hcomes, _, hleave⟩ := hcalls (b.atR a (.inRegion A (i :: rest) :: k) :: cs)
  obtain ⟨rfl, hr'⟩ := hR e w2 hre
  obtain ⟨fn, c, hg, hb, hn⟩ := hs.has
  have hxc := exec_call (P := P) (a := a) (w := w) (dst := some d) (t := t) (pos := pos) (af := af) (gd := gd) (xs := #[x]) (ts := ts) (x := .func g) (cs := []) rfl hg hb hn
  have hargs : (#[x].toList.map a.eval ++ []).toArray = #[a.eval x] := rfl
  rw [hargs] at hxc
  have hst := enter_back ho (hr.wanted hw) hxc hcomes hleave (R := fun _ _ => True)
  have hrel := hr'.put (d := d) (by exact hd) (v := .tup []) (.std (.tup (.nil)))
  obtain ⟨e3, w3, q1, q2⟩ := h S0 B w0 I _ w2 hlo hrel hds b hbf hk hro cs
  exact ⟨e3, w3, q1, q2.of_steps hst⟩
end
theorem Std.c_own2 {S : Nat → Prop} {w : World} {b : Nat} : ∀ {as : List AV} {o : Nat}, Std S w (.c b o as) → Own S w (.c b o as) []
  | [], _, _ => .cnil
  | a :: as, o, h => by
    cases h with
    | ccons h1 h2 h3 => exact Own.ccons (F := []) (G := []) h1 (.std h2) (Std.c_own2 h3)
/-- All that hangs on an own row's elements stays from now on; the row is one's own still. -/
theorem run_frzIn {P : Program} {f : Nat} {Q : Post} {todo : List Item} {tm : List (Nat × AV)} {hp : List (Nat × Row)} {nx nt : Nat} (id : Nat) {sz : Nat} {xs xs' : List (List AV)} (hrow : row id hp = some (.row sz xs)) (hz : AV.fzLL xs = xs')
    (h : Run P f Q todo ⟨tm, (id, .row sz xs') :: rem id hp, nx, nt⟩) : Run P f Q todo ⟨tm, hp, nx, nt⟩ := by
  subst hz
  intro S0 B w0 I a w hlo hr
  obtain ⟨T, t1, t2, t3⟩ := hr.hp
  obtain ⟨F, T', g1, g2, g3⟩ := t1.take hrow
  cases g1 with
  | row0 hi ha h0 hz =>
    exact h S0 B w0 I a w hlo { hr with hp := ⟨[] ++ T', .cons (.row0 hi ha h0 hz) g2, g3.nodup_iff.1 t2, fun z hz => t3 z (g3.mem_iff.2 hz)⟩ }
  | row hi ha hln hz hb hs hx ho =>
    rename_i b o c F
    have he : Ext I w { I with S := fun z => I.S z ∨ z ∈ F } w := ⟨fun _ h => .inl h, fun _ _ => rfl, Nat.le_refl _, fun _ _ => rfl, fun _ _ => rfl, fun _ _ => rfl, .refl w⟩
    have hnd := g3.nodup_iff.1 t2
    have hFT : ∀ z ∈ F, z ∈ T := fun z hz => g3.mem_iff.2 (by simp [hz])
    have hown := Std.c_own2 ho.freeze
    rw [show AV.fzL xs.flatten = (AV.fzLL xs).flatten from (AV.fzLL_flat xs).symm] at hown
    have hrowok : RowOK { I with S := fun z => I.S z ∨ z ∈ F } w id (.row sz (AV.fzLL xs)) [b] :=
      .row hi ha (by rw [AV.fzLL_len]; exact hln) hz hb (by rw [AV.fzLL_len]; exact hs) (AV.fzLL_mem hx) hown
    have := hr.next he (Below.refl B w) (fun z hz => hz.imp (fun h => h) fun h => (t3 z (hFT z h)).1) (fun z hz => hz.elim (hr.ss z) fun h => (t3 z (hFT z h)).2.2) (hp := (id, .row sz (AV.fzLL xs)) :: rem id hp)
      ⟨[b] ++ T', .cons hrowok (g2.mono he fun _ _ => rfl), by
        refine List.nodup_iff_count.2 fun z => ?_
        have := List.nodup_iff_count.1 hnd z
        simp only [List.count_append, List.count_cons] at this ⊢
        simp only [List.count_nil] at *
        omega, fun z hz => by
        have hz2 : z = b ∨ z ∈ T' := by simpa using hz
        have h1 := t3 z (g3.mem_iff.2 (by rcases hz2 with h | h <;> simp [h]))
        refine ⟨h1.1, fun hh => hh.elim h1.2.1 fun hF => ?_, h1.2.2⟩
        have hc := List.nodup_iff_count.1 hnd z
        have hm : 0 < F.count z := List.count_pos_iff.2 hF
        simp only [List.count_append, List.count_cons] at hc
        rcases hz2 with h | h
        · subst h; simp at hc; omega
        · have : 0 < T'.count z := List.count_pos_iff.2 h
          omega⟩
    rw [show ({ I with S := fun z => I.S z ∨ z ∈ F } : Interp).nx = nx from hr.nx] at this
    exact h S0 B w0 _ a w hlo this
end Go.Ax
