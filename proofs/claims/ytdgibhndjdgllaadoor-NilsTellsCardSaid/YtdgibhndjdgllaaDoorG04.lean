/- Maps of one's own: made, filled, looked up, gone through in any order; rows of one's own, cut short. -/
import Derived.Test.YtdgibhndjdgllaaDoorG03
import Derived.Maps.RangeRun
import Derived.Conc.LoneSelect
set_option linter.unusedVariables false
set_option linter.unusedSimpArgs false

namespace Go.Ax
open Go.RowKit
set_option linter.unusedVariables false
set_option linter.unusedSimpArgs false

section
variable {P : Program} {f : Nat} {Q : Post} {k : List Item} {st : St} {A : Array Oper} {i : Nat} {rest : List Nat} {o : Oper}

end
end Go.Ax

/- Channels of one's own in one goroutine: made, and asked by a select of one case with a default. -/
namespace Go.Ax
open Go.RowKit Go.Conc
set_option linter.unusedVariables false
set_option linter.unusedSimpArgs false

section
variable {P : Program} {f : Nat} {Q : Post} {k : List Item} {st : St} {A : Array Oper} {i : Nat} {rest : List Nat} {o : Oper}

theorem Rep.hc_inv {I : Interp} {w : World} {id : Nat} {x : Value} (h : Rep I w (.v (.hc id) x)) : ∃ r, I.at_ id = some (r, 0) ∧ x = .chan (some r) := by
  cases h with
  | std h => cases h
  | hc _ ha => exact ⟨_, ha, rfl⟩
theorem RowOK.chn_inv {I : Interp} {w : World} {id cap : Nat} {xs : List Int} {F : List Nat} (h : RowOK I w id (.chn cap xs) F) :
    ∃ r buf s rc, F = [r] ∧ id < I.nx ∧ I.at_ id = some (r, 0) ∧ w.heap[r]? = some (.chan cap buf false s rc false) ∧ buf.toList = xs.map (fun n => Value.int .i64 n) := by
  cases h with | chn h1 h2 h3 h4 => exact ⟨_, _, _, _, rfl, h1, h2, h3, h4⟩

theorem stepG_comm {b : Frame} {a : Act} {cs : List Frame} {w w' : World} {cases : Array CommCase} {bl : Bool} (ho : A[i]? = some o) (hw : Region.wanted o (yielded A a.tmps) = true) (hr : (execOp a.eval o).run P w = .ok (.comm cases bl .select) w') :
    ∃ es, stepG P true (G (b.atR a (.inRegion A (i :: rest) :: k)) cs) w = .comm (G (b.atR a (.inRegion A (i :: rest) :: k)) cs) cases bl .select w' es := by
  have hg := stepGR_op (P := P) (b := b) (k := k) (cs := cs) (w := w) (rest := rest) ho hw
  rw [semAt_of hr (by intro d h; cases h)] at hg
  have h2 : ∃ es, stepG.apply P true (b.atR a (.inRegion A (i :: rest) :: k)) cs none (execOp a.eval o) w = .comm (G (b.atR a (.inRegion A (i :: rest) :: k)) cs) cases bl .select w' es := by
    simp only [stepG.apply, Sem.runT_eq, hr]
    exact ⟨_, rfl⟩
  obtain ⟨es, h2⟩ := h2
  exact ⟨es, hg.trans h2⟩
end
end Go.Ax

/- A select of one case with a default, over a channel of one's own. -/
namespace Go.Ax
open Go.RowKit Go.Conc
set_option linter.unusedVariables false
set_option linter.unusedSimpArgs false

section
variable {P : Program} {f : Nat} {Q : Post} {k : List Item} {st : St} {A : Array Oper} {i : Nat} {rest : List Nat} {o : Oper}

theorem exec_sel {a : Act} {w : World} {d t0 : Nat} {pos : String} {af : Array Edge} {cx : Operand} {sx : Option Operand} {e : Nat} {z : Value} (hz : (zeroValue e).run P w = .ok z w) :
    (execOp a.eval ⟨some d, .select #[⟨cx, sx, e⟩] false, t0, pos, af, none⟩).run P w = .ok (.comm #[{ chan := a.eval cx, send := sx.map a.eval, zero := z }] false .select) w := by
  simp [execOp, Sem.run_bind, Sem.run_pure, hz, Result.andThen_ok, List.mapM_cons, List.mapM_nil]

/-- The world's chan r is another, and what is one's own stays. -/
theorem Rel.chn_put {S0 : Interp} {B : Nat} {w0 : World} {I : Interp} {a : Act} {w : World} (hr : Rel S0 B w0 I st a w) {id cap : Nat} {xs ys : List Int} (hrow : row id st.hp = some (.chn cap xs)) :
    ∃ r buf s rc, I.at_ id = some (r, 0) ∧ w.heap[r]? = some (.chan cap buf false s rc false) ∧ buf.toList = xs.map (fun n => Value.int .i64 n) ∧
      ∀ buf' s' rc', buf'.toList = ys.map (fun n => Value.int .i64 n) → Rel S0 B w0 I ⟨st.tm, (id, .chn cap ys) :: rem id st.hp, st.nx, st.nt⟩ a { w with heap := w.heap.setIfInBounds r (.chan cap buf' false s' rc' false) } := by
  obtain ⟨T, t1, t2, t3⟩ := hr.hp
  obtain ⟨F, T', r1, r2, r3⟩ := t1.take hrow
  obtain ⟨r, buf, s, rc, rfl, hid, ha, m2, hxs⟩ := r1.chn_inv
  refine ⟨r, buf, s, rc, ha, m2, hxs, fun buf' s' rc' hys => ?_⟩
  have hrT := t3 r (r3.mem_iff.2 (by simp))
  let ob : Obj := .chan cap buf' false s' rc' false
  let w1 : World := { w with heap := w.heap.setIfInBounds r ob }
  have k1 : w1.heap[r]? = some ob := by
    show (w.heap.setIfInBounds r ob)[r]? = _
    rw [Array.getElem?_setIfInBounds]; simp [hrT.2.2]
  have k2 : ∀ z, z ≠ r → w1.heap[z]? = w.heap[z]? := fun z hz => by
    show (w.heap.setIfInBounds r ob)[z]? = _
    rw [Array.getElem?_setIfInBounds, if_neg (Ne.symm hz)]
  have hsz : w1.heap.size = w.heap.size := by simp [w1]
  have he : Ext I w I w1 := ⟨fun _ h => h, fun z hz => k2 z fun e => hrT.2.1 (e ▸ hz), Nat.le_refl _, fun _ _ => rfl, fun _ _ => rfl, fun _ _ => rfl, fun z c hz => by
    obtain ⟨t, hc⟩ := hz
    exact ⟨c, ⟨t, (k2 z fun e => by rw [e, m2] at hc; cases hc).trans hc⟩, rfl⟩⟩
  have hnd : ([r] ++ T').Nodup := r3.nodup_iff.1 t2
  have hT' : ∀ b ∈ T', w1.heap[b]? = w.heap[b]? := fun b hb => k2 b fun e => by
    subst e; exact (List.nodup_cons.1 hnd).1 hb
  have := hr.next he ⟨rfl, rfl, rfl, by rw [hsz]; exact Nat.le_refl _, fun z hz => k2 z (by have := hrT.1; omega)⟩ (fun _ h => .inl h) (fun z hz => by rw [hsz]; exact hr.ss z hz)
    (hp := (id, .chn cap ys) :: rem id st.hp) ⟨[r] ++ T', .cons (.chn hid ha k1 hys) (r2.mono he hT'), hnd, fun b hb => by rw [hsz]; exact t3 b (r3.mem_iff.2 hb)⟩
  rw [hr.nx] at this; exact this

theorem run_selSend {d id cap t0 e : Nat} {pos : String} {af : Array Edge} {cx sx : Operand} {ie : TyI} {xs : List Int} {n : Int} (ho : A[i]? = some ⟨some d, .select #[⟨cx, some sx, e⟩] false, t0, pos, af, none⟩) (hd : Nat.blt d st.nt = true)
    (he : TyOK P e ie) (hc : st.ev cx = .hc id) (hs : st.ev sx = .lit (.int .i64 n)) (hrow : row id st.hp = some (.chn cap xs)) (hroom : xs.length < cap)
    (h : Run P f Q (.inRegion A rest :: k) ((⟨st.tm, (id, .chn cap (xs ++ [n])) :: rem id st.hp, st.nx, st.nt⟩ : St).set d (.tup [.lit (.int .i64 0), .lit (.bool false)]))) : Run P f Q (.inRegion A (i :: rest) :: k) st := by
  intro S0 B w0 I a w hlo hr hds b hb hk hro cs
  have g1 := hr.ev cx
  have g2 := hr.ev sx
  rw [hc] at g1
  rw [hs] at g2
  obtain ⟨r', ha', ex⟩ := g1.hc_inv
  obtain ⟨r, buf, s, rc, ha, m2, hxs, hput⟩ := hr.chn_put (ys := xs ++ [n]) hrow
  obtain rfl : r' = r := by rw [ha] at ha'; cases ha'; rfl
  obtain ⟨z, hz, _⟩ := run_zero (w := w) he
  have hrun := exec_sel (P := P) (a := a) (w := w) (d := d) (t0 := t0) (pos := pos) (af := af) (cx := cx) (sx := some sx) (e := e) hz
  rw [ex, Option.map_some, g2.lit_inv] at hrun
  obtain ⟨es, hg⟩ := stepG_comm (b := b) (k := k) (rest := rest) (cs := cs) ho rfl hrun
  have hbl : buf.size = xs.length := by rw [← Array.length_toList, hxs, List.length_map]
  have hst := step_lone_select_send_room (c := r') (v := .int .i64 n) (z' := z) hg m2 (by omega)
  have hfin : (b.atR a (.inRegion A (i :: rest) :: k)).finish (.tuple #[goInt 0, .bool false]) = b.atR (a.put (some d) (.tuple #[goInt 0, .bool false])) (.inRegion A rest :: k) := by rw [Frame.finish_atR, ho]; rfl
  rw [hfin] at hst
  have hr1 := hput (buf.push (.int .i64 n)) (s + 1) rc (by simp [hxs])
  have hr2 := hr1.put (d := d) (v := .tup [.lit (.int .i64 0), .lit (.bool false)]) (x := .tuple #[goInt 0, .bool false]) hd (.tup (.cons (.std (.lit _)) (.cons (.std (.lit _)) .nil)))
  obtain ⟨e2, w2, k1, k2⟩ := h S0 B w0 I _ _ hlo hr2 hds b hb hk hro cs
  exact ⟨e2, w2, k1, k2.of_steps (.one hst)⟩

theorem run_selRecv {d id cap t0 e : Nat} {pos : String} {af : Array Edge} {cx : Operand} {ie : TyI} {x : Int} {xs : List Int} (ho : A[i]? = some ⟨some d, .select #[⟨cx, none, e⟩] false, t0, pos, af, none⟩) (hd : Nat.blt d st.nt = true)
    (he : TyOK P e ie) (hc : st.ev cx = .hc id) (hrow : row id st.hp = some (.chn cap (x :: xs)))
    (h : Run P f Q (.inRegion A rest :: k) ((⟨st.tm, (id, .chn cap xs) :: rem id st.hp, st.nx, st.nt⟩ : St).set d (.tup [.lit (.int .i64 0), .lit (.bool true), .lit (.int .i64 x)]))) : Run P f Q (.inRegion A (i :: rest) :: k) st := by
  intro S0 B w0 I a w hlo hr hds b hb hk hro cs
  have g1 := hr.ev cx
  rw [hc] at g1
  obtain ⟨r', ha', ex⟩ := g1.hc_inv
  obtain ⟨r, buf, s, rc, ha, m2, hxs, hput⟩ := hr.chn_put (ys := xs) hrow
  obtain rfl : r' = r := by rw [ha] at ha'; cases ha'; rfl
  obtain ⟨z, hz, _⟩ := run_zero (w := w) he
  have hrun := exec_sel (P := P) (a := a) (w := w) (d := d) (t0 := t0) (pos := pos) (af := af) (cx := cx) (sx := none) (e := e) hz
  rw [ex, Option.map_none] at hrun
  obtain ⟨es, hg⟩ := stepG_comm (b := b) (k := k) (rest := rest) (cs := cs) ho rfl hrun
  have hbl : 0 < buf.size := by rw [← Array.length_toList, hxs]; simp
  have hst := step_lone_select_recv_buf (c := r') (z := z) hg m2 hbl
  have hx : buf.getD 0 undef = .int .i64 x := by
    have h2 : buf.toList[0]? = some (.int .i64 x) := by rw [hxs]; rfl
    rw [Array.getD_eq_getD_getElem?, ← Array.getElem?_toList, h2]; rfl
  rw [hx] at hst
  have hfin : (b.atR a (.inRegion A (i :: rest) :: k)).finish (.tuple #[goInt 0, .bool true, .int .i64 x]) = b.atR (a.put (some d) (.tuple #[goInt 0, .bool true, .int .i64 x])) (.inRegion A rest :: k) := by rw [Frame.finish_atR, ho]; rfl
  rw [hfin] at hst
  have hr1 := hput (buf.extract 1 buf.size) s (rc + 1) (by
    have : (buf.extract 1 buf.size).toList = buf.toList.drop 1 := by
      simp
      exact List.take_of_length_le (by simp)
    rw [this, hxs]; rfl)
  have hr2 := hr1.put (d := d) (v := .tup [.lit (.int .i64 0), .lit (.bool true), .lit (.int .i64 x)]) (x := .tuple #[goInt 0, .bool true, .int .i64 x]) hd (.tup (.cons (.std (.lit _)) (.cons (.std (.lit _)) (.cons (.std (.lit _)) .nil))))
  obtain ⟨e2, w2, k1, k2⟩ := h S0 B w0 I _ _ hlo hr2 hds b hb hk hro cs
  exact ⟨e2, w2, k1, k2.of_steps (.one hst)⟩

theorem run_selNone {d id cap t0 e : Nat} {pos : String} {af : Array Edge} {cx : Operand} {ie : TyI} {v : Int} (ho : A[i]? = some ⟨some d, .select #[⟨cx, none, e⟩] false, t0, pos, af, none⟩) (hd : Nat.blt d st.nt = true)
    (he : TyOK P e ie) (hz0 : ie.zero = [.int .i64 v]) (hag : ie.isAgg = false) (hc : st.ev cx = .hc id) (hrow : row id st.hp = some (.chn cap []))
    (h : Run P f Q (.inRegion A rest :: k) (st.set d (.tup [.lit (.int .i64 (-1)), .lit (.bool false), .any]))) : Run P f Q (.inRegion A (i :: rest) :: k) st := by
  intro S0 B w0 I a w hlo hr hds b hb hk hro cs
  have g1 := hr.ev cx
  rw [hc] at g1
  obtain ⟨r', ha', ex⟩ := g1.hc_inv
  obtain ⟨r, buf, s, rc, ha, m2, hxs, hput⟩ := hr.chn_put (ys := []) hrow
  obtain rfl : r' = r := by rw [ha] at ha'; cases ha'; rfl
  obtain ⟨z, hz, _⟩ := run_zero (w := w) he
  have hrun := exec_sel (P := P) (a := a) (w := w) (d := d) (t0 := t0) (pos := pos) (af := af) (cx := cx) (sx := none) (e := e) hz
  rw [ex, Option.map_none] at hrun
  obtain ⟨es, hg⟩ := stepG_comm (b := b) (k := k) (rest := rest) (cs := cs) ho rfl hrun
  have hbe : buf = #[] := Array.toList_inj.1 (by simpa using hxs)
  subst hbe
  have hst := step_lone_select_default (c := r') (z := z) hg m2
  have hfin : (b.atR a (.inRegion A (i :: rest) :: k)).finish (.tuple #[goInt (-1), .bool false, z]) = b.atR (a.put (some d) (.tuple #[goInt (-1), .bool false, z])) (.inRegion A rest :: k) := by rw [Frame.finish_atR, ho]; rfl
  rw [hfin] at hst
  have hr2 := hr.put (d := d) (v := .tup [.lit (.int .i64 (-1)), .lit (.bool false), .any]) (x := .tuple #[goInt (-1), .bool false, z]) hd (.tup (.cons (.std (.lit _)) (.cons (.std (.lit _)) (.cons (.std (.any _)) .nil))))
  obtain ⟨e2, w2, k1, k2⟩ := h S0 B w0 I _ _ hlo hr2 hds b hb hk hro cs
  exact ⟨e2, w2, k1, k2.of_steps (.one hst)⟩
end
end Go.Ax

/- Calls through a function value that holds nothing, by a contract. -/
namespace Go.Ax
open Go.RowKit
set_option linter.unusedVariables false
section
variable {P : Program} {f : Nat} {Q : Post} {k : List Item} {st : St} {A : Array Oper} {i : Nat} {rest : List Nat}
end
end Go.Ax

/- A package's table: an element's address. -/
namespace Go.Ax
open Go Go.RowKit
section
variable {P : Program} {st : St}
theorem rd_indexTab {o : Oper} {t g e len id : Nat} {ix : Operand} {ie : TyI} {vs : List Value} {kk : IntKind} {n : Int} {v : Value} (h : o.op = .indexAddr t (.global g) ix) (hu : P.underlying t = some (.array len e)) (he : TyOK P e ie) (hsz : ie.size = 1)
    (hrow : row id st.hp = some (.tab g vs)) (hi : st.ev ix = .lit (.int kk n)) (h0 : 0 ≤ n) (hl : n < (len : Int)) (hv : vs[n.toNat]? = some v) : Reads P st o (.pt [.lit v]) := by
  intro S0 B w0 I a w hr
  have h2 := hr.ev ix
  rw [hi] at h2
  obtain ⟨T, k1, _, _⟩ := hr.hp
  obtain ⟨F, T', g1, _, _⟩ := k1.take hrow
  cases g1 with
  | tab _ hs hc =>
    have hcell := hc _ v hv
    refine ⟨.pointer (some ⟨g, n.toNat, none⟩), fun w' hw => ?_, .std (.pt hs (.ccons hcell (.lit _) .cnil))⟩
    have eg : a.eval (.global g) = .pointer (some ⟨g, 0, none⟩) := rfl
    simp only [execOp, h, eg, h2.lit_inv, Instr.indexAt, Instr.sureAddr, asIntOf, Sem.run_bind, run_under hu, Result.andThen_ok, Sem.run_pure, h0, hl, and_self, if_true, run_size he, hsz, addr_add, Nat.mul_one, Nat.zero_add]
/-- A call that begins where a package's table is laid. -/
theorem calls_tab {f : Nat} {Q : AV → Prop} {fn : Func} {c : Code} {args : List AV} (g : Nat) (tv : List Value) (hf : P.funcs[f]? = some fn) (hb : fn.body = some c) (hn : Nat.ble args.length fn.ntmps = true)
    (h : Run P f (Post.one Q) [.code c] ⟨slots 0 args, [(0, .tab g tv)], 1, fn.ntmps⟩) (S0 : Nat → Prop) (w : World) (vs : List Value) (hS : ∀ b, S0 b → b < w.heap.size) (hg : S0 g) (ht : ∀ (j : Nat) v, tv[j]? = some v → w.cell? ⟨g, j, none⟩ = some v) (hv : Std S0 w (.l args vs)) :
    Calls P f vs.toArray w fun e w' => ∃ r, Q r ∧ Fin S0 w.heap.size w r e w' := by
  intro cs
  have hn' := Nat.le_of_ble_eq_true hn
  have hlen : vs.length = args.length := (hv.l_rep (I := ⟨S0, fun _ => none, fun _ => 0, fun _ => 0, 0⟩)).l_len
  let b : Frame := { (default : Frame) with fn := f, kind := .normal, roundOf := none }
  have henter : Frame.enter P f vs.toArray .normal = b.atR { tmps := vs.toArray ++ Array.replicate (fn.ntmps - vs.toArray.size) undef, defers := [] } [.code c] := by
    simp [Frame.enter, Frame.atR, hf, hb, b]
  rw [henter]
  suffices hrel : Rel ⟨S0, fun _ => none, fun _ => 0, fun _ => 0, 0⟩ w.heap.size w ⟨S0, fun _ => none, fun _ => 0, fun _ => 0, 1⟩ ⟨slots 0 args, [(0, .tab g tv)], 1, fn.ntmps⟩ { tmps := vs.toArray ++ Array.replicate (fn.ntmps - vs.toArray.size) undef, defers := [] } w by
    obtain ⟨e, w', h1, fr, h2, h3, h4⟩ := h _ _ w _ _ w rfl hrel rfl b rfl rfl rfl cs
    exact ⟨e, w', fr, h1, h2, h3, h4⟩
  refine ⟨fun d => ?_, by simp; omega, rfl, ⟨[], .cons (F := []) (T := []) (.tab (Nat.zero_lt_one) hg ht) .nil, List.nodup_nil, by simp⟩, hS, ?_, fun _ h => .inl h, Below.refl _ _, Nat.le_refl _⟩
  · have key : ∀ (n : Nat) (as : List AV) (xs : List Value), Std S0 w (.l as xs) → ∀ d, (∃ v x, get d (slots n as) = v ∧ n ≤ d ∧ xs[d - n]? = some x ∧ Std S0 w (.v v x)) ∨ get d (slots n as) = .any := by
      intro n as
      induction as generalizing n with
      | nil => intro xs _ d; right; rfl
      | cons a as ih =>
        intro xs hx d
        cases hx with
        | cons h1 h2 =>
          simp only [slots]
          rw [get_cons]
          by_cases e : n = d
          · subst e; left; exact ⟨a, _, by simp, Nat.le_refl _, by simp, h1⟩
          · rw [if_neg e]
            rcases ih (n + 1) _ h2 d with ⟨v, x, g1, g2, g3, g4⟩ | g
            · left; refine ⟨v, x, g1, by omega, ?_, g4⟩
              rw [show d - n = (d - (n + 1)) + 1 from by omega]; simpa using g3
            · right; exact g
    rcases key 0 args vs hv d with ⟨v, x, g1, g2, g3, g4⟩ | g
    · rw [g1]
      have : (vs.toArray ++ Array.replicate (fn.ntmps - vs.toArray.size) undef).getD d undef = x := by
        have hd : d < vs.length := (List.getElem?_eq_some_iff.1 g3).1
        simp at g3
        simp [Array.getD_eq_getD_getElem?, Array.getElem?_append, hd]
        obtain ⟨_, g3⟩ := List.getElem?_eq_some_iff.1 g3
        exact g3
      rw [this]; exact .std g4
    · rw [g]; exact .std (.any _)
  · have hr := Ext.refl (⟨S0, fun _ => none, fun _ => 0, fun _ => 0, 0⟩ : Interp) w
    exact ⟨hr.S, hr.hold, Nat.zero_le _, fun id h => absurd h (by simp), fun id h => absurd h (by simp), fun id h => absurd h (by simp), hr.last⟩
theorem specT_of_run {f : Nat} {Q : AV → Prop} {fn : Func} {c : Code} {args : List AV} (g : Nat) (tv : List Value) (hf : P.funcs[f]? = some fn) (hb : fn.body = some c) (hn : Nat.ble args.length fn.ntmps = true) (hm : (fn.name == "runtime.NumGoroutine") = false)
    (h : Run P f (Post.one Q) [.code c] ⟨slots 0 args, [(0, .tab g tv)], 1, fn.ntmps⟩) : FnSpecT P [(g, tv)] f args Q :=
  ⟨⟨fn, c, hf, hb, hm⟩, fun S0 w vs hS ht hv => calls_tab g tv hf hb hn h S0 w vs hS (ht _ (List.mem_singleton.2 rfl)).1 (ht _ (List.mem_singleton.2 rfl)).2 hv⟩
end
end Go.Ax

/- A variable of one's own that another one points to stays. -/
namespace Go.Ax
open Go Go.RowKit
theorem VarC.map1 {I : Interp} {w : World} {b : Nat} {p : AV → Bool} {v : AV} (hv : ∀ a x F, p a = true → Leaf I w a x F → Leaf I w v x F) : ∀ {as : List AV} {o : Nat} {F : List Nat}, VarC I w b o as F → VarC I w b o (as.map fun a => bif p a then v else a) F
  | [], _, _, h => by cases h; exact .nil
  | a :: as, _, _, h => by
    cases h with
    | cons h1 h2 h3 =>
      refine .cons h1 ?_ (VarC.map1 hv h3)
      show Leaf I w (bif p a then v else a) _ _
      cases hp : p a with
      | true => exact hv _ _ _ hp h2
      | false => exact h2
section
variable {P : Program} {f : Nat}
theorem run_frzIn {Q : Post} {todo : List Item} {tm : List (Nat × AV)} {hp : List (Nat × Row)} {nx nt : Nat} (id id2 : Nat) {cs cs' ds : List AV} (hrow : row id hp = some (.var cs)) (hc : cs.all AV.closed = true) (hz : AV.fzL cs = cs') (hrow2 : row id2 (rem id hp) = some (.var ds))
    (h : Run P f Q todo ⟨toTM (isHp id) (.pt cs') tm, (id2, .var (ds.map fun a => bif isHp id a then .pt cs' else a)) :: rem id2 (rem id hp), nx, nt⟩) : Run P f Q todo ⟨tm, hp, nx, nt⟩ := by
  subst hz
  intro S0 B w0 I a w hlo hr
  obtain ⟨T, t1, t2, t3⟩ := hr.hp
  obtain ⟨F, T', g1, g2, g3⟩ := t1.take hrow
  have hr2 := hr.freeze t2 t3 g2 g3
  have key : ∀ x, Rep I w (.v (.hp id 0) x) → Std (fun z => I.S z ∨ z ∈ F) w (.v (.pt (AV.fzL cs)) x) := fun x hx => by
    obtain ⟨b, o, hid, ha, e⟩ := hx.hp_inv
    obtain ⟨c, G, _, hb, hs, hvc, rfl⟩ := g1.var_inv ha
    have hstd := (hvc.own hc).freeze
    rw [e]
    exact .pt (.inr (List.mem_cons_self ..)) (hstd.grow fun z hz => hz.imp (fun h => h) (List.mem_cons_of_mem _))
  obtain ⟨T2, u1, u2, u3⟩ := hr2.hp
  obtain ⟨F2, T3, k1, k2, k3⟩ := u1.take hrow2
  have back : ∀ x, Rep { I with S := fun z => I.S z ∨ z ∈ F } w (.v (.hp id 0) x) → Rep I w (.v (.hp id 0) x) := fun x hx => by
    cases hx with
    | std hs => cases hs
    | hp h1 h2 => exact .hp h1 h2
  refine h S0 B w0 _ a w hlo { hr2 with tm := fun j => ?_, hp := ⟨F2 ++ T3, .cons ?_ k2, k3.nodup_iff.1 u2, fun z hz => u3 z (k3.mem_iff.2 hz)⟩ }
  · show Rep _ w (.v (get j (toTM (isHp id) _ tm)) _)
    rw [get_toTM _ _ rfl]
    cases hb : isHp id (get j tm) with
    | false => exact hr2.tm j
    | true =>
      have hx := hr.tm j
      rw [isHp_eq hb] at hx
      exact .std (key _ hx)
  · cases k1 with
    | var hi ha hb hs hv =>
      refine .var hi ha hb (by rw [List.length_map]; exact hs) (hv.map1 fun a x F3 hp hl => ?_)
      rw [isHp_eq hp] at hl
      rcases hl with ⟨hl, rfl⟩ | hl
      · exact .inl ⟨.std (key _ (back _ hl)), rfl⟩
      · cases hl with
        | std hs => cases hs
end
end Go.Ax
