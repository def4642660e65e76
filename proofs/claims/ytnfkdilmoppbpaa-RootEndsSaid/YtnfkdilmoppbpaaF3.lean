/- The names of a function, by contracts. -/
import Derived.Test.YtnfkdilmoppbpaaF2
import Derived.Test.YtnfkdilmoppbpaaM2
namespace Go.Proofs.Ytnfkdilmoppbpaa
open Go.Ax
set_option maxRecDepth 10000
set_option linter.unusedVariables false

def nilP : AV := .lit (.pointer none)
theorem le_wr0 : OLe (.agg [num 0, num 0, num 0, num 0, num 0, num 0, num 0, num 0, .lit (.slice none 0 0), num 0, tru false]) (.agg Wr0.cs) :=
  .agg (by repeat' first | exact .nil | refine .cons (Le.refl _) ?_ | refine .cons Le.none ?_) rfl

theorem of_spec (n : Names) (x : Int) : FnSpec Try.prog 63 [namesA n, num x] (fun r => r = .agg (n.of x).cs) := by
  refine FnSpec.weak (spec_of 1000 Try.func63 rfl rfl ?_)
  repeat' first | refine Len.map ?_ | refine Len.nil ?_ | refine Len.cons ?_ | refine Br.t rfl ?_ | refine Br.f rfl ?_ | refine Need.mk ⟨by first | omega | (simp; omega), by first | omega | (simp; done) | (simp; omega)⟩ ?_ | refine Pick.map (by assumption) ?_ | refine Pick.mapI (by omega) (by assumption) ?_ | refine PickN.mk _ (by assumption) ?_ | refine PickN.mk _ rfl ?_ | refine App.mk rfl (by simp only [List.length_map, List.length_append, List.length_cons, List.length_nil]; omega) (by simp only [List.length_map, List.length_append, List.length_cons, List.length_nil]; omega) ?_ | refine Look.yes ?_ | refine Both.mk ?_ ?_ | exact True.intro | refine Br.d (fun h => ?_) (fun h => ?_) | refine Br.nd (fun h => ?_) (fun h => ?_) | refine Br.mk (fun h => ?_) (fun h => ?_)
  any_goals (show OLe _ _; rw [Names.of, if_neg (by omega)]; exact le_wr0)
  obtain ⟨w, gw, -⟩ := getK (l := n.ws) (k := x.toNat) (by omega)
  repeat' first | refine Len.map ?_ | refine Len.nil ?_ | refine Len.cons ?_ | refine Br.t rfl ?_ | refine Br.f rfl ?_ | refine Need.mk ⟨by first | omega | (simp; omega), by first | omega | (simp; done) | (simp; omega)⟩ ?_ | refine Pick.map (by assumption) ?_ | refine Pick.mapI (by omega) (by assumption) ?_ | refine PickN.mk _ (by assumption) ?_ | refine PickN.mk _ rfl ?_ | refine App.mk rfl (by simp only [List.length_map, List.length_append, List.length_cons, List.length_nil]; omega) (by simp only [List.length_map, List.length_append, List.length_cons, List.length_nil]; omega) ?_ | refine Look.yes ?_ | refine Both.mk ?_ ?_ | exact True.intro
  show OLe _ _
  rw [Names.of, if_pos (by omega)]
  simp only [List.getD_eq_getElem?_getD, gw, Option.getD_some]
  exact OLe.refl _

theorem of_nil (x : Int) : FnSpec Try.prog 63 [nilP, num x] (fun r => r = .agg Wr0.cs) := by
  refine FnSpec.weak (spec_of 1000 Try.func63 rfl rfl ?_)
  repeat' first | refine Len.map ?_ | refine Len.nil ?_ | refine Len.cons ?_ | refine Br.t rfl ?_ | refine Br.f rfl ?_ | refine Need.mk ⟨by first | omega | (simp; omega), by first | omega | (simp; done) | (simp; omega)⟩ ?_ | refine Pick.map (by assumption) ?_ | refine Pick.mapI (by omega) (by assumption) ?_ | refine PickN.mk _ (by assumption) ?_ | refine PickN.mk _ rfl ?_ | refine App.mk rfl (by simp only [List.length_map, List.length_append, List.length_cons, List.length_nil]; omega) (by simp only [List.length_map, List.length_append, List.length_cons, List.length_nil]; omega) ?_ | refine Look.yes ?_ | refine Both.mk ?_ ?_ | exact True.intro | refine Br.d (fun h => ?_) (fun h => ?_) | refine Br.nd (fun h => ?_) (fun h => ?_) | refine Br.mk (fun h => ?_) (fun h => ?_)
  exact le_wr0

theorem Writer_spec (n : Names) (x : Int) : FnSpec Try.prog 20 [namesA n, num x] (fun r => r = .tup [insA (n.of x).i, tru (n.of x).is]) := by
  refine spec_of 1000 Try.func20 rfl rfl ?_
  repeat' first | refine Call.eq (of_spec n _) rfl ?_ | refine Draw.mk (.one 0 false (.one 1 false (.one 2 false (.alt 3 (ordL [4] [4, 5]) (.alt 4 (ordL [] [3, 5]) .no))))) (by decide +kernel) ?_ | refine Len.map ?_ | refine Len.nil ?_ | refine Len.cons ?_ | refine Br.t rfl ?_ | refine Br.f rfl ?_ | refine Need.mk ⟨by first | omega | (simp; omega), by first | omega | (simp; done) | (simp; omega)⟩ ?_ | refine Pick.map (by assumption) ?_ | refine Pick.mapI (by omega) (by assumption) ?_ | refine PickN.mk _ (by assumption) ?_ | refine PickN.mk _ rfl ?_ | refine App.mk rfl (by simp only [List.length_map, List.length_append, List.length_cons, List.length_nil]; omega) (by simp only [List.length_map, List.length_append, List.length_cons, List.length_nil]; omega) ?_ | refine Look.yes ?_ | refine Both.mk ?_ ?_ | exact True.intro | refine Br.d (fun h => ?_) (fun h => ?_) | refine Br.nd (fun h => ?_) (fun h => ?_) | refine Br.mk (fun h => ?_) (fun h => ?_)
  all_goals rfl
theorem Writer_nil (x : Int) : FnSpec Try.prog 20 [nilP, num x] (fun r => r = .tup [insA Ins.none, tru false]) := by
  refine spec_of 1000 Try.func20 rfl rfl ?_
  repeat' first | refine Call.eq (of_nil _) rfl ?_ | refine Draw.mk (.one 0 false (.one 1 false (.one 2 false (.alt 3 (ordL [4] [4, 5]) (.alt 4 (ordL [] [3, 5]) .no))))) (by decide +kernel) ?_ | refine Len.map ?_ | refine Len.nil ?_ | refine Len.cons ?_ | refine Br.t rfl ?_ | refine Br.f rfl ?_ | refine Need.mk ⟨by first | omega | (simp; omega), by first | omega | (simp; done) | (simp; omega)⟩ ?_ | refine Pick.map (by assumption) ?_ | refine Pick.mapI (by omega) (by assumption) ?_ | refine PickN.mk _ (by assumption) ?_ | refine PickN.mk _ rfl ?_ | refine App.mk rfl (by simp only [List.length_map, List.length_append, List.length_cons, List.length_nil]; omega) (by simp only [List.length_map, List.length_append, List.length_cons, List.length_nil]; omega) ?_ | refine Look.yes ?_ | refine Both.mk ?_ ?_ | exact True.intro | refine Br.d (fun h => ?_) (fun h => ?_) | refine Br.nd (fun h => ?_) (fun h => ?_) | refine Br.mk (fun h => ?_) (fun h => ?_)
  all_goals rfl

theorem Block_spec (n : Names) (x : Int) : FnSpec Try.prog 25 [namesA n, num x] (fun r => r = num (n.block x)) := by
  refine spec_of 1000 Try.func25 rfl rfl ?_
  repeat' first | refine Call.eq (of_spec n _) rfl ?_ | refine Len.map ?_ | refine Len.nil ?_ | refine Len.cons ?_ | refine Br.t rfl ?_ | refine Br.f rfl ?_ | refine Need.mk ⟨by first | omega | (simp; omega), by first | omega | (simp; done) | (simp; omega)⟩ ?_ | refine Pick.map (by assumption) ?_ | refine Pick.mapI (by omega) (by assumption) ?_ | refine PickN.mk _ (by assumption) ?_ | refine PickN.mk _ rfl ?_ | refine App.mk rfl (by simp only [List.length_map, List.length_append, List.length_cons, List.length_nil]; omega) (by simp only [List.length_map, List.length_append, List.length_cons, List.length_nil]; omega) ?_ | refine Look.yes ?_ | refine Both.mk ?_ ?_ | exact True.intro | refine Br.d (fun h => ?_) (fun h => ?_) | refine Br.nd (fun h => ?_) (fun h => ?_) | refine Br.mk (fun h => ?_) (fun h => ?_)
  all_goals
    show _ = _
    unfold Names.block
    simp only [asRes, num] at *
    simp_all
    try omega
theorem Block_nil (x : Int) : FnSpec Try.prog 25 [nilP, num x] (fun r => r = num (-1)) := by
  refine spec_of 1000 Try.func25 rfl rfl ?_
  repeat' first | refine Call.eq (of_nil _) rfl ?_ | refine Len.map ?_ | refine Len.nil ?_ | refine Len.cons ?_ | refine Br.t rfl ?_ | refine Br.f rfl ?_ | refine Need.mk ⟨by first | omega | (simp; omega), by first | omega | (simp; done) | (simp; omega)⟩ ?_ | refine Pick.map (by assumption) ?_ | refine Pick.mapI (by omega) (by assumption) ?_ | refine PickN.mk _ (by assumption) ?_ | refine PickN.mk _ rfl ?_ | refine App.mk rfl (by simp only [List.length_map, List.length_append, List.length_cons, List.length_nil]; omega) (by simp only [List.length_map, List.length_append, List.length_cons, List.length_nil]; omega) ?_ | refine Look.yes ?_ | refine Both.mk ?_ ?_ | exact True.intro | refine Br.d (fun h => ?_) (fun h => ?_) | refine Br.nd (fun h => ?_) (fun h => ?_) | refine Br.mk (fun h => ?_) (fun h => ?_)
  rfl

theorem Chain_spec (n : Names) (x : Int) (hn : n.ws.length ≤ 1000) : FnSpec Try.prog 30 [namesA n, num x] (fun r => r = .osl 1 ((n.chain x).map int1) ∨ (r = .lit (.slice none 0 0) ∧ n.chain x = [])) := by
  refine spec_of 1000 Try.func30 rfl rfl ?_
  repeat' first | refine Len.map ?_ | refine Len.nil ?_ | refine Len.cons ?_ | refine Br.t rfl ?_ | refine Br.f rfl ?_ | refine Need.mk ⟨by first | omega | (simp; omega), by first | omega | (simp; done) | (simp; omega)⟩ ?_ | refine Pick.map (by assumption) ?_ | refine Pick.mapI (by omega) (by assumption) ?_ | refine PickN.mk _ (by assumption) ?_ | refine PickN.mk _ rfl ?_ | refine App.mk rfl (by simp only [List.length_map, List.length_append, List.length_cons, List.length_nil]; omega) (by simp only [List.length_map, List.length_append, List.length_cons, List.length_nil]; omega) ?_ | refine Look.yes ?_ | refine Both.mk ?_ ?_ | exact True.intro | refine Br.d (fun h => ?_) (fun h => ?_) | refine Br.nd (fun h => ?_) (fun h => ?_) | refine Br.mk (fun h => ?_) (fun h => ?_)
  any_goals first | (show _ ∨ _; right; refine ⟨rfl, ?_⟩; rw [Names.chain, if_neg (by omega)]) | skip
  refine Stop.mk (loop_in (fun p : List Int × Int => [(0, namesA n), (5, .hw 0)]) (fun p => [(0, .row 1 ((p.1 ++ [p.2]).map int1))]) 1 (fun p => p.1.length ≤ n.ws.length ∧ n.chain x = p.1 ++ n.up (n.ws.length - p.1.length) p.2) (fun p => n.ws.length - p.1.length) ([], x) ⟨by simp, by rw [Names.chain, if_pos (by omega)]; rfl⟩ (g := []) ⟨rfl, (by repeat' first | exact trivial | refine ⟨rfl, ?_⟩ | refine ⟨congrArg (fun n => AV.lit (.int .i64 n)) (by omega), ?_⟩ | refine ⟨congrArg (fun l => some (Row.row 1 l)) (by simp [int1, num, tru]), ?_⟩), (by repeat' first | exact trivial | refine ⟨rfl, ?_⟩ | refine ⟨congrArg (fun n => AV.lit (.int .i64 n)) (by omega), ?_⟩ | refine ⟨congrArg (fun l => some (Row.row 1 l)) (by simp [int1, num, tru]), ?_⟩)⟩ (fun p hp ih => ?_))
  obtain ⟨pre, y⟩ := p
  obtain ⟨h1, h2⟩ := hp
  dsimp only at h1 h2 ih ⊢
  refine go 1000 Try.func30 ?_
  have hlen : (pre ++ [y]).length = pre.length + 1 := by simp
  have gy : ((pre ++ [y]).map int1)[(((pre ++ [y]).length : Int) - 1).toNat]? = some (int1 y) := by
    rw [show (((pre ++ [y]).length : Int) - 1).toNat = pre.length by omega]; simp
  repeat' first | refine Len.map ?_ | refine Len.nil ?_ | refine Len.cons ?_ | refine Br.t rfl ?_ | refine Br.f rfl ?_ | refine Need.mk ⟨by first | omega | (simp; omega), by first | omega | (simp; done) | (simp; omega)⟩ ?_ | refine Pick.map (by assumption) ?_ | refine Pick.mapI (by omega) (by assumption) ?_ | refine PickN.mk _ (by assumption) ?_ | refine PickN.mk _ rfl ?_ | refine App.mk rfl (by simp only [List.length_map, List.length_append, List.length_cons, List.length_nil]; omega) (by simp only [List.length_map, List.length_append, List.length_cons, List.length_nil]; omega) ?_ | refine Look.yes ?_ | refine Both.mk ?_ ?_ | exact True.intro
  refine Br.d (fun h3 => ?_) (fun h3 => ?_)
  · have hk : n.ws.length - pre.length = (n.ws.length - (pre.length + 1)) + 1 := by omega
    rw [hk] at h2
    simp only [Names.up] at h2
    repeat' first | refine Call.eq (of_spec n _) rfl ?_ | refine Len.map ?_ | refine Len.nil ?_ | refine Len.cons ?_ | refine Br.t rfl ?_ | refine Br.f rfl ?_ | refine Need.mk ⟨by first | omega | (simp; omega), by first | omega | (simp; done) | (simp; omega)⟩ ?_ | refine Pick.map (by assumption) ?_ | refine Pick.mapI (by omega) (by assumption) ?_ | refine PickN.mk _ (by assumption) ?_ | refine PickN.mk _ rfl ?_ | refine App.mk rfl (by simp only [List.length_map, List.length_append, List.length_cons, List.length_nil]; omega) (by simp only [List.length_map, List.length_append, List.length_cons, List.length_nil]; omega) ?_ | refine Look.yes ?_ | refine Both.mk ?_ ?_ | exact True.intro | refine Br.d (fun h => ?_) (fun h => ?_) | refine Br.nd (fun h => ?_) (fun h => ?_) | refine Br.mk (fun h => ?_) (fun h => ?_)
    · rename_i h4
      refine Stop.mk (ih (pre ++ [y], (n.of y).i.a) _ _ _ ⟨by simp; omega, ?_⟩ (by simp; omega) (g := [(0, 3)]) ⟨rfl, (by repeat' first | exact trivial | refine ⟨rfl, ?_⟩ | refine ⟨congrArg (fun n => AV.lit (.int .i64 n)) (by omega), ?_⟩ | refine ⟨congrArg (fun l => some (Row.row 1 l)) (by simp [int1, num, tru]), ?_⟩), (by repeat' first | exact trivial | refine ⟨rfl, ?_⟩ | refine ⟨congrArg (fun n => AV.lit (.int .i64 n)) (by omega), ?_⟩ | refine ⟨congrArg (fun l => some (Row.row 1 l)) (by simp [int1, num, tru]), ?_⟩)⟩)
      rw [h2, if_pos ⟨h4, .inl h⟩]; simp
    · rename_i h4 h5
      refine Stop.mk (ih (pre ++ [y], (n.of y).i.a) _ _ _ ⟨by simp; omega, ?_⟩ (by simp; omega) (g := [(0, 3)]) ⟨rfl, (by repeat' first | exact trivial | refine ⟨rfl, ?_⟩ | refine ⟨congrArg (fun n => AV.lit (.int .i64 n)) (by omega), ?_⟩ | refine ⟨congrArg (fun l => some (Row.row 1 l)) (by simp [int1, num, tru]), ?_⟩), (by repeat' first | exact trivial | refine ⟨rfl, ?_⟩ | refine ⟨congrArg (fun n => AV.lit (.int .i64 n)) (by omega), ?_⟩ | refine ⟨congrArg (fun l => some (Row.row 1 l)) (by simp [int1, num, tru]), ?_⟩)⟩)
      rw [h2, if_pos ⟨h4, .inr h⟩]; simp
    · rename_i h4 h5
      left
      rw [h2, if_neg (by simp [h4, h5, h])]; rfl
    · left
      rw [h2, if_neg (by simp [h])]; rfl
  · repeat' first | refine Len.map ?_ | refine Len.nil ?_ | refine Len.cons ?_ | refine Br.t rfl ?_ | refine Br.f rfl ?_ | refine Need.mk ⟨by first | omega | (simp; omega), by first | omega | (simp; done) | (simp; omega)⟩ ?_ | refine Pick.map (by assumption) ?_ | refine Pick.mapI (by omega) (by assumption) ?_ | refine PickN.mk _ (by assumption) ?_ | refine PickN.mk _ rfl ?_ | refine App.mk rfl (by simp only [List.length_map, List.length_append, List.length_cons, List.length_nil]; omega) (by simp only [List.length_map, List.length_append, List.length_cons, List.length_nil]; omega) ?_ | refine Look.yes ?_ | refine Both.mk ?_ ?_ | exact True.intro
    left
    rw [h2, show n.ws.length - pre.length = 0 by omega]; rfl

theorem Chain_nil (x : Int) : FnSpec Try.prog 30 [nilP, num x] (fun r => r = .lit (.slice none 0 0)) := by
  refine spec_of 1000 Try.func30 rfl rfl ?_
  repeat' first | refine Len.map ?_ | refine Len.nil ?_ | refine Len.cons ?_ | refine Br.t rfl ?_ | refine Br.f rfl ?_ | refine Need.mk ⟨by first | omega | (simp; omega), by first | omega | (simp; done) | (simp; omega)⟩ ?_ | refine Pick.map (by assumption) ?_ | refine Pick.mapI (by omega) (by assumption) ?_ | refine PickN.mk _ (by assumption) ?_ | refine PickN.mk _ rfl ?_ | refine App.mk rfl (by simp only [List.length_map, List.length_append, List.length_cons, List.length_nil]; omega) (by simp only [List.length_map, List.length_append, List.length_cons, List.length_nil]; omega) ?_ | refine Look.yes ?_ | refine Both.mk ?_ ?_ | exact True.intro | refine Br.d (fun h => ?_) (fun h => ?_) | refine Br.nd (fun h => ?_) (fun h => ?_) | refine Br.mk (fun h => ?_) (fun h => ?_)
  rfl

theorem chain_ne {n : Names} {x : Int} (h : 0 ≤ x ∧ x < n.ws.length) : n.chain x ≠ [] := by
  rw [Names.chain, if_pos h]
  cases n.ws.length with
  | zero => simp [Names.up]
  | succ k => unfold Names.up; split <;> simp

theorem Root_spec (n : Names) (x : Int) (hn : n.ws.length ≤ 1000) : FnSpec Try.prog 27 [namesA n, num x] (fun r => r = num (n.root x)) := by
  refine spec_of 1000 Try.func27 rfl rfl ?_
  refine Call.of (Chain_spec n _ hn) ?_
  rintro r (rfl | ⟨rfl, h⟩)
  · refine ⟨rfl, ?_⟩
    repeat' first | refine Len.map ?_ | refine Len.nil ?_ | refine Len.cons ?_ | refine Br.t rfl ?_ | refine Br.f rfl ?_ | refine Need.mk ⟨by first | omega | (simp; omega), by first | omega | (simp; done) | (simp; omega)⟩ ?_ | refine Pick.map (by assumption) ?_ | refine Pick.mapI (by omega) (by assumption) ?_ | refine PickN.mk _ (by assumption) ?_ | refine PickN.mk _ rfl ?_ | refine App.mk rfl (by simp only [List.length_map, List.length_append, List.length_cons, List.length_nil]; omega) (by simp only [List.length_map, List.length_append, List.length_cons, List.length_nil]; omega) ?_ | refine Look.yes ?_ | refine Both.mk ?_ ?_ | exact True.intro
    refine Br.d (fun h => ?_) (fun h => ?_)
    · have hl := chain_len n x
      obtain ⟨y, gy, -⟩ := getK (l := n.chain x) (k := (n.chain x).length - 1) (by omega)
      have gy2 : ((n.chain x).map int1)[(((n.chain x).length : Int) - 1).toNat]? = some (int1 y) := by
        rw [show (((n.chain x).length : Int) - 1).toNat = (n.chain x).length - 1 by omega]; simp [gy]
      repeat' first | refine Len.map ?_ | refine Len.nil ?_ | refine Len.cons ?_ | refine Br.t rfl ?_ | refine Br.f rfl ?_ | refine Need.mk ⟨by first | omega | (simp; omega), by first | omega | (simp; done) | (simp; omega)⟩ ?_ | refine Pick.map (by assumption) ?_ | refine Pick.mapI (by omega) (by assumption) ?_ | refine PickN.mk _ (by assumption) ?_ | refine PickN.mk _ rfl ?_ | refine App.mk rfl (by simp only [List.length_map, List.length_append, List.length_cons, List.length_nil]; omega) (by simp only [List.length_map, List.length_append, List.length_cons, List.length_nil]; omega) ?_ | refine Look.yes ?_ | refine Both.mk ?_ ?_ | exact True.intro
      show _ = _
      rw [Names.root, List.getLastD_eq_getLast?, List.getLast?_eq_getElem?, gy]; rfl
    · show _ = _
      rw [Names.root, List.eq_nil_of_length_eq_zero (l := n.chain x) (by omega)]; rfl
  · refine ⟨rfl, ?_⟩
    repeat' first | refine Len.map ?_ | refine Len.nil ?_ | refine Len.cons ?_ | refine Br.t rfl ?_ | refine Br.f rfl ?_ | refine Need.mk ⟨by first | omega | (simp; omega), by first | omega | (simp; done) | (simp; omega)⟩ ?_ | refine Pick.map (by assumption) ?_ | refine Pick.mapI (by omega) (by assumption) ?_ | refine PickN.mk _ (by assumption) ?_ | refine PickN.mk _ rfl ?_ | refine App.mk rfl (by simp only [List.length_map, List.length_append, List.length_cons, List.length_nil]; omega) (by simp only [List.length_map, List.length_append, List.length_cons, List.length_nil]; omega) ?_ | refine Look.yes ?_ | refine Both.mk ?_ ?_ | exact True.intro
    show _ = _
    rw [Names.root, h]; rfl
theorem Root_nil (x : Int) : FnSpec Try.prog 27 [nilP, num x] (fun r => r = num x) := by
  refine spec_of 1000 Try.func27 rfl rfl ?_
  repeat' first | refine Call.eq (Chain_nil _) rfl ?_ | refine Len.map ?_ | refine Len.nil ?_ | refine Len.cons ?_ | refine Br.t rfl ?_ | refine Br.f rfl ?_ | refine Need.mk ⟨by first | omega | (simp; omega), by first | omega | (simp; done) | (simp; omega)⟩ ?_ | refine Pick.map (by assumption) ?_ | refine Pick.mapI (by omega) (by assumption) ?_ | refine PickN.mk _ (by assumption) ?_ | refine PickN.mk _ rfl ?_ | refine App.mk rfl (by simp only [List.length_map, List.length_append, List.length_cons, List.length_nil]; omega) (by simp only [List.length_map, List.length_append, List.length_cons, List.length_nil]; omega) ?_ | refine Look.yes ?_ | refine Both.mk ?_ ?_ | exact True.intro
  rfl

theorem Const_spec (n : Names) (x : Int) (hn : n.ws.length ≤ 1000) : FnSpec Try.prog 22 [namesA n, num x] (fun r => r = .tup [num (n.const x).1, tru (n.const x).2]) := by
  refine spec_of 1000 Try.func22 rfl rfl ?_
  repeat' first | refine Call.eq (Root_spec n _ hn) rfl ?_ | refine Call.eq (Writer_spec n _) rfl ?_ | refine Len.map ?_ | refine Len.nil ?_ | refine Len.cons ?_ | refine Br.t rfl ?_ | refine Br.f rfl ?_ | refine Need.mk ⟨by first | omega | (simp; omega), by first | omega | (simp; done) | (simp; omega)⟩ ?_ | refine Pick.map (by assumption) ?_ | refine Pick.mapI (by omega) (by assumption) ?_ | refine PickN.mk _ (by assumption) ?_ | refine PickN.mk _ rfl ?_ | refine App.mk rfl (by simp only [List.length_map, List.length_append, List.length_cons, List.length_nil]; omega) (by simp only [List.length_map, List.length_append, List.length_cons, List.length_nil]; omega) ?_ | refine Look.yes ?_ | refine Both.mk ?_ ?_ | exact True.intro | refine Br.d (fun h => ?_) (fun h => ?_) | refine Br.nd (fun h => ?_) (fun h => ?_) | refine Br.mk (fun h => ?_) (fun h => ?_)
  all_goals (show _ = _; unfold Names.const; simp_all [asRes, tru, num])

theorem zero_wr (n : Nat) : LeLL (List.replicate n [num 0, num 0, num 0, num 0, num 0, num 0, num 0, num 0, .lit (.slice none 0 0), num 0, tru false]) ((List.replicate n Wr0).map Wr.cs) := by
  rw [List.map_replicate]
  exact LeLL.rep (by repeat' first | exact .nil | refine .cons (Le.refl _) ?_ | refine .cons Le.none ?_) n

theorem New_spec (f : Fun) (hf : f.fits) (hr : f.regs.length ≤ 100) : FnSpec Try.prog 19 [funA f] (fun r => r = ownNames (newF f)) := by
  refine spec_of 1000 Try.func19 rfl rfl ?_
  repeat' first | refine Draw.mk (ordL [3, 7] [0, 1, 2, 4, 5, 3, 6, 7, 8]) (by decide +kernel) ?_ | refine Draw.mk (ordL [9] [0, 1, 2, 3, 4, 5, 6, 7, 8, 9]) (by decide +kernel) ?_ | refine MkS.mk _ rfl rfl (by omega) (by omega) ?_ | refine Len.map ?_ | refine Len.nil ?_ | refine Len.cons ?_ | refine Br.t rfl ?_ | refine Br.f rfl ?_ | refine Need.mk ⟨by first | omega | (simp; omega), by first | omega | (simp; done) | (simp; omega)⟩ ?_ | refine Pick.map (by assumption) ?_ | refine Pick.mapI (by omega) (by assumption) ?_ | refine PickN.mk _ (by assumption) ?_ | refine PickN.mk _ rfl ?_ | refine App.mk rfl (by simp only [List.length_map, List.length_append, List.length_cons, List.length_nil]; omega) (by simp only [List.length_map, List.length_append, List.length_cons, List.length_nil]; omega) ?_ | refine Look.yes ?_ | refine Both.mk ?_ ?_ | exact True.intro
  refine Stop.mk (run_varLe 2 rfl (.cons (.osl (zero_wr _) (by intro x hx; rw [List.eq_of_mem_replicate hx]; rfl)) (.cons (.refl _) .nil)) ?_)
  refine loop_in (fun k : Nat => [(3, .hp 2 0), (18, .sl false 1 (f.blocks.map blk)), (19, num f.blocks.length), (20, num k)]) (fun k => [(2, .var [.osl 11 ((outW f k).map Wr.cs), num f.params])]) 3 (fun k => k ≤ f.blocks.length) (fun k => f.blocks.length - k) 0 (by omega) (g := []) ⟨rfl, (by repeat' first | exact trivial | refine ⟨rfl, ?_⟩ | refine ⟨congrArg (fun n => AV.lit (.int .i64 n)) (by omega), ?_⟩ | refine ⟨congrArg (fun l => some (Row.row 1 l)) (by simp [int1, num, tru]), ?_⟩), (by repeat' first | exact trivial | refine ⟨rfl, ?_⟩ | refine ⟨congrArg (fun n => AV.lit (.int .i64 n)) (by omega), ?_⟩ | refine ⟨congrArg (fun l => some (Row.row 1 l)) (by simp [int1, num, tru]), ?_⟩)⟩ (fun k hk ih => ?_)
  have hlen := outW_len f k
  have hfb := hf.1
  refine go 1000 Try.func19 ?_
  repeat' first | refine Len.map ?_ | refine Len.nil ?_ | refine Len.cons ?_ | refine Br.t rfl ?_ | refine Br.f rfl ?_ | refine Need.mk ⟨by first | omega | (simp; omega), by first | omega | (simp; done) | (simp; omega)⟩ ?_ | refine Pick.map (by assumption) ?_ | refine Pick.mapI (by omega) (by assumption) ?_ | refine PickN.mk _ (by assumption) ?_ | refine PickN.mk _ rfl ?_ | refine App.mk rfl (by simp only [List.length_map, List.length_append, List.length_cons, List.length_nil]; omega) (by simp only [List.length_map, List.length_append, List.length_cons, List.length_nil]; omega) ?_ | refine Look.yes ?_ | refine Both.mk ?_ ?_ | exact True.intro
  refine Br.d (fun h2 => ?_) (fun h2 => ?_)
  · obtain ⟨b, gb, gbm⟩ := getK (l := f.blocks) (k := k) (by omega)
    obtain ⟨hb1, hb2⟩ := hf.2.2 b gbm
    have hk1 := outW_succ gb
    generalize outW f k = ws at hlen hk1
    repeat' first | refine Len.map ?_ | refine Len.nil ?_ | refine Len.cons ?_ | refine Br.t rfl ?_ | refine Br.f rfl ?_ | refine Need.mk ⟨by first | omega | (simp; omega), by first | omega | (simp; done) | (simp; omega)⟩ ?_ | refine Pick.map (by assumption) ?_ | refine Pick.mapI (by omega) (by assumption) ?_ | refine PickN.mk _ (by assumption) ?_ | refine PickN.mk _ rfl ?_ | refine App.mk rfl (by simp only [List.length_map, List.length_append, List.length_cons, List.length_nil]; omega) (by simp only [List.length_map, List.length_append, List.length_cons, List.length_nil]; omega) ?_ | refine Look.yes ?_ | refine Both.mk ?_ ?_ | exact True.intro
    refine Stop.mk (loop_in (fun j : Nat => [(3, .hp 2 0), (18, .sl false 1 (f.blocks.map blk)), (19, num f.blocks.length), (20, num k), (4, num k), (25, .sl false 9 (b.map Ins.cs)), (26, num b.length), (27, num j)]) (fun j => [(2, .var [.osl 11 ((blkW ws k b j).map Wr.cs), num f.params])]) 3 (fun j => j ≤ b.length) (fun j => b.length - j) 0 (by omega) (g := []) ⟨rfl, (by repeat' first | exact trivial | refine ⟨rfl, ?_⟩ | refine ⟨congrArg (fun n => AV.lit (.int .i64 n)) (by omega), ?_⟩ | refine ⟨congrArg (fun l => some (Row.row 1 l)) (by simp [int1, num, tru]), ?_⟩), (by repeat' first | exact trivial | refine ⟨rfl, ?_⟩ | refine ⟨congrArg (fun n => AV.lit (.int .i64 n)) (by omega), ?_⟩ | refine ⟨congrArg (fun l => some (Row.row 1 l)) (by simp [int1, num, tru]), ?_⟩)⟩ (fun j hj ih2 => ?_))
    have hlen2 := blkW_len ws k b j
    refine go 1000 Try.func19 ?_
    repeat' first | refine Len.map ?_ | refine Len.nil ?_ | refine Len.cons ?_ | refine Br.t rfl ?_ | refine Br.f rfl ?_ | refine Need.mk ⟨by first | omega | (simp; omega), by first | omega | (simp; done) | (simp; omega)⟩ ?_ | refine Pick.map (by assumption) ?_ | refine Pick.mapI (by omega) (by assumption) ?_ | refine PickN.mk _ (by assumption) ?_ | refine PickN.mk _ rfl ?_ | refine App.mk rfl (by simp only [List.length_map, List.length_append, List.length_cons, List.length_nil]; omega) (by simp only [List.length_map, List.length_append, List.length_cons, List.length_nil]; omega) ?_ | refine Look.yes ?_ | refine Both.mk ?_ ?_ | exact True.intro
    refine Br.d (fun h3 => ?_) (fun h3 => ?_)
    · obtain ⟨i, gi, gim⟩ := getK (l := b) (k := j) (by omega)
      have hj1 := blkW_succ (ws := ws) (k := k) gi
      generalize blkW ws k b j = vs at hlen2 hj1
      have stay : ¬ (0 ≤ defF i ∧ defF i < vs.length ∧ (vs.getD (defF i).toNat Wr0).is = false) → setW vs k i = vs := fun h => if_neg h
      repeat' first | refine Call.eq (Def_spec i (hb2 i gim)) rfl ?_ | refine Len.map ?_ | refine Len.nil ?_ | refine Len.cons ?_ | refine Br.t rfl ?_ | refine Br.f rfl ?_ | refine Need.mk ⟨by first | omega | (simp; omega), by first | omega | (simp; done) | (simp; omega)⟩ ?_ | refine Pick.map (by assumption) ?_ | refine Pick.mapI (by omega) (by assumption) ?_ | refine PickN.mk _ (by assumption) ?_ | refine PickN.mk _ rfl ?_ | refine App.mk rfl (by simp only [List.length_map, List.length_append, List.length_cons, List.length_nil]; omega) (by simp only [List.length_map, List.length_append, List.length_cons, List.length_nil]; omega) ?_ | refine Look.yes ?_ | refine Both.mk ?_ ?_ | exact True.intro
      refine Br.d (fun g1 => ?_) (fun g1 => ?_)
      · repeat' first | refine Len.map ?_ | refine Len.nil ?_ | refine Len.cons ?_ | refine Br.t rfl ?_ | refine Br.f rfl ?_ | refine Need.mk ⟨by first | omega | (simp; omega), by first | omega | (simp; done) | (simp; omega)⟩ ?_ | refine Pick.map (by assumption) ?_ | refine Pick.mapI (by omega) (by assumption) ?_ | refine PickN.mk _ (by assumption) ?_ | refine PickN.mk _ rfl ?_ | refine App.mk rfl (by simp only [List.length_map, List.length_append, List.length_cons, List.length_nil]; omega) (by simp only [List.length_map, List.length_append, List.length_cons, List.length_nil]; omega) ?_ | refine Look.yes ?_ | refine Both.mk ?_ ?_ | exact True.intro
        refine Br.d (fun g2 => ?_) (fun g2 => ?_)
        · obtain ⟨w, gw, -⟩ := getK (l := vs) (k := (defF i).toNat) (by omega)
          have gw2 : (vs.map Wr.cs)[(defF i).toNat]? = some w.cs := by simp [gw]
          have gw3 : (vs.getD (defF i).toNat Wr0).is = w.is := by simp [List.getD_eq_getElem?_getD, gw]
          repeat' first | refine Len.map ?_ | refine Len.nil ?_ | refine Len.cons ?_ | refine Br.t rfl ?_ | refine Br.f rfl ?_ | refine Need.mk ⟨by first | omega | (simp; omega), by first | omega | (simp; done) | (simp; omega)⟩ ?_ | refine Pick.map (by assumption) ?_ | refine Pick.mapI (by omega) (by assumption) ?_ | refine PickN.mk _ (by assumption) ?_ | refine PickN.mk _ rfl ?_ | refine App.mk rfl (by simp only [List.length_map, List.length_append, List.length_cons, List.length_nil]; omega) (by simp only [List.length_map, List.length_append, List.length_cons, List.length_nil]; omega) ?_ | refine Look.yes ?_ | refine Both.mk ?_ ?_ | exact True.intro
          refine Br.mk (fun g3 => ?_) (fun g3 => ?_)
          · have e : setW vs k i = vs.set (defF i).toNat ⟨i, k, true⟩ := if_pos ⟨g1, by omega, by rw [gw3]; simpa using g3⟩
            repeat' first | refine Draw.mk (ordL [3, 7] [0, 1, 2, 4, 5, 3, 6, 7, 8]) (by decide +kernel) ?_ | refine Draw.mk (ordL [9] [0, 1, 2, 3, 4, 5, 6, 7, 8, 9]) (by decide +kernel) ?_ | refine Len.map ?_ | refine Len.nil ?_ | refine Len.cons ?_ | refine Br.t rfl ?_ | refine Br.f rfl ?_ | refine Need.mk ⟨by first | omega | (simp; omega), by first | omega | (simp; done) | (simp; omega)⟩ ?_ | refine Pick.map (by assumption) ?_ | refine Pick.mapI (by omega) (by assumption) ?_ | refine PickN.mk _ (by assumption) ?_ | refine PickN.mk _ rfl ?_ | refine App.mk rfl (by simp only [List.length_map, List.length_append, List.length_cons, List.length_nil]; omega) (by simp only [List.length_map, List.length_append, List.length_cons, List.length_nil]; omega) ?_ | refine Look.yes ?_ | refine Both.mk ?_ ?_ | exact True.intro
            refine Stop.mk (run_foldV 2 rfl rfl (ih2 (j + 1) _ _ _ (by omega) (by omega) (g := []) ?_))
            rw [hj1, e, List.map_set]
            exact ⟨rfl, by repeat' first | exact trivial | refine ⟨rfl, ?_⟩, by repeat' first | exact trivial | refine ⟨rfl, ?_⟩⟩
          · have hs := stay (by rw [gw3]; simp at g3; simp [g3])
            repeat' first | refine Len.map ?_ | refine Len.nil ?_ | refine Len.cons ?_ | refine Br.t rfl ?_ | refine Br.f rfl ?_ | refine Need.mk ⟨by first | omega | (simp; omega), by first | omega | (simp; done) | (simp; omega)⟩ ?_ | refine Pick.map (by assumption) ?_ | refine Pick.mapI (by omega) (by assumption) ?_ | refine PickN.mk _ (by assumption) ?_ | refine PickN.mk _ rfl ?_ | refine App.mk rfl (by simp only [List.length_map, List.length_append, List.length_cons, List.length_nil]; omega) (by simp only [List.length_map, List.length_append, List.length_cons, List.length_nil]; omega) ?_ | refine Look.yes ?_ | refine Both.mk ?_ ?_ | exact True.intro
            refine Stop.mk (run_foldV 2 rfl rfl (ih2 (j + 1) _ _ _ (by omega) (by omega) (g := []) ?_))
            rw [hj1, hs]
            exact ⟨rfl, by repeat' first | exact trivial | refine ⟨rfl, ?_⟩, by repeat' first | exact trivial | refine ⟨rfl, ?_⟩⟩
        · have hs := stay (by omega)
          repeat' first | refine Len.map ?_ | refine Len.nil ?_ | refine Len.cons ?_ | refine Br.t rfl ?_ | refine Br.f rfl ?_ | refine Need.mk ⟨by first | omega | (simp; omega), by first | omega | (simp; done) | (simp; omega)⟩ ?_ | refine Pick.map (by assumption) ?_ | refine Pick.mapI (by omega) (by assumption) ?_ | refine PickN.mk _ (by assumption) ?_ | refine PickN.mk _ rfl ?_ | refine App.mk rfl (by simp only [List.length_map, List.length_append, List.length_cons, List.length_nil]; omega) (by simp only [List.length_map, List.length_append, List.length_cons, List.length_nil]; omega) ?_ | refine Look.yes ?_ | refine Both.mk ?_ ?_ | exact True.intro
          refine Stop.mk (run_foldV 2 rfl rfl (ih2 (j + 1) _ _ _ (by omega) (by omega) (g := []) ?_))
          rw [hj1, hs]
          exact ⟨rfl, by repeat' first | exact trivial | refine ⟨rfl, ?_⟩, by repeat' first | exact trivial | refine ⟨rfl, ?_⟩⟩
      · have hs := stay (by omega)
        repeat' first | refine Len.map ?_ | refine Len.nil ?_ | refine Len.cons ?_ | refine Br.t rfl ?_ | refine Br.f rfl ?_ | refine Need.mk ⟨by first | omega | (simp; omega), by first | omega | (simp; done) | (simp; omega)⟩ ?_ | refine Pick.map (by assumption) ?_ | refine Pick.mapI (by omega) (by assumption) ?_ | refine PickN.mk _ (by assumption) ?_ | refine PickN.mk _ rfl ?_ | refine App.mk rfl (by simp only [List.length_map, List.length_append, List.length_cons, List.length_nil]; omega) (by simp only [List.length_map, List.length_append, List.length_cons, List.length_nil]; omega) ?_ | refine Look.yes ?_ | refine Both.mk ?_ ?_ | exact True.intro
        refine Stop.mk (ih2 (j + 1) _ _ _ (by omega) (by omega) (g := []) ?_)
        rw [hj1, hs]
        exact ⟨rfl, by repeat' first | exact trivial | refine ⟨rfl, ?_⟩, by repeat' first | exact trivial | refine ⟨rfl, ?_⟩⟩
    · repeat' first | refine Len.map ?_ | refine Len.nil ?_ | refine Len.cons ?_ | refine Br.t rfl ?_ | refine Br.f rfl ?_ | refine Need.mk ⟨by first | omega | (simp; omega), by first | omega | (simp; done) | (simp; omega)⟩ ?_ | refine Pick.map (by assumption) ?_ | refine Pick.mapI (by omega) (by assumption) ?_ | refine PickN.mk _ (by assumption) ?_ | refine PickN.mk _ rfl ?_ | refine App.mk rfl (by simp only [List.length_map, List.length_append, List.length_cons, List.length_nil]; omega) (by simp only [List.length_map, List.length_append, List.length_cons, List.length_nil]; omega) ?_ | refine Look.yes ?_ | refine Both.mk ?_ ?_ | exact True.intro
      refine Stop.mk (ih (k + 1) _ _ _ (by omega) (by omega) (g := []) ?_)
      rw [hk1, show b.length = j by omega]
      exact ⟨rfl, by repeat' first | exact trivial | refine ⟨rfl, ?_⟩, by repeat' first | exact trivial | refine ⟨rfl, ?_⟩⟩
  · repeat' first | refine Len.map ?_ | refine Len.nil ?_ | refine Len.cons ?_ | refine Br.t rfl ?_ | refine Br.f rfl ?_ | refine Need.mk ⟨by first | omega | (simp; omega), by first | omega | (simp; done) | (simp; omega)⟩ ?_ | refine Pick.map (by assumption) ?_ | refine Pick.mapI (by omega) (by assumption) ?_ | refine PickN.mk _ (by assumption) ?_ | refine PickN.mk _ rfl ?_ | refine App.mk rfl (by simp only [List.length_map, List.length_append, List.length_cons, List.length_nil]; omega) (by simp only [List.length_map, List.length_append, List.length_cons, List.length_nil]; omega) ?_ | refine Look.yes ?_ | refine Both.mk ?_ ?_ | exact True.intro
    show _ = _
    rw [newF, show f.blocks.length = k by omega]; rfl
end Go.Proofs.Ytnfkdilmoppbpaa
