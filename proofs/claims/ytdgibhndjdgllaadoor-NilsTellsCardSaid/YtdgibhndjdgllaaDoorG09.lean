/- Bits put in and taken out: when nothing changes; instructions from the last one on. No program is in sight here. -/
import Derived.Test.YtdgibhndjdgllaaDoorG08
import Derived.Test.YtdgibhndjdgllaaDoorG06
import Derived.Test.YtdgibhndjdgllaaDoorG04
import Derived.Test.YtdgibhndjdgllaaDoorG03
import Derived.Test.YtdgibhndjdgllaaDoorG07
set_option linter.unusedVariables false
set_option linter.unusedSimpArgs false

namespace Go.Proofs.YtdgibhndjdgllaaDoor
open Go.Ax
theorem getD_set_self {s : List W} {k : Nat} {x : W} (h : k < s.length → x = s.getD k 0) : s.set k x = s := by
  by_cases hk : k < s.length
  · rw [h hk]
    refine List.ext_getElem? fun j => ?_
    rw [List.getElem?_set]
    split
    · rename_i e; subst e
      rw [List.getD_eq_getElem?_getD, List.getElem?_eq_getElem hk]; simp
    · rfl
  · exact List.set_eq_of_length_le (by omega)
theorem and_bit (x : W) (i : Nat) : x &&& bitW i = 0 ↔ x.getLsbD (i % 64) = false := by
  have hm : i % 64 < 64 := Nat.mod_lt _ (by decide)
  constructor
  · intro h
    have h2 := congrArg (fun y : W => y.getLsbD (i % 64)) h
    simp only [BitVec.getLsbD_and, bitW_at hm] at h2
    simpa using h2
  · intro h
    refine BitVec.eq_of_getLsbD_eq fun j hj => ?_
    rw [BitVec.getLsbD_and, bitW_at hj]
    by_cases e : j = i % 64
    · rw [e, h]; simp
    · simp [e]
theorem hasW_andB (s : List W) (i : Nat) : hasW s i = false ↔ s.getD (i / 64) 0 &&& bitW i = 0 := (and_bit _ _).symm
theorem putW_same {s : List W} {i : Nat} (h : hasW s i = true) : putW s i = s := by
  unfold putW
  refine getD_set_self fun _ => ?_
  refine BitVec.eq_of_getLsbD_eq fun j hj => ?_
  rw [BitVec.getLsbD_or, bitW_at hj]
  by_cases e : j = i % 64
  · subst e; unfold hasW at h; rw [h]; rfl
  · simp [e]
theorem dropW_same {s : List W} {i : Nat} (h : hasW s i = false) : dropW s i = s := by
  unfold dropW
  refine getD_set_self fun _ => ?_
  refine BitVec.eq_of_getLsbD_eq fun j hj => ?_
  rw [BitVec.getLsbD_and, BitVec.getLsbD_not, bitW_at hj]
  by_cases e : j = i % 64
  · subst e; unfold hasW at h; rw [h]; rfl
  · simp [e, hj]
theorem putW_out {s : List W} {i : Nat} (h : s.length ≤ i / 64) : putW s i = s := List.set_eq_of_length_le h
theorem dropW_out {s : List W} {i : Nat} (h : s.length ≤ i / 64) : dropW s i = s := List.set_eq_of_length_le h
theorem hasW_orn (s : List W) (i : Nat) : hasW (orW s []) i = hasW s i := by
  rw [hasW_or]; unfold hasW; simp
theorem orn_len (s : List W) : (orW s []).length = s.length := by unfold orW; rw [fillW_len]; simp
end Go.Proofs.YtdgibhndjdgllaaDoor

/- Whether a number is in a set, by a contract. -/
namespace Go.Proofs.YtdgibhndjdgllaaDoor
open Go.Ax
set_option maxRecDepth 10000
set_option linter.unusedVariables false
set_option maxHeartbeats 0

theorem bit_nat (i : Nat) : ((bitW i).toNat : Int) = 2 ^ (i % 64) := by
  have hm : i % 64 < 64 := Nat.mod_lt _ (by decide)
  unfold bitW
  rw [BitVec.toNat_shiftLeft, Nat.shiftLeft_eq, Nat.mod_eq_of_lt]
  · simp
  · simp only [BitVec.toNat_ofNat]
    have := Nat.pow_lt_pow_right (a := 2) (by decide) hm
    omega
theorem quoI (i : Nat) : (i : Int).tdiv 64 = ((i / 64 : Nat) : Int) := by rw [Int.tdiv_eq_ediv_of_nonneg (by omega)]; omega
theorem bitI (i : Nat) : (1 : Int) * 2 ^ min ((i : Int).tmod 64).toNat 64 = ((bitW i).toNat : Int) := by
  have hm : i % 64 < 64 := Nat.mod_lt _ (by decide)
  rw [bit_nat, Int.tmod_eq_emod_of_nonneg (by omega)]
  have : min ((i : Int) % 64).toNat 64 = i % 64 := by omega
  rw [this]; simp
theorem cvBit {i : Nat} {K : AV → Prop} (h : K (w64 (bitW i))) : Cv .u64 (1 * 2 ^ min ((i : Int).tmod 64).toNat 64) K := by
  rw [bitI]
  exact .same (wrapB _) h
theorem nat0 (w : W) : ((w.toNat : Int) = 0) ↔ w = 0 := by
  constructor
  · intro h; exact BitVec.eq_of_toNat_eq (by simpa using h)
  · rintro rfl; rfl
theorem hasW_eq (s : List W) (i : Nat) : hasW s i = !decide (((s.getD (i / 64) 0 &&& bitW i).toNat : Int) = 0) := by
  rw [Bool.eq_iff_iff, Bool.not_eq_true', decide_eq_false_iff_not, nat0, ← hasW_andB]; simp
theorem hasW_out {s : List W} {i : Nat} (h : s.length ≤ i / 64) : hasW s i = false := by
  unfold hasW; rw [getD_out h]; simp
theorem Has11_spec (s : List W) (i : Nat) (hs : s.length ≤ 1000000) (hi : i ≤ 1000000000) : FnSpec Tryd.prog 11 [sets s, num i] (fun r => r = tru (hasW s i)) := by
  refine spec_of 8 Tryd.func11 rfl rfl ?_
  repeat' first | refine Len.map ?_ | refine Len.nil ?_ | refine Len.cons ?_ | refine Br.t rfl ?_ | refine Br.f rfl ?_ | refine Fit.au ?_ | refine Cv.au ?_ | refine Need.ne ?_ | refine Need.au ?_ | refine Pick.map (by assumption) ?_ | refine Pick.mapI (by omega) (by assumption) ?_ | refine PickN.mk _ (by assumption) ?_ | refine PickN.mk _ rfl ?_ | refine PickN.au ?_ | refine App.au rfl ?_ | refine App.au (own_map (fun _ => rfl) _) ?_ | refine Both.mk ?_ ?_ | exact True.intro
  by_cases h : i / 64 < s.length
  · obtain ⟨w, gw, -⟩ := getK (l := s) (k := i / 64) h
    have ew : s.getD (i / 64) 0 = w := by rw [List.getD_eq_getElem?_getD, gw]; rfl
    refine Stop.mk ?_
    refine run_inlC rfl want_none rfl rfl rfl rfl rfl rfl rfl (goI 1000 Tryd.func30 ?_)
    repeat' first | refine Len.map ?_ | refine Len.nil ?_ | refine Len.cons ?_ | refine Br.t rfl ?_ | refine Br.f rfl ?_ | refine Fit.au ?_ | refine Cv.au ?_ | refine Need.ne ?_ | refine Need.au ?_ | refine Pick.map (by assumption) ?_ | refine Pick.mapI (by omega) (by assumption) ?_ | refine PickN.mk _ (by assumption) ?_ | refine PickN.mk _ rfl ?_ | refine PickN.au ?_ | refine App.au rfl ?_ | refine App.au (own_map (fun _ => rfl) _) ?_ | refine Both.mk ?_ ?_ | exact True.intro
    rw [quoI]
    refine Br.f (by simp; omega) ?_
    repeat' first | refine Draw.mk (ordL [] [0, 1, 2, 3, 4, 5, 6, 7, 8, 9]) (by decide +kernel) ?_ | (rw [quoI]; refine Pick.map gw ?_) | refine Need.mk (Int.tmod_nonneg _ (by omega)) ?_ | refine cvBit ?_ | refine Len.map ?_ | refine Len.nil ?_ | refine Len.cons ?_ | refine Br.t rfl ?_ | refine Br.f rfl ?_ | refine Fit.au ?_ | refine Cv.au ?_ | refine Need.ne ?_ | refine Need.au ?_ | refine Pick.map (by assumption) ?_ | refine Pick.mapI (by omega) (by assumption) ?_ | refine PickN.mk _ (by assumption) ?_ | refine PickN.mk _ rfl ?_ | refine PickN.au ?_ | refine App.au rfl ?_ | refine App.au (own_map (fun _ => rfl) _) ?_ | refine Both.mk ?_ ?_ | exact True.intro
    all_goals refine go 1000 Tryd.func11 ?_
    repeat' first | refine Len.map ?_ | refine Len.nil ?_ | refine Len.cons ?_ | refine Br.t rfl ?_ | refine Br.f rfl ?_ | refine Fit.au ?_ | refine Cv.au ?_ | refine Need.ne ?_ | refine Need.au ?_ | refine Pick.map (by assumption) ?_ | refine Pick.mapI (by omega) (by assumption) ?_ | refine PickN.mk _ (by assumption) ?_ | refine PickN.mk _ rfl ?_ | refine PickN.au ?_ | refine App.au rfl ?_ | refine App.au (own_map (fun _ => rfl) _) ?_ | refine Both.mk ?_ ?_ | exact True.intro
    all_goals (show AV.lit _ = AV.lit _; rw [andI, hasW_eq, ew])
  · refine Stop.mk ?_
    refine run_inlC rfl want_none rfl rfl rfl rfl rfl rfl rfl (goI 1000 Tryd.func30 ?_)
    repeat' first | refine Len.map ?_ | refine Len.nil ?_ | refine Len.cons ?_ | refine Br.t rfl ?_ | refine Br.f rfl ?_ | refine Fit.au ?_ | refine Cv.au ?_ | refine Need.ne ?_ | refine Need.au ?_ | refine Pick.map (by assumption) ?_ | refine Pick.mapI (by omega) (by assumption) ?_ | refine PickN.mk _ (by assumption) ?_ | refine PickN.mk _ rfl ?_ | refine PickN.au ?_ | refine App.au rfl ?_ | refine App.au (own_map (fun _ => rfl) _) ?_ | refine Both.mk ?_ ?_ | exact True.intro
    rw [quoI]
    refine Br.t (by simp; omega) ?_
    repeat' first | refine Len.map ?_ | refine Len.nil ?_ | refine Len.cons ?_ | refine Br.t rfl ?_ | refine Br.f rfl ?_ | refine Fit.au ?_ | refine Cv.au ?_ | refine Need.ne ?_ | refine Need.au ?_ | refine Pick.map (by assumption) ?_ | refine Pick.mapI (by omega) (by assumption) ?_ | refine PickN.mk _ (by assumption) ?_ | refine PickN.mk _ rfl ?_ | refine PickN.au ?_ | refine App.au rfl ?_ | refine App.au (own_map (fun _ => rfl) _) ?_ | refine Both.mk ?_ ?_ | exact True.intro
    refine go 1000 Tryd.func11 ?_
    repeat' first | refine Len.map ?_ | refine Len.nil ?_ | refine Len.cons ?_ | refine Br.t rfl ?_ | refine Br.f rfl ?_ | refine Fit.au ?_ | refine Cv.au ?_ | refine Need.ne ?_ | refine Need.au ?_ | refine Pick.map (by assumption) ?_ | refine Pick.mapI (by omega) (by assumption) ?_ | refine PickN.mk _ (by assumption) ?_ | refine PickN.mk _ rfl ?_ | refine PickN.au ?_ | refine App.au rfl ?_ | refine App.au (own_map (fun _ => rfl) _) ?_ | refine Both.mk ?_ ?_ | exact True.intro
    rw [hasW_out (by omega)]; rfl
end Go.Proofs.YtdgibhndjdgllaaDoor

/- What an instruction reads and goes to, as the program says it, by contracts; copies of lists. -/
namespace Go.Proofs.YtdgibhndjdgllaaDoor
open Go.Ax
set_option maxRecDepth 10000
set_option linter.unusedVariables false

theorem Ends123_spec (op : Int) : FnSpec Tryd.prog 99 [num op] (fun r => r = tru (endsF op)) := by
  refine spec_of 1000 Tryd.func99 rfl rfl ?_
  repeat' first | refine Len.map ?_ | refine Len.nil ?_ | refine Len.cons ?_ | refine Br.t rfl ?_ | refine Br.f rfl ?_ | refine Fit.au ?_ | refine Cv.au ?_ | refine Need.ne ?_ | refine Need.au ?_ | refine Pick.map (by assumption) ?_ | refine Pick.mapI (by omega) (by assumption) ?_ | refine PickN.mk _ (by assumption) ?_ | refine PickN.mk _ rfl ?_ | refine PickN.au ?_ | refine App.au rfl ?_ | refine App.au (own_map (fun _ => rfl) _) ?_ | refine Both.mk ?_ ?_ | exact True.intro | refine Br.d (fun h => ?_) (fun h => ?_) | refine Br.nd (fun h => ?_) (fun h => ?_) | refine Br.mk (fun h => ?_) (fun h => ?_)
  all_goals (show _ = _; unfold endsF; simp_all [asRes, tru]; try omega)
theorem Targets100_spec (i : Ins) (hi : i.fits) : FnSpec Tryd.prog 69 [insA i] (fun r => r = .osl 1 ((targetsF i).map int1)) := by
  refine FnSpec.weakV (spec_of 1000 Tryd.func69 rfl rfl ?_)
  repeat' first | refine Call.eq (Right_spec i hi) rfl ?_ | refine Call.eq (Ends123_spec _) rfl ?_ | refine Len.map ?_ | refine Len.nil ?_ | refine Len.cons ?_ | refine Br.t rfl ?_ | refine Br.f rfl ?_ | refine Fit.au ?_ | refine Cv.au ?_ | refine Need.ne ?_ | refine Need.au ?_ | refine Pick.map (by assumption) ?_ | refine Pick.mapI (by omega) (by assumption) ?_ | refine PickN.mk _ (by assumption) ?_ | refine PickN.mk _ rfl ?_ | refine PickN.au ?_ | refine App.au rfl ?_ | refine App.au (own_map (fun _ => rfl) _) ?_ | refine Both.mk ?_ ?_ | exact True.intro | refine Br.d (fun h => ?_) (fun h => ?_) | refine Br.nd (fun h => ?_) (fun h => ?_) | refine Br.mk (fun h => ?_) (fun h => ?_)
  all_goals (try simp only [right_eq, endsF] at *)
  all_goals first
    | (refine .inr ?_
       have e : targetsF i = [] := by unfold targetsF; rw [if_neg (by simp_all <;> omega), if_neg (by simp_all <;> omega)]
       rw [e]; exact OLe.onil)
    | (refine .inl ?_
       have e : targetsF i = [i.n] := by unfold targetsF; rw [if_pos (by simp_all)]
       rw [e]; rfl)
    | (refine .inl ?_
       have e : targetsF i = [i.n, i.m] := by unfold targetsF; rw [if_neg (by simp_all), if_pos (by simp_all <;> omega)]
       rw [e]; rfl)
theorem Ints_spec (l : List Int) (hl : l.length ≤ 1000000) : FnSpec Tryd.prog 33 [ints l] (fun r => r = .osl 1 (l.map int1)) := by
  refine spec_of 1000 Tryd.func33 rfl rfl ?_
  repeat' first | refine Len.map ?_ | refine Len.nil ?_ | refine Len.cons ?_ | refine Br.t rfl ?_ | refine Br.f rfl ?_ | refine Fit.au ?_ | refine Cv.au ?_ | refine Need.ne ?_ | refine Need.au ?_ | refine Pick.map (by assumption) ?_ | refine Pick.mapI (by omega) (by assumption) ?_ | refine PickN.mk _ (by assumption) ?_ | refine PickN.mk _ rfl ?_ | refine PickN.au ?_ | refine App.au rfl ?_ | refine App.au (own_map (fun _ => rfl) _) ?_ | refine Both.mk ?_ ?_ | exact True.intro
  rfl
end Go.Proofs.YtdgibhndjdgllaaDoor

/- What an instruction reads, as the program says it, by a contract. -/
namespace Go.Proofs.YtdgibhndjdgllaaDoor
open Go.Ax
set_option maxRecDepth 10000
set_option linter.unusedVariables false

end Go.Proofs.YtdgibhndjdgllaaDoor

/- The names of a function, by contracts. -/
namespace Go.Proofs.YtdgibhndjdgllaaDoor
open Go.Ax
set_option maxRecDepth 10000
set_option linter.unusedVariables false

theorem le_wr0 : OLe (.agg [num 0, num 0, num 0, num 0, num 0, num 0, num 0, num 0, .lit (.slice none 0 0), num 0, tru false]) (.agg Wr0.cs) :=
  .agg (by repeat' first | exact .nil | refine .cons (Le.refl _) ?_ | refine .cons Le.none ?_) rfl

theorem of_spec (n : Names) (x : Int) : FnSpec Tryd.prog 106 [namesA n, num x] (fun r => r = .agg (n.of x).cs) := by
  refine FnSpec.weak (spec_of 1000 Tryd.func106 rfl rfl ?_)
  repeat' first | refine Len.map ?_ | refine Len.nil ?_ | refine Len.cons ?_ | refine Br.t rfl ?_ | refine Br.f rfl ?_ | refine Fit.au ?_ | refine Cv.au ?_ | refine Need.ne ?_ | refine Need.au ?_ | refine Pick.map (by assumption) ?_ | refine Pick.mapI (by omega) (by assumption) ?_ | refine PickN.mk _ (by assumption) ?_ | refine PickN.mk _ rfl ?_ | refine PickN.au ?_ | refine App.au rfl ?_ | refine App.au (own_map (fun _ => rfl) _) ?_ | refine Both.mk ?_ ?_ | exact True.intro | refine Br.d (fun h => ?_) (fun h => ?_) | refine Br.nd (fun h => ?_) (fun h => ?_) | refine Br.mk (fun h => ?_) (fun h => ?_)
  any_goals (show OLe _ _; rw [Names.of, if_neg (by omega)]; exact le_wr0)
  obtain ⟨w, gw, -⟩ := getK (l := n.ws) (k := x.toNat) (by omega)
  repeat' first | refine Len.map ?_ | refine Len.nil ?_ | refine Len.cons ?_ | refine Br.t rfl ?_ | refine Br.f rfl ?_ | refine Fit.au ?_ | refine Cv.au ?_ | refine Need.ne ?_ | refine Need.au ?_ | refine Pick.map (by assumption) ?_ | refine Pick.mapI (by omega) (by assumption) ?_ | refine PickN.mk _ (by assumption) ?_ | refine PickN.mk _ rfl ?_ | refine PickN.au ?_ | refine App.au rfl ?_ | refine App.au (own_map (fun _ => rfl) _) ?_ | refine Both.mk ?_ ?_ | exact True.intro
  show OLe _ _
  rw [Names.of, if_pos (by omega)]
  simp only [List.getD_eq_getElem?_getD, gw, Option.getD_some]
  exact OLe.refl _

theorem Writer_spec (n : Names) (x : Int) : FnSpec Tryd.prog 81 [namesA n, num x] (fun r => r = .tup [insA (n.of x).i, tru (n.of x).is]) := by
  refine spec_of 1000 Tryd.func81 rfl rfl ?_
  repeat' first | refine Call.eq (of_spec n _) rfl ?_ | refine Draw.mk (.one 0 false (.one 1 false (.one 2 false (.alt 3 (ordL [4] [4, 5]) (.alt 4 (ordL [] [3, 5]) .no))))) (by decide +kernel) ?_ | refine Len.map ?_ | refine Len.nil ?_ | refine Len.cons ?_ | refine Br.t rfl ?_ | refine Br.f rfl ?_ | refine Fit.au ?_ | refine Cv.au ?_ | refine Need.ne ?_ | refine Need.au ?_ | refine Pick.map (by assumption) ?_ | refine Pick.mapI (by omega) (by assumption) ?_ | refine PickN.mk _ (by assumption) ?_ | refine PickN.mk _ rfl ?_ | refine PickN.au ?_ | refine App.au rfl ?_ | refine App.au (own_map (fun _ => rfl) _) ?_ | refine Both.mk ?_ ?_ | exact True.intro | refine Br.d (fun h => ?_) (fun h => ?_) | refine Br.nd (fun h => ?_) (fun h => ?_) | refine Br.mk (fun h => ?_) (fun h => ?_)
  all_goals rfl
theorem Chain_spec (n : Names) (x : Int) (hn : n.ws.length ≤ 1000) : FnSpec Tryd.prog 80 [namesA n, num x] (fun r => r = .osl 1 ((n.chain x).map int1) ∨ (r = .lit (.slice none 0 0) ∧ n.chain x = [])) := by
  refine spec_of 1000 Tryd.func80 rfl rfl ?_
  repeat' first | refine Len.map ?_ | refine Len.nil ?_ | refine Len.cons ?_ | refine Br.t rfl ?_ | refine Br.f rfl ?_ | refine Fit.au ?_ | refine Cv.au ?_ | refine Need.ne ?_ | refine Need.au ?_ | refine Pick.map (by assumption) ?_ | refine Pick.mapI (by omega) (by assumption) ?_ | refine PickN.mk _ (by assumption) ?_ | refine PickN.mk _ rfl ?_ | refine PickN.au ?_ | refine App.au rfl ?_ | refine App.au (own_map (fun _ => rfl) _) ?_ | refine Both.mk ?_ ?_ | exact True.intro | refine Br.d (fun h => ?_) (fun h => ?_) | refine Br.nd (fun h => ?_) (fun h => ?_) | refine Br.mk (fun h => ?_) (fun h => ?_)
  any_goals first | (show _ ∨ _; right; refine ⟨rfl, ?_⟩; rw [Names.chain, if_neg (by omega)]) | skip
  refine Stop.mk (loop_in (fun p : List Int × Int => [(0, namesA n), (5, .hw 0)]) (fun p => [(0, .row 1 ((p.1 ++ [p.2]).map int1))]) 1 (fun p => p.1.length ≤ n.ws.length ∧ n.chain x = p.1 ++ n.up (n.ws.length - p.1.length) p.2) (fun p => n.ws.length - p.1.length) ([], x) ⟨by simp, by rw [Names.chain, if_pos (by omega)]; rfl⟩ (g := []) ⟨rfl, (by repeat' first | exact trivial | refine ⟨rfl, ?_⟩ | refine ⟨congrArg (fun n => AV.lit (.int .i64 n)) (by omega), ?_⟩ | refine ⟨congrArg (fun l => some (Row.row 1 l)) (by simp [int1, num, tru]), ?_⟩), (by repeat' first | exact trivial | refine ⟨rfl, ?_⟩ | refine ⟨congrArg (fun n => AV.lit (.int .i64 n)) (by omega), ?_⟩ | refine ⟨congrArg (fun l => some (Row.row 1 l)) (by simp [int1, num, tru]), ?_⟩)⟩ (fun p hp ih => ?_))
  obtain ⟨pre, y⟩ := p
  obtain ⟨h1, h2⟩ := hp
  dsimp only at h1 h2 ih ⊢
  refine go 1000 Tryd.func80 ?_
  have hlen : (pre ++ [y]).length = pre.length + 1 := by simp
  have gy : ((pre ++ [y]).map int1)[(((pre ++ [y]).length : Int) - 1).toNat]? = some (int1 y) := by
    rw [show (((pre ++ [y]).length : Int) - 1).toNat = pre.length by omega]; simp
  repeat' first | refine Len.map ?_ | refine Len.nil ?_ | refine Len.cons ?_ | refine Br.t rfl ?_ | refine Br.f rfl ?_ | refine Fit.au ?_ | refine Cv.au ?_ | refine Need.ne ?_ | refine Need.au ?_ | refine Pick.map (by assumption) ?_ | refine Pick.mapI (by omega) (by assumption) ?_ | refine PickN.mk _ (by assumption) ?_ | refine PickN.mk _ rfl ?_ | refine PickN.au ?_ | refine App.au rfl ?_ | refine App.au (own_map (fun _ => rfl) _) ?_ | refine Both.mk ?_ ?_ | exact True.intro
  refine Br.d (fun h3 => ?_) (fun h3 => ?_)
  · have hk : n.ws.length - pre.length = (n.ws.length - (pre.length + 1)) + 1 := by omega
    rw [hk] at h2
    simp only [Names.up] at h2
    repeat' first | refine Call.eq (of_spec n _) rfl ?_ | refine Len.map ?_ | refine Len.nil ?_ | refine Len.cons ?_ | refine Br.t rfl ?_ | refine Br.f rfl ?_ | refine Fit.au ?_ | refine Cv.au ?_ | refine Need.ne ?_ | refine Need.au ?_ | refine Pick.map (by assumption) ?_ | refine Pick.mapI (by omega) (by assumption) ?_ | refine PickN.mk _ (by assumption) ?_ | refine PickN.mk _ rfl ?_ | refine PickN.au ?_ | refine App.au rfl ?_ | refine App.au (own_map (fun _ => rfl) _) ?_ | refine Both.mk ?_ ?_ | exact True.intro | refine Br.d (fun h => ?_) (fun h => ?_) | refine Br.nd (fun h => ?_) (fun h => ?_) | refine Br.mk (fun h => ?_) (fun h => ?_)
    · rename_i h4
      refine Stop.mk (ih (pre ++ [y], (n.of y).i.a) _ _ _ ⟨by simp; omega, ?_⟩ (by simp; omega) (g := [(0, 3)]) ⟨rfl, (by repeat' first | exact trivial | refine ⟨rfl, ?_⟩ | refine ⟨congrArg (fun n => AV.lit (.int .i64 n)) (by omega), ?_⟩ | refine ⟨congrArg (fun l => some (Row.row 1 l)) (by simp [int1, num, tru]), ?_⟩), (by repeat' first | exact trivial | refine ⟨rfl, ?_⟩ | refine ⟨congrArg (fun n => AV.lit (.int .i64 n)) (by omega), ?_⟩ | refine ⟨congrArg (fun l => some (Row.row 1 l)) (by simp [int1, num, tru]), ?_⟩)⟩)
      rw [h2, if_pos ⟨h4, .inl h⟩]; simp
    · rename_i h4 h5
      refine Stop.mk (ih (pre ++ [y], (n.of y).i.a) _ _ _ ⟨by simp; omega, ?_⟩ (by simp; omega) (g := [(0, 3)]) ⟨rfl, (by repeat' first | exact trivial | refine ⟨rfl, ?_⟩ | refine ⟨congrArg (fun n => AV.lit (.int .i64 n)) (by omega), ?_⟩ | refine ⟨congrArg (fun l => some (Row.row 1 l)) (by simp [int1, num, tru]), ?_⟩), (by repeat' first | exact trivial | refine ⟨rfl, ?_⟩ | refine ⟨congrArg (fun n => AV.lit (.int .i64 n)) (by omega), ?_⟩ | refine ⟨congrArg (fun l => some (Row.row 1 l)) (by simp [int1, num, tru]), ?_⟩)⟩)
      rw [h2, if_pos ⟨h4, .inr h⟩]; simp
    · rename_i h4 h5
      left
      rw [h2, if_neg (by simp [h4, h5, h])]; rfl
    · left
      rw [h2, if_neg (by simp [h])]; rfl
  · repeat' first | refine Len.map ?_ | refine Len.nil ?_ | refine Len.cons ?_ | refine Br.t rfl ?_ | refine Br.f rfl ?_ | refine Fit.au ?_ | refine Cv.au ?_ | refine Need.ne ?_ | refine Need.au ?_ | refine Pick.map (by assumption) ?_ | refine Pick.mapI (by omega) (by assumption) ?_ | refine PickN.mk _ (by assumption) ?_ | refine PickN.mk _ rfl ?_ | refine PickN.au ?_ | refine App.au rfl ?_ | refine App.au (own_map (fun _ => rfl) _) ?_ | refine Both.mk ?_ ?_ | exact True.intro
    left
    rw [h2, show n.ws.length - pre.length = 0 by omega]; rfl

theorem Root_spec (n : Names) (x : Int) (hn : n.ws.length ≤ 1000) : FnSpec Tryd.prog 49 [namesA n, num x] (fun r => r = num (n.root x)) := by
  refine spec_of 1000 Tryd.func49 rfl rfl ?_
  refine Call.of (Chain_spec n _ hn) ?_
  rintro r (rfl | ⟨rfl, h⟩)
  · refine ⟨rfl, ?_⟩
    repeat' first | refine Len.map ?_ | refine Len.nil ?_ | refine Len.cons ?_ | refine Br.t rfl ?_ | refine Br.f rfl ?_ | refine Fit.au ?_ | refine Cv.au ?_ | refine Need.ne ?_ | refine Need.au ?_ | refine Pick.map (by assumption) ?_ | refine Pick.mapI (by omega) (by assumption) ?_ | refine PickN.mk _ (by assumption) ?_ | refine PickN.mk _ rfl ?_ | refine PickN.au ?_ | refine App.au rfl ?_ | refine App.au (own_map (fun _ => rfl) _) ?_ | refine Both.mk ?_ ?_ | exact True.intro
    refine Br.d (fun h => ?_) (fun h => ?_)
    · have hl := chain_len n x
      obtain ⟨y, gy, -⟩ := getK (l := n.chain x) (k := (n.chain x).length - 1) (by omega)
      have gy2 : ((n.chain x).map int1)[(((n.chain x).length : Int) - 1).toNat]? = some (int1 y) := by
        rw [show (((n.chain x).length : Int) - 1).toNat = (n.chain x).length - 1 by omega]; simp [gy]
      repeat' first | refine Len.map ?_ | refine Len.nil ?_ | refine Len.cons ?_ | refine Br.t rfl ?_ | refine Br.f rfl ?_ | refine Fit.au ?_ | refine Cv.au ?_ | refine Need.ne ?_ | refine Need.au ?_ | refine Pick.map (by assumption) ?_ | refine Pick.mapI (by omega) (by assumption) ?_ | refine PickN.mk _ (by assumption) ?_ | refine PickN.mk _ rfl ?_ | refine PickN.au ?_ | refine App.au rfl ?_ | refine App.au (own_map (fun _ => rfl) _) ?_ | refine Both.mk ?_ ?_ | exact True.intro
      show _ = _
      rw [Names.root, List.getLastD_eq_getLast?, List.getLast?_eq_getElem?, gy]; rfl
    · show _ = _
      rw [Names.root, List.eq_nil_of_length_eq_zero (l := n.chain x) (by omega)]; rfl
  · refine ⟨rfl, ?_⟩
    repeat' first | refine Len.map ?_ | refine Len.nil ?_ | refine Len.cons ?_ | refine Br.t rfl ?_ | refine Br.f rfl ?_ | refine Fit.au ?_ | refine Cv.au ?_ | refine Need.ne ?_ | refine Need.au ?_ | refine Pick.map (by assumption) ?_ | refine Pick.mapI (by omega) (by assumption) ?_ | refine PickN.mk _ (by assumption) ?_ | refine PickN.mk _ rfl ?_ | refine PickN.au ?_ | refine App.au rfl ?_ | refine App.au (own_map (fun _ => rfl) _) ?_ | refine Both.mk ?_ ?_ | exact True.intro
    show _ = _
    rw [Names.root, h]; rfl
theorem zero_wr (n : Nat) : LeLL (List.replicate n [num 0, num 0, num 0, num 0, num 0, num 0, num 0, num 0, .lit (.slice none 0 0), num 0, tru false]) ((List.replicate n Wr0).map Wr.cs) := by
  rw [List.map_replicate]
  exact LeLL.rep (by repeat' first | exact .nil | refine .cons (Le.refl _) ?_ | refine .cons Le.none ?_) n

theorem New_spec (f : Fun) (hf : f.fits) (hr : f.regs.length ≤ 100) : FnSpec Tryd.prog 40 [funA f] (fun r => r = ownNames (newF f)) := by
  refine spec_of 1000 Tryd.func40 rfl rfl ?_
  repeat' first | refine Draw.mk (ordL [3, 7] [0, 1, 2, 4, 5, 3, 6, 7, 8]) (by decide +kernel) ?_ | refine Draw.mk (ordL [9] [0, 1, 2, 3, 4, 5, 6, 7, 8, 9]) (by decide +kernel) ?_ | refine MkS.mk _ rfl rfl (by omega) (by omega) ?_ | refine Len.map ?_ | refine Len.nil ?_ | refine Len.cons ?_ | refine Br.t rfl ?_ | refine Br.f rfl ?_ | refine Fit.au ?_ | refine Cv.au ?_ | refine Need.ne ?_ | refine Need.au ?_ | refine Pick.map (by assumption) ?_ | refine Pick.mapI (by omega) (by assumption) ?_ | refine PickN.mk _ (by assumption) ?_ | refine PickN.mk _ rfl ?_ | refine PickN.au ?_ | refine App.au rfl ?_ | refine App.au (own_map (fun _ => rfl) _) ?_ | refine Both.mk ?_ ?_ | exact True.intro
  refine Stop.mk (run_varLe 2 rfl (.cons (.osl (zero_wr _) (by intro x hx; rw [List.eq_of_mem_replicate hx]; rfl)) (.cons (.refl _) .nil)) ?_)
  refine loop_in (fun k : Nat => [(3, .hp 2 0), (18, .sl false 1 (f.blocks.map blk)), (19, num f.blocks.length), (20, num k)]) (fun k => [(2, .var [.osl 11 ((outW f k).map Wr.cs), num f.params])]) 3 (fun k => k ≤ f.blocks.length) (fun k => f.blocks.length - k) 0 (by omega) (g := []) ⟨rfl, (by repeat' first | exact trivial | refine ⟨rfl, ?_⟩ | refine ⟨congrArg (fun n => AV.lit (.int .i64 n)) (by omega), ?_⟩ | refine ⟨congrArg (fun l => some (Row.row 1 l)) (by simp [int1, num, tru]), ?_⟩), (by repeat' first | exact trivial | refine ⟨rfl, ?_⟩ | refine ⟨congrArg (fun n => AV.lit (.int .i64 n)) (by omega), ?_⟩ | refine ⟨congrArg (fun l => some (Row.row 1 l)) (by simp [int1, num, tru]), ?_⟩)⟩ (fun k hk ih => ?_)
  have hlen := outW_len f k
  have hfb := hf.1
  refine go 1000 Tryd.func40 ?_
  repeat' first | refine Len.map ?_ | refine Len.nil ?_ | refine Len.cons ?_ | refine Br.t rfl ?_ | refine Br.f rfl ?_ | refine Fit.au ?_ | refine Cv.au ?_ | refine Need.ne ?_ | refine Need.au ?_ | refine Pick.map (by assumption) ?_ | refine Pick.mapI (by omega) (by assumption) ?_ | refine PickN.mk _ (by assumption) ?_ | refine PickN.mk _ rfl ?_ | refine PickN.au ?_ | refine App.au rfl ?_ | refine App.au (own_map (fun _ => rfl) _) ?_ | refine Both.mk ?_ ?_ | exact True.intro
  refine Br.d (fun h2 => ?_) (fun h2 => ?_)
  · obtain ⟨b, gb, gbm⟩ := getK (l := f.blocks) (k := k) (by omega)
    obtain ⟨hb1, hb2⟩ := hf.2.2 b gbm
    have hk1 := outW_succ gb
    generalize outW f k = ws at hlen hk1
    repeat' first | refine Len.map ?_ | refine Len.nil ?_ | refine Len.cons ?_ | refine Br.t rfl ?_ | refine Br.f rfl ?_ | refine Fit.au ?_ | refine Cv.au ?_ | refine Need.ne ?_ | refine Need.au ?_ | refine Pick.map (by assumption) ?_ | refine Pick.mapI (by omega) (by assumption) ?_ | refine PickN.mk _ (by assumption) ?_ | refine PickN.mk _ rfl ?_ | refine PickN.au ?_ | refine App.au rfl ?_ | refine App.au (own_map (fun _ => rfl) _) ?_ | refine Both.mk ?_ ?_ | exact True.intro
    refine Stop.mk (loop_in (fun j : Nat => [(3, .hp 2 0), (18, .sl false 1 (f.blocks.map blk)), (19, num f.blocks.length), (20, num k), (4, num k), (25, .sl false 9 (b.map Ins.cs)), (26, num b.length), (27, num j)]) (fun j => [(2, .var [.osl 11 ((blkW ws k b j).map Wr.cs), num f.params])]) 3 (fun j => j ≤ b.length) (fun j => b.length - j) 0 (by omega) (g := []) ⟨rfl, (by repeat' first | exact trivial | refine ⟨rfl, ?_⟩ | refine ⟨congrArg (fun n => AV.lit (.int .i64 n)) (by omega), ?_⟩ | refine ⟨congrArg (fun l => some (Row.row 1 l)) (by simp [int1, num, tru]), ?_⟩), (by repeat' first | exact trivial | refine ⟨rfl, ?_⟩ | refine ⟨congrArg (fun n => AV.lit (.int .i64 n)) (by omega), ?_⟩ | refine ⟨congrArg (fun l => some (Row.row 1 l)) (by simp [int1, num, tru]), ?_⟩)⟩ (fun j hj ih2 => ?_))
    have hlen2 := blkW_len ws k b j
    refine go 1000 Tryd.func40 ?_
    repeat' first | refine Len.map ?_ | refine Len.nil ?_ | refine Len.cons ?_ | refine Br.t rfl ?_ | refine Br.f rfl ?_ | refine Fit.au ?_ | refine Cv.au ?_ | refine Need.ne ?_ | refine Need.au ?_ | refine Pick.map (by assumption) ?_ | refine Pick.mapI (by omega) (by assumption) ?_ | refine PickN.mk _ (by assumption) ?_ | refine PickN.mk _ rfl ?_ | refine PickN.au ?_ | refine App.au rfl ?_ | refine App.au (own_map (fun _ => rfl) _) ?_ | refine Both.mk ?_ ?_ | exact True.intro
    refine Br.d (fun h3 => ?_) (fun h3 => ?_)
    · obtain ⟨i, gi, gim⟩ := getK (l := b) (k := j) (by omega)
      have hj1 := blkW_succ (ws := ws) (k := k) gi
      generalize blkW ws k b j = vs at hlen2 hj1
      have stay : ¬ (0 ≤ defF i ∧ defF i < vs.length ∧ (vs.getD (defF i).toNat Wr0).is = false) → setW vs k i = vs := fun h => if_neg h
      repeat' first | refine Call.eq (Def_spec i (hb2 i gim)) rfl ?_ | refine Len.map ?_ | refine Len.nil ?_ | refine Len.cons ?_ | refine Br.t rfl ?_ | refine Br.f rfl ?_ | refine Fit.au ?_ | refine Cv.au ?_ | refine Need.ne ?_ | refine Need.au ?_ | refine Pick.map (by assumption) ?_ | refine Pick.mapI (by omega) (by assumption) ?_ | refine PickN.mk _ (by assumption) ?_ | refine PickN.mk _ rfl ?_ | refine PickN.au ?_ | refine App.au rfl ?_ | refine App.au (own_map (fun _ => rfl) _) ?_ | refine Both.mk ?_ ?_ | exact True.intro
      refine Br.d (fun g1 => ?_) (fun g1 => ?_)
      · repeat' first | refine Len.map ?_ | refine Len.nil ?_ | refine Len.cons ?_ | refine Br.t rfl ?_ | refine Br.f rfl ?_ | refine Fit.au ?_ | refine Cv.au ?_ | refine Need.ne ?_ | refine Need.au ?_ | refine Pick.map (by assumption) ?_ | refine Pick.mapI (by omega) (by assumption) ?_ | refine PickN.mk _ (by assumption) ?_ | refine PickN.mk _ rfl ?_ | refine PickN.au ?_ | refine App.au rfl ?_ | refine App.au (own_map (fun _ => rfl) _) ?_ | refine Both.mk ?_ ?_ | exact True.intro
        refine Br.d (fun g2 => ?_) (fun g2 => ?_)
        · obtain ⟨w, gw, -⟩ := getK (l := vs) (k := (defF i).toNat) (by omega)
          have gw2 : (vs.map Wr.cs)[(defF i).toNat]? = some w.cs := by simp [gw]
          have gw3 : (vs.getD (defF i).toNat Wr0).is = w.is := by simp [List.getD_eq_getElem?_getD, gw]
          repeat' first | refine Len.map ?_ | refine Len.nil ?_ | refine Len.cons ?_ | refine Br.t rfl ?_ | refine Br.f rfl ?_ | refine Fit.au ?_ | refine Cv.au ?_ | refine Need.ne ?_ | refine Need.au ?_ | refine Pick.map (by assumption) ?_ | refine Pick.mapI (by omega) (by assumption) ?_ | refine PickN.mk _ (by assumption) ?_ | refine PickN.mk _ rfl ?_ | refine PickN.au ?_ | refine App.au rfl ?_ | refine App.au (own_map (fun _ => rfl) _) ?_ | refine Both.mk ?_ ?_ | exact True.intro
          refine Br.mk (fun g3 => ?_) (fun g3 => ?_)
          · have e : setW vs k i = vs.set (defF i).toNat ⟨i, k, true⟩ := if_pos ⟨g1, by omega, by rw [gw3]; simpa using g3⟩
            repeat' first | refine Draw.mk (ordL [3, 7] [0, 1, 2, 4, 5, 3, 6, 7, 8]) (by decide +kernel) ?_ | refine Draw.mk (ordL [9] [0, 1, 2, 3, 4, 5, 6, 7, 8, 9]) (by decide +kernel) ?_ | refine Len.map ?_ | refine Len.nil ?_ | refine Len.cons ?_ | refine Br.t rfl ?_ | refine Br.f rfl ?_ | refine Fit.au ?_ | refine Cv.au ?_ | refine Need.ne ?_ | refine Need.au ?_ | refine Pick.map (by assumption) ?_ | refine Pick.mapI (by omega) (by assumption) ?_ | refine PickN.mk _ (by assumption) ?_ | refine PickN.mk _ rfl ?_ | refine PickN.au ?_ | refine App.au rfl ?_ | refine App.au (own_map (fun _ => rfl) _) ?_ | refine Both.mk ?_ ?_ | exact True.intro
            refine Stop.mk (run_foldV 2 rfl rfl (ih2 (j + 1) _ _ _ (by omega) (by omega) (g := []) ?_))
            rw [hj1, e, List.map_set]
            exact ⟨rfl, by repeat' first | exact trivial | refine ⟨rfl, ?_⟩, by repeat' first | exact trivial | refine ⟨rfl, ?_⟩⟩
          · have hs := stay (by rw [gw3]; simp at g3; simp [g3])
            repeat' first | refine Len.map ?_ | refine Len.nil ?_ | refine Len.cons ?_ | refine Br.t rfl ?_ | refine Br.f rfl ?_ | refine Fit.au ?_ | refine Cv.au ?_ | refine Need.ne ?_ | refine Need.au ?_ | refine Pick.map (by assumption) ?_ | refine Pick.mapI (by omega) (by assumption) ?_ | refine PickN.mk _ (by assumption) ?_ | refine PickN.mk _ rfl ?_ | refine PickN.au ?_ | refine App.au rfl ?_ | refine App.au (own_map (fun _ => rfl) _) ?_ | refine Both.mk ?_ ?_ | exact True.intro
            refine Stop.mk (run_foldV 2 rfl rfl (ih2 (j + 1) _ _ _ (by omega) (by omega) (g := []) ?_))
            rw [hj1, hs]
            exact ⟨rfl, by repeat' first | exact trivial | refine ⟨rfl, ?_⟩, by repeat' first | exact trivial | refine ⟨rfl, ?_⟩⟩
        · have hs := stay (by omega)
          repeat' first | refine Len.map ?_ | refine Len.nil ?_ | refine Len.cons ?_ | refine Br.t rfl ?_ | refine Br.f rfl ?_ | refine Fit.au ?_ | refine Cv.au ?_ | refine Need.ne ?_ | refine Need.au ?_ | refine Pick.map (by assumption) ?_ | refine Pick.mapI (by omega) (by assumption) ?_ | refine PickN.mk _ (by assumption) ?_ | refine PickN.mk _ rfl ?_ | refine PickN.au ?_ | refine App.au rfl ?_ | refine App.au (own_map (fun _ => rfl) _) ?_ | refine Both.mk ?_ ?_ | exact True.intro
          refine Stop.mk (run_foldV 2 rfl rfl (ih2 (j + 1) _ _ _ (by omega) (by omega) (g := []) ?_))
          rw [hj1, hs]
          exact ⟨rfl, by repeat' first | exact trivial | refine ⟨rfl, ?_⟩, by repeat' first | exact trivial | refine ⟨rfl, ?_⟩⟩
      · have hs := stay (by omega)
        repeat' first | refine Len.map ?_ | refine Len.nil ?_ | refine Len.cons ?_ | refine Br.t rfl ?_ | refine Br.f rfl ?_ | refine Fit.au ?_ | refine Cv.au ?_ | refine Need.ne ?_ | refine Need.au ?_ | refine Pick.map (by assumption) ?_ | refine Pick.mapI (by omega) (by assumption) ?_ | refine PickN.mk _ (by assumption) ?_ | refine PickN.mk _ rfl ?_ | refine PickN.au ?_ | refine App.au rfl ?_ | refine App.au (own_map (fun _ => rfl) _) ?_ | refine Both.mk ?_ ?_ | exact True.intro
        refine Stop.mk (ih2 (j + 1) _ _ _ (by omega) (by omega) (g := []) ?_)
        rw [hj1, hs]
        exact ⟨rfl, by repeat' first | exact trivial | refine ⟨rfl, ?_⟩, by repeat' first | exact trivial | refine ⟨rfl, ?_⟩⟩
    · repeat' first | refine Len.map ?_ | refine Len.nil ?_ | refine Len.cons ?_ | refine Br.t rfl ?_ | refine Br.f rfl ?_ | refine Fit.au ?_ | refine Cv.au ?_ | refine Need.ne ?_ | refine Need.au ?_ | refine Pick.map (by assumption) ?_ | refine Pick.mapI (by omega) (by assumption) ?_ | refine PickN.mk _ (by assumption) ?_ | refine PickN.mk _ rfl ?_ | refine PickN.au ?_ | refine App.au rfl ?_ | refine App.au (own_map (fun _ => rfl) _) ?_ | refine Both.mk ?_ ?_ | exact True.intro
      refine Stop.mk (ih (k + 1) _ _ _ (by omega) (by omega) (g := []) ?_)
      rw [hk1, show b.length = j by omega]
      exact ⟨rfl, by repeat' first | exact trivial | refine ⟨rfl, ?_⟩, by repeat' first | exact trivial | refine ⟨rfl, ?_⟩⟩
  · repeat' first | refine Len.map ?_ | refine Len.nil ?_ | refine Len.cons ?_ | refine Br.t rfl ?_ | refine Br.f rfl ?_ | refine Fit.au ?_ | refine Cv.au ?_ | refine Need.ne ?_ | refine Need.au ?_ | refine Pick.map (by assumption) ?_ | refine Pick.mapI (by omega) (by assumption) ?_ | refine PickN.mk _ (by assumption) ?_ | refine PickN.mk _ rfl ?_ | refine PickN.au ?_ | refine App.au rfl ?_ | refine App.au (own_map (fun _ => rfl) _) ?_ | refine Both.mk ?_ ?_ | exact True.intro
    show _ = _
    rw [newF, show f.blocks.length = k by omega]; rfl
end Go.Proofs.YtdgibhndjdgllaaDoor

/- The example of law 37, and the law RootEnds as a function. -/
namespace Go.Proofs.YtdgibhndjdgllaaDoor
open Go.Ax
set_option maxRecDepth 10000
set_option linter.unusedVariables false

theorem fz_wr (w : Wr) : AV.fzL w.cs = w.cs := rfl
theorem fz_names (n : Names) : AV.fzL [.osl 11 (n.ws.map Wr.cs), num n.params] = n.cs := by
  show AV.sl false 11 (AV.fzLL (n.ws.map Wr.cs)) :: _ = _
  rw [fzLL_map fz_wr]; rfl

end Go.Proofs.YtdgibhndjdgllaaDoor

/- Numbers put into sets of one's own, and taken out, in line. -/
namespace Go.Proofs.YtdgibhndjdgllaaDoor
open Go.Ax
set_option maxRecDepth 10000
set_option linter.unusedVariables false
set_option maxHeartbeats 0

abbrev rowW (s : List W) : Row := .row 1 (s.map u1)
theorem putW_row {s : List W} {i : Nat} {w : W} (hw : s.getD (i / 64) 0 = w) : rowW (putW s i) = .row 1 ((s.map u1).set (i / 64) [.lit (.int .u64 (IntKind.u64.wrap ((BitVec.ofInt IntKind.u64.bits (w.toNat : Int) ||| BitVec.ofInt IntKind.u64.bits ((bitW i).toNat : Int)).toNat : Int)))]) := by
  unfold rowW putW; rw [orI, List.map_set, hw]; rfl
theorem dropW_row {s : List W} {i : Nat} {w : W} (hw : s.getD (i / 64) 0 = w) : rowW (dropW s i) = .row 1 ((s.map u1).set (i / 64) [.lit (.int .u64 (IntKind.u64.wrap ((BitVec.ofInt IntKind.u64.bits (w.toNat : Int) &&& ~~~BitVec.ofInt IntKind.u64.bits ((bitW i).toNat : Int)).toNat : Int)))]) := by
  unfold rowW dropW; rw [lessI, List.map_set, hw]; rfl
theorem brBit {w : W} {i : Nat} {s : List W} {A B : Prop} (hw : s.getD (i / 64) 0 = w) (h1 : hasW s i = true → A) (h2 : hasW s i = false → B) : Br (!decide (IntKind.u64.wrap ((BitVec.ofInt IntKind.u64.bits (w.toNat : Int) &&& BitVec.ofInt IntKind.u64.bits ((bitW i).toNat : Int)).toNat : Int) = 0)) A B := by
  rw [andI, ← hw, ← hasW_eq]
  exact ⟨h1, h2⟩
theorem brBitN {w : W} {i : Nat} {s : List W} {A B : Prop} (hw : s.getD (i / 64) 0 = w) (h1 : hasW s i = false → A) (h2 : hasW s i = true → B) : Br (decide (IntKind.u64.wrap ((BitVec.ofInt IntKind.u64.bits (w.toNat : Int) &&& BitVec.ofInt IntKind.u64.bits ((bitW i).toNat : Int)).toNat : Int) = 0)) A B := by
  have e : decide (((w &&& bitW i).toNat : Int) = 0) = !hasW s i := by rw [hasW_eq, hw, Bool.not_not]
  rw [andI, e]
  refine ⟨fun h => h1 (by simpa using h), fun h => h2 (by simpa using h)⟩
end Go.Proofs.YtdgibhndjdgllaaDoor

/- Numbers put into sets of one's own, and taken out, in line: by nils. -/
namespace Go.Proofs.YtdgibhndjdgllaaDoor
open Go.Ax
set_option maxRecDepth 10000
set_option linter.unusedVariables false
set_option maxHeartbeats 0

theorem putN_run (s : List W) (i : Nat) (b : List W) (ce ci : List AV) (U A3 A4 : List (List AV)) (P c1 c0 : List AV) (hs : s.length ≤ 1000000) (hi : i ≤ 1000000000) {K : AV → HP → Nat → Prop} (h0 : putW s i = s → ∀ v, K (tru v) [(9, .var ce), (8, .row 2 U), (7, .var ci), (6, rowW b), (5, rowW s), (2, .var P), (3, .row 1 A3), (4, .row 1 A4), (1, .var c1), (0, .var c0)] 10) (h1 : ∀ v, K (tru v) [(5, rowW (putW s i)), (9, .var ce), (8, .row 2 U), (7, .var ci), (6, rowW b), (2, .var P), (3, .row 1 A3), (4, .row 1 A4), (1, .var c1), (0, .var c0)] 10) :
    Run Tryd.prog 61 (Post.inl 10 K) [.code (Tryd.f61.body.getD .skip)] ⟨slots 0 [.hw 5, num i], [(9, .var ce), (8, .row 2 U), (7, .var ci), (6, rowW b), (5, rowW s), (2, .var P), (3, .row 1 A3), (4, .row 1 A4), (1, .var c1), (0, .var c0)], 10, Tryd.f61.ntmps⟩ := by
  by_cases h : i / 64 < s.length
  · obtain ⟨w, gw, -⟩ := getK (l := s) (k := i / 64) h
    have ew : s.getD (i / 64) 0 = w := by rw [List.getD_eq_getElem?_getD, gw]; rfl
    have hrow := putW_row ew
    refine goI 8 Tryd.func61 ?_
    repeat' first | refine Len.map ?_ | refine Len.nil ?_ | refine Len.cons ?_ | refine Br.t rfl ?_ | refine Br.f rfl ?_ | refine Fit.au ?_ | refine Cv.au ?_ | refine Need.ne ?_ | refine Need.au ?_ | refine Pick.map (by assumption) ?_ | refine Pick.mapI (by omega) (by assumption) ?_ | refine PickN.mk _ (by assumption) ?_ | refine PickN.mk _ rfl ?_ | refine PickN.au ?_ | refine App.au rfl ?_ | refine App.au (own_map (fun _ => rfl) _) ?_ | refine Both.mk ?_ ?_ | exact True.intro
    refine Stop.mk ?_
    refine run_inlC rfl want_none rfl rfl rfl rfl rfl rfl rfl (goI 1000 Tryd.func30 ?_)
    repeat' first | refine Len.map ?_ | refine Len.nil ?_ | refine Len.cons ?_ | refine Br.t rfl ?_ | refine Br.f rfl ?_ | refine Fit.au ?_ | refine Cv.au ?_ | refine Need.ne ?_ | refine Need.au ?_ | refine Pick.map (by assumption) ?_ | refine Pick.mapI (by omega) (by assumption) ?_ | refine PickN.mk _ (by assumption) ?_ | refine PickN.mk _ rfl ?_ | refine PickN.au ?_ | refine App.au rfl ?_ | refine App.au (own_map (fun _ => rfl) _) ?_ | refine Both.mk ?_ ?_ | exact True.intro
    rw [quoI]
    refine Br.f (by simp; omega) ?_
    repeat' first | refine Draw.mk (ordL [] [0, 1, 2, 3, 4, 5, 6, 7, 8, 9]) (by decide +kernel) ?_ | refine Need.mk ⟨by rw [quoI]; omega, by rw [quoI, List.length_map]; omega⟩ ?_ | refine Need.mk (Int.tmod_nonneg _ (by omega)) ?_ | refine cvBit ?_ | refine Len.map ?_ | refine Len.nil ?_ | refine Len.cons ?_ | refine Br.t rfl ?_ | refine Br.f rfl ?_ | refine Fit.au ?_ | refine Cv.au ?_ | refine Need.ne ?_ | refine Need.au ?_ | refine Pick.map (by assumption) ?_ | refine Pick.mapI (by omega) (by assumption) ?_ | refine PickN.mk _ (by assumption) ?_ | refine PickN.mk _ rfl ?_ | refine PickN.au ?_ | refine App.au rfl ?_ | refine App.au (own_map (fun _ => rfl) _) ?_ | refine Both.mk ?_ ?_ | exact True.intro
    all_goals refine goI 1000 Tryd.func61 ?_
    repeat' first | (rw [quoI, Int.toNat_natCast]) | refine PickN.map gw ?_ | refine Len.map ?_ | refine Len.nil ?_ | refine Len.cons ?_ | refine Br.t rfl ?_ | refine Br.f rfl ?_ | refine Fit.au ?_ | refine Cv.au ?_ | refine Need.ne ?_ | refine Need.au ?_ | refine Pick.map (by assumption) ?_ | refine Pick.mapI (by omega) (by assumption) ?_ | refine PickN.mk _ (by assumption) ?_ | refine PickN.mk _ rfl ?_ | refine PickN.au ?_ | refine App.au rfl ?_ | refine App.au (own_map (fun _ => rfl) _) ?_ | refine Both.mk ?_ ?_ | exact True.intro
    all_goals refine brBit ew (fun h3 => ?_) (fun h3 => ?_)
    repeat' first | (rw [quoI, Int.toNat_natCast]) | refine PickN.map gw ?_ | refine Len.map ?_ | refine Len.nil ?_ | refine Len.cons ?_ | refine Br.t rfl ?_ | refine Br.f rfl ?_ | refine Fit.au ?_ | refine Cv.au ?_ | refine Need.ne ?_ | refine Need.au ?_ | refine Pick.map (by assumption) ?_ | refine Pick.mapI (by omega) (by assumption) ?_ | refine PickN.mk _ (by assumption) ?_ | refine PickN.mk _ rfl ?_ | refine PickN.au ?_ | refine App.au rfl ?_ | refine App.au (own_map (fun _ => rfl) _) ?_ | refine Both.mk ?_ ?_ | exact True.intro
    all_goals first | (exact h0 (putW_same h3) _) | (rw [hrow] at h1; exact h1 _)
  · refine goI 8 Tryd.func61 ?_
    repeat' first | refine Len.map ?_ | refine Len.nil ?_ | refine Len.cons ?_ | refine Br.t rfl ?_ | refine Br.f rfl ?_ | refine Fit.au ?_ | refine Cv.au ?_ | refine Need.ne ?_ | refine Need.au ?_ | refine Pick.map (by assumption) ?_ | refine Pick.mapI (by omega) (by assumption) ?_ | refine PickN.mk _ (by assumption) ?_ | refine PickN.mk _ rfl ?_ | refine PickN.au ?_ | refine App.au rfl ?_ | refine App.au (own_map (fun _ => rfl) _) ?_ | refine Both.mk ?_ ?_ | exact True.intro
    refine Stop.mk ?_
    refine run_inlC rfl want_none rfl rfl rfl rfl rfl rfl rfl (goI 1000 Tryd.func30 ?_)
    repeat' first | refine Len.map ?_ | refine Len.nil ?_ | refine Len.cons ?_ | refine Br.t rfl ?_ | refine Br.f rfl ?_ | refine Fit.au ?_ | refine Cv.au ?_ | refine Need.ne ?_ | refine Need.au ?_ | refine Pick.map (by assumption) ?_ | refine Pick.mapI (by omega) (by assumption) ?_ | refine PickN.mk _ (by assumption) ?_ | refine PickN.mk _ rfl ?_ | refine PickN.au ?_ | refine App.au rfl ?_ | refine App.au (own_map (fun _ => rfl) _) ?_ | refine Both.mk ?_ ?_ | exact True.intro
    rw [quoI]
    refine Br.t (by simp; omega) ?_
    repeat' first | refine Len.map ?_ | refine Len.nil ?_ | refine Len.cons ?_ | refine Br.t rfl ?_ | refine Br.f rfl ?_ | refine Fit.au ?_ | refine Cv.au ?_ | refine Need.ne ?_ | refine Need.au ?_ | refine Pick.map (by assumption) ?_ | refine Pick.mapI (by omega) (by assumption) ?_ | refine PickN.mk _ (by assumption) ?_ | refine PickN.mk _ rfl ?_ | refine PickN.au ?_ | refine App.au rfl ?_ | refine App.au (own_map (fun _ => rfl) _) ?_ | refine Both.mk ?_ ?_ | exact True.intro
    refine goI 1000 Tryd.func61 ?_
    repeat' first | refine Len.map ?_ | refine Len.nil ?_ | refine Len.cons ?_ | refine Br.t rfl ?_ | refine Br.f rfl ?_ | refine Fit.au ?_ | refine Cv.au ?_ | refine Need.ne ?_ | refine Need.au ?_ | refine Pick.map (by assumption) ?_ | refine Pick.mapI (by omega) (by assumption) ?_ | refine PickN.mk _ (by assumption) ?_ | refine PickN.mk _ rfl ?_ | refine PickN.au ?_ | refine App.au rfl ?_ | refine App.au (own_map (fun _ => rfl) _) ?_ | refine Both.mk ?_ ?_ | exact True.intro
    exact h0 (putW_out (by omega)) _
theorem putM_run (s : List W) (i : Nat) (b : List W) (ce ci : List AV) (U A3 A4 : List (List AV)) (P c1 c0 : List AV) (hs : s.length ≤ 1000000) (hi : i ≤ 1000000000) {K : AV → HP → Nat → Prop} (h0 : putW s i = s → ∀ v, K (tru v) [(9, .var ce), (8, .row 2 U), (7, .var ci), (6, rowW s), (5, rowW b), (2, .var P), (3, .row 1 A3), (4, .row 1 A4), (1, .var c1), (0, .var c0)] 10) (h1 : ∀ v, K (tru v) [(6, rowW (putW s i)), (9, .var ce), (8, .row 2 U), (7, .var ci), (5, rowW b), (2, .var P), (3, .row 1 A3), (4, .row 1 A4), (1, .var c1), (0, .var c0)] 10) :
    Run Tryd.prog 61 (Post.inl 10 K) [.code (Tryd.f61.body.getD .skip)] ⟨slots 0 [.hw 6, num i], [(9, .var ce), (8, .row 2 U), (7, .var ci), (6, rowW s), (5, rowW b), (2, .var P), (3, .row 1 A3), (4, .row 1 A4), (1, .var c1), (0, .var c0)], 10, Tryd.f61.ntmps⟩ := by
  by_cases h : i / 64 < s.length
  · obtain ⟨w, gw, -⟩ := getK (l := s) (k := i / 64) h
    have ew : s.getD (i / 64) 0 = w := by rw [List.getD_eq_getElem?_getD, gw]; rfl
    have hrow := putW_row ew
    refine goI 8 Tryd.func61 ?_
    repeat' first | refine Len.map ?_ | refine Len.nil ?_ | refine Len.cons ?_ | refine Br.t rfl ?_ | refine Br.f rfl ?_ | refine Fit.au ?_ | refine Cv.au ?_ | refine Need.ne ?_ | refine Need.au ?_ | refine Pick.map (by assumption) ?_ | refine Pick.mapI (by omega) (by assumption) ?_ | refine PickN.mk _ (by assumption) ?_ | refine PickN.mk _ rfl ?_ | refine PickN.au ?_ | refine App.au rfl ?_ | refine App.au (own_map (fun _ => rfl) _) ?_ | refine Both.mk ?_ ?_ | exact True.intro
    refine Stop.mk ?_
    refine run_inlC rfl want_none rfl rfl rfl rfl rfl rfl rfl (goI 1000 Tryd.func30 ?_)
    repeat' first | refine Len.map ?_ | refine Len.nil ?_ | refine Len.cons ?_ | refine Br.t rfl ?_ | refine Br.f rfl ?_ | refine Fit.au ?_ | refine Cv.au ?_ | refine Need.ne ?_ | refine Need.au ?_ | refine Pick.map (by assumption) ?_ | refine Pick.mapI (by omega) (by assumption) ?_ | refine PickN.mk _ (by assumption) ?_ | refine PickN.mk _ rfl ?_ | refine PickN.au ?_ | refine App.au rfl ?_ | refine App.au (own_map (fun _ => rfl) _) ?_ | refine Both.mk ?_ ?_ | exact True.intro
    rw [quoI]
    refine Br.f (by simp; omega) ?_
    repeat' first | refine Draw.mk (ordL [] [0, 1, 2, 3, 4, 5, 6, 7, 8, 9]) (by decide +kernel) ?_ | refine Need.mk ⟨by rw [quoI]; omega, by rw [quoI, List.length_map]; omega⟩ ?_ | refine Need.mk (Int.tmod_nonneg _ (by omega)) ?_ | refine cvBit ?_ | refine Len.map ?_ | refine Len.nil ?_ | refine Len.cons ?_ | refine Br.t rfl ?_ | refine Br.f rfl ?_ | refine Fit.au ?_ | refine Cv.au ?_ | refine Need.ne ?_ | refine Need.au ?_ | refine Pick.map (by assumption) ?_ | refine Pick.mapI (by omega) (by assumption) ?_ | refine PickN.mk _ (by assumption) ?_ | refine PickN.mk _ rfl ?_ | refine PickN.au ?_ | refine App.au rfl ?_ | refine App.au (own_map (fun _ => rfl) _) ?_ | refine Both.mk ?_ ?_ | exact True.intro
    all_goals refine goI 1000 Tryd.func61 ?_
    repeat' first | (rw [quoI, Int.toNat_natCast]) | refine PickN.map gw ?_ | refine Len.map ?_ | refine Len.nil ?_ | refine Len.cons ?_ | refine Br.t rfl ?_ | refine Br.f rfl ?_ | refine Fit.au ?_ | refine Cv.au ?_ | refine Need.ne ?_ | refine Need.au ?_ | refine Pick.map (by assumption) ?_ | refine Pick.mapI (by omega) (by assumption) ?_ | refine PickN.mk _ (by assumption) ?_ | refine PickN.mk _ rfl ?_ | refine PickN.au ?_ | refine App.au rfl ?_ | refine App.au (own_map (fun _ => rfl) _) ?_ | refine Both.mk ?_ ?_ | exact True.intro
    all_goals refine brBit ew (fun h3 => ?_) (fun h3 => ?_)
    repeat' first | (rw [quoI, Int.toNat_natCast]) | refine PickN.map gw ?_ | refine Len.map ?_ | refine Len.nil ?_ | refine Len.cons ?_ | refine Br.t rfl ?_ | refine Br.f rfl ?_ | refine Fit.au ?_ | refine Cv.au ?_ | refine Need.ne ?_ | refine Need.au ?_ | refine Pick.map (by assumption) ?_ | refine Pick.mapI (by omega) (by assumption) ?_ | refine PickN.mk _ (by assumption) ?_ | refine PickN.mk _ rfl ?_ | refine PickN.au ?_ | refine App.au rfl ?_ | refine App.au (own_map (fun _ => rfl) _) ?_ | refine Both.mk ?_ ?_ | exact True.intro
    all_goals first | (exact h0 (putW_same h3) _) | (rw [hrow] at h1; exact h1 _)
  · refine goI 8 Tryd.func61 ?_
    repeat' first | refine Len.map ?_ | refine Len.nil ?_ | refine Len.cons ?_ | refine Br.t rfl ?_ | refine Br.f rfl ?_ | refine Fit.au ?_ | refine Cv.au ?_ | refine Need.ne ?_ | refine Need.au ?_ | refine Pick.map (by assumption) ?_ | refine Pick.mapI (by omega) (by assumption) ?_ | refine PickN.mk _ (by assumption) ?_ | refine PickN.mk _ rfl ?_ | refine PickN.au ?_ | refine App.au rfl ?_ | refine App.au (own_map (fun _ => rfl) _) ?_ | refine Both.mk ?_ ?_ | exact True.intro
    refine Stop.mk ?_
    refine run_inlC rfl want_none rfl rfl rfl rfl rfl rfl rfl (goI 1000 Tryd.func30 ?_)
    repeat' first | refine Len.map ?_ | refine Len.nil ?_ | refine Len.cons ?_ | refine Br.t rfl ?_ | refine Br.f rfl ?_ | refine Fit.au ?_ | refine Cv.au ?_ | refine Need.ne ?_ | refine Need.au ?_ | refine Pick.map (by assumption) ?_ | refine Pick.mapI (by omega) (by assumption) ?_ | refine PickN.mk _ (by assumption) ?_ | refine PickN.mk _ rfl ?_ | refine PickN.au ?_ | refine App.au rfl ?_ | refine App.au (own_map (fun _ => rfl) _) ?_ | refine Both.mk ?_ ?_ | exact True.intro
    rw [quoI]
    refine Br.t (by simp; omega) ?_
    repeat' first | refine Len.map ?_ | refine Len.nil ?_ | refine Len.cons ?_ | refine Br.t rfl ?_ | refine Br.f rfl ?_ | refine Fit.au ?_ | refine Cv.au ?_ | refine Need.ne ?_ | refine Need.au ?_ | refine Pick.map (by assumption) ?_ | refine Pick.mapI (by omega) (by assumption) ?_ | refine PickN.mk _ (by assumption) ?_ | refine PickN.mk _ rfl ?_ | refine PickN.au ?_ | refine App.au rfl ?_ | refine App.au (own_map (fun _ => rfl) _) ?_ | refine Both.mk ?_ ?_ | exact True.intro
    refine goI 1000 Tryd.func61 ?_
    repeat' first | refine Len.map ?_ | refine Len.nil ?_ | refine Len.cons ?_ | refine Br.t rfl ?_ | refine Br.f rfl ?_ | refine Fit.au ?_ | refine Cv.au ?_ | refine Need.ne ?_ | refine Need.au ?_ | refine Pick.map (by assumption) ?_ | refine Pick.mapI (by omega) (by assumption) ?_ | refine PickN.mk _ (by assumption) ?_ | refine PickN.mk _ rfl ?_ | refine PickN.au ?_ | refine App.au rfl ?_ | refine App.au (own_map (fun _ => rfl) _) ?_ | refine Both.mk ?_ ?_ | exact True.intro
    exact h0 (putW_out (by omega)) _
theorem putL_run (s : List W) (i : Nat) (b : List W) (ce ci : List AV) (U A3 A4 : List (List AV)) (P c1 c0 : List AV) (hs : s.length ≤ 1000000) (hi : i ≤ 1000000000) {K : AV → HP → Nat → Prop} (h0 : putW s i = s → ∀ v, K (tru v) [(5, rowW b), (9, .var ce), (8, .row 2 U), (7, .var ci), (6, rowW s), (2, .var P), (3, .row 1 A3), (4, .row 1 A4), (1, .var c1), (0, .var c0)] 10) (h1 : ∀ v, K (tru v) [(6, rowW (putW s i)), (5, rowW b), (9, .var ce), (8, .row 2 U), (7, .var ci), (2, .var P), (3, .row 1 A3), (4, .row 1 A4), (1, .var c1), (0, .var c0)] 10) :
    Run Tryd.prog 61 (Post.inl 10 K) [.code (Tryd.f61.body.getD .skip)] ⟨slots 0 [.hw 6, num i], [(5, rowW b), (9, .var ce), (8, .row 2 U), (7, .var ci), (6, rowW s), (2, .var P), (3, .row 1 A3), (4, .row 1 A4), (1, .var c1), (0, .var c0)], 10, Tryd.f61.ntmps⟩ := by
  by_cases h : i / 64 < s.length
  · obtain ⟨w, gw, -⟩ := getK (l := s) (k := i / 64) h
    have ew : s.getD (i / 64) 0 = w := by rw [List.getD_eq_getElem?_getD, gw]; rfl
    have hrow := putW_row ew
    refine goI 8 Tryd.func61 ?_
    repeat' first | refine Len.map ?_ | refine Len.nil ?_ | refine Len.cons ?_ | refine Br.t rfl ?_ | refine Br.f rfl ?_ | refine Fit.au ?_ | refine Cv.au ?_ | refine Need.ne ?_ | refine Need.au ?_ | refine Pick.map (by assumption) ?_ | refine Pick.mapI (by omega) (by assumption) ?_ | refine PickN.mk _ (by assumption) ?_ | refine PickN.mk _ rfl ?_ | refine PickN.au ?_ | refine App.au rfl ?_ | refine App.au (own_map (fun _ => rfl) _) ?_ | refine Both.mk ?_ ?_ | exact True.intro
    refine Stop.mk ?_
    refine run_inlC rfl want_none rfl rfl rfl rfl rfl rfl rfl (goI 1000 Tryd.func30 ?_)
    repeat' first | refine Len.map ?_ | refine Len.nil ?_ | refine Len.cons ?_ | refine Br.t rfl ?_ | refine Br.f rfl ?_ | refine Fit.au ?_ | refine Cv.au ?_ | refine Need.ne ?_ | refine Need.au ?_ | refine Pick.map (by assumption) ?_ | refine Pick.mapI (by omega) (by assumption) ?_ | refine PickN.mk _ (by assumption) ?_ | refine PickN.mk _ rfl ?_ | refine PickN.au ?_ | refine App.au rfl ?_ | refine App.au (own_map (fun _ => rfl) _) ?_ | refine Both.mk ?_ ?_ | exact True.intro
    rw [quoI]
    refine Br.f (by simp; omega) ?_
    repeat' first | refine Draw.mk (ordL [] [0, 1, 2, 3, 4, 5, 6, 7, 8, 9]) (by decide +kernel) ?_ | refine Need.mk ⟨by rw [quoI]; omega, by rw [quoI, List.length_map]; omega⟩ ?_ | refine Need.mk (Int.tmod_nonneg _ (by omega)) ?_ | refine cvBit ?_ | refine Len.map ?_ | refine Len.nil ?_ | refine Len.cons ?_ | refine Br.t rfl ?_ | refine Br.f rfl ?_ | refine Fit.au ?_ | refine Cv.au ?_ | refine Need.ne ?_ | refine Need.au ?_ | refine Pick.map (by assumption) ?_ | refine Pick.mapI (by omega) (by assumption) ?_ | refine PickN.mk _ (by assumption) ?_ | refine PickN.mk _ rfl ?_ | refine PickN.au ?_ | refine App.au rfl ?_ | refine App.au (own_map (fun _ => rfl) _) ?_ | refine Both.mk ?_ ?_ | exact True.intro
    all_goals refine goI 1000 Tryd.func61 ?_
    repeat' first | (rw [quoI, Int.toNat_natCast]) | refine PickN.map gw ?_ | refine Len.map ?_ | refine Len.nil ?_ | refine Len.cons ?_ | refine Br.t rfl ?_ | refine Br.f rfl ?_ | refine Fit.au ?_ | refine Cv.au ?_ | refine Need.ne ?_ | refine Need.au ?_ | refine Pick.map (by assumption) ?_ | refine Pick.mapI (by omega) (by assumption) ?_ | refine PickN.mk _ (by assumption) ?_ | refine PickN.mk _ rfl ?_ | refine PickN.au ?_ | refine App.au rfl ?_ | refine App.au (own_map (fun _ => rfl) _) ?_ | refine Both.mk ?_ ?_ | exact True.intro
    all_goals refine brBit ew (fun h3 => ?_) (fun h3 => ?_)
    repeat' first | (rw [quoI, Int.toNat_natCast]) | refine PickN.map gw ?_ | refine Len.map ?_ | refine Len.nil ?_ | refine Len.cons ?_ | refine Br.t rfl ?_ | refine Br.f rfl ?_ | refine Fit.au ?_ | refine Cv.au ?_ | refine Need.ne ?_ | refine Need.au ?_ | refine Pick.map (by assumption) ?_ | refine Pick.mapI (by omega) (by assumption) ?_ | refine PickN.mk _ (by assumption) ?_ | refine PickN.mk _ rfl ?_ | refine PickN.au ?_ | refine App.au rfl ?_ | refine App.au (own_map (fun _ => rfl) _) ?_ | refine Both.mk ?_ ?_ | exact True.intro
    all_goals first | (exact h0 (putW_same h3) _) | (rw [hrow] at h1; exact h1 _)
  · refine goI 8 Tryd.func61 ?_
    repeat' first | refine Len.map ?_ | refine Len.nil ?_ | refine Len.cons ?_ | refine Br.t rfl ?_ | refine Br.f rfl ?_ | refine Fit.au ?_ | refine Cv.au ?_ | refine Need.ne ?_ | refine Need.au ?_ | refine Pick.map (by assumption) ?_ | refine Pick.mapI (by omega) (by assumption) ?_ | refine PickN.mk _ (by assumption) ?_ | refine PickN.mk _ rfl ?_ | refine PickN.au ?_ | refine App.au rfl ?_ | refine App.au (own_map (fun _ => rfl) _) ?_ | refine Both.mk ?_ ?_ | exact True.intro
    refine Stop.mk ?_
    refine run_inlC rfl want_none rfl rfl rfl rfl rfl rfl rfl (goI 1000 Tryd.func30 ?_)
    repeat' first | refine Len.map ?_ | refine Len.nil ?_ | refine Len.cons ?_ | refine Br.t rfl ?_ | refine Br.f rfl ?_ | refine Fit.au ?_ | refine Cv.au ?_ | refine Need.ne ?_ | refine Need.au ?_ | refine Pick.map (by assumption) ?_ | refine Pick.mapI (by omega) (by assumption) ?_ | refine PickN.mk _ (by assumption) ?_ | refine PickN.mk _ rfl ?_ | refine PickN.au ?_ | refine App.au rfl ?_ | refine App.au (own_map (fun _ => rfl) _) ?_ | refine Both.mk ?_ ?_ | exact True.intro
    rw [quoI]
    refine Br.t (by simp; omega) ?_
    repeat' first | refine Len.map ?_ | refine Len.nil ?_ | refine Len.cons ?_ | refine Br.t rfl ?_ | refine Br.f rfl ?_ | refine Fit.au ?_ | refine Cv.au ?_ | refine Need.ne ?_ | refine Need.au ?_ | refine Pick.map (by assumption) ?_ | refine Pick.mapI (by omega) (by assumption) ?_ | refine PickN.mk _ (by assumption) ?_ | refine PickN.mk _ rfl ?_ | refine PickN.au ?_ | refine App.au rfl ?_ | refine App.au (own_map (fun _ => rfl) _) ?_ | refine Both.mk ?_ ?_ | exact True.intro
    refine goI 1000 Tryd.func61 ?_
    repeat' first | refine Len.map ?_ | refine Len.nil ?_ | refine Len.cons ?_ | refine Br.t rfl ?_ | refine Br.f rfl ?_ | refine Fit.au ?_ | refine Cv.au ?_ | refine Need.ne ?_ | refine Need.au ?_ | refine Pick.map (by assumption) ?_ | refine Pick.mapI (by omega) (by assumption) ?_ | refine PickN.mk _ (by assumption) ?_ | refine PickN.mk _ rfl ?_ | refine PickN.au ?_ | refine App.au rfl ?_ | refine App.au (own_map (fun _ => rfl) _) ?_ | refine Both.mk ?_ ?_ | exact True.intro
    exact h0 (putW_out (by omega)) _
theorem putS_run (s : List W) (i : Nat) (ce ci : List AV) (U : List (List AV)) (hs : s.length ≤ 1000000) (hi : i ≤ 1000000000) {K : AV → HP → Nat → Prop} (h0 : putW s i = s → ∀ v, K (tru v) [(5, .var ce), (4, .row 2 U), (3, .var ci), (2, rowW s)] 6) (h1 : ∀ v, K (tru v) [(2, rowW (putW s i)), (5, .var ce), (4, .row 2 U), (3, .var ci)] 6) :
    Run Tryd.prog 61 (Post.inl 6 K) [.code (Tryd.f61.body.getD .skip)] ⟨slots 0 [.hw 2, num i], [(5, .var ce), (4, .row 2 U), (3, .var ci), (2, rowW s)], 6, Tryd.f61.ntmps⟩ := by
  by_cases h : i / 64 < s.length
  · obtain ⟨w, gw, -⟩ := getK (l := s) (k := i / 64) h
    have ew : s.getD (i / 64) 0 = w := by rw [List.getD_eq_getElem?_getD, gw]; rfl
    have hrow := putW_row ew
    refine goI 8 Tryd.func61 ?_
    repeat' first | refine Len.map ?_ | refine Len.nil ?_ | refine Len.cons ?_ | refine Br.t rfl ?_ | refine Br.f rfl ?_ | refine Fit.au ?_ | refine Cv.au ?_ | refine Need.ne ?_ | refine Need.au ?_ | refine Pick.map (by assumption) ?_ | refine Pick.mapI (by omega) (by assumption) ?_ | refine PickN.mk _ (by assumption) ?_ | refine PickN.mk _ rfl ?_ | refine PickN.au ?_ | refine App.au rfl ?_ | refine App.au (own_map (fun _ => rfl) _) ?_ | refine Both.mk ?_ ?_ | exact True.intro
    refine Stop.mk ?_
    refine run_inlC rfl want_none rfl rfl rfl rfl rfl rfl rfl (goI 1000 Tryd.func30 ?_)
    repeat' first | refine Len.map ?_ | refine Len.nil ?_ | refine Len.cons ?_ | refine Br.t rfl ?_ | refine Br.f rfl ?_ | refine Fit.au ?_ | refine Cv.au ?_ | refine Need.ne ?_ | refine Need.au ?_ | refine Pick.map (by assumption) ?_ | refine Pick.mapI (by omega) (by assumption) ?_ | refine PickN.mk _ (by assumption) ?_ | refine PickN.mk _ rfl ?_ | refine PickN.au ?_ | refine App.au rfl ?_ | refine App.au (own_map (fun _ => rfl) _) ?_ | refine Both.mk ?_ ?_ | exact True.intro
    rw [quoI]
    refine Br.f (by simp; omega) ?_
    repeat' first | refine Draw.mk (ordL [] [0, 1, 2, 3, 4, 5, 6, 7, 8, 9]) (by decide +kernel) ?_ | refine Need.mk ⟨by rw [quoI]; omega, by rw [quoI, List.length_map]; omega⟩ ?_ | refine Need.mk (Int.tmod_nonneg _ (by omega)) ?_ | refine cvBit ?_ | refine Len.map ?_ | refine Len.nil ?_ | refine Len.cons ?_ | refine Br.t rfl ?_ | refine Br.f rfl ?_ | refine Fit.au ?_ | refine Cv.au ?_ | refine Need.ne ?_ | refine Need.au ?_ | refine Pick.map (by assumption) ?_ | refine Pick.mapI (by omega) (by assumption) ?_ | refine PickN.mk _ (by assumption) ?_ | refine PickN.mk _ rfl ?_ | refine PickN.au ?_ | refine App.au rfl ?_ | refine App.au (own_map (fun _ => rfl) _) ?_ | refine Both.mk ?_ ?_ | exact True.intro
    all_goals refine goI 1000 Tryd.func61 ?_
    repeat' first | (rw [quoI, Int.toNat_natCast]) | refine PickN.map gw ?_ | refine Len.map ?_ | refine Len.nil ?_ | refine Len.cons ?_ | refine Br.t rfl ?_ | refine Br.f rfl ?_ | refine Fit.au ?_ | refine Cv.au ?_ | refine Need.ne ?_ | refine Need.au ?_ | refine Pick.map (by assumption) ?_ | refine Pick.mapI (by omega) (by assumption) ?_ | refine PickN.mk _ (by assumption) ?_ | refine PickN.mk _ rfl ?_ | refine PickN.au ?_ | refine App.au rfl ?_ | refine App.au (own_map (fun _ => rfl) _) ?_ | refine Both.mk ?_ ?_ | exact True.intro
    all_goals refine brBit ew (fun h3 => ?_) (fun h3 => ?_)
    repeat' first | (rw [quoI, Int.toNat_natCast]) | refine PickN.map gw ?_ | refine Len.map ?_ | refine Len.nil ?_ | refine Len.cons ?_ | refine Br.t rfl ?_ | refine Br.f rfl ?_ | refine Fit.au ?_ | refine Cv.au ?_ | refine Need.ne ?_ | refine Need.au ?_ | refine Pick.map (by assumption) ?_ | refine Pick.mapI (by omega) (by assumption) ?_ | refine PickN.mk _ (by assumption) ?_ | refine PickN.mk _ rfl ?_ | refine PickN.au ?_ | refine App.au rfl ?_ | refine App.au (own_map (fun _ => rfl) _) ?_ | refine Both.mk ?_ ?_ | exact True.intro
    all_goals first | (exact h0 (putW_same h3) _) | (rw [hrow] at h1; exact h1 _)
  · refine goI 8 Tryd.func61 ?_
    repeat' first | refine Len.map ?_ | refine Len.nil ?_ | refine Len.cons ?_ | refine Br.t rfl ?_ | refine Br.f rfl ?_ | refine Fit.au ?_ | refine Cv.au ?_ | refine Need.ne ?_ | refine Need.au ?_ | refine Pick.map (by assumption) ?_ | refine Pick.mapI (by omega) (by assumption) ?_ | refine PickN.mk _ (by assumption) ?_ | refine PickN.mk _ rfl ?_ | refine PickN.au ?_ | refine App.au rfl ?_ | refine App.au (own_map (fun _ => rfl) _) ?_ | refine Both.mk ?_ ?_ | exact True.intro
    refine Stop.mk ?_
    refine run_inlC rfl want_none rfl rfl rfl rfl rfl rfl rfl (goI 1000 Tryd.func30 ?_)
    repeat' first | refine Len.map ?_ | refine Len.nil ?_ | refine Len.cons ?_ | refine Br.t rfl ?_ | refine Br.f rfl ?_ | refine Fit.au ?_ | refine Cv.au ?_ | refine Need.ne ?_ | refine Need.au ?_ | refine Pick.map (by assumption) ?_ | refine Pick.mapI (by omega) (by assumption) ?_ | refine PickN.mk _ (by assumption) ?_ | refine PickN.mk _ rfl ?_ | refine PickN.au ?_ | refine App.au rfl ?_ | refine App.au (own_map (fun _ => rfl) _) ?_ | refine Both.mk ?_ ?_ | exact True.intro
    rw [quoI]
    refine Br.t (by simp; omega) ?_
    repeat' first | refine Len.map ?_ | refine Len.nil ?_ | refine Len.cons ?_ | refine Br.t rfl ?_ | refine Br.f rfl ?_ | refine Fit.au ?_ | refine Cv.au ?_ | refine Need.ne ?_ | refine Need.au ?_ | refine Pick.map (by assumption) ?_ | refine Pick.mapI (by omega) (by assumption) ?_ | refine PickN.mk _ (by assumption) ?_ | refine PickN.mk _ rfl ?_ | refine PickN.au ?_ | refine App.au rfl ?_ | refine App.au (own_map (fun _ => rfl) _) ?_ | refine Both.mk ?_ ?_ | exact True.intro
    refine goI 1000 Tryd.func61 ?_
    repeat' first | refine Len.map ?_ | refine Len.nil ?_ | refine Len.cons ?_ | refine Br.t rfl ?_ | refine Br.f rfl ?_ | refine Fit.au ?_ | refine Cv.au ?_ | refine Need.ne ?_ | refine Need.au ?_ | refine Pick.map (by assumption) ?_ | refine Pick.mapI (by omega) (by assumption) ?_ | refine PickN.mk _ (by assumption) ?_ | refine PickN.mk _ rfl ?_ | refine PickN.au ?_ | refine App.au rfl ?_ | refine App.au (own_map (fun _ => rfl) _) ?_ | refine Both.mk ?_ ?_ | exact True.intro
    exact h0 (putW_out (by omega)) _
theorem dropN_run (s : List W) (i : Nat) (b : List W) (ce ci : List AV) (U A3 A4 : List (List AV)) (P c1 c0 : List AV) (hs : s.length ≤ 1000000) (hi : i ≤ 1000000000) {K : AV → HP → Nat → Prop} (h0 : dropW s i = s → ∀ v, K (tru v) [(9, .var ce), (8, .row 2 U), (7, .var ci), (6, rowW b), (5, rowW s), (2, .var P), (3, .row 1 A3), (4, .row 1 A4), (1, .var c1), (0, .var c0)] 10) (h1 : ∀ v, K (tru v) [(5, rowW (dropW s i)), (9, .var ce), (8, .row 2 U), (7, .var ci), (6, rowW b), (2, .var P), (3, .row 1 A3), (4, .row 1 A4), (1, .var c1), (0, .var c0)] 10) :
    Run Tryd.prog 65 (Post.inl 10 K) [.code (Tryd.f65.body.getD .skip)] ⟨slots 0 [.hw 5, num i], [(9, .var ce), (8, .row 2 U), (7, .var ci), (6, rowW b), (5, rowW s), (2, .var P), (3, .row 1 A3), (4, .row 1 A4), (1, .var c1), (0, .var c0)], 10, Tryd.f65.ntmps⟩ := by
  by_cases h : i / 64 < s.length
  · obtain ⟨w, gw, -⟩ := getK (l := s) (k := i / 64) h
    have ew : s.getD (i / 64) 0 = w := by rw [List.getD_eq_getElem?_getD, gw]; rfl
    have hrow := dropW_row ew
    refine goI 8 Tryd.func65 ?_
    repeat' first | refine Len.map ?_ | refine Len.nil ?_ | refine Len.cons ?_ | refine Br.t rfl ?_ | refine Br.f rfl ?_ | refine Fit.au ?_ | refine Cv.au ?_ | refine Need.ne ?_ | refine Need.au ?_ | refine Pick.map (by assumption) ?_ | refine Pick.mapI (by omega) (by assumption) ?_ | refine PickN.mk _ (by assumption) ?_ | refine PickN.mk _ rfl ?_ | refine PickN.au ?_ | refine App.au rfl ?_ | refine App.au (own_map (fun _ => rfl) _) ?_ | refine Both.mk ?_ ?_ | exact True.intro
    refine Stop.mk ?_
    refine run_inlC rfl want_none rfl rfl rfl rfl rfl rfl rfl (goI 1000 Tryd.func30 ?_)
    repeat' first | refine Len.map ?_ | refine Len.nil ?_ | refine Len.cons ?_ | refine Br.t rfl ?_ | refine Br.f rfl ?_ | refine Fit.au ?_ | refine Cv.au ?_ | refine Need.ne ?_ | refine Need.au ?_ | refine Pick.map (by assumption) ?_ | refine Pick.mapI (by omega) (by assumption) ?_ | refine PickN.mk _ (by assumption) ?_ | refine PickN.mk _ rfl ?_ | refine PickN.au ?_ | refine App.au rfl ?_ | refine App.au (own_map (fun _ => rfl) _) ?_ | refine Both.mk ?_ ?_ | exact True.intro
    rw [quoI]
    refine Br.f (by simp; omega) ?_
    repeat' first | refine Draw.mk (ordL [] [0, 1, 2, 3, 4, 5, 6, 7, 8, 9]) (by decide +kernel) ?_ | refine Need.mk ⟨by rw [quoI]; omega, by rw [quoI, List.length_map]; omega⟩ ?_ | refine Need.mk (Int.tmod_nonneg _ (by omega)) ?_ | refine cvBit ?_ | refine Len.map ?_ | refine Len.nil ?_ | refine Len.cons ?_ | refine Br.t rfl ?_ | refine Br.f rfl ?_ | refine Fit.au ?_ | refine Cv.au ?_ | refine Need.ne ?_ | refine Need.au ?_ | refine Pick.map (by assumption) ?_ | refine Pick.mapI (by omega) (by assumption) ?_ | refine PickN.mk _ (by assumption) ?_ | refine PickN.mk _ rfl ?_ | refine PickN.au ?_ | refine App.au rfl ?_ | refine App.au (own_map (fun _ => rfl) _) ?_ | refine Both.mk ?_ ?_ | exact True.intro
    all_goals refine goI 1000 Tryd.func65 ?_
    repeat' first | (rw [quoI, Int.toNat_natCast]) | refine PickN.map gw ?_ | refine Len.map ?_ | refine Len.nil ?_ | refine Len.cons ?_ | refine Br.t rfl ?_ | refine Br.f rfl ?_ | refine Fit.au ?_ | refine Cv.au ?_ | refine Need.ne ?_ | refine Need.au ?_ | refine Pick.map (by assumption) ?_ | refine Pick.mapI (by omega) (by assumption) ?_ | refine PickN.mk _ (by assumption) ?_ | refine PickN.mk _ rfl ?_ | refine PickN.au ?_ | refine App.au rfl ?_ | refine App.au (own_map (fun _ => rfl) _) ?_ | refine Both.mk ?_ ?_ | exact True.intro
    all_goals refine brBitN ew (fun h3 => ?_) (fun h3 => ?_)
    repeat' first | (rw [quoI, Int.toNat_natCast]) | refine PickN.map gw ?_ | refine Len.map ?_ | refine Len.nil ?_ | refine Len.cons ?_ | refine Br.t rfl ?_ | refine Br.f rfl ?_ | refine Fit.au ?_ | refine Cv.au ?_ | refine Need.ne ?_ | refine Need.au ?_ | refine Pick.map (by assumption) ?_ | refine Pick.mapI (by omega) (by assumption) ?_ | refine PickN.mk _ (by assumption) ?_ | refine PickN.mk _ rfl ?_ | refine PickN.au ?_ | refine App.au rfl ?_ | refine App.au (own_map (fun _ => rfl) _) ?_ | refine Both.mk ?_ ?_ | exact True.intro
    all_goals first | (exact h0 (dropW_same h3) _) | (rw [hrow] at h1; exact h1 _)
  · refine goI 8 Tryd.func65 ?_
    repeat' first | refine Len.map ?_ | refine Len.nil ?_ | refine Len.cons ?_ | refine Br.t rfl ?_ | refine Br.f rfl ?_ | refine Fit.au ?_ | refine Cv.au ?_ | refine Need.ne ?_ | refine Need.au ?_ | refine Pick.map (by assumption) ?_ | refine Pick.mapI (by omega) (by assumption) ?_ | refine PickN.mk _ (by assumption) ?_ | refine PickN.mk _ rfl ?_ | refine PickN.au ?_ | refine App.au rfl ?_ | refine App.au (own_map (fun _ => rfl) _) ?_ | refine Both.mk ?_ ?_ | exact True.intro
    refine Stop.mk ?_
    refine run_inlC rfl want_none rfl rfl rfl rfl rfl rfl rfl (goI 1000 Tryd.func30 ?_)
    repeat' first | refine Len.map ?_ | refine Len.nil ?_ | refine Len.cons ?_ | refine Br.t rfl ?_ | refine Br.f rfl ?_ | refine Fit.au ?_ | refine Cv.au ?_ | refine Need.ne ?_ | refine Need.au ?_ | refine Pick.map (by assumption) ?_ | refine Pick.mapI (by omega) (by assumption) ?_ | refine PickN.mk _ (by assumption) ?_ | refine PickN.mk _ rfl ?_ | refine PickN.au ?_ | refine App.au rfl ?_ | refine App.au (own_map (fun _ => rfl) _) ?_ | refine Both.mk ?_ ?_ | exact True.intro
    rw [quoI]
    refine Br.t (by simp; omega) ?_
    repeat' first | refine Len.map ?_ | refine Len.nil ?_ | refine Len.cons ?_ | refine Br.t rfl ?_ | refine Br.f rfl ?_ | refine Fit.au ?_ | refine Cv.au ?_ | refine Need.ne ?_ | refine Need.au ?_ | refine Pick.map (by assumption) ?_ | refine Pick.mapI (by omega) (by assumption) ?_ | refine PickN.mk _ (by assumption) ?_ | refine PickN.mk _ rfl ?_ | refine PickN.au ?_ | refine App.au rfl ?_ | refine App.au (own_map (fun _ => rfl) _) ?_ | refine Both.mk ?_ ?_ | exact True.intro
    refine goI 1000 Tryd.func65 ?_
    repeat' first | refine Len.map ?_ | refine Len.nil ?_ | refine Len.cons ?_ | refine Br.t rfl ?_ | refine Br.f rfl ?_ | refine Fit.au ?_ | refine Cv.au ?_ | refine Need.ne ?_ | refine Need.au ?_ | refine Pick.map (by assumption) ?_ | refine Pick.mapI (by omega) (by assumption) ?_ | refine PickN.mk _ (by assumption) ?_ | refine PickN.mk _ rfl ?_ | refine PickN.au ?_ | refine App.au rfl ?_ | refine App.au (own_map (fun _ => rfl) _) ?_ | refine Both.mk ?_ ?_ | exact True.intro
    exact h0 (dropW_out (by omega)) _
theorem dropM_run (s : List W) (i : Nat) (b : List W) (ce ci : List AV) (U A3 A4 : List (List AV)) (P c1 c0 : List AV) (hs : s.length ≤ 1000000) (hi : i ≤ 1000000000) {K : AV → HP → Nat → Prop} (h0 : dropW s i = s → ∀ v, K (tru v) [(9, .var ce), (8, .row 2 U), (7, .var ci), (6, rowW s), (5, rowW b), (2, .var P), (3, .row 1 A3), (4, .row 1 A4), (1, .var c1), (0, .var c0)] 10) (h1 : ∀ v, K (tru v) [(6, rowW (dropW s i)), (9, .var ce), (8, .row 2 U), (7, .var ci), (5, rowW b), (2, .var P), (3, .row 1 A3), (4, .row 1 A4), (1, .var c1), (0, .var c0)] 10) :
    Run Tryd.prog 65 (Post.inl 10 K) [.code (Tryd.f65.body.getD .skip)] ⟨slots 0 [.hw 6, num i], [(9, .var ce), (8, .row 2 U), (7, .var ci), (6, rowW s), (5, rowW b), (2, .var P), (3, .row 1 A3), (4, .row 1 A4), (1, .var c1), (0, .var c0)], 10, Tryd.f65.ntmps⟩ := by
  by_cases h : i / 64 < s.length
  · obtain ⟨w, gw, -⟩ := getK (l := s) (k := i / 64) h
    have ew : s.getD (i / 64) 0 = w := by rw [List.getD_eq_getElem?_getD, gw]; rfl
    have hrow := dropW_row ew
    refine goI 8 Tryd.func65 ?_
    repeat' first | refine Len.map ?_ | refine Len.nil ?_ | refine Len.cons ?_ | refine Br.t rfl ?_ | refine Br.f rfl ?_ | refine Fit.au ?_ | refine Cv.au ?_ | refine Need.ne ?_ | refine Need.au ?_ | refine Pick.map (by assumption) ?_ | refine Pick.mapI (by omega) (by assumption) ?_ | refine PickN.mk _ (by assumption) ?_ | refine PickN.mk _ rfl ?_ | refine PickN.au ?_ | refine App.au rfl ?_ | refine App.au (own_map (fun _ => rfl) _) ?_ | refine Both.mk ?_ ?_ | exact True.intro
    refine Stop.mk ?_
    refine run_inlC rfl want_none rfl rfl rfl rfl rfl rfl rfl (goI 1000 Tryd.func30 ?_)
    repeat' first | refine Len.map ?_ | refine Len.nil ?_ | refine Len.cons ?_ | refine Br.t rfl ?_ | refine Br.f rfl ?_ | refine Fit.au ?_ | refine Cv.au ?_ | refine Need.ne ?_ | refine Need.au ?_ | refine Pick.map (by assumption) ?_ | refine Pick.mapI (by omega) (by assumption) ?_ | refine PickN.mk _ (by assumption) ?_ | refine PickN.mk _ rfl ?_ | refine PickN.au ?_ | refine App.au rfl ?_ | refine App.au (own_map (fun _ => rfl) _) ?_ | refine Both.mk ?_ ?_ | exact True.intro
    rw [quoI]
    refine Br.f (by simp; omega) ?_
    repeat' first | refine Draw.mk (ordL [] [0, 1, 2, 3, 4, 5, 6, 7, 8, 9]) (by decide +kernel) ?_ | refine Need.mk ⟨by rw [quoI]; omega, by rw [quoI, List.length_map]; omega⟩ ?_ | refine Need.mk (Int.tmod_nonneg _ (by omega)) ?_ | refine cvBit ?_ | refine Len.map ?_ | refine Len.nil ?_ | refine Len.cons ?_ | refine Br.t rfl ?_ | refine Br.f rfl ?_ | refine Fit.au ?_ | refine Cv.au ?_ | refine Need.ne ?_ | refine Need.au ?_ | refine Pick.map (by assumption) ?_ | refine Pick.mapI (by omega) (by assumption) ?_ | refine PickN.mk _ (by assumption) ?_ | refine PickN.mk _ rfl ?_ | refine PickN.au ?_ | refine App.au rfl ?_ | refine App.au (own_map (fun _ => rfl) _) ?_ | refine Both.mk ?_ ?_ | exact True.intro
    all_goals refine goI 1000 Tryd.func65 ?_
    repeat' first | (rw [quoI, Int.toNat_natCast]) | refine PickN.map gw ?_ | refine Len.map ?_ | refine Len.nil ?_ | refine Len.cons ?_ | refine Br.t rfl ?_ | refine Br.f rfl ?_ | refine Fit.au ?_ | refine Cv.au ?_ | refine Need.ne ?_ | refine Need.au ?_ | refine Pick.map (by assumption) ?_ | refine Pick.mapI (by omega) (by assumption) ?_ | refine PickN.mk _ (by assumption) ?_ | refine PickN.mk _ rfl ?_ | refine PickN.au ?_ | refine App.au rfl ?_ | refine App.au (own_map (fun _ => rfl) _) ?_ | refine Both.mk ?_ ?_ | exact True.intro
    all_goals refine brBitN ew (fun h3 => ?_) (fun h3 => ?_)
    repeat' first | (rw [quoI, Int.toNat_natCast]) | refine PickN.map gw ?_ | refine Len.map ?_ | refine Len.nil ?_ | refine Len.cons ?_ | refine Br.t rfl ?_ | refine Br.f rfl ?_ | refine Fit.au ?_ | refine Cv.au ?_ | refine Need.ne ?_ | refine Need.au ?_ | refine Pick.map (by assumption) ?_ | refine Pick.mapI (by omega) (by assumption) ?_ | refine PickN.mk _ (by assumption) ?_ | refine PickN.mk _ rfl ?_ | refine PickN.au ?_ | refine App.au rfl ?_ | refine App.au (own_map (fun _ => rfl) _) ?_ | refine Both.mk ?_ ?_ | exact True.intro
    all_goals first | (exact h0 (dropW_same h3) _) | (rw [hrow] at h1; exact h1 _)
  · refine goI 8 Tryd.func65 ?_
    repeat' first | refine Len.map ?_ | refine Len.nil ?_ | refine Len.cons ?_ | refine Br.t rfl ?_ | refine Br.f rfl ?_ | refine Fit.au ?_ | refine Cv.au ?_ | refine Need.ne ?_ | refine Need.au ?_ | refine Pick.map (by assumption) ?_ | refine Pick.mapI (by omega) (by assumption) ?_ | refine PickN.mk _ (by assumption) ?_ | refine PickN.mk _ rfl ?_ | refine PickN.au ?_ | refine App.au rfl ?_ | refine App.au (own_map (fun _ => rfl) _) ?_ | refine Both.mk ?_ ?_ | exact True.intro
    refine Stop.mk ?_
    refine run_inlC rfl want_none rfl rfl rfl rfl rfl rfl rfl (goI 1000 Tryd.func30 ?_)
    repeat' first | refine Len.map ?_ | refine Len.nil ?_ | refine Len.cons ?_ | refine Br.t rfl ?_ | refine Br.f rfl ?_ | refine Fit.au ?_ | refine Cv.au ?_ | refine Need.ne ?_ | refine Need.au ?_ | refine Pick.map (by assumption) ?_ | refine Pick.mapI (by omega) (by assumption) ?_ | refine PickN.mk _ (by assumption) ?_ | refine PickN.mk _ rfl ?_ | refine PickN.au ?_ | refine App.au rfl ?_ | refine App.au (own_map (fun _ => rfl) _) ?_ | refine Both.mk ?_ ?_ | exact True.intro
    rw [quoI]
    refine Br.t (by simp; omega) ?_
    repeat' first | refine Len.map ?_ | refine Len.nil ?_ | refine Len.cons ?_ | refine Br.t rfl ?_ | refine Br.f rfl ?_ | refine Fit.au ?_ | refine Cv.au ?_ | refine Need.ne ?_ | refine Need.au ?_ | refine Pick.map (by assumption) ?_ | refine Pick.mapI (by omega) (by assumption) ?_ | refine PickN.mk _ (by assumption) ?_ | refine PickN.mk _ rfl ?_ | refine PickN.au ?_ | refine App.au rfl ?_ | refine App.au (own_map (fun _ => rfl) _) ?_ | refine Both.mk ?_ ?_ | exact True.intro
    refine goI 1000 Tryd.func65 ?_
    repeat' first | refine Len.map ?_ | refine Len.nil ?_ | refine Len.cons ?_ | refine Br.t rfl ?_ | refine Br.f rfl ?_ | refine Fit.au ?_ | refine Cv.au ?_ | refine Need.ne ?_ | refine Need.au ?_ | refine Pick.map (by assumption) ?_ | refine Pick.mapI (by omega) (by assumption) ?_ | refine PickN.mk _ (by assumption) ?_ | refine PickN.mk _ rfl ?_ | refine PickN.au ?_ | refine App.au rfl ?_ | refine App.au (own_map (fun _ => rfl) _) ?_ | refine Both.mk ?_ ?_ | exact True.intro
    exact h0 (dropW_out (by omega)) _
theorem dropL_run (s : List W) (i : Nat) (b : List W) (ce ci : List AV) (U A3 A4 : List (List AV)) (P c1 c0 : List AV) (hs : s.length ≤ 1000000) (hi : i ≤ 1000000000) {K : AV → HP → Nat → Prop} (h0 : dropW s i = s → ∀ v, K (tru v) [(5, rowW b), (9, .var ce), (8, .row 2 U), (7, .var ci), (6, rowW s), (2, .var P), (3, .row 1 A3), (4, .row 1 A4), (1, .var c1), (0, .var c0)] 10) (h1 : ∀ v, K (tru v) [(6, rowW (dropW s i)), (5, rowW b), (9, .var ce), (8, .row 2 U), (7, .var ci), (2, .var P), (3, .row 1 A3), (4, .row 1 A4), (1, .var c1), (0, .var c0)] 10) :
    Run Tryd.prog 65 (Post.inl 10 K) [.code (Tryd.f65.body.getD .skip)] ⟨slots 0 [.hw 6, num i], [(5, rowW b), (9, .var ce), (8, .row 2 U), (7, .var ci), (6, rowW s), (2, .var P), (3, .row 1 A3), (4, .row 1 A4), (1, .var c1), (0, .var c0)], 10, Tryd.f65.ntmps⟩ := by
  by_cases h : i / 64 < s.length
  · obtain ⟨w, gw, -⟩ := getK (l := s) (k := i / 64) h
    have ew : s.getD (i / 64) 0 = w := by rw [List.getD_eq_getElem?_getD, gw]; rfl
    have hrow := dropW_row ew
    refine goI 8 Tryd.func65 ?_
    repeat' first | refine Len.map ?_ | refine Len.nil ?_ | refine Len.cons ?_ | refine Br.t rfl ?_ | refine Br.f rfl ?_ | refine Fit.au ?_ | refine Cv.au ?_ | refine Need.ne ?_ | refine Need.au ?_ | refine Pick.map (by assumption) ?_ | refine Pick.mapI (by omega) (by assumption) ?_ | refine PickN.mk _ (by assumption) ?_ | refine PickN.mk _ rfl ?_ | refine PickN.au ?_ | refine App.au rfl ?_ | refine App.au (own_map (fun _ => rfl) _) ?_ | refine Both.mk ?_ ?_ | exact True.intro
    refine Stop.mk ?_
    refine run_inlC rfl want_none rfl rfl rfl rfl rfl rfl rfl (goI 1000 Tryd.func30 ?_)
    repeat' first | refine Len.map ?_ | refine Len.nil ?_ | refine Len.cons ?_ | refine Br.t rfl ?_ | refine Br.f rfl ?_ | refine Fit.au ?_ | refine Cv.au ?_ | refine Need.ne ?_ | refine Need.au ?_ | refine Pick.map (by assumption) ?_ | refine Pick.mapI (by omega) (by assumption) ?_ | refine PickN.mk _ (by assumption) ?_ | refine PickN.mk _ rfl ?_ | refine PickN.au ?_ | refine App.au rfl ?_ | refine App.au (own_map (fun _ => rfl) _) ?_ | refine Both.mk ?_ ?_ | exact True.intro
    rw [quoI]
    refine Br.f (by simp; omega) ?_
    repeat' first | refine Draw.mk (ordL [] [0, 1, 2, 3, 4, 5, 6, 7, 8, 9]) (by decide +kernel) ?_ | refine Need.mk ⟨by rw [quoI]; omega, by rw [quoI, List.length_map]; omega⟩ ?_ | refine Need.mk (Int.tmod_nonneg _ (by omega)) ?_ | refine cvBit ?_ | refine Len.map ?_ | refine Len.nil ?_ | refine Len.cons ?_ | refine Br.t rfl ?_ | refine Br.f rfl ?_ | refine Fit.au ?_ | refine Cv.au ?_ | refine Need.ne ?_ | refine Need.au ?_ | refine Pick.map (by assumption) ?_ | refine Pick.mapI (by omega) (by assumption) ?_ | refine PickN.mk _ (by assumption) ?_ | refine PickN.mk _ rfl ?_ | refine PickN.au ?_ | refine App.au rfl ?_ | refine App.au (own_map (fun _ => rfl) _) ?_ | refine Both.mk ?_ ?_ | exact True.intro
    all_goals refine goI 1000 Tryd.func65 ?_
    repeat' first | (rw [quoI, Int.toNat_natCast]) | refine PickN.map gw ?_ | refine Len.map ?_ | refine Len.nil ?_ | refine Len.cons ?_ | refine Br.t rfl ?_ | refine Br.f rfl ?_ | refine Fit.au ?_ | refine Cv.au ?_ | refine Need.ne ?_ | refine Need.au ?_ | refine Pick.map (by assumption) ?_ | refine Pick.mapI (by omega) (by assumption) ?_ | refine PickN.mk _ (by assumption) ?_ | refine PickN.mk _ rfl ?_ | refine PickN.au ?_ | refine App.au rfl ?_ | refine App.au (own_map (fun _ => rfl) _) ?_ | refine Both.mk ?_ ?_ | exact True.intro
    all_goals refine brBitN ew (fun h3 => ?_) (fun h3 => ?_)
    repeat' first | (rw [quoI, Int.toNat_natCast]) | refine PickN.map gw ?_ | refine Len.map ?_ | refine Len.nil ?_ | refine Len.cons ?_ | refine Br.t rfl ?_ | refine Br.f rfl ?_ | refine Fit.au ?_ | refine Cv.au ?_ | refine Need.ne ?_ | refine Need.au ?_ | refine Pick.map (by assumption) ?_ | refine Pick.mapI (by omega) (by assumption) ?_ | refine PickN.mk _ (by assumption) ?_ | refine PickN.mk _ rfl ?_ | refine PickN.au ?_ | refine App.au rfl ?_ | refine App.au (own_map (fun _ => rfl) _) ?_ | refine Both.mk ?_ ?_ | exact True.intro
    all_goals first | (exact h0 (dropW_same h3) _) | (rw [hrow] at h1; exact h1 _)
  · refine goI 8 Tryd.func65 ?_
    repeat' first | refine Len.map ?_ | refine Len.nil ?_ | refine Len.cons ?_ | refine Br.t rfl ?_ | refine Br.f rfl ?_ | refine Fit.au ?_ | refine Cv.au ?_ | refine Need.ne ?_ | refine Need.au ?_ | refine Pick.map (by assumption) ?_ | refine Pick.mapI (by omega) (by assumption) ?_ | refine PickN.mk _ (by assumption) ?_ | refine PickN.mk _ rfl ?_ | refine PickN.au ?_ | refine App.au rfl ?_ | refine App.au (own_map (fun _ => rfl) _) ?_ | refine Both.mk ?_ ?_ | exact True.intro
    refine Stop.mk ?_
    refine run_inlC rfl want_none rfl rfl rfl rfl rfl rfl rfl (goI 1000 Tryd.func30 ?_)
    repeat' first | refine Len.map ?_ | refine Len.nil ?_ | refine Len.cons ?_ | refine Br.t rfl ?_ | refine Br.f rfl ?_ | refine Fit.au ?_ | refine Cv.au ?_ | refine Need.ne ?_ | refine Need.au ?_ | refine Pick.map (by assumption) ?_ | refine Pick.mapI (by omega) (by assumption) ?_ | refine PickN.mk _ (by assumption) ?_ | refine PickN.mk _ rfl ?_ | refine PickN.au ?_ | refine App.au rfl ?_ | refine App.au (own_map (fun _ => rfl) _) ?_ | refine Both.mk ?_ ?_ | exact True.intro
    rw [quoI]
    refine Br.t (by simp; omega) ?_
    repeat' first | refine Len.map ?_ | refine Len.nil ?_ | refine Len.cons ?_ | refine Br.t rfl ?_ | refine Br.f rfl ?_ | refine Fit.au ?_ | refine Cv.au ?_ | refine Need.ne ?_ | refine Need.au ?_ | refine Pick.map (by assumption) ?_ | refine Pick.mapI (by omega) (by assumption) ?_ | refine PickN.mk _ (by assumption) ?_ | refine PickN.mk _ rfl ?_ | refine PickN.au ?_ | refine App.au rfl ?_ | refine App.au (own_map (fun _ => rfl) _) ?_ | refine Both.mk ?_ ?_ | exact True.intro
    refine goI 1000 Tryd.func65 ?_
    repeat' first | refine Len.map ?_ | refine Len.nil ?_ | refine Len.cons ?_ | refine Br.t rfl ?_ | refine Br.f rfl ?_ | refine Fit.au ?_ | refine Cv.au ?_ | refine Need.ne ?_ | refine Need.au ?_ | refine Pick.map (by assumption) ?_ | refine Pick.mapI (by omega) (by assumption) ?_ | refine PickN.mk _ (by assumption) ?_ | refine PickN.mk _ rfl ?_ | refine PickN.au ?_ | refine App.au rfl ?_ | refine App.au (own_map (fun _ => rfl) _) ?_ | refine Both.mk ?_ ?_ | exact True.intro
    exact h0 (dropW_out (by omega)) _
theorem dropS_run (s : List W) (i : Nat) (ce ci : List AV) (U : List (List AV)) (hs : s.length ≤ 1000000) (hi : i ≤ 1000000000) {K : AV → HP → Nat → Prop} (h0 : dropW s i = s → ∀ v, K (tru v) [(5, .var ce), (4, .row 2 U), (3, .var ci), (2, rowW s)] 6) (h1 : ∀ v, K (tru v) [(2, rowW (dropW s i)), (5, .var ce), (4, .row 2 U), (3, .var ci)] 6) :
    Run Tryd.prog 65 (Post.inl 6 K) [.code (Tryd.f65.body.getD .skip)] ⟨slots 0 [.hw 2, num i], [(5, .var ce), (4, .row 2 U), (3, .var ci), (2, rowW s)], 6, Tryd.f65.ntmps⟩ := by
  by_cases h : i / 64 < s.length
  · obtain ⟨w, gw, -⟩ := getK (l := s) (k := i / 64) h
    have ew : s.getD (i / 64) 0 = w := by rw [List.getD_eq_getElem?_getD, gw]; rfl
    have hrow := dropW_row ew
    refine goI 8 Tryd.func65 ?_
    repeat' first | refine Len.map ?_ | refine Len.nil ?_ | refine Len.cons ?_ | refine Br.t rfl ?_ | refine Br.f rfl ?_ | refine Fit.au ?_ | refine Cv.au ?_ | refine Need.ne ?_ | refine Need.au ?_ | refine Pick.map (by assumption) ?_ | refine Pick.mapI (by omega) (by assumption) ?_ | refine PickN.mk _ (by assumption) ?_ | refine PickN.mk _ rfl ?_ | refine PickN.au ?_ | refine App.au rfl ?_ | refine App.au (own_map (fun _ => rfl) _) ?_ | refine Both.mk ?_ ?_ | exact True.intro
    refine Stop.mk ?_
    refine run_inlC rfl want_none rfl rfl rfl rfl rfl rfl rfl (goI 1000 Tryd.func30 ?_)
    repeat' first | refine Len.map ?_ | refine Len.nil ?_ | refine Len.cons ?_ | refine Br.t rfl ?_ | refine Br.f rfl ?_ | refine Fit.au ?_ | refine Cv.au ?_ | refine Need.ne ?_ | refine Need.au ?_ | refine Pick.map (by assumption) ?_ | refine Pick.mapI (by omega) (by assumption) ?_ | refine PickN.mk _ (by assumption) ?_ | refine PickN.mk _ rfl ?_ | refine PickN.au ?_ | refine App.au rfl ?_ | refine App.au (own_map (fun _ => rfl) _) ?_ | refine Both.mk ?_ ?_ | exact True.intro
    rw [quoI]
    refine Br.f (by simp; omega) ?_
    repeat' first | refine Draw.mk (ordL [] [0, 1, 2, 3, 4, 5, 6, 7, 8, 9]) (by decide +kernel) ?_ | refine Need.mk ⟨by rw [quoI]; omega, by rw [quoI, List.length_map]; omega⟩ ?_ | refine Need.mk (Int.tmod_nonneg _ (by omega)) ?_ | refine cvBit ?_ | refine Len.map ?_ | refine Len.nil ?_ | refine Len.cons ?_ | refine Br.t rfl ?_ | refine Br.f rfl ?_ | refine Fit.au ?_ | refine Cv.au ?_ | refine Need.ne ?_ | refine Need.au ?_ | refine Pick.map (by assumption) ?_ | refine Pick.mapI (by omega) (by assumption) ?_ | refine PickN.mk _ (by assumption) ?_ | refine PickN.mk _ rfl ?_ | refine PickN.au ?_ | refine App.au rfl ?_ | refine App.au (own_map (fun _ => rfl) _) ?_ | refine Both.mk ?_ ?_ | exact True.intro
    all_goals refine goI 1000 Tryd.func65 ?_
    repeat' first | (rw [quoI, Int.toNat_natCast]) | refine PickN.map gw ?_ | refine Len.map ?_ | refine Len.nil ?_ | refine Len.cons ?_ | refine Br.t rfl ?_ | refine Br.f rfl ?_ | refine Fit.au ?_ | refine Cv.au ?_ | refine Need.ne ?_ | refine Need.au ?_ | refine Pick.map (by assumption) ?_ | refine Pick.mapI (by omega) (by assumption) ?_ | refine PickN.mk _ (by assumption) ?_ | refine PickN.mk _ rfl ?_ | refine PickN.au ?_ | refine App.au rfl ?_ | refine App.au (own_map (fun _ => rfl) _) ?_ | refine Both.mk ?_ ?_ | exact True.intro
    all_goals refine brBitN ew (fun h3 => ?_) (fun h3 => ?_)
    repeat' first | (rw [quoI, Int.toNat_natCast]) | refine PickN.map gw ?_ | refine Len.map ?_ | refine Len.nil ?_ | refine Len.cons ?_ | refine Br.t rfl ?_ | refine Br.f rfl ?_ | refine Fit.au ?_ | refine Cv.au ?_ | refine Need.ne ?_ | refine Need.au ?_ | refine Pick.map (by assumption) ?_ | refine Pick.mapI (by omega) (by assumption) ?_ | refine PickN.mk _ (by assumption) ?_ | refine PickN.mk _ rfl ?_ | refine PickN.au ?_ | refine App.au rfl ?_ | refine App.au (own_map (fun _ => rfl) _) ?_ | refine Both.mk ?_ ?_ | exact True.intro
    all_goals first | (exact h0 (dropW_same h3) _) | (rw [hrow] at h1; exact h1 _)
  · refine goI 8 Tryd.func65 ?_
    repeat' first | refine Len.map ?_ | refine Len.nil ?_ | refine Len.cons ?_ | refine Br.t rfl ?_ | refine Br.f rfl ?_ | refine Fit.au ?_ | refine Cv.au ?_ | refine Need.ne ?_ | refine Need.au ?_ | refine Pick.map (by assumption) ?_ | refine Pick.mapI (by omega) (by assumption) ?_ | refine PickN.mk _ (by assumption) ?_ | refine PickN.mk _ rfl ?_ | refine PickN.au ?_ | refine App.au rfl ?_ | refine App.au (own_map (fun _ => rfl) _) ?_ | refine Both.mk ?_ ?_ | exact True.intro
    refine Stop.mk ?_
    refine run_inlC rfl want_none rfl rfl rfl rfl rfl rfl rfl (goI 1000 Tryd.func30 ?_)
    repeat' first | refine Len.map ?_ | refine Len.nil ?_ | refine Len.cons ?_ | refine Br.t rfl ?_ | refine Br.f rfl ?_ | refine Fit.au ?_ | refine Cv.au ?_ | refine Need.ne ?_ | refine Need.au ?_ | refine Pick.map (by assumption) ?_ | refine Pick.mapI (by omega) (by assumption) ?_ | refine PickN.mk _ (by assumption) ?_ | refine PickN.mk _ rfl ?_ | refine PickN.au ?_ | refine App.au rfl ?_ | refine App.au (own_map (fun _ => rfl) _) ?_ | refine Both.mk ?_ ?_ | exact True.intro
    rw [quoI]
    refine Br.t (by simp; omega) ?_
    repeat' first | refine Len.map ?_ | refine Len.nil ?_ | refine Len.cons ?_ | refine Br.t rfl ?_ | refine Br.f rfl ?_ | refine Fit.au ?_ | refine Cv.au ?_ | refine Need.ne ?_ | refine Need.au ?_ | refine Pick.map (by assumption) ?_ | refine Pick.mapI (by omega) (by assumption) ?_ | refine PickN.mk _ (by assumption) ?_ | refine PickN.mk _ rfl ?_ | refine PickN.au ?_ | refine App.au rfl ?_ | refine App.au (own_map (fun _ => rfl) _) ?_ | refine Both.mk ?_ ?_ | exact True.intro
    refine goI 1000 Tryd.func65 ?_
    repeat' first | refine Len.map ?_ | refine Len.nil ?_ | refine Len.cons ?_ | refine Br.t rfl ?_ | refine Br.f rfl ?_ | refine Fit.au ?_ | refine Cv.au ?_ | refine Need.ne ?_ | refine Need.au ?_ | refine Pick.map (by assumption) ?_ | refine Pick.mapI (by omega) (by assumption) ?_ | refine PickN.mk _ (by assumption) ?_ | refine PickN.mk _ rfl ?_ | refine PickN.au ?_ | refine App.au rfl ?_ | refine App.au (own_map (fun _ => rfl) _) ?_ | refine Both.mk ?_ ?_ | exact True.intro
    exact h0 (dropW_out (by omega)) _
end Go.Proofs.YtdgibhndjdgllaaDoor

/- Which arrays are surely there, as a flow and by going back from block to block. No program is in sight here. -/
namespace Go.Proofs.YtdgibhndjdgllaaDoor
open Go.Ax
/-- Does an instruction ask for a root? -/
def askB (f : Fun) (i : Ins) : Prop := i.op = 31 ∧ rightF i = true
instance (f : Fun) (i : Ins) : Decidable (askB f i) := by unfold askB; infer_instance
def rootI (f : Fun) (i : Ins) : Int := (newF f).root i.a
/-- What an instruction changes. -/
def dropF (f : Fun) (i : Ins) (s : List W) : List W := if 0 ≤ defF i ∧ defF i < f.regs.length then dropW s (defF i).toNat else s
def nilW (f : Fun) (i : Ins) (s : List W) : List W := if askB f i then putW (dropF f i s) (rootI f i).toNat else dropF f i s
def nilsW (f : Fun) (l : List Ins) (s : List W) : List W := l.foldl (fun s i => nilW f i s) s
theorem dropF_len (f : Fun) (i : Ins) (s : List W) : (dropF f i s).length = s.length := by
  unfold dropF; split
  · exact dropW_len _ _
  · rfl
theorem nilW_len (f : Fun) (i : Ins) (s : List W) : (nilW f i s).length = s.length := by
  unfold nilW; split
  · rw [putW_len, dropF_len]
  · exact dropF_len _ _ _
theorem nilsW_len (f : Fun) : ∀ (l : List Ins) (s : List W), (nilsW f l s).length = s.length
  | [], _ => rfl
  | i :: l, s => (nilsW_len f l (nilW f i s)).trans (nilW_len f i s)
theorem nilsW_take {f : Fun} {l : List Ins} {k : Nat} {i : Ins} {s : List W} (h : l[k]? = some i) : nilsW f (l.take (k + 1)) s = nilW f i (nilsW f (l.take k) s) := by
  obtain ⟨hk, rfl⟩ := List.getElem?_eq_some_iff.1 h
  unfold nilsW
  rw [List.take_succ_eq_append_getElem hk, List.foldl_append]; rfl
/-- What instructions do last with a root: 1: it is asked for, 2: it is written, 0: neither. -/
def lastS (f : Fun) (q : Int) (w : Int) (i : Ins) : Int := if askB f i ∧ rootI f i = q then 1 else if defF i = q then 2 else w
def lastN (f : Fun) (q : Int) (l : List Ins) : Int := l.foldl (lastS f q) 0
theorem lastN_take {f : Fun} {q : Int} {l : List Ins} {k : Nat} {i : Ins} (h : l[k]? = some i) : lastN f q (l.take (k + 1)) = lastS f q (lastN f q (l.take k)) i := by
  obtain ⟨hk, rfl⟩ := List.getElem?_eq_some_iff.1 h
  unfold lastN
  rw [List.take_succ_eq_append_getElem hk, List.foldl_append]; rfl
theorem lastS_cases (f : Fun) (q w : Int) (i : Ins) (h : w = 0 ∨ w = 1 ∨ w = 2) : lastS f q w i = 0 ∨ lastS f q w i = 1 ∨ lastS f q w i = 2 := by
  unfold lastS
  split
  · exact .inr (.inl rfl)
  · split
    · exact .inr (.inr rfl)
    · exact h
theorem lastN_cases (f : Fun) (q : Int) (l : List Ins) : lastN f q l = 0 ∨ lastN f q l = 1 ∨ lastN f q l = 2 := by
  have : ∀ (l : List Ins) (w : Int), (w = 0 ∨ w = 1 ∨ w = 2) → (l.foldl (lastS f q) w = 0 ∨ l.foldl (lastS f q) w = 1 ∨ l.foldl (lastS f q) w = 2) := by
    intro l
    induction l with
    | nil => exact fun w h => h
    | cons i l ih => exact fun w h => ih _ (lastS_cases f q w i h)
  exact this l 0 (.inl rfl)
/-- All that is named lies in the sets. -/
def NilB (f : Fun) (i : Ins) : Prop := defF i < f.regs.length ∧ (askB f i → 0 ≤ rootI f i ∧ rootI f i < f.regs.length)
theorem hasW_nil {f : Fun} {i : Ins} {s : List W} (hb : NilB f i) (hs : s.length = wn f.regs.length) (r : Nat) :
    hasW (nilW f i s) r = (decide (askB f i ∧ rootI f i = r) || (!decide (defF i = r) && hasW s r)) := by
  have hd : hasW (dropF f i s) r = (!decide (defF i = r) && hasW s r) := by
    unfold dropF
    split
    · rename_i h
      rw [hasW_drop (by rw [hs]; exact div_lt (by omega)), Bool.and_comm]
      congr 2
      rw [Bool.eq_iff_iff]; simp; omega
    · rename_i h
      have h1 := hb.1
      have : decide (defF i = (r : Int)) = false := by rw [decide_eq_false_iff_not]; omega
      rw [this]; simp
  unfold nilW
  split
  · rename_i h
    have h1 := hb.2 h
    rw [hasW_put (by rw [dropF_len, hs]; exact div_lt (by omega)), hd, Bool.or_comm]
    congr 1
    rw [Bool.eq_iff_iff]
    simp only [decide_eq_true_eq]
    constructor
    · intro e; exact ⟨h, by omega⟩
    · rintro ⟨_, e⟩; omega
  · rename_i h
    have e2 : decide (askB f i ∧ rootI f i = (r : Int)) = false := decide_eq_false (fun e => h e.1)
    rw [hd, e2, Bool.false_or]
theorem hasW_nils {f : Fun} {l : List Ins} : ∀ {s : List W}, (∀ i ∈ l, NilB f i) → s.length = wn f.regs.length → ∀ (r : Nat), hasW (nilsW f l s) r = (decide (lastN f r l = 1) || (decide (lastN f r l = 0) && hasW s r)) := by
  have key : ∀ (l : List Ins) (s : List W) (w : Int) (r : Nat) (c : Bool), (∀ i ∈ l, NilB f i) → s.length = wn f.regs.length → (w = 0 ∨ w = 1 ∨ w = 2) → hasW s r = (decide (w = 1) || (decide (w = 0) && c)) →
      hasW (nilsW f l s) r = (decide (l.foldl (lastS f r) w = 1) || (decide (l.foldl (lastS f r) w = 0) && c)) := by
    intro l
    induction l with
    | nil => exact fun s w r c _ _ _ h => h
    | cons i l ih =>
      intro s w r c hb hs hw h
      refine ih (nilW f i s) (lastS f r w i) r c (fun j hj => hb j (List.mem_cons_of_mem _ hj)) ((nilW_len f i s).trans hs) (lastS_cases f r w i hw) ?_
      rw [hasW_nil (hb i (List.mem_cons_self ..)) hs, h]
      unfold lastS
      by_cases h1 : askB f i ∧ rootI f i = r
      · simp [h1]
      · by_cases h2 : defF i = r
        · simp [h1, h2]
        · simp [h1, h2]
  intro s hb hs r
  exact key l s 0 r (hasW s r) hb hs (.inl rfl) (by simp)
def nilsP (f : Fun) : Prob := { edges := succsF f, back := false, all := true, width := f.regs.length, gen := f.blocks.map fun b => nilsW f b (newW f.regs.length), kill := f.blocks.map fun b => lessW (fullW f.regs.length) (nilsW f b (fullW f.regs.length)), start := newW f.regs.length }
structure NilOK (f : Fun) : Prop where
  blocks : f.blocks.length ≤ 65536
  regs : f.regs.length ≤ 65536
  ins : ∀ b ∈ f.blocks, ∀ i ∈ b, NilB f i
theorem newW_rightN (n : Nat) : RightW (newW n) n := ⟨newW_len n, fun i h => by rw [hasW_new] at h; cases h⟩
theorem last_one {f : Fun} {q : Int} {l : List Ins} (h : lastN f q l = 1) : ∃ i ∈ l, askB f i ∧ rootI f i = q := by
  have key : ∀ (l : List Ins) (w : Int), l.foldl (lastS f q) w = 1 → w = 1 ∨ ∃ i ∈ l, askB f i ∧ rootI f i = q := by
    intro l
    induction l with
    | nil => exact fun w h => .inl h
    | cons i l ih =>
      intro w h
      rcases ih _ h with h1 | ⟨j, hj, hq⟩
      · unfold lastS at h1
        split at h1
        · rename_i h2; exact .inr ⟨i, List.mem_cons_self .., h2⟩
        · split at h1
          · cases h1
          · exact .inl h1
      · exact .inr ⟨j, List.mem_cons_of_mem _ hj, hq⟩
  rcases key l 0 h with h | h
  · cases h
  · exact h
theorem nilsP_ok {f : Fun} (h : NilOK f) : (nilsP f).OK := by
  have e : (nilsP f).edges.length = f.blocks.length := succsF_len f
  refine ⟨by rw [e]; exact h.blocks, h.regs, ?_, ?_, newW_rightN _, fun s hs => ?_, fun s hs => ?_, succsF_closed f, succsF_small f⟩
  · rw [e]; exact List.length_map ..
  · rw [e]; exact List.length_map ..
  · obtain ⟨b, hb, rfl⟩ := List.mem_map.1 hs
    refine ⟨(nilsW_len ..).trans (newW_len _), fun i hi => ?_⟩
    rw [hasW_nils (h.ins b hb) (newW_len _), hasW_new] at hi
    simp at hi
    obtain ⟨j, hj, ha, hr⟩ := last_one hi
    have := ((h.ins b hb j hj).2 ha).2
    show i < f.regs.length
    omega
  · obtain ⟨b, hb, rfl⟩ := List.mem_map.1 hs
    refine ⟨by unfold lessW; rw [fillW_len]; exact fullW_len _, fun i hi => ?_⟩
    rw [hasW_less, hasW_full] at hi
    simp at hi
    exact hi.1
end Go.Proofs.YtdgibhndjdgllaaDoor
