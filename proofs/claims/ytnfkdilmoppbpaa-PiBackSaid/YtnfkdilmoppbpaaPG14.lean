/- What is inserted into a function, by a contract. -/
import Derived.Test.YtnfkdilmoppbpaaPG13
import Derived.Test.YtnfkdilmoppbpaaPG11
import Derived.Test.YtnfkdilmoppbpaaPG06
import Derived.Test.YtnfkdilmoppbpaaPG09
import Derived.Test.YtnfkdilmoppbpaaPG05
import Derived.Test.YtnfkdilmoppbpaaPG08
import Derived.WalkSpells
set_option linter.unusedVariables false
set_option linter.unusedSimpArgs false

namespace Go.Proofs.Ytnfkdilmoppbpaa
open Go.Ax
set_option maxRecDepth 10000
set_option linter.unusedVariables false

theorem insF_at {f : Fun} {k : Nat} {b : List Ins} (gb : f.blocks[k]? = some b) : (insF f).blocks[k]? = some (insB f (predsF (succsF f)) k b) := by
  unfold insF; simp [gb]
theorem insF_len (f : Fun) : (insF f).blocks.length = f.blocks.length := by unfold insF; simp
def z5 : List AV := [.lit (.string ⟨#[]⟩), num 0, num 0, .lit (.slice none 0 0), .lit (.slice none 0 0)]
def iH (f : Fun) (k : Nat) : HP := [(0, .var f.cs), (1, .var z5), (2, .var [.lit (.string f.name), num f.params, num f.ret, .osl 1 (f.regs.map int1), .osl 1 (((insF f).blocks.take k).map oblk)])]
set_option maxHeartbeats 2000000 in
theorem Insert55_spec (f : Fun) (hf : f.fits) (hok : f.okP) (hn : f.blocks.length ≤ 100000) (hg : f.regs.length ≤ 1000000) (hb : ∀ b ∈ f.blocks, b.length ≤ 1000000) :
    FnSpec Try.prog 55 [funA f] (fun r => r = .agg (insF f).ocs) := by
  refine spec_of 1000 Try.func55 rfl rfl ?_
  repeat' first | refine Call.eq (Clone_spec f.regs hg) rfl ?_ | refine Call.eq (Preds68_spec f hf (by omega)) rfl ?_ | refine Len.map ?_ | refine Len.nil ?_ | refine Len.cons ?_ | refine Br.t rfl ?_ | refine Br.f rfl ?_ | refine Fit.au ?_ | refine Need.au ?_ | refine Pick.map (by assumption) ?_ | refine Pick.mapI (by omega) (by assumption) ?_ | refine PickN.mk _ (by assumption) ?_ | refine PickN.mk _ rfl ?_ | refine PickN.au ?_ | refine App.au rfl ?_ | refine App.au (own_map (fun _ => rfl) _) ?_ | refine Both.mk ?_ ?_ | exact True.intro
  refine Stop.mk (run_frzR 4 rfl (fzLL_map fz_olsts _) ?_)
  refine run_varLe 2 rfl (.cons (.refl _) (.cons (.refl _) (.cons (.refl _) (.cons (.refl _) (.cons (VLe.onil (sz := 1)) .nil))))) ?_
  have hpl := predsF_len (succsF f)
  rw [succsF_len] at hpl
  have hpp : ∀ l ∈ predsF (succsF f), l.length ≤ 1000000 ∧ ∀ x ∈ l, 0 ≤ x ∧ x < f.blocks.length := by
    intro l hl
    unfold predsF at hl
    obtain ⟨t, _, rfl⟩ := List.mem_map.1 hl
    have h1 := predOf_len (succsF f) t (succsF f).length
    rw [succsF_len] at h1 ⊢
    exact ⟨by omega, fun x hx => predOf_lt hx⟩
  have hat := fun k b => insF_at (f := f) (k := k) (b := b)
  have hlen := insF_len f
  generalize predsF (succsF f) = p at *
  refine loop_in (g := []) (fun k : Nat => [(1, .hp 0 0), (2, .hp 1 0), (3, .hp 2 0), (4, lsts p), (19, .sl false 1 (f.blocks.map blk)), (20, num f.blocks.length), (21, num k)]) (fun k => iH f k) 3 (fun k => k ≤ f.blocks.length) (fun k => f.blocks.length - k) 0 (by omega) ⟨rfl, (by repeat' first | exact trivial | refine ⟨rfl, ?_⟩ | refine ⟨congrArg (fun n => AV.lit (.int .i64 n)) (by omega), ?_⟩ | refine ⟨congrArg (fun l => some (Row.row 1 l)) (by simp [int1, num, tru]), ?_⟩), (by repeat' first | exact trivial | refine ⟨rfl, ?_⟩ | refine ⟨congrArg (fun n => AV.lit (.int .i64 n)) (by omega), ?_⟩ | refine ⟨congrArg (fun l => some (Row.row 1 l)) (by simp [int1, num, tru]), ?_⟩)⟩ (fun k hk ih => ?_)
  refine go 1000 Try.func55 ?_
  repeat' first | refine Len.map ?_ | refine Len.nil ?_ | refine Len.cons ?_ | refine Br.t rfl ?_ | refine Br.f rfl ?_ | refine Fit.au ?_ | refine Need.au ?_ | refine Pick.map (by assumption) ?_ | refine Pick.mapI (by omega) (by assumption) ?_ | refine PickN.mk _ (by assumption) ?_ | refine PickN.mk _ rfl ?_ | refine PickN.au ?_ | refine App.au rfl ?_ | refine App.au (own_map (fun _ => rfl) _) ?_ | refine Both.mk ?_ ?_ | exact True.intro
  refine Br.d (fun h2 => ?_) (fun h2 => ?_)
  · obtain ⟨b, gb, gbm⟩ := getK (l := f.blocks) (k := k) (by omega)
    obtain ⟨hb1, hb2⟩ := hf.2.2 b gbm
    have gout := hat k b gb
    have hbl := hb b gbm
    have hokb := hok b gbm
    have htl := toldF_len f k p
    have hbt : ((insF f).blocks.take k).length ≤ k := by rw [List.length_take]; omega
    have houts := take_succ gout
    repeat' first | refine Call.eq (told_spec f k p hf hok hb (by omega) hpp) rfl ?_ | refine Len.map ?_ | refine Len.nil ?_ | refine Len.cons ?_ | refine Br.t rfl ?_ | refine Br.f rfl ?_ | refine Fit.au ?_ | refine Need.au ?_ | refine Pick.map (by assumption) ?_ | refine Pick.mapI (by omega) (by assumption) ?_ | refine PickN.mk _ (by assumption) ?_ | refine PickN.mk _ rfl ?_ | refine PickN.au ?_ | refine App.au rfl ?_ | refine App.au (own_map (fun _ => rfl) _) ?_ | refine Both.mk ?_ ?_ | exact True.intro
    refine Stop.mk (loop_in (g := []) (fun j : Nat => [(1, .hp 0 0), (2, .hp 1 0), (3, .hp 2 0), (4, lsts p), (19, .sl false 1 (f.blocks.map blk)), (20, num f.blocks.length), (21, num k), (30, bsl b), (31, num b.length), (32, num j), (7, .hw 3)]) (fun j => iH f k ++ [(3, .row 9 ((toldF f k p ++ (b.take j).flatMap aft).map Ins.ocs))]) 4 (fun j => j ≤ b.length) (fun j => b.length - j) 0 (by omega) ?_ (fun j hj ih2 => ?_))
    · rw [List.take_zero, List.flatMap_nil, List.append_nil]; exact ⟨rfl, (by repeat' first | exact trivial | refine ⟨rfl, ?_⟩ | refine ⟨congrArg (fun n => AV.lit (.int .i64 n)) (by omega), ?_⟩ | refine ⟨congrArg (fun l => some (Row.row 1 l)) (by simp [int1, num, tru]), ?_⟩), (by repeat' first | exact trivial | refine ⟨rfl, ?_⟩ | refine ⟨congrArg (fun n => AV.lit (.int .i64 n)) (by omega), ?_⟩ | refine ⟨congrArg (fun l => some (Row.row 1 l)) (by simp [int1, num, tru]), ?_⟩)⟩
    have hcl : ((b.take j).flatMap aft).length ≤ 2 * j := by
      have := aft_len (b.take j)
      rw [List.length_take] at this; omega
    have hcur : (toldF f k p ++ (b.take j).flatMap aft).length ≤ 2 + 2 * j := by rw [List.length_append]; omega
    refine go 1000 Try.func55 ?_
    repeat' first | refine Len.map ?_ | refine Len.nil ?_ | refine Len.cons ?_ | refine Br.t rfl ?_ | refine Br.f rfl ?_ | refine Fit.au ?_ | refine Need.au ?_ | refine Pick.map (by assumption) ?_ | refine Pick.mapI (by omega) (by assumption) ?_ | refine PickN.mk _ (by assumption) ?_ | refine PickN.mk _ rfl ?_ | refine PickN.au ?_ | refine App.au rfl ?_ | refine App.au (own_map (fun _ => rfl) _) ?_ | refine Both.mk ?_ ?_ | exact True.intro
    refine Br.d (fun h3 => ?_) (fun h3 => ?_)
    · obtain ⟨i, gi, gim⟩ := getK (l := b) (k := j) (by omega)
      have hia := (hokb i gim).2.1
      have hnext : (toldF f k p ++ (b.take (j + 1)).flatMap aft) = (toldF f k p ++ (b.take j).flatMap aft) ++ aft i := by rw [flatMap_take_succ aft gi, List.append_assoc]
      generalize toldF f k p ++ (b.take j).flatMap aft = cur at *
      repeat' first | refine Call.eq (Clone_spec i.args hia) rfl ?_ | refine Len.map ?_ | refine Len.nil ?_ | refine Len.cons ?_ | refine Br.t rfl ?_ | refine Br.f rfl ?_ | refine Fit.au ?_ | refine Need.au ?_ | refine Pick.map (by assumption) ?_ | refine Pick.mapI (by omega) (by assumption) ?_ | refine PickN.mk _ (by assumption) ?_ | refine PickN.mk _ rfl ?_ | refine PickN.au ?_ | refine App.au rfl ?_ | refine App.au (own_map (fun _ => rfl) _) ?_ | refine Both.mk ?_ ?_ | exact True.intro
      refine Stop.mk (run_unfold 4 8 rfl rfl (go 1000 Try.func55 ?_))
      repeat' first | refine Len.map ?_ | refine Len.nil ?_ | refine Len.cons ?_ | refine Br.t rfl ?_ | refine Br.f rfl ?_ | refine Fit.au ?_ | refine Need.au ?_ | refine Pick.map (by assumption) ?_ | refine Pick.mapI (by omega) (by assumption) ?_ | refine PickN.mk _ (by assumption) ?_ | refine PickN.mk _ rfl ?_ | refine PickN.au ?_ | refine App.au rfl ?_ | refine App.au (own_map (fun _ => rfl) _) ?_ | refine Both.mk ?_ ?_ | exact True.intro
      refine Br.d (fun h4 => ?_) (fun h4 => ?_)
      · rw [show aft i = [i, piIns i.b i.a 20] by unfold aft; rw [if_pos h4]] at hnext
        repeat' first | refine Len.map ?_ | refine Len.nil ?_ | refine Len.cons ?_ | refine Br.t rfl ?_ | refine Br.f rfl ?_ | refine Fit.au ?_ | refine Need.au ?_ | refine Pick.map (by assumption) ?_ | refine Pick.mapI (by omega) (by assumption) ?_ | refine PickN.mk _ (by assumption) ?_ | refine PickN.mk _ rfl ?_ | refine PickN.au ?_ | refine App.au rfl ?_ | refine App.au (own_map (fun _ => rfl) _) ?_ | refine Both.mk ?_ ?_ | exact True.intro
        refine Stop.mk (run_rowO 10 rfl (OLeLL.app (.refl _) (.cons (oins_le _ _ _ _ _ _ _ _) .nil)) ?_)
        refine ih2 (j + 1) (g := [(3, 10)]) _ _ _ (by omega) (by omega) ?_
        rw [hnext, show cur ++ [i, piIns i.b i.a 20] = (cur ++ [i]) ++ [piIns i.b i.a 20] by simp, List.map_append, List.map_append]
        exact ⟨rfl, (by repeat' first | exact trivial | refine ⟨rfl, ?_⟩ | refine ⟨congrArg (fun n => AV.lit (.int .i64 n)) (by omega), ?_⟩ | refine ⟨congrArg (fun l => some (Row.row 1 l)) (by simp [int1, num, tru]), ?_⟩), (by repeat' first | exact trivial | refine ⟨rfl, ?_⟩ | refine ⟨congrArg (fun n => AV.lit (.int .i64 n)) (by omega), ?_⟩ | refine ⟨congrArg (fun l => some (Row.row 1 l)) (by simp [int1, num, tru]), ?_⟩)⟩
      · rw [show aft i = [i] by unfold aft; rw [if_neg h4]] at hnext
        repeat' first | refine Len.map ?_ | refine Len.nil ?_ | refine Len.cons ?_ | refine Br.t rfl ?_ | refine Br.f rfl ?_ | refine Fit.au ?_ | refine Need.au ?_ | refine Pick.map (by assumption) ?_ | refine Pick.mapI (by omega) (by assumption) ?_ | refine PickN.mk _ (by assumption) ?_ | refine PickN.mk _ rfl ?_ | refine PickN.au ?_ | refine App.au rfl ?_ | refine App.au (own_map (fun _ => rfl) _) ?_ | refine Both.mk ?_ ?_ | exact True.intro
        refine Stop.mk (ih2 (j + 1) (g := [(3, 8)]) _ _ _ (by omega) (by omega) ?_)
        rw [hnext, List.map_append]
        exact ⟨rfl, (by repeat' first | exact trivial | refine ⟨rfl, ?_⟩ | refine ⟨congrArg (fun n => AV.lit (.int .i64 n)) (by omega), ?_⟩ | refine ⟨congrArg (fun l => some (Row.row 1 l)) (by simp [int1, num, tru]), ?_⟩), (by repeat' first | exact trivial | refine ⟨rfl, ?_⟩ | refine ⟨congrArg (fun n => AV.lit (.int .i64 n)) (by omega), ?_⟩ | refine ⟨congrArg (fun l => some (Row.row 1 l)) (by simp [int1, num, tru]), ?_⟩)⟩
    · repeat' first | refine Len.map ?_ | refine Len.nil ?_ | refine Len.cons ?_ | refine Br.t rfl ?_ | refine Br.f rfl ?_ | refine Fit.au ?_ | refine Need.au ?_ | refine Pick.map (by assumption) ?_ | refine Pick.mapI (by omega) (by assumption) ?_ | refine PickN.mk _ (by assumption) ?_ | refine PickN.mk _ rfl ?_ | refine PickN.au ?_ | refine App.au rfl ?_ | refine App.au (own_map (fun _ => rfl) _) ?_ | refine Both.mk ?_ ?_ | exact True.intro
      refine Stop.mk (ih (k + 1) (g := []) _ _ _ (by omega) (by omega) ?_)
      unfold iH
      rw [houts, List.map_append (f := oblk)]
      have : j = b.length := by omega
      subst this
      rw [List.take_length]
      exact ⟨rfl, (by repeat' first | exact trivial | refine ⟨rfl, ?_⟩ | refine ⟨congrArg (fun n => AV.lit (.int .i64 n)) (by omega), ?_⟩ | refine ⟨congrArg (fun l => some (Row.row 1 l)) (by simp [int1, num, tru]), ?_⟩), (by repeat' first | exact trivial | refine ⟨rfl, ?_⟩ | refine ⟨congrArg (fun n => AV.lit (.int .i64 n)) (by omega), ?_⟩ | refine ⟨congrArg (fun l => some (Row.row 1 l)) (by simp [int1, num, tru]), ?_⟩)⟩
  · repeat' first | refine Len.map ?_ | refine Len.nil ?_ | refine Len.cons ?_ | refine Br.t rfl ?_ | refine Br.f rfl ?_ | refine Fit.au ?_ | refine Need.au ?_ | refine Pick.map (by assumption) ?_ | refine Pick.mapI (by omega) (by assumption) ?_ | refine PickN.mk _ (by assumption) ?_ | refine PickN.mk _ rfl ?_ | refine PickN.au ?_ | refine App.au rfl ?_ | refine App.au (own_map (fun _ => rfl) _) ?_ | refine Both.mk ?_ ?_ | exact True.intro
    refine Stop.mk (run_unfold 2 3 rfl rfl (run_unfold 2 4 rfl rfl (go 1000 Try.func55 ?_)))
    repeat' first | refine Len.map ?_ | refine Len.nil ?_ | refine Len.cons ?_ | refine Br.t rfl ?_ | refine Br.f rfl ?_ | refine Fit.au ?_ | refine Need.au ?_ | refine Pick.map (by assumption) ?_ | refine Pick.mapI (by omega) (by assumption) ?_ | refine PickN.mk _ (by assumption) ?_ | refine PickN.mk _ rfl ?_ | refine PickN.au ?_ | refine App.au rfl ?_ | refine App.au (own_map (fun _ => rfl) _) ?_ | refine Both.mk ?_ ?_ | exact True.intro
    rw [take_all (by omega)]
    rfl
end Go.Proofs.Ytnfkdilmoppbpaa

/- What the document inserts into a function, by a contract. -/
namespace Go.Proofs.Ytnfkdilmoppbpaa
open Go.Ax
set_option maxRecDepth 10000
set_option linter.unusedVariables false

def cblk (b : List Ins) : List AV := [.osl 9 (b.map Ins.cs)]
def refB (f : Fun) (p : List (List Int)) (k : Nat) (b : List Ins) : List Ins := headR (toldR f k p) ++ b.flatMap aft
def refF (f : Fun) : Fun := { f with blocks := f.blocks.mapIdx (refB f (predsF (succsF f))) }
def Fun.ccs (f : Fun) : List AV := [.lit (.string f.name), num f.params, num f.ret, .osl 1 (f.regs.map int1), .osl 1 (f.blocks.map cblk)]
theorem refF_at {f : Fun} {k : Nat} {b : List Ins} (gb : f.blocks[k]? = some b) : (refF f).blocks[k]? = some (refB f (predsF (succsF f)) k b) := by
  unfold refF; simp [gb]
theorem refF_len (f : Fun) : (refF f).blocks.length = f.blocks.length := by unfold refF; simp
theorem headR_len (t : Int × Int × Int) : (headR t).length ≤ 2 := by unfold headR; rw [List.length_append]; split <;> split <;> simp
def rH (f : Fun) (k : Nat) : HP := [(0, .var f.cs), (1, .var z5), (2, .var [.lit (.string f.name), num f.params, num f.ret, .osl 1 (f.regs.map int1), .osl 1 (((refF f).blocks.take k).map cblk)])]
theorem cins_le (op dst a b c n m s : AV) : OLeL [op, dst, a, b, c, n, m, s, .lit (.slice none 0 0)] [op, dst, a, b, c, n, m, s, ints []] :=
  .cons (.refl _) (.cons (.refl _) (.cons (.refl _) (.cons (.refl _) (.cons (.refl _) (.cons (.refl _) (.cons (.refl _) (.cons (.refl _) (.cons (.one .none rfl) .nil))))))))
set_option maxHeartbeats 2000000 in
theorem Insert83_spec (f : Fun) (hf : f.fits) (hok : f.okP) (hn : f.blocks.length ≤ 100000) (hg : f.regs.length ≤ 1000000) (hb : ∀ b ∈ f.blocks, b.length ≠ 0 ∧ b.length ≤ 1000000) :
    FnSpec Try.prog 83 [funA f] (fun r => r = .agg (refF f).ccs) := by
  have hT := fun (k : Nat) (hk : k < f.blocks.length) => Told111_spec f k hk hf hok (by omega) hb
  have hat := fun k b => refF_at (f := f) (k := k) (b := b)
  have hlen := refF_len f
  generalize predsF (succsF f) = p at *
  refine spec_of 5 Try.func83 rfl rfl ?_
  repeat' first | refine Len.map ?_ | refine Len.nil ?_ | refine Len.cons ?_ | refine Br.t rfl ?_ | refine Br.f rfl ?_ | refine Fit.au ?_ | refine Need.au ?_ | refine Pick.map (by assumption) ?_ | refine Pick.mapI (by omega) (by assumption) ?_ | refine PickN.mk _ (by assumption) ?_ | refine PickN.mk _ rfl ?_ | refine PickN.au ?_ | refine App.au rfl ?_ | refine App.au (own_map (fun _ => rfl) _) ?_ | refine Both.mk ?_ ?_ | exact True.intro
  refine Stop.mk ?_
  apply join (fun _ : Unit => [(1, .hp 0 0), (2, .hp 1 0), (3, .hp 2 0)]) (fun _ => [(0, .var f.cs), (1, .var z5), (2, .var [.lit (.string f.name), num f.params, num f.ret, .osl 1 (f.regs.map int1), .lit (.slice none 0 0)])]) 3 (fun _ => True)
  · intro jn
    refine go 2 Try.func83 ?_
    repeat' first | refine Draw.mk (.one 0 false (.one 1 false (.one 2 false (.one 3 false (.one 4 false (.one 5 false (.one 6 false (.one 7 false (.alt 8 (ordL [10, 11] [9, 10, 11]) (.alt 10 (ordL [8, 11] [8, 9, 11]) .no)))))))))) (by decide +kernel) ?_ | refine Call.eq (Ints_spec f.regs hg) rfl ?_ | refine Len.map ?_ | refine Len.nil ?_ | refine Len.cons ?_ | refine Br.t rfl ?_ | refine Br.f rfl ?_ | refine Fit.au ?_ | refine Need.au ?_ | refine Pick.map (by assumption) ?_ | refine Pick.mapI (by omega) (by assumption) ?_ | refine PickN.mk _ (by assumption) ?_ | refine PickN.mk _ rfl ?_ | refine PickN.au ?_ | refine App.au rfl ?_ | refine App.au (own_map (fun _ => rfl) _) ?_ | refine Both.mk ?_ ?_ | exact True.intro
    all_goals (refine Stop.mk ?_; first | (refine jn () (g := [(2, 2)]) _ _ _ ⟨rfl, ?_, ?_⟩ trivial; all_goals (repeat' first | exact trivial | refine ⟨rfl, ?_⟩); done) | (refine jn () (g := [(2, 3)]) _ _ _ ⟨rfl, ?_, ?_⟩ trivial; all_goals (repeat' first | exact trivial | refine ⟨rfl, ?_⟩); done) | (refine jn () (g := [(2, 4)]) _ _ _ ⟨rfl, ?_, ?_⟩ trivial; all_goals (repeat' first | exact trivial | refine ⟨rfl, ?_⟩); done))
  intro _ _
  refine run_varLe 2 rfl (.cons (.refl _) (.cons (.refl _) (.cons (.refl _) (.cons (.refl _) (.cons (VLe.onil (sz := 1)) .nil))))) ?_
  refine go 1000 Try.func83 ?_
  repeat' first | refine Len.map ?_ | refine Len.nil ?_ | refine Len.cons ?_ | refine Br.t rfl ?_ | refine Br.f rfl ?_ | refine Fit.au ?_ | refine Need.au ?_ | refine Pick.map (by assumption) ?_ | refine Pick.mapI (by omega) (by assumption) ?_ | refine PickN.mk _ (by assumption) ?_ | refine PickN.mk _ rfl ?_ | refine PickN.au ?_ | refine App.au rfl ?_ | refine App.au (own_map (fun _ => rfl) _) ?_ | refine Both.mk ?_ ?_ | exact True.intro
  refine Stop.mk (loop_in (g := []) (fun k : Nat => [(1, .hp 0 0), (2, .hp 1 0), (3, .hp 2 0), (4, num k)]) (fun k => rH f k) 3 (fun k => k ≤ f.blocks.length) (fun k => f.blocks.length - k) 0 (by omega) ⟨rfl, (by repeat' first | exact trivial | refine ⟨rfl, ?_⟩ | refine ⟨congrArg (fun n => AV.lit (.int .i64 n)) (by omega), ?_⟩ | refine ⟨congrArg (fun l => some (Row.row 1 l)) (by simp [int1, num, tru]), ?_⟩), (by repeat' first | exact trivial | refine ⟨rfl, ?_⟩ | refine ⟨congrArg (fun n => AV.lit (.int .i64 n)) (by omega), ?_⟩ | refine ⟨congrArg (fun l => some (Row.row 1 l)) (by simp [int1, num, tru]), ?_⟩)⟩ (fun k hk ih => ?_))
  by_cases hkl : k < f.blocks.length
  · obtain ⟨b, gb, gbm⟩ := getK (l := f.blocks) (k := k) (by omega)
    have gout := hat k b gb
    unfold refB at gout
    have hTk := hT k (by omega)
    have hhl := headR_len (toldR f k p)
    generalize toldR f k p = t at gout hTk hhl
    obtain ⟨o, x, y⟩ := t
    apply join (fun _ : Unit => [(1, .hp 0 0), (2, .hp 1 0), (3, .hp 2 0), (4, num k), (5, .hw 3), (9, num 0)]) (fun _ => rH f k ++ [(3, .row 9 ((headR (o, x, y)).map Ins.cs))]) 4 (fun _ => True)
    · intro jn
      have hhead : headR (o, x, y) = (if 0 < o then [piIns x y o] else []) ++ if 0 < o ∧ o ≤ 8 ∧ x ≠ y then [piIns y x (turnedF o)] else [] := rfl
      refine go 1000 Try.func83 ?_
      repeat' first | refine Len.map ?_ | refine Len.nil ?_ | refine Len.cons ?_ | refine Br.t rfl ?_ | refine Br.f rfl ?_ | refine Fit.au ?_ | refine Need.au ?_ | refine Pick.map (by assumption) ?_ | refine Pick.mapI (by omega) (by assumption) ?_ | refine PickN.mk _ (by assumption) ?_ | refine PickN.mk _ rfl ?_ | refine PickN.au ?_ | refine App.au rfl ?_ | refine App.au (own_map (fun _ => rfl) _) ?_ | refine Both.mk ?_ ?_ | exact True.intro
      refine Br.d (fun h2 => ?_) (fun h2 => absurd hkl (by omega))
      repeat' first | refine Call.eq hTk rfl ?_ | refine Len.map ?_ | refine Len.nil ?_ | refine Len.cons ?_ | refine Br.t rfl ?_ | refine Br.f rfl ?_ | refine Fit.au ?_ | refine Need.au ?_ | refine Pick.map (by assumption) ?_ | refine Pick.mapI (by omega) (by assumption) ?_ | refine PickN.mk _ (by assumption) ?_ | refine PickN.mk _ rfl ?_ | refine PickN.au ?_ | refine App.au rfl ?_ | refine App.au (own_map (fun _ => rfl) _) ?_ | refine Both.mk ?_ ?_ | exact True.intro
      refine Br.d (fun h3 => ?_) (fun h3 => ?_)
      · replace h3 : 0 < o := h3
        rw [if_pos h3] at hhead
        repeat' first | refine Len.map ?_ | refine Len.nil ?_ | refine Len.cons ?_ | refine Br.t rfl ?_ | refine Br.f rfl ?_ | refine Fit.au ?_ | refine Need.au ?_ | refine Pick.map (by assumption) ?_ | refine Pick.mapI (by omega) (by assumption) ?_ | refine PickN.mk _ (by assumption) ?_ | refine PickN.mk _ rfl ?_ | refine PickN.au ?_ | refine App.au rfl ?_ | refine App.au (own_map (fun _ => rfl) _) ?_ | refine Both.mk ?_ ?_ | exact True.intro
        refine Br.d (fun h4 => ?_) (fun h4 => absurd h3 h4)
        repeat' first | refine Len.map ?_ | refine Len.nil ?_ | refine Len.cons ?_ | refine Br.t rfl ?_ | refine Br.f rfl ?_ | refine Fit.au ?_ | refine Need.au ?_ | refine Pick.map (by assumption) ?_ | refine Pick.mapI (by omega) (by assumption) ?_ | refine PickN.mk _ (by assumption) ?_ | refine PickN.mk _ rfl ?_ | refine PickN.au ?_ | refine App.au rfl ?_ | refine App.au (own_map (fun _ => rfl) _) ?_ | refine Both.mk ?_ ?_ | exact True.intro
        refine Br.d (fun h5 => ?_) (fun h5 => ?_)
        · replace h5 : o ≤ 8 := h5
          repeat' first | refine Len.map ?_ | refine Len.nil ?_ | refine Len.cons ?_ | refine Br.t rfl ?_ | refine Br.f rfl ?_ | refine Fit.au ?_ | refine Need.au ?_ | refine Pick.map (by assumption) ?_ | refine Pick.mapI (by omega) (by assumption) ?_ | refine PickN.mk _ (by assumption) ?_ | refine PickN.mk _ rfl ?_ | refine PickN.au ?_ | refine App.au rfl ?_ | refine App.au (own_map (fun _ => rfl) _) ?_ | refine Both.mk ?_ ?_ | exact True.intro
          refine Br.nd (fun h6 => ?_) (fun h6 => ?_)
          · replace h6 : x ≠ y := h6
            rw [if_pos ⟨h3, h5, h6⟩] at hhead
            repeat' first | refine Call.eq (Turned50_spec _) rfl ?_ | refine Len.map ?_ | refine Len.nil ?_ | refine Len.cons ?_ | refine Br.t rfl ?_ | refine Br.f rfl ?_ | refine Fit.au ?_ | refine Need.au ?_ | refine Pick.map (by assumption) ?_ | refine Pick.mapI (by omega) (by assumption) ?_ | refine PickN.mk _ (by assumption) ?_ | refine PickN.mk _ rfl ?_ | refine PickN.au ?_ | refine App.au rfl ?_ | refine App.au (own_map (fun _ => rfl) _) ?_ | refine Both.mk ?_ ?_ | exact True.intro
            refine Stop.mk (run_rowO 7 rfl (.cons (cins_le _ _ _ _ _ _ _ _) (.cons (cins_le _ _ _ _ _ _ _ _) .nil)) ?_)
            refine jn () (g := [(3, 7)]) _ _ _ ?_ trivial
            rw [hhead]
            exact ⟨rfl, (by repeat' first | exact trivial | refine ⟨rfl, ?_⟩ | refine ⟨congrArg (fun n => AV.lit (.int .i64 n)) (by omega), ?_⟩ | refine ⟨congrArg (fun l => some (Row.row 1 l)) (by simp [int1, num, tru]), ?_⟩), (by repeat' first | exact trivial | refine ⟨rfl, ?_⟩ | refine ⟨congrArg (fun n => AV.lit (.int .i64 n)) (by omega), ?_⟩ | refine ⟨congrArg (fun l => some (Row.row 1 l)) (by simp [int1, num, tru]), ?_⟩)⟩
          · replace h6 : x = y := h6
            rw [if_neg (fun h => h.2.2 h6)] at hhead
            repeat' first | refine Len.map ?_ | refine Len.nil ?_ | refine Len.cons ?_ | refine Br.t rfl ?_ | refine Br.f rfl ?_ | refine Fit.au ?_ | refine Need.au ?_ | refine Pick.map (by assumption) ?_ | refine Pick.mapI (by omega) (by assumption) ?_ | refine PickN.mk _ (by assumption) ?_ | refine PickN.mk _ rfl ?_ | refine PickN.au ?_ | refine App.au rfl ?_ | refine App.au (own_map (fun _ => rfl) _) ?_ | refine Both.mk ?_ ?_ | exact True.intro
            refine Stop.mk (run_rowO 5 rfl (.cons (cins_le _ _ _ _ _ _ _ _) .nil) ?_)
            refine jn () (g := [(3, 5)]) _ _ _ ?_ trivial
            rw [hhead]
            exact ⟨rfl, (by repeat' first | exact trivial | refine ⟨rfl, ?_⟩ | refine ⟨congrArg (fun n => AV.lit (.int .i64 n)) (by omega), ?_⟩ | refine ⟨congrArg (fun l => some (Row.row 1 l)) (by simp [int1, num, tru]), ?_⟩), (by repeat' first | exact trivial | refine ⟨rfl, ?_⟩ | refine ⟨congrArg (fun n => AV.lit (.int .i64 n)) (by omega), ?_⟩ | refine ⟨congrArg (fun l => some (Row.row 1 l)) (by simp [int1, num, tru]), ?_⟩)⟩
        · replace h5 : ¬ o ≤ 8 := h5
          rw [if_neg (fun h => h5 h.2.1)] at hhead
          repeat' first | refine Len.map ?_ | refine Len.nil ?_ | refine Len.cons ?_ | refine Br.t rfl ?_ | refine Br.f rfl ?_ | refine Fit.au ?_ | refine Need.au ?_ | refine Pick.map (by assumption) ?_ | refine Pick.mapI (by omega) (by assumption) ?_ | refine PickN.mk _ (by assumption) ?_ | refine PickN.mk _ rfl ?_ | refine PickN.au ?_ | refine App.au rfl ?_ | refine App.au (own_map (fun _ => rfl) _) ?_ | refine Both.mk ?_ ?_ | exact True.intro
          refine Stop.mk (run_rowO 5 rfl (.cons (cins_le _ _ _ _ _ _ _ _) .nil) ?_)
          refine jn () (g := [(3, 5)]) _ _ _ ?_ trivial
          rw [hhead]
          exact ⟨rfl, (by repeat' first | exact trivial | refine ⟨rfl, ?_⟩ | refine ⟨congrArg (fun n => AV.lit (.int .i64 n)) (by omega), ?_⟩ | refine ⟨congrArg (fun l => some (Row.row 1 l)) (by simp [int1, num, tru]), ?_⟩), (by repeat' first | exact trivial | refine ⟨rfl, ?_⟩ | refine ⟨congrArg (fun n => AV.lit (.int .i64 n)) (by omega), ?_⟩ | refine ⟨congrArg (fun l => some (Row.row 1 l)) (by simp [int1, num, tru]), ?_⟩)⟩
      · replace h3 : ¬ 0 < o := h3
        rw [if_neg h3, if_neg (fun h => h3 h.1)] at hhead
        repeat' first | refine Len.map ?_ | refine Len.nil ?_ | refine Len.cons ?_ | refine Br.t rfl ?_ | refine Br.f rfl ?_ | refine Fit.au ?_ | refine Need.au ?_ | refine Pick.map (by assumption) ?_ | refine Pick.mapI (by omega) (by assumption) ?_ | refine PickN.mk _ (by assumption) ?_ | refine PickN.mk _ rfl ?_ | refine PickN.au ?_ | refine App.au rfl ?_ | refine App.au (own_map (fun _ => rfl) _) ?_ | refine Both.mk ?_ ?_ | exact True.intro
        refine Br.d (fun h4 => absurd h4 h3) (fun h4 => ?_)
        repeat' first | refine Len.map ?_ | refine Len.nil ?_ | refine Len.cons ?_ | refine Br.t rfl ?_ | refine Br.f rfl ?_ | refine Fit.au ?_ | refine Need.au ?_ | refine Pick.map (by assumption) ?_ | refine Pick.mapI (by omega) (by assumption) ?_ | refine PickN.mk _ (by assumption) ?_ | refine PickN.mk _ rfl ?_ | refine PickN.au ?_ | refine App.au rfl ?_ | refine App.au (own_map (fun _ => rfl) _) ?_ | refine Both.mk ?_ ?_ | exact True.intro
        refine Stop.mk (jn () (g := []) _ _ _ ?_ trivial)
        rw [hhead]
        exact ⟨rfl, (by repeat' first | exact trivial | refine ⟨rfl, ?_⟩ | refine ⟨congrArg (fun n => AV.lit (.int .i64 n)) (by omega), ?_⟩ | refine ⟨congrArg (fun l => some (Row.row 1 l)) (by simp [int1, num, tru]), ?_⟩), (by repeat' first | exact trivial | refine ⟨rfl, ?_⟩ | refine ⟨congrArg (fun n => AV.lit (.int .i64 n)) (by omega), ?_⟩ | refine ⟨congrArg (fun l => some (Row.row 1 l)) (by simp [int1, num, tru]), ?_⟩)⟩
    · intro _ _
      have hbl := (hb b gbm).2
      have hbt : ((refF f).blocks.take k).length ≤ k := by rw [List.length_take]; omega
      have houts := take_succ gout
      generalize headR (o, x, y) = h0 at *
      refine loop_in (g := []) (fun j : Nat => [(1, .hp 0 0), (2, .hp 1 0), (3, .hp 2 0), (4, num k), (5, .hw 3), (9, num j)]) (fun j => rH f k ++ [(3, .row 9 ((h0 ++ (b.take j).flatMap aft).map Ins.cs))]) 4 (fun j => j ≤ b.length) (fun j => b.length - j) 0 (by omega) ?_ (fun j hj ih2 => ?_)
      · rw [List.take_zero, List.flatMap_nil, List.append_nil]; exact ⟨rfl, (by repeat' first | exact trivial | refine ⟨rfl, ?_⟩ | refine ⟨congrArg (fun n => AV.lit (.int .i64 n)) (by omega), ?_⟩ | refine ⟨congrArg (fun l => some (Row.row 1 l)) (by simp [int1, num, tru]), ?_⟩), (by repeat' first | exact trivial | refine ⟨rfl, ?_⟩ | refine ⟨congrArg (fun n => AV.lit (.int .i64 n)) (by omega), ?_⟩ | refine ⟨congrArg (fun l => some (Row.row 1 l)) (by simp [int1, num, tru]), ?_⟩)⟩
      have hcl : ((b.take j).flatMap aft).length ≤ 2 * j := by
        have := aft_len (b.take j)
        rw [List.length_take] at this; omega
      have hcur : (h0 ++ (b.take j).flatMap aft).length ≤ 2 + 2 * j := by rw [List.length_append]; omega
      refine go 1000 Try.func83 ?_
      repeat' first | refine Pick.map gb ?_ | refine Len.map ?_ | refine Len.nil ?_ | refine Len.cons ?_ | refine Br.t rfl ?_ | refine Br.f rfl ?_ | refine Fit.au ?_ | refine Need.au ?_ | refine Pick.map (by assumption) ?_ | refine Pick.mapI (by omega) (by assumption) ?_ | refine PickN.mk _ (by assumption) ?_ | refine PickN.mk _ rfl ?_ | refine PickN.au ?_ | refine App.au rfl ?_ | refine App.au (own_map (fun _ => rfl) _) ?_ | refine Both.mk ?_ ?_ | exact True.intro
      refine Br.d (fun h3 => ?_) (fun h3 => ?_)
      · obtain ⟨i, gi, gim⟩ := getK (l := b) (k := j) (by omega)
        have hnext : (h0 ++ (b.take (j + 1)).flatMap aft) = (h0 ++ (b.take j).flatMap aft) ++ aft i := by rw [flatMap_take_succ aft gi, List.append_assoc]
        generalize h0 ++ (b.take j).flatMap aft = cur at *
        repeat' first | refine Pick.map gb ?_ | refine Pick.map gi ?_ | refine Len.map ?_ | refine Len.nil ?_ | refine Len.cons ?_ | refine Br.t rfl ?_ | refine Br.f rfl ?_ | refine Fit.au ?_ | refine Need.au ?_ | refine Pick.map (by assumption) ?_ | refine Pick.mapI (by omega) (by assumption) ?_ | refine PickN.mk _ (by assumption) ?_ | refine PickN.mk _ rfl ?_ | refine PickN.au ?_ | refine App.au rfl ?_ | refine App.au (own_map (fun _ => rfl) _) ?_ | refine Both.mk ?_ ?_ | exact True.intro
        refine Br.d (fun h4 => ?_) (fun h4 => ?_)
        · rw [show aft i = [i, piIns i.b i.a 20] by unfold aft; rw [if_pos h4]] at hnext
          repeat' first | refine Len.map ?_ | refine Len.nil ?_ | refine Len.cons ?_ | refine Br.t rfl ?_ | refine Br.f rfl ?_ | refine Fit.au ?_ | refine Need.au ?_ | refine Pick.map (by assumption) ?_ | refine Pick.mapI (by omega) (by assumption) ?_ | refine PickN.mk _ (by assumption) ?_ | refine PickN.mk _ rfl ?_ | refine PickN.au ?_ | refine App.au rfl ?_ | refine App.au (own_map (fun _ => rfl) _) ?_ | refine Both.mk ?_ ?_ | exact True.intro
          refine Stop.mk (run_rowO 8 rfl (OLeLL.app (.refl _) (.cons (cins_le _ _ _ _ _ _ _ _) .nil)) ?_)
          refine ih2 (j + 1) (g := [(3, 8)]) _ _ _ (by omega) (by omega) ?_
          rw [hnext, show cur ++ [i, piIns i.b i.a 20] = (cur ++ [i]) ++ [piIns i.b i.a 20] by simp, List.map_append, List.map_append]
          exact ⟨rfl, (by repeat' first | exact trivial | refine ⟨rfl, ?_⟩ | refine ⟨congrArg (fun n => AV.lit (.int .i64 n)) (by omega), ?_⟩ | refine ⟨congrArg (fun l => some (Row.row 1 l)) (by simp [int1, num, tru]), ?_⟩), (by repeat' first | exact trivial | refine ⟨rfl, ?_⟩ | refine ⟨congrArg (fun n => AV.lit (.int .i64 n)) (by omega), ?_⟩ | refine ⟨congrArg (fun l => some (Row.row 1 l)) (by simp [int1, num, tru]), ?_⟩)⟩
        · rw [show aft i = [i] by unfold aft; rw [if_neg h4]] at hnext
          repeat' first | refine Len.map ?_ | refine Len.nil ?_ | refine Len.cons ?_ | refine Br.t rfl ?_ | refine Br.f rfl ?_ | refine Fit.au ?_ | refine Need.au ?_ | refine Pick.map (by assumption) ?_ | refine Pick.mapI (by omega) (by assumption) ?_ | refine PickN.mk _ (by assumption) ?_ | refine PickN.mk _ rfl ?_ | refine PickN.au ?_ | refine App.au rfl ?_ | refine App.au (own_map (fun _ => rfl) _) ?_ | refine Both.mk ?_ ?_ | exact True.intro
          refine Stop.mk (ih2 (j + 1) (g := [(3, 6)]) _ _ _ (by omega) (by omega) ?_)
          rw [hnext, List.map_append]
          exact ⟨rfl, (by repeat' first | exact trivial | refine ⟨rfl, ?_⟩ | refine ⟨congrArg (fun n => AV.lit (.int .i64 n)) (by omega), ?_⟩ | refine ⟨congrArg (fun l => some (Row.row 1 l)) (by simp [int1, num, tru]), ?_⟩), (by repeat' first | exact trivial | refine ⟨rfl, ?_⟩ | refine ⟨congrArg (fun n => AV.lit (.int .i64 n)) (by omega), ?_⟩ | refine ⟨congrArg (fun l => some (Row.row 1 l)) (by simp [int1, num, tru]), ?_⟩)⟩
      · repeat' first | refine Len.map ?_ | refine Len.nil ?_ | refine Len.cons ?_ | refine Br.t rfl ?_ | refine Br.f rfl ?_ | refine Fit.au ?_ | refine Need.au ?_ | refine Pick.map (by assumption) ?_ | refine Pick.mapI (by omega) (by assumption) ?_ | refine PickN.mk _ (by assumption) ?_ | refine PickN.mk _ rfl ?_ | refine PickN.au ?_ | refine App.au rfl ?_ | refine App.au (own_map (fun _ => rfl) _) ?_ | refine Both.mk ?_ ?_ | exact True.intro
        refine Stop.mk (ih (k + 1) (g := []) _ _ _ (by omega) (by omega) ?_)
        unfold rH
        rw [houts, List.map_append (f := cblk)]
        have : j = b.length := by omega
        subst this
        rw [List.take_length]
        exact ⟨rfl, (by repeat' first | exact trivial | refine ⟨rfl, ?_⟩ | refine ⟨congrArg (fun n => AV.lit (.int .i64 n)) (by omega), ?_⟩ | refine ⟨congrArg (fun l => some (Row.row 1 l)) (by simp [int1, num, tru]), ?_⟩), (by repeat' first | exact trivial | refine ⟨rfl, ?_⟩ | refine ⟨congrArg (fun n => AV.lit (.int .i64 n)) (by omega), ?_⟩ | refine ⟨congrArg (fun l => some (Row.row 1 l)) (by simp [int1, num, tru]), ?_⟩)⟩
  · refine go 1000 Try.func83 ?_
    repeat' first | refine Len.map ?_ | refine Len.nil ?_ | refine Len.cons ?_ | refine Br.t rfl ?_ | refine Br.f rfl ?_ | refine Fit.au ?_ | refine Need.au ?_ | refine Pick.map (by assumption) ?_ | refine Pick.mapI (by omega) (by assumption) ?_ | refine PickN.mk _ (by assumption) ?_ | refine PickN.mk _ rfl ?_ | refine PickN.au ?_ | refine App.au rfl ?_ | refine App.au (own_map (fun _ => rfl) _) ?_ | refine Both.mk ?_ ?_ | exact True.intro
    refine Br.d (fun h2 => absurd h2 (by omega)) (fun h2 => ?_)
    repeat' first | refine Len.map ?_ | refine Len.nil ?_ | refine Len.cons ?_ | refine Br.t rfl ?_ | refine Br.f rfl ?_ | refine Fit.au ?_ | refine Need.au ?_ | refine Pick.map (by assumption) ?_ | refine Pick.mapI (by omega) (by assumption) ?_ | refine PickN.mk _ (by assumption) ?_ | refine PickN.mk _ rfl ?_ | refine PickN.au ?_ | refine App.au rfl ?_ | refine App.au (own_map (fun _ => rfl) _) ?_ | refine Both.mk ?_ ?_ | exact True.intro
    refine Stop.mk (run_unfold 2 3 rfl rfl (run_unfold 2 4 rfl rfl (go 1000 Try.func83 ?_)))
    repeat' first | refine Len.map ?_ | refine Len.nil ?_ | refine Len.cons ?_ | refine Br.t rfl ?_ | refine Br.f rfl ?_ | refine Fit.au ?_ | refine Need.au ?_ | refine Pick.map (by assumption) ?_ | refine Pick.mapI (by omega) (by assumption) ?_ | refine PickN.mk _ (by assumption) ?_ | refine PickN.mk _ rfl ?_ | refine PickN.au ?_ | refine App.au rfl ?_ | refine App.au (own_map (fun _ => rfl) _) ?_ | refine Both.mk ?_ ?_ | exact True.intro
    rw [take_all (by omega)]
    rfl
end Go.Proofs.Ytnfkdilmoppbpaa

/- What the document inserts into a program, by a contract. -/
namespace Go.Proofs.Ytnfkdilmoppbpaa
open Go.Ax
set_option maxRecDepth 10000
set_option linter.unusedVariables false

set_option maxHeartbeats 2000000 in
theorem refPro_spec (p : Pro) (ho : p.okT) (hok : ∀ f ∈ p.funcs, f.okP ∧ ∀ b ∈ f.blocks, b.length ≠ 0) : FnSpec Try.prog 53 [proA p] (fun r => r = .agg [.osl 5 (p.funcs.map fun f => (refF f).ccs), num p.main, .osl 2 (p.sites.map site)]) := by
  obtain ⟨hp1, hp2, hp3⟩ := ho
  refine spec_of 5 Try.func53 rfl rfl ?_
  repeat' first | refine Len.map ?_ | refine Len.nil ?_ | refine Len.cons ?_ | refine Br.t rfl ?_ | refine Br.f rfl ?_ | refine Fit.au ?_ | refine Need.au ?_ | refine Pick.map (by assumption) ?_ | refine Pick.mapI (by omega) (by assumption) ?_ | refine PickN.mk _ (by assumption) ?_ | refine PickN.mk _ rfl ?_ | refine PickN.au ?_ | refine App.au rfl ?_ | refine App.au (own_map (fun _ => rfl) _) ?_ | refine Both.mk ?_ ?_ | exact True.intro
  refine Stop.mk ?_
  apply join (fun _ : Unit => [(1, .hp 0 0), (2, .hp 1 0), (3, .hp 2 0)]) (fun _ => [(0, .var p.cs), (1, .var [.lit (.slice none 0 0), num 0, .lit (.slice none 0 0)]), (2, .var [.lit (.slice none 0 0), num p.main, .osl 2 (p.sites.map site)])]) 3 (fun _ => True)
  · intro jn
    refine go 2 Try.func53 ?_
    repeat' first | refine Draw.mk (.one 0 false (.one 3 false (.one 4 false (.alt 1 (.alt 2 (.alt 5 (ordL [7, 8] [6, 7, 8]) (.alt 7 (ordL [5, 8] [5, 6, 8]) .no)) (.alt 7 (ordL [2, 5, 8] [2, 5, 6, 8]) .no)) (.alt 2 (.alt 1 (.alt 5 (ordL [7, 8] [6, 7, 8]) (.alt 7 (ordL [5, 8] [5, 6, 8]) .no)) (.alt 5 (ordL [7, 8] [1, 6, 7, 8]) (.alt 7 (.alt 1 (ordL [5, 8] [5, 6, 8]) (.alt 5 (ordL [8] [1, 6, 8]) .no)) .no))) (.alt 7 (.alt 1 (ordL [2, 5, 8] [2, 5, 6, 8]) (.alt 2 (.alt 1 (ordL [5, 8] [5, 6, 8]) (.alt 5 (ordL [8] [1, 6, 8]) .no)) .no)) .no)))))) (by decide +kernel) ?_ | refine Draw.mk (ordL [3, 6, 7, 8, 9, 11] [0, 1, 2, 4, 3, 5, 6, 7, 8, 9, 10, 11]) (by decide +kernel) ?_ | refine Len.map ?_ | refine Len.nil ?_ | refine Len.cons ?_ | refine Br.t rfl ?_ | refine Br.f rfl ?_ | refine Fit.au ?_ | refine Need.au ?_ | refine Pick.map (by assumption) ?_ | refine Pick.mapI (by omega) (by assumption) ?_ | refine PickN.mk _ (by assumption) ?_ | refine PickN.mk _ rfl ?_ | refine PickN.au ?_ | refine App.au rfl ?_ | refine App.au (own_map (fun _ => rfl) _) ?_ | refine Both.mk ?_ ?_ | exact True.intro
    all_goals (refine Stop.mk ?_; first | (refine jn () (g := [(2, 2)]) _ _ _ ⟨rfl, ?_, ?_⟩ trivial; all_goals (repeat' first | exact trivial | refine ⟨rfl, ?_⟩); done) | (refine jn () (g := [(2, 3)]) _ _ _ ⟨rfl, ?_, ?_⟩ trivial; all_goals (repeat' first | exact trivial | refine ⟨rfl, ?_⟩); done) | (refine jn () (g := [(2, 4)]) _ _ _ ⟨rfl, ?_, ?_⟩ trivial; all_goals (repeat' first | exact trivial | refine ⟨rfl, ?_⟩); done))
  intro _ _
  refine run_varLe 2 rfl (.cons (VLe.onil (sz := 5)) (.cons (.refl _) (.cons (.refl _) .nil))) ?_
  refine go 1000 Try.func53 ?_
  repeat' first | refine Len.map ?_ | refine Len.nil ?_ | refine Len.cons ?_ | refine Br.t rfl ?_ | refine Br.f rfl ?_ | refine Fit.au ?_ | refine Need.au ?_ | refine Pick.map (by assumption) ?_ | refine Pick.mapI (by omega) (by assumption) ?_ | refine PickN.mk _ (by assumption) ?_ | refine PickN.mk _ rfl ?_ | refine PickN.au ?_ | refine App.au rfl ?_ | refine App.au (own_map (fun _ => rfl) _) ?_ | refine Both.mk ?_ ?_ | exact True.intro
  refine Stop.mk (loop_in (g := []) (fun k : Nat => [(1, .hp 0 0), (2, .hp 1 0), (3, .hp 2 0), (4, num k)]) (fun k => [(0, .var p.cs), (1, .var [.lit (.slice none 0 0), num 0, .lit (.slice none 0 0)]), (2, .var [.osl 5 ((p.funcs.take k).map fun f => (refF f).ccs), num p.main, .osl 2 (p.sites.map site)])]) 3 (fun k => k ≤ p.funcs.length) (fun k => p.funcs.length - k) 0 (by omega) ⟨rfl, (by repeat' first | exact trivial | refine ⟨rfl, ?_⟩ | refine ⟨congrArg (fun n => AV.lit (.int .i64 n)) (by omega), ?_⟩ | refine ⟨congrArg (fun l => some (Row.row 1 l)) (by simp [int1, num, tru]), ?_⟩), (by repeat' first | exact trivial | refine ⟨rfl, ?_⟩ | refine ⟨congrArg (fun n => AV.lit (.int .i64 n)) (by omega), ?_⟩ | refine ⟨congrArg (fun l => some (Row.row 1 l)) (by simp [int1, num, tru]), ?_⟩)⟩ (fun k hk ih => ?_))
  refine go 1000 Try.func53 ?_
  repeat' first | refine Len.map ?_ | refine Len.nil ?_ | refine Len.cons ?_ | refine Br.t rfl ?_ | refine Br.f rfl ?_ | refine Fit.au ?_ | refine Need.au ?_ | refine Pick.map (by assumption) ?_ | refine Pick.mapI (by omega) (by assumption) ?_ | refine PickN.mk _ (by assumption) ?_ | refine PickN.mk _ rfl ?_ | refine PickN.au ?_ | refine App.au rfl ?_ | refine App.au (own_map (fun _ => rfl) _) ?_ | refine Both.mk ?_ ?_ | exact True.intro
  refine Br.d (fun h2 => ?_) (fun h2 => ?_)
  · obtain ⟨f, gf, gm⟩ := getK (l := p.funcs) (k := k) (by omega)
    obtain ⟨hf, hbl, hrl, hbb⟩ := hp3 f gm
    have hI := Insert83_spec f hf (hok f gm).1 hbl hrl (fun b hb => ⟨(hok f gm).2 b hb, (hbb b hb).1⟩)
    have hnext := take_succ gf
    have htl : (p.funcs.take k).length ≤ k := by rw [List.length_take]; omega
    repeat' first | refine Draw.mk (.one 0 false (.one 3 false (.one 4 false (.alt 1 (.alt 2 (.alt 5 (ordL [7, 8] [6, 7, 8]) (.alt 7 (ordL [5, 8] [5, 6, 8]) .no)) (.alt 7 (ordL [2, 5, 8] [2, 5, 6, 8]) .no)) (.alt 2 (.alt 1 (.alt 5 (ordL [7, 8] [6, 7, 8]) (.alt 7 (ordL [5, 8] [5, 6, 8]) .no)) (.alt 5 (ordL [7, 8] [1, 6, 7, 8]) (.alt 7 (.alt 1 (ordL [5, 8] [5, 6, 8]) (.alt 5 (ordL [8] [1, 6, 8]) .no)) .no))) (.alt 7 (.alt 1 (ordL [2, 5, 8] [2, 5, 6, 8]) (.alt 2 (.alt 1 (ordL [5, 8] [5, 6, 8]) (.alt 5 (ordL [8] [1, 6, 8]) .no)) .no)) .no)))))) (by decide +kernel) ?_ | refine Draw.mk (.one 0 false (.one 2 false (.one 4 false (.alt 1 (ordL [3, 6, 7, 8, 9, 11] [3, 5, 6, 7, 8, 9, 10, 11]) (.alt 3 (.one 5 false (.alt 1 (ordL [6, 7, 8, 9, 11] [6, 7, 8, 9, 10, 11]) (.alt 6 (.alt 1 (ordL [7, 8, 9, 11] [7, 8, 9, 10, 11]) (.alt 7 (.alt 1 (ordL [8, 9, 11] [8, 9, 10, 11]) (.alt 8 (ordL [1, 9, 11] [1, 9, 10, 11]) .no)) .no)) .no))) .no))))) (by decide +kernel) ?_ | refine Pick.map gf ?_ | refine Call.eq hI rfl ?_ | refine Len.map ?_ | refine Len.nil ?_ | refine Len.cons ?_ | refine Br.t rfl ?_ | refine Br.f rfl ?_ | refine Fit.au ?_ | refine Need.au ?_ | refine Pick.map (by assumption) ?_ | refine Pick.mapI (by omega) (by assumption) ?_ | refine PickN.mk _ (by assumption) ?_ | refine PickN.mk _ rfl ?_ | refine PickN.au ?_ | refine App.au rfl ?_ | refine App.au (own_map (fun _ => rfl) _) ?_ | refine Both.mk ?_ ?_ | exact True.intro
    all_goals
      refine Stop.mk (ih (k + 1) (g := []) _ _ _ (by omega) (by omega) ?_)
      rw [hnext, List.map_append]
      exact ⟨rfl, (by repeat' first | exact trivial | refine ⟨rfl, ?_⟩ | refine ⟨congrArg (fun n => AV.lit (.int .i64 n)) (by omega), ?_⟩ | refine ⟨congrArg (fun l => some (Row.row 1 l)) (by simp [int1, num, tru]), ?_⟩), (by repeat' first | exact trivial | refine ⟨rfl, ?_⟩ | refine ⟨congrArg (fun n => AV.lit (.int .i64 n)) (by omega), ?_⟩ | refine ⟨congrArg (fun l => some (Row.row 1 l)) (by simp [int1, num, tru]), ?_⟩)⟩
  · repeat' first | refine Len.map ?_ | refine Len.nil ?_ | refine Len.cons ?_ | refine Br.t rfl ?_ | refine Br.f rfl ?_ | refine Fit.au ?_ | refine Need.au ?_ | refine Pick.map (by assumption) ?_ | refine Pick.mapI (by omega) (by assumption) ?_ | refine PickN.mk _ (by assumption) ?_ | refine PickN.mk _ rfl ?_ | refine PickN.au ?_ | refine App.au rfl ?_ | refine App.au (own_map (fun _ => rfl) _) ?_ | refine Both.mk ?_ ?_ | exact True.intro
    refine Stop.mk (run_unfold 2 0 rfl rfl (run_unfold 2 2 rfl rfl (go 1000 Try.func53 ?_)))
    repeat' first | refine Len.map ?_ | refine Len.nil ?_ | refine Len.cons ?_ | refine Br.t rfl ?_ | refine Br.f rfl ?_ | refine Fit.au ?_ | refine Need.au ?_ | refine Pick.map (by assumption) ?_ | refine Pick.mapI (by omega) (by assumption) ?_ | refine PickN.mk _ (by assumption) ?_ | refine PickN.mk _ rfl ?_ | refine PickN.au ?_ | refine App.au rfl ?_ | refine App.au (own_map (fun _ => rfl) _) ?_ | refine Both.mk ?_ ?_ | exact True.intro
    rw [take_all (by omega)]
    rfl
end Go.Proofs.Ytnfkdilmoppbpaa

/- A program in which what is told is inserted, by a contract. -/
namespace Go.Proofs.Ytnfkdilmoppbpaa
open Go.Ax
set_option maxRecDepth 10000
set_option linter.unusedVariables false

theorem CloneF_spec (l : List Fun) (hl : l.length ≤ 1000000) : FnSpec Try.prog 84 [.sl false 5 (l.map Fun.cs)] (fun r => r = .osl 5 (l.map Fun.cs)) := by
  refine FnSpec.weakV (spec_of 1000 Try.func84 rfl rfl ?_)
  repeat' first | refine Len.map ?_ | refine Len.nil ?_ | refine Len.cons ?_ | refine Br.t rfl ?_ | refine Br.f rfl ?_ | refine Fit.au ?_ | refine Need.au ?_ | refine Pick.map (by assumption) ?_ | refine Pick.mapI (by omega) (by assumption) ?_ | refine PickN.mk _ (by assumption) ?_ | refine PickN.mk _ rfl ?_ | refine PickN.au ?_ | refine App.au rfl ?_ | refine App.au (own_map (fun _ => rfl) _) ?_ | refine Both.mk ?_ ?_ | exact True.intro
  refine NilT.mk fun b hb => ?_
  refine Br.mk (fun h => ?_) (fun h => ?_)
  · repeat' first | refine Len.map ?_ | refine Len.nil ?_ | refine Len.cons ?_ | refine Br.t rfl ?_ | refine Br.f rfl ?_ | refine Fit.au ?_ | refine Need.au ?_ | refine Pick.map (by assumption) ?_ | refine Pick.mapI (by omega) (by assumption) ?_ | refine PickN.mk _ (by assumption) ?_ | refine PickN.mk _ rfl ?_ | refine PickN.au ?_ | refine App.au rfl ?_ | refine App.au (own_map (fun _ => rfl) _) ?_ | refine Both.mk ?_ ?_ | exact True.intro
    refine .inr ?_
    have : l = [] := by simpa using hb (by simpa using h)
    subst this
    exact OLe.onil
  · repeat' first | refine Len.map ?_ | refine Len.nil ?_ | refine Len.cons ?_ | refine Br.t rfl ?_ | refine Br.f rfl ?_ | refine Fit.au ?_ | refine Need.au ?_ | refine Pick.map (by assumption) ?_ | refine Pick.mapI (by omega) (by assumption) ?_ | refine PickN.mk _ (by assumption) ?_ | refine PickN.mk _ rfl ?_ | refine PickN.au ?_ | refine App.au rfl ?_ | refine App.au (own_map (fun _ => rfl) _) ?_ | refine Both.mk ?_ ?_ | exact True.intro
    exact .inl rfl
def mixF (l : List Fun) (n : Nat) : List (List AV) := (l.take n).map (fun f => (insF f).ocs) ++ (l.drop n).map Fun.cs
theorem mixF_zero (l : List Fun) : mixF l 0 = l.map Fun.cs := by unfold mixF; simp
theorem mixF_all (l : List Fun) : mixF l l.length = l.map fun f => (insF f).ocs := by unfold mixF; simp
theorem mixF_at {l : List Fun} {n : Nat} {f : Fun} (g : l[n]? = some f) : (mixF l n)[n]? = some f.cs := by
  have hn := (List.getElem?_eq_some_iff.1 g).1
  unfold mixF
  rw [List.getElem?_append_right (by rw [List.length_map, List.length_take]; omega), List.length_map, List.length_take, show n - min n l.length = 0 by omega, List.getElem?_map, List.getElem?_drop, Nat.add_zero, g]
  rfl
theorem mixF_set {l : List Fun} {n : Nat} {f : Fun} (g : l[n]? = some f) : (mixF l n).set n (insF f).ocs = mixF l (n + 1) := by
  have hn := (List.getElem?_eq_some_iff.1 g).1
  unfold mixF
  rw [List.set_append_right _ _ (by rw [List.length_map, List.length_take]; omega), List.length_map, List.length_take, show n - min n l.length = 0 by omega, take_succ g, List.map_append, List.append_assoc]
  congr 1
  have : l.drop n = f :: l.drop (n + 1) := by
    have := List.drop_eq_getElem_cons hn
    rw [this]
    congr 1
    exact (List.getElem?_eq_some_iff.1 g).2
  rw [this]
  rfl
theorem mixF_len (l : List Fun) (n : Nat) (h : n ≤ l.length) : (mixF l n).length = l.length := by unfold mixF; simp; omega
set_option maxHeartbeats 2000000 in
theorem Program54_spec (p : Pro) (ho : p.okT) (hok : ∀ f ∈ p.funcs, f.okP) : FnSpec Try.prog 54 [proA p] (fun r => r = .agg [.osl 5 (p.funcs.map fun f => (insF f).ocs), num p.main, .osl 2 (p.sites.map site)]) := by
  obtain ⟨hp1, hp2, hp3⟩ := ho
  refine spec_of 7 Try.func54 rfl rfl ?_
  repeat' first | refine Draw.mk (ordL [2, 5, 7, 9] [0, 1, 3, 4, 2, 6, 5, 7, 8, 9]) (by decide +kernel) ?_ | refine Draw.mk (ordL [8, 10] [0, 1, 2, 3, 4, 5, 6, 7, 8, 9, 10]) (by decide +kernel) ?_ | refine Call.eq (CloneS_spec p.sites hp2) rfl ?_ | refine Call.eq (CloneF_spec p.funcs hp1) rfl ?_ | refine Len.map ?_ | refine Len.nil ?_ | refine Len.cons ?_ | refine Br.t rfl ?_ | refine Br.f rfl ?_ | refine Fit.au ?_ | refine Need.au ?_ | refine Pick.map (by assumption) ?_ | refine Pick.mapI (by omega) (by assumption) ?_ | refine PickN.mk _ (by assumption) ?_ | refine PickN.mk _ rfl ?_ | refine PickN.au ?_ | refine App.au rfl ?_ | refine App.au (own_map (fun _ => rfl) _) ?_ | refine Both.mk ?_ ?_ | exact True.intro
  refine Stop.mk (run_unfold 0 0 rfl rfl (go 1000 Try.func54 ?_))
  repeat' first | refine Len.map ?_ | refine Len.nil ?_ | refine Len.cons ?_ | refine Br.t rfl ?_ | refine Br.f rfl ?_ | refine Fit.au ?_ | refine Need.au ?_ | refine Pick.map (by assumption) ?_ | refine Pick.mapI (by omega) (by assumption) ?_ | refine PickN.mk _ (by assumption) ?_ | refine PickN.mk _ rfl ?_ | refine PickN.au ?_ | refine App.au rfl ?_ | refine App.au (own_map (fun _ => rfl) _) ?_ | refine Both.mk ?_ ?_ | exact True.intro
  refine Stop.mk (loop_in (g := [(2, 4)]) (fun n : Nat => [(1, .hp 0 0), (2, .hp 1 0), (14, num p.funcs.length), (15, num n)]) (fun n => [(0, .var [.hw 2, num p.main, .osl 2 (p.sites.map site)]), (1, .var [.lit (.slice none 0 0), num 0, .lit (.slice none 0 0)]), (2, .row 5 (mixF p.funcs n))]) 3 (fun n => n ≤ p.funcs.length) (fun n => p.funcs.length - n) 0 (by omega) ?_ (fun n hn ih => ?_))
  · rw [mixF_zero]; exact ⟨rfl, (by repeat' first | exact trivial | refine ⟨rfl, ?_⟩ | refine ⟨congrArg (fun n => AV.lit (.int .i64 n)) (by omega), ?_⟩ | refine ⟨congrArg (fun l => some (Row.row 1 l)) (by simp [int1, num, tru]), ?_⟩), (by repeat' first | exact trivial | refine ⟨rfl, ?_⟩ | refine ⟨congrArg (fun n => AV.lit (.int .i64 n)) (by omega), ?_⟩ | refine ⟨congrArg (fun l => some (Row.row 1 l)) (by simp [int1, num, tru]), ?_⟩)⟩
  refine go 1000 Try.func54 ?_
  repeat' first | refine Len.map ?_ | refine Len.nil ?_ | refine Len.cons ?_ | refine Br.t rfl ?_ | refine Br.f rfl ?_ | refine Fit.au ?_ | refine Need.au ?_ | refine Pick.map (by assumption) ?_ | refine Pick.mapI (by omega) (by assumption) ?_ | refine PickN.mk _ (by assumption) ?_ | refine PickN.mk _ rfl ?_ | refine PickN.au ?_ | refine App.au rfl ?_ | refine App.au (own_map (fun _ => rfl) _) ?_ | refine Both.mk ?_ ?_ | exact True.intro
  refine Br.d (fun h2 => ?_) (fun h2 => ?_)
  · obtain ⟨f, gf, gm⟩ := getK (l := p.funcs) (k := n) (by omega)
    obtain ⟨hf, hbl, hrl, hbb⟩ := hp3 f gm
    have gx := mixF_at gf
    have hset := mixF_set gf
    have hI := Insert55_spec f hf (hok f gm) hbl hrl (fun b hb => (hbb b hb).1)
    have hml := mixF_len p.funcs n hn
    repeat' first | refine Draw.mk (ordL [2, 5, 7, 9] [0, 1, 3, 4, 2, 6, 5, 7, 8, 9]) (by decide +kernel) ?_ | refine Draw.mk (ordL [8, 10] [0, 1, 2, 3, 4, 5, 6, 7, 8, 9, 10]) (by decide +kernel) ?_ | refine Need.mk ⟨by omega, by rw [hml]; omega⟩ ?_ | refine Pick.mk _ (by omega) gx ?_ | refine PickN.mk _ gx ?_ | refine Call.eq hI rfl ?_ | refine Len.map ?_ | refine Len.nil ?_ | refine Len.cons ?_ | refine Br.t rfl ?_ | refine Br.f rfl ?_ | refine Fit.au ?_ | refine Need.au ?_ | refine Pick.map (by assumption) ?_ | refine Pick.mapI (by omega) (by assumption) ?_ | refine PickN.mk _ (by assumption) ?_ | refine PickN.mk _ rfl ?_ | refine PickN.au ?_ | refine App.au rfl ?_ | refine App.au (own_map (fun _ => rfl) _) ?_ | refine Both.mk ?_ ?_ | exact True.intro
    all_goals
      refine Stop.mk (ih (n + 1) (g := []) _ _ _ (by omega) (by omega) ?_)
      rw [← hset]
      exact ⟨rfl, (by repeat' first | exact trivial | refine ⟨rfl, ?_⟩ | refine ⟨congrArg (fun n => AV.lit (.int .i64 n)) (by omega), ?_⟩ | refine ⟨congrArg (fun l => some (Row.row 1 l)) (by simp [int1, num, tru]), ?_⟩), (by repeat' first | exact trivial | refine ⟨rfl, ?_⟩ | refine ⟨congrArg (fun n => AV.lit (.int .i64 n)) (by omega), ?_⟩ | refine ⟨congrArg (fun l => some (Row.row 1 l)) (by simp [int1, num, tru]), ?_⟩)⟩
  · repeat' first | refine Len.map ?_ | refine Len.nil ?_ | refine Len.cons ?_ | refine Br.t rfl ?_ | refine Br.f rfl ?_ | refine Fit.au ?_ | refine Need.au ?_ | refine Pick.map (by assumption) ?_ | refine Pick.mapI (by omega) (by assumption) ?_ | refine PickN.mk _ (by assumption) ?_ | refine PickN.mk _ rfl ?_ | refine PickN.au ?_ | refine App.au rfl ?_ | refine App.au (own_map (fun _ => rfl) _) ?_ | refine Both.mk ?_ ?_ | exact True.intro
    refine Stop.mk (run_unfold 0 2 rfl rfl (go 1000 Try.func54 ?_))
    repeat' first | refine Len.map ?_ | refine Len.nil ?_ | refine Len.cons ?_ | refine Br.t rfl ?_ | refine Br.f rfl ?_ | refine Fit.au ?_ | refine Need.au ?_ | refine Pick.map (by assumption) ?_ | refine Pick.mapI (by omega) (by assumption) ?_ | refine PickN.mk _ (by assumption) ?_ | refine PickN.mk _ rfl ?_ | refine PickN.au ?_ | refine App.au rfl ?_ | refine App.au (own_map (fun _ => rfl) _) ?_ | refine Both.mk ?_ ?_ | exact True.intro
    rw [show n = p.funcs.length by omega, mixF_all]
    rfl
end Go.Proofs.Ytnfkdilmoppbpaa

/- Blocks and functions the same, and the document's numbers, by contracts. -/
namespace Go.Proofs.Ytnfkdilmoppbpaa
open Go.Ax
set_option maxRecDepth 10000
set_option linter.unusedVariables false

theorem SameBlock_spec (xs ys : List Ins) (hl : xs.length ≤ 1000000000) (ha : ∀ i ∈ xs, i.args.length ≤ 9223372036854775807) (hl2 : ys.length ≤ 9223372036854775807) : FnSpec Try.prog 57 [bsl xs, bsl ys] (fun r => r = tru (decide (xs = ys))) := by
  refine spec_of 1000 Try.func57 rfl rfl ?_
  repeat' first | refine Len.map ?_ | refine Len.nil ?_ | refine Len.cons ?_ | refine Br.t rfl ?_ | refine Br.f rfl ?_ | refine Fit.au ?_ | refine Need.au ?_ | refine Pick.map (by assumption) ?_ | refine Pick.mapI (by omega) (by assumption) ?_ | refine PickN.mk _ (by assumption) ?_ | refine PickN.mk _ rfl ?_ | refine PickN.au ?_ | refine App.au rfl ?_ | refine App.au (own_map (fun _ => rfl) _) ?_ | refine Both.mk ?_ ?_ | exact True.intro | refine Br.d (fun h => ?_) (fun h => ?_) | refine Br.nd (fun h => ?_) (fun h => ?_) | refine Br.mk (fun h => ?_) (fun h => ?_)
  · have : xs ≠ ys := fun e => h (by rw [e])
    show _ = _
    simp [asRes, tru, this]
  · refine Stop.mk (loop_in (g := []) (fun k : Nat => [(0, bsl xs), (1, bsl ys), (5, num k)]) (fun k => []) 0 (fun k => k ≤ xs.length ∧ xs.take k = ys.take k) (fun k => xs.length - k) 0 ⟨by omega, rfl⟩ ⟨rfl, (by repeat' first | exact trivial | refine ⟨rfl, ?_⟩ | refine ⟨congrArg (fun n => AV.lit (.int .i64 n)) (by omega), ?_⟩ | refine ⟨congrArg (fun l => some (Row.row 1 l)) (by simp [int1, num, tru]), ?_⟩), (by repeat' first | exact trivial | refine ⟨rfl, ?_⟩ | refine ⟨congrArg (fun n => AV.lit (.int .i64 n)) (by omega), ?_⟩ | refine ⟨congrArg (fun l => some (Row.row 1 l)) (by simp [int1, num, tru]), ?_⟩)⟩ (fun k hk ih => ?_))
    obtain ⟨hk1, hk2⟩ := hk
    refine go 1000 Try.func57 ?_
    repeat' first | refine Len.map ?_ | refine Len.nil ?_ | refine Len.cons ?_ | refine Br.t rfl ?_ | refine Br.f rfl ?_ | refine Fit.au ?_ | refine Need.au ?_ | refine Pick.map (by assumption) ?_ | refine Pick.mapI (by omega) (by assumption) ?_ | refine PickN.mk _ (by assumption) ?_ | refine PickN.mk _ rfl ?_ | refine PickN.au ?_ | refine App.au rfl ?_ | refine App.au (own_map (fun _ => rfl) _) ?_ | refine Both.mk ?_ ?_ | exact True.intro
    refine Br.d (fun h2 => ?_) (fun h2 => ?_)
    · obtain ⟨x, gx, gxm⟩ := getK (l := xs) (k := k) (by omega)
      obtain ⟨y, gy, -⟩ := getK (l := ys) (k := k) (by omega)
      repeat' first | refine Draw.mk (ordL [8] [0, 1, 2, 3, 4, 5, 6, 7, 8, 9]) (by decide +kernel) ?_ | refine Pick.map gx ?_ | refine Pick.map gy ?_ | refine Call.eq (SameInstr_spec x y (ha x gxm)) rfl ?_ | refine Len.map ?_ | refine Len.nil ?_ | refine Len.cons ?_ | refine Br.t rfl ?_ | refine Br.f rfl ?_ | refine Fit.au ?_ | refine Need.au ?_ | refine Pick.map (by assumption) ?_ | refine Pick.mapI (by omega) (by assumption) ?_ | refine PickN.mk _ (by assumption) ?_ | refine PickN.mk _ rfl ?_ | refine PickN.au ?_ | refine App.au rfl ?_ | refine App.au (own_map (fun _ => rfl) _) ?_ | refine Both.mk ?_ ?_ | exact True.intro
      refine Br.nd (fun h3 => ?_) (fun h3 => ?_)
      · repeat' first | refine Len.map ?_ | refine Len.nil ?_ | refine Len.cons ?_ | refine Br.t rfl ?_ | refine Br.f rfl ?_ | refine Fit.au ?_ | refine Need.au ?_ | refine Pick.map (by assumption) ?_ | refine Pick.mapI (by omega) (by assumption) ?_ | refine PickN.mk _ (by assumption) ?_ | refine PickN.mk _ rfl ?_ | refine PickN.au ?_ | refine App.au rfl ?_ | refine App.au (own_map (fun _ => rfl) _) ?_ | refine Both.mk ?_ ?_ | exact True.intro
        have : xs ≠ ys := fun e => h3 (by subst e; rw [gx] at gy; exact Option.some.inj gy)
        show _ = _
        simp [asRes, tru, this]
      · repeat' first | refine Len.map ?_ | refine Len.nil ?_ | refine Len.cons ?_ | refine Br.t rfl ?_ | refine Br.f rfl ?_ | refine Fit.au ?_ | refine Need.au ?_ | refine Pick.map (by assumption) ?_ | refine Pick.mapI (by omega) (by assumption) ?_ | refine PickN.mk _ (by assumption) ?_ | refine PickN.mk _ rfl ?_ | refine PickN.au ?_ | refine App.au rfl ?_ | refine App.au (own_map (fun _ => rfl) _) ?_ | refine Both.mk ?_ ?_ | exact True.intro
        refine Stop.mk (ih (k + 1) (g := []) _ _ _ ⟨by omega, ?_⟩ (by omega) ⟨rfl, (by repeat' first | exact trivial | refine ⟨rfl, ?_⟩ | refine ⟨congrArg (fun n => AV.lit (.int .i64 n)) (by omega), ?_⟩ | refine ⟨congrArg (fun l => some (Row.row 1 l)) (by simp [int1, num, tru]), ?_⟩), (by repeat' first | exact trivial | refine ⟨rfl, ?_⟩ | refine ⟨congrArg (fun n => AV.lit (.int .i64 n)) (by omega), ?_⟩ | refine ⟨congrArg (fun l => some (Row.row 1 l)) (by simp [int1, num, tru]), ?_⟩)⟩)
        rw [take_succ gx, take_succ gy, hk2, h3]
    · repeat' first | refine Len.map ?_ | refine Len.nil ?_ | refine Len.cons ?_ | refine Br.t rfl ?_ | refine Br.f rfl ?_ | refine Fit.au ?_ | refine Need.au ?_ | refine Pick.map (by assumption) ?_ | refine Pick.mapI (by omega) (by assumption) ?_ | refine PickN.mk _ (by assumption) ?_ | refine PickN.mk _ rfl ?_ | refine PickN.au ?_ | refine App.au rfl ?_ | refine App.au (own_map (fun _ => rfl) _) ?_ | refine Both.mk ?_ ?_ | exact True.intro
      have e1 := take_all (l := xs) (k := k) (by omega)
      have e2 := take_all (l := ys) (k := k) (by omega)
      have : xs = ys := by rw [← e1, ← e2, hk2]
      show _ = _
      simp [asRes, tru, this]

theorem Map43_spec (f : Fun) (hf : f.fits) (hn : f.blocks.length ≤ 1000000) : FnSpec Try.prog 43 [funA f] (fun r => r = .osl 1 ((mapF f).map int1)) := by
  have hl : (marksF (succsF f) (-1)).length = f.blocks.length := by rw [marksF_len, succsF_len]
  refine spec_of 1000 Try.func43 rfl rfl ?_
  repeat' first | refine Len.map ?_ | refine Len.nil ?_ | refine Len.cons ?_ | refine Br.t rfl ?_ | refine Br.f rfl ?_ | refine Fit.au ?_ | refine Need.au ?_ | refine Pick.map (by assumption) ?_ | refine Pick.mapI (by omega) (by assumption) ?_ | refine PickN.mk _ (by assumption) ?_ | refine PickN.mk _ rfl ?_ | refine PickN.au ?_ | refine App.au rfl ?_ | refine App.au (own_map (fun _ => rfl) _) ?_ | refine Both.mk ?_ ?_ | exact True.intro
  refine Call.of (Reach_spec f hf hn) ?_
  rintro r ⟨l, rfl, hm⟩
  refine ⟨rfl, ?_⟩
  rw [← hm.eq] at hl
  unfold mapF
  rw [← hm.eq]
  clear hm
  repeat' first | refine Len.map ?_ | refine Len.nil ?_ | refine Len.cons ?_ | refine Br.t rfl ?_ | refine Br.f rfl ?_ | refine Fit.au ?_ | refine Need.au ?_ | refine Pick.map (by assumption) ?_ | refine Pick.mapI (by omega) (by assumption) ?_ | refine PickN.mk _ (by assumption) ?_ | refine PickN.mk _ rfl ?_ | refine PickN.au ?_ | refine App.au rfl ?_ | refine App.au (own_map (fun _ => rfl) _) ?_ | refine Both.mk ?_ ?_ | exact True.intro
  refine Stop.mk (loop_in (g := []) (fun k : Nat => [(3, .hw 1), (4, .hw 2), (5, num ((l.take k).count true : Nat)), (6, num k)]) (fun k => [(1, .row 1 (l.map tb)), (2, .row 1 ((numF 0 (l.take k)).map int1))]) 3 (fun k => k ≤ l.length) (fun k => l.length - k) 0 (by omega) ⟨rfl, (by repeat' first | exact trivial | refine ⟨rfl, ?_⟩ | refine ⟨congrArg (fun n => AV.lit (.int .i64 n)) (by omega), ?_⟩ | refine ⟨congrArg (fun l => some (Row.row 1 l)) (by simp [int1, num, tru]), ?_⟩), (by repeat' first | exact trivial | refine ⟨rfl, ?_⟩ | refine ⟨congrArg (fun n => AV.lit (.int .i64 n)) (by omega), ?_⟩ | refine ⟨congrArg (fun l => some (Row.row 1 l)) (by simp [int1, num, tru]), ?_⟩)⟩ (fun k hk ih => ?_))
  refine go 1000 Try.func43 ?_
  repeat' first | refine Len.map ?_ | refine Len.nil ?_ | refine Len.cons ?_ | refine Br.t rfl ?_ | refine Br.f rfl ?_ | refine Fit.au ?_ | refine Need.au ?_ | refine Pick.map (by assumption) ?_ | refine Pick.mapI (by omega) (by assumption) ?_ | refine PickN.mk _ (by assumption) ?_ | refine PickN.mk _ rfl ?_ | refine PickN.au ?_ | refine App.au rfl ?_ | refine App.au (own_map (fun _ => rfl) _) ?_ | refine Both.mk ?_ ?_ | exact True.intro
  refine Br.d (fun h2 => ?_) (fun h2 => ?_)
  · obtain ⟨b, gb, -⟩ := getK (l := l) (k := k) (by omega)
    have hc : (l.take k).count true ≤ k := by have := List.count_le_length (a := true) (l := l.take k); rw [List.length_take] at this; omega
    have hc2 : (l.take (k + 1)).count true = (l.take k).count true + if b = true then 1 else 0 := by rw [take_succ gb, List.count_append]; cases b <;> simp
    have hn2 : numF 0 (l.take (k + 1)) = numF 0 (l.take k) ++ [if b = true then (0 : Int) + ((l.take k).count true : Nat) else -1] := by rw [take_succ gb, numF_app]
    have hnl : (numF 0 (l.take k)).length ≤ k := by rw [numF_len, List.length_take]; omega
    repeat' first | refine Pick.map gb ?_ | refine Len.map ?_ | refine Len.nil ?_ | refine Len.cons ?_ | refine Br.t rfl ?_ | refine Br.f rfl ?_ | refine Fit.au ?_ | refine Need.au ?_ | refine Pick.map (by assumption) ?_ | refine Pick.mapI (by omega) (by assumption) ?_ | refine PickN.mk _ (by assumption) ?_ | refine PickN.mk _ rfl ?_ | refine PickN.au ?_ | refine App.au rfl ?_ | refine App.au (own_map (fun _ => rfl) _) ?_ | refine Both.mk ?_ ?_ | exact True.intro
    refine Br.mk (fun h3 => ?_) (fun h3 => ?_)
    · repeat' first | refine Len.map ?_ | refine Len.nil ?_ | refine Len.cons ?_ | refine Br.t rfl ?_ | refine Br.f rfl ?_ | refine Fit.au ?_ | refine Need.au ?_ | refine Pick.map (by assumption) ?_ | refine Pick.mapI (by omega) (by assumption) ?_ | refine PickN.mk _ (by assumption) ?_ | refine PickN.mk _ rfl ?_ | refine PickN.au ?_ | refine App.au rfl ?_ | refine App.au (own_map (fun _ => rfl) _) ?_ | refine Both.mk ?_ ?_ | exact True.intro
      rw [if_pos h3] at hn2 hc2
      refine Stop.mk (ih (k + 1) (g := [(2, 4)]) _ _ _ (by omega) (by omega) ?_)
      rw [hn2, hc2, List.map_append, Int.zero_add]
      exact ⟨rfl, (by repeat' first | exact trivial | refine ⟨rfl, ?_⟩ | refine ⟨congrArg (fun n => AV.lit (.int .i64 n)) (by omega), ?_⟩ | refine ⟨congrArg (fun l => some (Row.row 1 l)) (by simp [int1, num, tru]), ?_⟩), (by repeat' first | exact trivial | refine ⟨rfl, ?_⟩ | refine ⟨congrArg (fun n => AV.lit (.int .i64 n)) (by omega), ?_⟩ | refine ⟨congrArg (fun l => some (Row.row 1 l)) (by simp [int1, num, tru]), ?_⟩)⟩
    · repeat' first | refine Len.map ?_ | refine Len.nil ?_ | refine Len.cons ?_ | refine Br.t rfl ?_ | refine Br.f rfl ?_ | refine Fit.au ?_ | refine Need.au ?_ | refine Pick.map (by assumption) ?_ | refine Pick.mapI (by omega) (by assumption) ?_ | refine PickN.mk _ (by assumption) ?_ | refine PickN.mk _ rfl ?_ | refine PickN.au ?_ | refine App.au rfl ?_ | refine App.au (own_map (fun _ => rfl) _) ?_ | refine Both.mk ?_ ?_ | exact True.intro
      rw [if_neg (by simp [h3])] at hn2 hc2
      refine Stop.mk (ih (k + 1) (g := [(2, 4)]) _ _ _ (by omega) (by omega) ?_)
      rw [hn2, hc2, List.map_append]
      exact ⟨rfl, (by repeat' first | exact trivial | refine ⟨rfl, ?_⟩ | refine ⟨congrArg (fun n => AV.lit (.int .i64 n)) (by omega), ?_⟩ | refine ⟨congrArg (fun l => some (Row.row 1 l)) (by simp [int1, num, tru]), ?_⟩), (by repeat' first | exact trivial | refine ⟨rfl, ?_⟩ | refine ⟨congrArg (fun n => AV.lit (.int .i64 n)) (by omega), ?_⟩ | refine ⟨congrArg (fun l => some (Row.row 1 l)) (by simp [int1, num, tru]), ?_⟩)⟩
  · repeat' first | refine Len.map ?_ | refine Len.nil ?_ | refine Len.cons ?_ | refine Br.t rfl ?_ | refine Br.f rfl ?_ | refine Fit.au ?_ | refine Need.au ?_ | refine Pick.map (by assumption) ?_ | refine Pick.mapI (by omega) (by assumption) ?_ | refine PickN.mk _ (by assumption) ?_ | refine PickN.mk _ rfl ?_ | refine PickN.au ?_ | refine App.au rfl ?_ | refine App.au (own_map (fun _ => rfl) _) ?_ | refine Both.mk ?_ ?_ | exact True.intro
    rw [take_all (by omega)]
    rfl
end Go.Proofs.Ytnfkdilmoppbpaa

/- Functions the same, by a contract. -/
namespace Go.Proofs.Ytnfkdilmoppbpaa
open Go.Ax
set_option maxRecDepth 10000
set_option linter.unusedVariables false

deriving instance DecidableEq for Fun
theorem SameFunc_spec (f g : Fun) (hf : f.fits) (hg : g.fits) (hn : f.blocks.length ≤ 1000000000) (hb : ∀ b ∈ f.blocks, b.length ≤ 1000000000) : FnSpec Try.prog 40 [funA f, funA g] (fun r => r = tru (decide (f = g))) := by
  have hf2 := hf.2.1
  have hg1 := hg.1
  have hname : f.name.toList = g.name.toList → f.name = g.name := fun h => by
    rw [ByteArray.toList_eq, ByteArray.toList_eq] at h
    exact ByteArray.ext (Array.toList_inj.1 h)
  refine spec_of 1000 Try.func40 rfl rfl ?_
  repeat' first | refine Call.eq (SameInts_spec f.regs g.regs (by omega)) rfl ?_ | refine Len.map ?_ | refine Len.nil ?_ | refine Len.cons ?_ | refine Br.t rfl ?_ | refine Br.f rfl ?_ | refine Fit.au ?_ | refine Need.au ?_ | refine Pick.map (by assumption) ?_ | refine Pick.mapI (by omega) (by assumption) ?_ | refine PickN.mk _ (by assumption) ?_ | refine PickN.mk _ rfl ?_ | refine PickN.au ?_ | refine App.au rfl ?_ | refine App.au (own_map (fun _ => rfl) _) ?_ | refine Both.mk ?_ ?_ | exact True.intro | refine Br.d (fun h => ?_) (fun h => ?_) | refine Br.nd (fun h => ?_) (fun h => ?_) | refine Br.mk (fun h => ?_) (fun h => ?_)
  · have : f ≠ g := fun e => by subst e; simp_all
    show _ = _
    simp [asRes, tru, this]
  · have : f ≠ g := fun e => by subst e; simp_all
    show _ = _
    simp [asRes, tru, this]
  · have : f ≠ g := fun e => by subst e; simp_all
    show _ = _
    simp [asRes, tru, this]
  · have : f ≠ g := fun e => by subst e; simp_all
    show _ = _
    simp [asRes, tru, this]
  · have : f ≠ g := fun e => by subst e; simp_all
    show _ = _
    simp [asRes, tru, this]
  have hnm : f.name = g.name := by
    refine hname ?_
    simp_all
  have hpa : f.params = g.params := by assumption
  have hre : f.ret = g.ret := by assumption
  have hrg : f.regs = g.regs := by assumption
  have hle : f.blocks.length = g.blocks.length := by omega
  refine Stop.mk (loop_in (g := []) (fun k : Nat => [(2, .hp 0 0), (3, .hp 1 0), (5, num k)]) (fun k => [(0, .var f.cs), (1, .var g.cs)]) 2 (fun k => k ≤ f.blocks.length ∧ f.blocks.take k = g.blocks.take k) (fun k => f.blocks.length - k) 0 ⟨by omega, rfl⟩ ⟨rfl, (by repeat' first | exact trivial | refine ⟨rfl, ?_⟩ | refine ⟨congrArg (fun n => AV.lit (.int .i64 n)) (by omega), ?_⟩ | refine ⟨congrArg (fun l => some (Row.row 1 l)) (by simp [int1, num, tru]), ?_⟩), (by repeat' first | exact trivial | refine ⟨rfl, ?_⟩ | refine ⟨congrArg (fun n => AV.lit (.int .i64 n)) (by omega), ?_⟩ | refine ⟨congrArg (fun l => some (Row.row 1 l)) (by simp [int1, num, tru]), ?_⟩)⟩ (fun k hk ih => ?_))
  obtain ⟨hk1, hk2⟩ := hk
  refine go 1000 Try.func40 ?_
  repeat' first | refine Len.map ?_ | refine Len.nil ?_ | refine Len.cons ?_ | refine Br.t rfl ?_ | refine Br.f rfl ?_ | refine Fit.au ?_ | refine Need.au ?_ | refine Pick.map (by assumption) ?_ | refine Pick.mapI (by omega) (by assumption) ?_ | refine PickN.mk _ (by assumption) ?_ | refine PickN.mk _ rfl ?_ | refine PickN.au ?_ | refine App.au rfl ?_ | refine App.au (own_map (fun _ => rfl) _) ?_ | refine Both.mk ?_ ?_ | exact True.intro
  refine Br.d (fun h2 => ?_) (fun h2 => ?_)
  · obtain ⟨x, gx, gxm⟩ := getK (l := f.blocks) (k := k) (by omega)
    obtain ⟨y, gy, gym⟩ := getK (l := g.blocks) (k := k) (by omega)
    have hx := hf.2.2 x gxm
    have hy := hg.2.2 y gym
    repeat' first | refine Draw.mk (ordL [10] [0, 1, 2, 3, 4, 5, 6, 7, 8, 9, 10, 11]) (by decide +kernel) ?_ | refine Pick.map gx ?_ | refine Pick.map gy ?_ | refine Call.eq (SameBlock_spec x y (hb x gxm) (fun i hi => by have := hx.2 i hi; unfold Ins.fits at this; omega) (by omega)) rfl ?_ | refine Len.map ?_ | refine Len.nil ?_ | refine Len.cons ?_ | refine Br.t rfl ?_ | refine Br.f rfl ?_ | refine Fit.au ?_ | refine Need.au ?_ | refine Pick.map (by assumption) ?_ | refine Pick.mapI (by omega) (by assumption) ?_ | refine PickN.mk _ (by assumption) ?_ | refine PickN.mk _ rfl ?_ | refine PickN.au ?_ | refine App.au rfl ?_ | refine App.au (own_map (fun _ => rfl) _) ?_ | refine Both.mk ?_ ?_ | exact True.intro
    refine Br.nd (fun h3 => ?_) (fun h3 => ?_)
    · repeat' first | refine Len.map ?_ | refine Len.nil ?_ | refine Len.cons ?_ | refine Br.t rfl ?_ | refine Br.f rfl ?_ | refine Fit.au ?_ | refine Need.au ?_ | refine Pick.map (by assumption) ?_ | refine Pick.mapI (by omega) (by assumption) ?_ | refine PickN.mk _ (by assumption) ?_ | refine PickN.mk _ rfl ?_ | refine PickN.au ?_ | refine App.au rfl ?_ | refine App.au (own_map (fun _ => rfl) _) ?_ | refine Both.mk ?_ ?_ | exact True.intro
      have : f ≠ g := fun e => h3 (by subst e; rw [gx] at gy; exact Option.some.inj gy)
      show _ = _
      simp [asRes, tru, this]
    · repeat' first | refine Len.map ?_ | refine Len.nil ?_ | refine Len.cons ?_ | refine Br.t rfl ?_ | refine Br.f rfl ?_ | refine Fit.au ?_ | refine Need.au ?_ | refine Pick.map (by assumption) ?_ | refine Pick.mapI (by omega) (by assumption) ?_ | refine PickN.mk _ (by assumption) ?_ | refine PickN.mk _ rfl ?_ | refine PickN.au ?_ | refine App.au rfl ?_ | refine App.au (own_map (fun _ => rfl) _) ?_ | refine Both.mk ?_ ?_ | exact True.intro
      refine Stop.mk (ih (k + 1) (g := []) _ _ _ ⟨by omega, ?_⟩ (by omega) ⟨rfl, (by repeat' first | exact trivial | refine ⟨rfl, ?_⟩ | refine ⟨congrArg (fun n => AV.lit (.int .i64 n)) (by omega), ?_⟩ | refine ⟨congrArg (fun l => some (Row.row 1 l)) (by simp [int1, num, tru]), ?_⟩), (by repeat' first | exact trivial | refine ⟨rfl, ?_⟩ | refine ⟨congrArg (fun n => AV.lit (.int .i64 n)) (by omega), ?_⟩ | refine ⟨congrArg (fun l => some (Row.row 1 l)) (by simp [int1, num, tru]), ?_⟩)⟩)
      rw [take_succ gx, take_succ gy, hk2, h3]
  · repeat' first | refine Len.map ?_ | refine Len.nil ?_ | refine Len.cons ?_ | refine Br.t rfl ?_ | refine Br.f rfl ?_ | refine Fit.au ?_ | refine Need.au ?_ | refine Pick.map (by assumption) ?_ | refine Pick.mapI (by omega) (by assumption) ?_ | refine PickN.mk _ (by assumption) ?_ | refine PickN.mk _ rfl ?_ | refine PickN.au ?_ | refine App.au rfl ?_ | refine App.au (own_map (fun _ => rfl) _) ?_ | refine Both.mk ?_ ?_ | exact True.intro
    have e1 := take_all (l := f.blocks) (k := k) (by omega)
    have e2 := take_all (l := g.blocks) (k := k) (by omega)
    have hbl : f.blocks = g.blocks := by rw [← e1, ← e2, hk2]
    have : f = g := by cases f; cases g; simp_all
    show _ = _
    simp [asRes, tru, this]
end Go.Proofs.Ytnfkdilmoppbpaa

/- Programs the same, by a contract. -/
namespace Go.Proofs.Ytnfkdilmoppbpaa
open Go.Ax
set_option maxRecDepth 10000
set_option linter.unusedVariables false

deriving instance DecidableEq for Pro
def siteV (s : Int × Int) : List Value := [.int .i64 s.1, .int .i64 s.2]
theorem eq85 (a b : Int × Int) : AggEq1 Try.prog 85 (siteV a) (siteV b) (decide (a = b)) := by
  refine ⟨Try.eqGuardType85, fun w => ?_⟩
  have u3 := Try.underlying3
  have a3 := Try.isAgg3
  have z3 := Try.sizeOf3
  have hS : Try.prog.underlying 85 = some (.struct (Try.prog.fieldsOf 85)) := by kernel_rfl
  rw [show (10000 : Nat) = 9999 + 1 from rfl, run_equalIn_agg w 9999 85 _ _ hS Try.stoodInHeld85]
  simp only [Program.fieldsOf, Try.underlying85, siteV]
  go_simp
  obtain ⟨a1, a2⟩ := a
  obtain ⟨b1, b2⟩ := b
  simp only [Prod.mk.injEq]
  by_cases h1 : a1 = b1 <;> by_cases h2 : a2 = b2 <;> simp [h1, h2]

theorem SameProgram_spec (p q : Pro) (hp : p.fits) (hq : q.fits) (hs1 : p.sites.length ≤ 1000000000) (hs2 : p.funcs.length ≤ 1000000000) (hb : ∀ f ∈ p.funcs, f.blocks.length ≤ 1000000000 ∧ ∀ b ∈ f.blocks, b.length ≤ 1000000000) : FnSpec Try.prog 45 [proA p, proA q] (fun r => r = tru (decide (p = q))) := by
  obtain ⟨q1, q2, q3⟩ := hq
  refine spec_of 1000 Try.func45 rfl rfl ?_
  repeat' first | refine Len.map ?_ | refine Len.nil ?_ | refine Len.cons ?_ | refine Br.t rfl ?_ | refine Br.f rfl ?_ | refine Fit.au ?_ | refine Need.au ?_ | refine Pick.map (by assumption) ?_ | refine Pick.mapI (by omega) (by assumption) ?_ | refine PickN.mk _ (by assumption) ?_ | refine PickN.mk _ rfl ?_ | refine PickN.au ?_ | refine App.au rfl ?_ | refine App.au (own_map (fun _ => rfl) _) ?_ | refine Both.mk ?_ ?_ | exact True.intro | refine Br.d (fun h => ?_) (fun h => ?_) | refine Br.nd (fun h => ?_) (fun h => ?_) | refine Br.mk (fun h => ?_) (fun h => ?_)
  · have : p ≠ q := fun e => by subst e; simp_all
    show _ = _
    simp [asRes, tru, this]
  · have : p ≠ q := fun e => by subst e; simp_all
    show _ = _
    simp [asRes, tru, this]
  · have : p ≠ q := fun e => by subst e; simp_all
    show _ = _
    simp [asRes, tru, this]
  have hmain : p.main = q.main := by assumption
  have hlf : p.funcs.length = q.funcs.length := by omega
  have hls : p.sites.length = q.sites.length := by omega
  refine Stop.mk (loop_in (g := []) (fun k : Nat => [(2, .hp 0 0), (3, .hp 1 0), (5, num k)]) (fun k => [(0, .var p.cs), (1, .var q.cs)]) 2 (fun k => k ≤ p.funcs.length ∧ p.funcs.take k = q.funcs.take k) (fun k => p.funcs.length - k) 0 ⟨by omega, rfl⟩ ⟨rfl, (by repeat' first | exact trivial | refine ⟨rfl, ?_⟩ | refine ⟨congrArg (fun n => AV.lit (.int .i64 n)) (by omega), ?_⟩ | refine ⟨congrArg (fun l => some (Row.row 1 l)) (by simp [int1, num, tru]), ?_⟩), (by repeat' first | exact trivial | refine ⟨rfl, ?_⟩ | refine ⟨congrArg (fun n => AV.lit (.int .i64 n)) (by omega), ?_⟩ | refine ⟨congrArg (fun l => some (Row.row 1 l)) (by simp [int1, num, tru]), ?_⟩)⟩ (fun k hk ih => ?_))
  obtain ⟨hk1, hk2⟩ := hk
  refine go 1000 Try.func45 ?_
  repeat' first | refine Len.map ?_ | refine Len.nil ?_ | refine Len.cons ?_ | refine Br.t rfl ?_ | refine Br.f rfl ?_ | refine Fit.au ?_ | refine Need.au ?_ | refine Pick.map (by assumption) ?_ | refine Pick.mapI (by omega) (by assumption) ?_ | refine PickN.mk _ (by assumption) ?_ | refine PickN.mk _ rfl ?_ | refine PickN.au ?_ | refine App.au rfl ?_ | refine App.au (own_map (fun _ => rfl) _) ?_ | refine Both.mk ?_ ?_ | exact True.intro
  refine Br.d (fun h2 => ?_) (fun h2 => ?_)
  · obtain ⟨x, gx, gxm⟩ := getK (l := p.funcs) (k := k) (by omega)
    obtain ⟨y, gy, gym⟩ := getK (l := q.funcs) (k := k) (by omega)
    have hx := hb x gxm
    repeat' first | refine Draw.mk (ordL [10] [0, 1, 2, 3, 4, 5, 6, 7, 8, 9, 10, 11]) (by decide +kernel) ?_ | refine Draw.mk (ordL [] [0, 1, 2, 3, 4, 5, 6, 7, 8, 9, 10]) (by decide +kernel) ?_ | refine Pick.map gx ?_ | refine Pick.map gy ?_ | refine Call.eq (SameFunc_spec x y (hp.2.2 x gxm) (q3 y gym) hx.1 hx.2) rfl ?_ | refine Len.map ?_ | refine Len.nil ?_ | refine Len.cons ?_ | refine Br.t rfl ?_ | refine Br.f rfl ?_ | refine Fit.au ?_ | refine Need.au ?_ | refine Pick.map (by assumption) ?_ | refine Pick.mapI (by omega) (by assumption) ?_ | refine PickN.mk _ (by assumption) ?_ | refine PickN.mk _ rfl ?_ | refine PickN.au ?_ | refine App.au rfl ?_ | refine App.au (own_map (fun _ => rfl) _) ?_ | refine Both.mk ?_ ?_ | exact True.intro
    refine Br.nd (fun h3 => ?_) (fun h3 => ?_)
    · repeat' first | refine Len.map ?_ | refine Len.nil ?_ | refine Len.cons ?_ | refine Br.t rfl ?_ | refine Br.f rfl ?_ | refine Fit.au ?_ | refine Need.au ?_ | refine Pick.map (by assumption) ?_ | refine Pick.mapI (by omega) (by assumption) ?_ | refine PickN.mk _ (by assumption) ?_ | refine PickN.mk _ rfl ?_ | refine PickN.au ?_ | refine App.au rfl ?_ | refine App.au (own_map (fun _ => rfl) _) ?_ | refine Both.mk ?_ ?_ | exact True.intro
      have : p ≠ q := fun e => h3 (by subst e; rw [gx] at gy; exact Option.some.inj gy)
      show _ = _
      simp [asRes, tru, this]
    · repeat' first | refine Len.map ?_ | refine Len.nil ?_ | refine Len.cons ?_ | refine Br.t rfl ?_ | refine Br.f rfl ?_ | refine Fit.au ?_ | refine Need.au ?_ | refine Pick.map (by assumption) ?_ | refine Pick.mapI (by omega) (by assumption) ?_ | refine PickN.mk _ (by assumption) ?_ | refine PickN.mk _ rfl ?_ | refine PickN.au ?_ | refine App.au rfl ?_ | refine App.au (own_map (fun _ => rfl) _) ?_ | refine Both.mk ?_ ?_ | exact True.intro
      refine Stop.mk (ih (k + 1) (g := []) _ _ _ ⟨by omega, ?_⟩ (by omega) ⟨rfl, (by repeat' first | exact trivial | refine ⟨rfl, ?_⟩ | refine ⟨congrArg (fun n => AV.lit (.int .i64 n)) (by omega), ?_⟩ | refine ⟨congrArg (fun l => some (Row.row 1 l)) (by simp [int1, num, tru]), ?_⟩), (by repeat' first | exact trivial | refine ⟨rfl, ?_⟩ | refine ⟨congrArg (fun n => AV.lit (.int .i64 n)) (by omega), ?_⟩ | refine ⟨congrArg (fun l => some (Row.row 1 l)) (by simp [int1, num, tru]), ?_⟩)⟩)
      rw [take_succ gx, take_succ gy, hk2, h3]
  · have e1 := take_all (l := p.funcs) (k := k) (by omega)
    have e2 := take_all (l := q.funcs) (k := k) (by omega)
    have hfs : p.funcs = q.funcs := by rw [← e1, ← e2, hk2]
    repeat' first | refine Len.map ?_ | refine Len.nil ?_ | refine Len.cons ?_ | refine Br.t rfl ?_ | refine Br.f rfl ?_ | refine Fit.au ?_ | refine Need.au ?_ | refine Pick.map (by assumption) ?_ | refine Pick.mapI (by omega) (by assumption) ?_ | refine PickN.mk _ (by assumption) ?_ | refine PickN.mk _ rfl ?_ | refine PickN.au ?_ | refine App.au rfl ?_ | refine App.au (own_map (fun _ => rfl) _) ?_ | refine Both.mk ?_ ?_ | exact True.intro
    refine Stop.mk (loop_in (g := []) (fun k : Nat => [(2, .hp 0 0), (3, .hp 1 0), (6, num k)]) (fun k => [(0, .var p.cs), (1, .var q.cs)]) 2 (fun k => k ≤ p.sites.length ∧ p.sites.take k = q.sites.take k) (fun k => p.sites.length - k) 0 ⟨by omega, rfl⟩ ⟨rfl, (by repeat' first | exact trivial | refine ⟨rfl, ?_⟩ | refine ⟨congrArg (fun n => AV.lit (.int .i64 n)) (by omega), ?_⟩ | refine ⟨congrArg (fun l => some (Row.row 1 l)) (by simp [int1, num, tru]), ?_⟩), (by repeat' first | exact trivial | refine ⟨rfl, ?_⟩ | refine ⟨congrArg (fun n => AV.lit (.int .i64 n)) (by omega), ?_⟩ | refine ⟨congrArg (fun l => some (Row.row 1 l)) (by simp [int1, num, tru]), ?_⟩)⟩ (fun k hk ih => ?_))
    obtain ⟨hk1, hk2⟩ := hk
    refine go 1000 Try.func45 ?_
    repeat' first | refine Len.map ?_ | refine Len.nil ?_ | refine Len.cons ?_ | refine Br.t rfl ?_ | refine Br.f rfl ?_ | refine Fit.au ?_ | refine Need.au ?_ | refine Pick.map (by assumption) ?_ | refine Pick.mapI (by omega) (by assumption) ?_ | refine PickN.mk _ (by assumption) ?_ | refine PickN.mk _ rfl ?_ | refine PickN.au ?_ | refine App.au rfl ?_ | refine App.au (own_map (fun _ => rfl) _) ?_ | refine Both.mk ?_ ?_ | exact True.intro
    refine Br.d (fun h2 => ?_) (fun h2 => ?_)
    · obtain ⟨x, gx, gxm⟩ := getK (l := p.sites) (k := k) (by omega)
      obtain ⟨y, gy, gym⟩ := getK (l := q.sites) (k := k) (by omega)
      repeat' first | refine Draw.mk (ordL [10] [0, 1, 2, 3, 4, 5, 6, 7, 8, 9, 10, 11]) (by decide +kernel) ?_ | refine Draw.mk (ordL [] [0, 1, 2, 3, 4, 5, 6, 7, 8, 9, 10]) (by decide +kernel) ?_ | refine Pick.map gx ?_ | refine Pick.map gy ?_ | refine AggEq.mk (siteV x) (siteV y) _ rfl rfl (eq85 x y) ?_ | refine Len.map ?_ | refine Len.nil ?_ | refine Len.cons ?_ | refine Br.t rfl ?_ | refine Br.f rfl ?_ | refine Fit.au ?_ | refine Need.au ?_ | refine Pick.map (by assumption) ?_ | refine Pick.mapI (by omega) (by assumption) ?_ | refine PickN.mk _ (by assumption) ?_ | refine PickN.mk _ rfl ?_ | refine PickN.au ?_ | refine App.au rfl ?_ | refine App.au (own_map (fun _ => rfl) _) ?_ | refine Both.mk ?_ ?_ | exact True.intro
      refine Br.nd (fun h3 => ?_) (fun h3 => ?_)
      · repeat' first | refine Len.map ?_ | refine Len.nil ?_ | refine Len.cons ?_ | refine Br.t rfl ?_ | refine Br.f rfl ?_ | refine Fit.au ?_ | refine Need.au ?_ | refine Pick.map (by assumption) ?_ | refine Pick.mapI (by omega) (by assumption) ?_ | refine PickN.mk _ (by assumption) ?_ | refine PickN.mk _ rfl ?_ | refine PickN.au ?_ | refine App.au rfl ?_ | refine App.au (own_map (fun _ => rfl) _) ?_ | refine Both.mk ?_ ?_ | exact True.intro
        have : p ≠ q := fun e => h3 (by subst e; rw [gx] at gy; exact Option.some.inj gy)
        show _ = _
        simp [asRes, tru, this]
      · repeat' first | refine Len.map ?_ | refine Len.nil ?_ | refine Len.cons ?_ | refine Br.t rfl ?_ | refine Br.f rfl ?_ | refine Fit.au ?_ | refine Need.au ?_ | refine Pick.map (by assumption) ?_ | refine Pick.mapI (by omega) (by assumption) ?_ | refine PickN.mk _ (by assumption) ?_ | refine PickN.mk _ rfl ?_ | refine PickN.au ?_ | refine App.au rfl ?_ | refine App.au (own_map (fun _ => rfl) _) ?_ | refine Both.mk ?_ ?_ | exact True.intro
        refine Stop.mk (ih (k + 1) (g := []) _ _ _ ⟨by omega, ?_⟩ (by omega) ⟨rfl, (by repeat' first | exact trivial | refine ⟨rfl, ?_⟩ | refine ⟨congrArg (fun n => AV.lit (.int .i64 n)) (by omega), ?_⟩ | refine ⟨congrArg (fun l => some (Row.row 1 l)) (by simp [int1, num, tru]), ?_⟩), (by repeat' first | exact trivial | refine ⟨rfl, ?_⟩ | refine ⟨congrArg (fun n => AV.lit (.int .i64 n)) (by omega), ?_⟩ | refine ⟨congrArg (fun l => some (Row.row 1 l)) (by simp [int1, num, tru]), ?_⟩)⟩)
        rw [take_succ gx, take_succ gy, hk2, h3]
    · have e1 := take_all (l := p.sites) (k := k) (by omega)
      have e2 := take_all (l := q.sites) (k := k) (by omega)
      have hss : p.sites = q.sites := by rw [← e1, ← e2, hk2]
      repeat' first | refine Len.map ?_ | refine Len.nil ?_ | refine Len.cons ?_ | refine Br.t rfl ?_ | refine Br.f rfl ?_ | refine Fit.au ?_ | refine Need.au ?_ | refine Pick.map (by assumption) ?_ | refine Pick.mapI (by omega) (by assumption) ?_ | refine PickN.mk _ (by assumption) ?_ | refine PickN.mk _ rfl ?_ | refine PickN.au ?_ | refine App.au rfl ?_ | refine App.au (own_map (fun _ => rfl) _) ?_ | refine Both.mk ?_ ?_ | exact True.intro
      have : p = q := by cases p; cases q; simp_all
      show _ = _
      simp [asRes, tru, this]
end Go.Proofs.Ytnfkdilmoppbpaa

/- The example of law 31, and the law PiWords as a function. -/
namespace Go.Proofs.Ytnfkdilmoppbpaa
open Go.Ax
set_option maxRecDepth 10000
set_option linter.unusedVariables false

def ex31 : Fun := ⟨⟨#[]⟩, 2, 1, [1, 1, 2], [[⟨5, 2, 0, 1, 0, 0, 0, 0, []⟩, ⟨42, 0, 2, 0, 0, 1, 2, 0, []⟩], [⟨43, 0, 0, 0, 0, 0, 0, 0, []⟩], [⟨43, 0, 1, 0, 0, 0, 0, 0, []⟩]]⟩
def ex31o : Fun := ⟨⟨#[]⟩, 2, 1, [1, 1, 2], [[⟨5, 2, 0, 1, 0, 0, 0, 0, []⟩, ⟨42, 0, 2, 0, 0, 1, 2, 0, []⟩], [⟨45, 0, 0, 1, 0, 0, 5, 0, []⟩, ⟨45, 1, 1, 0, 0, 0, 7, 0, []⟩, ⟨43, 0, 0, 0, 0, 0, 0, 0, []⟩], [⟨45, 0, 0, 1, 0, 0, 8, 0, []⟩, ⟨45, 1, 1, 0, 0, 0, 6, 0, []⟩, ⟨43, 0, 1, 0, 0, 0, 0, 0, []⟩]]⟩
theorem ex31_ins : insF ex31 = ex31o := by kernel_rfl
theorem ex31_fits : ex31.fits := by
  refine ⟨by decide, by decide, ?_⟩
  simp [ex31, Ins.fits]
theorem ex31_ok : ex31.okP := by
  intro b hb i hi
  simp only [ex31, List.mem_cons, List.not_mem_nil, or_false] at hb
  rcases hb with rfl | rfl | rfl
  all_goals
    simp only [List.mem_cons, List.not_mem_nil, or_false] at hi
    first
      | (rcases hi with rfl | rfl <;> exact ⟨by kernel_rfl, by decide, by intro u hu; revert u; decide +kernel⟩)
      | (rcases hi with rfl; exact ⟨by kernel_rfl, by decide, by intro u hu; revert u; decide +kernel⟩)
theorem works31 : FnSpec Try.prog 51 [] (fun r => r = tru true) := by
  refine spec_of 1000 Try.func51 rfl rfl ?_
  repeat' first | refine Len.map ?_ | refine Len.nil ?_ | refine Len.cons ?_ | refine Br.t rfl ?_ | refine Br.f rfl ?_ | refine Fit.au ?_ | refine Need.au ?_ | refine Pick.map (by assumption) ?_ | refine Pick.mapI (by omega) (by assumption) ?_ | refine PickN.mk _ (by assumption) ?_ | refine PickN.mk _ rfl ?_ | refine PickN.au ?_ | refine App.au rfl ?_ | refine App.au (own_map (fun _ => rfl) _) ?_ | refine Both.mk ?_ ?_ | exact True.intro
  refine Stop.mk (run_frzV 5 rfl rfl rfl ?_)
  refine go 7 Try.func51 ?_
  have hI := Insert55_spec ex31 ex31_fits ex31_ok (by decide) (by decide) (by decide)
  rw [ex31_ins] at hI
  refine Call.le (by repeat' first | exact Le.refl _ | exact Le.none | exact LeL.nil | refine LeL.cons ?_ ?_ | exact LeLL.nil | refine LeLL.cons ?_ ?_ | refine Le.agg ?_ | refine Le.sl ?_ | refine Le.pt ?_) (Call.eq hI rfl ?_)
  repeat' first | refine Len.map ?_ | refine Len.nil ?_ | refine Len.cons ?_ | refine Br.t rfl ?_ | refine Br.f rfl ?_ | refine Fit.au ?_ | refine Need.au ?_ | refine Pick.map (by assumption) ?_ | refine Pick.mapI (by omega) (by assumption) ?_ | refine PickN.mk _ (by assumption) ?_ | refine PickN.mk _ rfl ?_ | refine PickN.au ?_ | refine App.au rfl ?_ | refine App.au (own_map (fun _ => rfl) _) ?_ | refine Both.mk ?_ ?_ | exact True.intro
  refine Stop.mk (run_frzR 7 rfl (xs' := ex31o.blocks.map blk) rfl ?_)
  refine Run.fr (g := []) (tm' := [(2, .sl false 1 (ex31o.blocks.map blk))]) (hp' := []) (nx' := 0) (nt := 60) ?_ ⟨rfl, (by repeat' first | exact trivial | refine ⟨rfl, ?_⟩ | refine ⟨congrArg (fun n => AV.lit (.int .i64 n)) (by omega), ?_⟩ | refine ⟨congrArg (fun l => some (Row.row 1 l)) (by simp [int1, num, tru]), ?_⟩), (by repeat' first | exact trivial | refine ⟨rfl, ?_⟩ | refine ⟨congrArg (fun n => AV.lit (.int .i64 n)) (by omega), ?_⟩ | refine ⟨congrArg (fun l => some (Row.row 1 l)) (by simp [int1, num, tru]), ?_⟩)⟩
  obtain ⟨bs, hbs⟩ : ∃ bs, bs = ex31o.blocks := ⟨_, rfl⟩
  rw [← hbs]
  have hl : bs.length = 3 := by rw [hbs]; rfl
  obtain ⟨b1, hb1⟩ : ∃ b, b = [(⟨45, 0, 0, 1, 0, 0, 5, 0, []⟩ : Ins), ⟨45, 1, 1, 0, 0, 0, 7, 0, []⟩, ⟨43, 0, 0, 0, 0, 0, 0, 0, []⟩] := ⟨_, rfl⟩
  obtain ⟨b2, hb2⟩ : ∃ b, b = [(⟨45, 0, 0, 1, 0, 0, 8, 0, []⟩ : Ins), ⟨45, 1, 1, 0, 0, 0, 6, 0, []⟩, ⟨43, 0, 1, 0, 0, 0, 0, 0, []⟩] := ⟨_, rfl⟩
  have g1 : bs[1]? = some b1 := by rw [hbs, hb1]; rfl
  have g2 : bs[2]? = some b2 := by rw [hbs, hb2]; rfl
  have l1 : b1.length = 3 := by rw [hb1]; rfl
  have l2 : b2.length = 3 := by rw [hb2]; rfl
  have c1 : b1[0]? = some ⟨45, 0, 0, 1, 0, 0, 5, 0, []⟩ := by rw [hb1]; rfl
  have c2 : b1[1]? = some ⟨45, 1, 1, 0, 0, 0, 7, 0, []⟩ := by rw [hb1]; rfl
  have c3 : b2[0]? = some ⟨45, 0, 0, 1, 0, 0, 8, 0, []⟩ := by rw [hb2]; rfl
  clear hbs hb1 hb2
  refine go 1000 Try.func51 ?_
  repeat' first | refine Pick.map (n := 1) g1 ?_ | refine Pick.map (n := 2) g2 ?_ | refine Pick.map (n := 0) c1 ?_ | refine Pick.map (n := 1) c2 ?_ | refine Pick.map (n := 0) c3 ?_ | (refine Br.t ?_ ?_; focus (first | (simp; done) | (simp; omega))) | refine Len.map ?_ | refine Len.nil ?_ | refine Len.cons ?_ | refine Br.t rfl ?_ | refine Br.f rfl ?_ | refine Fit.au ?_ | refine Need.au ?_ | refine Pick.map (by assumption) ?_ | refine Pick.mapI (by omega) (by assumption) ?_ | refine PickN.mk _ (by assumption) ?_ | refine PickN.mk _ rfl ?_ | refine PickN.au ?_ | refine App.au rfl ?_ | refine App.au (own_map (fun _ => rfl) _) ?_ | refine Both.mk ?_ ?_ | exact True.intro
  refine Call.le (by repeat' first | exact Le.refl _ | exact Le.none | exact LeL.nil | refine LeL.cons ?_ ?_ | exact LeLL.nil | refine LeLL.cons ?_ ?_ | refine Le.agg ?_ | refine Le.sl ?_ | refine Le.pt ?_) (Call.eq (SameInstr_spec ⟨45, 0, 0, 1, 0, 0, 5, 0, []⟩ ⟨45, 0, 0, 1, 0, 0, 5, 0, []⟩ (by decide)) rfl ?_)
  repeat' first | refine Pick.map (n := 1) g1 ?_ | refine Pick.map (n := 2) g2 ?_ | refine Pick.map (n := 0) c1 ?_ | refine Pick.map (n := 1) c2 ?_ | refine Pick.map (n := 0) c3 ?_ | (refine Br.t ?_ ?_; focus (first | (simp; done) | (simp; omega))) | refine Len.map ?_ | refine Len.nil ?_ | refine Len.cons ?_ | refine Br.t rfl ?_ | refine Br.f rfl ?_ | refine Fit.au ?_ | refine Need.au ?_ | refine Pick.map (by assumption) ?_ | refine Pick.mapI (by omega) (by assumption) ?_ | refine PickN.mk _ (by assumption) ?_ | refine PickN.mk _ rfl ?_ | refine PickN.au ?_ | refine App.au rfl ?_ | refine App.au (own_map (fun _ => rfl) _) ?_ | refine Both.mk ?_ ?_ | exact True.intro
  refine Call.le (by repeat' first | exact Le.refl _ | exact Le.none | exact LeL.nil | refine LeL.cons ?_ ?_ | exact LeLL.nil | refine LeLL.cons ?_ ?_ | refine Le.agg ?_ | refine Le.sl ?_ | refine Le.pt ?_) (Call.eq (SameInstr_spec ⟨45, 1, 1, 0, 0, 0, 7, 0, []⟩ ⟨45, 1, 1, 0, 0, 0, 7, 0, []⟩ (by decide)) rfl ?_)
  repeat' first | refine Pick.map (n := 1) g1 ?_ | refine Pick.map (n := 2) g2 ?_ | refine Pick.map (n := 0) c1 ?_ | refine Pick.map (n := 1) c2 ?_ | refine Pick.map (n := 0) c3 ?_ | (refine Br.t ?_ ?_; focus (first | (simp; done) | (simp; omega))) | refine Len.map ?_ | refine Len.nil ?_ | refine Len.cons ?_ | refine Br.t rfl ?_ | refine Br.f rfl ?_ | refine Fit.au ?_ | refine Need.au ?_ | refine Pick.map (by assumption) ?_ | refine Pick.mapI (by omega) (by assumption) ?_ | refine PickN.mk _ (by assumption) ?_ | refine PickN.mk _ rfl ?_ | refine PickN.au ?_ | refine App.au rfl ?_ | refine App.au (own_map (fun _ => rfl) _) ?_ | refine Both.mk ?_ ?_ | exact True.intro
  show _ = _
  simp [asRes, tru]

theorem PiWords_spec (op : Int) : FnSpec Try.prog 10 [num op] (fun r => r = tru true) := by
  have e1 : againstF op = 0 ∨ (againstF (againstF op) = op ∧ turnedF (turnedF op) = op ∧ turnedF (againstF op) = againstF (turnedF op)) := by
    by_cases h : 3 ≤ op ∧ op ≤ 8
    · have h6 : op = 3 ∨ op = 4 ∨ op = 5 ∨ op = 6 ∨ op = 7 ∨ op = 8 := by omega
      rcases h6 with rfl | rfl | rfl | rfl | rfl | rfl <;> exact .inr (by decide)
    · left; unfold againstF
      repeat' first | rw [if_neg (by omega)]
  refine spec_of 1000 Try.func10 rfl rfl ?_
  repeat' first | refine Call.eq (Against47_spec _) rfl ?_ | refine Call.eq (Turned48_spec _) rfl ?_ | refine Call.eq (Against49_spec _) rfl ?_ | refine Call.eq (Turned50_spec _) rfl ?_ | refine Call.eq works31 rfl ?_ | refine Len.map ?_ | refine Len.nil ?_ | refine Len.cons ?_ | refine Br.t rfl ?_ | refine Br.f rfl ?_ | refine Fit.au ?_ | refine Need.au ?_ | refine Pick.map (by assumption) ?_ | refine Pick.mapI (by omega) (by assumption) ?_ | refine PickN.mk _ (by assumption) ?_ | refine PickN.mk _ rfl ?_ | refine PickN.au ?_ | refine App.au rfl ?_ | refine App.au (own_map (fun _ => rfl) _) ?_ | refine Both.mk ?_ ?_ | exact True.intro | (refine Br.d (fun h => ?_) (fun h => ?_) <;> try (exfalso; omega)) | (refine Br.nd (fun h => ?_) (fun h => ?_) <;> try (exfalso; omega)) | (refine Br.mk (fun h => ?_) (fun h => ?_) <;> try (exfalso; omega))
  all_goals first
    | rfl
    | (exfalso; omega)
end Go.Proofs.Ytnfkdilmoppbpaa

/- Nothing is wrong with a program in which what is told is inserted. No program is in sight here. -/
namespace Go.Proofs.Ytnfkdilmoppbpaa
open Go.Ax

def insPro (p : Pro) : Pro := { p with funcs := p.funcs.map insF }
theorem aft_cons (i : Ins) (b : List Ins) : (i :: b).flatMap aft = aft i ++ b.flatMap aft := List.flatMap_cons
/-- What stands in a block behind its beginning. -/
theorem aft_at : ∀ (b : List Ins) (q : Nat) (x : Ins), (b.flatMap aft)[q]? = some x → ∃ j i, b[j]? = some i ∧ ((x = i ∧ q = ((b.take j).flatMap aft).length) ∨ (x = piIns i.b i.a 20 ∧ i.op = 32 ∧ q = ((b.take j).flatMap aft).length + 1))
  | [], q, x, h => by simp at h
  | i :: b, q, x, h => by
    rw [aft_cons] at h
    by_cases hq : q < (aft i).length
    · rw [List.getElem?_append_left hq] at h
      refine ⟨0, i, rfl, ?_⟩
      unfold aft at h hq
      split at h
      · rename_i h32
        match q, h with
        | 0, h => left; exact ⟨(Option.some.inj h).symm, rfl⟩
        | 1, h => right; exact ⟨(Option.some.inj h).symm, h32, rfl⟩
        | q + 2, h => simp at h
      · match q, h with
        | 0, h => left; exact ⟨(Option.some.inj h).symm, rfl⟩
        | q + 1, h => simp at h
    · rw [List.getElem?_append_right (by omega)] at h
      obtain ⟨j, i2, g, h2⟩ := aft_at b _ x h
      refine ⟨j + 1, i2, g, ?_⟩
      rw [List.take_succ_cons, aft_cons, List.length_append]
      rcases h2 with ⟨h3, h4⟩ | ⟨h3, h5, h4⟩
      · left; exact ⟨h3, by omega⟩
      · right; exact ⟨h3, h5, by omega⟩
theorem aft_self (i : Ins) : i ∈ aft i := by unfold aft; simp
theorem mem_aft {b : List Ins} {i : Ins} (h : i ∈ b) : i ∈ b.flatMap aft := List.mem_flatMap.2 ⟨i, h, aft_self i⟩
theorem aft_last {b : List Ins} {e : Ins} (ge : b[b.length - 1]? = some e) (he : e.op ≠ 32) : (b.flatMap aft).getLast? = some e := by
  rw [← List.getLast?_eq_getElem?] at ge
  obtain ⟨b0, rfl⟩ := List.getLast?_eq_some_iff.1 ge
  rw [List.flatMap_append]
  have : [e].flatMap aft = [e] := by simp [aft, he]
  rw [this, List.getLast?_append]; rfl
theorem insB_last {f : Fun} {P : List (List Int)} {k : Nat} {b : List Ins} {e : Ins} (ge : b[b.length - 1]? = some e) (he : e.op ≠ 32) : (insB f P k b)[(insB f P k b).length - 1]? = some e := by
  rw [← List.getLast?_eq_getElem?]
  unfold insB
  rw [List.getLast?_append, aft_last ge he]; rfl
theorem wroteI_sub {b c : List Ins} {j q : Nat} {u : Int} (h : ∀ i ∈ b.take j, i ∈ c.take q) (hw : wroteI b j u = true) : wroteI c q u = true := by
  unfold wroteI at *
  obtain ⟨i, hi, h2⟩ := List.any_eq_true.1 hw
  exact List.any_eq_true.2 ⟨i, h i hi, h2⟩
theorem Un.mono {s : List (List Int)} {w w2 : Nat → Bool} (h : ∀ k, w k = true → w2 k = true) {t : Int} (hu : Un s w2 t) : Un s w t := by
  induction hu with
  | zero => exact .zero
  | @step k t l _ hw gl ht ih =>
    refine .step ih ?_ gl ht
    cases e : w k with
    | false => rfl
    | true => rw [h k e] at hw; cases hw
theorem insAt {f : Fun} {k : Nat} {c : List Ins} (h : (insF f).blocks[k]? = some c) : ∃ b, f.blocks[k]? = some b ∧ c = insB f (predsF (succsF f)) k b := by
  have h1 : (f.blocks.mapIdx (insB f (predsF (succsF f))))[k]? = some c := h
  rw [List.getElem?_mapIdx] at h1
  cases g : f.blocks[k]? with
  | none => rw [g] at h1; cases h1
  | some b => rw [g] at h1; exact ⟨b, rfl, (Option.some.inj h1).symm⟩
theorem insLen (f : Fun) : (insF f).blocks.length = f.blocks.length := by
  show (f.blocks.mapIdx _).length = _
  rw [List.length_mapIdx]
theorem insGet {f : Fun} {k : Nat} {b : List Ins} (h : f.blocks[k]? = some b) : (insF f).blocks[k]? = some (insB f (predsF (succsF f)) k b) := by
  show (f.blocks.mapIdx _)[k]? = _
  rw [List.getElem?_mapIdx, h]; rfl

/-- Nothing is wrong with a function, and its last instructions end. -/
structure FineF (p : Pro) (f : Fun) : Prop where
  one : ∀ (k : Nat) (b : List Ins), f.blocks[k]? = some b → b.length ≠ 0 ∧ ∀ (j : Nat) (i : Ins), b[j]? = some i → oneP p f k b j i
  op : ∀ b ∈ f.blocks, ∀ i ∈ b, i.op < 44

theorem endsF_op {op : Int} (h : endsF op = true) : op = 41 ∨ op = 42 ∨ op = 43 := by
  unfold endsF at h; simp at h; omega
theorem FineF.last {p : Pro} {f : Fun} (h : FineF p f) {k : Nat} {b : List Ins} (gb : f.blocks[k]? = some b) : ∃ e, b[b.length - 1]? = some e ∧ endsF e.op = true := by
  obtain ⟨h0, h1⟩ := h.one k b gb
  have hl : b.length - 1 < b.length := by omega
  refine ⟨b[b.length - 1], List.getElem?_eq_getElem hl, ?_⟩
  exact (h1 _ _ (List.getElem?_eq_getElem hl)).1.2.1.2 (by omega)
theorem FineF.succs {p : Pro} {f : Fun} (h : FineF p f) : succsF (insF f) = succsF f := by
  unfold succsF
  rw [insLen]
  apply List.ext_getElem?
  intro k
  rw [List.getElem?_map, List.getElem?_map]
  cases g : f.blocks[k]? with
  | none =>
    have : (insF f).blocks[k]? = none := by
      rw [List.getElem?_eq_none_iff] at g ⊢
      rw [insLen]; exact g
    rw [this]
  | some b =>
    rw [insGet g]
    obtain ⟨e, ge, he⟩ := h.last g
    have h32 : e.op ≠ 32 := by have := endsF_op he; omega
    show some (succ1 _ _) = some (succ1 _ _)
    unfold succ1
    rw [insB_last ge h32, ge]
theorem FineF.live {p : Pro} {f : Fun} (h : FineF p f) : live (insF f) = live f := by
  unfold Proofs.Ytnfkdilmoppbpaa.live; rw [h.succs]

/-- Whence an OpPi at a block's beginning comes. -/
structure From (f : Fun) (k : Nat) (x : Ins) (j m : Nat) (i : Ins) : Prop where
  nz : k ≠ 0
  only : ∀ (n : Nat) (l : List Int), (succsF f)[n]? = some l → (k : Int) ∈ l → n = j
  at_ : ∃ b, f.blocks[j]? = some b ∧ b[m]? = some i
  is : (x = piIns i.a 0 21 ∧ i.op = 26) ∨ (∃ o, 3 ≤ o ∧ o ≤ 8 ∧ 3 ≤ i.op ∧ i.op ≤ 8 ∧ f.regs.getD i.a.toNat 0 = 1 ∧ (x = piIns i.a i.b o ∨ x = piIns i.b i.a o))
theorem turned_in {op : Int} (h : 3 ≤ op ∧ op ≤ 8) : 3 ≤ turnedF op ∧ turnedF op ≤ 8 := by
  have h6 : op = 3 ∨ op = 4 ∨ op = 5 ∨ op = 6 ∨ op = 7 ∨ op = 8 := by omega
  rcases h6 with rfl | rfl | rfl | rfl | rfl | rfl <;> decide
theorem told_from {f : Fun} {k : Nat} {x : Ins} (h : x ∈ toldF f k (predsF (succsF f))) : ∃ j m i, From f k x j m i := by
  unfold toldF at h
  by_cases hk : k = 0
  · rw [if_pos hk] at h; cases h
  rw [if_neg hk] at h
  split at h
  rotate_left
  · cases h
  rename_i y g
  have hkl := (List.getElem?_eq_some_iff.1 g).1
  rw [predsF_len] at hkl
  unfold predsF at g
  rw [List.getElem?_map, List.getElem?_range hkl] at g
  have hpy : predOf (succsF f) k (succsF f).length = [y] := Option.some.inj g
  have hy : y ∈ predOf (succsF f) k (succsF f).length := by rw [hpy]; simp
  have honly : ∀ (n : Nat) (l : List Int), (succsF f)[n]? = some l → (k : Int) ∈ l → (n : Int) = y := by
    intro n l gl hkl
    have : (n : Int) ∈ predOf (succsF f) k (succsF f).length := by
      unfold predOf
      refine List.mem_map.2 ⟨n, List.mem_filter.2 ⟨List.mem_range.2 (List.getElem?_eq_some_iff.1 gl).1, ?_⟩, rfl⟩
      rw [gl]; exact decide_eq_true hkl
    rw [hpy] at this
    exact List.mem_singleton.1 this
  have hyp := predOf_lt hy
  rw [succsF_len] at hyp
  obtain ⟨j, rfl⟩ : ∃ j : Nat, y = (j : Int) := ⟨y.toNat, by omega⟩
  have gb : f.blocks[j]? = some f.blocks[j] := List.getElem?_eq_getElem (by omega)
  rw [Int.toNat_natCast, List.getD_eq_getElem?_getD, gb] at h
  generalize f.blocks[j] = b at *
  replace h : x ∈ tellB f k b := h
  cases hlw : lastW b (b.getLastD Ins.none).a (b.length - 1) with
  | none =>
    have hA : askF f b = (Ins.none, false) := by unfold askF; rw [hlw]
    rw [tellB_ask hA] at h
    split at h
    · cases h
    · rw [if_pos rfl] at h; cases h
  | some m =>
    obtain ⟨hm, i, gi, hd⟩ := lastW_some hlw
    have hA : askF f b = (i, !((usesF i).any fun u => wrF (b.drop (m + 1)) u) && (decide (i.op = 26) || (decide (3 ≤ i.op ∧ i.op ≤ 8) && decide (f.regs.getD i.a.toNat 0 = 1)))) := by unfold askF askAt; rw [hlw]; dsimp only; rw [gi]
    rw [tellB_ask hA] at h
    split at h
    · cases h
    split at h
    · cases h
    rename_i hask
    dsimp only at h hask
    have ht : i.op = 26 ∨ ((3 ≤ i.op ∧ i.op ≤ 8) ∧ f.regs.getD i.a.toNat 0 = 1) := by
      rw [Bool.eq_false_iff, ne_eq, Decidable.not_not, Bool.and_eq_true, Bool.or_eq_true, Bool.and_eq_true, decide_eq_true_eq, decide_eq_true_eq, decide_eq_true_eq] at hask
      exact hask.2
    refine ⟨j, m, i, hk, fun n l gl hkl => by have := honly n l gl hkl; omega, ⟨b, gb, gi⟩, ?_⟩
    by_cases h26 : i.op = 26
    · left
      rw [if_pos h26] at h
      split at h
      · cases h
      · exact ⟨List.mem_singleton.1 h, h26⟩
    · right
      rw [if_neg h26] at h
      obtain ⟨h1, h2⟩ := ht.resolve_left h26
      have key : ∀ o : Int, 3 ≤ o ∧ o ≤ 8 → x ∈ tellI o i → ∃ o, 3 ≤ o ∧ o ≤ 8 ∧ 3 ≤ i.op ∧ i.op ≤ 8 ∧ f.regs.getD i.a.toNat 0 = 1 ∧ (x = piIns i.a i.b o ∨ x = piIns i.b i.a o) := fun o ho hx => by
        unfold tellI at hx
        split at hx
        · cases hx
        · rcases List.mem_cons.1 hx with hx | hx
          · exact ⟨o, ho.1, ho.2, h1.1, h1.2, h2, .inl hx⟩
          · split at hx
            · cases hx
            · have := turned_in ho
              exact ⟨turnedF o, this.1, this.2, h1.1, h1.2, h2, .inr (List.mem_singleton.1 hx)⟩
      split at h
      · exact key _ h1 h
      · exact key _ (against_in h1) h

/-- An OpPi is right. -/
theorem pi_right {x y m : Int} (hx : 0 ≤ x) (hy : 0 ≤ y) (hm : (3 ≤ m ∧ m ≤ 8) ∨ m = 20 ∨ (m = 21 ∧ y = 0)) : right15 (piIns x y m) = true := by
  have f1 : ∀ (n : Int), 0 ≤ n → fits0 true n = true := fun n hn => by unfold fits0; simp; omega
  have f2 : ∀ (h : Bool), fits0 h 0 = true := fun h => by unfold fits0; simp
  have hw : writesF 45 = true := by unfold writesF; simp
  have hab : abF 45 = true := by unfold abF; simp
  have hb : fits0 (bF (piIns x y m)) y = true := by
    rcases hm with hm | hm | ⟨hm, rfl⟩
    · have : bF (piIns x y m) = true := by unfold bF; rw [show (piIns x y m).op = 45 from rfl, hab]; simp [piIns]; omega
      rw [this]; exact f1 _ hy
    · have : bF (piIns x y m) = true := by unfold bF; rw [show (piIns x y m).op = 45 from rfl, hab]; simp [piIns]; omega
      rw [this]; exact f1 _ hy
    · exact f2 _
  unfold right15
  rw [Bool.and_eq_true, Bool.and_eq_true, Bool.and_eq_true]
  refine ⟨by show opF 45 = true; unfold opF; simp, ?_, by simp [piIns], ?_⟩
  · unfold fitsF
    rw [Bool.and_eq_true, Bool.and_eq_true, Bool.and_eq_true, Bool.and_eq_true]
    refine ⟨?_, ?_, hb, f2 _, f2 _⟩
    · show fits0 (writesF 45) x = true
      rw [hw]; exact f1 _ hx
    · show fits0 (abF 45 || oneF 45) x = true
      rw [hab]; exact f1 _ hx
  · show tailF ⟨45, x, x, y, 0, 0, m, 0, []⟩ = true
    unfold tailF
    simp
    omega
theorem pi_uses {x y m : Int} (hr : right15 (piIns x y m) = true) : usesF (piIns x y m) = if m = 21 then [x] else [x, y] := by
  have hab : abF (piIns x y m).op = true := by rw [show (piIns x y m).op = 45 from rfl]; unfold abF; simp
  have hb : bF (piIns x y m) = decide (m ≠ 21) := by unfold bF; rw [hab]; simp [piIns]
  unfold usesF
  rw [if_pos hr, hb, hab]
  by_cases h : m = 21
  · simp [h, piIns]
  · simp [h, piIns]
theorem pi_kinds {q : Pro} {f : Fun} {x y m : Int} : kindsF q f (piIns x y m) = if m = 21 then [3] else if m = 20 then [1, 3] else List.replicate (usesF (piIns x y m)).length 1 := by
  unfold kindsF
  rw [show (piIns x y m).op = 45 from rfl, show (piIns x y m).m = m from rfl]
  repeat rw [if_neg (show ¬ ((45 : Int) = 3 ∨ (45 : Int) = 4) by decide)]
  rw [if_neg (show ¬ ((45 : Int) = 23) by decide), if_neg (show ¬ ((45 : Int) = 25 ∨ (45 : Int) = 42) by decide), if_neg (show ¬ ((45 : Int) = 26 ∨ (45 : Int) = 27 ∨ (45 : Int) = 31) by decide), if_neg (show ¬ ((45 : Int) = 29 ∨ (45 : Int) = 32) by decide), if_neg (show ¬ ((45 : Int) = 30) by decide), if_neg (show ¬ ((45 : Int) = 39) by decide), if_neg (show ¬ ((45 : Int) = 43) by decide), if_neg (show ¬ ((45 : Int) = 44) by decide)]
  by_cases h : m = 21
  · rw [if_pos ⟨rfl, h⟩, if_pos h]
  · rw [if_neg (fun e => h e.2), if_neg h]
    by_cases h2 : m = 20
    · rw [if_pos ⟨rfl, h2⟩, if_pos h2]
    · rw [if_neg (fun e => h2 e.2), if_neg h2]
theorem pi_kind {q : Pro} {f : Fun} {x y m : Int} : kindF q f (piIns x y m) = if m = 21 then 3 else 1 := by
  unfold kindF
  rw [show (piIns x y m).op = 45 from rfl, show (piIns x y m).m = m from rfl]
  rw [if_neg (show ¬ ((45 : Int) ≤ 8 ∨ (45 : Int) = 21 ∨ (45 : Int) = 25 ∨ (45 : Int) = 26) by decide), if_neg (show ¬ ((45 : Int) = 39) by decide), if_neg (show ¬ ((45 : Int) = 23 ∨ (45 : Int) = 44) by decide)]
  by_cases h : m = 21
  · rw [if_pos (.inr (.inr ⟨rfl, h⟩)), if_pos h]
  · rw [if_neg (by simp [h]), if_neg h]
theorem pi_def {x y m : Int} (hr : right15 (piIns x y m) = true) : def15 (piIns x y m) = x := by
  unfold def15
  rw [if_pos ⟨hr, by show writesF 45 = true; unfold writesF; simp⟩]; rfl
/-- Nothing is wrong with an OpPi of some kinds, where it stands. -/
theorem pi_one {q : Pro} {f : Fun} {k : Nat} {b : List Ins} {j : Nat} {x y m : Int} (hx : 0 ≤ x ∧ x < f.regs.length) (hy : 0 ≤ y ∧ (m ≠ 21 → y < f.regs.length)) (hm : (3 ≤ m ∧ m ≤ 8) ∨ m = 20 ∨ (m = 21 ∧ y = 0))
    (hk : f.regs.getD x.toNat 0 = if m = 21 then 3 else 1) (hk2 : m ≠ 21 → f.regs.getD y.toNat 0 = if m = 20 then 3 else 1) (hj : j + 1 ≠ b.length) : oneP q f k b j (piIns x y m) := by
  have hr := pi_right hx.1 hy.1 hm
  have hu := pi_uses hr
  refine ⟨⟨hr, ⟨fun h => ?_, fun h => absurd h hj⟩, fun h => ?_⟩, ⟨?_, ?_, ?_, fun h => ?_, fun h => ?_, fun h => ?_⟩, ?_, fun _ => ?_⟩
  · have := endsF_op h
    simp [piIns] at this
  · simp [piIns] at h
  · rw [pi_def hr]; exact hx.2
  · rw [hu]
    intro u hu2
    split at hu2
    · rw [List.mem_singleton.1 hu2]; exact hx.2
    · rename_i h21
      simp only [List.mem_cons, List.not_mem_nil, or_false] at hu2
      rcases hu2 with rfl | rfl
      · exact hx.2
      · exact hy.2 h21
  · intro t ht
    unfold targetsF at ht
    rw [if_neg (by simp [piIns]), if_neg (by simp [piIns])] at ht
    cases ht
  · exfalso
    have : checkF 45 = true := h
    unfold checkF at this
    simp at this
  · simp [piIns] at h
  · simp [piIns] at h
  · rw [pi_kinds, hu]
    by_cases h21 : m = 21
    · rw [if_pos h21] at hk
      rw [if_pos h21, if_pos h21, List.map_singleton, hk]
    · rw [if_neg h21] at hk
      have hk3 := hk2 h21
      rw [if_neg h21, if_neg h21]
      simp only [List.map_cons, List.map_nil, hk, hk3]
      by_cases h20 : m = 20
      · rw [if_pos h20, if_pos h20]
      · rw [if_neg h20, if_neg h20]; rfl
  · rw [pi_kind]; exact hk
end Go.Proofs.Ytnfkdilmoppbpaa
