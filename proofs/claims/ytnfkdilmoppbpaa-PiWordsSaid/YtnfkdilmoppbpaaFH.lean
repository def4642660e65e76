/- What is inserted into a function, by a contract. -/
import Derived.Test.YtnfkdilmoppbpaaFG
set_option linter.unusedVariables false
set_option linter.unusedSimpArgs false

namespace Go.Proofs.Ytnfkdilmoppbpaa
open Go.Ax
set_option maxRecDepth 10000
set_option linter.unusedVariables false

theorem insF_at {f : Fun} {k : Nat} {b : List Ins} (gb : f.blocks[k]? = some b) : (insF f).blocks[k]? = some (insB f (predsF (succsF f)) k b) := by
  unfold insF; simp [gb]
theorem insF_len (f : Fun) : (insF f).blocks.length = f.blocks.length := by unfold insF; simp
def z5 : List AV := [.lit (.string ⟨#[]⟩), num 0, num 0, .lit (.slice none 0 0), .lit (.slice none 0 0)]
def iH (f : Fun) (k : Nat) : HP := [(0, .var f.cs), (1, .var z5), (2, .var [.lit (.string f.name), num f.params, num f.ret, .osl 1 (f.regs.map int1), .osl 1 (((insF f).blocks.take k).map oblk)])]
set_option maxHeartbeats 2000000 in
theorem Insert55_spec (f : Fun) (hf : f.fits) (hok : f.okP) (hn : f.blocks.length ≤ 100000) (hg : f.regs.length ≤ 1000000) (hb : ∀ b ∈ f.blocks, b.length ≤ 1000000) :
    FnSpec Try.prog 55 [funA f] (fun r => r = .agg (insF f).ocs) := by
  refine spec_of 1000 Try.func55 rfl rfl ?_
  repeat' first | refine Call.eq (Clone_spec f.regs hg) rfl ?_ | refine Call.eq (Preds68_spec f hf (by omega)) rfl ?_ | refine Len.map ?_ | refine Len.nil ?_ | refine Len.cons ?_ | refine Br.t rfl ?_ | refine Br.f rfl ?_ | refine Need.mk ⟨by first | omega | (simp; omega), by first | omega | (simp; done) | (simp; omega)⟩ ?_ | refine Pick.map (by assumption) ?_ | refine Pick.mapI (by omega) (by assumption) ?_ | refine PickN.mk _ (by assumption) ?_ | refine PickN.mk _ rfl ?_ | refine PickN.map (by first | assumption | (rw [Int.toNat_natCast]; assumption)) ?_ | refine App.mk rfl (by simp only [List.length_map, List.length_append, List.length_cons, List.length_nil]; omega) (by simp only [List.length_map, List.length_append, List.length_cons, List.length_nil]; omega) ?_ | refine App.mk (own_map (fun _ => rfl) _) (by simp only [List.length_map, List.length_append, List.length_cons, List.length_nil]; omega) (by simp only [List.length_map, List.length_append, List.length_cons, List.length_nil]; omega) ?_ | refine Both.mk ?_ ?_ | exact True.intro
  refine Stop.mk (run_frzR 4 rfl (fzLL_map fz_olsts _) ?_)
  refine run_varLe 2 rfl (.cons (.refl _) (.cons (.refl _) (.cons (.refl _) (.cons (.refl _) (.cons (VLe.onil (sz := 1)) .nil))))) ?_
  have hpl := predsF_len (succsF f)
  rw [succsF_len] at hpl
  have hpp : ∀ l ∈ predsF (succsF f), l.length ≤ 1000000 ∧ ∀ x ∈ l, 0 ≤ x ∧ x < f.blocks.length := by
    intro l hl
    unfold predsF at hl
    obtain ⟨t, _, rfl⟩ := List.mem_map.1 hl
    have h1 := predOf_len (succsF f) t (succsF f).length
    rw [succsF_len] at h1 ⊢
    exact ⟨by omega, fun x hx => predOf_lt hx⟩
  have hat := fun k b => insF_at (f := f) (k := k) (b := b)
  have hlen := insF_len f
  generalize predsF (succsF f) = p at *
  refine loop_in (g := []) (fun k : Nat => [(1, .hp 0 0), (2, .hp 1 0), (3, .hp 2 0), (4, lsts p), (19, .sl false 1 (f.blocks.map blk)), (20, num f.blocks.length), (21, num k)]) (fun k => iH f k) 3 (fun k => k ≤ f.blocks.length) (fun k => f.blocks.length - k) 0 (by omega) ⟨rfl, (by repeat' first | exact trivial | refine ⟨rfl, ?_⟩ | refine ⟨congrArg (fun n => AV.lit (.int .i64 n)) (by omega), ?_⟩ | refine ⟨congrArg (fun l => some (Row.row 1 l)) (by simp [int1, num, tru]), ?_⟩), (by repeat' first | exact trivial | refine ⟨rfl, ?_⟩ | refine ⟨congrArg (fun n => AV.lit (.int .i64 n)) (by omega), ?_⟩ | refine ⟨congrArg (fun l => some (Row.row 1 l)) (by simp [int1, num, tru]), ?_⟩)⟩ (fun k hk ih => ?_)
  refine go 1000 Try.func55 ?_
  repeat' first | refine Len.map ?_ | refine Len.nil ?_ | refine Len.cons ?_ | refine Br.t rfl ?_ | refine Br.f rfl ?_ | refine Need.mk ⟨by first | omega | (simp; omega), by first | omega | (simp; done) | (simp; omega)⟩ ?_ | refine Pick.map (by assumption) ?_ | refine Pick.mapI (by omega) (by assumption) ?_ | refine PickN.mk _ (by assumption) ?_ | refine PickN.mk _ rfl ?_ | refine PickN.map (by first | assumption | (rw [Int.toNat_natCast]; assumption)) ?_ | refine App.mk rfl (by simp only [List.length_map, List.length_append, List.length_cons, List.length_nil]; omega) (by simp only [List.length_map, List.length_append, List.length_cons, List.length_nil]; omega) ?_ | refine App.mk (own_map (fun _ => rfl) _) (by simp only [List.length_map, List.length_append, List.length_cons, List.length_nil]; omega) (by simp only [List.length_map, List.length_append, List.length_cons, List.length_nil]; omega) ?_ | refine Both.mk ?_ ?_ | exact True.intro
  refine Br.d (fun h2 => ?_) (fun h2 => ?_)
  · obtain ⟨b, gb, gbm⟩ := getK (l := f.blocks) (k := k) (by omega)
    obtain ⟨hb1, hb2⟩ := hf.2.2 b gbm
    have gout := hat k b gb
    have hbl := hb b gbm
    have hokb := hok b gbm
    have htl := toldF_len f k p
    have hbt : ((insF f).blocks.take k).length ≤ k := by rw [List.length_take]; omega
    have houts := take_succ gout
    repeat' first | refine Call.eq (told_spec f k p hf hok hb (by omega) hpp) rfl ?_ | refine Len.map ?_ | refine Len.nil ?_ | refine Len.cons ?_ | refine Br.t rfl ?_ | refine Br.f rfl ?_ | refine Need.mk ⟨by first | omega | (simp; omega), by first | omega | (simp; done) | (simp; omega)⟩ ?_ | refine Pick.map (by assumption) ?_ | refine Pick.mapI (by omega) (by assumption) ?_ | refine PickN.mk _ (by assumption) ?_ | refine PickN.mk _ rfl ?_ | refine PickN.map (by first | assumption | (rw [Int.toNat_natCast]; assumption)) ?_ | refine App.mk rfl (by simp only [List.length_map, List.length_append, List.length_cons, List.length_nil]; omega) (by simp only [List.length_map, List.length_append, List.length_cons, List.length_nil]; omega) ?_ | refine App.mk (own_map (fun _ => rfl) _) (by simp only [List.length_map, List.length_append, List.length_cons, List.length_nil]; omega) (by simp only [List.length_map, List.length_append, List.length_cons, List.length_nil]; omega) ?_ | refine Both.mk ?_ ?_ | exact True.intro
    refine Stop.mk (loop_in (g := []) (fun j : Nat => [(1, .hp 0 0), (2, .hp 1 0), (3, .hp 2 0), (4, lsts p), (19, .sl false 1 (f.blocks.map blk)), (20, num f.blocks.length), (21, num k), (30, bsl b), (31, num b.length), (32, num j), (7, .hw 3)]) (fun j => iH f k ++ [(3, .row 9 ((toldF f k p ++ (b.take j).flatMap aft).map Ins.ocs))]) 4 (fun j => j ≤ b.length) (fun j => b.length - j) 0 (by omega) ?_ (fun j hj ih2 => ?_))
    · rw [List.take_zero, List.flatMap_nil, List.append_nil]; exact ⟨rfl, (by repeat' first | exact trivial | refine ⟨rfl, ?_⟩ | refine ⟨congrArg (fun n => AV.lit (.int .i64 n)) (by omega), ?_⟩ | refine ⟨congrArg (fun l => some (Row.row 1 l)) (by simp [int1, num, tru]), ?_⟩), (by repeat' first | exact trivial | refine ⟨rfl, ?_⟩ | refine ⟨congrArg (fun n => AV.lit (.int .i64 n)) (by omega), ?_⟩ | refine ⟨congrArg (fun l => some (Row.row 1 l)) (by simp [int1, num, tru]), ?_⟩)⟩
    have hcl : ((b.take j).flatMap aft).length ≤ 2 * j := by
      have := aft_len (b.take j)
      rw [List.length_take] at this; omega
    have hcur : (toldF f k p ++ (b.take j).flatMap aft).length ≤ 2 + 2 * j := by rw [List.length_append]; omega
    refine go 1000 Try.func55 ?_
    repeat' first | refine Len.map ?_ | refine Len.nil ?_ | refine Len.cons ?_ | refine Br.t rfl ?_ | refine Br.f rfl ?_ | refine Need.mk ⟨by first | omega | (simp; omega), by first | omega | (simp; done) | (simp; omega)⟩ ?_ | refine Pick.map (by assumption) ?_ | refine Pick.mapI (by omega) (by assumption) ?_ | refine PickN.mk _ (by assumption) ?_ | refine PickN.mk _ rfl ?_ | refine PickN.map (by first | assumption | (rw [Int.toNat_natCast]; assumption)) ?_ | refine App.mk rfl (by simp only [List.length_map, List.length_append, List.length_cons, List.length_nil]; omega) (by simp only [List.length_map, List.length_append, List.length_cons, List.length_nil]; omega) ?_ | refine App.mk (own_map (fun _ => rfl) _) (by simp only [List.length_map, List.length_append, List.length_cons, List.length_nil]; omega) (by simp only [List.length_map, List.length_append, List.length_cons, List.length_nil]; omega) ?_ | refine Both.mk ?_ ?_ | exact True.intro
    refine Br.d (fun h3 => ?_) (fun h3 => ?_)
    · obtain ⟨i, gi, gim⟩ := getK (l := b) (k := j) (by omega)
      have hia := (hokb i gim).2.1
      have hnext : (toldF f k p ++ (b.take (j + 1)).flatMap aft) = (toldF f k p ++ (b.take j).flatMap aft) ++ aft i := by rw [flatMap_take_succ aft gi, List.append_assoc]
      generalize toldF f k p ++ (b.take j).flatMap aft = cur at *
      repeat' first | refine Call.eq (Clone_spec i.args hia) rfl ?_ | refine Len.map ?_ | refine Len.nil ?_ | refine Len.cons ?_ | refine Br.t rfl ?_ | refine Br.f rfl ?_ | refine Need.mk ⟨by first | omega | (simp; omega), by first | omega | (simp; done) | (simp; omega)⟩ ?_ | refine Pick.map (by assumption) ?_ | refine Pick.mapI (by omega) (by assumption) ?_ | refine PickN.mk _ (by assumption) ?_ | refine PickN.mk _ rfl ?_ | refine PickN.map (by first | assumption | (rw [Int.toNat_natCast]; assumption)) ?_ | refine App.mk rfl (by simp only [List.length_map, List.length_append, List.length_cons, List.length_nil]; omega) (by simp only [List.length_map, List.length_append, List.length_cons, List.length_nil]; omega) ?_ | refine App.mk (own_map (fun _ => rfl) _) (by simp only [List.length_map, List.length_append, List.length_cons, List.length_nil]; omega) (by simp only [List.length_map, List.length_append, List.length_cons, List.length_nil]; omega) ?_ | refine Both.mk ?_ ?_ | exact True.intro
      refine Stop.mk (run_unfold 4 8 rfl rfl (go 1000 Try.func55 ?_))
      repeat' first | refine Len.map ?_ | refine Len.nil ?_ | refine Len.cons ?_ | refine Br.t rfl ?_ | refine Br.f rfl ?_ | refine Need.mk ⟨by first | omega | (simp; omega), by first | omega | (simp; done) | (simp; omega)⟩ ?_ | refine Pick.map (by assumption) ?_ | refine Pick.mapI (by omega) (by assumption) ?_ | refine PickN.mk _ (by assumption) ?_ | refine PickN.mk _ rfl ?_ | refine PickN.map (by first | assumption | (rw [Int.toNat_natCast]; assumption)) ?_ | refine App.mk rfl (by simp only [List.length_map, List.length_append, List.length_cons, List.length_nil]; omega) (by simp only [List.length_map, List.length_append, List.length_cons, List.length_nil]; omega) ?_ | refine App.mk (own_map (fun _ => rfl) _) (by simp only [List.length_map, List.length_append, List.length_cons, List.length_nil]; omega) (by simp only [List.length_map, List.length_append, List.length_cons, List.length_nil]; omega) ?_ | refine Both.mk ?_ ?_ | exact True.intro
      refine Br.d (fun h4 => ?_) (fun h4 => ?_)
      · rw [show aft i = [i, piIns i.b i.a 20] by unfold aft; rw [if_pos h4]] at hnext
        repeat' first | refine Len.map ?_ | refine Len.nil ?_ | refine Len.cons ?_ | refine Br.t rfl ?_ | refine Br.f rfl ?_ | refine Need.mk ⟨by first | omega | (simp; omega), by first | omega | (simp; done) | (simp; omega)⟩ ?_ | refine Pick.map (by assumption) ?_ | refine Pick.mapI (by omega) (by assumption) ?_ | refine PickN.mk _ (by assumption) ?_ | refine PickN.mk _ rfl ?_ | refine PickN.map (by first | assumption | (rw [Int.toNat_natCast]; assumption)) ?_ | refine App.mk rfl (by simp only [List.length_map, List.length_append, List.length_cons, List.length_nil]; omega) (by simp only [List.length_map, List.length_append, List.length_cons, List.length_nil]; omega) ?_ | refine App.mk (own_map (fun _ => rfl) _) (by simp only [List.length_map, List.length_append, List.length_cons, List.length_nil]; omega) (by simp only [List.length_map, List.length_append, List.length_cons, List.length_nil]; omega) ?_ | refine Both.mk ?_ ?_ | exact True.intro
        refine Stop.mk (run_rowO 10 rfl (OLeLL.app (.refl _) (.cons (oins_le _ _ _ _ _ _ _ _) .nil)) ?_)
        refine ih2 (j + 1) (g := [(3, 10)]) _ _ _ (by omega) (by omega) ?_
        rw [hnext, show cur ++ [i, piIns i.b i.a 20] = (cur ++ [i]) ++ [piIns i.b i.a 20] by simp, List.map_append, List.map_append]
        exact ⟨rfl, (by repeat' first | exact trivial | refine ⟨rfl, ?_⟩ | refine ⟨congrArg (fun n => AV.lit (.int .i64 n)) (by omega), ?_⟩ | refine ⟨congrArg (fun l => some (Row.row 1 l)) (by simp [int1, num, tru]), ?_⟩), (by repeat' first | exact trivial | refine ⟨rfl, ?_⟩ | refine ⟨congrArg (fun n => AV.lit (.int .i64 n)) (by omega), ?_⟩ | refine ⟨congrArg (fun l => some (Row.row 1 l)) (by simp [int1, num, tru]), ?_⟩)⟩
      · rw [show aft i = [i] by unfold aft; rw [if_neg h4]] at hnext
        repeat' first | refine Len.map ?_ | refine Len.nil ?_ | refine Len.cons ?_ | refine Br.t rfl ?_ | refine Br.f rfl ?_ | refine Need.mk ⟨by first | omega | (simp; omega), by first | omega | (simp; done) | (simp; omega)⟩ ?_ | refine Pick.map (by assumption) ?_ | refine Pick.mapI (by omega) (by assumption) ?_ | refine PickN.mk _ (by assumption) ?_ | refine PickN.mk _ rfl ?_ | refine PickN.map (by first | assumption | (rw [Int.toNat_natCast]; assumption)) ?_ | refine App.mk rfl (by simp only [List.length_map, List.length_append, List.length_cons, List.length_nil]; omega) (by simp only [List.length_map, List.length_append, List.length_cons, List.length_nil]; omega) ?_ | refine App.mk (own_map (fun _ => rfl) _) (by simp only [List.length_map, List.length_append, List.length_cons, List.length_nil]; omega) (by simp only [List.length_map, List.length_append, List.length_cons, List.length_nil]; omega) ?_ | refine Both.mk ?_ ?_ | exact True.intro
        refine Stop.mk (ih2 (j + 1) (g := [(3, 8)]) _ _ _ (by omega) (by omega) ?_)
        rw [hnext, List.map_append]
        exact ⟨rfl, (by repeat' first | exact trivial | refine ⟨rfl, ?_⟩ | refine ⟨congrArg (fun n => AV.lit (.int .i64 n)) (by omega), ?_⟩ | refine ⟨congrArg (fun l => some (Row.row 1 l)) (by simp [int1, num, tru]), ?_⟩), (by repeat' first | exact trivial | refine ⟨rfl, ?_⟩ | refine ⟨congrArg (fun n => AV.lit (.int .i64 n)) (by omega), ?_⟩ | refine ⟨congrArg (fun l => some (Row.row 1 l)) (by simp [int1, num, tru]), ?_⟩)⟩
    · repeat' first | refine Len.map ?_ | refine Len.nil ?_ | refine Len.cons ?_ | refine Br.t rfl ?_ | refine Br.f rfl ?_ | refine Need.mk ⟨by first | omega | (simp; omega), by first | omega | (simp; done) | (simp; omega)⟩ ?_ | refine Pick.map (by assumption) ?_ | refine Pick.mapI (by omega) (by assumption) ?_ | refine PickN.mk _ (by assumption) ?_ | refine PickN.mk _ rfl ?_ | refine PickN.map (by first | assumption | (rw [Int.toNat_natCast]; assumption)) ?_ | refine App.mk rfl (by simp only [List.length_map, List.length_append, List.length_cons, List.length_nil]; omega) (by simp only [List.length_map, List.length_append, List.length_cons, List.length_nil]; omega) ?_ | refine App.mk (own_map (fun _ => rfl) _) (by simp only [List.length_map, List.length_append, List.length_cons, List.length_nil]; omega) (by simp only [List.length_map, List.length_append, List.length_cons, List.length_nil]; omega) ?_ | refine Both.mk ?_ ?_ | exact True.intro
      refine Stop.mk (ih (k + 1) (g := []) _ _ _ (by omega) (by omega) ?_)
      unfold iH
      rw [houts, List.map_append (f := oblk)]
      have : j = b.length := by omega
      subst this
      rw [List.take_length]
      exact ⟨rfl, (by repeat' first | exact trivial | refine ⟨rfl, ?_⟩ | refine ⟨congrArg (fun n => AV.lit (.int .i64 n)) (by omega), ?_⟩ | refine ⟨congrArg (fun l => some (Row.row 1 l)) (by simp [int1, num, tru]), ?_⟩), (by repeat' first | exact trivial | refine ⟨rfl, ?_⟩ | refine ⟨congrArg (fun n => AV.lit (.int .i64 n)) (by omega), ?_⟩ | refine ⟨congrArg (fun l => some (Row.row 1 l)) (by simp [int1, num, tru]), ?_⟩)⟩
  · repeat' first | refine Len.map ?_ | refine Len.nil ?_ | refine Len.cons ?_ | refine Br.t rfl ?_ | refine Br.f rfl ?_ | refine Need.mk ⟨by first | omega | (simp; omega), by first | omega | (simp; done) | (simp; omega)⟩ ?_ | refine Pick.map (by assumption) ?_ | refine Pick.mapI (by omega) (by assumption) ?_ | refine PickN.mk _ (by assumption) ?_ | refine PickN.mk _ rfl ?_ | refine PickN.map (by first | assumption | (rw [Int.toNat_natCast]; assumption)) ?_ | refine App.mk rfl (by simp only [List.length_map, List.length_append, List.length_cons, List.length_nil]; omega) (by simp only [List.length_map, List.length_append, List.length_cons, List.length_nil]; omega) ?_ | refine App.mk (own_map (fun _ => rfl) _) (by simp only [List.length_map, List.length_append, List.length_cons, List.length_nil]; omega) (by simp only [List.length_map, List.length_append, List.length_cons, List.length_nil]; omega) ?_ | refine Both.mk ?_ ?_ | exact True.intro
    refine Stop.mk (run_unfold 2 3 rfl rfl (run_unfold 2 4 rfl rfl (go 1000 Try.func55 ?_)))
    repeat' first | refine Len.map ?_ | refine Len.nil ?_ | refine Len.cons ?_ | refine Br.t rfl ?_ | refine Br.f rfl ?_ | refine Need.mk ⟨by first | omega | (simp; omega), by first | omega | (simp; done) | (simp; omega)⟩ ?_ | refine Pick.map (by assumption) ?_ | refine Pick.mapI (by omega) (by assumption) ?_ | refine PickN.mk _ (by assumption) ?_ | refine PickN.mk _ rfl ?_ | refine PickN.map (by first | assumption | (rw [Int.toNat_natCast]; assumption)) ?_ | refine App.mk rfl (by simp only [List.length_map, List.length_append, List.length_cons, List.length_nil]; omega) (by simp only [List.length_map, List.length_append, List.length_cons, List.length_nil]; omega) ?_ | refine App.mk (own_map (fun _ => rfl) _) (by simp only [List.length_map, List.length_append, List.length_cons, List.length_nil]; omega) (by simp only [List.length_map, List.length_append, List.length_cons, List.length_nil]; omega) ?_ | refine Both.mk ?_ ?_ | exact True.intro
    rw [take_all (by omega)]
    rfl
end Go.Proofs.Ytnfkdilmoppbpaa

/- The example of law 31, and the law PiWords as a function. -/
namespace Go.Proofs.Ytnfkdilmoppbpaa
open Go.Ax
set_option maxRecDepth 10000
set_option linter.unusedVariables false

def ex31 : Fun := ⟨⟨#[]⟩, 2, 1, [1, 1, 2], [[⟨5, 2, 0, 1, 0, 0, 0, 0, []⟩, ⟨42, 0, 2, 0, 0, 1, 2, 0, []⟩], [⟨43, 0, 0, 0, 0, 0, 0, 0, []⟩], [⟨43, 0, 1, 0, 0, 0, 0, 0, []⟩]]⟩
def ex31o : Fun := ⟨⟨#[]⟩, 2, 1, [1, 1, 2], [[⟨5, 2, 0, 1, 0, 0, 0, 0, []⟩, ⟨42, 0, 2, 0, 0, 1, 2, 0, []⟩], [⟨45, 0, 0, 1, 0, 0, 5, 0, []⟩, ⟨45, 1, 1, 0, 0, 0, 7, 0, []⟩, ⟨43, 0, 0, 0, 0, 0, 0, 0, []⟩], [⟨45, 0, 0, 1, 0, 0, 8, 0, []⟩, ⟨45, 1, 1, 0, 0, 0, 6, 0, []⟩, ⟨43, 0, 1, 0, 0, 0, 0, 0, []⟩]]⟩
theorem ex31_ins : insF ex31 = ex31o := by kernel_rfl
theorem ex31_fits : ex31.fits := by
  refine ⟨by decide, by decide, ?_⟩
  simp [ex31, Ins.fits]
theorem ex31_ok : ex31.okP := by
  intro b hb i hi
  simp only [ex31, List.mem_cons, List.not_mem_nil, or_false] at hb
  rcases hb with rfl | rfl | rfl
  all_goals
    simp only [List.mem_cons, List.not_mem_nil, or_false] at hi
    first
      | (rcases hi with rfl | rfl <;> exact ⟨by kernel_rfl, by decide, by intro u hu; revert u; decide +kernel⟩)
      | (rcases hi with rfl; exact ⟨by kernel_rfl, by decide, by intro u hu; revert u; decide +kernel⟩)
theorem works31 : FnSpec Try.prog 51 [] (fun r => r = tru true) := by
  refine spec_of 1000 Try.func51 rfl rfl ?_
  repeat' first | refine Len.map ?_ | refine Len.nil ?_ | refine Len.cons ?_ | refine Br.t rfl ?_ | refine Br.f rfl ?_ | refine Need.mk ⟨by first | omega | (simp; omega), by first | omega | (simp; done) | (simp; omega)⟩ ?_ | refine Pick.map (by assumption) ?_ | refine Pick.mapI (by omega) (by assumption) ?_ | refine PickN.mk _ (by assumption) ?_ | refine PickN.mk _ rfl ?_ | refine PickN.map (by first | assumption | (rw [Int.toNat_natCast]; assumption)) ?_ | refine App.mk rfl (by simp only [List.length_map, List.length_append, List.length_cons, List.length_nil]; omega) (by simp only [List.length_map, List.length_append, List.length_cons, List.length_nil]; omega) ?_ | refine App.mk (own_map (fun _ => rfl) _) (by simp only [List.length_map, List.length_append, List.length_cons, List.length_nil]; omega) (by simp only [List.length_map, List.length_append, List.length_cons, List.length_nil]; omega) ?_ | refine Both.mk ?_ ?_ | exact True.intro
  refine Stop.mk (run_frzV 5 rfl rfl rfl ?_)
  refine go 7 Try.func51 ?_
  have hI := Insert55_spec ex31 ex31_fits ex31_ok (by decide) (by decide) (by decide)
  rw [ex31_ins] at hI
  refine Call.le (by repeat' first | exact Le.refl _ | exact Le.none | exact LeL.nil | refine LeL.cons ?_ ?_ | exact LeLL.nil | refine LeLL.cons ?_ ?_ | refine Le.agg ?_ | refine Le.sl ?_ | refine Le.pt ?_) (Call.eq hI rfl ?_)
  repeat' first | refine Len.map ?_ | refine Len.nil ?_ | refine Len.cons ?_ | refine Br.t rfl ?_ | refine Br.f rfl ?_ | refine Need.mk ⟨by first | omega | (simp; omega), by first | omega | (simp; done) | (simp; omega)⟩ ?_ | refine Pick.map (by assumption) ?_ | refine Pick.mapI (by omega) (by assumption) ?_ | refine PickN.mk _ (by assumption) ?_ | refine PickN.mk _ rfl ?_ | refine PickN.map (by first | assumption | (rw [Int.toNat_natCast]; assumption)) ?_ | refine App.mk rfl (by simp only [List.length_map, List.length_append, List.length_cons, List.length_nil]; omega) (by simp only [List.length_map, List.length_append, List.length_cons, List.length_nil]; omega) ?_ | refine App.mk (own_map (fun _ => rfl) _) (by simp only [List.length_map, List.length_append, List.length_cons, List.length_nil]; omega) (by simp only [List.length_map, List.length_append, List.length_cons, List.length_nil]; omega) ?_ | refine Both.mk ?_ ?_ | exact True.intro
  refine Stop.mk (run_frzR 7 rfl (xs' := ex31o.blocks.map blk) rfl ?_)
  refine Run.fr (g := []) (tm' := [(2, .sl false 1 (ex31o.blocks.map blk))]) (hp' := []) (nx' := 0) (nt := 60) ?_ ⟨rfl, (by repeat' first | exact trivial | refine ⟨rfl, ?_⟩ | refine ⟨congrArg (fun n => AV.lit (.int .i64 n)) (by omega), ?_⟩ | refine ⟨congrArg (fun l => some (Row.row 1 l)) (by simp [int1, num, tru]), ?_⟩), (by repeat' first | exact trivial | refine ⟨rfl, ?_⟩ | refine ⟨congrArg (fun n => AV.lit (.int .i64 n)) (by omega), ?_⟩ | refine ⟨congrArg (fun l => some (Row.row 1 l)) (by simp [int1, num, tru]), ?_⟩)⟩
  obtain ⟨bs, hbs⟩ : ∃ bs, bs = ex31o.blocks := ⟨_, rfl⟩
  rw [← hbs]
  have hl : bs.length = 3 := by rw [hbs]; rfl
  obtain ⟨b1, hb1⟩ : ∃ b, b = [(⟨45, 0, 0, 1, 0, 0, 5, 0, []⟩ : Ins), ⟨45, 1, 1, 0, 0, 0, 7, 0, []⟩, ⟨43, 0, 0, 0, 0, 0, 0, 0, []⟩] := ⟨_, rfl⟩
  obtain ⟨b2, hb2⟩ : ∃ b, b = [(⟨45, 0, 0, 1, 0, 0, 8, 0, []⟩ : Ins), ⟨45, 1, 1, 0, 0, 0, 6, 0, []⟩, ⟨43, 0, 1, 0, 0, 0, 0, 0, []⟩] := ⟨_, rfl⟩
  have g1 : bs[1]? = some b1 := by rw [hbs, hb1]; rfl
  have g2 : bs[2]? = some b2 := by rw [hbs, hb2]; rfl
  have l1 : b1.length = 3 := by rw [hb1]; rfl
  have l2 : b2.length = 3 := by rw [hb2]; rfl
  have c1 : b1[0]? = some ⟨45, 0, 0, 1, 0, 0, 5, 0, []⟩ := by rw [hb1]; rfl
  have c2 : b1[1]? = some ⟨45, 1, 1, 0, 0, 0, 7, 0, []⟩ := by rw [hb1]; rfl
  have c3 : b2[0]? = some ⟨45, 0, 0, 1, 0, 0, 8, 0, []⟩ := by rw [hb2]; rfl
  clear hbs hb1 hb2
  refine go 1000 Try.func51 ?_
  repeat' first | refine Pick.map (n := 1) g1 ?_ | refine Pick.map (n := 2) g2 ?_ | refine Pick.map (n := 0) c1 ?_ | refine Pick.map (n := 1) c2 ?_ | refine Pick.map (n := 0) c3 ?_ | (refine Br.t ?_ ?_; focus (first | (simp; done) | (simp; omega))) | refine Len.map ?_ | refine Len.nil ?_ | refine Len.cons ?_ | refine Br.t rfl ?_ | refine Br.f rfl ?_ | refine Need.mk ⟨by first | omega | (simp; omega), by first | omega | (simp; done) | (simp; omega)⟩ ?_ | refine Pick.map (by assumption) ?_ | refine Pick.mapI (by omega) (by assumption) ?_ | refine PickN.mk _ (by assumption) ?_ | refine PickN.mk _ rfl ?_ | refine PickN.map (by first | assumption | (rw [Int.toNat_natCast]; assumption)) ?_ | refine App.mk rfl (by simp only [List.length_map, List.length_append, List.length_cons, List.length_nil]; omega) (by simp only [List.length_map, List.length_append, List.length_cons, List.length_nil]; omega) ?_ | refine App.mk (own_map (fun _ => rfl) _) (by simp only [List.length_map, List.length_append, List.length_cons, List.length_nil]; omega) (by simp only [List.length_map, List.length_append, List.length_cons, List.length_nil]; omega) ?_ | refine Both.mk ?_ ?_ | exact True.intro
  refine Call.le (by repeat' first | exact Le.refl _ | exact Le.none | exact LeL.nil | refine LeL.cons ?_ ?_ | exact LeLL.nil | refine LeLL.cons ?_ ?_ | refine Le.agg ?_ | refine Le.sl ?_ | refine Le.pt ?_) (Call.eq (SameInstr_spec ⟨45, 0, 0, 1, 0, 0, 5, 0, []⟩ ⟨45, 0, 0, 1, 0, 0, 5, 0, []⟩ (by decide)) rfl ?_)
  repeat' first | refine Pick.map (n := 1) g1 ?_ | refine Pick.map (n := 2) g2 ?_ | refine Pick.map (n := 0) c1 ?_ | refine Pick.map (n := 1) c2 ?_ | refine Pick.map (n := 0) c3 ?_ | (refine Br.t ?_ ?_; focus (first | (simp; done) | (simp; omega))) | refine Len.map ?_ | refine Len.nil ?_ | refine Len.cons ?_ | refine Br.t rfl ?_ | refine Br.f rfl ?_ | refine Need.mk ⟨by first | omega | (simp; omega), by first | omega | (simp; done) | (simp; omega)⟩ ?_ | refine Pick.map (by assumption) ?_ | refine Pick.mapI (by omega) (by assumption) ?_ | refine PickN.mk _ (by assumption) ?_ | refine PickN.mk _ rfl ?_ | refine PickN.map (by first | assumption | (rw [Int.toNat_natCast]; assumption)) ?_ | refine App.mk rfl (by simp only [List.length_map, List.length_append, List.length_cons, List.length_nil]; omega) (by simp only [List.length_map, List.length_append, List.length_cons, List.length_nil]; omega) ?_ | refine App.mk (own_map (fun _ => rfl) _) (by simp only [List.length_map, List.length_append, List.length_cons, List.length_nil]; omega) (by simp only [List.length_map, List.length_append, List.length_cons, List.length_nil]; omega) ?_ | refine Both.mk ?_ ?_ | exact True.intro
  refine Call.le (by repeat' first | exact Le.refl _ | exact Le.none | exact LeL.nil | refine LeL.cons ?_ ?_ | exact LeLL.nil | refine LeLL.cons ?_ ?_ | refine Le.agg ?_ | refine Le.sl ?_ | refine Le.pt ?_) (Call.eq (SameInstr_spec ⟨45, 1, 1, 0, 0, 0, 7, 0, []⟩ ⟨45, 1, 1, 0, 0, 0, 7, 0, []⟩ (by decide)) rfl ?_)
  repeat' first | refine Pick.map (n := 1) g1 ?_ | refine Pick.map (n := 2) g2 ?_ | refine Pick.map (n := 0) c1 ?_ | refine Pick.map (n := 1) c2 ?_ | refine Pick.map (n := 0) c3 ?_ | (refine Br.t ?_ ?_; focus (first | (simp; done) | (simp; omega))) | refine Len.map ?_ | refine Len.nil ?_ | refine Len.cons ?_ | refine Br.t rfl ?_ | refine Br.f rfl ?_ | refine Need.mk ⟨by first | omega | (simp; omega), by first | omega | (simp; done) | (simp; omega)⟩ ?_ | refine Pick.map (by assumption) ?_ | refine Pick.mapI (by omega) (by assumption) ?_ | refine PickN.mk _ (by assumption) ?_ | refine PickN.mk _ rfl ?_ | refine PickN.map (by first | assumption | (rw [Int.toNat_natCast]; assumption)) ?_ | refine App.mk rfl (by simp only [List.length_map, List.length_append, List.length_cons, List.length_nil]; omega) (by simp only [List.length_map, List.length_append, List.length_cons, List.length_nil]; omega) ?_ | refine App.mk (own_map (fun _ => rfl) _) (by simp only [List.length_map, List.length_append, List.length_cons, List.length_nil]; omega) (by simp only [List.length_map, List.length_append, List.length_cons, List.length_nil]; omega) ?_ | refine Both.mk ?_ ?_ | exact True.intro
  show _ = _
  simp [asRes, tru]

theorem PiWords_spec (op : Int) : FnSpec Try.prog 10 [num op] (fun r => r = tru true) := by
  have e1 : againstF op = 0 ∨ (againstF (againstF op) = op ∧ turnedF (turnedF op) = op ∧ turnedF (againstF op) = againstF (turnedF op)) := by
    by_cases h : 3 ≤ op ∧ op ≤ 8
    · have h6 : op = 3 ∨ op = 4 ∨ op = 5 ∨ op = 6 ∨ op = 7 ∨ op = 8 := by omega
      rcases h6 with rfl | rfl | rfl | rfl | rfl | rfl <;> exact .inr (by decide)
    · left; unfold againstF
      repeat' first | rw [if_neg (by omega)]
  refine spec_of 1000 Try.func10 rfl rfl ?_
  repeat' first | refine Call.eq (Against47_spec _) rfl ?_ | refine Call.eq (Turned48_spec _) rfl ?_ | refine Call.eq (Against49_spec _) rfl ?_ | refine Call.eq (Turned50_spec _) rfl ?_ | refine Call.eq works31 rfl ?_ | refine Len.map ?_ | refine Len.nil ?_ | refine Len.cons ?_ | refine Br.t rfl ?_ | refine Br.f rfl ?_ | refine Need.mk ⟨by first | omega | (simp; omega), by first | omega | (simp; done) | (simp; omega)⟩ ?_ | refine Pick.map (by assumption) ?_ | refine Pick.mapI (by omega) (by assumption) ?_ | refine PickN.mk _ (by assumption) ?_ | refine PickN.mk _ rfl ?_ | refine PickN.map (by first | assumption | (rw [Int.toNat_natCast]; assumption)) ?_ | refine App.mk rfl (by simp only [List.length_map, List.length_append, List.length_cons, List.length_nil]; omega) (by simp only [List.length_map, List.length_append, List.length_cons, List.length_nil]; omega) ?_ | refine App.mk (own_map (fun _ => rfl) _) (by simp only [List.length_map, List.length_append, List.length_cons, List.length_nil]; omega) (by simp only [List.length_map, List.length_append, List.length_cons, List.length_nil]; omega) ?_ | refine Both.mk ?_ ?_ | exact True.intro | (refine Br.d (fun h => ?_) (fun h => ?_) <;> try (exfalso; omega)) | (refine Br.nd (fun h => ?_) (fun h => ?_) <;> try (exfalso; omega)) | (refine Br.mk (fun h => ?_) (fun h => ?_) <;> try (exfalso; omega))
  all_goals first
    | rfl
    | (exfalso; omega)
end Go.Proofs.Ytnfkdilmoppbpaa
