/- Programs the same, by a contract. -/
import Derived.Test.YtnfkdilmoppbpaaTFK
import Derived.WalkSpells
import Derived.Test.YtnfkdilmoppbpaaTFM
import Derived.Test.YtnfkdilmoppbpaaTMN
set_option linter.unusedVariables false
set_option linter.unusedSimpArgs false

namespace Go.Proofs.Ytnfkdilmoppbpaa
open Go.Ax
set_option maxRecDepth 10000
set_option linter.unusedVariables false

deriving instance DecidableEq for Pro
def siteV (s : Int × Int) : List Value := [.int .i64 s.1, .int .i64 s.2]
theorem eq85 (a b : Int × Int) : AggEq1 Try.prog 85 (siteV a) (siteV b) (decide (a = b)) := by
  refine ⟨Try.eqGuardType85, fun w => ?_⟩
  have u3 := Try.underlying3
  have a3 := Try.isAgg3
  have z3 := Try.sizeOf3
  have hS : Try.prog.underlying 85 = some (.struct (Try.prog.fieldsOf 85)) := by kernel_rfl
  rw [show (10000 : Nat) = 9999 + 1 from rfl, run_equalIn_agg w 9999 85 _ _ hS Try.stoodInHeld85]
  simp only [Program.fieldsOf, Try.underlying85, siteV]
  go_simp
  obtain ⟨a1, a2⟩ := a
  obtain ⟨b1, b2⟩ := b
  simp only [Prod.mk.injEq]
  by_cases h1 : a1 = b1 <;> by_cases h2 : a2 = b2 <;> simp [h1, h2]

theorem SameProgram_spec (p q : Pro) (hp : p.fits) (hq : q.fits) (hs1 : p.sites.length ≤ 1000000000) (hs2 : p.funcs.length ≤ 1000000000) (hb : ∀ f ∈ p.funcs, f.blocks.length ≤ 1000000000 ∧ ∀ b ∈ f.blocks, b.length ≤ 1000000000) : FnSpec Try.prog 45 [proA p, proA q] (fun r => r = tru (decide (p = q))) := by
  obtain ⟨q1, q2, q3⟩ := hq
  refine spec_of 1000 Try.func45 rfl rfl ?_
  repeat' first | refine Len.map ?_ | refine Len.nil ?_ | refine Len.cons ?_ | refine Br.t rfl ?_ | refine Br.f rfl ?_ | refine Need.mk ⟨by first | omega | (simp; omega), by first | omega | (simp; done) | (simp; omega)⟩ ?_ | refine Pick.map (by assumption) ?_ | refine Pick.mapI (by omega) (by assumption) ?_ | refine PickN.mk _ (by assumption) ?_ | refine PickN.mk _ rfl ?_ | refine PickN.map (by first | assumption | (rw [Int.toNat_natCast]; assumption)) ?_ | refine App.mk rfl (by simp only [List.length_map, List.length_append, List.length_cons, List.length_nil]; omega) (by simp only [List.length_map, List.length_append, List.length_cons, List.length_nil]; omega) ?_ | refine App.mk (own_map (fun _ => rfl) _) (by simp only [List.length_map, List.length_append, List.length_cons, List.length_nil]; omega) (by simp only [List.length_map, List.length_append, List.length_cons, List.length_nil]; omega) ?_ | refine Both.mk ?_ ?_ | exact True.intro | refine Br.d (fun h => ?_) (fun h => ?_) | refine Br.nd (fun h => ?_) (fun h => ?_) | refine Br.mk (fun h => ?_) (fun h => ?_)
  · have : p ≠ q := fun e => by subst e; simp_all
    show _ = _
    simp [asRes, tru, this]
  · have : p ≠ q := fun e => by subst e; simp_all
    show _ = _
    simp [asRes, tru, this]
  · have : p ≠ q := fun e => by subst e; simp_all
    show _ = _
    simp [asRes, tru, this]
  have hmain : p.main = q.main := by assumption
  have hlf : p.funcs.length = q.funcs.length := by omega
  have hls : p.sites.length = q.sites.length := by omega
  refine Stop.mk (loop_in (g := []) (fun k : Nat => [(2, .hp 0 0), (3, .hp 1 0), (5, num k)]) (fun k => [(0, .var p.cs), (1, .var q.cs)]) 2 (fun k => k ≤ p.funcs.length ∧ p.funcs.take k = q.funcs.take k) (fun k => p.funcs.length - k) 0 ⟨by omega, rfl⟩ ⟨rfl, (by repeat' first | exact trivial | refine ⟨rfl, ?_⟩ | refine ⟨congrArg (fun n => AV.lit (.int .i64 n)) (by omega), ?_⟩ | refine ⟨congrArg (fun l => some (Row.row 1 l)) (by simp [int1, num, tru]), ?_⟩), (by repeat' first | exact trivial | refine ⟨rfl, ?_⟩ | refine ⟨congrArg (fun n => AV.lit (.int .i64 n)) (by omega), ?_⟩ | refine ⟨congrArg (fun l => some (Row.row 1 l)) (by simp [int1, num, tru]), ?_⟩)⟩ (fun k hk ih => ?_))
  obtain ⟨hk1, hk2⟩ := hk
  refine go 1000 Try.func45 ?_
  repeat' first | refine Len.map ?_ | refine Len.nil ?_ | refine Len.cons ?_ | refine Br.t rfl ?_ | refine Br.f rfl ?_ | refine Need.mk ⟨by first | omega | (simp; omega), by first | omega | (simp; done) | (simp; omega)⟩ ?_ | refine Pick.map (by assumption) ?_ | refine Pick.mapI (by omega) (by assumption) ?_ | refine PickN.mk _ (by assumption) ?_ | refine PickN.mk _ rfl ?_ | refine PickN.map (by first | assumption | (rw [Int.toNat_natCast]; assumption)) ?_ | refine App.mk rfl (by simp only [List.length_map, List.length_append, List.length_cons, List.length_nil]; omega) (by simp only [List.length_map, List.length_append, List.length_cons, List.length_nil]; omega) ?_ | refine App.mk (own_map (fun _ => rfl) _) (by simp only [List.length_map, List.length_append, List.length_cons, List.length_nil]; omega) (by simp only [List.length_map, List.length_append, List.length_cons, List.length_nil]; omega) ?_ | refine Both.mk ?_ ?_ | exact True.intro
  refine Br.d (fun h2 => ?_) (fun h2 => ?_)
  · obtain ⟨x, gx, gxm⟩ := getK (l := p.funcs) (k := k) (by omega)
    obtain ⟨y, gy, gym⟩ := getK (l := q.funcs) (k := k) (by omega)
    have hx := hb x gxm
    repeat' first | refine Draw.mk (ordL [10] [0, 1, 2, 3, 4, 5, 6, 7, 8, 9, 10, 11]) (by decide +kernel) ?_ | refine Draw.mk (ordL [] [0, 1, 2, 3, 4, 5, 6, 7, 8, 9, 10]) (by decide +kernel) ?_ | refine Pick.map gx ?_ | refine Pick.map gy ?_ | refine Call.eq (SameFunc_spec x y (hp.2.2 x gxm) (q3 y gym) hx.1 hx.2) rfl ?_ | refine Len.map ?_ | refine Len.nil ?_ | refine Len.cons ?_ | refine Br.t rfl ?_ | refine Br.f rfl ?_ | refine Need.mk ⟨by first | omega | (simp; omega), by first | omega | (simp; done) | (simp; omega)⟩ ?_ | refine Pick.map (by assumption) ?_ | refine Pick.mapI (by omega) (by assumption) ?_ | refine PickN.mk _ (by assumption) ?_ | refine PickN.mk _ rfl ?_ | refine PickN.map (by first | assumption | (rw [Int.toNat_natCast]; assumption)) ?_ | refine App.mk rfl (by simp only [List.length_map, List.length_append, List.length_cons, List.length_nil]; omega) (by simp only [List.length_map, List.length_append, List.length_cons, List.length_nil]; omega) ?_ | refine App.mk (own_map (fun _ => rfl) _) (by simp only [List.length_map, List.length_append, List.length_cons, List.length_nil]; omega) (by simp only [List.length_map, List.length_append, List.length_cons, List.length_nil]; omega) ?_ | refine Both.mk ?_ ?_ | exact True.intro
    refine Br.nd (fun h3 => ?_) (fun h3 => ?_)
    · repeat' first | refine Len.map ?_ | refine Len.nil ?_ | refine Len.cons ?_ | refine Br.t rfl ?_ | refine Br.f rfl ?_ | refine Need.mk ⟨by first | omega | (simp; omega), by first | omega | (simp; done) | (simp; omega)⟩ ?_ | refine Pick.map (by assumption) ?_ | refine Pick.mapI (by omega) (by assumption) ?_ | refine PickN.mk _ (by assumption) ?_ | refine PickN.mk _ rfl ?_ | refine PickN.map (by first | assumption | (rw [Int.toNat_natCast]; assumption)) ?_ | refine App.mk rfl (by simp only [List.length_map, List.length_append, List.length_cons, List.length_nil]; omega) (by simp only [List.length_map, List.length_append, List.length_cons, List.length_nil]; omega) ?_ | refine App.mk (own_map (fun _ => rfl) _) (by simp only [List.length_map, List.length_append, List.length_cons, List.length_nil]; omega) (by simp only [List.length_map, List.length_append, List.length_cons, List.length_nil]; omega) ?_ | refine Both.mk ?_ ?_ | exact True.intro
      have : p ≠ q := fun e => h3 (by subst e; rw [gx] at gy; exact Option.some.inj gy)
      show _ = _
      simp [asRes, tru, this]
    · repeat' first | refine Len.map ?_ | refine Len.nil ?_ | refine Len.cons ?_ | refine Br.t rfl ?_ | refine Br.f rfl ?_ | refine Need.mk ⟨by first | omega | (simp; omega), by first | omega | (simp; done) | (simp; omega)⟩ ?_ | refine Pick.map (by assumption) ?_ | refine Pick.mapI (by omega) (by assumption) ?_ | refine PickN.mk _ (by assumption) ?_ | refine PickN.mk _ rfl ?_ | refine PickN.map (by first | assumption | (rw [Int.toNat_natCast]; assumption)) ?_ | refine App.mk rfl (by simp only [List.length_map, List.length_append, List.length_cons, List.length_nil]; omega) (by simp only [List.length_map, List.length_append, List.length_cons, List.length_nil]; omega) ?_ | refine App.mk (own_map (fun _ => rfl) _) (by simp only [List.length_map, List.length_append, List.length_cons, List.length_nil]; omega) (by simp only [List.length_map, List.length_append, List.length_cons, List.length_nil]; omega) ?_ | refine Both.mk ?_ ?_ | exact True.intro
      refine Stop.mk (ih (k + 1) (g := []) _ _ _ ⟨by omega, ?_⟩ (by omega) ⟨rfl, (by repeat' first | exact trivial | refine ⟨rfl, ?_⟩ | refine ⟨congrArg (fun n => AV.lit (.int .i64 n)) (by omega), ?_⟩ | refine ⟨congrArg (fun l => some (Row.row 1 l)) (by simp [int1, num, tru]), ?_⟩), (by repeat' first | exact trivial | refine ⟨rfl, ?_⟩ | refine ⟨congrArg (fun n => AV.lit (.int .i64 n)) (by omega), ?_⟩ | refine ⟨congrArg (fun l => some (Row.row 1 l)) (by simp [int1, num, tru]), ?_⟩)⟩)
      rw [take_succ gx, take_succ gy, hk2, h3]
  · have e1 := take_all (l := p.funcs) (k := k) (by omega)
    have e2 := take_all (l := q.funcs) (k := k) (by omega)
    have hfs : p.funcs = q.funcs := by rw [← e1, ← e2, hk2]
    repeat' first | refine Len.map ?_ | refine Len.nil ?_ | refine Len.cons ?_ | refine Br.t rfl ?_ | refine Br.f rfl ?_ | refine Need.mk ⟨by first | omega | (simp; omega), by first | omega | (simp; done) | (simp; omega)⟩ ?_ | refine Pick.map (by assumption) ?_ | refine Pick.mapI (by omega) (by assumption) ?_ | refine PickN.mk _ (by assumption) ?_ | refine PickN.mk _ rfl ?_ | refine PickN.map (by first | assumption | (rw [Int.toNat_natCast]; assumption)) ?_ | refine App.mk rfl (by simp only [List.length_map, List.length_append, List.length_cons, List.length_nil]; omega) (by simp only [List.length_map, List.length_append, List.length_cons, List.length_nil]; omega) ?_ | refine App.mk (own_map (fun _ => rfl) _) (by simp only [List.length_map, List.length_append, List.length_cons, List.length_nil]; omega) (by simp only [List.length_map, List.length_append, List.length_cons, List.length_nil]; omega) ?_ | refine Both.mk ?_ ?_ | exact True.intro
    refine Stop.mk (loop_in (g := []) (fun k : Nat => [(2, .hp 0 0), (3, .hp 1 0), (6, num k)]) (fun k => [(0, .var p.cs), (1, .var q.cs)]) 2 (fun k => k ≤ p.sites.length ∧ p.sites.take k = q.sites.take k) (fun k => p.sites.length - k) 0 ⟨by omega, rfl⟩ ⟨rfl, (by repeat' first | exact trivial | refine ⟨rfl, ?_⟩ | refine ⟨congrArg (fun n => AV.lit (.int .i64 n)) (by omega), ?_⟩ | refine ⟨congrArg (fun l => some (Row.row 1 l)) (by simp [int1, num, tru]), ?_⟩), (by repeat' first | exact trivial | refine ⟨rfl, ?_⟩ | refine ⟨congrArg (fun n => AV.lit (.int .i64 n)) (by omega), ?_⟩ | refine ⟨congrArg (fun l => some (Row.row 1 l)) (by simp [int1, num, tru]), ?_⟩)⟩ (fun k hk ih => ?_))
    obtain ⟨hk1, hk2⟩ := hk
    refine go 1000 Try.func45 ?_
    repeat' first | refine Len.map ?_ | refine Len.nil ?_ | refine Len.cons ?_ | refine Br.t rfl ?_ | refine Br.f rfl ?_ | refine Need.mk ⟨by first | omega | (simp; omega), by first | omega | (simp; done) | (simp; omega)⟩ ?_ | refine Pick.map (by assumption) ?_ | refine Pick.mapI (by omega) (by assumption) ?_ | refine PickN.mk _ (by assumption) ?_ | refine PickN.mk _ rfl ?_ | refine PickN.map (by first | assumption | (rw [Int.toNat_natCast]; assumption)) ?_ | refine App.mk rfl (by simp only [List.length_map, List.length_append, List.length_cons, List.length_nil]; omega) (by simp only [List.length_map, List.length_append, List.length_cons, List.length_nil]; omega) ?_ | refine App.mk (own_map (fun _ => rfl) _) (by simp only [List.length_map, List.length_append, List.length_cons, List.length_nil]; omega) (by simp only [List.length_map, List.length_append, List.length_cons, List.length_nil]; omega) ?_ | refine Both.mk ?_ ?_ | exact True.intro
    refine Br.d (fun h2 => ?_) (fun h2 => ?_)
    · obtain ⟨x, gx, gxm⟩ := getK (l := p.sites) (k := k) (by omega)
      obtain ⟨y, gy, gym⟩ := getK (l := q.sites) (k := k) (by omega)
      repeat' first | refine Draw.mk (ordL [10] [0, 1, 2, 3, 4, 5, 6, 7, 8, 9, 10, 11]) (by decide +kernel) ?_ | refine Draw.mk (ordL [] [0, 1, 2, 3, 4, 5, 6, 7, 8, 9, 10]) (by decide +kernel) ?_ | refine Pick.map gx ?_ | refine Pick.map gy ?_ | refine AggEq.mk (siteV x) (siteV y) _ rfl rfl (eq85 x y) ?_ | refine Len.map ?_ | refine Len.nil ?_ | refine Len.cons ?_ | refine Br.t rfl ?_ | refine Br.f rfl ?_ | refine Need.mk ⟨by first | omega | (simp; omega), by first | omega | (simp; done) | (simp; omega)⟩ ?_ | refine Pick.map (by assumption) ?_ | refine Pick.mapI (by omega) (by assumption) ?_ | refine PickN.mk _ (by assumption) ?_ | refine PickN.mk _ rfl ?_ | refine PickN.map (by first | assumption | (rw [Int.toNat_natCast]; assumption)) ?_ | refine App.mk rfl (by simp only [List.length_map, List.length_append, List.length_cons, List.length_nil]; omega) (by simp only [List.length_map, List.length_append, List.length_cons, List.length_nil]; omega) ?_ | refine App.mk (own_map (fun _ => rfl) _) (by simp only [List.length_map, List.length_append, List.length_cons, List.length_nil]; omega) (by simp only [List.length_map, List.length_append, List.length_cons, List.length_nil]; omega) ?_ | refine Both.mk ?_ ?_ | exact True.intro
      refine Br.nd (fun h3 => ?_) (fun h3 => ?_)
      · repeat' first | refine Len.map ?_ | refine Len.nil ?_ | refine Len.cons ?_ | refine Br.t rfl ?_ | refine Br.f rfl ?_ | refine Need.mk ⟨by first | omega | (simp; omega), by first | omega | (simp; done) | (simp; omega)⟩ ?_ | refine Pick.map (by assumption) ?_ | refine Pick.mapI (by omega) (by assumption) ?_ | refine PickN.mk _ (by assumption) ?_ | refine PickN.mk _ rfl ?_ | refine PickN.map (by first | assumption | (rw [Int.toNat_natCast]; assumption)) ?_ | refine App.mk rfl (by simp only [List.length_map, List.length_append, List.length_cons, List.length_nil]; omega) (by simp only [List.length_map, List.length_append, List.length_cons, List.length_nil]; omega) ?_ | refine App.mk (own_map (fun _ => rfl) _) (by simp only [List.length_map, List.length_append, List.length_cons, List.length_nil]; omega) (by simp only [List.length_map, List.length_append, List.length_cons, List.length_nil]; omega) ?_ | refine Both.mk ?_ ?_ | exact True.intro
        have : p ≠ q := fun e => h3 (by subst e; rw [gx] at gy; exact Option.some.inj gy)
        show _ = _
        simp [asRes, tru, this]
      · repeat' first | refine Len.map ?_ | refine Len.nil ?_ | refine Len.cons ?_ | refine Br.t rfl ?_ | refine Br.f rfl ?_ | refine Need.mk ⟨by first | omega | (simp; omega), by first | omega | (simp; done) | (simp; omega)⟩ ?_ | refine Pick.map (by assumption) ?_ | refine Pick.mapI (by omega) (by assumption) ?_ | refine PickN.mk _ (by assumption) ?_ | refine PickN.mk _ rfl ?_ | refine PickN.map (by first | assumption | (rw [Int.toNat_natCast]; assumption)) ?_ | refine App.mk rfl (by simp only [List.length_map, List.length_append, List.length_cons, List.length_nil]; omega) (by simp only [List.length_map, List.length_append, List.length_cons, List.length_nil]; omega) ?_ | refine App.mk (own_map (fun _ => rfl) _) (by simp only [List.length_map, List.length_append, List.length_cons, List.length_nil]; omega) (by simp only [List.length_map, List.length_append, List.length_cons, List.length_nil]; omega) ?_ | refine Both.mk ?_ ?_ | exact True.intro
        refine Stop.mk (ih (k + 1) (g := []) _ _ _ ⟨by omega, ?_⟩ (by omega) ⟨rfl, (by repeat' first | exact trivial | refine ⟨rfl, ?_⟩ | refine ⟨congrArg (fun n => AV.lit (.int .i64 n)) (by omega), ?_⟩ | refine ⟨congrArg (fun l => some (Row.row 1 l)) (by simp [int1, num, tru]), ?_⟩), (by repeat' first | exact trivial | refine ⟨rfl, ?_⟩ | refine ⟨congrArg (fun n => AV.lit (.int .i64 n)) (by omega), ?_⟩ | refine ⟨congrArg (fun l => some (Row.row 1 l)) (by simp [int1, num, tru]), ?_⟩)⟩)
        rw [take_succ gx, take_succ gy, hk2, h3]
    · have e1 := take_all (l := p.sites) (k := k) (by omega)
      have e2 := take_all (l := q.sites) (k := k) (by omega)
      have hss : p.sites = q.sites := by rw [← e1, ← e2, hk2]
      repeat' first | refine Len.map ?_ | refine Len.nil ?_ | refine Len.cons ?_ | refine Br.t rfl ?_ | refine Br.f rfl ?_ | refine Need.mk ⟨by first | omega | (simp; omega), by first | omega | (simp; done) | (simp; omega)⟩ ?_ | refine Pick.map (by assumption) ?_ | refine Pick.mapI (by omega) (by assumption) ?_ | refine PickN.mk _ (by assumption) ?_ | refine PickN.mk _ rfl ?_ | refine PickN.map (by first | assumption | (rw [Int.toNat_natCast]; assumption)) ?_ | refine App.mk rfl (by simp only [List.length_map, List.length_append, List.length_cons, List.length_nil]; omega) (by simp only [List.length_map, List.length_append, List.length_cons, List.length_nil]; omega) ?_ | refine App.mk (own_map (fun _ => rfl) _) (by simp only [List.length_map, List.length_append, List.length_cons, List.length_nil]; omega) (by simp only [List.length_map, List.length_append, List.length_cons, List.length_nil]; omega) ?_ | refine Both.mk ?_ ?_ | exact True.intro
      have : p = q := by cases p; cases q; simp_all
      show _ = _
      simp [asRes, tru, this]
end Go.Proofs.Ytnfkdilmoppbpaa

/- The law TidyTwice as a function. -/
namespace Go.Proofs.Ytnfkdilmoppbpaa
open Go.Ax
set_option maxRecDepth 10000
set_option linter.unusedVariables false

theorem sum_map_le {α : Type} (g h : α → Nat) : ∀ (l : List α), (∀ x ∈ l, g x ≤ h x) → (l.map g).sum ≤ (l.map h).sum
  | [], _ => by simp
  | a :: l, hl => by
    have h1 := hl a (by simp)
    have h2 := sum_map_le g h l fun x hx => hl x (by simp [hx])
    simp only [List.map_cons, List.sum_cons]; omega
theorem tidyPro_few {p : Pro} (h : p.few 150) : (tidyPro p).few 150 := by
  obtain ⟨h1, h2, h3, h4⟩ := h
  refine ⟨by unfold tidyPro; simpa using h1, h2, ?_, fun f hf => ?_⟩
  · have : (tidyPro p).count ≤ p.count := by
      unfold Pro.count tidyPro
      rw [List.map_map]
      exact sum_map_le _ _ _ fun f _ => tidyF_count f
    omega
  · obtain ⟨g, hg, rfl⟩ := List.mem_map.1 hf
    obtain ⟨g1, g2, g3, g4⟩ := h4 g hg
    refine ⟨g1, ?_, g3, fun c hc i hi => ?_⟩
    · have := tidyTo_len g (predsF (succsF g)) (mapF g) g.blocks.length
      show ((tidyTo _ _ _ _).length : Int) ≤ _
      omega
    · obtain ⟨n, b, hn, rfl, hbe⟩ := tidyTo_mem g _ _ _ c hc
      have hbm : b ∈ g.blocks := by rw [hbe, List.getD_eq_getElem?_getD, List.getElem?_eq_getElem hn]; exact List.getElem_mem hn
      obtain ⟨x, hx, rfl⟩ := List.mem_map.1 hi
      have h2 := g4 b hbm x hx
      show (if x.op = 44 then keptA _ _ x.args else x.args).length ≤ _
      split
      · have := keptA_len (mapF g) ((predsF (succsF g)).getD n []) x.args; omega
      · exact h2
theorem tidyPro_fits {p : Pro} (hp : p.fits) (ho : p.okT) : (tidyPro p).fits := by
  refine ⟨by unfold tidyPro; simpa using hp.1, hp.2.1, fun f hf => ?_⟩
  obtain ⟨g, hg, rfl⟩ := List.mem_map.1 hf
  obtain ⟨g1, g2, g3, g4⟩ := ho.2.2 g hg
  exact (tidyF_fits g1 g4).1

theorem Program38_valid {p : Pro} (ho : p.okT) (hpro : proP p) : FnSpec Try.prog 38 [proA p] (fun r => r = .agg [.osl 5 ((tidyPro p).funcs.map Fun.ocs), num p.main, .osl 2 (p.sites.map site)]) := by
  have hP := Program38_spec p ho
  unfold tidyP at hP
  have hmap : p.funcs.map tidyR = (p.funcs.map tidyF).map Fun.ocs := by
    rw [List.map_map]
    exact List.map_congr_left fun f hf => tidyR_fit (hpro.fit hf)
  rw [hmap] at hP
  exact hP

set_option maxHeartbeats 2000000 in
theorem TidyTwice_spec (p : Pro) (hp : p.fits) (hl : p.light) : FnSpec Try.prog 8 [proA p] (fun r => r = tru true) := by
  refine spec_of 21 Try.func8 rfl rfl ?_
  refine Call.of (right36_spec p hp hl) ?_
  rintro r ⟨v, rfl, hv⟩
  refine ⟨rfl, ?_⟩
  repeat' first | refine Len.map ?_ | refine Len.nil ?_ | refine Len.cons ?_ | refine Br.t rfl ?_ | refine Br.f rfl ?_ | refine Need.mk ⟨by first | omega | (simp; omega), by first | omega | (simp; done) | (simp; omega)⟩ ?_ | refine Pick.map (by assumption) ?_ | refine Pick.mapI (by omega) (by assumption) ?_ | refine PickN.mk _ (by assumption) ?_ | refine PickN.mk _ rfl ?_ | refine PickN.map (by first | assumption | (rw [Int.toNat_natCast]; assumption)) ?_ | refine App.mk rfl (by simp only [List.length_map, List.length_append, List.length_cons, List.length_nil]; omega) (by simp only [List.length_map, List.length_append, List.length_cons, List.length_nil]; omega) ?_ | refine App.mk (own_map (fun _ => rfl) _) (by simp only [List.length_map, List.length_append, List.length_cons, List.length_nil]; omega) (by simp only [List.length_map, List.length_append, List.length_cons, List.length_nil]; omega) ?_ | refine Both.mk ?_ ?_ | exact True.intro
  refine Br.mk (fun h => ?_) (fun h => ?_)
  · repeat' first | refine Call.eq works37t rfl ?_ | refine Len.map ?_ | refine Len.nil ?_ | refine Len.cons ?_ | refine Br.t rfl ?_ | refine Br.f rfl ?_ | refine Need.mk ⟨by first | omega | (simp; omega), by first | omega | (simp; done) | (simp; omega)⟩ ?_ | refine Pick.map (by assumption) ?_ | refine Pick.mapI (by omega) (by assumption) ?_ | refine PickN.mk _ (by assumption) ?_ | refine PickN.mk _ rfl ?_ | refine PickN.map (by first | assumption | (rw [Int.toNat_natCast]; assumption)) ?_ | refine App.mk rfl (by simp only [List.length_map, List.length_append, List.length_cons, List.length_nil]; omega) (by simp only [List.length_map, List.length_append, List.length_cons, List.length_nil]; omega) ?_ | refine App.mk (own_map (fun _ => rfl) _) (by simp only [List.length_map, List.length_append, List.length_cons, List.length_nil]; omega) (by simp only [List.length_map, List.length_append, List.length_cons, List.length_nil]; omega) ?_ | refine Both.mk ?_ ?_ | exact True.intro
    rfl
  obtain ⟨hb, hpro⟩ := hv (by simpa using h)
  clear h hv
  have ho := hb.okT hp
  have hP := Program38_valid ho hpro
  have hpt := tidyPro_fits hp ho
  have hbt := tidyPro_few hb
  have hprot := proP_tidy hpro
  have hot := hbt.okT hpt
  have hst := hbt.slim (by decide) hpt
  have hPt := Program38_valid hot hprot
  rw [tidyPro_twice hpro] at hPt
  have hSP := SameProgram_spec (tidyPro p) (tidyPro p) hpt hpt (by have := hot.2.1; omega) (by have := hot.1; omega) (fun f hf => by obtain ⟨g1, g2, g3, g4⟩ := hot.2.2 f hf; exact ⟨by omega, fun b hb => by have := (g4 b hb).1; omega⟩)
  rw [decide_eq_true rfl] at hSP
  have hlive : ∀ f ∈ (tidyPro p).funcs, marksF (succsF f) (-1) = List.replicate f.blocks.length true := by
    intro f hf
    obtain ⟨g, hg, rfl⟩ := List.mem_map.1 hf
    exact live_all (hpro.2.2.2 g hg)
  have h0 : (checkE (tidyPro p)).err = 0 := checkE_zero.2 hprot
  have hmn : (tidyPro p).main = p.main := rfl
  have hsi : (tidyPro p).sites = p.sites := rfl
  rw [← hmn, ← hsi] at hP
  generalize tidyPro p = q at *
  have hq1 := hot.1
  repeat' first | refine Call.eq hP rfl ?_ | refine Len.map ?_ | refine Len.nil ?_ | refine Len.cons ?_ | refine Br.t rfl ?_ | refine Br.f rfl ?_ | refine Need.mk ⟨by first | omega | (simp; omega), by first | omega | (simp; done) | (simp; omega)⟩ ?_ | refine Pick.map (by assumption) ?_ | refine Pick.mapI (by omega) (by assumption) ?_ | refine PickN.mk _ (by assumption) ?_ | refine PickN.mk _ rfl ?_ | refine PickN.map (by first | assumption | (rw [Int.toNat_natCast]; assumption)) ?_ | refine App.mk rfl (by simp only [List.length_map, List.length_append, List.length_cons, List.length_nil]; omega) (by simp only [List.length_map, List.length_append, List.length_cons, List.length_nil]; omega) ?_ | refine App.mk (own_map (fun _ => rfl) _) (by simp only [List.length_map, List.length_append, List.length_cons, List.length_nil]; omega) (by simp only [List.length_map, List.length_append, List.length_cons, List.length_nil]; omega) ?_ | refine Both.mk ?_ ?_ | exact True.intro
  refine Stop.mk (run_frzV 3 rfl rfl (fz_pro _ _ _) ?_)
  refine Run.fr (g := []) (tm' := [(1, .hp 0 0), (3, .pt q.cs)]) (hp' := [(0, .var p.cs)]) (nx' := 1) ?_ ⟨rfl, (by repeat' first | exact trivial | refine ⟨rfl, ?_⟩ | refine ⟨congrArg (fun n => AV.lit (.int .i64 n)) (by omega), ?_⟩ | refine ⟨congrArg (fun l => some (Row.row 1 l)) (by simp [int1, num, tru]), ?_⟩), (by repeat' first | exact trivial | refine ⟨rfl, ?_⟩ | refine ⟨congrArg (fun n => AV.lit (.int .i64 n)) (by omega), ?_⟩ | refine ⟨congrArg (fun l => some (Row.row 1 l)) (by simp [int1, num, tru]), ?_⟩)⟩
  refine go 1000 Try.func8 ?_
  repeat' first | refine Draw.mk (ordL [1, 6, 8] [0, 1, 2, 3, 4, 5, 7, 6, 8, 9, 10]) (by decide +kernel) ?_ | refine Call.eq (Check16_spec q hst) rfl ?_ | refine Br.t (decide_eq_true h0) ?_ | refine Call.eq hPt rfl ?_ | refine Look.yes (View.mk _ (fzLL_map fz_focs _) (View.mk _ (fzLL_map fz_site _) ?_)) | refine CallV.eq hSP rfl (Free.lit _) ?_ | (refine Br.f ?_ ?_; focus (first | (simp; done) | (simp [h0]; done) | (simp_all; done))) | refine Len.map ?_ | refine Len.nil ?_ | refine Len.cons ?_ | refine Br.t rfl ?_ | refine Br.f rfl ?_ | refine Need.mk ⟨by first | omega | (simp; omega), by first | omega | (simp; done) | (simp; omega)⟩ ?_ | refine Pick.map (by assumption) ?_ | refine Pick.mapI (by omega) (by assumption) ?_ | refine PickN.mk _ (by assumption) ?_ | refine PickN.mk _ rfl ?_ | refine PickN.map (by first | assumption | (rw [Int.toNat_natCast]; assumption)) ?_ | refine App.mk rfl (by simp only [List.length_map, List.length_append, List.length_cons, List.length_nil]; omega) (by simp only [List.length_map, List.length_append, List.length_cons, List.length_nil]; omega) ?_ | refine App.mk (own_map (fun _ => rfl) _) (by simp only [List.length_map, List.length_append, List.length_cons, List.length_nil]; omega) (by simp only [List.length_map, List.length_append, List.length_cons, List.length_nil]; omega) ?_ | refine Both.mk ?_ ?_ | exact True.intro
  all_goals
    refine Stop.mk (loop_in (g := []) (fun k : Nat => [(1, .hp 0 0), (3, .pt q.cs), (4, num k)]) (fun k => [(0, .var p.cs)]) 1 (fun k => k ≤ q.funcs.length) (fun k => q.funcs.length - k) 0 (by omega) ⟨rfl, (by repeat' first | exact trivial | refine ⟨rfl, ?_⟩ | refine ⟨congrArg (fun n => AV.lit (.int .i64 n)) (by omega), ?_⟩ | refine ⟨congrArg (fun l => some (Row.row 1 l)) (by simp [int1, num, tru]), ?_⟩), (by repeat' first | exact trivial | refine ⟨rfl, ?_⟩ | refine ⟨congrArg (fun n => AV.lit (.int .i64 n)) (by omega), ?_⟩ | refine ⟨congrArg (fun l => some (Row.row 1 l)) (by simp [int1, num, tru]), ?_⟩)⟩ (fun k hk ih => ?_))
    refine go 1000 Try.func8 ?_
    repeat' first | refine Len.map ?_ | refine Len.nil ?_ | refine Len.cons ?_ | refine Br.t rfl ?_ | refine Br.f rfl ?_ | refine Need.mk ⟨by first | omega | (simp; omega), by first | omega | (simp; done) | (simp; omega)⟩ ?_ | refine Pick.map (by assumption) ?_ | refine Pick.mapI (by omega) (by assumption) ?_ | refine PickN.mk _ (by assumption) ?_ | refine PickN.mk _ rfl ?_ | refine PickN.map (by first | assumption | (rw [Int.toNat_natCast]; assumption)) ?_ | refine App.mk rfl (by simp only [List.length_map, List.length_append, List.length_cons, List.length_nil]; omega) (by simp only [List.length_map, List.length_append, List.length_cons, List.length_nil]; omega) ?_ | refine App.mk (own_map (fun _ => rfl) _) (by simp only [List.length_map, List.length_append, List.length_cons, List.length_nil]; omega) (by simp only [List.length_map, List.length_append, List.length_cons, List.length_nil]; omega) ?_ | refine Both.mk ?_ ?_ | exact True.intro
    refine Br.d (fun h2 => ?_) (fun h2 => ?_)
    · obtain ⟨f, gf, gm⟩ := getK (l := q.funcs) (k := k) (by omega)
      obtain ⟨hf, hbl, hrl, hbb⟩ := hot.2.2 f gm
      have hlv := hlive f gm
      repeat' first | refine Pick.map gf ?_ | refine Len.map ?_ | refine Len.nil ?_ | refine Len.cons ?_ | refine Br.t rfl ?_ | refine Br.f rfl ?_ | refine Need.mk ⟨by first | omega | (simp; omega), by first | omega | (simp; done) | (simp; omega)⟩ ?_ | refine Pick.map (by assumption) ?_ | refine Pick.mapI (by omega) (by assumption) ?_ | refine PickN.mk _ (by assumption) ?_ | refine PickN.mk _ rfl ?_ | refine PickN.map (by first | assumption | (rw [Int.toNat_natCast]; assumption)) ?_ | refine App.mk rfl (by simp only [List.length_map, List.length_append, List.length_cons, List.length_nil]; omega) (by simp only [List.length_map, List.length_append, List.length_cons, List.length_nil]; omega) ?_ | refine App.mk (own_map (fun _ => rfl) _) (by simp only [List.length_map, List.length_append, List.length_cons, List.length_nil]; omega) (by simp only [List.length_map, List.length_append, List.length_cons, List.length_nil]; omega) ?_ | refine Both.mk ?_ ?_ | exact True.intro
      refine Call.of (Reach_spec f hf (by omega)) ?_
      rintro r ⟨l, rfl, hm⟩
      refine ⟨rfl, ?_⟩
      have hle : l = List.replicate f.blocks.length true := hm.eq.trans hlv
      subst hle
      clear hm
      repeat' first | refine Len.map ?_ | refine Len.nil ?_ | refine Len.cons ?_ | refine Br.t rfl ?_ | refine Br.f rfl ?_ | refine Need.mk ⟨by first | omega | (simp; omega), by first | omega | (simp; done) | (simp; omega)⟩ ?_ | refine Pick.map (by assumption) ?_ | refine Pick.mapI (by omega) (by assumption) ?_ | refine PickN.mk _ (by assumption) ?_ | refine PickN.mk _ rfl ?_ | refine PickN.map (by first | assumption | (rw [Int.toNat_natCast]; assumption)) ?_ | refine App.mk rfl (by simp only [List.length_map, List.length_append, List.length_cons, List.length_nil]; omega) (by simp only [List.length_map, List.length_append, List.length_cons, List.length_nil]; omega) ?_ | refine App.mk (own_map (fun _ => rfl) _) (by simp only [List.length_map, List.length_append, List.length_cons, List.length_nil]; omega) (by simp only [List.length_map, List.length_append, List.length_cons, List.length_nil]; omega) ?_ | refine Both.mk ?_ ?_ | exact True.intro
      refine Stop.mk (loop_in (g := []) (fun e : Nat => [(1, .hp 0 0), (3, .pt q.cs), (4, num k), (5, .hw 1), (6, num e)]) (fun e => [(0, .var p.cs), (1, .row 1 ((List.replicate f.blocks.length true).map tb))]) 2 (fun e => e ≤ f.blocks.length) (fun e => f.blocks.length - e) 0 (by omega) ⟨rfl, (by repeat' first | exact trivial | refine ⟨rfl, ?_⟩ | refine ⟨congrArg (fun n => AV.lit (.int .i64 n)) (by omega), ?_⟩ | refine ⟨congrArg (fun l => some (Row.row 1 l)) (by simp [int1, num, tru]), ?_⟩), (by repeat' first | exact trivial | refine ⟨rfl, ?_⟩ | refine ⟨congrArg (fun n => AV.lit (.int .i64 n)) (by omega), ?_⟩ | refine ⟨congrArg (fun l => some (Row.row 1 l)) (by simp [int1, num, tru]), ?_⟩)⟩ (fun e he ih2 => ?_))
      refine go 1000 Try.func8 ?_
      have hlr : (List.replicate f.blocks.length true).length = f.blocks.length := List.length_replicate
      repeat' first | refine Len.map ?_ | refine Len.nil ?_ | refine Len.cons ?_ | refine Br.t rfl ?_ | refine Br.f rfl ?_ | refine Need.mk ⟨by first | omega | (simp; omega), by first | omega | (simp; done) | (simp; omega)⟩ ?_ | refine Pick.map (by assumption) ?_ | refine Pick.mapI (by omega) (by assumption) ?_ | refine PickN.mk _ (by assumption) ?_ | refine PickN.mk _ rfl ?_ | refine PickN.map (by first | assumption | (rw [Int.toNat_natCast]; assumption)) ?_ | refine App.mk rfl (by simp only [List.length_map, List.length_append, List.length_cons, List.length_nil]; omega) (by simp only [List.length_map, List.length_append, List.length_cons, List.length_nil]; omega) ?_ | refine App.mk (own_map (fun _ => rfl) _) (by simp only [List.length_map, List.length_append, List.length_cons, List.length_nil]; omega) (by simp only [List.length_map, List.length_append, List.length_cons, List.length_nil]; omega) ?_ | refine Both.mk ?_ ?_ | exact True.intro
      refine Br.d (fun h3 => ?_) (fun h3 => ?_)
      · have gx : (List.replicate f.blocks.length true)[e]? = some true := by rw [List.getElem?_replicate, if_pos (by omega)]
        repeat' first | refine Pick.map gx ?_ | refine Len.map ?_ | refine Len.nil ?_ | refine Len.cons ?_ | refine Br.t rfl ?_ | refine Br.f rfl ?_ | refine Need.mk ⟨by first | omega | (simp; omega), by first | omega | (simp; done) | (simp; omega)⟩ ?_ | refine Pick.map (by assumption) ?_ | refine Pick.mapI (by omega) (by assumption) ?_ | refine PickN.mk _ (by assumption) ?_ | refine PickN.mk _ rfl ?_ | refine PickN.map (by first | assumption | (rw [Int.toNat_natCast]; assumption)) ?_ | refine App.mk rfl (by simp only [List.length_map, List.length_append, List.length_cons, List.length_nil]; omega) (by simp only [List.length_map, List.length_append, List.length_cons, List.length_nil]; omega) ?_ | refine App.mk (own_map (fun _ => rfl) _) (by simp only [List.length_map, List.length_append, List.length_cons, List.length_nil]; omega) (by simp only [List.length_map, List.length_append, List.length_cons, List.length_nil]; omega) ?_ | refine Both.mk ?_ ?_ | exact True.intro
        exact Stop.mk (ih2 (e + 1) (g := []) _ _ _ (by omega) (by omega) ⟨rfl, (by repeat' first | exact trivial | refine ⟨rfl, ?_⟩ | refine ⟨congrArg (fun n => AV.lit (.int .i64 n)) (by omega), ?_⟩ | refine ⟨congrArg (fun l => some (Row.row 1 l)) (by simp [int1, num, tru]), ?_⟩), (by repeat' first | exact trivial | refine ⟨rfl, ?_⟩ | refine ⟨congrArg (fun n => AV.lit (.int .i64 n)) (by omega), ?_⟩ | refine ⟨congrArg (fun l => some (Row.row 1 l)) (by simp [int1, num, tru]), ?_⟩)⟩)
      · repeat' first | refine Len.map ?_ | refine Len.nil ?_ | refine Len.cons ?_ | refine Br.t rfl ?_ | refine Br.f rfl ?_ | refine Need.mk ⟨by first | omega | (simp; omega), by first | omega | (simp; done) | (simp; omega)⟩ ?_ | refine Pick.map (by assumption) ?_ | refine Pick.mapI (by omega) (by assumption) ?_ | refine PickN.mk _ (by assumption) ?_ | refine PickN.mk _ rfl ?_ | refine PickN.map (by first | assumption | (rw [Int.toNat_natCast]; assumption)) ?_ | refine App.mk rfl (by simp only [List.length_map, List.length_append, List.length_cons, List.length_nil]; omega) (by simp only [List.length_map, List.length_append, List.length_cons, List.length_nil]; omega) ?_ | refine App.mk (own_map (fun _ => rfl) _) (by simp only [List.length_map, List.length_append, List.length_cons, List.length_nil]; omega) (by simp only [List.length_map, List.length_append, List.length_cons, List.length_nil]; omega) ?_ | refine Both.mk ?_ ?_ | exact True.intro
        exact Stop.mk (ih (k + 1) (g := []) _ _ _ (by omega) (by omega) ⟨rfl, (by repeat' first | exact trivial | refine ⟨rfl, ?_⟩ | refine ⟨congrArg (fun n => AV.lit (.int .i64 n)) (by omega), ?_⟩ | refine ⟨congrArg (fun l => some (Row.row 1 l)) (by simp [int1, num, tru]), ?_⟩), (by repeat' first | exact trivial | refine ⟨rfl, ?_⟩ | refine ⟨congrArg (fun n => AV.lit (.int .i64 n)) (by omega), ?_⟩ | refine ⟨congrArg (fun l => some (Row.row 1 l)) (by simp [int1, num, tru]), ?_⟩)⟩)
    · repeat' first | refine Call.eq works37t rfl ?_ | refine Len.map ?_ | refine Len.nil ?_ | refine Len.cons ?_ | refine Br.t rfl ?_ | refine Br.f rfl ?_ | refine Need.mk ⟨by first | omega | (simp; omega), by first | omega | (simp; done) | (simp; omega)⟩ ?_ | refine Pick.map (by assumption) ?_ | refine Pick.mapI (by omega) (by assumption) ?_ | refine PickN.mk _ (by assumption) ?_ | refine PickN.mk _ rfl ?_ | refine PickN.map (by first | assumption | (rw [Int.toNat_natCast]; assumption)) ?_ | refine App.mk rfl (by simp only [List.length_map, List.length_append, List.length_cons, List.length_nil]; omega) (by simp only [List.length_map, List.length_append, List.length_cons, List.length_nil]; omega) ?_ | refine App.mk (own_map (fun _ => rfl) _) (by simp only [List.length_map, List.length_append, List.length_cons, List.length_nil]; omega) (by simp only [List.length_map, List.length_append, List.length_cons, List.length_nil]; omega) ?_ | refine Both.mk ?_ ?_ | exact True.intro
      rfl
end Go.Proofs.Ytnfkdilmoppbpaa
