/- What an Op has, and whether an instruction is right, by contracts. -/
import Derived.Test.YtnfkdilmoppbpaaF1
namespace Go.Proofs.Ytnfkdilmoppbpaa
open Go.Ax
set_option maxRecDepth 10000
set_option linter.unusedVariables false

theorem ty_ok {t : Nat} {i : TyI} (h : tys.find t = some i) : TyOK Try.prog t i := TyT.find_ok (HasT.ok (P := Try.prog)) h

theorem has_spec (op : Int) : FnSpec Try.prog 92 [num op] (fun r => r = num (hasF op)) := by
  refine spec_of 1000 Try.func92 rfl rfl ?_
  repeat' first | refine Len.map ?_ | refine Len.nil ?_ | refine Len.cons ?_ | refine Br.t rfl ?_ | refine Br.f rfl ?_ | refine Need.mk ⟨by first | omega | (simp; omega), by first | omega | (simp; done) | (simp; omega)⟩ ?_ | refine Pick.map (by assumption) ?_ | refine Pick.mapI (by omega) (by assumption) ?_ | refine PickN.mk _ (by assumption) ?_ | refine PickN.mk _ rfl ?_ | refine App.mk rfl (by simp only [List.length_map, List.length_append, List.length_cons, List.length_nil]; omega) (by simp only [List.length_map, List.length_append, List.length_cons, List.length_nil]; omega) ?_ | refine Look.yes ?_ | refine Both.mk ?_ ?_ | exact True.intro | refine Br.d (fun h => ?_) (fun h => ?_) | refine Br.nd (fun h => ?_) (fun h => ?_) | refine Br.mk (fun h => ?_) (fun h => ?_)
  all_goals first
    | (refine Stop.mk ?_
       refine run_makeMap rfl rfl ?_
       repeat' refine runM_insert rfl (ty_ok rfl) rfl (ty_ok rfl) rfl rfl ?_
       refine runM_done ?_
       refine go 1000 Try.func92 ?_
       refine Stop.mk ?_
       refine run_op rfl want_none rfl (Reads.ok (rd_lookup rfl (ty_ok rfl) rfl (ty_ok rfl) rfl (by kernel_rfl) rfl rfl rfl)) ?_
       refine go 1000 Try.func92 ?_
       show _ = _
       unfold hasF; rw [if_neg (by omega), if_neg (by omega)]; rfl)
    | (show _ = _
       unfold hasF; first | (rw [if_pos (by omega)]; rfl) | (rw [if_neg (by omega), if_pos (by omega)]; rfl))

theorem tells_spec (m : Int) : FnSpec Try.prog 136 [num m] (fun r => r = tru (tellsF m)) := by
  refine spec_of 1000 Try.func136 rfl rfl ?_
  repeat' first | refine Len.map ?_ | refine Len.nil ?_ | refine Len.cons ?_ | refine Br.t rfl ?_ | refine Br.f rfl ?_ | refine Need.mk ⟨by first | omega | (simp; omega), by first | omega | (simp; done) | (simp; omega)⟩ ?_ | refine Pick.map (by assumption) ?_ | refine Pick.mapI (by omega) (by assumption) ?_ | refine PickN.mk _ (by assumption) ?_ | refine PickN.mk _ rfl ?_ | refine App.mk rfl (by simp only [List.length_map, List.length_append, List.length_cons, List.length_nil]; omega) (by simp only [List.length_map, List.length_append, List.length_cons, List.length_nil]; omega) ?_ | refine Look.yes ?_ | refine Both.mk ?_ ?_ | exact True.intro | refine Br.d (fun h => ?_) (fun h => ?_) | refine Br.nd (fun h => ?_) (fun h => ?_) | refine Br.mk (fun h => ?_) (fun h => ?_)
  all_goals (show _ = _; simp_all [asRes, tellsF, tru]; try omega)

set_option maxHeartbeats 4000000 in
theorem fields_spec (i : Ins) (h : Int) : FnSpec Try.prog 114 [insA i, num h] (fun r => r = tru (fieldsF i h)) := by
  refine spec_of 1000 Try.func114 rfl rfl ?_
  repeat' first | refine Call.eq (tells_spec _) rfl ?_ | refine Len.map ?_ | refine Len.nil ?_ | refine Len.cons ?_ | refine Br.t rfl ?_ | refine Br.f rfl ?_ | refine Need.mk ⟨by first | omega | (simp; omega), by first | omega | (simp; done) | (simp; omega)⟩ ?_ | refine Pick.map (by assumption) ?_ | refine Pick.mapI (by omega) (by assumption) ?_ | refine PickN.mk _ (by assumption) ?_ | refine PickN.mk _ rfl ?_ | refine App.mk rfl (by simp only [List.length_map, List.length_append, List.length_cons, List.length_nil]; omega) (by simp only [List.length_map, List.length_append, List.length_cons, List.length_nil]; omega) ?_ | refine Look.yes ?_ | refine Both.mk ?_ ?_ | exact True.intro | refine Br.d (fun h => ?_) (fun h => ?_) | refine Br.nd (fun h => ?_) (fun h => ?_) | refine Br.mk (fun h => ?_) (fun h => ?_)
  all_goals
    show _ = _
    have e : ∀ x y, IntKind.i64.wrap (((BitVec.ofInt IntKind.i64.bits x &&& BitVec.ofInt IntKind.i64.bits y).toNat : Nat) : Int) = band x y := fun _ _ => rfl
    simp only [e] at *
    clear e
    simp only [asRes, fieldsF, fieldsA, fieldsB, tru]
    simp_all
    try omega

theorem Min_spec (l : List Int) (h0 : l ≠ []) (hl : l.length < 9223372036854775807) : FnSpec Try.prog 115 [ints l] (fun r => ∃ m, r = num m ∧ m ∈ l ∧ ∀ x ∈ l, m ≤ x) := by
  have h1 : 0 < l.length := List.length_pos_iff.2 h0
  obtain ⟨m0, g0, gm⟩ := getK (l := l) (k := 0) h1
  refine spec_of 1000 Try.func115 rfl rfl ?_
  refine Len.map ?_
  refine Br.d (fun h => by omega) (fun h => ?_)
  refine Pick.map (n := 0) g0 ?_
  repeat' first | refine Len.map ?_ | refine Len.nil ?_ | refine Len.cons ?_ | refine Br.t rfl ?_ | refine Br.f rfl ?_ | refine Need.mk ⟨by first | omega | (simp; omega), by first | omega | (simp; done) | (simp; omega)⟩ ?_ | refine Pick.map (by assumption) ?_ | refine Pick.mapI (by omega) (by assumption) ?_ | refine PickN.mk _ (by assumption) ?_ | refine PickN.mk _ rfl ?_ | refine App.mk rfl (by simp only [List.length_map, List.length_append, List.length_cons, List.length_nil]; omega) (by simp only [List.length_map, List.length_append, List.length_cons, List.length_nil]; omega) ?_ | refine Look.yes ?_ | refine Both.mk ?_ ?_ | exact True.intro
  refine Stop.mk (loop_in (fun p : Nat × Int => [(0, ints l), (3, num p.2), (4, num p.1)]) (fun _ => []) 0 (fun p => p.1 ≤ l.length ∧ p.2 ∈ l ∧ ∀ x ∈ l.take p.1, p.2 ≤ x) (fun p => l.length - p.1) (1, m0) ⟨by dsimp only; omega, gm, ?_⟩ (g := []) ⟨rfl, (by repeat' first | exact trivial | refine ⟨rfl, ?_⟩ | refine ⟨congrArg (fun n => AV.lit (.int .i64 n)) (by omega), ?_⟩ | refine ⟨congrArg (fun l => some (Row.row 1 l)) (by simp [int1, num, tru]), ?_⟩), (by repeat' first | exact trivial | refine ⟨rfl, ?_⟩ | refine ⟨congrArg (fun n => AV.lit (.int .i64 n)) (by omega), ?_⟩ | refine ⟨congrArg (fun l => some (Row.row 1 l)) (by simp [int1, num, tru]), ?_⟩)⟩ (fun p hp ih => ?_))
  · intro x hx
    cases l with
    | nil => exact absurd rfl h0
    | cons a l => simp at g0 hx; omega
  · obtain ⟨k, m⟩ := p
    obtain ⟨hk, hm, hx⟩ := hp
    dsimp only at hk hm hx ih
    refine go 1000 Try.func115 ?_
    repeat' first | refine Len.map ?_ | refine Len.nil ?_ | refine Len.cons ?_ | refine Br.t rfl ?_ | refine Br.f rfl ?_ | refine Need.mk ⟨by first | omega | (simp; omega), by first | omega | (simp; done) | (simp; omega)⟩ ?_ | refine Pick.map (by assumption) ?_ | refine Pick.mapI (by omega) (by assumption) ?_ | refine PickN.mk _ (by assumption) ?_ | refine PickN.mk _ rfl ?_ | refine App.mk rfl (by simp only [List.length_map, List.length_append, List.length_cons, List.length_nil]; omega) (by simp only [List.length_map, List.length_append, List.length_cons, List.length_nil]; omega) ?_ | refine Look.yes ?_ | refine Both.mk ?_ ?_ | exact True.intro
    refine Br.d (fun h => ?_) (fun h => ?_)
    · obtain ⟨x, gx, gxm⟩ := getK (l := l) (k := k) (by omega)
      repeat' first | refine Len.map ?_ | refine Len.nil ?_ | refine Len.cons ?_ | refine Br.t rfl ?_ | refine Br.f rfl ?_ | refine Need.mk ⟨by first | omega | (simp; omega), by first | omega | (simp; done) | (simp; omega)⟩ ?_ | refine Pick.map (by assumption) ?_ | refine Pick.mapI (by omega) (by assumption) ?_ | refine PickN.mk _ (by assumption) ?_ | refine PickN.mk _ rfl ?_ | refine App.mk rfl (by simp only [List.length_map, List.length_append, List.length_cons, List.length_nil]; omega) (by simp only [List.length_map, List.length_append, List.length_cons, List.length_nil]; omega) ?_ | refine Look.yes ?_ | refine Both.mk ?_ ?_ | exact True.intro
      refine Stop.mk (ih (k + 1, min m x) _ _ _ ⟨by dsimp only; omega, ?_, ?_⟩ (by dsimp only; omega) (g := []) ⟨rfl, (by repeat' first | exact trivial | refine ⟨rfl, ?_⟩ | refine ⟨congrArg (fun n => AV.lit (.int .i64 n)) (by omega), ?_⟩ | refine ⟨congrArg (fun l => some (Row.row 1 l)) (by simp [int1, num, tru]), ?_⟩), (by repeat' first | exact trivial | refine ⟨rfl, ?_⟩ | refine ⟨congrArg (fun n => AV.lit (.int .i64 n)) (by omega), ?_⟩ | refine ⟨congrArg (fun l => some (Row.row 1 l)) (by simp [int1, num, tru]), ?_⟩)⟩)
      · dsimp only
        rcases Int.le_total m x with hh | hh
        · rw [Int.min_eq_left hh]; exact hm
        · rw [Int.min_eq_right hh]; exact gxm
      · exact all_take_succ gx (fun y hy => by have := hx y hy; dsimp only; omega) (by dsimp only; omega)
    · rw [take_all (by omega)] at hx
      repeat' first | refine Len.map ?_ | refine Len.nil ?_ | refine Len.cons ?_ | refine Br.t rfl ?_ | refine Br.f rfl ?_ | refine Need.mk ⟨by first | omega | (simp; omega), by first | omega | (simp; done) | (simp; omega)⟩ ?_ | refine Pick.map (by assumption) ?_ | refine Pick.mapI (by omega) (by assumption) ?_ | refine PickN.mk _ (by assumption) ?_ | refine PickN.mk _ rfl ?_ | refine App.mk rfl (by simp only [List.length_map, List.length_append, List.length_cons, List.length_nil]; omega) (by simp only [List.length_map, List.length_append, List.length_cons, List.length_nil]; omega) ?_ | refine Look.yes ?_ | refine Both.mk ?_ ?_ | exact True.intro
      exact ⟨m, rfl, hm, hx⟩

def fl (i : Ins) : List (Int × Int) := [(1, i.dst), (2, i.a), (4, i.b), (8, i.c), (256, i.site)]
def two (p : Int × Int) : List AV := [num p.1, num p.2]

theorem band_eq (x y : Int) : IntKind.i64.wrap (((BitVec.ofInt IntKind.i64.bits x &&& BitVec.ofInt IntKind.i64.bits y).toNat : Nat) : Int) = band x y := rfl

set_option maxHeartbeats 4000000 in
theorem Right_spec (i : Ins) (hi : i.fits) : FnSpec Try.prog 87 [insA i] (fun r => r = tru (rightF i)) := by
  refine spec_of 3000 Try.func87 rfl rfl ?_
  repeat' first | refine Call.eq (has_spec _) rfl ?_ | refine Call.eq (fields_spec i _) rfl ?_ | refine Len.map ?_ | refine Len.nil ?_ | refine Len.cons ?_ | refine Br.t rfl ?_ | refine Br.f rfl ?_ | refine Need.mk ⟨by first | omega | (simp; omega), by first | omega | (simp; done) | (simp; omega)⟩ ?_ | refine Pick.map (by assumption) ?_ | refine Pick.mapI (by omega) (by assumption) ?_ | refine PickN.mk _ (by assumption) ?_ | refine PickN.mk _ rfl ?_ | refine App.mk rfl (by simp only [List.length_map, List.length_append, List.length_cons, List.length_nil]; omega) (by simp only [List.length_map, List.length_append, List.length_cons, List.length_nil]; omega) ?_ | refine Look.yes ?_ | refine Both.mk ?_ ?_ | exact True.intro
  refine Br.d (fun h0 => ?_) (fun h0 => ?_)
  · repeat' first | refine Len.map ?_ | refine Len.nil ?_ | refine Len.cons ?_ | refine Br.t rfl ?_ | refine Br.f rfl ?_ | refine Need.mk ⟨by first | omega | (simp; omega), by first | omega | (simp; done) | (simp; omega)⟩ ?_ | refine Pick.map (by assumption) ?_ | refine Pick.mapI (by omega) (by assumption) ?_ | refine PickN.mk _ (by assumption) ?_ | refine PickN.mk _ rfl ?_ | refine App.mk rfl (by simp only [List.length_map, List.length_append, List.length_cons, List.length_nil]; omega) (by simp only [List.length_map, List.length_append, List.length_cons, List.length_nil]; omega) ?_ | refine Look.yes ?_ | refine Both.mk ?_ ?_ | exact True.intro
    show _ = _
    simp [asRes, rightF, h0, tru]
  repeat' first | refine Call.eq (has_spec _) rfl ?_ | refine Call.eq (fields_spec i _) rfl ?_ | refine Len.map ?_ | refine Len.nil ?_ | refine Len.cons ?_ | refine Br.t rfl ?_ | refine Br.f rfl ?_ | refine Need.mk ⟨by first | omega | (simp; omega), by first | omega | (simp; done) | (simp; omega)⟩ ?_ | refine Pick.map (by assumption) ?_ | refine Pick.mapI (by omega) (by assumption) ?_ | refine PickN.mk _ (by assumption) ?_ | refine PickN.mk _ rfl ?_ | refine App.mk rfl (by simp only [List.length_map, List.length_append, List.length_cons, List.length_nil]; omega) (by simp only [List.length_map, List.length_append, List.length_cons, List.length_nil]; omega) ?_ | refine Look.yes ?_ | refine Both.mk ?_ ?_ | exact True.intro
  refine Br.mk (fun h1 => ?_) (fun h1 => ?_)
  · show _ = _
    simp at h1
    simp [asRes, rightF, h0, h1, tru]
  simp at h1
  repeat' first | refine Len.map ?_ | refine Len.nil ?_ | refine Len.cons ?_ | refine Br.t rfl ?_ | refine Br.f rfl ?_ | refine Need.mk ⟨by first | omega | (simp; omega), by first | omega | (simp; done) | (simp; omega)⟩ ?_ | refine Pick.map (by assumption) ?_ | refine Pick.mapI (by omega) (by assumption) ?_ | refine PickN.mk _ (by assumption) ?_ | refine PickN.mk _ rfl ?_ | refine App.mk rfl (by simp only [List.length_map, List.length_append, List.length_cons, List.length_nil]; omega) (by simp only [List.length_map, List.length_append, List.length_cons, List.length_nil]; omega) ?_ | refine Look.yes ?_ | refine Both.mk ?_ ?_ | exact True.intro
  refine Stop.mk (loop_in (fun k : Nat => [(1, .hp 0 0), (3, num (hasF i.op)), (33, .hw 1), (34, num 5), (35, num k)]) (fun k => [(1, .row 2 ((fl i).map two)), (0, .var i.cs)]) 2 (fun k => k ≤ 5 ∧ ∀ p ∈ (fl i).take k, fitF (hasF i.op) p.1 p.2 = true) (fun k => 5 - k) 0 ⟨by omega, by simp⟩ (g := []) ⟨rfl, (by repeat' first | exact trivial | refine ⟨rfl, ?_⟩ | refine ⟨congrArg (fun n => AV.lit (.int .i64 n)) (by omega), ?_⟩ | refine ⟨congrArg (fun l => some (Row.row 1 l)) (by simp [int1, num, tru]), ?_⟩), (by repeat' first | exact trivial | refine ⟨rfl, ?_⟩ | refine ⟨congrArg (fun n => AV.lit (.int .i64 n)) (by omega), ?_⟩ | refine ⟨congrArg (fun l => some (Row.row 1 l)) (by simp [int1, num, tru]), ?_⟩)⟩ (fun k hk ih => ?_))
  obtain ⟨hk1, hk2⟩ := hk
  refine go 1000 Try.func87 ?_
  refine Br.d (fun h2 => ?_) (fun h2 => ?_)
  · obtain ⟨p, gp, gm⟩ := getK (l := fl i) (k := k) (by simp [fl]; omega)
    have gp2 : ((fl i).map two)[k]? = some (two p) := by simp [gp]
    refine Need.mk ⟨by omega, by simp [fl]; omega⟩ ?_
    refine PickN.mk _ gp2 ?_
    have bad : fitF (hasF i.op) p.1 p.2 = false → (asRes [tru false] : AV) = tru (rightF i) := fun hb => by
      have : rightF i = false := by
        simp only [fl, List.mem_cons, List.not_mem_nil, or_false] at gm
        rcases gm with rfl | rfl | rfl | rfl | rfl <;> simp [rightF, hb]
      rw [this]; rfl
    repeat' first | refine Len.map ?_ | refine Len.nil ?_ | refine Len.cons ?_ | refine Br.t rfl ?_ | refine Br.f rfl ?_ | refine Need.mk ⟨by first | omega | (simp; omega), by first | omega | (simp; done) | (simp; omega)⟩ ?_ | refine Pick.map (by assumption) ?_ | refine Pick.mapI (by omega) (by assumption) ?_ | refine PickN.mk _ (by assumption) ?_ | refine PickN.mk _ rfl ?_ | refine App.mk rfl (by simp only [List.length_map, List.length_append, List.length_cons, List.length_nil]; omega) (by simp only [List.length_map, List.length_append, List.length_cons, List.length_nil]; omega) ?_ | refine Look.yes ?_ | refine Both.mk ?_ ?_ | exact True.intro | refine Br.d (fun h => ?_) (fun h => ?_) | refine Br.nd (fun h => ?_) (fun h => ?_) | refine Br.mk (fun h => ?_) (fun h => ?_)
    · show _ = _
      exact bad (by simp [fitF]; omega)
    · show _ = _
      exact bad (by simp only [band_eq] at *; simp [fitF]; omega)
    · refine Stop.mk (ih (k + 1) _ _ _ ⟨by omega, all_take_succ gp hk2 ?_⟩ (by omega) (g := []) ⟨rfl, (by repeat' first | exact trivial | refine ⟨rfl, ?_⟩ | refine ⟨congrArg (fun n => AV.lit (.int .i64 n)) (by omega), ?_⟩ | refine ⟨congrArg (fun l => some (Row.row 1 l)) (by simp [int1, num, tru]), ?_⟩), (by repeat' first | exact trivial | refine ⟨rfl, ?_⟩ | refine ⟨congrArg (fun n => AV.lit (.int .i64 n)) (by omega), ?_⟩ | refine ⟨congrArg (fun l => some (Row.row 1 l)) (by simp [int1, num, tru]), ?_⟩)⟩)
      simp only [band_eq] at *; simp [fitF]; omega
    · refine Stop.mk (ih (k + 1) _ _ _ ⟨by omega, all_take_succ gp hk2 ?_⟩ (by omega) (g := []) ⟨rfl, (by repeat' first | exact trivial | refine ⟨rfl, ?_⟩ | refine ⟨congrArg (fun n => AV.lit (.int .i64 n)) (by omega), ?_⟩ | refine ⟨congrArg (fun l => some (Row.row 1 l)) (by simp [int1, num, tru]), ?_⟩), (by repeat' first | exact trivial | refine ⟨rfl, ?_⟩ | refine ⟨congrArg (fun n => AV.lit (.int .i64 n)) (by omega), ?_⟩ | refine ⟨congrArg (fun l => some (Row.row 1 l)) (by simp [int1, num, tru]), ?_⟩)⟩)
      simp only [band_eq] at *; simp [fitF]; omega
  · rw [take_all (by simp [fl]; omega)] at hk2
    have hfit : (fitF (hasF i.op) 1 i.dst && fitF (hasF i.op) 2 i.a && fitF (hasF i.op) 4 i.b && fitF (hasF i.op) 8 i.c && fitF (hasF i.op) 256 i.site) = true := by
      simp only [fl, List.forall_mem_cons] at hk2
      simp [hk2]
    have hr : rightF i = argsF i (hasF i.op) := by
      unfold rightF; rw [hfit, h1]; simp [h0]
    have hargs : i.args.length ≠ 0 → i.args ≠ [] := fun h e => by rw [e] at h; exact h rfl
    have bad : ¬ ((band (hasF i.op) 512 = 0 → i.args.length = 0) ∧ (band (hasF i.op) 1024 ≠ 0 → i.args.length ≠ 0) ∧ (i.op = 39 → i.args.length ≤ 8)) → (asRes [tru false] : AV) = tru (rightF i) := fun hb => by
      have : argsF i (hasF i.op) = false := decide_eq_false fun h => hb h.1
      rw [hr, this]; rfl
    have good : ∀ b : Bool, ((band (hasF i.op) 512 = 0 → i.args.length = 0) ∧ (band (hasF i.op) 1024 ≠ 0 → i.args.length ≠ 0) ∧ (i.op = 39 → i.args.length ≤ 8)) → (b = true ↔ ∀ x ∈ i.args, 0 ≤ x) → (asRes [tru b] : AV) = tru (rightF i) := fun b h1 h2 => by
      rw [hr]
      show tru b = tru _
      congr 1
      rw [Bool.eq_iff_iff, h2]; unfold argsF; rw [decide_eq_true_iff]; exact ⟨fun h => ⟨h1, h⟩, fun h => h.2⟩
    have none : i.args.length = 0 → ∀ x ∈ i.args, 0 ≤ x := fun h => by rw [List.eq_nil_of_length_eq_zero h]; simp
    repeat' first | (refine Call.of (Min_spec i.args (hargs (by omega)) hi) ?_; rintro r ⟨m, rfl, hm, hx⟩; refine ⟨rfl, ?_⟩) | refine Len.map ?_ | refine Len.nil ?_ | refine Len.cons ?_ | refine Br.t rfl ?_ | refine Br.f rfl ?_ | refine Need.mk ⟨by first | omega | (simp; omega), by first | omega | (simp; done) | (simp; omega)⟩ ?_ | refine Pick.map (by assumption) ?_ | refine Pick.mapI (by omega) (by assumption) ?_ | refine PickN.mk _ (by assumption) ?_ | refine PickN.mk _ rfl ?_ | refine App.mk rfl (by simp only [List.length_map, List.length_append, List.length_cons, List.length_nil]; omega) (by simp only [List.length_map, List.length_append, List.length_cons, List.length_nil]; omega) ?_ | refine Look.yes ?_ | refine Both.mk ?_ ?_ | exact True.intro | refine Br.d (fun h => ?_) (fun h => ?_) | refine Br.nd (fun h => ?_) (fun h => ?_) | refine Br.mk (fun h => ?_) (fun h => ?_)
    clear ih
    all_goals (show _ = _; try simp only [band_eq] at *)
    all_goals first
      | exact bad (by omega)
      | exact good _ (by omega) (by rename_i m hm hx; simp; exact ⟨fun h x hx' => by have := hx x hx'; omega, fun h => h m hm⟩)
      | exact good _ (by omega) (by simp; exact none (by omega))

theorem Def_spec (i : Ins) (hi : i.fits) : FnSpec Try.prog 62 [insA i] (fun r => r = num (defF i)) := by
  refine spec_of 1000 Try.func62 rfl rfl ?_
  repeat' first | refine Call.eq (Right_spec i hi) rfl ?_ | refine Call.eq (has_spec _) rfl ?_ | refine Len.map ?_ | refine Len.nil ?_ | refine Len.cons ?_ | refine Br.t rfl ?_ | refine Br.f rfl ?_ | refine Need.mk ⟨by first | omega | (simp; omega), by first | omega | (simp; done) | (simp; omega)⟩ ?_ | refine Pick.map (by assumption) ?_ | refine Pick.mapI (by omega) (by assumption) ?_ | refine PickN.mk _ (by assumption) ?_ | refine PickN.mk _ rfl ?_ | refine App.mk rfl (by simp only [List.length_map, List.length_append, List.length_cons, List.length_nil]; omega) (by simp only [List.length_map, List.length_append, List.length_cons, List.length_nil]; omega) ?_ | refine Look.yes ?_ | refine Both.mk ?_ ?_ | exact True.intro | refine Br.d (fun h => ?_) (fun h => ?_) | refine Br.nd (fun h => ?_) (fun h => ?_) | refine Br.mk (fun h => ?_) (fun h => ?_)
  all_goals (show _ = _; try simp only [band_eq] at *)
  all_goals (simp_all [asRes, defF, num])
end Go.Proofs.Ytnfkdilmoppbpaa
