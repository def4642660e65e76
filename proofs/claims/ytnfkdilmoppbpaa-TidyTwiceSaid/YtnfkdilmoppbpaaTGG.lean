/- A symbolic run, reckoned by a function: the run. -/
import Derived.Test.YtnfkdilmoppbpaaTGF
set_option linter.unusedVariables false
set_option linter.unusedSimpArgs false

namespace Go.Ax
open Go.RowKit
set_option linter.unusedVariables false
set_option linter.unusedSimpArgs false

def nth {α : Type} : List α → Nat → Option α
  | [], _ => none
  | a :: _, 0 => some a
  | _ :: l, n + 1 => nth l n
theorem nth_eq {α : Type} : ∀ (l : List α) (n : Nat), nth l n = l[n]?
  | [], _ => by simp [nth]
  | a :: _, 0 => rfl
  | _ :: l, n + 1 => by simp [nth, nth_eq l n]

def memN (j : Nat) : List Nat → Bool
  | [] => false
  | a :: l => Nat.beq a j || memN j l

abbrev TM := List (Nat × AV)
abbrev HP := List (Nat × Row)

/-- A guard: what is wanted goes on, what isn't is left out. -/
def gdK (A : Array Oper) (nt : Nat) (g : Option (Nat × Bool)) (kn : List Nat) (tm : TM) (run skip : List Nat → TM → Prop) (F : Prop) : Prop :=
  match g with
  | none => run kn tm
  | some (j, want) => match (nth A.toList j).bind (·.dst) with
    | none => F
    | some d => bif Nat.blt d nt then (bif memN j kn then match get d tm with
        | .lit (.bool true) => bif want then run kn tm else skip kn tm
        | .lit (.bool false) => bif want then skip kn tm else run kn tm
        | _ => F
      else match get d tm with
        | .lit (.bool b) => Br b (bif want then run (j :: kn) ((d, .lit (.bool true)) :: tm) else skip (j :: kn) ((d, .lit (.bool true)) :: tm))
            (bif want then skip (j :: kn) ((d, .lit (.bool false)) :: tm) else run (j :: kn) ((d, .lit (.bool false)) :: tm))
        | .lit _ => skip kn tm
        | _ => F) else F

/-- One's own, as one who only looks sees it. -/
def cellsK : List AV → (List AV → Prop) → Prop
  | [], k => k []
  | a :: r, k => match a with
    | .osl sz xs => View xs fun ys => cellsK r fun l => k (.sl false sz ys :: l)
    | .opt cs => cellsK r fun l => k (.pt (AV.fzL cs) :: l)
    | .agg cs => cellsK r fun l => k (.agg (AV.fzL cs) :: l)
    | .tup cs => cellsK r fun l => k (.tup (AV.fzL cs) :: l)
    | a => cellsK r fun l => k (a :: l)
theorem cellsK_ok : ∀ {cs : List AV} {k : List AV → Prop}, cellsK cs k → k (AV.fzL cs)
  | [], k, h => h
  | a :: r, k, h => by
    unfold cellsK at h
    split at h
    · obtain ⟨ys, rfl, h⟩ := h; have := cellsK_ok h; simpa only [AV.fzL, AV.fz] using this
    · have := cellsK_ok h; simpa only [AV.fzL, AV.fz] using this
    · have := cellsK_ok h; simpa only [AV.fzL, AV.fz] using this
    · have := cellsK_ok h; simpa only [AV.fzL, AV.fz] using this
    · rename_i h1 h2 h3 h4
      have := cellsK_ok h
      cases a with
      | osl s x => exact absurd rfl (h1 s x)
      | opt c => exact absurd rfl (h2 c)
      | agg c => exact absurd rfl (h3 c)
      | tup c => exact absurd rfl (h4 c)
      | _ => simpa only [AV.fzL, AV.fz] using this

def seen1 (hp : HP) (a : AV) (k : AV → Prop) : Prop :=
  match a with
  | .hw id => match row id hp with
    | some (.row sz xs) => View xs fun ys => k (.sl false sz ys)
    | _ => k a
  | .hp id 0 => match row id hp with
    | some (.var cs) => bif cs.all AV.closed then cellsK cs fun cs => k (.pt cs) else k a
    | _ => k a
  | a => k a
theorem seen1_ok {hp : HP} {a : AV} {k : AV → Prop} (h : seen1 hp a k) : ∃ a', Seen hp a a' ∧ k a' := by
  unfold seen1 at h
  split at h
  · split at h
    · rename_i hrow; obtain ⟨ys, hy, h⟩ := h; exact ⟨_, seen_hw hrow hy, h⟩
    · exact ⟨_, .inl rfl, h⟩
  · split at h
    · rename_i cs hrow
      cases hc : cs.all AV.closed with
      | true => rw [hc] at h; exact ⟨_, seen_hp hrow hc rfl, cellsK_ok h⟩
      | false => rw [hc] at h; exact ⟨_, .inl rfl, h⟩
    · exact ⟨_, .inl rfl, h⟩
  · exact ⟨_, .inl rfl, h⟩

def seenC (hp : HP) : List AV → (List AV → Prop) → Prop
  | [], k => k []
  | a :: r, k => seen1 hp a fun a => seenC hp r fun l => k (a :: l)
theorem seenC_ok {hp : HP} : ∀ {as : List AV} {k : List AV → Prop}, seenC hp as k → ∃ as', SeenL hp as as' ∧ k as'
  | [], k, h => ⟨[], .nil, h⟩
  | a :: r, k, h => by
    obtain ⟨a', h1, h⟩ := seen1_ok h
    obtain ⟨l, h2, h⟩ := seenC_ok h
    exact ⟨_, .cons h1 h2, h⟩

def seenL (hp : HP) : List AV → (List AV → Prop) → Prop
  | [], k => k []
  | a :: r, k => match a with
    | .agg cs => seenC hp cs fun cs => bif cs.all AV.std then seenL hp r fun l => k (.agg cs :: l) else False
    | a => seen1 hp a fun a => seenL hp r fun l => k (a :: l)
theorem seenL_ok {hp : HP} : ∀ {as : List AV} {k : List AV → Prop}, seenL hp as k → ∃ as', SeenL hp as as' ∧ k as'
  | [], k, h => ⟨[], .nil, h⟩
  | a :: r, k, h => by
    unfold seenL at h
    split at h
    · obtain ⟨cs', h1, h⟩ := seenC_ok h
      cases hc : cs'.all AV.std with
      | false => rw [hc] at h; exact h.elim
      | true =>
        rw [hc] at h
        obtain ⟨l, h2, h⟩ := seenL_ok h
        exact ⟨_, .cons (seen_agg h1 hc) h2, h⟩
    · obtain ⟨a', h1, h⟩ := seen1_ok h
      obtain ⟨l, h2, h⟩ := seenL_ok h
      exact ⟨_, .cons h1 h2, h⟩

/-- A call with the heap. -/
inductive Dyn (P : Program) (g : Nat) (as : List AV) (hp : HP) (nx : Nat) (K : AV → HP → Nat → Prop) : Prop
  | mk (fn : Func) (c : Code) : P.funcs[g]? = some fn → fn.body = some c → (Nat.ble as.length fn.ntmps && !(fn.name == "runtime.NumGoroutine")) = true → Run P g (Post.inl nx K) [.code c] ⟨slots 0 as, hp, nx, fn.ntmps⟩ → Dyn P g as hp nx K

def imp1K (nx : Nat) (a : AV) (K : AV → HP → Nat → Prop) : Prop := match a with
  | .osl sz xs => K (.hw nx) [(nx, .row sz xs)] (nx + 1)
  | .opt cs => K (.hp nx 0) [(nx, .var cs)] (nx + 1)
  | v => K v [] nx
theorem imp1K_eq (nx : Nat) (a : AV) (K : AV → HP → Nat → Prop) : imp1K nx a K = K (imp1 nx a).1 (imp1 nx a).2.1 (imp1 nx a).2.2 := by cases a <;> rfl
def impLK (nx : Nat) : List AV → (List AV → HP → Nat → Prop) → Prop
  | [], K => K [] [] nx
  | a :: as, K => imp1K nx a fun v h n1 => impLK n1 as fun l h2 n2 => K (v :: l) (h ++ h2) n2
theorem impLK_eq : ∀ (as : List AV) (nx : Nat) (K : List AV → HP → Nat → Prop), impLK nx as K = K (impL nx as).1 (impL nx as).2.1 (impL nx as).2.2
  | [], nx, K => rfl
  | a :: as, nx, K => by simp only [impLK, imp1K_eq, impLK_eq as, impL]
def imp2K (nx : Nat) (a : AV) (K : AV → HP → Nat → Prop) : Prop := match a with
  | .agg cs => impLK nx cs fun l h n => K (.agg l) h n
  | v => imp1K nx v K
theorem imp2K_eq (nx : Nat) (a : AV) (K : AV → HP → Nat → Prop) : imp2K nx a K = K (imp2 nx a).1 (imp2 nx a).2.1 (imp2 nx a).2.2 := by
  cases a with
  | agg cs => simp only [imp2K, impLK_eq, imp2]
  | _ => simp only [imp2K, imp2, imp1K_eq]
def impTK (nx : Nat) : List AV → (List AV → HP → Nat → Prop) → Prop
  | [], K => K [] [] nx
  | a :: as, K => imp2K nx a fun v h n1 => impTK n1 as fun l h2 n2 => K (v :: l) (h ++ h2) n2
theorem impTK_eq : ∀ (as : List AV) (nx : Nat) (K : List AV → HP → Nat → Prop), impTK nx as K = K (impT nx as).1 (impT nx as).2.1 (impT nx as).2.2
  | [], nx, K => rfl
  | a :: as, nx, K => by simp only [impTK, imp2K_eq, impTK_eq as, impT]
def impK (nx : Nat) (a : AV) (K : AV → HP → Nat → Prop) : Prop := match a with
  | .tup cs => impTK nx cs fun l h n => K (.tup l) h n
  | v => imp2K nx v K
theorem impK_eq (nx : Nat) (a : AV) (K : AV → HP → Nat → Prop) : impK nx a K = K (imp nx a).1 (imp nx a).2.1 (imp nx a).2.2 := by
  cases a with
  | tup cs => simp only [impK, impTK_eq, imp]
  | _ => simp only [impK, imp, imp2K_eq]

def backK (nx : Nat) (hp : HP) (K : AV → HP → Nat → Prop) (r : AV) : Prop := impK nx r fun v h n => v.onD fun v => onH (h ++ hp) fun h => K v h n
theorem backK_eq (nx : Nat) (hp : HP) (K : AV → HP → Nat → Prop) (r : AV) : backK nx hp K r = K (imp nx r).1 ((imp nx r).2.1 ++ hp) (imp nx r).2.2 := by
  unfold backK; rw [impK_eq, AV.onD_eq, onH_eq]

def callOp (P : Program) (st : St) (op : Op) (K : AV → HP → Nat → Prop) (F : Prop) : Prop := match st with
  | ⟨tm0, hp0, nx, nt0⟩ => match op with
    | .call c => match c.callee with
      | .value (.func g) => onL (c.args.toList.map (St.ev ⟨tm0, hp0, nx, nt0⟩)) fun as => bif as.all AV.std then Call P g as (backK nx hp0 K)
        else Look F (seenL hp0 as fun as' => bif as'.all AV.std then CallV P g as' (backK nx hp0 K) else F)
      | .value (.tmp t) => match get t tm0 with
        | .fn g cs => onL (c.args.toList.map (St.ev ⟨tm0, hp0, nx, nt0⟩) ++ cs) fun as => Dyn P g as hp0 nx K
        | _ => F
      | _ => F
    | _ => F

/-- What is put back ahead of an operation. -/
def unfAny (hp : HP) : HP → Option HP
  | [] => none
  | (id, .foc ..) :: r => match unf1 id hp with
    | some h => some h
    | none => unfAny hp r
  | _ :: r => unfAny hp r
theorem unfAny_ok {hp h : HP} : ∀ {l : HP}, unfAny hp l = some h → ∃ id, unf1 id hp = some h
  | (id, .foc ..) :: r, e => by
    simp only [unfAny] at e
    split at e
    · rename_i h1; cases e; exact ⟨_, h1⟩
    · exact unfAny_ok e
  | (_, .var _) :: r, e => unfAny_ok (l := r) e
  | (_, .row ..) :: r, e => unfAny_ok (l := r) e
  | (_, .lp _) :: r, e => unfAny_ok (l := r) e

def unfOp (tm : TM) (hp : HP) (op : Op) : Option HP :=
  match op with
  | .load _ (.tmp t) => match get t tm with
    | .hq id _ _ => unf1 id hp
    | _ => none
  | .indexAddr _ (.tmp t) _ => match get t tm with
    | .hw id => unf1 id hp
    | _ => none
  | .call c => match c.callee with
    | .value _ => unfAny hp hp
    | _ => none
  | _ => none
theorem unfOp_ok {tm : TM} {hp h : HP} {op : Op} (e : unfOp tm hp op = some h) : ∃ id, unf1 id hp = some h := by
  unfold unfOp at e
  split at e
  · split at e
    · exact ⟨_, e⟩
    · cases e
  · split at e
    · exact ⟨_, e⟩
    · cases e
  · split at e
    · exact unfAny_ok e
    · cases e
  · cases e

def skipK (nt : Nat) (dst : Option Nat) (K : TM → Prop) (F : Prop) (tm : TM) : Prop :=
  match dst with
  | some d => bif Nat.blt d nt then K ((d, .lit undef) :: tm) else F
  | none => K tm

/-- One operation, whatever it is. -/
def anyOp1 (P : Program) (tr : TyT) (nt : Nat) (dst : Option Nat) (op : Op) (K : TM → HP → Nat → Prop) (F : Prop) (tm : TM) (hp : HP) (nx : Nat) : Prop :=
  match dst with
  | some d => bif Nat.blt d nt then
      rdOp P tr ⟨tm, hp, nx, nt⟩ op (fun v => K ((d, v) :: tm) hp nx)
        (okOp tr ⟨tm, hp, nx, nt⟩ op (fun v h => K ((d, v) :: tm) h (nx + 1))
          (callOp P ⟨tm, hp, nx, nt⟩ op (fun v h nx => K ((d, v) :: tm) h nx) F))
    else F
  | none => doOp tr ⟨tm, hp, nx, nt⟩ op (fun h => K tm h nx) F

def anyOp (P : Program) (tr : TyT) (nt : Nat) (dst : Option Nat) (op : Op) (K : TM → HP → Nat → Prop) (F : Prop) (tm : TM) (hp : HP) (nx : Nat) : Prop :=
  match unfOp tm hp op with
  | some h => onH h fun h => anyOp1 P tr nt dst op K F tm h nx
  | none => anyOp1 P tr nt dst op K F tm hp nx

/-- Orders: which operation is next; where several may be, each of them. -/
inductive Ord where
  | nil
  | one (i : Nat) (single : Bool) (r : Ord)
  | alt (i : Nat) (r e : Ord)
  | no

def Ord.ixs : Ord → List Nat
  | .alt i _ e => i :: e.ixs
  | _ => []
def Ord.depth : Ord → Nat
  | .nil => 0
  | .one _ _ r => r.depth + 1
  | .alt _ r e => max (r.depth + 1) e.depth
  | .no => 0

inductive Both (p q : Prop) : Prop
  | mk : p → q → Both p q

/-- One operation of a region whose order is open. -/
def dop (P : Program) (tr : TyT) (nt : Nat) (A : Array Oper) (i : Nat) (E : List Nat → TM → HP → Nat → Prop) (kn : List Nat) (tm : TM) (hp : HP) (nx : Nat) : Prop :=
  match nth A.toList i with
  | some ⟨dst, op, _, _, _, g⟩ => gdK A nt g kn tm (fun kn tm => anyOp P tr nt dst op (fun tm hp nx => E kn tm hp nx) False tm hp nx) (fun kn tm => skipK nt dst (fun tm => E kn tm hp nx) False tm) False
  | none => False

/-- A region whose order is open. -/
def dex (P : Program) (tr : TyT) (nt : Nat) (A : Array Oper) (E : TM → HP → Nat → Prop) : Ord → List Nat → TM → HP → Nat → Prop
  | .nil, _, tm, hp, nx => E tm hp nx
  | .one i true r, kn, tm, hp, nx => dop P tr nt A i (fun kn tm hp nx => dex P tr nt A E r kn tm hp nx) kn tm hp nx
  | .one i false r, kn, tm, hp, nx => match nth A.toList i with
    | some ⟨dst, op, _, _, _, g⟩ => gdK A nt g kn tm
        (fun kn tm => match dst with
            | some d => bif Nat.blt d nt then rdOp P tr ⟨tm, hp, nx, nt⟩ op (fun v => dex P tr nt A E r kn ((d, v) :: tm) hp nx) False else False
            | none => False)
        (fun kn tm => skipK nt dst (fun tm => dex P tr nt A E r kn tm hp nx) False tm) False
    | none => False
  | .alt i r e, kn, tm, hp, nx => Both (dop P tr nt A i (fun kn tm hp nx => dex P tr nt A E r kn tm hp nx) kn tm hp nx) (dex P tr nt A E e kn tm hp nx)
  | .no, _, _, _, _ => True

def schedOK (A : Array Oper) : Bool → Ord → Array Bool → Bool
  | _, .nil, L => (Region.ready .any A L).isEmpty
  | _, .one i s r, L => (bif s then Region.ready .any A L == [i] else clear A L i) && schedOK A true r (L.setIfInBounds i true)
  | top, .alt i r e, L => (bif top then Region.ready .any A L == i :: e.ixs else true) && schedOK A true r (L.setIfInBounds i true) && schedOK A false e L
  | top, .no, _ => !top

/-- An order is picked. -/
inductive Draw (P : Program) (A : Array Oper) (k : Ord → Prop) : Prop
  | mk (ord : Ord) : (P.follows .mixedOrders && Nat.ble ord.depth A.size && schedOK A true ord (Array.replicate A.size false) && noDefer A) = true → k ord → Draw P A k

def ordL (l : List Nat) : List Nat → Ord
  | [] => .nil
  | i :: r => .one i (memN i l) (ordL l r)
/-- All in their order; those of l may only come alone. -/
def sch (n : Nat) (l : List Nat) : Ord := ordL l (upTo n 0)

/-- The run. -/
def exec (P : Program) (tr : TyT) (f : Nat) (Q : Post) (nt : Nat) (R : Bool → TM → HP → Nat → Prop) : Nat → List Nat → List Item → TM → HP → Nat → Prop
  | 0, _, todo, tm, hp, nx => Stop (Run P f Q todo ⟨tm, hp, nx, nt⟩)
  | n + 1, kn, todo, tm, hp, nx => match todo with
    | [] => R false tm hp nx
    | .code .ret :: _ => R true tm hp nx
    | .code .skip :: k => exec P tr f Q nt R n kn k tm hp nx
    | .code (.label _) :: k => exec P tr f Q nt R n kn k tm hp nx
    | .code (.seq a b) :: k => exec P tr f Q nt R n kn (.code a :: .code b :: k) tm hp nx
    | .code (.block id c) :: k => exec P tr f Q nt R n kn (.code c :: .inBlock id :: k) tm hp nx
    | .code (.exit id) :: k => match exitTo id k with
      | some k' => exec P tr f Q nt R n kn k' tm hp nx
      | none => Stop (Run P f Q todo ⟨tm, hp, nx, nt⟩)
    | .code (.region _ ops false) :: k => exec P tr f Q nt R n [] (.inRegion ops (upTo ops.size 0) :: k) tm hp nx
    | .code (.region _ ops true) :: k => Draw P ops fun ord => dex P tr nt ops (fun tm hp nx => exec P tr f Q nt R n [] k tm hp nx) ord [] tm hp nx
    | .code (.cond c x y) :: k => match St.ev ⟨tm, hp, nx, nt⟩ c with
      | .lit (.bool b) => Br b (exec P tr f Q nt R n kn (.code x :: k) tm hp nx) (exec P tr f Q nt R n kn (.code y :: k) tm hp nx)
      | _ => Stop (Run P f Q todo ⟨tm, hp, nx, nt⟩)
    | .code (.scope c) :: k => exec P tr f Q nt R n kn (.code c :: .inScope c :: k) tm hp nx
    | .inBlock _ :: k => exec P tr f Q nt R n kn k tm hp nx
    | .inScope _ :: k => exec P tr f Q nt R n kn k tm hp nx
    | .inRegion _ [] :: k => exec P tr f Q nt R n [] k tm hp nx
    | .inRegion A (i :: rest) :: k => match nth A.toList i with
      | some ⟨dst, op, _, _, _, g⟩ => gdK A nt g kn tm
          (fun kn tm => anyOp P tr nt dst op (fun tm hp nx => exec P tr f Q nt R n kn (.inRegion A rest :: k) tm hp nx) (Stop (Run P f Q (.inRegion A (i :: rest) :: k) ⟨tm, hp, nx, nt⟩)) tm hp nx)
          (fun kn tm => skipK nt dst (fun tm => exec P tr f Q nt R n kn (.inRegion A rest :: k) tm hp nx) (Stop (Run P f Q todo ⟨tm, hp, nx, nt⟩)) tm)
          (Stop (Run P f Q todo ⟨tm, hp, nx, nt⟩))
      | none => Stop (Run P f Q todo ⟨tm, hp, nx, nt⟩)
    | _ => Stop (Run P f Q todo ⟨tm, hp, nx, nt⟩)

section
variable {P : Program} {tr : TyT} {f : Nat} {Q : Post} {nt : Nat} {R : Bool → TM → HP → Nat → Prop}

theorem gdK_ok {A : Array Oper} {g : Option (Nat × Bool)} {kn : List Nat} {tm : TM} {hp : HP} {nx : Nat} {run skip : List Nat → TM → Prop} {F : Prop} {G : TM → Prop} (h : gdK A nt g kn tm run skip F)
    (hrun : ∀ kn tm, Want A ⟨tm, hp, nx, nt⟩ g → run kn tm → G tm)
    (hskip : ∀ kn tm j d want v, g = some (j, want) → (A[j]?).bind (·.dst) = some d → Nat.blt d nt = true → get d tm = .lit v → asks v want = false → skip kn tm → G tm) (hF : F → G tm)
    (hsplit : ∀ d b j want, g = some (j, want) → (A[j]?).bind (·.dst) = some d → Nat.blt d nt = true → get d tm = .lit (.bool b) → (b = true → G ((d, .lit (.bool true)) :: tm)) → (b = false → G ((d, .lit (.bool false)) :: tm)) → G tm) : G tm := by
  have get_self : ∀ d v (tm : TM), get d ((d, v) :: tm) = v := fun d v tm => by rw [get_cons, if_pos rfl]
  unfold gdK at h
  split at h
  · exact hrun kn tm trivial h
  · rename_i j want
    split at h
    · exact hF h
    · rename_i d hd
      rw [nth_eq, Array.getElem?_toList] at hd
      cases hb : Nat.blt d nt with
      | false => rw [hb] at h; exact hF h
      | true =>
        rw [hb] at h; dsimp only [cond_true] at h
        cases hm : memN j kn with
        | true =>
          rw [hm] at h; dsimp only [cond_true] at h
          split at h
          · rename_i hv
            cases want with
            | true => exact hrun kn tm ⟨d, hd, hb, hv⟩ h
            | false => exact hskip kn tm j d false _ rfl hd hb hv rfl h
          · rename_i hv
            cases want with
            | true => exact hskip kn tm j d true _ rfl hd hb hv rfl h
            | false => exact hrun kn tm ⟨d, hd, hb, hv⟩ h
          · exact hF h
        | false =>
          rw [hm] at h; dsimp only [cond_false] at h
          split at h
          · rename_i b hv
            obtain ⟨h1, h2⟩ := h
            refine hsplit d b j want rfl hd hb hv (fun e => ?_) (fun e => ?_)
            · have h1 := h1 e
              cases want with
              | true => exact hrun _ _ ⟨d, hd, hb, get_self _ _ _⟩ h1
              | false => exact hskip _ _ j d false _ rfl hd hb (get_self _ _ _) rfl h1
            · have h2 := h2 e
              cases want with
              | true => exact hskip _ _ j d true _ rfl hd hb (get_self _ _ _) rfl h2
              | false => exact hrun _ _ ⟨d, hd, hb, get_self _ _ _⟩ h2
          · rename_i v hne hv
            refine hskip kn tm j d want v rfl hd hb hv ?_ h
            cases v <;> first | rfl | exact absurd rfl (hne _)
          · exact hF h

theorem anyOp1_ok (hT : tr.OK P) {k : List Item} {A : Array Oper} {i : Nat} {rest : List Nat} {dst : Option Nat} {op : Op} {t : Nat} {pos : String} {af : Array Edge} {g : Option (Nat × Bool)} {K : TM → HP → Nat → Prop} {F : Prop} {tm : TM} {hp : HP} {nx : Nat}
    (h : anyOp1 P tr nt dst op K F tm hp nx) (ho : A[i]? = some ⟨dst, op, t, pos, af, g⟩) (hw : Want A ⟨tm, hp, nx, nt⟩ g) (hK : ∀ tm hp nx, K tm hp nx → Run P f Q (.inRegion A rest :: k) ⟨tm, hp, nx, nt⟩) :
    Run P f Q (.inRegion A (i :: rest) :: k) ⟨tm, hp, nx, nt⟩ ∨ F := by
  unfold anyOp1 at h
  split at h
  · rename_i d
    cases hb : Nat.blt d nt with
    | false => rw [hb] at h; exact .inr h
    | true =>
      rw [hb] at h; dsimp only [cond_true] at h
      rcases rdOp_ok (o := ⟨some d, op, t, pos, af, g⟩) hT h with ⟨V, h1, h2⟩ | h3
      · exact .inl (run_opN ho hw hb h1 fun v hv => hK _ _ _ (h2 v hv))
      clear h
      rcases okOp_ok (o := ⟨some d, op, t, pos, af, g⟩) hT h3 with ⟨v, hp', h1, h2⟩ | h
      · exact .inl (run_op ho hw hb h1 (hK _ _ _ h2))
      clear h3
      unfold callOp at h
      dsimp only at h
      split at h
      · rename_i c
        obtain ⟨callee, args, ts⟩ := c
        dsimp only at h
        split at h
        · rename_i gg
          rw [onL_eq] at h
          cases hs : (args.toList.map (St.ev ⟨tm, hp, nx, nt⟩)).all AV.std with
          | false =>
            rw [hs] at h; dsimp only [cond_false] at h
            rcases h with h | h
            · obtain ⟨as', h1, h⟩ := seenL_ok h
              cases hs' : as'.all AV.std with
              | false => rw [hs'] at h; exact .inr h
              | true =>
                rw [hs'] at h; dsimp only [cond_true] at h
                obtain ⟨Qg, ⟨⟨fn, c, e1, e2, e3⟩, hgood⟩, h⟩ := h
                refine .inl (run_callV ho hw hb e1 e2 e3 rfl h1 hs' hgood fun r hr => ?_)
                obtain ⟨g1, g2, h2⟩ := h r hr
                rw [backK_eq] at h2
                exact ⟨g1, g2, hK _ _ _ h2⟩
            · exact .inr h
          | true =>
            rw [hs] at h; dsimp only [cond_true] at h
            obtain ⟨Qg, ⟨⟨fn, c, e1, e2, e3⟩, hgood⟩, h⟩ := h
            refine .inl (run_call ho hw hb e1 e2 e3 rfl hs hgood fun r hr => ?_)
            obtain ⟨h1, h2⟩ := h r hr
            rw [backK_eq] at h2
            exact ⟨h1, hK _ _ _ h2⟩
        · rename_i tt
          split at h
          · rename_i gg cs hfn
            rw [onL_eq] at h
            obtain ⟨fn, c, e1, e2, e3, h⟩ := h
            simp only [Bool.and_eq_true, Bool.not_eq_true'] at e3
            exact .inl (run_inl (st := ⟨tm, hp, nx, nt⟩) ho hw hb hfn e1 e2 e3.2 rfl e3.1 h fun r hp nx h => hK _ _ _ h)
          · exact .inr h
        · exact .inr h
      · exact .inr h
  · rcases doOp_ok (o := ⟨none, op, t, pos, af, g⟩) hT h with ⟨hp', h1, h2⟩ | h
    · exact .inl (run_do ho hw h1 (hK _ _ _ h2))
    · exact .inr h

theorem anyOp_ok (hT : tr.OK P) {k : List Item} {A : Array Oper} {i : Nat} {rest : List Nat} {dst : Option Nat} {op : Op} {t : Nat} {pos : String} {af : Array Edge} {g : Option (Nat × Bool)} {K : TM → HP → Nat → Prop} {F : Prop} {tm : TM} {hp : HP} {nx : Nat}
    (h : anyOp P tr nt dst op K F tm hp nx) (ho : A[i]? = some ⟨dst, op, t, pos, af, g⟩) (hw : Want A ⟨tm, hp, nx, nt⟩ g) (hK : ∀ tm hp nx, K tm hp nx → Run P f Q (.inRegion A rest :: k) ⟨tm, hp, nx, nt⟩)
    (hF : F → Run P f Q (.inRegion A (i :: rest) :: k) ⟨tm, hp, nx, nt⟩) : Run P f Q (.inRegion A (i :: rest) :: k) ⟨tm, hp, nx, nt⟩ := by
  unfold anyOp at h
  split at h
  · rename_i h' e
    rw [onH_eq] at h
    obtain ⟨id, e⟩ := unfOp_ok e
    rcases anyOp1_ok hT h ho hw hK with h | h
    · exact run_unf e h
    · exact hF h
  · rcases anyOp1_ok hT h ho hw hK with h | h
    · exact h
    · exact hF h

theorem anyOp1_okD (hT : tr.OK P) {k : List Item} {A : Array Oper} {i n : Nat} {L : Array Bool} {dst : Option Nat} {op : Op} {t : Nat} {pos : String} {af : Array Edge} {g : Option (Nat × Bool)} {K : TM → HP → Nat → Prop} {F : Prop} {tm : TM} {hp : HP} {nx : Nat}
    (h : anyOp1 P tr nt dst op K F tm hp nx) (ho : A[i]? = some ⟨dst, op, t, pos, af, g⟩) (hw : Want A ⟨tm, hp, nx, nt⟩ g) (hK : ∀ tm hp nx, K tm hp nx → Drawn P f Q k A n (L.setIfInBounds i true) ⟨tm, hp, nx, nt⟩) :
    StepD P f Q k A n L i ⟨tm, hp, nx, nt⟩ ∨ F := by
  unfold anyOp1 at h
  split at h
  · rename_i d
    cases hb : Nat.blt d nt with
    | false => rw [hb] at h; exact .inr h
    | true =>
      rw [hb] at h; dsimp only [cond_true] at h
      rcases rdOp_ok (o := ⟨some d, op, t, pos, af, g⟩) hT h with ⟨V, h1, h2⟩ | h3
      · exact .inl (stepD_read ho hw hb h1 fun v hv => hK _ _ _ (h2 v hv))
      clear h
      rcases okOp_ok (o := ⟨some d, op, t, pos, af, g⟩) hT h3 with ⟨v, hp', h1, h2⟩ | h
      · exact .inl (stepD_op ho hw hb h1 (hK _ _ _ h2))
      clear h3
      unfold callOp at h
      dsimp only at h
      split at h
      · rename_i c
        obtain ⟨callee, args, ts⟩ := c
        dsimp only at h
        split at h
        · rename_i gg
          rw [onL_eq] at h
          cases hs : (args.toList.map (St.ev ⟨tm, hp, nx, nt⟩)).all AV.std with
          | false =>
            rw [hs] at h; dsimp only [cond_false] at h
            rcases h with h | h
            · obtain ⟨as', h1, h⟩ := seenL_ok h
              cases hs' : as'.all AV.std with
              | false => rw [hs'] at h; exact .inr h
              | true =>
                rw [hs'] at h; dsimp only [cond_true] at h
                obtain ⟨Qg, ⟨⟨fn, c, e1, e2, e3⟩, hgood⟩, h⟩ := h
                refine .inl (stepD_callV ho hw hb e1 e2 e3 rfl h1 hs' hgood fun r hr => ?_)
                obtain ⟨g1, g2, h2⟩ := h r hr
                rw [backK_eq] at h2
                exact ⟨g1, g2, hK _ _ _ h2⟩
            · exact .inr h
          | true =>
            rw [hs] at h; dsimp only [cond_true] at h
            obtain ⟨Qg, ⟨⟨fn, c, e1, e2, e3⟩, hgood⟩, h⟩ := h
            refine .inl (stepD_call ho hw hb e1 e2 e3 rfl hs hgood fun r hr => ?_)
            obtain ⟨h1, h2⟩ := h r hr
            rw [backK_eq] at h2
            exact ⟨h1, hK _ _ _ h2⟩
        · rename_i tt
          split at h
          · rename_i gg cs hfn
            rw [onL_eq] at h
            obtain ⟨fn, c, e1, e2, e3, h⟩ := h
            simp only [Bool.and_eq_true, Bool.not_eq_true'] at e3
            exact .inl (stepD_inl (st := ⟨tm, hp, nx, nt⟩) ho hw hb hfn rfl e1 e2 e3.2 rfl e3.1 h fun r hp nx h => hK _ _ _ h)
          · exact .inr h
        · exact .inr h
      · exact .inr h
  · by_cases hk : kp op = false
    · rcases doOp_ok (o := ⟨none, op, t, pos, af, g⟩) hT h with ⟨hp', h1, h2⟩ | h4
      · exact .inl (stepD_do ho hw hk h1 (hK _ _ _ h2))
      · exact .inr h4
    · right
      unfold doOp at h
      split at h
      · exact absurd rfl hk
      · exact h

theorem anyOp_okD (hT : tr.OK P) {k : List Item} {A : Array Oper} {i n : Nat} {L : Array Bool} {dst : Option Nat} {op : Op} {t : Nat} {pos : String} {af : Array Edge} {g : Option (Nat × Bool)} {K : TM → HP → Nat → Prop} {tm : TM} {hp : HP} {nx : Nat}
    (h : anyOp P tr nt dst op K False tm hp nx) (ho : A[i]? = some ⟨dst, op, t, pos, af, g⟩) (hw : Want A ⟨tm, hp, nx, nt⟩ g) (hK : ∀ tm hp nx, K tm hp nx → Drawn P f Q k A n (L.setIfInBounds i true) ⟨tm, hp, nx, nt⟩) :
    StepD P f Q k A n L i ⟨tm, hp, nx, nt⟩ := by
  unfold anyOp at h
  split at h
  · rename_i h' e
    rw [onH_eq] at h
    obtain ⟨id, e⟩ := unfOp_ok e
    rcases anyOp1_okD hT h ho hw hK with h | h
    · exact stepD_unf e h
    · exact h.elim
  · rcases anyOp1_okD hT h ho hw hK with h | h
    · exact h
    · exact h.elim

theorem skipK_ok {k : List Item} {A : Array Oper} {i : Nat} {rest : List Nat} {o : Oper} {K : TM → Prop} {F : Prop} {tm : TM} {hp : HP} {nx : Nat} {j d : Nat} {want : Bool} {v : Value} (h : skipK nt o.dst K F tm) (ho : A[i]? = some o)
    (hg : o.guard = some (j, want)) (hj : (A[j]?).bind (·.dst) = some d) (hd : Nat.blt d nt = true) (hv : get d tm = .lit v) (hb : asks v want = false) (hK : ∀ tm, K tm → Run P f Q (.inRegion A rest :: k) ⟨tm, hp, nx, nt⟩)
    (hF : F → Run P f Q (.inRegion A (i :: rest) :: k) ⟨tm, hp, nx, nt⟩) : Run P f Q (.inRegion A (i :: rest) :: k) ⟨tm, hp, nx, nt⟩ := by
  unfold skipK at h
  split at h
  · rename_i d2 hd2
    cases hbl : Nat.blt d2 nt with
    | false => rw [hbl] at h; exact hF h
    | true =>
      rw [hbl] at h; dsimp only [cond_true] at h
      refine run_skipped (st := ⟨tm, hp, nx, nt⟩) ho hg hj hd hv hb (fun d3 e => by rw [hd2] at e; cases e; exact hbl) ?_
      rw [hd2]; exact hK _ h
  · rename_i hd2
    refine run_skipped (st := ⟨tm, hp, nx, nt⟩) ho hg hj hd hv hb (fun d3 e => by rw [hd2] at e; cases e) ?_
    rw [hd2]; exact hK _ h

def skipSt (st : St) (dst : Option Nat) : St := match dst with | some d => st.set d (.lit undef) | none => st

theorem dop_ok (hT : tr.OK P) {k : List Item} {A : Array Oper} {i n : Nat} {L : Array Bool} {E : List Nat → TM → HP → Nat → Prop} {kn : List Nat} {tm : TM} {hp : HP} {nx : Nat} (hE : ∀ kn tm hp nx, E kn tm hp nx → Drawn P f Q k A n (L.setIfInBounds i true) ⟨tm, hp, nx, nt⟩)
    (h : dop P tr nt A i E kn tm hp nx) : StepD P f Q k A n L i ⟨tm, hp, nx, nt⟩ := by
  unfold dop at h
  split at h
  · rename_i dst op t pos af g ho
    rw [nth_eq, Array.getElem?_toList] at ho
    refine gdK_ok (hp := hp) (nx := nx) (G := fun tm => StepD P f Q k A n L i ⟨tm, hp, nx, nt⟩) h ?_ ?_ False.elim (fun d b j want hg hj hd hv h1 h2 => stepD_guard hd hv h1 h2)
    · clear h
      intro kn tm hw h
      exact anyOp_okD hT h ho hw (fun _ _ _ h => hE _ _ _ _ h)
    · clear h
      intro kn tm j d want v hg hj hd hv hb h
      subst hg
      unfold skipK at h
      have hdst : ∀ d, (⟨dst, op, t, pos, af, some (j, want)⟩ : Oper).dst = some d → Nat.blt d nt = true := by
        intro d2 e
        dsimp only at e
        subst e
        dsimp only at h
        cases hbl : Nat.blt d2 nt with
        | true => rfl
        | false => rw [hbl] at h; exact h.elim
      have hrest : Drawn P f Q k A n (L.setIfInBounds i true) (skipSt ⟨tm, hp, nx, nt⟩ dst) := by
        cases dst with
        | none => exact hE _ _ _ _ h
        | some d2 =>
          have := hdst d2 rfl
          dsimp only at h
          rw [this] at h
          exact hE _ _ _ _ h
      exact stepD_skip (st := ⟨tm, hp, nx, nt⟩) ho rfl hj hd hv hb hdst hrest
  · exact h.elim

theorem dex_ok (hT : tr.OK P) {k : List Item} {A : Array Oper} {E : TM → HP → Nat → Prop} (hE : ∀ tm hp nx, E tm hp nx → Run P f Q k ⟨tm, hp, nx, nt⟩) : ∀ (ord : Ord) (n : Nat) (L : Array Bool) (kn : List Nat) (tm : TM) (hp : HP) (nx : Nat), ord.depth ≤ n → dex P tr nt A E ord kn tm hp nx →
    (schedOK A true ord L = true → Drawn P f Q k A n L ⟨tm, hp, nx, nt⟩) ∧ (∀ m, n = m + 1 → schedOK A false ord L = true → ∀ i ∈ ord.ixs, StepD P f Q k A m L i ⟨tm, hp, nx, nt⟩)
  | .nil, n, L, kn, tm, hp, nx, _, h => ⟨fun hs => drawn_done (hE _ _ _ h) (by simpa [schedOK] using hs), fun _ _ _ i hi => by simp [Ord.ixs] at hi⟩
  | .no, n, L, kn, tm, hp, nx, _, h => ⟨fun hs => by simp [schedOK] at hs, fun _ _ _ i hi => by simp [Ord.ixs] at hi⟩
  | .alt i r e, n, L, kn, tm, hp, nx, hn, h => by
    simp only [Ord.depth] at hn
    obtain ⟨n, rfl⟩ : ∃ m, n = m + 1 := ⟨n - 1, by omega⟩
    obtain ⟨h1, h2⟩ := h
    have key : schedOK A true r (L.setIfInBounds i true) = true → schedOK A false e L = true → ∀ j ∈ i :: e.ixs, StepD P f Q k A n L j ⟨tm, hp, nx, nt⟩ := fun hs1 hs2 j hj => by
      rcases List.mem_cons.1 hj with rfl | hj
      · exact dop_ok hT (fun kn tm hp nx h => (dex_ok hT hE r n _ kn tm hp nx (by omega) h).1 hs1) h1
      · exact (dex_ok hT hE e (n + 1) L kn tm hp nx (by omega) h2).2 n rfl hs2 j hj
    refine ⟨fun hs => ?_, fun m hm hs => ?_⟩
    · simp only [schedOK, Bool.and_eq_true, cond_true] at hs
      exact drawn_steps (l := i :: e.ixs) (by simpa using hs.1.1) (by simp) (key hs.1.2 hs.2)
    · simp only [schedOK, Bool.and_eq_true, cond_false] at hs
      obtain rfl : n = m := by omega
      exact key hs.1.2 hs.2
  | .one i true r, n, L, kn, tm, hp, nx, hn, h => by
    simp only [Ord.depth] at hn
    obtain ⟨n, rfl⟩ : ∃ m, n = m + 1 := ⟨n - 1, by omega⟩
    refine ⟨fun hs => ?_, fun _ _ _ i hi => by simp [Ord.ixs] at hi⟩
    simp only [schedOK, Bool.and_eq_true, cond_true] at hs
    refine drawn_steps (l := [i]) (by simpa using hs.1) (by simp) fun j hj => ?_
    rw [List.mem_singleton] at hj
    subst hj
    exact dop_ok hT (fun kn tm hp nx h => (dex_ok hT hE r n _ kn tm hp nx (by omega) h).1 hs.2) h
  | .one i false r, n, L, kn, tm, hp, nx, hn, h => by
    simp only [Ord.depth] at hn
    obtain ⟨n, rfl⟩ : ∃ m, n = m + 1 := ⟨n - 1, by omega⟩
    refine ⟨fun hs => ?_, fun _ _ _ i hi => by simp [Ord.ixs] at hi⟩
    simp only [schedOK, Bool.and_eq_true, cond_false] at hs
    obtain ⟨hs1, hs2⟩ := hs
    have ih := fun kn tm hp nx h => (dex_ok hT hE r n (L.setIfInBounds i true) kn tm hp nx (by omega) h).1 hs2
    unfold dex at h
    split at h
    · rename_i dst op t pos af g ho
      rw [nth_eq, Array.getElem?_toList] at ho
      refine gdK_ok (hp := hp) (nx := nx) (G := fun tm => Drawn P f Q k A (n + 1) L ⟨tm, hp, nx, nt⟩) h ?_ ?_ False.elim (fun d b j want hg hj hd hv h1 h2 => drawn_guard (o := ⟨dst, op, t, pos, af, g⟩) ho hg hj hd hv h1 h2)
      · clear h
        intro kn tm hw h
        split at h
        · rename_i d
          cases hb : Nat.blt d nt with
          | false => rw [hb] at h; exact h.elim
          | true =>
            rw [hb] at h; dsimp only [cond_true] at h
            rcases rdOp_ok (o := ⟨some d, op, t, pos, af, g⟩) hT h with ⟨V, h1, h2⟩ | h3
            · exact drawn_readN ho hs1 hw hb h1 fun v hv => ih _ _ _ _ (h2 v hv)
            · exact h3.elim
        · exact h.elim
      · clear h
        intro kn tm j d want v hg hj hd hv hb h
        subst hg
        unfold skipK at h
        have hdst : ∀ d, (⟨dst, op, t, pos, af, some (j, want)⟩ : Oper).dst = some d → Nat.blt d nt = true := by
          intro d2 e
          dsimp only at e
          subst e
          dsimp only at h
          cases hbl : Nat.blt d2 nt with
          | true => rfl
          | false => rw [hbl] at h; exact h.elim
        have hrest : Drawn P f Q k A n (L.setIfInBounds i true) (skipSt ⟨tm, hp, nx, nt⟩ dst) := by
          cases dst with
          | none => exact ih _ _ _ _ h
          | some d2 =>
            have := hdst d2 rfl
            dsimp only at h
            rw [this] at h
            exact ih _ _ _ _ h
        exact drawn_skip (st := ⟨tm, hp, nx, nt⟩) ho hs1 rfl hj hd hv hb hdst hrest
    · exact h.elim

theorem exec_ok (hT : tr.OK P) (hR : ∀ (k : List Item) tm hp nx, (R true tm hp nx → Run P f Q (.code .ret :: k) ⟨tm, hp, nx, nt⟩) ∧ (R false tm hp nx → Run P f Q [] ⟨tm, hp, nx, nt⟩)) : ∀ (n : Nat) (kn : List Nat) (todo : List Item) (tm : TM) (hp : HP) (nx : Nat),
    exec P tr f Q nt R n kn todo tm hp nx → Run P f Q todo ⟨tm, hp, nx, nt⟩
  | 0, _, _, _, _, _, ⟨h⟩ => h
  | n + 1, kn, todo, tm, hp, nx, h => by
    have ih := exec_ok hT hR n
    unfold exec at h
    split at h
    · exact (hR [] _ _ _).2 h
    · exact (hR _ _ _ _).1 h
    · exact run_skip (ih _ _ _ _ _ h)
    · exact run_label (ih _ _ _ _ _ h)
    · exact run_seq (ih _ _ _ _ _ h)
    · exact run_block (ih _ _ _ _ _ h)
    · split at h
      · rename_i he; exact run_exit he (ih _ _ _ _ _ h)
      · exact h.1
    · exact run_reg (ih _ _ _ _ _ h)
    · obtain ⟨ord, hs, h⟩ := h
      simp only [Bool.and_eq_true] at hs
      exact run_draw hs.1.1.1 hs.2 ((dex_ok hT (fun _ _ _ h => ih _ _ _ _ _ h) _ _ _ _ _ _ _ (by simpa using hs.1.1.2) h).1 hs.1.2)
    · split at h
      · rename_i b hc
        obtain ⟨h1, h2⟩ := h
        exact run_cond_split hc (fun e => ih _ _ _ _ _ (h1 e)) (fun e => ih _ _ _ _ _ (h2 e))
      · exact h.1
    · exact run_scope (ih _ _ _ _ _ h)
    · exact run_inBlock (ih _ _ _ _ _ h)
    · exact run_inScope (ih _ _ _ _ _ h)
    · exact run_end (ih _ _ _ _ _ h)
    · split at h
      · rename_i dst op t pos af g ho
        rw [nth_eq, Array.getElem?_toList] at ho
        refine gdK_ok (hp := hp) (nx := nx) (G := fun tm => Run P f Q _ ⟨tm, hp, nx, nt⟩) h ?_ ?_ (fun h => h.1) ?_
        · clear h
          intro kn tm hw h
          exact anyOp_ok hT h ho hw (fun _ _ _ h => ih _ _ _ _ _ h) (fun h => h.1)
        · clear h
          intro kn tm j d want v hg hj hd hv hb h
          exact skipK_ok h ho hg hj hd hv hb (fun _ h => ih _ _ _ _ _ h) (fun h => h.1)
        · intro d b j want _ _ hd hv h1 h2
          exact run_guard_split hd hv h1 h2
      · exact h.1
    · exact h.1

def unfAll (K : HP → Prop) : Nat → HP → Prop
  | 0, hp => K hp
  | n + 1, hp => match unfAny hp hp with
    | some h => onH h fun h => unfAll K n h
    | none => K hp
theorem unfAll_ok {K : HP → Prop} {todo : List Item} {tm : TM} {nx : Nat} (hK : ∀ hp, K hp → Run P f Q todo ⟨tm, hp, nx, nt⟩) : ∀ (n : Nat) (hp : HP), unfAll K n hp → Run P f Q todo ⟨tm, hp, nx, nt⟩
  | 0, hp, h => hK hp h
  | n + 1, hp, h => by
    unfold unfAll at h
    split at h
    · rename_i h' e
      rw [onH_eq] at h
      obtain ⟨id, e⟩ := unfAny_ok e
      exact run_unf (st := ⟨tm, hp, nx, nt⟩) e (unfAll_ok hK n h' h)
    · exact hK hp h

def retOne (tr : TyT) (nt : Nat) (res : List ResultVar) (Q : AV → Prop) (tm : TM) (hp : HP) (nx : Nat) : Prop := unfAll (fun hp => resK tr ⟨tm, hp, nx, nt⟩ res hp (fun rs => Q (asRes rs)) False) 4 hp

theorem retOne_ok (hT : tr.OK P) {fn : Func} (hf : P.funcs[f]? = some fn) {Q : AV → Prop} (k : List Item) (tm : TM) (hp : HP) (nx : Nat) (h : retOne tr nt fn.results.toList Q tm hp nx) :
    Run P f (Post.one Q) (.code .ret :: k) ⟨tm, hp, nx, nt⟩ ∧ Run P f (Post.one Q) [] ⟨tm, hp, nx, nt⟩ := by
  constructor
  · refine unfAll_ok (fun hp h => ?_) 4 hp h
    rcases resK_ok hT h with ⟨rs, h1, h2⟩ | h
    · exact run_ret hf h1 h2
    · exact h.elim
  · refine unfAll_ok (fun hp h => ?_) 4 hp h
    rcases resK_ok hT h with ⟨rs, h1, h2⟩ | h
    · exact run_fall hf h1 h2
    · exact h.elim

def resIK (tr : TyT) (st : St) : List ResultVar → (List AV → Prop) → Prop
  | [], K => K []
  | .tmp d :: rvs, K => (get d st.tm).on fun v => resIK tr st rvs fun l => K (v :: l)
  | .cell d t :: rvs, K => match get d st.tm with
    | .hp id 0 => match row id st.hp with
      | some (.var (v :: _)) => match tr.find t with
        | some i => bif !i.isAgg && v.plain then resIK tr st rvs fun l => K (v :: l) else False
        | none => False
      | _ => False
    | _ => False
theorem resIK_ok (hT : tr.OK P) {st : St} : ∀ {rvs : List ResultVar} {K : List AV → Prop}, resIK tr st rvs K → ∃ rs, ResIL P st rvs rs ∧ K rs
  | [], K, h => ⟨[], .nil, h⟩
  | .tmp d :: rvs, K, h => by
    simp only [resIK, AV.on_eq] at h
    obtain ⟨rs, h1, h2⟩ := resIK_ok hT h
    exact ⟨_, .cons resI_tmp h1, h2⟩
  | .cell d t :: rvs, K, h => by
    simp only [resIK] at h
    split at h
    · rename_i id hv
      split at h
      · rename_i v r hrow
        split at h
        · rename_i i hf
          cases hb : (!i.isAgg && v.plain) with
          | false => rw [hb] at h; exact h.elim
          | true =>
            rw [hb] at h
            simp only [Bool.and_eq_true, Bool.not_eq_true'] at hb
            obtain ⟨rs, h1, h2⟩ := resIK_ok hT h
            exact ⟨_, .cons (resI_cell hv (TyT.find_ok hT hf) hb.1 hrow rfl hb.2) h1, h2⟩
        · exact h.elim
      · exact h.elim
    · exact h.elim

def retInl (tr : TyT) (nt : Nat) (res : List ResultVar) (K : AV → HP → Nat → Prop) (tm : TM) (hp : HP) (nx : Nat) : Prop := resIK tr ⟨tm, hp, nx, nt⟩ res fun rs => K (asRes rs) hp nx

theorem retInl_ok (hT : tr.OK P) {fn : Func} (hf : P.funcs[f]? = some fn) {lo : Nat} {K : AV → HP → Nat → Prop} (k : List Item) (tm : TM) (hp : HP) (nx : Nat) (h : retInl tr nt fn.results.toList K tm hp nx) :
    Run P f (Post.inl lo K) (.code .ret :: k) ⟨tm, hp, nx, nt⟩ ∧ Run P f (Post.inl lo K) [] ⟨tm, hp, nx, nt⟩ := by
  obtain ⟨rs, h1, h2⟩ := resIK_ok hT h
  exact run_retI hf h1 h2

def onT : TM → (TM → Prop) → Prop
  | [], k => k []
  | (d, a) :: l, k => a.on fun a => onT l fun l => k ((d, a) :: l)
theorem onT_eq (l : TM) : ∀ (k : TM → Prop), onT l k = k l := by
  induction l with
  | nil => intro k; rfl
  | cons a l ih => obtain ⟨d, a⟩ := a; intro k; simp only [onT, AV.on_eq, ih]

/-- From a state on, the run is reckoned. -/
theorem go {P : Program} [HT : HasT P] {f : Nat} {fn : Func} {Q : AV → Prop} (n : Nat) (hf : P.funcs[f]? = some fn) {todo : List Item} {tm : TM} {hp : HP} {nx nt : Nat}
    (h : onT tm fun tm => onH hp fun hp => exec P HT.tr f (Post.one Q) nt (fun _ => retOne HT.tr nt fn.results.toList Q) n [] todo tm hp nx) : Run P f (Post.one Q) todo ⟨tm, hp, nx, nt⟩ := by
  rw [onT_eq, onH_eq] at h
  exact exec_ok HT.ok (fun k tm hp nx => ⟨fun h => (retOne_ok HT.ok hf k tm hp nx h).1, fun h => (retOne_ok HT.ok hf k tm hp nx h).2⟩) n [] todo tm hp nx h

/-- The same within a frame whose heap is its caller's. -/
theorem goI {P : Program} [HT : HasT P] {f : Nat} {fn : Func} {lo : Nat} {K : AV → HP → Nat → Prop} (n : Nat) (hf : P.funcs[f]? = some fn) {todo : List Item} {tm : TM} {hp : HP} {nx nt : Nat}
    (h : onT tm fun tm => onH hp fun hp => exec P HT.tr f (Post.inl lo K) nt (fun _ => retInl HT.tr nt fn.results.toList K) n [] todo tm hp nx) : Run P f (Post.inl lo K) todo ⟨tm, hp, nx, nt⟩ := by
  rw [onT_eq, onH_eq] at h
  exact exec_ok HT.ok (fun k tm hp nx => ⟨fun h => (retInl_ok HT.ok hf k tm hp nx h).1, fun h => (retInl_ok HT.ok hf k tm hp nx h).2⟩) n [] todo tm hp nx h

theorem slots_zip : ∀ (as : List AV) (s : Nat), (List.range' s as.length).zip as = slots s as
  | [], _ => rfl
  | a :: as, s => by simp only [List.length_cons, List.range'_succ, List.zip_cons_cons, slots, slots_zip as (s + 1)]

theorem spec_of {P : Program} [HT : HasT P] {f : Nat} {fn : Func} {c : Code} {args : List AV} {Q : AV → Prop} (n : Nat) (hf : P.funcs[f]? = some fn) (hb : fn.body = some c) (hc : (Nat.ble args.length fn.ntmps && !(fn.name == "runtime.NumGoroutine")) = true)
    (h : onT (slots 0 args) fun tm => exec P HT.tr f (Post.one Q) fn.ntmps (fun _ => retOne HT.tr fn.ntmps fn.results.toList Q) n [] [.code c] tm [] 0) : FnSpec P f args Q := by
  simp only [Bool.and_eq_true, Bool.not_eq_true'] at hc
  refine ⟨⟨fn, c, hf, hb, hc.2⟩, good_of_run hf hb hc.1 ?_⟩
  rw [onT_eq] at h
  have := exec_ok HT.ok (fun k tm hp nx => ⟨fun h => (retOne_ok HT.ok hf k tm hp nx h).1, fun h => (retOne_ok HT.ok hf k tm hp nx h).2⟩) n [] _ _ _ _ h
  rw [List.range_eq_range', slots_zip]
  exact this
end
end Go.Ax

/- Entries under other numbers. -/
namespace Go.Ax
open Go.RowKit
set_option linter.unusedVariables false
set_option linter.unusedSimpArgs false

def rn : List (Nat × Nat) → Nat → Nat
  | [], id => id
  | (a, b) :: l, id => bif Nat.beq a id then b else rn l id
def rnOK (lo : Nat) : List (Nat × Nat) → Bool
  | [] => true
  | (a, _) :: l => Nat.ble lo a && rnOK lo l
theorem rn_low {lo id : Nat} : ∀ {l : List (Nat × Nat)}, rnOK lo l = true → id < lo → rn l id = id
  | [], _, _ => rfl
  | (a, b) :: l, h, hi => by
    simp only [rnOK, Bool.and_eq_true] at h
    have h1 := Nat.le_of_ble_eq_true h.1
    have : Nat.beq a id = false := by
      cases hb : Nat.beq a id with
      | false => rfl
      | true => have := Nat.eq_of_beq_eq_true hb; omega
    simp only [rn, this, cond_false]
    exact rn_low h.2 hi

mutual
def AV.ren (g : List (Nat × Nat)) : AV → AV
  | .hw id => .hw (rn g id)
  | .hs id a b => .hs (rn g id) a b
  | .hp id o => .hp (rn g id) o
  | .hq id i o => .hq (rn g id) i o
  | .agg cs => .agg (AV.renL g cs)
  | .tup cs => .tup (AV.renL g cs)
  | .fn f cs => .fn f (AV.renL g cs)
  | a => a
def AV.renL (g : List (Nat × Nat)) : List AV → List AV
  | [] => []
  | a :: as => AV.ren g a :: AV.renL g as
end

theorem AV.renL_len (g : List (Nat × Nat)) : ∀ (as : List AV), (AV.renL g as).length = as.length
  | [] => rfl
  | a :: as => by simp only [AV.renL, List.length_cons, AV.renL_len g as]

def TM.ren (g : List (Nat × Nat)) : List (Nat × AV) → List (Nat × AV)
  | [] => []
  | (d, v) :: l => (d, AV.ren g v) :: TM.ren g l
theorem TM.ren_get (g : List (Nat × Nat)) (d : Nat) : ∀ (l : List (Nat × AV)), get d (TM.ren g l) = (get d l).ren g
  | [] => rfl
  | (j, v) :: l => by
    simp only [TM.ren]
    rw [get_cons, get_cons]
    by_cases e : j = d
    · rw [if_pos e, if_pos e]
    · rw [if_neg e, if_neg e]; exact TM.ren_get g d l
def Row.ren (g : List (Nat × Nat)) : Row → Row
  | .var cs => .var (AV.renL g cs)
  | .row sz xs => .row sz xs
  | .foc sz xs cs n off j => .foc sz xs cs n off (rn g j)
  | .lp L => .lp { L with tm := TM.ren g L.tm }

def Interp.ren (I : Interp) (g : List (Nat × Nat)) (n : Nat) : Interp := { S := I.S, at_ := fun id => I.at_ (rn g id), ln := fun id => I.ln (rn g id), sz := fun id => I.sz (rn g id), nx := n }

section
variable {I : Interp} {w : World} {g : List (Nat × Nat)} {n : Nat}

mutual
theorem Rep.ren : ∀ {a : AV} {x : Value}, Rep I w (.v (a.ren g) x) → a.sc n = true → Rep (I.ren g n) w (.v a x)
  | .any, x, h, _ => .std (.any _)
  | .lit v, x, h, _ => by cases h with | std h => exact .std h
  | .sl f s xs, x, h, _ => by cases h with | std h => exact .std h
  | .pt cs, x, h, _ => by cases h with | std h => exact .std h
  | .osl s xs, x, h, _ => by cases h with | std h => cases h
  | .opt cs, x, h, _ => by cases h with | std h => cases h
  | .mp kvs, x, h, _ => by cases h with | std h => exact .std h
  | .hw id, x, h, hq0 => by
    have hs' : id < n := by simpa [AV.sc] using hq0
    simp only [AV.ren] at h
    cases h with
    | std h => cases h
    | hw0 h ha h0 hc => exact .hw0 hs' ha h0 hc
    | hw h ha hn hb hsz => exact Rep.hw (I := I.ren g n) (id := id) hs' ha hn hb hsz
  | .hs id a b, x, h, hq0 => by
    have hs' : id < n := by simpa [AV.sc] using hq0
    simp only [AV.ren] at h
    cases h with
    | std h => cases h
    | hs0 h hc => exact .hs0 hs' hc
    | hs h ha hn hb hsz => exact Rep.hs (I := I.ren g n) (id := id) hs' ha hn hb hsz
  | .hp id o, x, h, hq0 => by
    have hs' : id < n := by simpa [AV.sc] using hq0
    simp only [AV.ren] at h
    cases h with
    | std h => cases h
    | hp h ha => exact .hp (I := I.ren g n) hs' ha
  | .hq id i o, x, h, hq0 => by
    have hs' : id < n := by simpa [AV.sc] using hq0
    simp only [AV.ren] at h
    cases h with
    | std h => cases h
    | hq h ha => exact Rep.hq (I := I.ren g n) (id := id) hs' ha
  | .agg cs, x, h, hq0 => by
    simp only [AV.ren] at h
    obtain ⟨vs, rfl, h2⟩ := h.agg_inv
    exact .agg (Rep.renL h2 (by simpa [AV.sc] using hq0))
  | .tup cs, x, h, hq0 => by
    simp only [AV.ren] at h
    obtain ⟨vs, rfl, h2⟩ := h.tup_inv
    exact .tup (Rep.renL h2 (by simpa [AV.sc] using hq0))
  | .fn f cs, x, h, hq0 => by
    simp only [AV.ren] at h
    have : ∃ vs : List Value, x = .func (.func f) #[] vs.toArray ∧ Rep I w (.l (AV.renL g cs) vs) := by
      cases h with
      | std h => cases h with | fn h => exact ⟨_, rfl, h.l_rep⟩
      | fn h => exact ⟨_, rfl, h⟩
    obtain ⟨vs, rfl, h2⟩ := this
    exact .fn (Rep.renL h2 (by simpa [AV.sc] using hq0))
theorem Rep.renL : ∀ {as : List AV} {xs : List Value}, Rep I w (.l (AV.renL g as) xs) → AV.scL n as = true → Rep (I.ren g n) w (.l as xs)
  | [], xs, h, _ => by simp only [AV.renL] at h; cases h; exact .nil
  | a :: as, xs, h, hq0 => by
    simp only [AV.renL] at h
    simp only [AV.scL, Bool.and_eq_true] at hq0
    cases h with | cons h1 h2 => exact .cons (Rep.ren h1 hq0.1) (Rep.renL h2 hq0.2)
end

mutual
theorem Std.unren {S : Nat → Prop} : ∀ {a : AV} {x : Value}, Std S w (.v (a.ren g) x) → Std S w (.v a x)
  | .any, x, h => h
  | .lit v, x, h => h
  | .sl f s xs, x, h => h
  | .pt cs, x, h => h
  | .osl s xs, x, h => h
  | .opt cs, x, h => h
  | .mp kvs, x, h => h
  | .hw id, x, h => by simp only [AV.ren] at h; cases h
  | .hs id a b, x, h => by simp only [AV.ren] at h; cases h
  | .hp id o, x, h => by simp only [AV.ren] at h; cases h
  | .hq id i o, x, h => by simp only [AV.ren] at h; cases h
  | .agg cs, x, h => by simp only [AV.ren] at h; cases h with | agg h => exact .agg (Std.unrenL h)
  | .tup cs, x, h => by simp only [AV.ren] at h; cases h with | tup h => exact .tup (Std.unrenL h)
  | .fn f cs, x, h => by simp only [AV.ren] at h; cases h with | fn h => exact .fn (Std.unrenL h)
theorem Std.unrenL {S : Nat → Prop} : ∀ {as : List AV} {xs : List Value}, Std S w (.l (AV.renL g as) xs) → Std S w (.l as xs)
  | [], xs, h => h
  | a :: as, xs, h => by simp only [AV.renL] at h; cases h with | cons h1 h2 => exact .cons (Std.unren h1) (Std.unrenL h2)
end
mutual
theorem Own.unren {S : Nat → Prop} : ∀ {a : AV} {x : Value} {F : List Nat}, Own S w (.v (a.ren g) x) F → Own S w (.v a x) F
  | .any, x, F, h => h
  | .lit v, x, F, h => h
  | .sl f s xs, x, F, h => h
  | .pt cs, x, F, h => h
  | .osl s xs, x, F, h => h
  | .opt cs, x, F, h => h
  | .mp kvs, x, F, h => h
  | .hw id, x, F, h => by simp only [AV.ren] at h; cases h with | std h => cases h
  | .hs id a b, x, F, h => by simp only [AV.ren] at h; cases h with | std h => cases h
  | .hp id o, x, F, h => by simp only [AV.ren] at h; cases h with | std h => cases h
  | .hq id i o, x, F, h => by simp only [AV.ren] at h; cases h with | std h => cases h
  | .agg cs, x, F, h => by
    simp only [AV.ren] at h
    cases h with
    | std h => exact .std (Std.unren (g := g) (a := .agg cs) h)
    | agg h => exact .agg (Own.unrenL h)
  | .tup cs, x, F, h => by
    simp only [AV.ren] at h
    cases h with
    | std h => exact .std (Std.unren (g := g) (a := .tup cs) h)
    | tup h => exact .tup (Own.unrenL h)
  | .fn f cs, x, F, h => by
    simp only [AV.ren] at h
    cases h with
    | std h => exact .std (Std.unren (g := g) (a := .fn f cs) h)
theorem Own.unrenL {S : Nat → Prop} : ∀ {as : List AV} {xs : List Value} {F : List Nat}, Own S w (.l (AV.renL g as) xs) F → Own S w (.l as xs) F
  | [], xs, F, h => h
  | a :: as, xs, F, h => by simp only [AV.renL] at h; cases h with | cons h1 h2 => exact .cons (Own.unren h1) (Own.unrenL h2)
end

theorem Leaf.ren {a : AV} {x : Value} {F : List Nat} (h : Leaf I w (a.ren g) x F) (hq0 : a.sc n = true) : Leaf (I.ren g n) w a x F := by
  rcases h with ⟨h, hf⟩ | h
  · exact .inl ⟨h.ren hq0, hf⟩
  · exact .inr h.unren

theorem VarC.ren {b : Nat} : ∀ {as : List AV} {o : Nat} {F : List Nat}, VarC I w b o (AV.renL g as) F → AV.scL n as = true → VarC (I.ren g n) w b o as F
  | [], o, F, h, _ => by simp only [AV.renL] at h; cases h; exact .nil
  | a :: as, o, F, h, hq0 => by
    simp only [AV.renL] at h
    simp only [AV.scL, Bool.and_eq_true] at hq0
    cases h with | cons h1 h2 h3 => exact .cons h1 (h2.ren hq0.1) (h3.ren hq0.2)

theorem RowOK.ren {id : Nat} {r : Row} {F : List Nat} (h : RowOK I w (rn g id) (r.ren g) F) (hi : id < n) (hq0 : r.sc n = true) : RowOK (I.ren g n) w id r F := by
  cases r with
  | var cs =>
    simp only [Row.ren] at h
    cases h with | var _ ha hb hz hv => exact .var (I := I.ren g n) hi ha hb (by rw [AV.renL_len] at hz; exact hz) (hv.ren hq0)
  | row sz xs =>
    simp only [Row.ren] at h
    cases h with
    | row0 _ ha h0 hz => exact .row0 (I := I.ren g n) hi ha h0 hz
    | row _ ha hl hz hb hs2 hx hv => exact .row (I := I.ren g n) hi ha hl hz hb hs2 hx hv
  | foc sz xs cs k off j =>
    simp only [Row.ren] at h
    cases h with
    | foc _ ha hl hz hb hs2 hx hn ho hf hA o1 hc hr o2 => exact .foc (I := I.ren g n) hi ha hl hz hb hs2 hx hn ho hf hA o1 hc (Rep.ren (a := .hw j) hr hq0) o2
  | lp L =>
    simp only [Row.ren] at h
    cases h with
    | lp _ ha h1 h2 hu hr =>
      refine .lp (I := I.ren g n) hi ha h1 h2 hu fun d => ?_
      rcases get_mem d (l := L.tm) with e | ⟨p, hp, e⟩
      · rw [e]; exact .std (.any _)
      · have := hr d
        rw [TM.ren_get, e] at this
        rw [e]
        exact Rep.ren this (List.all_eq_true.1 hq0 p hp)

/-- These entries are among those, under other numbers. -/
def subR (g : List (Nat × Nat)) : HP → HP → Prop
  | _, [] => True
  | hp, (id, r) :: l => row (rn g id) hp = some (r.ren g) ∧ subR g (rem (rn g id) hp) l
def scHP (n : Nat) : HP → Bool
  | [] => true
  | (id, r) :: l => Nat.blt id n && r.sc n && scHP n l
def frL (g : List (Nat × Nat)) (tm : TM) : TM → Prop
  | [] => True
  | (d, v) :: l => get d tm = v.ren g ∧ frL g tm l
def scTM (n : Nat) : TM → Bool
  | [] => true
  | (_, v) :: l => v.sc n && scTM n l

theorem HeapOK.subR {l : HP} : ∀ {hp : HP} {T : List Nat}, HeapOK I w hp T → subR g hp l → scHP n l = true → ∃ F G, HeapOK (I.ren g n) w l F ∧ T.Perm (F ++ G) := by
  induction l with
  | nil => intro hp T h _ _; exact ⟨[], T, .nil, List.Perm.refl _⟩
  | cons p l ih =>
    obtain ⟨id, r⟩ := p
    intro hp T h hs hq0
    obtain ⟨h3, h4⟩ := hs
    simp only [scHP, Bool.and_eq_true] at hq0
    obtain ⟨F, T', g1, g2, g3⟩ := h.take h3
    obtain ⟨F2, G, k1, k2⟩ := ih g2 h4 hq0.2
    refine ⟨F ++ F2, G, .cons (g1.ren (by simpa using hq0.1.1) hq0.1.2) k1, g3.trans ?_⟩
    rw [List.append_assoc]; exact List.Perm.append_left F k2

theorem frL_get {tm : TM} : ∀ {l : TM}, frL g tm l → scTM n l = true → ∀ d, get d l = .any ∨ (get d tm = (get d l).ren g ∧ (get d l).sc n = true)
  | [], _, _, d => .inl rfl
  | (j, v) :: l, ⟨h1, h2⟩, hq0, d => by
    simp only [scTM, Bool.and_eq_true] at hq0
    rw [get_cons]
    by_cases e : j = d
    · subst e; rw [if_pos rfl]; exact .inr ⟨h1, hq0.1⟩
    · rw [if_neg e]; exact frL_get h2 hq0.2 d
end

/-- A state says all that another one says. -/
structure Fr (g : List (Nat × Nat)) (lo : Nat) (tm : TM) (hp : HP) (tm' : TM) (hp' : HP) (nx' : Nat) : Prop where
  sc : (scTM nx' tm' && scHP nx' hp' && rnOK lo g && Nat.ble lo nx') = true
  tm : frL g tm tm'
  hp : subR g hp hp'

theorem Run.fr {P : Program} {f : Nat} {Q : Post} {tm tm' : TM} {hp hp' : HP} {nx nx' nt : Nat} {g : List (Nat × Nat)} {todo : List Item} (h : Run P f Q todo ⟨tm', hp', nx', nt⟩) (hf : Fr g Q.lo tm hp tm' hp' nx') : Run P f Q todo ⟨tm, hp, nx, nt⟩ := by
  have hs := hf.sc
  simp only [Bool.and_eq_true] at hs
  obtain ⟨⟨⟨h1, h2⟩, h3⟩, h4⟩ := hs
  intro S0 B w0 I a w hlo hr
  obtain ⟨T, t1, t2, t3⟩ := hr.hp
  obtain ⟨F, G, g1, g2⟩ := t1.subR hf.hp h2
  have he := hr.ext
  have hl' := Nat.le_of_ble_eq_true h4
  refine h S0 B w0 (I.ren g nx') a w hlo ⟨fun d => ?_, hr.nt, rfl, ⟨F, g1, (List.nodup_append.1 (g2.nodup_iff.1 t2)).1, fun b hb => t3 b (g2.mem_iff.2 (List.mem_append_left _ hb))⟩, hr.ss,
    ⟨he.S, he.hold, by rw [hlo]; exact hl', fun id hi => ?_, fun id hi => ?_, fun id hi => ?_, he.last⟩, hr.sb, hr.bl, hr.bs⟩
  · rcases frL_get hf.tm h1 d with e | ⟨e1, e2⟩
    · show Rep _ w (.v (get d tm') _)
      rw [e]; exact .std (.any _)
    · have := hr.tm d
      rw [show get d (St.tm ⟨tm, hp, nx, nt⟩) = get d tm from rfl, e1] at this
      exact this.ren e2
  · show I.at_ (rn g id) = _
    rw [rn_low h3 (by omega)]; exact he.at_ id hi
  · show I.ln (rn g id) = _
    rw [rn_low h3 (by omega)]; exact he.ln id hi
  · show I.sz (rn g id) = _
    rw [rn_low h3 (by omega)]; exact he.sz id hi
end Go.Ax

/- Loops of a reckoned run. -/
namespace Go.Ax
open Go.RowKit
set_option linter.unusedVariables false
set_option linter.unusedSimpArgs false

theorem Br.d {p : Prop} [Decidable p] {t f : Prop} (h1 : p → t) (h2 : ¬p → f) : Br (decide p) t f := ⟨fun h => h1 (of_decide_eq_true h), fun h => h2 (of_decide_eq_false h)⟩
theorem Br.nd {p : Prop} [Decidable p] {t f : Prop} (h1 : ¬p → t) (h2 : p → f) : Br (!decide p) t f := ⟨fun h => h1 (by simpa using h), fun h => h2 (by simpa using h)⟩
theorem Len.nil {k : Nat → Prop} (h : k 0) : Len [] k := ⟨_, rfl, h⟩
theorem Len.cons {x : List AV} {xs : List (List AV)} {k : Nat → Prop} (h : Len xs fun n => k (n + 1)) : Len (x :: xs) k := by
  obtain ⟨n, e, h⟩ := h
  exact ⟨_, by rw [List.length_cons, e], h⟩
theorem getK {α : Type} {l : List α} {k : Nat} (h : k < l.length) : ∃ x, l[k]? = some x ∧ x ∈ l := ⟨l[k], List.getElem?_eq_getElem h, List.getElem_mem h⟩

section
variable {P : Program} {f : Nat} {Q : Post} {k : List Item} {tm tm' : TM} {hp hp' : HP} {nx nx' nt : Nat}

/-- A loop: what holds of its head. -/
theorem loop_in {α : Type} {c : Code} {g : List (Nat × Nat)} (T : α → TM) (H : α → HP) (n : Nat) (inv : α → Prop) (μ : α → Nat) (a0 : α) (h0 : inv a0) (hf : Fr g Q.lo tm hp (T a0) (H a0) n)
    (h : ∀ a, inv a → (∀ a' {g} tm hp nx, inv a' → μ a' < μ a → Fr g Q.lo tm hp (T a') (H a') n → Run P f Q (.inLoop c :: k) ⟨tm, hp, nx, nt⟩) → Run P f Q (.code c :: .inLoop c :: k) ⟨T a, H a, n, nt⟩) : Run P f Q (.code (.loop c) :: k) ⟨tm, hp, nx, nt⟩ := by
  refine run_loop (Run.fr (tm' := T a0) (hp' := H a0) (nx' := n) ?_ hf)
  exact run_enter (fun a => ⟨T a, H a, n, nt⟩) inv μ (fun a ha ih => h a ha fun a' _ tm hp nx hi hm hfr => Run.fr (ih a' hi hm) hfr) a0 h0
end
end Go.Ax

/- Values that say less, within rows. -/
namespace Go.Ax
open Go.RowKit
set_option linter.unusedVariables false
set_option linter.unusedSimpArgs false

/-- Row by row. -/
inductive LeLL : List (List AV) → List (List AV) → Prop
  | nil : LeLL [] []
  | cons {a b as bs} : LeL a b → LeLL as bs → LeLL (a :: as) (b :: bs)

theorem LeL.len {as bs : List AV} (h : LeL as bs) : as.length = bs.length := by
  induction h with
  | nil => rfl
  | cons _ _ ih => simp [ih]
theorem LeL.app {as bs cs ds : List AV} (h : LeL as bs) (h2 : LeL cs ds) : LeL (as ++ cs) (bs ++ ds) := by
  induction h with
  | nil => exact h2
  | cons h _ ih => exact .cons h ih
theorem LeLL.len {as bs : List (List AV)} (h : LeLL as bs) : as.length = bs.length := by
  induction h with
  | nil => rfl
  | cons _ _ ih => simp [ih]
theorem LeLL.flat {as bs : List (List AV)} (h : LeLL as bs) : LeL as.flatten bs.flatten := by
  induction h with
  | nil => exact .nil
  | cons h _ ih => exact h.app ih
theorem LeLL.mem {as bs : List (List AV)} (h : LeLL as bs) {sz : Nat} (hs : ∀ x ∈ as, x.length = sz) : ∀ x ∈ bs, x.length = sz := by
  induction h with
  | nil => simp
  | cons h _ ih =>
    intro x hx
    rcases List.mem_cons.1 hx with rfl | hx
    · rw [← h.len]; exact hs _ (List.mem_cons_self ..)
    · exact ih (fun y hy => hs y (List.mem_cons_of_mem _ hy)) x hx
theorem LeLL.refl : ∀ (xs : List (List AV)), LeLL xs xs
  | [] => .nil
  | x :: xs => .cons (.refl x) (.refl xs)
theorem LeLL.rep {a b : List AV} (h : LeL a b) : ∀ (n : Nat), LeLL (List.replicate n a) (List.replicate n b)
  | 0 => .nil
  | n + 1 => .cons h (LeLL.rep h n)

theorem LeL.c {S : Nat → Prop} {w : World} {b : Nat} {as bs : List AV} (h : LeL as bs) : ∀ {o : Nat}, Std S w (.c b o as) → Std S w (.c b o bs) := by
  induction h with
  | nil => intro o h; cases h; exact .cnil
  | cons h _ ih => intro o k; cases k with | ccons k1 k2 k3 => exact .ccons k1 (h _ _ _ k2) (ih k3)

theorem Le.sl {f : Bool} {sz : Nat} {xs ys : List (List AV)} (h : LeLL xs ys) : Le (.sl f sz xs) (.sl f sz ys) := fun S w x k => by
  cases k with
  | sl0 h1 h2 => cases h; exact .sl0 h1 h2
  | sl h1 h2 h3 h4 h5 => rw [h.len] at h1 h2 ⊢; exact .sl h1 h2 (h.mem h3) h4 (h.flat.c h5)
theorem Le.pt {cs ds : List AV} (h : LeL cs ds) : Le (.pt cs) (.pt ds) := fun S w x k => by
  cases k with | pt k1 k2 => exact .pt k1 (h.c k2)

section
variable {P : Program} {f : Nat} {Q : Post} {todo : List Item} {tm : TM} {hp : HP} {nx nt : Nat}

/-- A row of one's own that is told to hold less. -/
theorem run_rowLe (id : Nat) {sz : Nat} {xs ys : List (List AV)} (hrow : row id hp = some (.row sz xs)) (hs : ∀ x ∈ xs, x.all AV.stays = true) (hle : LeLL xs ys) (h : Run P f Q todo ⟨tm, (id, .row sz ys) :: rem id hp, nx, nt⟩) : Run P f Q todo ⟨tm, hp, nx, nt⟩ := by
  intro S0 B w0 I a w hlo hr
  obtain ⟨T, t1, t2, t3⟩ := hr.hp
  obtain ⟨F, T', g1, g2, g3⟩ := t1.take hrow
  refine h S0 B w0 I a w hlo { hr with hp := ⟨F ++ T', .cons ?_ g2, g3.nodup_iff.1 t2, fun z hz => t3 z (g3.mem_iff.2 hz)⟩ }
  cases g1 with
  | row0 hi ha h0 hz => cases hle; exact .row0 hi ha h0 hz
  | row hi ha hl hz hb hs2 hx ho =>
    refine .row hi ha (by rw [← hle.len]; exact hl) hz hb (by rw [← hle.len]; exact hs2) (hle.mem hx) ?_
    obtain ⟨vs, o1, o2⟩ := ho.cells
    obtain ⟨rfl, o3⟩ := stays_own_l o1 (by
      rw [List.all_eq_true]
      intro a ha
      obtain ⟨x, hx1, hx2⟩ := List.mem_flatten.1 ha
      exact List.all_eq_true.1 (hs x hx1) a hx2)
    exact Own.ofCells (hle.flat.std o3).l_own o2

/-- Rows that are one's own go back into the variable that leads to them. -/
theorem run_foldV (id : Nat) {cs rs : List AV} {hp' : HP} (hrow : row id hp = some (.var cs)) (hf : foldL (rem id hp) cs = (rs, hp')) (h : Run P f Q todo ⟨tm, (id, .var rs) :: hp', nx, nt⟩) : Run P f Q todo ⟨tm, hp, nx, nt⟩ := by
  intro S0 B w0 I a w hlo hr
  obtain ⟨T, t1, t2, t3⟩ := hr.hp
  obtain ⟨F, T', g1, g2, g3⟩ := t1.take hrow
  cases g1 with
  | var hi ha hb hs hv =>
    obtain ⟨xs, l1, l2, l3⟩ := hv.leaves
    obtain ⟨G2, T2, k1, k2, k3⟩ := foldLv_ok l1 g2
    rw [hf] at k1 k2
    have hlen : rs.length = cs.length := by rw [k1.length, l3]
    rename_i b o c F
    have hperm : T.Perm ((b :: G2) ++ T2) := by
      refine g3.trans (List.perm_iff_count.2 fun z => ?_)
      have := List.perm_iff_count.1 k3 z
      simp only [List.count_append, List.count_cons] at this ⊢
      omega
    exact h S0 B w0 I a w hlo { hr with hp := ⟨_, .cons (.var hi ha hb (by rw [hlen]; exact hs) (k1.varC l2)) k2, hperm.nodup_iff.1 t2, fun z hz => t3 z (hperm.mem_iff.2 hz)⟩ }

theorem run_hp {hp' : HP} (e : hp = hp') (h : Run P f Q todo ⟨tm, hp', nx, nt⟩) : Run P f Q todo ⟨tm, hp, nx, nt⟩ := by rw [e]; exact h
end

/-- What is one's own and says more. -/
def OLe (a b : AV) : Prop := ∀ S w x F, Own S w (.v a x) F → Own S w (.v b x) F
theorem OLe.refl (a : AV) : OLe a a := fun _ _ _ _ h => h
theorem OLe.agg {as bs : List AV} (h : LeL as bs) (hs : as.all AV.stays = true) : OLe (.agg as) (.agg bs) := fun S w x F k => by
  cases k with
  | std k => exact .std (Le.agg h _ _ _ k)
  | agg k =>
    obtain ⟨e, k2⟩ := stays_own_l k hs
    rw [e]; exact .std (.agg (h.std k2))
theorem OLe.one {a b : AV} (h : Le a b) (hs : a.stays = true) : OLe a b := fun S w x F k => by
  obtain ⟨e, k2⟩ := stays_own k hs
  rw [e]; exact .std (h _ _ _ k2)
inductive OLeL : List AV → List AV → Prop
  | nil : OLeL [] []
  | cons {a b as bs} : OLe a b → OLeL as bs → OLeL (a :: as) (b :: bs)
theorem OLeL.own {S : Nat → Prop} {w : World} {as bs : List AV} (h : OLeL as bs) : ∀ {xs : List Value} {F : List Nat}, Own S w (.l as xs) F → Own S w (.l bs xs) F := by
  induction h with
  | nil => intro xs F k; exact k
  | cons h _ ih => intro xs F k; cases k with | cons k1 k2 => exact .cons (h _ _ _ _ k1) (ih k2)
theorem OLe.tup {as bs : List AV} (h : OLeL as bs) : OLe (.tup as) (.tup bs) := fun S w x F k => by
  cases k with
  | std k => cases k with | tup k => exact .tup (h.own k.l_own)
  | tup k => exact .tup (h.own k)
theorem OLe.osl {sz : Nat} {xs ys : List (List AV)} (h : LeLL xs ys) (hs : ∀ x ∈ xs, x.all AV.stays = true) : OLe (.osl sz xs) (.osl sz ys) := fun S w x F k => by
  cases k with
  | std k => cases k
  | osl0 h0 => cases h; exact .osl0 h0
  | osl h1 h2 h3 h4 ho =>
    rw [h.len] at h2 ⊢
    refine .osl h1 h2 (h.mem h3) h4 ?_
    obtain ⟨vs, o1, o2⟩ := ho.cells
    obtain ⟨rfl, o3⟩ := stays_own_l o1 (by
      rw [List.all_eq_true]
      intro a ha
      obtain ⟨x, hx1, hx2⟩ := List.mem_flatten.1 ha
      exact List.all_eq_true.1 (hs x hx1) a hx2)
    exact Own.ofCells (h.flat.std o3).l_own o2

/-- A cell that is told to hold less. -/
def VLe (a b : AV) : Prop := ∀ I w x F, Leaf I w a x F → Leaf I w b x F
theorem VLe.refl (a : AV) : VLe a a := fun _ _ _ _ h => h
theorem VLe.osl {sz : Nat} {xs ys : List (List AV)} (h : LeLL xs ys) (hs : ∀ x ∈ xs, x.all AV.stays = true) : VLe (.osl sz xs) (.osl sz ys) := fun I w x F k => by
  rcases k with ⟨k, _⟩ | k
  · cases k with | std k => cases k
  · exact .inr (OLe.osl h hs _ _ _ _ k)
theorem VLe.one {a b : AV} (h : Le a b) (hs : a.stays = true) : VLe a b := fun I w x F k => by
  rcases k with ⟨k, hf⟩ | k
  · exact .inl ⟨.std (h _ _ _ (k.std_of (by cases a <;> simp_all [AV.stays, AV.closed]))), hf⟩
  · exact .inr (OLe.one h hs _ _ _ _ k)
inductive VLeL : List AV → List AV → Prop
  | nil : VLeL [] []
  | cons {a b as bs} : VLe a b → VLeL as bs → VLeL (a :: as) (b :: bs)
theorem VLeL.len {as bs : List AV} (h : VLeL as bs) : as.length = bs.length := by
  induction h with
  | nil => rfl
  | cons _ _ ih => simp [ih]
theorem VLeL.varC {I : Interp} {w : World} {b : Nat} {as bs : List AV} (h : VLeL as bs) : ∀ {o : Nat} {F : List Nat}, VarC I w b o as F → VarC I w b o bs F := by
  induction h with
  | nil => intro o F k; cases k; exact .nil
  | cons h _ ih => intro o F k; cases k with | cons k1 k2 k3 => exact .cons k1 (h _ _ _ _ k2) (ih k3)
theorem run_varLe {P : Program} {f : Nat} {Q : Post} {todo : List Item} {tm : TM} {hp : HP} {nx nt : Nat} (id : Nat) {cs ds : List AV} (hrow : row id hp = some (.var cs)) (hle : VLeL cs ds) (h : Run P f Q todo ⟨tm, (id, .var ds) :: rem id hp, nx, nt⟩) : Run P f Q todo ⟨tm, hp, nx, nt⟩ := by
  intro S0 B w0 I a w hlo hr
  obtain ⟨T, t1, t2, t3⟩ := hr.hp
  obtain ⟨F, T', g1, g2, g3⟩ := t1.take hrow
  refine h S0 B w0 I a w hlo { hr with hp := ⟨F ++ T', .cons ?_ g2, g3.nodup_iff.1 t2, fun z hz => t3 z (g3.mem_iff.2 hz)⟩ }
  cases g1 with
  | var hi ha hb hs hv => exact .var hi ha hb (by rw [← hle.len]; exact hs) (hle.varC hv)
theorem FnSpec.weak {P : Program} {g : Nat} {as : List AV} {v : AV} (h : FnSpec P g as fun r => OLe r v) : FnSpec P g as fun r => r = v := ⟨h.has, fun S0 w vs h1 h2 => (h.good S0 w vs h1 h2).mono fun e w' ⟨r, hr, u, S, F, he, ho, h3⟩ => ⟨v, rfl, u, S, F, he, hr _ _ _ _ ho, h3⟩⟩
theorem FnSpec.weakE {P : Program} {g : Nat} {as : List AV} {Q Q2 : AV → Prop} (h : FnSpec P g as Q) (hq : ∀ r, Q r → ∃ v, Q2 v ∧ OLe r v) : FnSpec P g as Q2 := ⟨h.has, fun S0 w vs h1 h2 => (h.good S0 w vs h1 h2).mono fun e w' ⟨r, hr, u, S, F, he, ho, h3⟩ => by
  obtain ⟨v, k1, k2⟩ := hq r hr
  exact ⟨v, k1, u, S, F, he, k2 _ _ _ _ ho, h3⟩⟩
theorem FnSpec.imp {P : Program} {g : Nat} {as : List AV} {Q Q2 : AV → Prop} (h : FnSpec P g as Q) (hq : ∀ r, Q r → Q2 r) : FnSpec P g as Q2 := ⟨h.has, h.good.imp hq⟩
theorem FnSpec.args {P : Program} {g : Nat} {as bs : List AV} {Q : AV → Prop} (h : FnSpec P g bs Q) (hl : LeL as bs) : FnSpec P g as Q := ⟨h.has, h.good.le hl⟩
end Go.Ax

/- Roads that meet again. -/
namespace Go.Ax
open Go.RowKit
theorem own_map {α : Type} {enc : α → List AV} (h : ∀ e, (enc e).all AV.own1 = true) : ∀ (l : List α), (l.map enc).flatten.all AV.own1 = true
  | [] => rfl
  | a :: l => by rw [List.map_cons, List.flatten_cons, List.all_append, h a, own_map h l]; rfl
theorem PickN.map {α : Type} {enc : α → List AV} {l : List α} {n : Nat} {k : List AV → Prop} {e : α} (h : l[n]? = some e) (hk : k (enc e)) : PickN (l.map enc) n k := ⟨_, by simp [h], hk⟩
theorem fz_olst {l : List Int} : AV.fzLL (l.map fun n => [AV.lit (.int .i64 n)]) = l.map fun n => [AV.lit (.int .i64 n)] := fzLL_map (fun _ => rfl) l
section
variable {P : Program} {f : Nat} {Q : Post} {tm : TM} {hp : HP} {nx nt : Nat}
/-- All roads come to one place, where this holds. -/
theorem join {α : Type} (T : α → TM) (H : α → HP) (n : Nat) (inv : α → Prop) {todo todo' : List Item}
    (main : (∀ a {g} tm hp nx, Fr g Q.lo tm hp (T a) (H a) n → inv a → Run P f Q todo' ⟨tm, hp, nx, nt⟩) → Run P f Q todo ⟨tm, hp, nx, nt⟩)
    (J : ∀ a, inv a → Run P f Q todo' ⟨T a, H a, n, nt⟩) : Run P f Q todo ⟨tm, hp, nx, nt⟩ :=
  main fun a _ tm hp nx hf hi => Run.fr (J a hi) hf
end
end Go.Ax
