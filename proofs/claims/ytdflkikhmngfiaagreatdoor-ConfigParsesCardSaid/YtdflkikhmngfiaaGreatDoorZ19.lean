/- EyBa · EyTm · EyTr · EyPc: joined by a program, for a claim has at most 60 files. -/
import Derived.Test.YtdflkikhmngfiaaGreatDoorZ16
import Derived.Test.YtdflkikhmngfiaaGreatDoorZ18
/- Nothing unknown, nothing decided. -/
namespace Go.Proofs.YtdflkikhmngfiaaGreatDoor
open Go.RowKit
set_option linter.unusedVariables false
/-- Nothing is unknown, nothing decided. -/
@[reducible] def bareSy : Sy := ⟨fun _ => default, fun _ _ => default, fun _ _ => none, fun _ _ => True, fun _ => none, fun _ _ => trivial, fun _ _ => trivial⟩
@[reducible] def noDc : Dc := ⟨fun _ => none⟩
theorem noDc_ok {S : Sy} : @DcOK S noDc := @DcOK.mk S noDc (fun _ _ h => by cases h)
def Pm.emp : Pm := ⟨fun _ => none, fun _ _ => none⟩
theorem Rep.startE [Sy] [Dc] [DcOK] {W : World} (hi : Sy.inv W.heap.size W) (hgh : ∀ b o, Sy.gh b = some o → W.heap[b]? = some o) : Rep W.heap.size Pm.emp .leaf W := Rep.start hi (fun _ _ _ h => by cases h) (fun _ _ _ h => by cases h) hgh
end Go.Proofs.YtdflkikhmngfiaaGreatDoor


/- Templates of arguments and results; functions by contract; trees of decisions. -/
namespace Go.Proofs.YtdflkikhmngfiaaGreatDoor
open Go.RowKit
set_option linter.unusedVariables false
set_option linter.unusedSimpArgs false
set_option linter.unusedSectionVars false

/-- What an argument or a result is: a value of one cell, or a row of cells. -/
inductive Tm where
  | sh (s : Sh)
  | agg (l : List Sh)
def cellsOK (F : Fz) : List Sh → PV → Nat → List Value → Prop
  | [], _, _, m => m = []
  | s :: l, p, j, m => ∃ y m', m = y :: m' ∧ s.rp F (p.cl j) y ∧ cellsOK F l p (j + 1) m'
def Tm.rp (F : Fz) : Tm → PV → Value → Prop
  | .sh s, p, v => s.rp F p v
  | .agg l, p, v => ∃ a, v = .agg a ∧ cellsOK F l p 0 a.toList
def argsOK (F : Fz) : List Tm → List PV → List Value → Prop
  | [], ps, m => ps = [] ∧ m = []
  | t :: l, ps, m => ∃ p ps' y m', ps = p :: ps' ∧ m = y :: m' ∧ t.rp F p y ∧ argsOK F l ps' m'
def tupOK (F : Fz) : List Tm → PV → Nat → List Value → Prop
  | [], _, _, m => m = []
  | t :: l, p, j, m => ∃ y m', m = y :: m' ∧ t.rp F (p.cl j) y ∧ tupOK F l p (j + 1) m'
/-- A result, or several ones. -/
def resOK (F : Fz) (ts : List Tm) (p : PV) (v : Value) : Prop := match ts with
  | [t] => t.rp F p v
  | ts => ∃ a, v = .tuple a ∧ tupOK F ts p 0 a.toList
theorem cellsOK.mono {F F' : Fz} (h : F.le F') : ∀ {l : List Sh} {p : PV} {j : Nat} {m : List Value}, cellsOK F l p j m → cellsOK F' l p j m
  | [], _, _, _, k => k
  | s :: l, p, j, m, ⟨y, m', h1, h2, h3⟩ => ⟨y, m', h1, h2.mono h, h3.mono h⟩
theorem Tm.rp.mono {F F' : Fz} (h : F.le F') {t : Tm} {p : PV} {v : Value} (k : t.rp F p v) : t.rp F' p v := by
  cases t with
  | sh s => exact Sh.rp.mono h k
  | agg l => obtain ⟨a, h1, h2⟩ := k; exact ⟨a, h1, h2.mono h⟩
theorem argsOK.mono {F F' : Fz} (h : F.le F') : ∀ {l : List Tm} {ps : List PV} {m : List Value}, argsOK F l ps m → argsOK F' l ps m
  | [], _, _, k => k
  | t :: l, ps, m, ⟨p, ps', y, m', h1, h2, h3, h4⟩ => ⟨p, ps', y, m', h1, h2, h3.mono h, h4.mono h⟩
theorem tupOK.mono {F F' : Fz} (h : F.le F') : ∀ {l : List Tm} {p : PV} {j : Nat} {m : List Value}, tupOK F l p j m → tupOK F' l p j m
  | [], _, _, _, k => k
  | t :: l, p, j, m, ⟨y, m', h1, h2, h3⟩ => ⟨y, m', h1, h2.mono h, h3.mono h⟩
theorem resOK_mono {F F' : Fz} (h : F.le F') {ts : List Tm} {p : PV} {v : Value} (k : resOK F ts p v) : resOK F' ts p v := by
  have many : (∃ a, v = .tuple a ∧ tupOK F ts p 0 a.toList) → ∃ a, v = .tuple a ∧ tupOK F' ts p 0 a.toList := fun ⟨a, h1, h2⟩ => ⟨a, h1, h2.mono h⟩
  cases ts with
  | nil => exact many k
  | cons t l =>
    cases l with
    | nil => exact Tm.rp.mono h k
    | cons _ _ => exact many k
section
variable [Sy] [Dc] [DcOK]
/-- What a template holds, told. -/
noncomputable def mkC (e : Xp) (l : List Sh) : Nat → List AV := List.rec (motive := fun _ => Nat → List AV) (fun _ => []) (fun s _ ih j => .sx s (.cell e j) :: ih (Nat.succ j)) l
noncomputable def mkT (t : Tm) (e : Xp) : AV := match t with
  | .sh s => .sx s e
  | .agg l => .agg (mkC e l 0)
noncomputable def mkTs (e : Xp) (l : List Tm) : Nat → List AV := List.rec (motive := fun _ => Nat → List AV) (fun _ => []) (fun t _ ih j => mkT t (.cell e j) :: ih (Nat.succ j)) l
noncomputable def mkR (ts : List Tm) (e : Xp) : AV := match ts with
  | [t] => mkT t e
  | ts => .tup (mkTs e ts 0)
noncomputable def mkA (l : List Tm) : Nat → List AV := List.rec (motive := fun _ => Nat → List AV) (fun _ => []) (fun t _ ih j => mkT t (.var j) :: ih (Nat.succ j)) l
theorem mkC_rp {ρ : Pm} {e : Xp} : ∀ {l : List Sh} {j : Nat} {m : List Value}, cellsOK ρ.fz l e.den j m → AV.rps ρ (mkC e l j) m
  | [], j, m, h => rps_nil.2 h
  | s :: l, j, m, ⟨y, m', h1, h2, h3⟩ => rps_cons.2 ⟨y, m', h1, by simp only [AV.rp]; exact h2, mkC_rp h3⟩
theorem mkT_rp {ρ : Pm} {t : Tm} {e : Xp} {v : Value} (h : t.rp ρ.fz e.den v) : (mkT t e).rp ρ v := by
  cases t with
  | sh s => simp only [mkT, AV.rp]; exact h
  | agg l =>
    obtain ⟨a, rfl, h2⟩ := h
    simp only [mkT, AV.rp]
    exact ⟨a, rfl, mkC_rp h2⟩
theorem mkTs_rp {ρ : Pm} {e : Xp} : ∀ {l : List Tm} {j : Nat} {m : List Value}, tupOK ρ.fz l e.den j m → AV.rps ρ (mkTs e l j) m
  | [], j, m, h => rps_nil.2 h
  | t :: l, j, m, ⟨y, m', h1, h2, h3⟩ => rps_cons.2 ⟨y, m', h1, mkT_rp h2, mkTs_rp h3⟩
theorem mkR_rp {ρ : Pm} {ts : List Tm} {e : Xp} {v : Value} (h : resOK ρ.fz ts e.den v) : (mkR ts e).rp ρ v := by
  have many : (∃ a, v = .tuple a ∧ tupOK ρ.fz ts e.den 0 a.toList) → (AV.tup (mkTs e ts 0)).rp ρ v := fun ⟨a, h1, h2⟩ => by
    simp only [AV.rp]
    exact ⟨a, h1, mkTs_rp h2⟩
  cases ts with
  | nil => exact many h
  | cons t l =>
    cases l with
    | nil => exact mkT_rp h
    | cons _ _ => exact many h
theorem mkA_rp {ρ : Pm} : ∀ {l : List Tm} {j : Nat} {ps : List PV} {m : List Value}, (∀ i p, ps[i]? = some p → Sy.env (j + i) = p) → argsOK ρ.fz l ps m → AV.rps ρ (mkA l j) m
  | [], j, ps, m, he, h => rps_nil.2 h.2
  | t :: l, j, ps, m, he, ⟨p, ps', y, m', h1, h2, h3, h4⟩ => by
    subst h1
    refine rps_cons.2 ⟨y, m', h2, mkT_rp ?_, mkA_rp (fun i q hq => ?_) h4⟩
    · show t.rp ρ.fz (Sy.env j) y
      have h0 := he 0 p rfl
      rw [Nat.add_zero] at h0
      rw [h0]
      exact h3
    · rw [show j + 1 + i = j + (i + 1) by omega]
      exact he (i + 1) q (by simpa using hq)
noncomputable def matT (t : Tm) (x : AV) : Option Xp := match t with
  | .sh s => matS s x
  | .agg l => match x with
    | .agg m => matC l m
    | _ => none
noncomputable def matL (l : List Tm) : List AV → Option Xp := List.rec (motive := fun _ => List AV → Option Xp) (fun m => match m with | [] => some .nil | _ => none) (fun t _ ih m => match m with | x :: m => (matT t x).bind fun e => (ih m).bind fun r => some (.cons e r) | _ => none) l
noncomputable def matM (ts : List Tm) (x : AV) : Option Xp := match x with
  | .tup m => matL ts m
  | _ => none
noncomputable def matR (ts : List Tm) (x : AV) : Option Xp := match ts with
  | [t] => matT t x
  | ts => matM ts x
theorem matC_rp {ρ : Pm} : ∀ {l : List Sh} {m : List AV} {e : Xp} (h : matC l m = some e) {vs : List Value} (hx : AV.rps ρ m vs) {p : PV} {j : Nat} (hp : ∀ i q, e.den.t[i]? = some q → p.cl (j + i) = q), cellsOK ρ.fz l p j vs
  | [], m, e, h, vs, hx, p, j, hp => by
    cases m with
    | nil => rw [rps_nil] at hx; exact hx
    | cons _ _ => cases h
  | s :: l, m, e, h, vs, hx, p, j, hp => by
    cases m with
    | nil => cases h
    | cons x m =>
      obtain ⟨e1, h1, h2⟩ := bind_some' (show (matS s x).bind (fun e => (matC l m).bind fun r => some (.cons e r)) = some e from h)
      obtain ⟨e2, h3, h4⟩ := bind_some' h2
      injection h4 with h4
      subst h4
      rw [rps_cons] at hx
      obtain ⟨y, m', rfl, k1, k2⟩ := hx
      refine ⟨y, m', rfl, ?_, matC_rp h3 k2 fun i q hq => ?_⟩
      · rw [show p.cl j = e1.den from hp 0 _ rfl]
        exact matS_rp h1 k1
      · rw [show j + 1 + i = j + (i + 1) by omega]
        exact hp (i + 1) q (by show (e1.den :: e2.den.t)[i + 1]? = some q; simpa using hq)
theorem den_tup {e : Xp} (h : ∃ l, e.den = .tup l) : ∀ i q, e.den.t[i]? = some q → e.den.cl (0 + i) = q := fun i q hq => by
  obtain ⟨l, hl⟩ := h
  rw [hl] at hq ⊢
  have hq : l[i]? = some q := hq
  show l.getD (0 + i) default = q
  rw [Nat.zero_add, List.getD_eq_getElem?_getD, hq]
  rfl
theorem matC_tup : ∀ {l : List Sh} {m : List AV} {e : Xp} (h : matC l m = some e), ∃ l, e.den = .tup l
  | [], m, e, h => by
    cases m with
    | nil => injection h with h; subst h; exact ⟨_, rfl⟩
    | cons _ _ => cases h
  | s :: l, m, e, h => by
    cases m with
    | nil => cases h
    | cons x m =>
      obtain ⟨e1, h1, h2⟩ := bind_some' (show (matS s x).bind (fun e => (matC l m).bind fun r => some (.cons e r)) = some e from h)
      obtain ⟨e2, h3, h4⟩ := bind_some' h2
      injection h4 with h4
      subst h4
      exact ⟨_, rfl⟩
theorem matT_rp {ρ : Pm} {t : Tm} {x : AV} {e : Xp} (h : matT t x = some e) {v : Value} (hx : x.rp ρ v) : t.rp ρ.fz e.den v := by
  cases t with
  | sh s => exact matS_rp h hx
  | agg l =>
    cases x with
    | agg m =>
      simp only [AV.rp] at hx
      obtain ⟨a, rfl, hx⟩ := hx
      exact ⟨a, rfl, matC_rp h hx (den_tup (matC_tup h))⟩
    | _ => cases h
theorem matL_cons {t : Tm} {l : List Tm} {x : AV} {m : List AV} {e : Xp} (h : matL (t :: l) (x :: m) = some e) : ∃ e1 e2, e = .cons e1 e2 ∧ matT t x = some e1 ∧ matL l m = some e2 := by
  obtain ⟨e1, h1, h2⟩ := bind_some' (show (matT t x).bind (fun e => (matL l m).bind fun r => some (.cons e r)) = some e from h)
  obtain ⟨e2, h3, h4⟩ := bind_some' h2
  injection h4 with h4
  exact ⟨e1, e2, h4.symm, h1, h3⟩
theorem matL_args {ρ : Pm} : ∀ {l : List Tm} {m : List AV} {e : Xp} (h : matL l m = some e) {vs : List Value} (hx : AV.rps ρ m vs), argsOK ρ.fz l e.den.t vs
  | [], m, e, h, vs, hx => by
    cases m with
    | nil => injection h with h; subst h; rw [rps_nil] at hx; exact ⟨rfl, hx⟩
    | cons _ _ => cases h
  | t :: l, m, e, h, vs, hx => by
    cases m with
    | nil => cases h
    | cons x m =>
      obtain ⟨e1, e2, rfl, h1, h2⟩ := matL_cons h
      rw [rps_cons] at hx
      obtain ⟨y, m', rfl, k1, k2⟩ := hx
      exact ⟨e1.den, e2.den.t, y, m', rfl, rfl, matT_rp h1 k1, matL_args h2 k2⟩
theorem matL_tup {ρ : Pm} : ∀ {l : List Tm} {m : List AV} {e : Xp} (h : matL l m = some e) {vs : List Value} (hx : AV.rps ρ m vs) {p : PV} {j : Nat} (hp : ∀ i q, e.den.t[i]? = some q → p.cl (j + i) = q), tupOK ρ.fz l p j vs
  | [], m, e, h, vs, hx, p, j, hp => by
    cases m with
    | nil => rw [rps_nil] at hx; exact hx
    | cons _ _ => cases h
  | t :: l, m, e, h, vs, hx, p, j, hp => by
    cases m with
    | nil => cases h
    | cons x m =>
      obtain ⟨e1, e2, rfl, h1, h2⟩ := matL_cons h
      rw [rps_cons] at hx
      obtain ⟨y, m', rfl, k1, k2⟩ := hx
      refine ⟨y, m', rfl, ?_, matL_tup h2 k2 fun i q hq => ?_⟩
      · rw [show p.cl j = e1.den from hp 0 _ rfl]
        exact matT_rp h1 k1
      · rw [show j + 1 + i = j + (i + 1) by omega]
        exact hp (i + 1) q (by show (e1.den :: e2.den.t)[i + 1]? = some q; simpa using hq)
theorem matL_den : ∀ {l : List Tm} {m : List AV} {e : Xp} (h : matL l m = some e), ∃ l, e.den = .tup l
  | [], m, e, h => by
    cases m with
    | nil => injection h with h; subst h; exact ⟨_, rfl⟩
    | cons _ _ => cases h
  | t :: l, m, e, h => by
    cases m with
    | nil => cases h
    | cons x m =>
      obtain ⟨e1, e2, rfl, h1, h2⟩ := matL_cons h
      exact ⟨_, rfl⟩
theorem matR_rp {ρ : Pm} {ts : List Tm} {x : AV} {e : Xp} (h : matR ts x = some e) {v : Value} (hx : x.rp ρ v) : resOK ρ.fz ts e.den v := by
  have many : matM ts x = some e → ∃ a, v = .tuple a ∧ tupOK ρ.fz ts e.den 0 a.toList := fun h => by
    cases x with
    | tup m =>
      simp only [AV.rp] at hx
      obtain ⟨a, rfl, hx⟩ := hx
      have h : matL ts m = some e := h
      exact ⟨a, rfl, matL_tup h hx (den_tup (matL_den h))⟩
    | _ => cases h
  cases ts with
  | nil => exact many h
  | cons t l =>
    cases l with
    | nil => exact matT_rp h hx
    | cons _ _ => exact many h
end
end Go.Proofs.YtdflkikhmngfiaaGreatDoor


/- Functions by contract; trees of decisions; a function's law out of its runs. -/
namespace Go.Proofs.YtdflkikhmngfiaaGreatDoor
open Go.RowKit
set_option linter.unusedVariables false
set_option linter.unusedSimpArgs false
set_option linter.unusedSectionVars false

/-- What is decided: a list. -/
noncomputable def lookX (e : Xp) (l : List (Xp × Bool)) : Option Bool := List.rec (motive := fun _ => Option Bool) none (fun p _ ih => Bool.rec (motive := fun _ => Option Bool) ih (some p.2) (eqX p.1 e)) l
@[reducible] noncomputable def dcOf (l : List (Xp × Bool)) : Dc := ⟨fun e => lookX e l⟩
theorem eqX_is {a b : Xp} (h : eqX a b = true) : a = b := by
  letI := bareSy
  letI : Dc := ⟨fun _ => none⟩
  haveI : DcOK := ⟨fun _ _ h => by cases h⟩
  exact eqX_eq h
theorem lookX_some {e : Xp} : ∀ {l : List (Xp × Bool)} {b : Bool}, lookX e l = some b → (e, b) ∈ l
  | [], b, h => by cases h
  | p :: l, b, h => by
    have h : Bool.rec (motive := fun _ => Option Bool) (lookX e l) (some p.2) (eqX p.1 e) = some b := h
    cases hx : eqX p.1 e with
    | true =>
      rw [hx] at h
      injection h with h
      rw [← eqX_is hx, ← h]
      simp
    | false =>
      rw [hx] at h
      exact List.mem_cons_of_mem _ (lookX_some h)
theorem dcOf_ok [Sy] {l : List (Xp × Bool)} (h : ∀ p ∈ l, p.1.den = .bool p.2) : @DcOK _ (dcOf l) := by
  letI := dcOf l
  exact ⟨fun e b hb => h _ (lookX_some hb)⟩
/-- A tree of decisions. -/
inductive Tre where
  | leaf (e : Xp)
  | br (c : Xp) (t f : Tre)
  | must (c : Xp) (t : Tre)
def Tre.ev [Sy] : Tre → Option PV
  | .leaf e => some e.den
  | .br c t f => match c.den with
    | .bool true => t.ev
    | .bool false => f.ev
    | _ => none
  | .must c t => match c.den with
    | .bool true => t.ev
    | _ => none
/-- A function by contract. -/
structure Fs where
  f : FuncId
  ats : List Tm
  rs : List Tm
  n : Nat
  pre : Option Nat
section
variable [Dc]
noncomputable def preM (p : Option Nat) (es : Xp) (g : M AV) : M AV := match p with
  | none => g
  | some k => Option.rec (motive := fun _ => M AV) (fail (88 :: (Xp.app k es).enc [])) (fun b => Bool.rec (motive := fun _ => M AV) (fail [301]) g b) (Dc.dec (.app k es))
noncomputable def fnM (s : Fs) (args : List AV) : M AV := need (matL s.ats args) 300 fun es => preM s.pre es (ret (mkR s.rs (.app s.n es)))
noncomputable def oraF (l : List Fs) (f : FuncId) : Option (List AV → M AV) := List.rec (motive := fun _ => Option (List AV → M AV)) none (fun s _ ih => Bool.rec (motive := fun _ => Option (List AV → M AV)) ih (some (fnM s)) (Nat.beq s.f f)) l
end
/-- A function's contract: its result is a function of its arguments; what is new stays. -/
def FnOK [Sy] (P : Program) (s : Fs) : Prop := (∀ w vs, (callFunc s.f vs).run P w = .ok (.enter s.f vs) w) ∧ ∀ (F : Fz) (W : World) (ps : List PV) (vs : Array Value), (∀ b i v, F b i = some v → W.cell? ⟨b, i, none⟩ = some v) → Sy.inv W.heap.size W → argsOK F s.ats ps vs.toList →
  (∀ k, s.pre = some k → Sy.fn k ps = .bool true) → Calls P s.f vs W fun e w' => ∃ v, e = .returned v ∧ resOK (growF F W w') s.rs (Sy.fn s.n ps) v ∧ Below W.heap.size W w'
section
variable [Sy] [Dc] [DcOK]
theorem oraF_some {l : List Fs} {f : FuncId} {g : List AV → M AV} (h : oraF l f = some g) : ∃ s ∈ l, s.f = f ∧ g = fnM s := by
  induction l with
  | nil => cases h
  | cons s l ih =>
    have h : Bool.rec (motive := fun _ => Option (List AV → M AV)) (oraF l f) (some (fnM s)) (Nat.beq s.f f) = some g := h
    cases hb : Nat.beq s.f f with
    | true =>
      rw [hb] at h
      injection h with h
      exact ⟨s, by simp, Nat.eq_of_beq_eq_true hb, h.symm⟩
    | false =>
      rw [hb] at h
      obtain ⟨s2, h1, h2⟩ := ih h
      exact ⟨s2, by simp [h1], h2⟩
theorem preM_ok {p : Option Nat} {es : Xp} {g : M AV} {lo : Nat} {h : Heap} {c : Nat} {lg : List Ev} {x : AV} {h' : Heap} {c' : Nat} {lg' : List Ev} (e : preM p es g lo h c lg = .ok x h' c' lg') : (∀ k, p = some k → Sy.fn k es.den.t = .bool true) ∧ g lo h c lg = .ok x h' c' lg' := by
  cases p with
  | none => exact ⟨fun k h => by (cases h), e⟩
  | some k =>
    have e : Option.rec (motive := fun _ => M AV) (fail (88 :: (Xp.app k es).enc [])) (fun b => Bool.rec (motive := fun _ => M AV) (fail [301]) g b) (Dc.dec (.app k es)) lo h c lg = .ok x h' c' lg' := e
    cases hd : Dc.dec (.app k es) with
    | none => rw [hd] at e; cases e
    | some b =>
      rw [hd] at e
      cases b with
      | false => cases e
      | true =>
        refine ⟨fun k2 h2 => ?_, e⟩
        injection h2 with h2
        subst h2
        exact DcOK.ok _ _ hd
theorem oraF_loc (l : List Fs) {tab : Op → List AV → Tb} : OraLoc ⟨oraF l, tab⟩ := by
  intro f g hf args
  obtain ⟨s, _, _, rfl⟩ := oraF_some hf
  unfold fnM
  refine Loc.need _ _ fun es => ?_
  generalize s.pre = p
  cases p with
  | none => exact Loc.ret _
  | some k =>
    unfold preM
    dsimp only
    cases Dc.dec (Xp.app k es) with
    | none => exact Loc.fail _
    | some b =>
      cases b with
      | false => exact Loc.fail _
      | true => exact Loc.ret _
theorem oraF_snd {P : Program} {B : Nat} {ρ0 : Pm} {l : List Fs} {tab : Op → List AV → Tb} (hl : ∀ s ∈ l, FnOK P s) : OraSnd P B ρ0 ⟨oraF l, tab⟩ := by
  intro f g hf args lo h c lg x h' c' lg' e ρ w vs hle hr hv
  obtain ⟨s, hs, rfl, rfl⟩ := oraF_some hf
  obtain ⟨es, h1, e⟩ := need_ok e
  obtain ⟨h2, e⟩ := preM_ok e
  obtain ⟨rfl, rfl, _, _⟩ := ret_ok e
  obtain ⟨k1, k2⟩ := hl s hs
  refine .inl ⟨k1 w vs, (k2 ρ.fz w es.den.t vs hr.frz (Sy.up hr.size hr.inv) (matL_args h1 hv) h2).mono ?_⟩
  rintro e2 w' ⟨v, rfl, h3, h4⟩
  obtain ⟨m1, m2⟩ := hr.frozen h4
  exact ⟨ρ.grow w w', v, rfl, m1, mkR_rp (ρ := ρ.grow w w') h3, m2, below_grow hr h4⟩
end
/-- A function's run, by what is decided. -/
noncomputable def runF [Dc] (P : Program) (l : List Fs) (n : Nat) (f : FuncId) (ats : List Tm) : R AV := callM P ⟨oraF l, symTab P⟩ (exec P (fun _ => none) ⟨oraF l, symTab P⟩ n) f (mkA ats 0) 0 .leaf 0 []
noncomputable def outR (rs : List Tm) [Dc] (r : R AV) (e : Xp) : Bool := R.rec (motive := fun _ => Bool) (fun x _ _ _ => Option.rec (motive := fun _ => Bool) false (fun e' => eqX e' e) (matR rs x)) (fun _ => false) r
noncomputable def chkT (P : Program) (l : List Fs) (n : Nat) (f : FuncId) (ats rs : List Tm) (T : Tre) : List (Xp × Bool) → Bool :=
  Tre.rec (motive := fun _ => List (Xp × Bool) → Bool) (fun e Φ => @outR rs (dcOf Φ) (@runF (dcOf Φ) P l n f ats) e) (fun c _ _ it jf Φ => it ((c, true) :: Φ) && jf ((c, false) :: Φ)) (fun c _ it Φ => it ((c, true) :: Φ)) T
theorem outR_some {rs : List Tm} [Dc] {r : R AV} {e : Xp} (h : outR rs r e = true) : ∃ x h' c' lg', r = .ok x h' c' lg' ∧ matR rs x = some e := by
  cases r with
  | bad _ => cases h
  | ok x h' c' lg' =>
    have h : Option.rec (motive := fun _ => Bool) false (fun e' => eqX e' e) (matR rs x) = true := h
    cases hm : matR rs x with
    | none => rw [hm] at h; cases h
    | some e' => rw [hm] at h; exact ⟨x, h', c', lg', rfl, by rw [hm, eqX_is h]⟩
theorem chk_fn [Sy] {P : Program} {l : List Fs} {n : Nat} {f : FuncId} {ats rs : List Tm} (hN : NamesOK P) (hm : P.follows .mixedOrders = true) (hl : ∀ s ∈ l, FnOK P s) (hf : ∀ s ∈ l, s.f ≠ f) {F : Fz} {W : World} {ps : List PV} {vs : Array Value} (hF : ∀ b i v, F b i = some v → W.cell? ⟨b, i, none⟩ = some v) (hlow : ∀ b i v, F b i = some v ↔ Sy.low b i = some v) (hi : Sy.inv W.heap.size W) (hgh : ∀ b o, Sy.gh b = some o → W.heap[b]? = some o) (ha : argsOK F ats ps vs.toList) (he : ∀ i p, ps[i]? = some p → Sy.env i = p) :
    ∀ (T : Tre) (Φ : List (Xp × Bool)), chkT P l n f ats rs T Φ = true → (∀ p ∈ Φ, p.1.den = .bool p.2) → ∀ p, T.ev = some p → Calls P f vs W fun e w' => ∃ v, e = .returned v ∧ resOK (growF F W w') rs p v ∧ Below W.heap.size W w'
  | .leaf e, Φ, h, hΦ, p, hp => by
    letI := dcOf Φ
    haveI := dcOf_ok hΦ
    injection hp with hp
    obtain ⟨x, h', c', lg', e1, e2⟩ := outR_some (show @outR rs (dcOf Φ) (@runF (dcOf Φ) P l n f ats) e = true from h)
    have hn : (⟨oraF l, symTab P⟩ : Ora).fn f = none := by
      cases ho : oraF l f with
      | none => exact ho
      | some g =>
        obtain ⟨s, h1, h2, _⟩ := oraF_some ho
        exact absurd h2 (hf s h1)
    have hv : AV.rps ⟨fun _ => none, F⟩ (mkA ats 0) vs.toList := mkA_rp (ρ := ⟨fun _ => none, F⟩) (fun i p hp => by rw [Nat.zero_add]; exact he i p hp) ha
    refine (start_run (ora := ⟨oraF l, symTab P⟩) noGlob hN hm (oraF_loc l) (oraF_snd hl) symTab_snd hn (Rep.start hi hF (fun b i v h => (hlow b i v).1 h) hgh) hv e1).mono ?_
    rintro e3 w' ⟨ρ, v, rfl, h0, h1, h2, h3⟩
    refine ⟨v, rfl, ?_, h3⟩
    have := matR_rp e2 h1
    rw [hp] at this
    refine resOK_mono (fun b i u hu => ?_) this
    show (if W.heap.size ≤ b then w'.cell? ⟨b, i, none⟩ else F b i) = some u
    by_cases hb : W.heap.size ≤ b
    · rw [if_pos hb]; exact h2.frz b i u hu
    · rw [if_neg hb]; exact (hlow b i u).2 (h2.low b i u (by omega) hu)
  | .br c t f2, Φ, h, hΦ, p, hp => by
    have h : (chkT P l n f ats rs t ((c, true) :: Φ) && chkT P l n f ats rs f2 ((c, false) :: Φ)) = true := h
    rw [Bool.and_eq_true] at h
    unfold Tre.ev at hp
    split at hp
    · rename_i hc
      exact chk_fn hN hm hl hf hF hlow hi hgh ha he t _ h.1 (fun q hq => by rcases List.mem_cons.1 hq with rfl | hq; exact hc; exact hΦ q hq) p hp
    · rename_i hc
      exact chk_fn hN hm hl hf hF hlow hi hgh ha he f2 _ h.2 (fun q hq => by rcases List.mem_cons.1 hq with rfl | hq; exact hc; exact hΦ q hq) p hp
    · cases hp
  | .must c t, Φ, h, hΦ, p, hp => by
    have h : chkT P l n f ats rs t ((c, true) :: Φ) = true := h
    unfold Tre.ev at hp
    split at hp
    · rename_i hc
      exact chk_fn hN hm hl hf hF hlow hi hgh ha he t _ h (fun q hq => by rcases List.mem_cons.1 hq with rfl | hq; exact hc; exact hΦ q hq) p hp
    · cases hp
end Go.Proofs.YtdflkikhmngfiaaGreatDoor


/- States as templates; pieces of code from state to state; loops. -/
namespace Go.Proofs.YtdflkikhmngfiaaGreatDoor
open Go.RowKit
set_option linter.unusedVariables false
set_option linter.unusedSimpArgs false
set_option linter.unusedSectionVars false

/-- Numbers for what is not known: plain values instead of others. -/
@[reducible] def Sy.at (S : Sy) (env : Nat → PV) : Sy := ⟨env, S.fn, S.low, S.inv, S.gh, S.up, S.keep⟩
def sub (σ : List Xp) : Xp → Xp
  | .var i => σ.getD i (.var i)
  | .int n => .int n
  | .bool b => .bool b
  | .str l => .str l
  | .bin op k a b => .bin op k (sub σ a) (sub σ b)
  | .wrap k a => .wrap k (sub σ a)
  | .cmpi op a b => .cmpi op (sub σ a) (sub σ b)
  | .eqs a b => .eqs (sub σ a) (sub σ b)
  | .eqb a b => .eqb (sub σ a) (sub σ b)
  | .not a => .not (sub σ a)
  | .cat a b => .cat (sub σ a) (sub σ b)
  | .lens a => .lens (sub σ a)
  | .lenl a => .lenl (sub σ a)
  | .at a i => .at (sub σ a) (sub σ i)
  | .subs a l h => .subs (sub σ a) (sub σ l) (sub σ h)
  | .subl a l h => .subl (sub σ a) (sub σ l) (sub σ h)
  | .inb i n => .inb (sub σ i) (sub σ n)
  | .rng l h n => .rng (sub σ l) (sub σ h) (sub σ n)
  | .get a i z j => .get (sub σ a) (sub σ i) z j
  | .cell a j => .cell (sub σ a) j
  | .app f a => .app f (sub σ a)
  | .nil => .nil
  | .cons a b => .cons (sub σ a) (sub σ b)
  | .lnil => .lnil
  | .snoc a b => .snoc (sub σ a) (sub σ b)
  | .catl a b => .catl (sub σ a) (sub σ b)
  | .ofB a => .ofB (sub σ a)
  | .toB a => .toB (sub σ a)
/-- The plain values that a row of expressions tells. -/
def envOf [S : Sy] (σ : List Xp) (i : Nat) : PV := match σ[i]? with
  | some e => e.den
  | none => S.env i
theorem sub_den [S : Sy] (σ : List Xp) : ∀ e : Xp, @Xp.den (S.at (envOf σ)) e = (sub σ e).den := by
  intro e
  induction e with
  | var i =>
    show envOf σ i = (σ.getD i (.var i)).den
    unfold envOf
    rw [List.getD_eq_getElem?_getD]
    cases σ[i]? <;> rfl
  | int n => rfl
  | bool b => rfl
  | str l => rfl
  | nil => rfl
  | lnil => rfl
  | bin op k a b ia ib => simp only [sub, Xp.den, ia, ib]
  | wrap k a ia => simp only [sub, Xp.den, ia]
  | cmpi op a b ia ib => simp only [sub, Xp.den, ia, ib]
  | eqs a b ia ib => simp only [sub, Xp.den, ia, ib]
  | eqb a b ia ib => simp only [sub, Xp.den, ia, ib]
  | not a ia => simp only [sub, Xp.den, ia]
  | cat a b ia ib => simp only [sub, Xp.den, ia, ib]
  | lens a ia => simp only [sub, Xp.den, ia]
  | lenl a ia => simp only [sub, Xp.den, ia]
  | «at» a b ia ib => simp only [sub, Xp.den, ia, ib]
  | subs a b c ia ib ic => simp only [sub, Xp.den, ia, ib, ic]
  | subl a b c ia ib ic => simp only [sub, Xp.den, ia, ib, ic]
  | inb a b ia ib => simp only [sub, Xp.den, ia, ib]
  | rng a b c ia ib ic => simp only [sub, Xp.den, ia, ib, ic]
  | get a b z j ia ib => simp only [sub, Xp.den, ia, ib]
  | cell a j ia => simp only [sub, Xp.den, ia]
  | app f a ia => simp only [sub, Xp.den, ia]; rfl
  | cons a b ia ib => simp only [sub, Xp.den, ia, ib]
  | snoc a b ia ib => simp only [sub, Xp.den, ia, ib]
  | catl a b ia ib => simp only [sub, Xp.den, ia, ib]
  | ofB a ia => simp only [sub, Xp.den, ia]
  | toB a ia => simp only [sub, Xp.den, ia]
/-- Names for names. -/
noncomputable def rnm (r : List (Nat × Nat)) (n : Nat) : Option Nat := List.rec (motive := fun _ => Option Nat) none (fun p _ ih => Bool.rec (motive := fun _ => Option Nat) ih (some p.2) (Nat.beq p.1 n)) r
/-- A value of the state is one of the template. -/
noncomputable def impl (σ : List Xp) (r : List (Nat × Nat)) (t : AV) : AV → Bool :=
  AV.rec (motive_1 := fun _ => AV → Bool) (motive_2 := fun _ => List AV → Bool)
    (fun b y => match y with | .bool c => b == c | _ => false)
    (fun k n y => match y with | .int k' m => decide (k = k') && eqI n m | _ => false)
    (fun l y => match y with | .str m => eqL l m | _ => false)
    (fun y => match y with | .nilp => true | _ => false)
    (fun n o y => match y with | .ptr m o' => Nat.beq o o' && Option.rec (motive := fun _ => Bool) false (fun q => Nat.beq q m) (rnm r n) | _ => false)
    (fun y => match y with | .nils => true | _ => false)
    (fun n o len cap y => match y with | .sl m o' len' cap' => Nat.beq o o' && (Nat.beq len len' && (Nat.beq cap cap' && Option.rec (motive := fun _ => Bool) false (fun q => Nat.beq q m) (rnm r n))) | _ => false)
    (fun n z e len y => match y with | .os m z' e' len' => Nat.beq z z' && (Nat.beq e e' && (Nat.beq len len' && Option.rec (motive := fun _ => Bool) false (fun q => Nat.beq q m) (rnm r n))) | _ => false)
    (fun y => match y with | .emp => true | _ => false)
    (fun y => match y with | .nilm => true | _ => false)
    (fun n y => match y with | .map m => Option.rec (motive := fun _ => Bool) false (fun q => Nat.beq q m) (rnm r n) | _ => false)
    (fun y => match y with | .nilf => true | _ => false)
    (fun fn _ _ ia ib y => match y with | .func fn' f c => decide (fn = fn') && (ia f && ib c) | _ => false)
    (fun y => match y with | .nili => true | _ => false)
    (fun t _ ix y => match y with | .iface t' x => Nat.beq t t' && ix x | _ => false)
    (fun _ il y => match y with | .agg m => il m | _ => false)
    (fun _ il y => match y with | .tup m => il m | _ => false)
    (fun s e y => Option.rec (motive := fun _ => Bool) false (fun e' => eqX e' (sub σ e)) (matS s y))
    (fun _ _ _ => false)
    (fun n z e y => match y with | .oe m z' e' => Nat.beq z z' && (Nat.beq e e' && Option.rec (motive := fun _ => Bool) false (fun q => Nat.beq q m) (rnm r n)) | _ => false)
    (fun n el e y => match y with
      | .ol m el' e' => eqShs el' el && (eqX e' (sub σ e) && Option.rec (motive := fun _ => Bool) false (fun q => Nat.beq q m) (rnm r n))
      | .nils => eqX .lnil (sub σ e)
      | _ => false)
    (fun m => match m with | [] => true | _ => false)
    (fun _ _ ix il m => match m with | y :: m => ix y && il m | _ => false) t
end Go.Proofs.YtdflkikhmngfiaaGreatDoor

