/- Templates of arguments and results; functions by contract; trees of decisions. -/
import Derived.Test.YtdkgckgpdogimaaGreatDoorC35
import Derived.Test.YtdkgckgpdogimaaGreatDoorC29
namespace Go.Proofs.YtdkgckgpdogimaaGreatDoor
open Go.RowKit
set_option linter.unusedVariables false
set_option linter.unusedSimpArgs false
set_option linter.unusedSectionVars false

/-- What an argument or a result is: a value of one cell, or a row of cells. -/
inductive Tm where
  | sh (s : Sh)
  | agg (l : List Sh)
def cellsOK (F : Fz) : List Sh → PV → Nat → List Value → Prop
  | [], _, _, m => m = []
  | s :: l, p, j, m => ∃ y m', m = y :: m' ∧ s.rp F (p.cl j) y ∧ cellsOK F l p (j + 1) m'
def Tm.rp (F : Fz) : Tm → PV → Value → Prop
  | .sh s, p, v => s.rp F p v
  | .agg l, p, v => ∃ a, v = .agg a ∧ cellsOK F l p 0 a.toList
def argsOK (F : Fz) : List Tm → List PV → List Value → Prop
  | [], ps, m => ps = [] ∧ m = []
  | t :: l, ps, m => ∃ p ps' y m', ps = p :: ps' ∧ m = y :: m' ∧ t.rp F p y ∧ argsOK F l ps' m'
def tupOK (F : Fz) : List Tm → PV → Nat → List Value → Prop
  | [], _, _, m => m = []
  | t :: l, p, j, m => ∃ y m', m = y :: m' ∧ t.rp F (p.cl j) y ∧ tupOK F l p (j + 1) m'
/-- A result, or several ones. -/
def resOK (F : Fz) (ts : List Tm) (p : PV) (v : Value) : Prop := match ts with
  | [t] => t.rp F p v
  | ts => ∃ a, v = .tuple a ∧ tupOK F ts p 0 a.toList
theorem cellsOK.mono {F F' : Fz} (h : F.le F') : ∀ {l : List Sh} {p : PV} {j : Nat} {m : List Value}, cellsOK F l p j m → cellsOK F' l p j m
  | [], _, _, _, k => k
  | s :: l, p, j, m, ⟨y, m', h1, h2, h3⟩ => ⟨y, m', h1, h2.mono h, h3.mono h⟩
theorem Tm.rp.mono {F F' : Fz} (h : F.le F') {t : Tm} {p : PV} {v : Value} (k : t.rp F p v) : t.rp F' p v := by
  cases t with
  | sh s => exact Sh.rp.mono h k
  | agg l => obtain ⟨a, h1, h2⟩ := k; exact ⟨a, h1, h2.mono h⟩
theorem argsOK.mono {F F' : Fz} (h : F.le F') : ∀ {l : List Tm} {ps : List PV} {m : List Value}, argsOK F l ps m → argsOK F' l ps m
  | [], _, _, k => k
  | t :: l, ps, m, ⟨p, ps', y, m', h1, h2, h3, h4⟩ => ⟨p, ps', y, m', h1, h2, h3.mono h, h4.mono h⟩
theorem tupOK.mono {F F' : Fz} (h : F.le F') : ∀ {l : List Tm} {p : PV} {j : Nat} {m : List Value}, tupOK F l p j m → tupOK F' l p j m
  | [], _, _, _, k => k
  | t :: l, p, j, m, ⟨y, m', h1, h2, h3⟩ => ⟨y, m', h1, h2.mono h, h3.mono h⟩
theorem resOK_mono {F F' : Fz} (h : F.le F') {ts : List Tm} {p : PV} {v : Value} (k : resOK F ts p v) : resOK F' ts p v := by
  have many : (∃ a, v = .tuple a ∧ tupOK F ts p 0 a.toList) → ∃ a, v = .tuple a ∧ tupOK F' ts p 0 a.toList := fun ⟨a, h1, h2⟩ => ⟨a, h1, h2.mono h⟩
  cases ts with
  | nil => exact many k
  | cons t l =>
    cases l with
    | nil => exact Tm.rp.mono h k
    | cons _ _ => exact many k
section
variable [Sy] [Dc] [DcOK]
/-- What a template holds, told. -/
noncomputable def mkC (e : Xp) (l : List Sh) : Nat → List AV := List.rec (motive := fun _ => Nat → List AV) (fun _ => []) (fun s _ ih j => .sx s (.cell e j) :: ih (Nat.succ j)) l
noncomputable def mkT (t : Tm) (e : Xp) : AV := match t with
  | .sh s => .sx s e
  | .agg l => .agg (mkC e l 0)
noncomputable def mkTs (e : Xp) (l : List Tm) : Nat → List AV := List.rec (motive := fun _ => Nat → List AV) (fun _ => []) (fun t _ ih j => mkT t (.cell e j) :: ih (Nat.succ j)) l
noncomputable def mkR (ts : List Tm) (e : Xp) : AV := match ts with
  | [t] => mkT t e
  | ts => .tup (mkTs e ts 0)
noncomputable def mkA (l : List Tm) : Nat → List AV := List.rec (motive := fun _ => Nat → List AV) (fun _ => []) (fun t _ ih j => mkT t (.var j) :: ih (Nat.succ j)) l
theorem mkC_rp {ρ : Pm} {e : Xp} : ∀ {l : List Sh} {j : Nat} {m : List Value}, cellsOK ρ.fz l e.den j m → AV.rps ρ (mkC e l j) m
  | [], j, m, h => rps_nil.2 h
  | s :: l, j, m, ⟨y, m', h1, h2, h3⟩ => rps_cons.2 ⟨y, m', h1, by simp only [AV.rp]; exact h2, mkC_rp h3⟩
theorem mkT_rp {ρ : Pm} {t : Tm} {e : Xp} {v : Value} (h : t.rp ρ.fz e.den v) : (mkT t e).rp ρ v := by
  cases t with
  | sh s => simp only [mkT, AV.rp]; exact h
  | agg l =>
    obtain ⟨a, rfl, h2⟩ := h
    simp only [mkT, AV.rp]
    exact ⟨a, rfl, mkC_rp h2⟩
theorem mkTs_rp {ρ : Pm} {e : Xp} : ∀ {l : List Tm} {j : Nat} {m : List Value}, tupOK ρ.fz l e.den j m → AV.rps ρ (mkTs e l j) m
  | [], j, m, h => rps_nil.2 h
  | t :: l, j, m, ⟨y, m', h1, h2, h3⟩ => rps_cons.2 ⟨y, m', h1, mkT_rp h2, mkTs_rp h3⟩
theorem mkR_rp {ρ : Pm} {ts : List Tm} {e : Xp} {v : Value} (h : resOK ρ.fz ts e.den v) : (mkR ts e).rp ρ v := by
  have many : (∃ a, v = .tuple a ∧ tupOK ρ.fz ts e.den 0 a.toList) → (AV.tup (mkTs e ts 0)).rp ρ v := fun ⟨a, h1, h2⟩ => by
    simp only [AV.rp]
    exact ⟨a, h1, mkTs_rp h2⟩
  cases ts with
  | nil => exact many h
  | cons t l =>
    cases l with
    | nil => exact mkT_rp h
    | cons _ _ => exact many h
theorem mkA_rp {ρ : Pm} : ∀ {l : List Tm} {j : Nat} {ps : List PV} {m : List Value}, (∀ i p, ps[i]? = some p → Sy.env (j + i) = p) → argsOK ρ.fz l ps m → AV.rps ρ (mkA l j) m
  | [], j, ps, m, he, h => rps_nil.2 h.2
  | t :: l, j, ps, m, he, ⟨p, ps', y, m', h1, h2, h3, h4⟩ => by
    subst h1
    refine rps_cons.2 ⟨y, m', h2, mkT_rp ?_, mkA_rp (fun i q hq => ?_) h4⟩
    · show t.rp ρ.fz (Sy.env j) y
      have h0 := he 0 p rfl
      rw [Nat.add_zero] at h0
      rw [h0]
      exact h3
    · rw [show j + 1 + i = j + (i + 1) by omega]
      exact he (i + 1) q (by simpa using hq)
noncomputable def matT (t : Tm) (x : AV) : Option Xp := match t with
  | .sh s => matS s x
  | .agg l => match x with
    | .agg m => matC l m
    | _ => none
noncomputable def matL (l : List Tm) : List AV → Option Xp := List.rec (motive := fun _ => List AV → Option Xp) (fun m => match m with | [] => some .nil | _ => none) (fun t _ ih m => match m with | x :: m => (matT t x).bind fun e => (ih m).bind fun r => some (.cons e r) | _ => none) l
noncomputable def matM (ts : List Tm) (x : AV) : Option Xp := match x with
  | .tup m => matL ts m
  | _ => none
noncomputable def matR (ts : List Tm) (x : AV) : Option Xp := match ts with
  | [t] => matT t x
  | ts => matM ts x
theorem matC_rp {ρ : Pm} : ∀ {l : List Sh} {m : List AV} {e : Xp} (h : matC l m = some e) {vs : List Value} (hx : AV.rps ρ m vs) {p : PV} {j : Nat} (hp : ∀ i q, e.den.t[i]? = some q → p.cl (j + i) = q), cellsOK ρ.fz l p j vs
  | [], m, e, h, vs, hx, p, j, hp => by
    cases m with
    | nil => rw [rps_nil] at hx; exact hx
    | cons _ _ => cases h
  | s :: l, m, e, h, vs, hx, p, j, hp => by
    cases m with
    | nil => cases h
    | cons x m =>
      obtain ⟨e1, h1, h2⟩ := bind_some' (show (matS s x).bind (fun e => (matC l m).bind fun r => some (.cons e r)) = some e from h)
      obtain ⟨e2, h3, h4⟩ := bind_some' h2
      injection h4 with h4
      subst h4
      rw [rps_cons] at hx
      obtain ⟨y, m', rfl, k1, k2⟩ := hx
      refine ⟨y, m', rfl, ?_, matC_rp h3 k2 fun i q hq => ?_⟩
      · rw [show p.cl j = e1.den from hp 0 _ rfl]
        exact matS_rp h1 k1
      · rw [show j + 1 + i = j + (i + 1) by omega]
        exact hp (i + 1) q (by show (e1.den :: e2.den.t)[i + 1]? = some q; simpa using hq)
theorem den_tup {e : Xp} (h : ∃ l, e.den = .tup l) : ∀ i q, e.den.t[i]? = some q → e.den.cl (0 + i) = q := fun i q hq => by
  obtain ⟨l, hl⟩ := h
  rw [hl] at hq ⊢
  have hq : l[i]? = some q := hq
  show l.getD (0 + i) default = q
  rw [Nat.zero_add, List.getD_eq_getElem?_getD, hq]
  rfl
theorem matC_tup : ∀ {l : List Sh} {m : List AV} {e : Xp} (h : matC l m = some e), ∃ l, e.den = .tup l
  | [], m, e, h => by
    cases m with
    | nil => injection h with h; subst h; exact ⟨_, rfl⟩
    | cons _ _ => cases h
  | s :: l, m, e, h => by
    cases m with
    | nil => cases h
    | cons x m =>
      obtain ⟨e1, h1, h2⟩ := bind_some' (show (matS s x).bind (fun e => (matC l m).bind fun r => some (.cons e r)) = some e from h)
      obtain ⟨e2, h3, h4⟩ := bind_some' h2
      injection h4 with h4
      subst h4
      exact ⟨_, rfl⟩
theorem matT_rp {ρ : Pm} {t : Tm} {x : AV} {e : Xp} (h : matT t x = some e) {v : Value} (hx : x.rp ρ v) : t.rp ρ.fz e.den v := by
  cases t with
  | sh s => exact matS_rp h hx
  | agg l =>
    cases x with
    | agg m =>
      simp only [AV.rp] at hx
      obtain ⟨a, rfl, hx⟩ := hx
      exact ⟨a, rfl, matC_rp h hx (den_tup (matC_tup h))⟩
    | _ => cases h
theorem matL_cons {t : Tm} {l : List Tm} {x : AV} {m : List AV} {e : Xp} (h : matL (t :: l) (x :: m) = some e) : ∃ e1 e2, e = .cons e1 e2 ∧ matT t x = some e1 ∧ matL l m = some e2 := by
  obtain ⟨e1, h1, h2⟩ := bind_some' (show (matT t x).bind (fun e => (matL l m).bind fun r => some (.cons e r)) = some e from h)
  obtain ⟨e2, h3, h4⟩ := bind_some' h2
  injection h4 with h4
  exact ⟨e1, e2, h4.symm, h1, h3⟩
theorem matL_args {ρ : Pm} : ∀ {l : List Tm} {m : List AV} {e : Xp} (h : matL l m = some e) {vs : List Value} (hx : AV.rps ρ m vs), argsOK ρ.fz l e.den.t vs
  | [], m, e, h, vs, hx => by
    cases m with
    | nil => injection h with h; subst h; rw [rps_nil] at hx; exact ⟨rfl, hx⟩
    | cons _ _ => cases h
  | t :: l, m, e, h, vs, hx => by
    cases m with
    | nil => cases h
    | cons x m =>
      obtain ⟨e1, e2, rfl, h1, h2⟩ := matL_cons h
      rw [rps_cons] at hx
      obtain ⟨y, m', rfl, k1, k2⟩ := hx
      exact ⟨e1.den, e2.den.t, y, m', rfl, rfl, matT_rp h1 k1, matL_args h2 k2⟩
theorem matL_tup {ρ : Pm} : ∀ {l : List Tm} {m : List AV} {e : Xp} (h : matL l m = some e) {vs : List Value} (hx : AV.rps ρ m vs) {p : PV} {j : Nat} (hp : ∀ i q, e.den.t[i]? = some q → p.cl (j + i) = q), tupOK ρ.fz l p j vs
  | [], m, e, h, vs, hx, p, j, hp => by
    cases m with
    | nil => rw [rps_nil] at hx; exact hx
    | cons _ _ => cases h
  | t :: l, m, e, h, vs, hx, p, j, hp => by
    cases m with
    | nil => cases h
    | cons x m =>
      obtain ⟨e1, e2, rfl, h1, h2⟩ := matL_cons h
      rw [rps_cons] at hx
      obtain ⟨y, m', rfl, k1, k2⟩ := hx
      refine ⟨y, m', rfl, ?_, matL_tup h2 k2 fun i q hq => ?_⟩
      · rw [show p.cl j = e1.den from hp 0 _ rfl]
        exact matT_rp h1 k1
      · rw [show j + 1 + i = j + (i + 1) by omega]
        exact hp (i + 1) q (by show (e1.den :: e2.den.t)[i + 1]? = some q; simpa using hq)
theorem matL_den : ∀ {l : List Tm} {m : List AV} {e : Xp} (h : matL l m = some e), ∃ l, e.den = .tup l
  | [], m, e, h => by
    cases m with
    | nil => injection h with h; subst h; exact ⟨_, rfl⟩
    | cons _ _ => cases h
  | t :: l, m, e, h => by
    cases m with
    | nil => cases h
    | cons x m =>
      obtain ⟨e1, e2, rfl, h1, h2⟩ := matL_cons h
      exact ⟨_, rfl⟩
theorem matR_rp {ρ : Pm} {ts : List Tm} {x : AV} {e : Xp} (h : matR ts x = some e) {v : Value} (hx : x.rp ρ v) : resOK ρ.fz ts e.den v := by
  have many : matM ts x = some e → ∃ a, v = .tuple a ∧ tupOK ρ.fz ts e.den 0 a.toList := fun h => by
    cases x with
    | tup m =>
      simp only [AV.rp] at hx
      obtain ⟨a, rfl, hx⟩ := hx
      have h : matL ts m = some e := h
      exact ⟨a, rfl, matL_tup h hx (den_tup (matL_den h))⟩
    | _ => cases h
  cases ts with
  | nil => exact many h
  | cons t l =>
    cases l with
    | nil => exact matT_rp h hx
    | cons _ _ => exact many h
end
end Go.Proofs.YtdkgckgpdogimaaGreatDoor

