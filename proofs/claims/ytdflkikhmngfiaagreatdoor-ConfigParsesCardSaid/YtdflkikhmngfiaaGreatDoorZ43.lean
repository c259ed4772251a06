/- What every right program reads of some texts: by the machine, Parse told. -/
import Derived.Test.YtdflkikhmngfiaaGreatDoorZ40
namespace Go.Proofs.YtdflkikhmngfiaaGreatDoor
open Go.RowKit
set_option linter.unusedVariables false
set_option linter.unusedSimpArgs false
set_option linter.unusedSectionVars false
set_option maxRecDepth 100000

/-- Which functions an expression asks. -/
def Xp.apps (l : List Nat) : Xp → Bool
  | .var _ | .int _ | .bool _ | .str _ | .nil | .lnil => true
  | .wrap _ a | .not a | .lens a | .lenl a | .cell a _ | .ofB a | .toB a => a.apps l
  | .bin _ _ a b | .cmpi _ a b | .eqs a b | .eqb a b | .cat a b | .at a b | .inb a b | .get a b _ _ | .cons a b | .snoc a b | .catl a b => a.apps l && b.apps l
  | .subs a b c | .subl a b c | .rng a b c => a.apps l && (b.apps l && c.apps l)
  | .app f a => l.contains f && a.apps l
theorem and2 {a b : Bool} (h : (a && b) = true) : a = true ∧ b = true := by rwa [Bool.and_eq_true] at h
theorem den_apps {S1 S2 : Sy} {l : List Nat} (h1 : S1.env = S2.env) (h2 : ∀ f ∈ l, S1.fn f = S2.fn f) : ∀ e : Xp, e.apps l = true → @Xp.den S1 e = @Xp.den S2 e
  | .var i, _ => congrFun h1 i
  | .int n, _ => rfl
  | .bool b, _ => rfl
  | .str s, _ => rfl
  | .nil, _ => rfl
  | .lnil, _ => rfl
  | .wrap k a, h => by simp only [Xp.den, den_apps h1 h2 a h]
  | .not a, h => by simp only [Xp.den, den_apps h1 h2 a h]
  | .lens a, h => by simp only [Xp.den, den_apps h1 h2 a h]
  | .lenl a, h => by simp only [Xp.den, den_apps h1 h2 a h]
  | .cell a j, h => by simp only [Xp.den, den_apps h1 h2 a h]
  | .ofB a, h => by simp only [Xp.den, den_apps h1 h2 a h]
  | .toB a, h => by simp only [Xp.den, den_apps h1 h2 a h]
  | .bin o k a b, h => by simp only [Xp.den, den_apps h1 h2 a (and2 h).1, den_apps h1 h2 b (and2 h).2]
  | .cmpi o a b, h => by simp only [Xp.den, den_apps h1 h2 a (and2 h).1, den_apps h1 h2 b (and2 h).2]
  | .eqs a b, h => by simp only [Xp.den, den_apps h1 h2 a (and2 h).1, den_apps h1 h2 b (and2 h).2]
  | .eqb a b, h => by simp only [Xp.den, den_apps h1 h2 a (and2 h).1, den_apps h1 h2 b (and2 h).2]
  | .cat a b, h => by simp only [Xp.den, den_apps h1 h2 a (and2 h).1, den_apps h1 h2 b (and2 h).2]
  | .at a b, h => by simp only [Xp.den, den_apps h1 h2 a (and2 h).1, den_apps h1 h2 b (and2 h).2]
  | .inb a b, h => by simp only [Xp.den, den_apps h1 h2 a (and2 h).1, den_apps h1 h2 b (and2 h).2]
  | .get a b z j, h => by simp only [Xp.den, den_apps h1 h2 a (and2 h).1, den_apps h1 h2 b (and2 h).2]
  | .cons a b, h => by simp only [Xp.den, den_apps h1 h2 a (and2 h).1, den_apps h1 h2 b (and2 h).2]
  | .snoc a b, h => by simp only [Xp.den, den_apps h1 h2 a (and2 h).1, den_apps h1 h2 b (and2 h).2]
  | .catl a b, h => by simp only [Xp.den, den_apps h1 h2 a (and2 h).1, den_apps h1 h2 b (and2 h).2]
  | .subs a b c, h => by simp only [Xp.den, den_apps h1 h2 a (and2 h).1, den_apps h1 h2 b (and2 (and2 h).2).1, den_apps h1 h2 c (and2 (and2 h).2).2]
  | .subl a b c, h => by simp only [Xp.den, den_apps h1 h2 a (and2 h).1, den_apps h1 h2 b (and2 (and2 h).2).1, den_apps h1 h2 c (and2 (and2 h).2).2]
  | .rng a b c, h => by simp only [Xp.den, den_apps h1 h2 a (and2 h).1, den_apps h1 h2 b (and2 (and2 h).2).1, den_apps h1 h2 c (and2 (and2 h).2).2]
  | .app f a, h => by simp only [Xp.den, den_apps h1 h2 a (and2 h).2, h2 f (by simpa using (and2 h).1)]
def Tre.apps (l : List Nat) : Tre → Bool
  | .leaf e => e.apps l
  | .br c t f => c.apps l && (t.apps l && f.apps l)
  | .must c t => c.apps l && t.apps l
theorem ev_apps {S1 S2 : Sy} {l : List Nat} (h1 : S1.env = S2.env) (h2 : ∀ f ∈ l, S1.fn f = S2.fn f) : ∀ T : Tre, T.apps l = true → @Tre.ev S1 T = @Tre.ev S2 T
  | .leaf e, h => by unfold Tre.ev; rw [den_apps h1 h2 e h]
  | .br c t f, h => by unfold Tre.ev; rw [den_apps h1 h2 c (and2 h).1, ev_apps h1 h2 t (and2 (and2 h).2).1, ev_apps h1 h2 f (and2 (and2 h).2).2]
  | .must c t, h => by unfold Tre.ev; rw [den_apps h1 h2 c (and2 h).1, ev_apps h1 h2 t (and2 h).2]
theorem evP_apps {S1 S2 : Sy} {T : Tre} (l : List Nat) (hT : T.apps l = true) (h2 : ∀ f ∈ l, S1.fn f = S2.fn f) (ps : List PV) : @evP S1 T ps = @evP S2 T ps := by
  unfold evP
  rw [ev_apps (S1 := S1.at (envL ps)) (S2 := S2.at (envL ps)) rfl h2 T hT]
/-- The functions that Check asks. -/
def ckFn (n : Nat) (ps : List PV) : PV := match n with
  | 13 => @evP bareSy hyT ps
  | 14 => poolF (ps.headD default).i
  | _ => default
@[reducible] def ckSy : Sy := ⟨fun _ => default, ckFn, fun _ _ => none, fun _ _ => True, fun _ => none, fun _ _ => trivial, fun _ _ => trivial⟩
def ckP (ps : List PV) : PV := @evP ckSy ckT ps
theorem hy_apps : hyT.apps [] = true := by kernel_rfl
theorem ck_apps : ckT.apps [13, 14] = true := by kernel_rfl
theorem check_is {S : Sy} (hS : CkS S) (ps : List PV) : S.fn 12 ps = ckP ps := by
  rw [hS.check]
  refine evP_apps [13, 14] ck_apps (fun f hf => ?_) ps
  simp only [List.mem_cons, List.not_mem_nil, or_false] at hf
  rcases hf with rfl | rfl
  · funext qs
    rw [hS.hyst]
    exact evP_apps (S2 := bareSy) [] hy_apps (fun _ h => (List.not_mem_nil h).elim) qs
  · funext qs
    rw [hS.pool]
    rfl
def goP (s : ByteArray) : Sum (Nat × Int) PV := match goF (linesF s) usC [] with
  | .inl p => .inl p
  | .inr q => .inr (rowC q.1)
theorem parseF_inl {S : Sy} {s : ByteArray} {n : Nat} {e : Int} (h : goP s = .inl (n, e)) : @parseF S s = .tup [zeroC, .int n, .int e] := by
  unfold goP at h
  unfold parseF
  split at h
  · rename_i p hp
    injection h with h
    rw [hp, h]
  · cases h
theorem parseF_inr {S : Sy} (hS : CkS S) {s : ByteArray} {r : PV} (h : goP s = .inr r) : @parseF S s = if (ckP [r]).i = 0 then .tup [r, .int 0, .int 0] else .tup [zeroC, .int 0, .int (ckP [r]).i] := by
  unfold goP at h
  unfold parseF
  split at h
  · cases h
  · rename_i q hq
    injection h with h
    rw [hq]
    show (if (S.fn 12 [rowC q.1]).i = 0 then _ else _) = _
    rw [check_is hS, h]
def tx0 : List Nat := [99, 97, 112, 32, 53, 32, 35, 32, 115, 109, 97, 108, 108, 10, 10, 32, 32, 119, 97, 105, 116, 32, 32, 32, 55, 32, 10, 35, 32, 120]
def tr0 : PV := .tup [.int 8, .int 16, .int 1, .int 10, .int 100, .int 5, .int 20, .int 1, .int 1, .int 5, .int 4, .int 8, .int 4, .int 10, .int 7]
theorem go0 : goP (bytesOf tx0) = .inr tr0 := by kernel_rfl
theorem ck0 : (ckP [tr0]).i = 0 := by kernel_rfl
noncomputable def tv0 : AV := .tup [.agg [.int .i64 8, .int .i64 16, .int .i64 1, .int .i64 10, .int .i64 100, .int .i64 5, .int .i64 20, .int .i64 1, .int .i64 1, .int .i64 5, .int .i64 4, .int .i64 8, .int .i64 4, .int .i64 10, .int .i64 7], .int .i64 0, .int .i64 0]
def tx1 : List Nat := [99, 97, 112, 32, 53, 10, 99, 97, 112, 32, 54]
theorem go1 : goP (bytesOf tx1) = .inl (2, 12) := by kernel_rfl
noncomputable def tv1 : AV := .tup [.agg [.int .i64 0, .int .i64 0, .int .i64 0, .int .i64 0, .int .i64 0, .int .i64 0, .int .i64 0, .int .i64 0, .int .i64 0, .int .i64 0, .int .i64 0, .int .i64 0, .int .i64 0, .int .i64 0, .int .i64 0], .int .i64 2, .int .i64 12]
def tx2 : List Nat := [115, 116, 114, 101, 97, 109, 115, 32, 48]
def tr2 : PV := .tup [.int 8, .int 0, .int 1, .int 10, .int 100, .int 5, .int 20, .int 1, .int 1, .int 1000, .int 4, .int 8, .int 4, .int 10, .int 100]
theorem go2 : goP (bytesOf tx2) = .inr tr2 := by kernel_rfl
theorem ck2 : (ckP [tr2]).i = 8 := by kernel_rfl
noncomputable def tv2 : AV := .tup [.agg [.int .i64 0, .int .i64 0, .int .i64 0, .int .i64 0, .int .i64 0, .int .i64 0, .int .i64 0, .int .i64 0, .int .i64 0, .int .i64 0, .int .i64 0, .int .i64 0, .int .i64 0, .int .i64 0, .int .i64 0], .int .i64 0, .int .i64 8]
def tx3 : List Nat := [99, 97, 112, 32, 53, 10, 104, 97, 116, 32, 54]
theorem go3 : goP (bytesOf tx3) = .inl (2, 11) := by kernel_rfl
noncomputable def tv3 : AV := .tup [.agg [.int .i64 0, .int .i64 0, .int .i64 0, .int .i64 0, .int .i64 0, .int .i64 0, .int .i64 0, .int .i64 0, .int .i64 0, .int .i64 0, .int .i64 0, .int .i64 0, .int .i64 0, .int .i64 0, .int .i64 0], .int .i64 2, .int .i64 11]
/-- Parse, told at these texts. -/
noncomputable def parseM (args : List AV) : M AV := match args with
  | [.str l] => bif eqL l tx0 then ret tv0 else bif eqL l tx1 then ret tv1 else bif eqL l tx2 then ret tv2 else bif eqL l tx3 then ret tv3 else fail [900]
  | _ => fail [901]
noncomputable def cfF (f : FuncId) : Option (List AV → M AV) := bif Nat.beq f 27 then some itoaM else bif Nat.beq f 5 then some parseM else none
noncomputable def cfOra : Ora := ⟨cfF, fun _ _ => .no⟩
theorem cfF_cases {f : FuncId} {g : List AV → M AV} (h : cfF f = some g) : (f = 27 ∧ g = itoaM) ∨ (f = 5 ∧ g = parseM) := by
  unfold cfF at h
  cases h1 : Nat.beq f 27 with
  | true => rw [h1] at h; injection h with h; exact .inl ⟨Nat.eq_of_beq_eq_true h1, h.symm⟩
  | false =>
    rw [h1] at h
    cases h2 : Nat.beq f 5 with
    | true => rw [h2] at h; injection h with h; exact .inr ⟨Nat.eq_of_beq_eq_true h2, h.symm⟩
    | false => rw [h2] at h; cases h
theorem loc_parseM [Sy] [Dc] [DcOK] (args : List AV) : Loc (parseM args) := by
  unfold parseM
  split
  · rename_i l
    cases eqL l tx0 with
    | true => exact Loc.ret _
    | false =>
      cases eqL l tx1 with
      | true => exact Loc.ret _
      | false =>
        cases eqL l tx2 with
        | true => exact Loc.ret _
        | false =>
          cases eqL l tx3 with
          | true => exact Loc.ret _
          | false => exact Loc.fail _
  · exact Loc.fail _
theorem cf_loc [Sy] [Dc] [DcOK] : OraLoc cfOra := fun f g h args => by
  rcases cfF_cases h with ⟨_, rfl⟩ | ⟨_, rfl⟩
  · exact loc_itoaM args
  · exact loc_parseM args
section
variable [S : Sy] [Dc] [DcOK]
theorem tv_ok (hS : PaS S) (l : List Nat) (x : AV) (h : (l = tx0 ∧ x = tv0) ∨ (l = tx1 ∧ x = tv1) ∨ (l = tx2 ∧ x = tv2) ∨ (l = tx3 ∧ x = tv3)) {ρ : Pm} : x.rp ρ (.tuple #[.agg (cfgV ((parseF (bytesOf l)).cl 0)), .int .i64 ((parseF (bytesOf l)).cl 1).i, .int .i64 ((parseF (bytesOf l)).cl 2).i]) ∧ (bytesOf l).size ≤ 60000 := by
  have cells : ∀ (m : List AV) (vs : List Value), AV.rps ρ m vs → AV.rps ρ m vs := fun _ _ h => h
  rcases h with ⟨rfl, rfl⟩ | ⟨rfl, rfl⟩ | ⟨rfl, rfl⟩ | ⟨rfl, rfl⟩
  · rw [parseF_inr hS.toCkS go0, ck0, if_pos rfl]
    refine ⟨?_, by decide⟩
    unfold tv0
    simp only [AV.rp]
    refine ⟨_, rfl, rps_cons.2 ⟨_, _, rfl, ?_, rps_cons.2 ⟨_, _, rfl, ?_, rps_cons.2 ⟨_, _, rfl, ?_, rps_nil.2 rfl⟩⟩⟩⟩
    · simp only [AV.rp]
      exact ⟨_, rfl, rps_cons.2 ⟨_, _, rfl, by (simp only [AV.rp]; try rfl), rps_cons.2 ⟨_, _, rfl, by (simp only [AV.rp]; try rfl), rps_cons.2 ⟨_, _, rfl, by (simp only [AV.rp]; try rfl), rps_cons.2 ⟨_, _, rfl, by (simp only [AV.rp]; try rfl), rps_cons.2 ⟨_, _, rfl, by (simp only [AV.rp]; try rfl), rps_cons.2 ⟨_, _, rfl, by (simp only [AV.rp]; try rfl), rps_cons.2 ⟨_, _, rfl, by (simp only [AV.rp]; try rfl), rps_cons.2 ⟨_, _, rfl, by (simp only [AV.rp]; try rfl), rps_cons.2 ⟨_, _, rfl, by (simp only [AV.rp]; try rfl), rps_cons.2 ⟨_, _, rfl, by (simp only [AV.rp]; try rfl), rps_cons.2 ⟨_, _, rfl, by (simp only [AV.rp]; try rfl), rps_cons.2 ⟨_, _, rfl, by (simp only [AV.rp]; try rfl), rps_cons.2 ⟨_, _, rfl, by (simp only [AV.rp]; try rfl), rps_cons.2 ⟨_, _, rfl, by (simp only [AV.rp]; try rfl), rps_cons.2 ⟨_, _, rfl, by (simp only [AV.rp]; try rfl), rps_nil.2 rfl⟩⟩⟩⟩⟩⟩⟩⟩⟩⟩⟩⟩⟩⟩⟩⟩
    · simp only [AV.rp]; try rfl
    · simp only [AV.rp]; try rfl
  · rw [parseF_inl go1]
    refine ⟨?_, by decide⟩
    unfold tv1
    simp only [AV.rp]
    refine ⟨_, rfl, rps_cons.2 ⟨_, _, rfl, ?_, rps_cons.2 ⟨_, _, rfl, ?_, rps_cons.2 ⟨_, _, rfl, ?_, rps_nil.2 rfl⟩⟩⟩⟩
    · simp only [AV.rp]
      exact ⟨_, rfl, rps_cons.2 ⟨_, _, rfl, by (simp only [AV.rp]; try rfl), rps_cons.2 ⟨_, _, rfl, by (simp only [AV.rp]; try rfl), rps_cons.2 ⟨_, _, rfl, by (simp only [AV.rp]; try rfl), rps_cons.2 ⟨_, _, rfl, by (simp only [AV.rp]; try rfl), rps_cons.2 ⟨_, _, rfl, by (simp only [AV.rp]; try rfl), rps_cons.2 ⟨_, _, rfl, by (simp only [AV.rp]; try rfl), rps_cons.2 ⟨_, _, rfl, by (simp only [AV.rp]; try rfl), rps_cons.2 ⟨_, _, rfl, by (simp only [AV.rp]; try rfl), rps_cons.2 ⟨_, _, rfl, by (simp only [AV.rp]; try rfl), rps_cons.2 ⟨_, _, rfl, by (simp only [AV.rp]; try rfl), rps_cons.2 ⟨_, _, rfl, by (simp only [AV.rp]; try rfl), rps_cons.2 ⟨_, _, rfl, by (simp only [AV.rp]; try rfl), rps_cons.2 ⟨_, _, rfl, by (simp only [AV.rp]; try rfl), rps_cons.2 ⟨_, _, rfl, by (simp only [AV.rp]; try rfl), rps_cons.2 ⟨_, _, rfl, by (simp only [AV.rp]; try rfl), rps_nil.2 rfl⟩⟩⟩⟩⟩⟩⟩⟩⟩⟩⟩⟩⟩⟩⟩⟩
    · simp only [AV.rp]; try rfl
    · simp only [AV.rp]; try rfl
  · rw [parseF_inr hS.toCkS go2, ck2, if_neg (by decide)]
    refine ⟨?_, by decide⟩
    unfold tv2
    simp only [AV.rp]
    refine ⟨_, rfl, rps_cons.2 ⟨_, _, rfl, ?_, rps_cons.2 ⟨_, _, rfl, ?_, rps_cons.2 ⟨_, _, rfl, ?_, rps_nil.2 rfl⟩⟩⟩⟩
    · simp only [AV.rp]
      exact ⟨_, rfl, rps_cons.2 ⟨_, _, rfl, by (simp only [AV.rp]; try rfl), rps_cons.2 ⟨_, _, rfl, by (simp only [AV.rp]; try rfl), rps_cons.2 ⟨_, _, rfl, by (simp only [AV.rp]; try rfl), rps_cons.2 ⟨_, _, rfl, by (simp only [AV.rp]; try rfl), rps_cons.2 ⟨_, _, rfl, by (simp only [AV.rp]; try rfl), rps_cons.2 ⟨_, _, rfl, by (simp only [AV.rp]; try rfl), rps_cons.2 ⟨_, _, rfl, by (simp only [AV.rp]; try rfl), rps_cons.2 ⟨_, _, rfl, by (simp only [AV.rp]; try rfl), rps_cons.2 ⟨_, _, rfl, by (simp only [AV.rp]; try rfl), rps_cons.2 ⟨_, _, rfl, by (simp only [AV.rp]; try rfl), rps_cons.2 ⟨_, _, rfl, by (simp only [AV.rp]; try rfl), rps_cons.2 ⟨_, _, rfl, by (simp only [AV.rp]; try rfl), rps_cons.2 ⟨_, _, rfl, by (simp only [AV.rp]; try rfl), rps_cons.2 ⟨_, _, rfl, by (simp only [AV.rp]; try rfl), rps_cons.2 ⟨_, _, rfl, by (simp only [AV.rp]; try rfl), rps_nil.2 rfl⟩⟩⟩⟩⟩⟩⟩⟩⟩⟩⟩⟩⟩⟩⟩⟩
    · simp only [AV.rp]; try rfl
    · simp only [AV.rp]; try rfl
  · rw [parseF_inl go3]
    refine ⟨?_, by decide⟩
    unfold tv3
    simp only [AV.rp]
    refine ⟨_, rfl, rps_cons.2 ⟨_, _, rfl, ?_, rps_cons.2 ⟨_, _, rfl, ?_, rps_cons.2 ⟨_, _, rfl, ?_, rps_nil.2 rfl⟩⟩⟩⟩
    · simp only [AV.rp]
      exact ⟨_, rfl, rps_cons.2 ⟨_, _, rfl, by (simp only [AV.rp]; try rfl), rps_cons.2 ⟨_, _, rfl, by (simp only [AV.rp]; try rfl), rps_cons.2 ⟨_, _, rfl, by (simp only [AV.rp]; try rfl), rps_cons.2 ⟨_, _, rfl, by (simp only [AV.rp]; try rfl), rps_cons.2 ⟨_, _, rfl, by (simp only [AV.rp]; try rfl), rps_cons.2 ⟨_, _, rfl, by (simp only [AV.rp]; try rfl), rps_cons.2 ⟨_, _, rfl, by (simp only [AV.rp]; try rfl), rps_cons.2 ⟨_, _, rfl, by (simp only [AV.rp]; try rfl), rps_cons.2 ⟨_, _, rfl, by (simp only [AV.rp]; try rfl), rps_cons.2 ⟨_, _, rfl, by (simp only [AV.rp]; try rfl), rps_cons.2 ⟨_, _, rfl, by (simp only [AV.rp]; try rfl), rps_cons.2 ⟨_, _, rfl, by (simp only [AV.rp]; try rfl), rps_cons.2 ⟨_, _, rfl, by (simp only [AV.rp]; try rfl), rps_cons.2 ⟨_, _, rfl, by (simp only [AV.rp]; try rfl), rps_cons.2 ⟨_, _, rfl, by (simp only [AV.rp]; try rfl), rps_nil.2 rfl⟩⟩⟩⟩⟩⟩⟩⟩⟩⟩⟩⟩⟩⟩⟩⟩
    · simp only [AV.rp]; try rfl
    · simp only [AV.rp]; try rfl
theorem parseM_snd (hS : PaS S) {B : Nat} {args : List AV} {lo : Nat} {h : Heap} {c : Nat} {lg : List Ev} {x : AV} {h' : Heap} {c' : Nat} {lg' : List Ev} (e : parseM args lo h c lg = .ok x h' c' lg') {ρ : Pm} {w : World} {vs : Array Value}
    (hr : Rep B ρ h w) (hv : AV.rps ρ args vs.toList) : CallRes Tryz.prog B 5 vs ρ w x h' := by
  unfold parseM at e
  split at e
  · rename_i l
    obtain ⟨v, rfl, h1⟩ := rps_l1 hv
    simp only [AV.rp] at h1
    obtain ⟨hb, rfl⟩ := h1
    have fin : ∀ y : AV, ((l = tx0 ∧ y = tv0) ∨ (l = tx1 ∧ y = tv1) ∨ (l = tx2 ∧ y = tv2) ∨ (l = tx3 ∧ y = tv3)) → (ret y) lo h c lg = .ok x h' c' lg' → CallRes Tryz.prog B 5 #[.string (bytesOf l)] ρ w x h' := fun y hy e => by
      obtain ⟨rfl, rfl, _, _⟩ := ret_ok e
      obtain ⟨k1, k2⟩ := tv_ok hS l _ hy (ρ := ρ)
      refine .inl ⟨MuLone.run_callFunc_enter Tryz.func5 (prog_N _ _ _ Tryz.func5 rfl) rfl _ w, (parse_any hS (bytesOf l) k2 w (S.up hr.size hr.inv)).mono fun e w' ⟨h1, h2⟩ => ?_⟩
      exact ⟨ρ, _, h1, Pm.le.refl ρ, k1, hr.grow h2, below_grow hr h2⟩
    cases h0 : eqL l tx0 with
    | true => rw [h0] at e; rw [eqL_eq] at h0; exact fin _ (.inl ⟨eq_of_beq h0, rfl⟩) e
    | false =>
      rw [h0] at e
      cases h1 : eqL l tx1 with
      | true => rw [h1] at e; rw [eqL_eq] at h1; exact fin _ (.inr (.inl ⟨eq_of_beq h1, rfl⟩)) e
      | false =>
        rw [h1] at e
        cases h2 : eqL l tx2 with
        | true => rw [h2] at e; rw [eqL_eq] at h2; exact fin _ (.inr (.inr (.inl ⟨eq_of_beq h2, rfl⟩))) e
        | false =>
          rw [h2] at e
          cases h3 : eqL l tx3 with
          | true => rw [h3] at e; rw [eqL_eq] at h3; exact fin _ (.inr (.inr (.inr ⟨eq_of_beq h3, rfl⟩))) e
          | false => rw [h3] at e; cases e
  · cases e
theorem cf_snd (hS : LawS S) {B : Nat} {ρ0 : Pm} : OraSnd Tryz.prog B ρ0 cfOra := fun f g h args lo hp c lg x h' c' lg' e ρ w vs _ hr hv => by
  rcases cfF_cases h with ⟨rfl, rfl⟩ | ⟨rfl, rfl⟩
  · exact itoaM_snd e (hS.tab _ _ hr.inv) hr hv prog_N
  · exact parseM_snd hS.toPaS e hr hv
end
theorem aw_run : saysTrue (callM Tryz.prog cfOra (@exec noDc Tryz.prog (fun _ => none) cfOra 400) 4 [] 0 .leaf 0 []) = true := by kernel_rfl
theorem awake_any {S : Sy} (hS : LawS S) (hg : ∀ b, S.gh b = none) (W : World) (hi : S.inv W.heap.size W) : Calls Tryz.prog 4 #[] W fun e w' => e = .returned (.bool true) ∧ Below W.heap.size W w' := by
  letI : Dc := noDc
  haveI : DcOK := noDc_ok
  obtain ⟨h', c', lg', e⟩ := saysTrue_is aw_run
  refine (start_run (ora := cfOra) noGlob prog_N prog_mixed cf_loc (cf_snd hS) noTab rfl (Rep.startE hi (fun b o h => by rw [hg b] at h; cases h)) (rps_nil.2 rfl) e).mono ?_
  rintro e w' ⟨ρ, v, rfl, h0, h1, h2, h3⟩
  simp only [AV.rp] at h1
  rw [h1]
  exact ⟨rfl, h3⟩
end Go.Proofs.YtdflkikhmngfiaaGreatDoor

