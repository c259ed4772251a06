/- CfY · CpC: joined by a program, for a claim has at most 60 files. -/
import Derived.Test.YtdflkikhmngfiaaGreatDoorZ43
import Derived.Test.YtdflkikhmngfiaaGreatDoorZ30
import Derived.OpenShut
import Derived.Test.YtdflkikhmngfiaaGreatDoorZ41
import Derived.Test.YtdflkikhmngfiaaGreatDoorZ42
/- The functions' table. -/
namespace Go.Proofs.YtdflkikhmngfiaaGreatDoor
open Go.RowKit
set_option linter.unusedVariables false
set_option linter.unusedSimpArgs false
set_option linter.unusedSectionVars false
set_option maxRecDepth 100000

def argP (ps : List PV) (i : Nat) : PV := ps.getD i default
def chFn (n : Nat) (ps : List PV) : PV := match n with
  | 12 => ckP ps
  | _ => default
@[reducible] def chSy : Sy := ⟨fun _ => default, chFn, fun _ _ => none, fun _ _ => True, fun _ => none, fun _ _ => trivial, fun _ _ => trivial⟩
def cfFn (n : Nat) (ps : List PV) : PV := match n with
  | 0 => .str (decS (argP ps 0).i.toNat)
  | 1 => cutP (argP ps 0).s (argP ps 1).s
  | 2 => splitP (argP ps 0).s (argP ps 1).s
  | 3 => .lst ((wordsB (argP ps 0).s).map PV.str)
  | 4 => .tup [.int (numI (LL (argP ps 0).s)), .bool (numOk (LL (argP ps 0).s))]
  | 5 => .lst (dfTo (argP ps 0) (argP ps 1) 15)
  | 6 => .bool (samePV (argP ps 0).l (argP ps 1).l)
  | 7 => .str (prTo (argP ps 0) 15)
  | 8 => @parseF chSy (argP ps 0).s
  | 9 => @evP bareSy keysT ps
  | 10 => .bool true
  | 12 => ckP ps
  | 13 => @evP bareSy hyT ps
  | 14 => poolF (ps.headD default).i
  | 15 => usualP
  | 16 => @evP bareSy getT ps
  | 17 => @evP bareSy setT ps
  | 31 => .bool (decide ((argP ps 0).s.size < 4294967281))
  | 32 => .bool (decide ((argP ps 0).s.size < 4294967281 ∧ 1 ≤ (argP ps 1).s.size))
  | 33 => .bool (decide ((argP ps 0).s.size ≤ 60000))
  | 34 => .bool (decide ((argP ps 0).s.size ≤ maxLen))
  | 38 => .bool (decide ((argP ps 0).s.size ≤ 60000))
  | 90 => .bool (okNum (argP ps 0))
  | 93 => .bool (decide ((argP ps 0).l.length ≤ 100000))
  | 94 => .bool (okCfg (argP ps 0))
  | _ => default
@[reducible] def cfSy : Sy := ⟨fun _ => default, cfFn, fun _ _ => none, CfInv, fun _ => none, CfInv.up, CfInv.keep⟩
theorem get_apps : getT.apps [] = true := by kernel_rfl
theorem set_apps : setT.apps [] = true := by kernel_rfl
theorem keys_apps : keysT.apps [] = true := by kernel_rfl
theorem noapps {S1 S2 : Sy} {T : Tre} (hT : T.apps [] = true) (ps : List PV) : @evP S1 T ps = @evP S2 T ps := evP_apps [] hT (fun _ h => (List.not_mem_nil h).elim) ps
theorem lawS : LawS cfSy := {
  cut := fun _ _ => rfl, cutpre := fun _ _ => rfl, split := fun _ _ => rfl, splitpre := fun _ _ => rfl, words := fun _ => rfl, wordspre := fun _ => rfl,
  inv := fun _ _ h => h, num := fun _ => rfl, numpre := fun _ => rfl,
  hyst := fun ps => noapps hy_apps ps, pool := fun _ => rfl,
  check := fun ps => evP_apps [13, 14] ck_apps (fun f hf => by
    simp only [List.mem_cons, List.not_mem_nil, or_false] at hf
    rcases hf with rfl | rfl
    · rfl
    · rfl) ps,
  usual := rfl, num0 := fun _ => rfl, num0pre := fun _ => rfl, tab := fun _ _ h => h.1.1, print := fun _ => rfl, printpre := fun _ => rfl,
  get := fun ps => noapps get_apps ps, set := fun ps => noapps set_apps ps, keys := fun ps => noapps keys_apps ps,
  diff := fun _ _ => rfl, same := fun _ _ => rfl, samepre := fun _ _ => rfl, parse := fun _ => rfl, parsepre := fun _ => rfl }
noncomputable def fsAwake : Fs := ⟨4, [], [.sh .bool], 10, none⟩
theorem awake_ok : @FnOK cfSy Tryz.prog fsAwake := by
  refine ⟨fun w vs => MuLone.run_callFunc_enter Tryz.func4 (prog_N _ _ _ Tryz.func4 rfl) rfl vs w, fun F W ps vs hF hi ha hp => ?_⟩
  have hv : vs = #[] := by
    obtain ⟨_, h2⟩ := ha
    rw [← Array.toArray_toList (xs := vs), h2]
  subst hv
  refine (awake_any lawS (fun _ => rfl) W hi).mono ?_
  rintro e w' ⟨rfl, hb⟩
  exact ⟨_, rfl, by show @resOK _ _ (PV.bool true) _; simp only [resOK, Tm.rp, Sh.rp]; rfl, hb⟩
section
variable [S : Sy]
theorem ev_brT {c : Xp} {t f : Tre} {p : PV} (h : c.den = .bool true) (h2 : t.ev = some p) : (Tre.br c t f).ev = some p := by unfold Tre.ev; rw [h]; exact h2
theorem ev_brF {c : Xp} {t f : Tre} {p : PV} (h : c.den = .bool false) (h2 : f.ev = some p) : (Tre.br c t f).ev = some p := by unfold Tre.ev; rw [h]; exact h2
theorem ev_must {c : Xp} {t : Tre} {p : PV} (h : c.den = .bool true) (h2 : t.ev = some p) : (Tre.must c t).ev = some p := by unfold Tre.ev; rw [h]; exact h2
end
theorem row15 (p : PV) (l : List PV) (hl : p = .tup l) (h : l.length = 15) : PV.tup [p.cl 0, p.cl 1, p.cl 2, p.cl 3, p.cl 4, p.cl 5, p.cl 6, p.cl 7, p.cl 8, p.cl 9, p.cl 10, p.cl 11, p.cl 12, p.cl 13, p.cl 14] = p := by
  subst hl
  obtain ⟨a, b, c, d, e, f, g, h, i, j, k, l, m, n, o, rfl⟩ : ∃ a b c d e f g h i j k m n o q, l = [a, b, c, d, e, f, g, h, i, j, k, m, n, o, q] := by
    match l, h with
    | [a, b, c, d, e, f, g, h, i, j, k, m, n, o, q], _ => exact ⟨a, b, c, d, e, f, g, h, i, j, k, m, n, o, q, rfl⟩
  rfl
theorem samePV_refl (l : List PV) : samePV l l = true := decide_eq_true rfl
section
variable (env : Env)
theorem d6 {e : Xp} : @Xp.den (cfSy.at env) (.app 6 (.cons e (.cons e .nil))) = .bool true := by
  show PV.bool (samePV (@Xp.den (cfSy.at env) e).l (@Xp.den (cfSy.at env) e).l) = _
  rw [samePV_refl]
theorem d93 {e x : Xp} (h : (@Xp.den (cfSy.at env) e).l.length ≤ 100000) : @Xp.den (cfSy.at env) (.app 93 (.cons e x)) = .bool true := by
  show PV.bool (decide ((@Xp.den (cfSy.at env) e).l.length ≤ 100000)) = _
  rw [decide_eq_true h]
theorem d5 {a b : Xp} : (@Xp.den (cfSy.at env) (.app 5 (.cons a (.cons b .nil)))).l.length ≤ 100000 := by
  show (dfTo (@Xp.den (cfSy.at env) a) (@Xp.den (cfSy.at env) b) 15).length ≤ _
  exact Nat.le_trans (dfTo_len _ _ 15) (by decide)
theorem d9 : (@Xp.den (cfSy.at env) (.app 9 .nil)).l.length ≤ 100000 := by
  have : (@Xp.den (cfSy.at env) (.app 9 .nil)).l.length = 15 := by kernel_rfl
  rw [this]; decide
theorem d94 {e x : Xp} {c : PV} (he : @Xp.den (cfSy.at env) e = c) (h : okCfg c = true) : @Xp.den (cfSy.at env) (.app 94 (.cons e x)) = .bool true := by
  show PV.bool (okCfg (@Xp.den (cfSy.at env) e)) = _
  rw [he, h]
end
theorem cfg_args (F : Fz) (l : List Int) (h : l.length = 15) : (Tm.agg i15).rp F (.tup (l.map PV.int)) (.agg (l.map (Value.int .i64)).toArray) := by
  match l, h with
  | [a, b, c, d, e, f, g, h, i, j, k, m, n, o, q], _ => exact @cfgV_ok cfSy F (.tup [.int a, .int b, .int c, .int d, .int e, .int f, .int g, .int h, .int i, .int j, .int k, .int m, .int n, .int o, .int q])
theorem cfInv_of {W : World} (hT : Tab W) (hM : MaxC W) : CfInv W.heap.size W := by
  refine ⟨TabB.start hT, ?_, hM⟩
  obtain ⟨m, hm⟩ := hM
  exact World.block_lt_of_cell? _ _ hm
theorem okCfg_of {a0 a1 a2 a3 a4 a5 a6 a7 a8 a9 a10 a11 a12 a13 a14 : Int} (wa0 : (Lit.int .i64 a0).wf = true) (wa1 : (Lit.int .i64 a1).wf = true) (wa2 : (Lit.int .i64 a2).wf = true) (wa3 : (Lit.int .i64 a3).wf = true) (wa4 : (Lit.int .i64 a4).wf = true) (wa5 : (Lit.int .i64 a5).wf = true) (wa6 : (Lit.int .i64 a6).wf = true) (wa7 : (Lit.int .i64 a7).wf = true) (wa8 : (Lit.int .i64 a8).wf = true) (wa9 : (Lit.int .i64 a9).wf = true) (wa10 : (Lit.int .i64 a10).wf = true) (wa11 : (Lit.int .i64 a11).wf = true) (wa12 : (Lit.int .i64 a12).wf = true) (wa13 : (Lit.int .i64 a13).wf = true) (wa14 : (Lit.int .i64 a14).wf = true) : okCfg (.tup ([a0, a1, a2, a3, a4, a5, a6, a7, a8, a9, a10, a11, a12, a13, a14].map PV.int)) = true := by
  unfold okCfg
  refine List.all_eq_true.2 fun j hj => decide_eq_true ?_
  have hj := List.mem_range.1 hj
  have h : ∀ {n : Int}, (Lit.int .i64 n).wf = true → n ≤ 9223372036854775807 := fun h => (bounds_i64 h).2
  match j, hj with
  | 0, _ => exact h wa0
  | 1, _ => exact h wa1
  | 2, _ => exact h wa2
  | 3, _ => exact h wa3
  | 4, _ => exact h wa4
  | 5, _ => exact h wa5
  | 6, _ => exact h wa6
  | 7, _ => exact h wa7
  | 8, _ => exact h wa8
  | 9, _ => exact h wa9
  | 10, _ => exact h wa10
  | 11, _ => exact h wa11
  | 12, _ => exact h wa12
  | 13, _ => exact h wa13
  | 14, _ => exact h wa14
end Go.Proofs.YtdflkikhmngfiaaGreatDoor


/- The document's Lines, words, in, Place, Usual, Set, Number, Check, by contract. -/
namespace Go.Proofs.YtdflkikhmngfiaaGreatDoor
open Go.RowKit
set_option linter.unusedVariables false
set_option linter.unusedSimpArgs false
set_option linter.unusedSectionVars false
set_option maxRecDepth 100000

def inP (a b : PV) : Bool := a.l.any fun x => decide (x.s = b.s)
def placeT : Tre := .br (.eqs (.str [99, 111, 110, 110, 115]) (.var 0)) (.leaf (.int 0)) (.br (.eqs (.str [115, 116, 114, 101, 97, 109, 115]) (.var 0)) (.leaf (.int 1)) (.br (.eqs (.str [108, 101, 97, 115, 116]) (.var 0)) (.leaf (.int 2)) (.br (.eqs (.str [108, 111, 119]) (.var 0)) (.leaf (.int 3)) (.br (.eqs (.str [104, 105, 103, 104]) (.var 0)) (.leaf (.int 4)) (.br (.eqs (.str [113, 117, 105, 101, 116]) (.var 0)) (.leaf (.int 5)) (.br (.eqs (.str [98, 117, 114, 115, 116]) (.var 0)) (.leaf (.int 6)) (.br (.eqs (.str [114, 97, 116, 101]) (.var 0)) (.leaf (.int 7)) (.br (.eqs (.str [112, 101, 114]) (.var 0)) (.leaf (.int 8)) (.br (.eqs (.str [99, 97, 112]) (.var 0)) (.leaf (.int 9)) (.br (.eqs (.str [113, 117, 97, 110, 116, 117, 109]) (.var 0)) (.leaf (.int 10)) (.br (.eqs (.str [108, 105, 109, 105, 116]) (.var 0)) (.leaf (.int 11)) (.br (.eqs (.str [119, 111, 114, 107, 101, 114, 115]) (.var 0)) (.leaf (.int 12)) (.br (.eqs (.str [115, 101, 99, 111, 110, 100]) (.var 0)) (.leaf (.int 13)) (.br (.eqs (.str [119, 97, 105, 116]) (.var 0)) (.leaf (.int 14)) (.leaf (.int (-1)))))))))))))))))
/-- The numbers of the document's functions. -/
structure DocS (S : Sy) : Prop extends LawS S where
  lines : ∀ a, S.fn 40 [a] = .lst (((lnA [] (LL a.s)).map strL).map PV.str)
  linespre : ∀ a, S.fn 71 [a] = .bool (decide (a.s.size ≤ 60000))
  place : ∀ ps, S.fn 42 ps = evP placeT ps
  inn : ∀ a b, S.fn 43 [a, b] = .bool (inP a b)
  innpre : ∀ a b, S.fn 73 [a, b] = .bool (decide (a.l.length ≤ 100000))
theorem DocS.lo {S : Sy} (h : DocS S) (F : Fz) : DocS (S.lo F) := { h with }
theorem place_chk : chkA Tryz.prog [] 400 19 (mkA fsRPlace.ats 0) fsRPlace.rs placeT [] = true := by kernel_rfl
theorem rus_chk : chkA Tryz.prog [] 400 16 (mkA [] 0) [.agg i15] usT [] = true := by kernel_rfl
theorem lnA_len : ∀ (t acc : List UInt8), (lnA acc t).length ≤ t.length + 1
  | [], acc => by show (if acc.isEmpty then [] else [acc]).length ≤ _; split <;> simp
  | b :: t, acc => by
    show (if b = 10 then acc :: lnA [] t else lnA (acc ++ [b]) t).length ≤ _
    split
    · have := lnA_len t []
      simp only [List.length_cons]
      omega
    · have := lnA_len t (acc ++ [b])
      simp only [List.length_cons]
      omega
theorem wsA_len : ∀ (t acc : List UInt8), (wsA acc t).length ≤ t.length + 1
  | [], acc => by show (if acc.isEmpty then [] else [acc]).length ≤ _; split <;> simp
  | b :: t, acc => by
    show (if b = 35 then (if acc.isEmpty then [] else [acc]) else if b = 32 then (if acc.isEmpty then wsA [] t else acc :: wsA [] t) else wsA (acc ++ [b]) t).length ≤ _
    have h1 := wsA_len t []
    have h2 := wsA_len t (acc ++ [b])
    split
    · split <;> simp
    · split
      · split
        · simp only [List.length_cons]; omega
        · simp only [List.length_cons]; omega
      · simp only [List.length_cons]; omega
section
variable [S : Sy]
/-- Where Lines' loop stands: at byte i, lines out, and the line so far. -/
def DlI (env0 : Env) (i : Nat) (e : Env) : Prop := e 0 = env0 0 ∧ e 2 = .int i ∧ ∃ (o : List (List UInt8)) (acc : List UInt8), e 1 = .lst ((o.map strL).map PV.str) ∧ e 3 = .str (strL acc) ∧ o ++ lnA acc ((LL (env0 0).s).drop i) = lnA [] (LL (env0 0).s) ∧ acc.length ≤ i
theorem dl_all (env : Env) (hz : (env 0).s.size ≤ 60000) : dl_R env (.inr (.lst (((lnA [] (LL (env 0).s)).map strL).map PV.str))) := by
  have hn : (LL (env 0).s).length ≤ 60000 := by rw [LL_len]; exact hz
  have hT := lnA_len (LL (env 0).s) []
  obtain ⟨out, h1, e, rfl, o, acc, k1, k3, k4⟩ := loop_run (nE := 1) (R := fun _ => dl_B1) (DlI env) (fun out => ∃ e, out = .inl (0, e) ∧ ∃ (o : List (List UInt8)) (acc : List UInt8), e 1 = .lst ((o.map strL).map PV.str) ∧ e 3 = .str (strL acc) ∧ o ++ (if acc.isEmpty then [] else [acc]) = lnA [] (LL (env 0).s)) (LL (env 0).s).length
    (fun i e hi ⟨k0, k2, o, acc, k1, k3, k4, k5⟩ => by
      have a0 : (@Xp.den (S.at e) (.var 0)).s = (env 0).s := congrArg PV.s k0
      have a2 : @Xp.den (S.at e) (.var 2) = .int (i : Int) := k2
      have a3 : @Xp.den (S.at e) (.var 3) = .str (strL acc) := k3
      have c1 := ch_lt a0 a2
      by_cases h : i < (LL (env 0).s).length
      · rw [decide_eq_true h] at c1
        have c2 := ch_inb a0 a2 h
        have c3 := ch_eq a0 a2 h 10
        have hb : i < 4611686018427387904 := by omega
        have hd : (LL (env 0).s).drop i = (LL (env 0).s)[i] :: (LL (env 0).s).drop (i + 1) := List.drop_eq_getElem_cons h
        rw [hd] at k4
        by_cases hc : (LL (env 0).s)[i] = 10
        · rw [decide_eq_true hc] at c3
          have e4 : lnA acc ((LL (env 0).s)[i] :: (LL (env 0).s).drop (i + 1)) = acc :: lnA [] ((LL (env 0).s).drop (i + 1)) := if_pos hc
          rw [e4] at k4
          have c4 := ch_snoc (show @Xp.den (S.at e) (.var 1) = _ from k1) a3
          have ho : (o.map strL).map PV.str ++ [PV.str (strL acc)] = ((o ++ [acc]).map strL).map PV.str := by rw [List.map_append, List.map_append]; rfl
          rw [ho] at c4
          have hl : ((o ++ [acc]).map strL |>.map PV.str).length ≤ 100000 := by
            have := congrArg List.length k4
            simp only [List.length_append, List.length_cons, List.length_map, List.length_nil] at this ⊢
            omega
          refine .inl ⟨_, selR_at (T := dl_t5) ((sel_br c1).trans ((sel_must c2).trans ((sel_br c3).trans ((sel_must (ch_room c4 hl)).trans rfl)))), h, k0, ch_inc a2 hb, o ++ [acc], [], c4, rfl, ?_, Nat.zero_le _⟩
          rw [List.append_assoc]
          exact k4
        · rw [decide_eq_false hc] at c3
          have e4 : lnA acc ((LL (env 0).s)[i] :: (LL (env 0).s).drop (i + 1)) = lnA (acc ++ [(LL (env 0).s)[i]]) ((LL (env 0).s).drop (i + 1)) := if_neg hc
          rw [e4] at k4
          have c5 := ch_cat a3 (ch_sub a0 a2 h hb)
          refine .inl ⟨_, selR_at (T := dl_t5) ((sel_br c1).trans ((sel_must c2).trans ((sel_br c3).trans ((sel_must (ch_rng a0 a2 h hb)).trans ((sel_must (ch_size c5 (by simp; omega))).trans rfl))))), h, k0, ch_inc a2 hb, o, acc ++ [(LL (env 0).s)[i]], k1, c5, k4, by simp; omega⟩
      · rw [decide_eq_false h] at c1
        rw [List.drop_eq_nil_of_le (by omega)] at k4
        exact .inr (.inl ⟨0, _, by omega, selR_at (T := dl_t5) ((sel_br c1).trans rfl), _, rfl, o, acc, k1, k3, k4⟩))
    (LL (env 0).s).length 0 (@envOf (S.at (@envOf (S.at env) [.var 0])) [.var 0, .lnil, .int 0, .str []]) (by omega) ⟨rfl, rfl, [], [], rfl, rfl, rfl, Nat.zero_le _⟩
  refine then_on (selR_at (T := dl_t1) rfl) (by omega) (then_on (k := 0) (e := e) (then_on (selR_at (T := dl_t3) rfl) (by omega) h1) (by omega) ?_)
  have c1 := ch_none (show @Xp.den (S.at e) (.var 3) = .str (strL acc) from k3)
  cases ha : acc.isEmpty with
  | true =>
    rw [ha] at c1 k4
    have := selR_fin (T := dl_t7) (e := .var 1) ((sel_br c1).trans rfl)
    rw [show @Xp.den (S.at e) (.var 1) = _ from k1] at this
    rw [← k4, if_pos rfl, List.append_nil]
    exact this
  | false =>
    rw [ha] at c1 k4
    rw [if_neg Bool.false_ne_true] at k4
    have c4 := ch_snoc (show @Xp.den (S.at e) (.var 1) = _ from k1) (show @Xp.den (S.at e) (.var 3) = _ from k3)
    have ho : (o.map strL).map PV.str ++ [PV.str (strL acc)] = ((o ++ [acc]).map strL).map PV.str := by rw [List.map_append, List.map_append]; rfl
    rw [ho, k4] at c4
    have := selR_fin (T := dl_t7) (e := .snoc (.var 1) (.var 3)) ((sel_br c1).trans ((sel_must (ch_room c4 (by simp only [List.length_map]; omega))).trans rfl))
    rw [c4] at this
    exact this
/-- Where words' loop stands. -/
def DwI (env0 : Env) (i : Nat) (e : Env) : Prop := e 0 = env0 0 ∧ e 1 = .int i ∧ ∃ (o : List (List UInt8)) (acc : List UInt8), e 3 = .lst ((o.map strL).map PV.str) ∧ e 2 = .str (strL acc) ∧ o ++ wsA acc ((LL (env0 0).s).drop i) = wsA [] (LL (env0 0).s) ∧ acc.length ≤ i
theorem dw_all (env : Env) (hz : (env 0).s.size ≤ 60000) : dw_R env (.inr (.lst (((wsA [] (LL (env 0).s)).map strL).map PV.str))) := by
  have hn : (LL (env 0).s).length ≤ 60000 := by rw [LL_len]; exact hz
  have hT := wsA_len (LL (env 0).s) []
  obtain ⟨out, h1, e, rfl, o, acc, k1, k3, k4⟩ := loop_run (nE := 1) (R := fun _ => dw_B1) (DwI env) (fun out => ∃ e, out = .inl (0, e) ∧ ∃ (o : List (List UInt8)) (acc : List UInt8), e 3 = .lst ((o.map strL).map PV.str) ∧ e 2 = .str (strL acc) ∧ o ++ (if acc.isEmpty then [] else [acc]) = wsA [] (LL (env 0).s)) (LL (env 0).s).length
    (fun i e hi ⟨k0, k2, o, acc, k1, k3, k4, k5⟩ => by
      have a0 : (@Xp.den (S.at e) (.var 0)).s = (env 0).s := congrArg PV.s k0
      have a2 : @Xp.den (S.at e) (.var 1) = .int (i : Int) := k2
      have a3 : @Xp.den (S.at e) (.var 2) = .str (strL acc) := k3
      have c1 := ch_lt a0 a2
      by_cases h : i < (LL (env 0).s).length
      · rw [decide_eq_true h] at c1
        have c2 := ch_inb a0 a2 h
        have c3 := ch_eq a0 a2 h 35
        have c4 := ch_eq a0 a2 h 32
        have c5 := ch_none a3
        have hb : i < 4611686018427387904 := by omega
        have hd : (LL (env 0).s).drop i = (LL (env 0).s)[i] :: (LL (env 0).s).drop (i + 1) := List.drop_eq_getElem_cons h
        rw [hd] at k4
        generalize hcv : (LL (env 0).s)[i] = c at k4 c3 c4
        have e4 : wsA acc (c :: (LL (env 0).s).drop (i + 1)) = if c = 35 then (if acc.isEmpty then [] else [acc]) else if c = 32 then (if acc.isEmpty then wsA [] ((LL (env 0).s).drop (i + 1)) else acc :: wsA [] ((LL (env 0).s).drop (i + 1))) else wsA (acc ++ [c]) ((LL (env 0).s).drop (i + 1)) := rfl
        rw [e4] at k4
        by_cases hc : c = 35
        · rw [decide_eq_true hc] at c3
          rw [if_pos hc] at k4
          exact .inr (.inl ⟨0, _, by omega, selR_at (T := dw_t5) ((sel_br c1).trans ((sel_must c2).trans ((sel_br c3).trans rfl))), _, rfl, o, acc, k1, k3, k4⟩)
        rw [decide_eq_false hc] at c3
        rw [if_neg hc] at k4
        by_cases hc : c = 32
        · rw [decide_eq_true hc] at c4
          rw [if_pos hc] at k4
          cases ha : acc.isEmpty with
          | true =>
            rw [ha] at c5 k4
            rw [if_pos rfl] at k4
            obtain rfl : acc = [] := by simpa using ha
            exact .inl ⟨_, selR_at (T := dw_t5) ((sel_br c1).trans ((sel_must c2).trans ((sel_br c3).trans ((sel_br c4).trans ((sel_br c5).trans rfl))))), h, k0, ch_inc a2 hb, o, [], k1, k3, k4, Nat.zero_le _⟩
          | false =>
            rw [ha] at c5 k4
            rw [if_neg Bool.false_ne_true] at k4
            have c6 := ch_snoc (show @Xp.den (S.at e) (.var 3) = _ from k1) a3
            have ho : (o.map strL).map PV.str ++ [PV.str (strL acc)] = ((o ++ [acc]).map strL).map PV.str := by rw [List.map_append, List.map_append]; rfl
            rw [ho] at c6
            have hl : ((o ++ [acc]).map strL |>.map PV.str).length ≤ 100000 := by
              have := congrArg List.length k4
              simp only [List.length_append, List.length_cons, List.length_map, List.length_nil] at this ⊢
              omega
            refine .inl ⟨_, selR_at (T := dw_t5) ((sel_br c1).trans ((sel_must c2).trans ((sel_br c3).trans ((sel_br c4).trans ((sel_br c5).trans ((sel_must (ch_room c6 hl)).trans rfl)))))), h, k0, ch_inc a2 hb, o ++ [acc], [], c6, rfl, ?_, Nat.zero_le _⟩
            rw [List.append_assoc]
            exact k4
        · rw [decide_eq_false hc] at c4
          rw [if_neg hc] at k4
          have c6 := ch_cat a3 (ch_sub a0 a2 h hb)
          rw [hcv] at c6
          exact .inl ⟨_, selR_at (T := dw_t5) ((sel_br c1).trans ((sel_must c2).trans ((sel_br c3).trans ((sel_br c4).trans ((sel_must (ch_rng a0 a2 h hb)).trans ((sel_must (ch_size c6 (by simp; omega))).trans rfl)))))), h, k0, ch_inc a2 hb, o, acc ++ [c], k1, c6, k4, by simp; omega⟩
      · rw [decide_eq_false h] at c1
        rw [List.drop_eq_nil_of_le (by omega)] at k4
        exact .inr (.inl ⟨0, _, by omega, selR_at (T := dw_t5) ((sel_br c1).trans rfl), _, rfl, o, acc, k1, k3, k4⟩))
    (LL (env 0).s).length 0 (@envOf (S.at (@envOf (S.at env) [.var 0])) [.var 0, .int 0, .str [], .lnil]) (by omega) ⟨rfl, rfl, [], [], rfl, rfl, rfl, Nat.zero_le _⟩
  refine then_on (selR_at (T := dw_t1) rfl) (by omega) (then_on (k := 0) (e := e) (then_on (selR_at (T := dw_t3) rfl) (by omega) h1) (by omega) ?_)
  have c1 := ch_none (show @Xp.den (S.at e) (.var 2) = .str (strL acc) from k3)
  cases ha : acc.isEmpty with
  | true =>
    rw [ha] at c1 k4
    have := selR_fin (T := dw_t7) (e := .var 3) ((sel_br c1).trans rfl)
    rw [show @Xp.den (S.at e) (.var 3) = _ from k1] at this
    rw [← k4, if_pos rfl, List.append_nil]
    exact this
  | false =>
    rw [ha] at c1 k4
    rw [if_neg Bool.false_ne_true] at k4
    have c4 := ch_snoc (show @Xp.den (S.at e) (.var 3) = _ from k1) (show @Xp.den (S.at e) (.var 2) = _ from k3)
    have ho : (o.map strL).map PV.str ++ [PV.str (strL acc)] = ((o ++ [acc]).map strL).map PV.str := by rw [List.map_append, List.map_append]; rfl
    rw [ho, k4] at c4
    have := selR_fin (T := dw_t7) (e := .snoc (.var 3) (.var 2)) ((sel_br c1).trans ((sel_must (ch_room c4 (by simp only [List.length_map]; omega))).trans rfl))
    rw [c4] at this
    exact this
theorem dn_all (env : Env) (hz : (env 0).l.length ≤ 100000) : dn_R env (.inr (.bool (inP (env 0) (env 1)))) := by
  obtain ⟨out, h1, hq⟩ := loop_run (nE := 1) (R := fun _ => dn_B1) (fun i e => e 0 = env 0 ∧ e 1 = env 1 ∧ e 2 = .int i ∧ ((env 0).l.take i).any (fun x => decide (x.s = (env 1).s)) = false) (fun out => (out = .inr (.bool true) ∧ inP (env 0) (env 1) = true) ∨ ∃ e, out = .inl (0, e) ∧ inP (env 0) (env 1) = false) (env 0).l.length
    (fun i e hi ⟨k0, k1, k2, k3⟩ => by
      have a0 : (@Xp.den (S.at e) (.var 0)).l = (env 0).l := congrArg PV.l k0
      have a2 : @Xp.den (S.at e) (.var 2) = .int (i : Int) := k2
      have c1 := ls_lt a0 a2
      by_cases h : i < (env 0).l.length
      · rw [decide_eq_true h] at c1
        have c2 := ls_inb a0 a2 h
        have c3 : @Xp.den (S.at e) (.eqs (.get (.var 0) (.var 2) 1 0) (.var 1)) = .bool (decide ((env 0).l[i].s = (env 1).s)) := by
          show PV.bool (decide ((@Xp.den (S.at e) (.get (.var 0) (.var 2) 1 0)).s = (e 1).s)) = _
          rw [ls_get a0 a2 h, k1]
        have ht : (env 0).l.take (i + 1) = (env 0).l.take i ++ [(env 0).l[i]] := List.take_succ_eq_append_getElem h
        cases hc : decide ((env 0).l[i].s = (env 1).s) with
        | true =>
          rw [hc] at c3
          refine .inr (.inr ⟨_, selR_fin (T := dn_t5) (e := .bool true) ((sel_br c1).trans ((sel_must c2).trans ((sel_br c3).trans rfl))), .inl ⟨rfl, ?_⟩⟩)
          exact List.any_eq_true.2 ⟨_, List.getElem_mem h, hc⟩
        | false =>
          rw [hc] at c3
          refine .inl ⟨_, selR_at (T := dn_t5) ((sel_br c1).trans ((sel_must c2).trans ((sel_br c3).trans rfl))), h, k0, k1, ch_inc a2 (by omega), ?_⟩
          rw [ht, List.any_append, k3]
          simp only [List.any_cons, List.any_nil, Bool.or_false, Bool.false_or]
          exact hc
      · rw [decide_eq_false h] at c1
        rw [List.take_of_length_le (by omega)] at k3
        exact .inr (.inl ⟨0, _, by omega, selR_at (T := dn_t5) ((sel_br c1).trans rfl), .inr ⟨_, rfl, k3⟩⟩))
    (env 0).l.length 0 (@envOf (S.at (@envOf (S.at env) [.var 0, .var 1])) [.var 0, .var 1, .int 0]) (by omega) ⟨rfl, rfl, rfl, rfl⟩
  rcases hq with ⟨rfl, hq⟩ | ⟨e, rfl, hq⟩
  · rw [hq]
    exact then_on (selR_at (T := dn_t1) rfl) (by omega) (then_fin (then_on (selR_at (T := dn_t3) rfl) (by omega) h1))
  · rw [hq]
    exact then_on (selR_at (T := dn_t1) rfl) (by omega) (then_on (k := 0) (e := e) (then_on (selR_at (T := dn_t3) rfl) (by omega) h1) (by omega) (selR_fin (T := dn_t7) (e := .bool false) rfl))
end
end Go.Proofs.YtdflkikhmngfiaaGreatDoor

