/- A line's words, in plain Lean: words as a function by contract. -/
import Derived.Test.YtdflkikhmngfiaaGreatDoorZ30
namespace Go.Proofs.YtdflkikhmngfiaaGreatDoor
open Go.RowKit
set_option linter.unusedVariables false
set_option linter.unusedSimpArgs false
set_option linter.unusedSectionVars false

def wLX : Xp := .app 2 (.cons (.cell (.app 1 (.cons (.var 0) (.cons (.str [35]) (.nil)))) 0) (.cons (.str [32]) (.nil)))
/-- The parts of a line ahead of the sign. -/
def lparts (s : ByteArray) : List ByteArray := partsS (strL (cutL 35 (LL s)).1) 32
theorem cutL_fst_len (c : UInt8) : ∀ l : List UInt8, (cutL c l).1.length ≤ l.length
  | [] => Nat.le_refl _
  | b :: l => by
    rw [cutL_cons]
    split
    · exact Nat.zero_le _
    · have := cutL_fst_len c l
      simp only [List.length_cons]
      omega
theorem strL_sz (l : List UInt8) : (strL l).size = l.length := by show l.toArray.size = _; simp
theorem cutS_le (c : UInt8) (s : ByteArray) : (strL (cutL c (LL s)).1).size ≤ s.size := by
  rw [strL_sz]
  have := cutL_fst_len c (LL s)
  rw [LL_len] at this
  exact this
theorem lparts_len (s : ByteArray) : (lparts s).length ≤ s.size + 1 := by
  have h1 := partsS_count (strL (cutL 35 (LL s)).1) 32
  have h2 := cutS_le 35 s
  unfold lparts
  omega
theorem words_def (s : ByteArray) : wordsB s = (lparts s).filter fun x => decide (x ≠ ⟨#[]⟩) := rfl
theorem str_inj {a b : ByteArray} : PV.str a = PV.str b ↔ a = b := ⟨fun h => by injection h, fun h => by rw [h]⟩
theorem inb_ok {i n : Nat} (h : i < n) : (decide ((0 : Int) ≤ (i : Int)) && decide ((i : Int) < (n : Int))) = true := by
  rw [decide_eq_true (Int.natCast_nonneg i), decide_eq_true (show (i : Int) < (n : Int) by omega)]
  rfl
section
variable [S : Sy]
theorem wLX_den (hS : CfS S) (env : Env) : @Xp.den (S.at env) wLX = .lst ((lparts (env 0).s).map PV.str) := by
  show S.fn 2 [(S.fn 1 [env 0, .str (bytesOf [35])]).cl 0, .str (bytesOf [32])] = _
  rw [hS.cut, hS.split]
  have e : ((cutP (env 0).s (PV.str (bytesOf [35])).s).cl 0).s = strL (cutL 35 (LL (env 0).s)).1 := by
    rw [← cut_eq]
    rfl
  rw [e]
  rfl
theorem cw_step (hS : CfS S) (env : Env) (i : Nat) (hz : (env 0).s.size ≤ 60000) (h1 : env 1 = .int i) (h2 : env 2 = .lst (((lparts (env 0).s).take i).filter (fun x => decide (x ≠ ⟨#[]⟩)) |>.map PV.str)) :
    (i < (lparts (env 0).s).length ∧ ∃ env' : Env, selR cw_t5 env (.inl (0, env')) ∧ env' 0 = env 0 ∧ env' 1 = .int ((i + 1 : Nat) : Int) ∧ env' 2 = .lst (((lparts (env 0).s).take (i + 1)).filter (fun x => decide (x ≠ ⟨#[]⟩)) |>.map PV.str)) ∨
    ((lparts (env 0).s).length ≤ i ∧ ∃ env' : Env, selR cw_t5 env (.inl (1 + 0, env')) ∧ env' 2 = env 2) := by
  have hL := wLX_den hS env
  have hlen := lparts_len (env 0).s
  generalize lparts (env 0).s = L at hL hlen h2 ⊢
  have hn : (@Xp.den (S.at env) wLX).l.length = L.length := by rw [hL]; exact List.length_map ..
  have hi1 : (env 1).i = (i : Int) := by rw [h1]; rfl
  have c1 : @Xp.den (S.at env) (.cmpi .lss (.var 1) (.lenl wLX)) = .bool (decide ((i : Int) < (L.length : Int))) := by
    show PV.bool (decide ((env 1).i < ((@Xp.den (S.at env) wLX).l.length : Int))) = _
    rw [hn, hi1]
  by_cases h : i < L.length
  · refine .inl ⟨h, ?_⟩
    rw [decide_eq_true (show (i : Int) < (L.length : Int) by omega)] at c1
    have c2 : @Xp.den (S.at env) (.inb (.var 1) (.lenl wLX)) = .bool true := by
      show PV.bool (decide (0 ≤ (env 1).i) && decide ((env 1).i < ((@Xp.den (S.at env) wLX).l.length : Int))) = _
      rw [hn, hi1, inb_ok h]
    have hg : @Xp.den (S.at env) (.get wLX (.var 1) 1 0) = .str L[i] := by
      show (((@Xp.den (S.at env) wLX).l.getD (env 1).i.toNat default).row 1).getD 0 default = _
      rw [hL, hi1]
      show (L.map PV.str).getD i default = _
      rw [List.getD_eq_getElem?_getD, List.getElem?_map, List.getElem?_eq_getElem h]
      rfl
    have c3 : @Xp.den (S.at env) (.eqs (.get wLX (.var 1) 1 0) (.str [])) = .bool (decide (L[i] = ⟨#[]⟩)) := by
      show PV.bool (decide ((@Xp.den (S.at env) (.get wLX (.var 1) 1 0)).s = bytesOf [])) = _
      rw [hg]
      rfl
    have hw : PV.int (IntKind.i64.wrap ((env 1).i + 1)) = .int ((i + 1 : Nat) : Int) := by
      rw [hi1, i64_add1 (by omega) (by omega)]
      rfl
    have htk : L.take (i + 1) = L.take i ++ [L[i]] := List.take_succ_eq_append_getElem h
    by_cases he : L[i] = ⟨#[]⟩
    · rw [decide_eq_true he] at c3
      refine ⟨_, selR_at ((sel_br c1).trans ((sel_must c2).trans ((sel_br c3).trans rfl))), rfl, hw, ?_⟩
      show env 2 = _
      rw [h2, htk, List.filter_append, List.filter_cons_of_neg (by simp [he])]
      simp
    · rw [decide_eq_false he] at c3
      have hle : ((L.take i).filter (fun x => decide (x ≠ ⟨#[]⟩)) |>.map PV.str).length ≤ i := by
        rw [List.length_map]
        have := List.length_filter_le (fun x => decide (x ≠ (⟨#[]⟩ : ByteArray))) (L.take i)
        rw [List.length_take] at this
        omega
      have c4 : @Xp.den (S.at env) (.rng (.int 0) (.lenl (.snoc (.var 2) (.get wLX (.var 1) 1 0))) (.int 100000)) = .bool true := by
        show PV.bool (decide ((0 : Int) ≤ 0) && (decide ((0 : Int) ≤ (((env 2).l ++ [@Xp.den (S.at env) (.get wLX (.var 1) 1 0)]).length : Int)) && decide ((((env 2).l ++ [@Xp.den (S.at env) (.get wLX (.var 1) 1 0)]).length : Int) ≤ 100000))) = _
        refine congrArg PV.bool (len_ok ?_)
        rw [List.length_append, h2]
        show ((L.take i).filter (fun x => decide (x ≠ ⟨#[]⟩)) |>.map PV.str).length + 1 ≤ 99999
        omega
      refine ⟨_, selR_at ((sel_br c1).trans ((sel_must c2).trans ((sel_br c3).trans ((sel_must c4).trans rfl)))), rfl, hw, ?_⟩
      show PV.lst ((env 2).l ++ [@Xp.den (S.at env) (.get wLX (.var 1) 1 0)]) = _
      rw [hg, h2, htk, List.filter_append, List.filter_cons_of_pos (by simp [he]), List.map_append]
      rfl
  · refine .inr ⟨by omega, ?_⟩
    rw [decide_eq_false (show ¬ (i : Int) < (L.length : Int) by omega)] at c1
    exact ⟨_, selR_at ((sel_br c1).trans rfl), rfl⟩
theorem cw_all (hS : CfS S) (env : Env) (hz : (env 0).s.size ≤ 60000) : cw_R env (.inr (.lst ((wordsB (env 0).s).map PV.str))) := by
  have c1 : @Xp.den (S.at env) (.app 31 (.cons (.var 0) (.cons (.str [35]) (.nil)))) = .bool true := by
    show S.fn 31 [env 0, .str (bytesOf [35])] = _
    rw [hS.cutpre, decide_eq_true (by omega)]
  have hcut : ((S.fn 1 [env 0, .str (bytesOf [35])]).cl 0).s.size ≤ 60000 := by
    rw [hS.cut]
    have := cutS_le 35 (env 0).s
    rw [← cut_eq] at this
    exact Nat.le_trans this hz
  refine then_on (selR_at ((sel_must c1).trans rfl)) (by omega) ?_
  have c2 : @Xp.den (S.at (@envOf (S.at env) [.var 0])) (.app 32 (.cons (.cell (.app 1 (.cons (.var 0) (.cons (.str [35]) (.nil)))) 0) (.cons (.str [32]) (.nil)))) = .bool true := by
    show S.fn 32 [(S.fn 1 [env 0, .str (bytesOf [35])]).cl 0, .str (bytesOf [32])] = _
    rw [hS.splitpre, decide_eq_true ⟨by omega, by decide⟩]
  obtain ⟨out, h1, env', rfl, h2⟩ := loop_run (nE := 1) (R := fun _ => cw_B1) (fun i e => e 0 = env 0 ∧ e 1 = .int i ∧ e 2 = .lst (((lparts (env 0).s).take i).filter (fun x => decide (x ≠ ⟨#[]⟩)) |>.map PV.str)) (fun out => ∃ e, out = .inl (0, e) ∧ e 2 = .lst ((wordsB (env 0).s).map PV.str)) (lparts (env 0).s).length
    (fun i e hi ⟨k0, k1, k2⟩ => by
      rw [← k0] at hz k2 ⊢
      rcases cw_step hS e i hz k1 k2 with ⟨j1, e', j2, j3, j4, j5⟩ | ⟨j1, e', j2, j3⟩
      · exact .inl ⟨e', j2, j1, by rw [j3], j4, j5⟩
      · refine .inr (.inl ⟨0, e', by omega, j2, e', rfl, ?_⟩)
        rw [j3, k2, List.take_of_length_le j1, words_def])
    (lparts (env 0).s).length 0 (@envOf (S.at (@envOf (S.at env) [.var 0])) [.var 0, .int 0, .lnil]) (by omega) ⟨rfl, rfl, rfl⟩
  refine then_on (k := 0) (e := env') (then_on (selR_at ((sel_must c2).trans rfl)) (by omega) h1) (by omega) ?_
  rw [← h2]
  exact selR_fin (T := cw_t7) (e := .var 2) rfl
theorem cw_ok (hS : CfS S) : FnOK Tryz.prog ⟨31, [.sh .str], [.sh (.lst [.str])], 3, some 33⟩ := by
  have hO : ∀ s ∈ cwL, FnOK Tryz.prog s := fun s hs => by
    simp only [cwL, List.mem_cons, List.not_mem_nil, or_false] at hs
    rcases hs with rfl | rfl
    · exact cut_ok hS
    · exact split_ok hS
  refine fn_ok (c := cw_C) Tryz.func31 cw_body (fun w vs => MuLone.run_callFunc_enter Tryz.func31 (prog_N _ _ _ Tryz.func31 cw_body) cw_body vs w) (by kernel_rfl) (R := fun F => @cw_R (S.lo F)) (fun F => @cw_spec (S.lo F) hO) fun F ps hl hp => ?_
  match ps, hl with
  | [a], _ =>
    have h := hp 33 rfl
    rw [hS.wordspre] at h
    injection h with h
    rw [hS.words]
    exact @cw_all (S.lo F) ⟨hS.1, hS.2, hS.3, hS.4, hS.5, hS.6, hS.7⟩ (envL [a]) (of_decide_eq_true h)
end
end Go.Proofs.YtdflkikhmngfiaaGreatDoor

