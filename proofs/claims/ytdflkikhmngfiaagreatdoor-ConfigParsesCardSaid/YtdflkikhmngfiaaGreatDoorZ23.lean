/- EyPn · CfA · CfB · CfC · CfF · CfG: joined by a program, for a claim has at most 60 files. -/
import Derived.Test.YtdflkikhmngfiaaGreatDoorZ21
import Derived.Test.YtdflkikhmngfiaaGreatDoorChecked
/- What the program as a whole keeps to. -/
namespace Go.Proofs.YtdflkikhmngfiaaGreatDoor
theorem prog_names : namesB Tryz.prog = true := by kernel_rfl
theorem prog_mixed : (Tryz.prog).follows .mixedOrders = true := by kernel_rfl
theorem prog_N : NamesOK Tryz.prog := by
  letI := bareSy
  letI : Dc := ⟨fun _ => none⟩
  haveI : DcOK := ⟨fun _ _ h => by cases h⟩
  exact namesB_ok prog_names
end Go.Proofs.YtdflkikhmngfiaaGreatDoor


/- What differs: the document's answer, from template to template. -/
namespace Go.Proofs.YtdflkikhmngfiaaGreatDoor
open Go.RowKit
set_option linter.unusedVariables false
set_option linter.unusedSimpArgs false
set_option linter.unusedSectionVars false
set_option maxRecDepth 100000

noncomputable def i15 : List Sh := [.int .i64, .int .i64, .int .i64, .int .i64, .int .i64, .int .i64, .int .i64, .int .i64, .int .i64, .int .i64, .int .i64, .int .i64, .int .i64, .int .i64, .int .i64]
/-- The keys' bytes. -/
def keyN : List (List Nat) := [[99, 111, 110, 110, 115], [115, 116, 114, 101, 97, 109, 115], [108, 101, 97, 115, 116], [108, 111, 119], [104, 105, 103, 104], [113, 117, 105, 101, 116], [98, 117, 114, 115, 116], [114, 97, 116, 101], [112, 101, 114], [99, 97, 112], [113, 117, 97, 110, 116, 117, 109], [108, 105, 109, 105, 116], [119, 111, 114, 107, 101, 114, 115], [115, 101, 99, 111, 110, 100], [119, 97, 105, 116]]
def keyAt (i : Nat) : List Nat := match keyN[i]? with | some l => l | none => []
noncomputable def headC (c : Option Code) : Code := match c with | some (.seq x _) => x | some c => c | none => .skip
noncomputable def tailC (c : Option Code) : Code := match c with | some (.seq _ y) => y | some c => c | none => .skip
noncomputable def bodyL (c : Code) : Code := match c with | .seq _ (.block _ (.loop x)) => x | .block _ (.loop x) => x | _ => .skip
noncomputable def rd_6 : TB := .row 3 1 15 [(0, .sx (.int .i64) (.cell (.var 1) 0)), (1, .sx (.int .i64) (.cell (.var 1) 1)), (2, .sx (.int .i64) (.cell (.var 1) 2)), (3, .sx (.int .i64) (.cell (.var 1) 3)), (4, .sx (.int .i64) (.cell (.var 1) 4)), (5, .sx (.int .i64) (.cell (.var 1) 5)), (6, .sx (.int .i64) (.cell (.var 1) 6)), (7, .sx (.int .i64) (.cell (.var 1) 7)), (8, .sx (.int .i64) (.cell (.var 1) 8)), (9, .sx (.int .i64) (.cell (.var 1) 9)), (10, .sx (.int .i64) (.cell (.var 1) 10)), (11, .sx (.int .i64) (.cell (.var 1) 11)), (12, .sx (.int .i64) (.cell (.var 1) 12)), (13, .sx (.int .i64) (.cell (.var 1) 13)), (14, .sx (.int .i64) (.cell (.var 1) 14))] false
noncomputable def rd_4 : TB := .row 3 1 15 [(0, .sx (.int .i64) (.cell (.var 0) 0)), (1, .sx (.int .i64) (.cell (.var 0) 1)), (2, .sx (.int .i64) (.cell (.var 0) 2)), (3, .sx (.int .i64) (.cell (.var 0) 3)), (4, .sx (.int .i64) (.cell (.var 0) 4)), (5, .sx (.int .i64) (.cell (.var 0) 5)), (6, .sx (.int .i64) (.cell (.var 0) 6)), (7, .sx (.int .i64) (.cell (.var 0) 7)), (8, .sx (.int .i64) (.cell (.var 0) 8)), (9, .sx (.int .i64) (.cell (.var 0) 9)), (10, .sx (.int .i64) (.cell (.var 0) 10)), (11, .sx (.int .i64) (.cell (.var 0) 11)), (12, .sx (.int .i64) (.cell (.var 0) 12)), (13, .sx (.int .i64) (.cell (.var 0) 13)), (14, .sx (.int .i64) (.cell (.var 0) 14))] false
noncomputable def rd_2 : TB := .row 9 1 15 [(0, .str [99, 111, 110, 110, 115]), (1, .str [115, 116, 114, 101, 97, 109, 115]), (2, .str [108, 101, 97, 115, 116]), (3, .str [108, 111, 119]), (4, .str [104, 105, 103, 104]), (5, .str [113, 117, 105, 101, 116]), (6, .str [98, 117, 114, 115, 116]), (7, .str [114, 97, 116, 101]), (8, .str [112, 101, 114]), (9, .str [99, 97, 112]), (10, .str [113, 117, 97, 110, 116, 117, 109]), (11, .str [108, 105, 109, 105, 116]), (12, .str [119, 111, 114, 107, 101, 114, 115]), (13, .str [115, 101, 99, 111, 110, 100]), (14, .str [119, 97, 105, 116])] false
noncomputable def rdT (i : Int) : St := ⟨[(5, .sl 2 0 15 15), (6, .sl 4 0 15 15), (7, .sl 6 0 15 15), (8, .ol 20 [.str] (.var 2)), (9, .int .i64 i)], [(2, rd_2), (4, rd_4), (6, rd_6), (20, .tok 9 [.str] (.var 2))], 21⟩
noncomputable def rdE : St := ⟨[(8, .ol 20 [.str] (.var 2))], [(20, .tok 9 [.str] (.var 2))], 21⟩
noncomputable def rdK : List (Ex × St) := [(.normal, rdT 0), (.normal, rdT 1), (.normal, rdT 2), (.normal, rdT 3), (.normal, rdT 4), (.normal, rdT 5), (.normal, rdT 6), (.normal, rdT 7), (.normal, rdT 8), (.normal, rdT 9), (.normal, rdT 10), (.normal, rdT 11), (.normal, rdT 12), (.normal, rdT 13), (.normal, rdT 14), (.normal, rdT 15), (.exit 0, rdE)]
def rdTr (i : Nat) : Trl := .br (.cmpi .eql (.cell (.var 0) i) (.cell (.var 1) i)) (.leaf (.at (i + 1) [.var 0, .var 1, .var 2] [(2, 2), (4, 4), (6, 6), (20, 20)])) (.must (.rng (.int 0) (.lenl (.snoc (.var 2) (.str (keyAt i)))) (.int 100000)) (.leaf (.at (i + 1) [.var 0, .var 1, .snoc (.var 2) (.str (keyAt i))] [(2, 2), (4, 4), (6, 6), (20, 22)])))
def rdTs (i : Nat) : Trl := match i with
  | 15 => .leaf (.at 16 [.var 0, .var 1, .var 2] [(20, 20)])
  | i => rdTr i
noncomputable def rd0 : St := ⟨[(5, .sl 2 0 15 15), (6, .sl 4 0 15 15), (7, .sl 6 0 15 15), (8, .nils)], [(2, rd_2), (4, rd_4), (6, rd_6)], 7⟩
section
variable [S : Sy]
theorem no_ora (env : Nat → PV) (B : Nat) : @OraOK (S.at env) Tryz.prog B (oraFs Tryz.prog []) := @oraFs_ok (S.at env) Tryz.prog B [] (fun s h => by cases h)
theorem rdK_at {k : Nat} {s : St} (h : rdK[k]? = some (.normal, s)) : k < 16 ∧ s = rdT k := by
  have hk : k < 17 := (List.getElem?_eq_some_iff.1 h).1
  have hcases : k = 0 ∨ k = 1 ∨ k = 2 ∨ k = 3 ∨ k = 4 ∨ k = 5 ∨ k = 6 ∨ k = 7 ∨ k = 8 ∨ k = 9 ∨ k = 10 ∨ k = 11 ∨ k = 12 ∨ k = 13 ∨ k = 14 ∨ k = 15 ∨ k = 16 := by omega
  rcases hcases with rfl | rfl | rfl | rfl | rfl | rfl | rfl | rfl | rfl | rfl | rfl | rfl | rfl | rfl | rfl | rfl | rfl
  case inr.inr.inr.inr.inr.inr.inr.inr.inr.inr.inr.inr.inr.inr.inr.inr => injection h with h; exact absurd (congrArg Prod.fst h) (by intro h; cases h)
  all_goals (injection h with h; exact ⟨by omega, (congrArg Prod.snd h).symm⟩)
def rdR (k : Nat) : Env → Outc → Prop := selR (rdTs k)
/-- Behind the loop: only its own end goes on. -/
def rdOut (k : Nat) (env : Env) (out : Outc) : Prop := k = 16 ∧ relThen (selR (.leaf (.fin (.var 2)))) (fun _ _ _ => False) env out
/-- All of Diff, from its start to its result. -/
def rdRel : Env → Outc → Prop :=
  relThen (selR (.leaf (.at 0 [.var 0, .var 1, .lnil] [(2, 2), (4, 4), (6, 6)]))) fun _ =>
    relThen (relThen (selR (.leaf (.at 0 [.var 0, .var 1, .lnil] [(2, 2), (4, 4), (6, 6)]))) fun _ => Rounds rdK rdR 0)
      rdOut
end
end Go.Proofs.YtdflkikhmngfiaaGreatDoor


/- What differs: the rounds in plain Lean. -/
namespace Go.Proofs.YtdflkikhmngfiaaGreatDoor
open Go.RowKit
set_option linter.unusedVariables false
set_option linter.unusedSimpArgs false
set_option linter.unusedSectionVars false

/-- The keys of the first places whose values differ. -/
def dfTo (a b : PV) : Nat → List PV
  | 0 => []
  | i + 1 => if (a.cl i).i = (b.cl i).i then dfTo a b i else dfTo a b i ++ [.str (bytesOf (keyAt i))]
theorem dfTo_len (a b : PV) : ∀ i, (dfTo a b i).length ≤ i
  | 0 => Nat.le_refl _
  | i + 1 => by
    have := dfTo_len a b i
    unfold dfTo
    split
    · omega
    · rw [List.length_append]; simp; exact this
theorem len_ok {n : Nat} (h : n ≤ 99999) : (decide ((0 : Int) ≤ 0) && (decide ((0 : Int) ≤ (n : Int)) && decide ((n : Int) ≤ 100000))) = true := by
  rw [decide_eq_true (Int.le_refl 0), decide_eq_true (Int.natCast_nonneg n), decide_eq_true (show (n : Int) ≤ 100000 by omega)]
  rfl
theorem rdTs_lt {i : Nat} (h : i < 15) : rdTs i = rdTr i := by
  unfold rdTs
  split
  · omega
  · rfl
section
variable [S : Sy]
theorem rd_step (env : Env) (i : Nat) (hi : i < 15) (h : env 2 = .lst (dfTo (env 0) (env 1) i)) : ∃ env' : Env, rdR i env (.inl (i + 1, env')) ∧ env' 0 = env 0 ∧ env' 1 = env 1 ∧ env' 2 = .lst (dfTo (env 0) (env 1) (i + 1)) := by
  by_cases he : ((env 0).cl i).i = ((env 1).cl i).i
  · refine ⟨@envOf (S.at env) [.var 0, .var 1, .var 2], ?_, rfl, rfl, ?_⟩
    · unfold rdR selR nxt
      have hs : @Trl.sel (S.at env) (rdTs i) = some (.at (i + 1) [.var 0, .var 1, .var 2] [(2, 2), (4, 4), (6, 6), (20, 20)]) := by
        rw [rdTs_lt hi]
        unfold rdTr Trl.sel
        rw [show @Xp.den (S.at env) (.cmpi .eql (.cell (.var 0) i) (.cell (.var 1) i)) = .bool true from by
          show PV.bool (cmpZ .eql ((env 0).cl i).i ((env 1).cl i).i) = _
          rw [he]
          simp [cmpZ]]
        rfl
      rw [hs]
    · show env 2 = _
      rw [h]
      show _ = PV.lst (if _ then _ else _)
      rw [if_pos he]
  · refine ⟨@envOf (S.at env) [.var 0, .var 1, .snoc (.var 2) (.str (keyAt i))], ?_, rfl, rfl, ?_⟩
    · unfold rdR selR nxt
      have hs : @Trl.sel (S.at env) (rdTs i) = some (.at (i + 1) [.var 0, .var 1, .snoc (.var 2) (.str (keyAt i))] [(2, 2), (4, 4), (6, 6), (20, 22)]) := by
        rw [rdTs_lt hi]
        unfold rdTr Trl.sel
        rw [show @Xp.den (S.at env) (.cmpi .eql (.cell (.var 0) i) (.cell (.var 1) i)) = .bool false from by
          show PV.bool (cmpZ .eql ((env 0).cl i).i ((env 1).cl i).i) = _
          simp [cmpZ, he]]
        show @Trl.sel (S.at env) (.must _ _) = _
        unfold Trl.sel
        rw [show @Xp.den (S.at env) (.rng (.int 0) (.lenl (.snoc (.var 2) (.str (keyAt i)))) (.int 100000)) = .bool true from by
          show PV.bool (decide ((0 : Int) ≤ 0) && (decide ((0 : Int) ≤ (((env 2).l ++ [PV.str (bytesOf (keyAt i))]).length : Int)) && decide ((((env 2).l ++ [PV.str (bytesOf (keyAt i))]).length : Int) ≤ 100000))) = _
          have hl := dfTo_len (env 0) (env 1) i
          rw [h]
          refine congrArg PV.bool (len_ok ?_)
          rw [List.length_append]
          have : (PV.lst (dfTo (env 0) (env 1) i)).l.length ≤ i := hl
          have h1 : [PV.str (bytesOf (keyAt i))].length = 1 := rfl
          omega]
        rfl
      rw [hs]
    · show PV.lst ((env 2).l ++ [PV.str (bytesOf (keyAt i))]) = _
      rw [h]
      show _ = PV.lst (if _ then _ else _)
      rw [if_neg he]
      rfl
theorem rdK_n {i : Nat} (h : i < 16) : ∃ s, rdK[i]? = some (.normal, s) := by
  have hcases : i = 0 ∨ i = 1 ∨ i = 2 ∨ i = 3 ∨ i = 4 ∨ i = 5 ∨ i = 6 ∨ i = 7 ∨ i = 8 ∨ i = 9 ∨ i = 10 ∨ i = 11 ∨ i = 12 ∨ i = 13 ∨ i = 14 ∨ i = 15 := by omega
  rcases hcases with rfl | rfl | rfl | rfl | rfl | rfl | rfl | rfl | rfl | rfl | rfl | rfl | rfl | rfl | rfl | rfl <;> exact ⟨_, rfl⟩
theorem rd_rounds (d : Nat) : ∀ (i : Nat) (env : Env), i + d = 15 → env 2 = .lst (dfTo (env 0) (env 1) i) → ∃ env' : Env, Rounds rdK rdR i env (.inl (16, env')) ∧ env' 2 = .lst (dfTo (env 0) (env 1) 15) := by
  induction d with
  | zero =>
    intro i env hi h
    obtain rfl : i = 15 := hi
    refine ⟨@envOf (S.at env) [.var 0, .var 1, .var 2], .more (k' := 16) (s := rdT 15) rfl ?_ (.out (e := .exit 0) (s := rdE) rfl (by intro h; cases h)), h⟩
    rfl
  | succ d ih =>
    intro i env hi h
    obtain ⟨e1, h1, h2, h3, h4⟩ := rd_step env i (by omega) h
    obtain ⟨e2, h5, h6⟩ := ih (i + 1) e1 (by omega) (by rw [h2, h3]; exact h4)
    obtain ⟨s, hs⟩ := rdK_n (i := i) (by omega)
    rw [h2, h3] at h6
    exact ⟨e2, .more hs h1 h5, h6⟩
theorem rd_all (env : Env) : rdRel env (.inr (.lst (dfTo (env 0) (env 1) 15))) := by
  obtain ⟨e2, h1, h2⟩ := rd_rounds 15 0 (@envOf (S.at (@envOf (S.at env) [.var 0, .var 1, .lnil])) [.var 0, .var 1, .lnil]) rfl rfl
  refine ⟨.inl (0, @envOf (S.at env) [.var 0, .var 1, .lnil]), rfl, .inl (16, e2), ⟨.inl (0, @envOf (S.at (@envOf (S.at env) [.var 0, .var 1, .lnil])) [.var 0, .var 1, .lnil]), rfl, h1⟩, rfl, .inr (e2 2), rfl, ?_⟩
  show (Sum.inr (PV.lst (dfTo (env 0) (env 1) 15)) : Outc) = .inr (e2 2)
  rw [h2]
  rfl
end
end Go.Proofs.YtdflkikhmngfiaaGreatDoor


/- What differs: the program's answer, from template to template. -/
namespace Go.Proofs.YtdflkikhmngfiaaGreatDoor
open Go.RowKit
set_option linter.unusedVariables false
set_option linter.unusedSimpArgs false
set_option linter.unusedSectionVars false
set_option maxRecDepth 100000

noncomputable def cDiffF : Func := Tryz.f9
noncomputable def cDiff : Code := cDiffF.body.getD .skip
noncomputable def cDiffX : Code := bodyL (headC (dropC 3 cDiff))
noncomputable def cd_3 : TB := .row 60 1 15 [(0, .ptr 1 0), (1, .ptr 1 1), (2, .ptr 1 2), (3, .ptr 1 3), (4, .ptr 1 4), (5, .ptr 1 5), (6, .ptr 1 6), (7, .ptr 1 7), (8, .ptr 1 8), (9, .ptr 1 9), (10, .ptr 1 10), (11, .ptr 1 11), (12, .ptr 1 12), (13, .ptr 1 13), (14, .ptr 1 14)] false
noncomputable def cd_1 : TB := .row 24 1 15 [(0, .sx (.int .i64) (.cell (.var 1) 0)), (1, .sx (.int .i64) (.cell (.var 1) 1)), (2, .sx (.int .i64) (.cell (.var 1) 2)), (3, .sx (.int .i64) (.cell (.var 1) 3)), (4, .sx (.int .i64) (.cell (.var 1) 4)), (5, .sx (.int .i64) (.cell (.var 1) 5)), (6, .sx (.int .i64) (.cell (.var 1) 6)), (7, .sx (.int .i64) (.cell (.var 1) 7)), (8, .sx (.int .i64) (.cell (.var 1) 8)), (9, .sx (.int .i64) (.cell (.var 1) 9)), (10, .sx (.int .i64) (.cell (.var 1) 10)), (11, .sx (.int .i64) (.cell (.var 1) 11)), (12, .sx (.int .i64) (.cell (.var 1) 12)), (13, .sx (.int .i64) (.cell (.var 1) 13)), (14, .sx (.int .i64) (.cell (.var 1) 14))] false
noncomputable def cd_0 : TB := .row 24 1 15 [(0, .sx (.int .i64) (.cell (.var 0) 0)), (1, .sx (.int .i64) (.cell (.var 0) 1)), (2, .sx (.int .i64) (.cell (.var 0) 2)), (3, .sx (.int .i64) (.cell (.var 0) 3)), (4, .sx (.int .i64) (.cell (.var 0) 4)), (5, .sx (.int .i64) (.cell (.var 0) 5)), (6, .sx (.int .i64) (.cell (.var 0) 6)), (7, .sx (.int .i64) (.cell (.var 0) 7)), (8, .sx (.int .i64) (.cell (.var 0) 8)), (9, .sx (.int .i64) (.cell (.var 0) 9)), (10, .sx (.int .i64) (.cell (.var 0) 10)), (11, .sx (.int .i64) (.cell (.var 0) 11)), (12, .sx (.int .i64) (.cell (.var 0) 12)), (13, .sx (.int .i64) (.cell (.var 0) 13)), (14, .sx (.int .i64) (.cell (.var 0) 14))] false
noncomputable def cdT (i : Int) : St := ⟨[(5, .ptr 3 0), (6, .ol 20 [.str] (.var 2)), (10, .agg [.ptr 0 0, .ptr 0 1, .ptr 0 2, .ptr 0 3, .ptr 0 4, .ptr 0 5, .ptr 0 6, .ptr 0 7, .ptr 0 8, .ptr 0 9, .ptr 0 10, .ptr 0 11, .ptr 0 12, .ptr 0 13, .ptr 0 14]), (11, .int .i64 i)], [(0, cd_0), (1, cd_1), (3, cd_3), (20, .tok 9 [.str] (.var 2))], 21⟩
noncomputable def cdE : St := ⟨[(6, .ol 20 [.str] (.var 2))], [(20, .tok 9 [.str] (.var 2))], 21⟩
noncomputable def cdK : List (Ex × St) := [(.normal, cdT 0), (.normal, cdT 1), (.normal, cdT 2), (.normal, cdT 3), (.normal, cdT 4), (.normal, cdT 5), (.normal, cdT 6), (.normal, cdT 7), (.normal, cdT 8), (.normal, cdT 9), (.normal, cdT 10), (.normal, cdT 11), (.normal, cdT 12), (.normal, cdT 13), (.normal, cdT 14), (.normal, cdT 15), (.exit 0, cdE)]
def cdTr (i : Nat) : Trl := .br (.cmpi .eql (.cell (.var 0) i) (.cell (.var 1) i)) (.leaf (.at (i + 1) [.var 0, .var 1, .var 2] [(0, 0), (1, 1), (3, 3), (20, 20)])) (.must (.rng (.int 0) (.lenl (.snoc (.var 2) (.str (keyAt i)))) (.int 100000)) (.leaf (.at (i + 1) [.var 0, .var 1, .snoc (.var 2) (.str (keyAt i))] [(0, 0), (1, 1), (3, 3), (20, 23)])))
def cdTs (i : Nat) : Trl := match i with
  | 15 => .leaf (.at 16 [.var 0, .var 1, .var 2] [(20, 20)])
  | i => cdTr i
theorem cd_body : cDiffF.body = some cDiff := by kernel_rfl
theorem cd_x : dropC 1000 cDiffX = none := by kernel_rfl
noncomputable def cd0 : St := ⟨[(2, .ptr 0 0), (5, .ptr 3 0), (6, .nils)], [(0, cd_0), (1, cd_1), (3, cd_3)], 7⟩
theorem cd_0c : chkP Tryz.prog (oraFs Tryz.prog []) 400 cDiffF.ntmps 3 cDiff (entS [.agg i15, .agg i15]) cDiffF [.sh (.lst [.str])] [(.normal, cd0)] (.leaf (.at 0 [.var 0, .var 1, .lnil] [(0, 0), (1, 1), (3, 3)])) [] = true := by kernel_rfl
theorem cd_d3 : dropC 3 cDiff = some (.seq (headC (dropC 3 cDiff)) (tailC (dropC 3 cDiff))) := by kernel_rfl
noncomputable def cdH : Code := headC (dropC 3 cDiff)
noncomputable def cdZ : Code := tailC (dropC 3 cDiff)
theorem cd_chk : ((List.range 16).all fun k => chkP Tryz.prog (oraFs Tryz.prog []) 400 cDiffF.ntmps 1000 cDiffX (cdT k) cDiffF [.sh (.lst [.str])] cdK (cdTs k) []) = true := by kernel_rfl
theorem cd_1c : chkP Tryz.prog (oraFs Tryz.prog []) 400 cDiffF.ntmps 1 cdH cd0 cDiffF [.sh (.lst [.str])] [(.normal, cdT 0)] (.leaf (.at 0 [.var 0, .var 1, .lnil] [(0, 0), (1, 1), (3, 3)])) [] = true := by kernel_rfl
theorem cd_d1 : dropC 1 cdH = some (.block 0 (.loop cDiffX)) := by kernel_rfl
theorem cd_2c : chkP Tryz.prog (oraFs Tryz.prog []) 400 cDiffF.ntmps 1000 cdZ cdE cDiffF [.sh (.lst [.str])] [] (.leaf (.fin (.var 2))) [] = true := by kernel_rfl
theorem cd_d2 : dropC 1000 cdZ = none := by kernel_rfl
section
variable [S : Sy]
theorem cdK_at {k : Nat} {s : St} (h : cdK[k]? = some (.normal, s)) : k < 16 ∧ s = cdT k := by
  have hk : k < 17 := (List.getElem?_eq_some_iff.1 h).1
  have hcases : k = 0 ∨ k = 1 ∨ k = 2 ∨ k = 3 ∨ k = 4 ∨ k = 5 ∨ k = 6 ∨ k = 7 ∨ k = 8 ∨ k = 9 ∨ k = 10 ∨ k = 11 ∨ k = 12 ∨ k = 13 ∨ k = 14 ∨ k = 15 ∨ k = 16 := by omega
  rcases hcases with rfl | rfl | rfl | rfl | rfl | rfl | rfl | rfl | rfl | rfl | rfl | rfl | rfl | rfl | rfl | rfl | rfl
  case inr.inr.inr.inr.inr.inr.inr.inr.inr.inr.inr.inr.inr.inr.inr.inr => injection h with h; exact absurd (congrArg Prod.fst h) (by intro h; cases h)
  all_goals (injection h with h; exact ⟨by omega, (congrArg Prod.snd h).symm⟩)
def cdR (k : Nat) : Env → Outc → Prop := selR (cdTs k)
theorem cd_body_spec (k : Nat) (s : St) (h : cdK[k]? = some (.normal, s)) : Spec Tryz.prog cDiffF.ntmps cDiffF [.sh (.lst [.str])] cDiffX s cdK (cdR k) := by
  obtain ⟨h1, rfl⟩ := cdK_at h
  have hc := List.all_eq_true.1 cd_chk k (List.mem_range.2 h1)
  refine spec_mono (spec_piece (l := oraFs Tryz.prog []) (R := fun j e o => o = .inl (j, e)) prog_N prog_mixed no_ora hc (fun j p hp => ?_)) fun env out ho => ?_
  · rw [cd_x]
    unfold OnK
    split
    · exact (by rename_i hh; cases hh)
    · exact ⟨j, hp, fun env out h => h⟩
  · cases out with
    | inl c => exact ⟨.inl c, ho, rfl⟩
    | inr v => exact ⟨.inr v, ho, rfl⟩
/-- Behind the loop: only its own end goes on. -/
def cdOut (k : Nat) (env : Env) (out : Outc) : Prop := k = 16 ∧ relThen (selR (.leaf (.fin (.var 2)))) (fun _ _ _ => False) env out
/-- All of Diff, from its start to its result. -/
def cdRel : Env → Outc → Prop :=
  relThen (selR (.leaf (.at 0 [.var 0, .var 1, .lnil] [(0, 0), (1, 1), (3, 3)]))) fun _ =>
    relThen (relThen (selR (.leaf (.at 0 [.var 0, .var 1, .lnil] [(0, 0), (1, 1), (3, 3)]))) fun _ => Rounds cdK cdR 0)
      cdOut
theorem cd_spec : Spec Tryz.prog cDiffF.ntmps cDiffF [.sh (.lst [.str])] cDiff (entS [.agg i15, .agg i15]) [] cdRel := by
  refine spec_piece (l := oraFs Tryz.prog []) prog_N prog_mixed no_ora cd_0c fun k p hp => ?_
  cases k with
  | succ k => cases hp
  | zero =>
    injection hp with hp
    subst hp
    rw [cd_d3]
    show Spec _ _ _ _ _ _ _ _
    refine spec_seq (K1 := cdK.map fun p => (exIn 0 p.1, p.2)) ?_ fun k p hp => ?_
    · refine spec_piece (l := oraFs Tryz.prog []) prog_N prog_mixed no_ora cd_1c fun k p hp => ?_
      cases k with
      | succ k => cases hp
      | zero =>
        injection hp with hp
        subst hp
        show On _ _ _ _ (dropC 1 cdH) _ _ _
        rw [cd_d1]
        exact spec_block (spec_loop cd_body_spec (k := 0) rfl)
    · by_cases h16 : k = 16
      · subst h16
        injection hp with hp
        subst hp
        refine spec_mono (spec_piece (l := oraFs Tryz.prog []) prog_N prog_mixed no_ora cd_2c fun k p hp => by cases hp) fun env out h => h.2
      · have hno : ∀ c s, Spec Tryz.prog cDiffF.ntmps cDiffF [.sh (.lst [.str])] c s [] (cdOut k) := fun c s X hX B D F0 w0 Q env out ho => absurd ho.1 h16
        have hk : k < 17 := by
          have := (List.getElem?_eq_some_iff.1 hp).1
          exact this
        obtain ⟨e, s⟩ := p
        cases e with
        | normal => exact hno _ _
        | _ =>
          exfalso
          have hcases : k = 0 ∨ k = 1 ∨ k = 2 ∨ k = 3 ∨ k = 4 ∨ k = 5 ∨ k = 6 ∨ k = 7 ∨ k = 8 ∨ k = 9 ∨ k = 10 ∨ k = 11 ∨ k = 12 ∨ k = 13 ∨ k = 14 ∨ k = 15 := by omega
          rcases hcases with rfl | rfl | rfl | rfl | rfl | rfl | rfl | rfl | rfl | rfl | rfl | rfl | rfl | rfl | rfl | rfl <;> (injection hp with hp; have := congrArg Prod.fst hp; cases this)
theorem cdTs_lt {i : Nat} (h : i < 15) : cdTs i = cdTr i := by
  unfold cdTs
  split
  · omega
  · rfl
theorem cd_step (env : Env) (i : Nat) (hi : i < 15) (h : env 2 = .lst (dfTo (env 0) (env 1) i)) : ∃ env' : Env, cdR i env (.inl (i + 1, env')) ∧ env' 0 = env 0 ∧ env' 1 = env 1 ∧ env' 2 = .lst (dfTo (env 0) (env 1) (i + 1)) := by
  by_cases he : ((env 0).cl i).i = ((env 1).cl i).i
  · refine ⟨@envOf (S.at env) [.var 0, .var 1, .var 2], ?_, rfl, rfl, ?_⟩
    · unfold cdR selR nxt
      have hs : @Trl.sel (S.at env) (cdTs i) = some (.at (i + 1) [.var 0, .var 1, .var 2] [(0, 0), (1, 1), (3, 3), (20, 20)]) := by
        rw [cdTs_lt hi]
        unfold cdTr Trl.sel
        rw [show @Xp.den (S.at env) (.cmpi .eql (.cell (.var 0) i) (.cell (.var 1) i)) = .bool true from by
          show PV.bool (cmpZ .eql ((env 0).cl i).i ((env 1).cl i).i) = _
          rw [he]
          simp [cmpZ]]
        rfl
      rw [hs]
    · show env 2 = _
      rw [h]
      show _ = PV.lst (if _ then _ else _)
      rw [if_pos he]
  · refine ⟨@envOf (S.at env) [.var 0, .var 1, .snoc (.var 2) (.str (keyAt i))], ?_, rfl, rfl, ?_⟩
    · unfold cdR selR nxt
      have hs : @Trl.sel (S.at env) (cdTs i) = some (.at (i + 1) [.var 0, .var 1, .snoc (.var 2) (.str (keyAt i))] [(0, 0), (1, 1), (3, 3), (20, 23)]) := by
        rw [cdTs_lt hi]
        unfold cdTr Trl.sel
        rw [show @Xp.den (S.at env) (.cmpi .eql (.cell (.var 0) i) (.cell (.var 1) i)) = .bool false from by
          show PV.bool (cmpZ .eql ((env 0).cl i).i ((env 1).cl i).i) = _
          simp [cmpZ, he]]
        show @Trl.sel (S.at env) (.must _ _) = _
        unfold Trl.sel
        rw [show @Xp.den (S.at env) (.rng (.int 0) (.lenl (.snoc (.var 2) (.str (keyAt i)))) (.int 100000)) = .bool true from by
          show PV.bool (decide ((0 : Int) ≤ 0) && (decide ((0 : Int) ≤ (((env 2).l ++ [PV.str (bytesOf (keyAt i))]).length : Int)) && decide ((((env 2).l ++ [PV.str (bytesOf (keyAt i))]).length : Int) ≤ 100000))) = _
          have hl := dfTo_len (env 0) (env 1) i
          rw [h]
          refine congrArg PV.bool (len_ok ?_)
          rw [List.length_append]
          have : (PV.lst (dfTo (env 0) (env 1) i)).l.length ≤ i := hl
          have h1 : [PV.str (bytesOf (keyAt i))].length = 1 := rfl
          omega]
        rfl
      rw [hs]
    · show PV.lst ((env 2).l ++ [PV.str (bytesOf (keyAt i))]) = _
      rw [h]
      show _ = PV.lst (if _ then _ else _)
      rw [if_neg he]
      rfl
theorem cdK_n {i : Nat} (h : i < 16) : ∃ s, cdK[i]? = some (.normal, s) := by
  have hcases : i = 0 ∨ i = 1 ∨ i = 2 ∨ i = 3 ∨ i = 4 ∨ i = 5 ∨ i = 6 ∨ i = 7 ∨ i = 8 ∨ i = 9 ∨ i = 10 ∨ i = 11 ∨ i = 12 ∨ i = 13 ∨ i = 14 ∨ i = 15 := by omega
  rcases hcases with rfl | rfl | rfl | rfl | rfl | rfl | rfl | rfl | rfl | rfl | rfl | rfl | rfl | rfl | rfl | rfl <;> exact ⟨_, rfl⟩
theorem cd_rounds (d : Nat) : ∀ (i : Nat) (env : Env), i + d = 15 → env 2 = .lst (dfTo (env 0) (env 1) i) → ∃ env' : Env, Rounds cdK cdR i env (.inl (16, env')) ∧ env' 2 = .lst (dfTo (env 0) (env 1) 15) := by
  induction d with
  | zero =>
    intro i env hi h
    obtain rfl : i = 15 := hi
    refine ⟨@envOf (S.at env) [.var 0, .var 1, .var 2], .more (k' := 16) (s := cdT 15) rfl ?_ (.out (e := .exit 0) (s := cdE) rfl (by intro h; cases h)), h⟩
    rfl
  | succ d ih =>
    intro i env hi h
    obtain ⟨e1, h1, h2, h3, h4⟩ := cd_step env i (by omega) h
    obtain ⟨e2, h5, h6⟩ := ih (i + 1) e1 (by omega) (by rw [h2, h3]; exact h4)
    obtain ⟨s, hs⟩ := cdK_n (i := i) (by omega)
    rw [h2, h3] at h6
    exact ⟨e2, .more hs h1 h5, h6⟩
theorem cd_all (env : Env) : cdRel env (.inr (.lst (dfTo (env 0) (env 1) 15))) := by
  obtain ⟨e2, h1, h2⟩ := cd_rounds 15 0 (@envOf (S.at (@envOf (S.at env) [.var 0, .var 1, .lnil])) [.var 0, .var 1, .lnil]) rfl rfl
  refine ⟨.inl (0, @envOf (S.at env) [.var 0, .var 1, .lnil]), rfl, .inl (16, e2), ⟨.inl (0, @envOf (S.at (@envOf (S.at env) [.var 0, .var 1, .lnil])) [.var 0, .var 1, .lnil]), rfl, h1⟩, rfl, .inr (e2 2), rfl, ?_⟩
  show (Sum.inr (PV.lst (dfTo (env 0) (env 1) 15)) : Outc) = .inr (e2 2)
  rw [h2]
  rfl
theorem cd_nt2 : Nat.ble 2 cDiffF.ntmps = true := by kernel_rfl
/-- The program's Diff, as a function by contract. -/
theorem cdiff_ok (n : Nat) (hfn : ∀ a b, S.fn n [a, b] = .lst (dfTo a b 15)) : FnOK Tryz.prog ⟨9, [.agg i15, .agg i15], [.sh (.lst [.str])], n, none⟩ := by
  refine ⟨fun w vs => MuLone.run_callFunc_enter Tryz.func9 (prog_N _ _ _ Tryz.func9 cd_body) cd_body vs w, fun F W ps vs hF hi ha _ => ?_⟩
  obtain ⟨a, ps1, y1, m1, rfl, e1, _, ha1⟩ := id ha
  obtain ⟨b, ps2, y2, m2, rfl, e2, _, ha2⟩ := ha1
  obtain ⟨rfl, rfl⟩ := ha2
  have hsz : vs.size = 2 := by rw [← Array.length_toList, e1, e2]; rfl
  show Calls _ _ _ _ fun e w' => ∃ v, e = .returned v ∧ resOK (growF F W w') _ (S.fn n [a, b]) v ∧ Below W.heap.size W w'
  rw [hfn]
  letI S2 : Sy := ⟨S.env, S.fn, F, S.inv, fun _ => none, S.up, S.keep⟩
  exact spec_fn (S := S2) Tryz.func9 cd_body (cd_spec (S := S2)) (by rw [hsz]; exact Nat.le_of_ble_eq_true cd_nt2) hF (fun _ _ _ => Iff.rfl) hi (fun _ _ h => (by cases h)) ha (cd_all (S := S2) (envL [a, b]))
end
end Go.Proofs.YtdflkikhmngfiaaGreatDoor


/- Whether two lists of lines are the same, from template to template. -/
namespace Go.Proofs.YtdflkikhmngfiaaGreatDoor
open Go.RowKit
set_option linter.unusedVariables false
set_option linter.unusedSimpArgs false
set_option linter.unusedSectionVars false
noncomputable def saT : St := ⟨[(0, .sx (.lst [.str]) (.var 0)), (1, .sx (.lst [.str]) (.var 1)), (5, .sx (.int .i64) (.var 2))], [], 0⟩
noncomputable def sa0 : St := ⟨[(0, .sx (.lst [.str]) (.var 0)), (1, .sx (.lst [.str]) (.var 1))], [], 0⟩
noncomputable def saE : St := ⟨[], [], 0⟩
noncomputable def saK : List (Ex × St) := [(.normal, saT), (.exit 0, saE)]
def saT0 : Trl := .br (.cmpi .eql (.lenl (.var 0)) (.lenl (.var 1))) (.leaf (.at 0 [.var 0, .var 1] [])) (.leaf (.fin (.bool false)))
def saT1 : Trl := .leaf (.at 0 [.var 0, .var 1, .int 0] [])
def saTx : Trl := .br (.cmpi .lss (.var 2) (.lenl (.var 0))) (.must (.inb (.var 2) (.lenl (.var 0))) (.must (.inb (.var 2) (.lenl (.var 1))) (.br (.eqs (.get (.var 0) (.var 2) 1 0) (.get (.var 1) (.var 2) 1 0)) (.leaf (.at 0 [.var 0, .var 1, .bin .add .i64 (.var 2) (.int 1)] [])) (.leaf (.fin (.bool false)))))) (.leaf (.at 1 [.var 0, .var 1, .var 2] []))
section
variable [S : Sy]
def saOut (k : Nat) (env : Env) (out : Outc) : Prop := k = 1 ∧ relThen (selR (.leaf (.fin (.bool true)))) (fun _ _ _ => False) env out
def saRel : Env → Outc → Prop :=
  relThen (selR saT0) fun _ => relThen (relThen (selR saT1) fun _ => Rounds saK (fun _ => selR saTx) 0) saOut
end
end Go.Proofs.YtdflkikhmngfiaaGreatDoor


/- Whether two lists of lines are the same, in plain Lean. -/
namespace Go.Proofs.YtdflkikhmngfiaaGreatDoor
open Go.RowKit
set_option linter.unusedVariables false
set_option linter.unusedSimpArgs false
set_option linter.unusedSectionVars false

def samePV (a b : List PV) : Bool := decide (a.map PV.s = b.map PV.s)
theorem samePV_len {a b : List PV} (h : a.length ≠ b.length) : samePV a b = false := by
  unfold samePV
  refine decide_eq_false fun hh => h ?_
  simpa using congrArg List.length hh
theorem samePV_yes {x y : PV} {a b : List PV} (h : x.s = y.s) : samePV (x :: a) (y :: b) = samePV a b := by
  unfold samePV
  by_cases k : a.map PV.s = b.map PV.s
  · rw [decide_eq_true k]
    exact decide_eq_true (by rw [List.map_cons, List.map_cons, h, k])
  · rw [decide_eq_false k]
    exact decide_eq_false (fun hh => k (List.cons.inj hh).2)
theorem samePV_no {x y : PV} {a b : List PV} (h : x.s ≠ y.s) : samePV (x :: a) (y :: b) = false := by
  unfold samePV
  exact decide_eq_false (fun hh => h (List.cons.inj hh).1)
section
variable [S : Sy]
theorem sa_rounds (a b : List PV) (hl : a.length = b.length) (hb : a.length ≤ 100000) (d : Nat) : ∀ (i : Nat) (env : Env), i + d = a.length → (env 0).l = a → (env 1).l = b → env 2 = .int i → (∃ env' : Env, samePV (a.drop i) (b.drop i) = true ∧ Rounds saK (fun _ => selR saTx) 0 env (.inl (1, env'))) ∨ (samePV (a.drop i) (b.drop i) = false ∧ Rounds saK (fun _ => selR saTx) 0 env (.inr (.bool false))) := by
  induction d with
  | zero =>
    intro i env hi h0 h1 h2
    refine .inl ⟨@envOf (S.at env) [.var 0, .var 1, .var 2], ?_, .more (k' := 1) (s := saT) rfl ?_ (.out (e := .exit 0) (s := saE) rfl (by intro h; cases h))⟩
    · rw [List.drop_eq_nil_of_le (by omega), List.drop_eq_nil_of_le (by omega)]
      rfl
    · unfold selR nxt
      have hs : @Trl.sel (S.at env) saTx = some (.at 1 [.var 0, .var 1, .var 2] []) := by
        unfold saTx Trl.sel
        rw [show @Xp.den (S.at env) (.cmpi .lss (.var 2) (.lenl (.var 0))) = .bool false from by
          show PV.bool (cmpZ .lss (env 2).i ((env 0).l.length : Int)) = _
          rw [h0, h2]
          show PV.bool (decide ((i : Int) < (a.length : Int))) = _
          rw [decide_eq_false (by omega)]]
        rfl
      rw [hs]
  | succ d ih =>
    intro i env hi h0 h1 h2
    have c1 : @Xp.den (S.at env) (.cmpi .lss (.var 2) (.lenl (.var 0))) = .bool true := by
      show PV.bool (cmpZ .lss (env 2).i ((env 0).l.length : Int)) = _
      rw [h0, h2]
      show PV.bool (decide ((i : Int) < (a.length : Int))) = _
      rw [decide_eq_true (by omega)]
    have c2 : @Xp.den (S.at env) (.inb (.var 2) (.lenl (.var 0))) = .bool true := by
      show PV.bool (decide (0 ≤ (env 2).i) && decide ((env 2).i < ((env 0).l.length : Int))) = _
      rw [h0, h2]
      show PV.bool (decide ((0 : Int) ≤ (i : Int)) && decide ((i : Int) < (a.length : Int))) = _
      rw [decide_eq_true (by omega), decide_eq_true (by omega)]
      rfl
    have c3 : @Xp.den (S.at env) (.inb (.var 2) (.lenl (.var 1))) = .bool true := by
      show PV.bool (decide (0 ≤ (env 2).i) && decide ((env 2).i < ((env 1).l.length : Int))) = _
      rw [h1, h2]
      show PV.bool (decide ((0 : Int) ≤ (i : Int)) && decide ((i : Int) < (b.length : Int))) = _
      rw [decide_eq_true (by omega), decide_eq_true (by omega)]
      rfl
    have ha : i < a.length := by omega
    have hb2 : i < b.length := by omega
    have c4 : @Xp.den (S.at env) (.eqs (.get (.var 0) (.var 2) 1 0) (.get (.var 1) (.var 2) 1 0)) = .bool (decide ((a[i]).s = (b[i]).s)) := by
      show PV.bool (decide ((((((env 0).l.getD (env 2).i.toNat default).row 1).getD 0 default).s) = (((((env 1).l.getD (env 2).i.toNat default).row 1).getD 0 default).s))) = _
      rw [h0, h1, h2]
      show PV.bool (decide ((a.getD i default).s = (b.getD i default).s)) = _
      rw [List.getD_eq_getElem?_getD, List.getD_eq_getElem?_getD, List.getElem?_eq_getElem ha, List.getElem?_eq_getElem hb2]
      rfl
    have hda : a.drop i = a[i] :: a.drop (i + 1) := List.drop_eq_getElem_cons ha
    have hdb : b.drop i = b[i] :: b.drop (i + 1) := List.drop_eq_getElem_cons hb2
    by_cases he : (a[i]).s = (b[i]).s
    · have hsel : @Trl.sel (S.at env) saTx = some (.at 0 [.var 0, .var 1, .bin .add .i64 (.var 2) (.int 1)] []) := by
        simp only [saTx, Trl.sel, c1, c2, c3, c4, decide_eq_true he]
      have hsame : samePV (a.drop i) (b.drop i) = samePV (a.drop (i + 1)) (b.drop (i + 1)) := by
        rw [hda, hdb]
        exact samePV_yes he
      rw [hsame]
      have step : selR saTx env (.inl (0, @envOf (S.at env) [.var 0, .var 1, .bin .add .i64 (.var 2) (.int 1)])) := by
        unfold selR nxt
        rw [hsel]
      have hw : (@envOf (S.at env) [.var 0, .var 1, .bin .add .i64 (.var 2) (.int 1)]) 2 = .int ((i + 1 : Nat) : Int) := by
        show PV.int (zop .add .i64 (env 2).i 1) = _
        rw [h2]
        show PV.int (IntKind.i64.wrap ((i : Int) + 1)) = _
        rw [show IntKind.i64.wrap ((i : Int) + 1) = (i : Int) + 1 from by rw [IntKind.wrap]; simp [IntKind.bits, IntKind.signed]; omega]
        rfl
      rcases ih (i + 1) (@envOf (S.at env) [.var 0, .var 1, .bin .add .i64 (.var 2) (.int 1)]) (by omega) h0 h1 hw with ⟨e2, k1, k2⟩ | ⟨k1, k2⟩
      · exact .inl ⟨e2, k1, .more (s := saT) rfl step k2⟩
      · exact .inr ⟨k1, .more (s := saT) rfl step k2⟩
    · refine .inr ⟨?_, .fin (s := saT) rfl ?_⟩
      · rw [hda, hdb]
        exact samePV_no he
      · have hsel : @Trl.sel (S.at env) saTx = some (.fin (.bool false)) := by
          simp only [saTx, Trl.sel, c1, c2, c3, c4, decide_eq_false he]
        unfold selR nxt
        rw [hsel]
        rfl
theorem sa_all (env : Env) (hb : (env 0).l.length ≤ 100000) : saRel env (.inr (.bool (samePV (env 0).l (env 1).l))) := by
  by_cases hl : (env 0).l.length = (env 1).l.length
  · have hs0 : selR saT0 env (.inl (0, @envOf (S.at env) [.var 0, .var 1])) := by
      unfold selR nxt
      have : @Trl.sel (S.at env) saT0 = some (.at 0 [.var 0, .var 1] []) := by
        unfold saT0 Trl.sel
        rw [show @Xp.den (S.at env) (.cmpi .eql (.lenl (.var 0)) (.lenl (.var 1))) = .bool true from by
          show PV.bool (cmpZ .eql ((env 0).l.length : Int) ((env 1).l.length : Int)) = _
          rw [hl]
          simp [cmpZ]]
        rfl
      rw [this]
    have h1 := sa_rounds (env 0).l (env 1).l hl hb (env 0).l.length 0 (@envOf (S.at (@envOf (S.at env) [.var 0, .var 1])) [.var 0, .var 1, .int 0]) (by omega) rfl rfl rfl
    refine ⟨_, hs0, ?_⟩
    rcases h1 with ⟨e2, k1, k2⟩ | ⟨k1, k2⟩
    · refine ⟨.inl (1, e2), ⟨.inl (0, _), rfl, k2⟩, rfl, .inr (.bool true), rfl, ?_⟩
      show (Sum.inr (PV.bool (samePV (env 0).l (env 1).l)) : Outc) = .inr (.bool true)
      rw [show samePV (env 0).l (env 1).l = true from k1]
    · refine ⟨.inr (.bool false), ⟨.inl (0, _), rfl, k2⟩, ?_⟩
      show (Sum.inr (PV.bool (samePV (env 0).l (env 1).l)) : Outc) = .inr (.bool false)
      rw [show samePV (env 0).l (env 1).l = false from k1]
  · refine ⟨.inr (.bool false), ?_, ?_⟩
    · unfold selR nxt
      have : @Trl.sel (S.at env) saT0 = some (.fin (.bool false)) := by
        unfold saT0 Trl.sel
        rw [show @Xp.den (S.at env) (.cmpi .eql (.lenl (.var 0)) (.lenl (.var 1))) = .bool false from by
          show PV.bool (cmpZ .eql ((env 0).l.length : Int) ((env 1).l.length : Int)) = _
          have : ¬ ((env 0).l.length : Int) = ((env 1).l.length : Int) := by omega
          simp [cmpZ, this]]
        rfl
      rw [this]
      rfl
    · show (Sum.inr (PV.bool (samePV (env 0).l (env 1).l)) : Outc) = .inr (.bool false)
      rw [samePV_len hl]
end
end Go.Proofs.YtdflkikhmngfiaaGreatDoor

