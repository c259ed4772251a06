/- EyPn · CfA · CfB: joined by a program, for a claim has at most 60 files. -/
import Derived.Test.YtdflkikhmngfiaaDoorD21
import Derived.Test.YtdflkikhmngfiaaDoorChecked
/- What the program as a whole keeps to. -/
namespace Go.Proofs.YtdflkikhmngfiaaDoor
theorem prog_names : namesB Tryd.prog = true := by kernel_rfl
theorem prog_mixed : (Tryd.prog).follows .mixedOrders = true := by kernel_rfl
theorem prog_N : NamesOK Tryd.prog := by
  letI := bareSy
  letI : Dc := ⟨fun _ => none⟩
  haveI : DcOK := ⟨fun _ _ h => by cases h⟩
  exact namesB_ok prog_names
end Go.Proofs.YtdflkikhmngfiaaDoor


/- What differs: the document's answer, from template to template. -/
namespace Go.Proofs.YtdflkikhmngfiaaDoor
open Go.RowKit
set_option linter.unusedVariables false
set_option linter.unusedSimpArgs false
set_option linter.unusedSectionVars false
set_option maxRecDepth 100000

noncomputable def i15 : List Sh := [.int .i64, .int .i64, .int .i64, .int .i64, .int .i64, .int .i64, .int .i64, .int .i64, .int .i64, .int .i64, .int .i64, .int .i64, .int .i64, .int .i64, .int .i64]
/-- The keys' bytes. -/
def keyN : List (List Nat) := [[99, 111, 110, 110, 115], [115, 116, 114, 101, 97, 109, 115], [108, 101, 97, 115, 116], [108, 111, 119], [104, 105, 103, 104], [113, 117, 105, 101, 116], [98, 117, 114, 115, 116], [114, 97, 116, 101], [112, 101, 114], [99, 97, 112], [113, 117, 97, 110, 116, 117, 109], [108, 105, 109, 105, 116], [119, 111, 114, 107, 101, 114, 115], [115, 101, 99, 111, 110, 100], [119, 97, 105, 116]]
def keyAt (i : Nat) : List Nat := match keyN[i]? with | some l => l | none => []
noncomputable def rDiffF : Func := Tryd.f15
noncomputable def rDiff : Code := rDiffF.body.getD .skip
noncomputable def headC (c : Option Code) : Code := match c with | some (.seq x _) => x | some c => c | none => .skip
noncomputable def tailC (c : Option Code) : Code := match c with | some (.seq _ y) => y | some c => c | none => .skip
noncomputable def bodyL (c : Code) : Code := match c with | .seq _ (.block _ (.loop x)) => x | .block _ (.loop x) => x | _ => .skip
noncomputable def rDiffX : Code := bodyL (headC (dropC 3 rDiff))
noncomputable def rd_6 : TB := .row 3 1 15 [(0, .sx (.int .i64) (.cell (.var 1) 0)), (1, .sx (.int .i64) (.cell (.var 1) 1)), (2, .sx (.int .i64) (.cell (.var 1) 2)), (3, .sx (.int .i64) (.cell (.var 1) 3)), (4, .sx (.int .i64) (.cell (.var 1) 4)), (5, .sx (.int .i64) (.cell (.var 1) 5)), (6, .sx (.int .i64) (.cell (.var 1) 6)), (7, .sx (.int .i64) (.cell (.var 1) 7)), (8, .sx (.int .i64) (.cell (.var 1) 8)), (9, .sx (.int .i64) (.cell (.var 1) 9)), (10, .sx (.int .i64) (.cell (.var 1) 10)), (11, .sx (.int .i64) (.cell (.var 1) 11)), (12, .sx (.int .i64) (.cell (.var 1) 12)), (13, .sx (.int .i64) (.cell (.var 1) 13)), (14, .sx (.int .i64) (.cell (.var 1) 14))] false
noncomputable def rd_4 : TB := .row 3 1 15 [(0, .sx (.int .i64) (.cell (.var 0) 0)), (1, .sx (.int .i64) (.cell (.var 0) 1)), (2, .sx (.int .i64) (.cell (.var 0) 2)), (3, .sx (.int .i64) (.cell (.var 0) 3)), (4, .sx (.int .i64) (.cell (.var 0) 4)), (5, .sx (.int .i64) (.cell (.var 0) 5)), (6, .sx (.int .i64) (.cell (.var 0) 6)), (7, .sx (.int .i64) (.cell (.var 0) 7)), (8, .sx (.int .i64) (.cell (.var 0) 8)), (9, .sx (.int .i64) (.cell (.var 0) 9)), (10, .sx (.int .i64) (.cell (.var 0) 10)), (11, .sx (.int .i64) (.cell (.var 0) 11)), (12, .sx (.int .i64) (.cell (.var 0) 12)), (13, .sx (.int .i64) (.cell (.var 0) 13)), (14, .sx (.int .i64) (.cell (.var 0) 14))] false
noncomputable def rd_2 : TB := .row 9 1 15 [(0, .str [99, 111, 110, 110, 115]), (1, .str [115, 116, 114, 101, 97, 109, 115]), (2, .str [108, 101, 97, 115, 116]), (3, .str [108, 111, 119]), (4, .str [104, 105, 103, 104]), (5, .str [113, 117, 105, 101, 116]), (6, .str [98, 117, 114, 115, 116]), (7, .str [114, 97, 116, 101]), (8, .str [112, 101, 114]), (9, .str [99, 97, 112]), (10, .str [113, 117, 97, 110, 116, 117, 109]), (11, .str [108, 105, 109, 105, 116]), (12, .str [119, 111, 114, 107, 101, 114, 115]), (13, .str [115, 101, 99, 111, 110, 100]), (14, .str [119, 97, 105, 116])] false
noncomputable def rdT (i : Int) : St := ⟨[(5, .sl 2 0 15 15), (6, .sl 4 0 15 15), (7, .sl 6 0 15 15), (8, .ol 20 [.str] (.var 2)), (9, .int .i64 i)], [(2, rd_2), (4, rd_4), (6, rd_6), (20, .tok 9 [.str] (.var 2))], 21⟩
noncomputable def rdE : St := ⟨[(8, .ol 20 [.str] (.var 2))], [(20, .tok 9 [.str] (.var 2))], 21⟩
noncomputable def rdK : List (Ex × St) := [(.normal, rdT 0), (.normal, rdT 1), (.normal, rdT 2), (.normal, rdT 3), (.normal, rdT 4), (.normal, rdT 5), (.normal, rdT 6), (.normal, rdT 7), (.normal, rdT 8), (.normal, rdT 9), (.normal, rdT 10), (.normal, rdT 11), (.normal, rdT 12), (.normal, rdT 13), (.normal, rdT 14), (.normal, rdT 15), (.exit 0, rdE)]
def rdTr (i : Nat) : Trl := .br (.cmpi .eql (.cell (.var 0) i) (.cell (.var 1) i)) (.leaf (.at (i + 1) [.var 0, .var 1, .var 2] [(2, 2), (4, 4), (6, 6), (20, 20)])) (.must (.rng (.int 0) (.lenl (.snoc (.var 2) (.str (keyAt i)))) (.int 100000)) (.leaf (.at (i + 1) [.var 0, .var 1, .snoc (.var 2) (.str (keyAt i))] [(2, 2), (4, 4), (6, 6), (20, 22)])))
def rdTs (i : Nat) : Trl := match i with
  | 15 => .leaf (.at 16 [.var 0, .var 1, .var 2] [(20, 20)])
  | i => rdTr i
theorem rd_body : rDiffF.body = some rDiff := by kernel_rfl
theorem rd_x : dropC 1000 rDiffX = none := by kernel_rfl
noncomputable def rd0 : St := ⟨[(5, .sl 2 0 15 15), (6, .sl 4 0 15 15), (7, .sl 6 0 15 15), (8, .nils)], [(2, rd_2), (4, rd_4), (6, rd_6)], 7⟩
theorem rd_0c : chkP Tryd.prog (oraFs Tryd.prog []) 400 rDiffF.ntmps 3 rDiff (entS [.agg i15, .agg i15]) rDiffF [.sh (.lst [.str])] [(.normal, rd0)] (.leaf (.at 0 [.var 0, .var 1, .lnil] [(2, 2), (4, 4), (6, 6)])) [] = true := by kernel_rfl
theorem rd_d3 : dropC 3 rDiff = some (.seq (headC (dropC 3 rDiff)) (tailC (dropC 3 rDiff))) := by kernel_rfl
noncomputable def rdH : Code := headC (dropC 3 rDiff)
noncomputable def rdZ : Code := tailC (dropC 3 rDiff)
theorem rd_chk : ((List.range 16).all fun k => chkP Tryd.prog (oraFs Tryd.prog []) 400 rDiffF.ntmps 1000 rDiffX (rdT k) rDiffF [.sh (.lst [.str])] rdK (rdTs k) []) = true := by kernel_rfl
theorem rd_1c : chkP Tryd.prog (oraFs Tryd.prog []) 400 rDiffF.ntmps 1 rdH rd0 rDiffF [.sh (.lst [.str])] [(.normal, rdT 0)] (.leaf (.at 0 [.var 0, .var 1, .lnil] [(2, 2), (4, 4), (6, 6)])) [] = true := by kernel_rfl
theorem rd_d1 : dropC 1 rdH = some (.block 0 (.loop rDiffX)) := by kernel_rfl
theorem rd_2c : chkP Tryd.prog (oraFs Tryd.prog []) 400 rDiffF.ntmps 1000 rdZ rdE rDiffF [.sh (.lst [.str])] [] (.leaf (.fin (.var 2))) [] = true := by kernel_rfl
theorem rd_d2 : dropC 1000 rdZ = none := by kernel_rfl
section
variable [S : Sy]
theorem no_ora (env : Nat → PV) (B : Nat) : @OraOK (S.at env) Tryd.prog B (oraFs Tryd.prog []) := @oraFs_ok (S.at env) Tryd.prog B [] (fun s h => by cases h)
theorem rdK_at {k : Nat} {s : St} (h : rdK[k]? = some (.normal, s)) : k < 16 ∧ s = rdT k := by
  have hk : k < 17 := (List.getElem?_eq_some_iff.1 h).1
  have hcases : k = 0 ∨ k = 1 ∨ k = 2 ∨ k = 3 ∨ k = 4 ∨ k = 5 ∨ k = 6 ∨ k = 7 ∨ k = 8 ∨ k = 9 ∨ k = 10 ∨ k = 11 ∨ k = 12 ∨ k = 13 ∨ k = 14 ∨ k = 15 ∨ k = 16 := by omega
  rcases hcases with rfl | rfl | rfl | rfl | rfl | rfl | rfl | rfl | rfl | rfl | rfl | rfl | rfl | rfl | rfl | rfl | rfl
  case inr.inr.inr.inr.inr.inr.inr.inr.inr.inr.inr.inr.inr.inr.inr.inr => injection h with h; exact absurd (congrArg Prod.fst h) (by intro h; cases h)
  all_goals (injection h with h; exact ⟨by omega, (congrArg Prod.snd h).symm⟩)
def rdR (k : Nat) : Env → Outc → Prop := selR (rdTs k)
theorem rd_body_spec (k : Nat) (s : St) (h : rdK[k]? = some (.normal, s)) : Spec Tryd.prog rDiffF.ntmps rDiffF [.sh (.lst [.str])] rDiffX s rdK (rdR k) := by
  obtain ⟨h1, rfl⟩ := rdK_at h
  have hc := List.all_eq_true.1 rd_chk k (List.mem_range.2 h1)
  refine spec_mono (spec_piece (l := oraFs Tryd.prog []) (R := fun j e o => o = .inl (j, e)) prog_N prog_mixed no_ora hc (fun j p hp => ?_)) fun env out ho => ?_
  · rw [rd_x]
    unfold OnK
    split
    · exact (by rename_i hh; cases hh)
    · exact ⟨j, hp, fun env out h => h⟩
  · cases out with
    | inl c => exact ⟨.inl c, ho, rfl⟩
    | inr v => exact ⟨.inr v, ho, rfl⟩
/-- Behind the loop: only its own end goes on. -/
def rdOut (k : Nat) (env : Env) (out : Outc) : Prop := k = 16 ∧ relThen (selR (.leaf (.fin (.var 2)))) (fun _ _ _ => False) env out
/-- All of Diff, from its start to its result. -/
def rdRel : Env → Outc → Prop :=
  relThen (selR (.leaf (.at 0 [.var 0, .var 1, .lnil] [(2, 2), (4, 4), (6, 6)]))) fun _ =>
    relThen (relThen (selR (.leaf (.at 0 [.var 0, .var 1, .lnil] [(2, 2), (4, 4), (6, 6)]))) fun _ => Rounds rdK rdR 0)
      rdOut
theorem rd_spec : Spec Tryd.prog rDiffF.ntmps rDiffF [.sh (.lst [.str])] rDiff (entS [.agg i15, .agg i15]) [] rdRel := by
  refine spec_piece (l := oraFs Tryd.prog []) prog_N prog_mixed no_ora rd_0c fun k p hp => ?_
  cases k with
  | succ k => cases hp
  | zero =>
    injection hp with hp
    subst hp
    rw [rd_d3]
    show Spec _ _ _ _ _ _ _ _
    refine spec_seq (K1 := rdK.map fun p => (exIn 0 p.1, p.2)) ?_ fun k p hp => ?_
    · refine spec_piece (l := oraFs Tryd.prog []) prog_N prog_mixed no_ora rd_1c fun k p hp => ?_
      cases k with
      | succ k => cases hp
      | zero =>
        injection hp with hp
        subst hp
        show On _ _ _ _ (dropC 1 rdH) _ _ _
        rw [rd_d1]
        exact spec_block (spec_loop rd_body_spec (k := 0) rfl)
    · by_cases h16 : k = 16
      · subst h16
        injection hp with hp
        subst hp
        refine spec_mono (spec_piece (l := oraFs Tryd.prog []) prog_N prog_mixed no_ora rd_2c fun k p hp => by cases hp) fun env out h => h.2
      · have hno : ∀ c s, Spec Tryd.prog rDiffF.ntmps rDiffF [.sh (.lst [.str])] c s [] (rdOut k) := fun c s X hX B D F0 w0 Q env out ho => absurd ho.1 h16
        have hk : k < 17 := by
          have := (List.getElem?_eq_some_iff.1 hp).1
          exact this
        obtain ⟨e, s⟩ := p
        cases e with
        | normal => exact hno _ _
        | _ =>
          exfalso
          have hcases : k = 0 ∨ k = 1 ∨ k = 2 ∨ k = 3 ∨ k = 4 ∨ k = 5 ∨ k = 6 ∨ k = 7 ∨ k = 8 ∨ k = 9 ∨ k = 10 ∨ k = 11 ∨ k = 12 ∨ k = 13 ∨ k = 14 ∨ k = 15 := by omega
          rcases hcases with rfl | rfl | rfl | rfl | rfl | rfl | rfl | rfl | rfl | rfl | rfl | rfl | rfl | rfl | rfl | rfl <;> (injection hp with hp; have := congrArg Prod.fst hp; cases this)
end
end Go.Proofs.YtdflkikhmngfiaaDoor


/- What differs: the rounds in plain Lean. -/
namespace Go.Proofs.YtdflkikhmngfiaaDoor
open Go.RowKit
set_option linter.unusedVariables false
set_option linter.unusedSimpArgs false
set_option linter.unusedSectionVars false

/-- The keys of the first places whose values differ. -/
def dfTo (a b : PV) : Nat → List PV
  | 0 => []
  | i + 1 => if (a.cl i).i = (b.cl i).i then dfTo a b i else dfTo a b i ++ [.str (bytesOf (keyAt i))]
theorem dfTo_len (a b : PV) : ∀ i, (dfTo a b i).length ≤ i
  | 0 => Nat.le_refl _
  | i + 1 => by
    have := dfTo_len a b i
    unfold dfTo
    split
    · omega
    · rw [List.length_append]; simp; exact this
theorem len_ok {n : Nat} (h : n ≤ 99999) : (decide ((0 : Int) ≤ 0) && (decide ((0 : Int) ≤ (n : Int)) && decide ((n : Int) ≤ 100000))) = true := by
  rw [decide_eq_true (Int.le_refl 0), decide_eq_true (Int.natCast_nonneg n), decide_eq_true (show (n : Int) ≤ 100000 by omega)]
  rfl
theorem rdTs_lt {i : Nat} (h : i < 15) : rdTs i = rdTr i := by
  unfold rdTs
  split
  · omega
  · rfl
section
variable [S : Sy]
theorem rd_step (env : Env) (i : Nat) (hi : i < 15) (h : env 2 = .lst (dfTo (env 0) (env 1) i)) : ∃ env' : Env, rdR i env (.inl (i + 1, env')) ∧ env' 0 = env 0 ∧ env' 1 = env 1 ∧ env' 2 = .lst (dfTo (env 0) (env 1) (i + 1)) := by
  by_cases he : ((env 0).cl i).i = ((env 1).cl i).i
  · refine ⟨@envOf (S.at env) [.var 0, .var 1, .var 2], ?_, rfl, rfl, ?_⟩
    · unfold rdR selR nxt
      have hs : @Trl.sel (S.at env) (rdTs i) = some (.at (i + 1) [.var 0, .var 1, .var 2] [(2, 2), (4, 4), (6, 6), (20, 20)]) := by
        rw [rdTs_lt hi]
        unfold rdTr Trl.sel
        rw [show @Xp.den (S.at env) (.cmpi .eql (.cell (.var 0) i) (.cell (.var 1) i)) = .bool true from by
          show PV.bool (cmpZ .eql ((env 0).cl i).i ((env 1).cl i).i) = _
          rw [he]
          simp [cmpZ]]
        rfl
      rw [hs]
    · show env 2 = _
      rw [h]
      show _ = PV.lst (if _ then _ else _)
      rw [if_pos he]
  · refine ⟨@envOf (S.at env) [.var 0, .var 1, .snoc (.var 2) (.str (keyAt i))], ?_, rfl, rfl, ?_⟩
    · unfold rdR selR nxt
      have hs : @Trl.sel (S.at env) (rdTs i) = some (.at (i + 1) [.var 0, .var 1, .snoc (.var 2) (.str (keyAt i))] [(2, 2), (4, 4), (6, 6), (20, 22)]) := by
        rw [rdTs_lt hi]
        unfold rdTr Trl.sel
        rw [show @Xp.den (S.at env) (.cmpi .eql (.cell (.var 0) i) (.cell (.var 1) i)) = .bool false from by
          show PV.bool (cmpZ .eql ((env 0).cl i).i ((env 1).cl i).i) = _
          simp [cmpZ, he]]
        show @Trl.sel (S.at env) (.must _ _) = _
        unfold Trl.sel
        rw [show @Xp.den (S.at env) (.rng (.int 0) (.lenl (.snoc (.var 2) (.str (keyAt i)))) (.int 100000)) = .bool true from by
          show PV.bool (decide ((0 : Int) ≤ 0) && (decide ((0 : Int) ≤ (((env 2).l ++ [PV.str (bytesOf (keyAt i))]).length : Int)) && decide ((((env 2).l ++ [PV.str (bytesOf (keyAt i))]).length : Int) ≤ 100000))) = _
          have hl := dfTo_len (env 0) (env 1) i
          rw [h]
          refine congrArg PV.bool (len_ok ?_)
          rw [List.length_append]
          have : (PV.lst (dfTo (env 0) (env 1) i)).l.length ≤ i := hl
          have h1 : [PV.str (bytesOf (keyAt i))].length = 1 := rfl
          omega]
        rfl
      rw [hs]
    · show PV.lst ((env 2).l ++ [PV.str (bytesOf (keyAt i))]) = _
      rw [h]
      show _ = PV.lst (if _ then _ else _)
      rw [if_neg he]
      rfl
theorem rdK_n {i : Nat} (h : i < 16) : ∃ s, rdK[i]? = some (.normal, s) := by
  have hcases : i = 0 ∨ i = 1 ∨ i = 2 ∨ i = 3 ∨ i = 4 ∨ i = 5 ∨ i = 6 ∨ i = 7 ∨ i = 8 ∨ i = 9 ∨ i = 10 ∨ i = 11 ∨ i = 12 ∨ i = 13 ∨ i = 14 ∨ i = 15 := by omega
  rcases hcases with rfl | rfl | rfl | rfl | rfl | rfl | rfl | rfl | rfl | rfl | rfl | rfl | rfl | rfl | rfl | rfl <;> exact ⟨_, rfl⟩
theorem rd_rounds (d : Nat) : ∀ (i : Nat) (env : Env), i + d = 15 → env 2 = .lst (dfTo (env 0) (env 1) i) → ∃ env' : Env, Rounds rdK rdR i env (.inl (16, env')) ∧ env' 2 = .lst (dfTo (env 0) (env 1) 15) := by
  induction d with
  | zero =>
    intro i env hi h
    obtain rfl : i = 15 := hi
    refine ⟨@envOf (S.at env) [.var 0, .var 1, .var 2], .more (k' := 16) (s := rdT 15) rfl ?_ (.out (e := .exit 0) (s := rdE) rfl (by intro h; cases h)), h⟩
    rfl
  | succ d ih =>
    intro i env hi h
    obtain ⟨e1, h1, h2, h3, h4⟩ := rd_step env i (by omega) h
    obtain ⟨e2, h5, h6⟩ := ih (i + 1) e1 (by omega) (by rw [h2, h3]; exact h4)
    obtain ⟨s, hs⟩ := rdK_n (i := i) (by omega)
    rw [h2, h3] at h6
    exact ⟨e2, .more hs h1 h5, h6⟩
theorem rd_all (env : Env) : rdRel env (.inr (.lst (dfTo (env 0) (env 1) 15))) := by
  obtain ⟨e2, h1, h2⟩ := rd_rounds 15 0 (@envOf (S.at (@envOf (S.at env) [.var 0, .var 1, .lnil])) [.var 0, .var 1, .lnil]) rfl rfl
  refine ⟨.inl (0, @envOf (S.at env) [.var 0, .var 1, .lnil]), rfl, .inl (16, e2), ⟨.inl (0, @envOf (S.at (@envOf (S.at env) [.var 0, .var 1, .lnil])) [.var 0, .var 1, .lnil]), rfl, h1⟩, rfl, .inr (e2 2), rfl, ?_⟩
  show (Sum.inr (PV.lst (dfTo (env 0) (env 1) 15)) : Outc) = .inr (e2 2)
  rw [h2]
  rfl
theorem rd_nt2 : Nat.ble 2 rDiffF.ntmps = true := by kernel_rfl
/-- The document's Diff, as a function by contract. -/
theorem rdiff_ok (n : Nat) (hfn : ∀ a b, S.fn n [a, b] = .lst (dfTo a b 15)) : FnOK Tryd.prog ⟨15, [.agg i15, .agg i15], [.sh (.lst [.str])], n, none⟩ := by
  refine ⟨fun w vs => MuLone.run_callFunc_enter Tryd.func15 (prog_N _ _ _ Tryd.func15 rd_body) rd_body vs w, fun F W ps vs hF hi ha _ => ?_⟩
  obtain ⟨a, ps1, y1, m1, rfl, e1, _, ha1⟩ := id ha
  obtain ⟨b, ps2, y2, m2, rfl, e2, _, ha2⟩ := ha1
  obtain ⟨rfl, rfl⟩ := ha2
  have hsz : vs.size = 2 := by rw [← Array.length_toList, e1, e2]; rfl
  show Calls _ _ _ _ fun e w' => ∃ v, e = .returned v ∧ resOK (growF F W w') _ (S.fn n [a, b]) v ∧ Below W.heap.size W w'
  rw [hfn]
  letI S2 : Sy := ⟨S.env, S.fn, F, S.inv, fun _ => none, S.up, S.keep⟩
  exact spec_fn (S := S2) Tryd.func15 rd_body (rd_spec (S := S2)) (by rw [hsz]; exact Nat.le_of_ble_eq_true rd_nt2) hF (fun _ _ _ => Iff.rfl) hi (fun _ _ h => (by cases h)) ha (rd_all (S := S2) (envL [a, b]))
end
end Go.Proofs.YtdflkikhmngfiaaDoor

