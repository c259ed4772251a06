/- The document's Check, by contract: it answers as the program's. -/
import Derived.Test.YtdflkikhmngfiaaGreatDoorZ44
namespace Go.Proofs.YtdflkikhmngfiaaGreatDoor
open Go.RowKit
set_option linter.unusedVariables false
set_option linter.unusedSimpArgs false
set_option linter.unusedSectionVars false
set_option maxRecDepth 100000

noncomputable def fsB21 : Fs := ⟨36, [.sh (.int .i64), .sh (.int .i64), .sh (.int .i64)], [.agg [.int .i64, .int .i64, .int .i64, .int .i64, .int .i64], .sh (.int .i64)], 46, none⟩
noncomputable def fsH22 : Fs := ⟨37, [.sh (.int .i64), .sh (.int .i64), .sh (.int .i64), .sh (.int .i64), .sh (.int .i64)], [.agg [.int .i64, .int .i64, .int .i64, .int .i64, .int .i64, .int .i64, .int .i64], .sh (.int .i64)], 13, none⟩
noncomputable def fsF27 : Fs := ⟨38, [.sh (.int .i64), .sh (.int .i64)], [.agg [.int .i64, .int .i64, .lst [.int .i64], .int .i64, .int .i64], .sh (.int .i64)], 47, none⟩
noncomputable def fsP29 : Fs := ⟨39, [.sh (.int .i64)], [.agg [.lst [.int .i64], .lst [.int .i64], .int .i64], .sh (.int .i64)], 14, none⟩
noncomputable def rckL : List Fs := [fsB21, fsH22, fsF27, fsP29]
def b21T : Tre := .br (.cmpi .lss (.var 0) (.int 1)) (.leaf (.cons (.cons (.int 0) (.cons (.int 0) (.cons (.int 0) (.cons (.int 0) (.cons (.int 0) (.nil)))))) (.cons (.int 8) (.nil)))) (.br (.cmpi .lss (.int 1000) (.var 0)) (.leaf (.cons (.cons (.int 0) (.cons (.int 0) (.cons (.int 0) (.cons (.int 0) (.cons (.int 0) (.nil)))))) (.cons (.int 8) (.nil)))) (.br (.cmpi .lss (.var 1) (.int 0)) (.leaf (.cons (.cons (.int 0) (.cons (.int 0) (.cons (.int 0) (.cons (.int 0) (.cons (.int 0) (.nil)))))) (.cons (.int 8) (.nil)))) (.br (.cmpi .lss (.int 1000) (.var 1)) (.leaf (.cons (.cons (.int 0) (.cons (.int 0) (.cons (.int 0) (.cons (.int 0) (.cons (.int 0) (.nil)))))) (.cons (.int 8) (.nil)))) (.br (.cmpi .lss (.var 2) (.int 1)) (.leaf (.cons (.cons (.int 0) (.cons (.int 0) (.cons (.int 0) (.cons (.int 0) (.cons (.int 0) (.nil)))))) (.cons (.int 8) (.nil)))) (.br (.cmpi .lss (.int 1000) (.var 2)) (.leaf (.cons (.cons (.int 0) (.cons (.int 0) (.cons (.int 0) (.cons (.int 0) (.cons (.int 0) (.nil)))))) (.cons (.int 8) (.nil)))) (.br (.cmpi .lss (.bin .mul .i64 (.var 0) (.var 2)) (.int 0)) (.leaf (.cons (.cons (.int 0) (.cons (.int 0) (.cons (.int 0) (.cons (.int 0) (.cons (.int 0) (.nil)))))) (.cons (.int 8) (.nil)))) (.leaf (.cons (.cons (.var 0) (.cons (.var 1) (.cons (.var 2) (.cons (.bin .mul .i64 (.var 0) (.var 2)) (.cons (.int 0) (.nil)))))) (.cons (.int 0) (.nil))))))))))
def h22T : Tre := .br (.cmpi .lss (.var 0) (.int 1)) (.leaf (.cons (.cons (.int 0) (.cons (.int 0) (.cons (.int 0) (.cons (.int 0) (.cons (.int 0) (.cons (.int 0) (.cons (.int 0) (.nil)))))))) (.cons (.int 8) (.nil)))) (.br (.cmpi .lss (.var 1) (.var 0)) (.leaf (.cons (.cons (.int 0) (.cons (.int 0) (.cons (.int 0) (.cons (.int 0) (.cons (.int 0) (.cons (.int 0) (.cons (.int 0) (.nil)))))))) (.cons (.int 8) (.nil)))) (.br (.cmpi .lss (.int 16) (.var 1)) (.leaf (.cons (.cons (.int 0) (.cons (.int 0) (.cons (.int 0) (.cons (.int 0) (.cons (.int 0) (.cons (.int 0) (.cons (.int 0) (.nil)))))))) (.cons (.int 8) (.nil)))) (.br (.cmpi .lss (.var 1) (.var 1)) (.leaf (.cons (.cons (.int 0) (.cons (.int 0) (.cons (.int 0) (.cons (.int 0) (.cons (.int 0) (.cons (.int 0) (.cons (.int 0) (.nil)))))))) (.cons (.int 8) (.nil)))) (.br (.cmpi .lss (.var 2) (.int 0)) (.leaf (.cons (.cons (.int 0) (.cons (.int 0) (.cons (.int 0) (.cons (.int 0) (.cons (.int 0) (.cons (.int 0) (.cons (.int 0) (.nil)))))))) (.cons (.int 8) (.nil)))) (.br (.cmpi .lss (.var 3) (.var 2)) (.leaf (.cons (.cons (.int 0) (.cons (.int 0) (.cons (.int 0) (.cons (.int 0) (.cons (.int 0) (.cons (.int 0) (.cons (.int 0) (.nil)))))))) (.cons (.int 8) (.nil)))) (.br (.cmpi .lss (.int 1099511627776) (.var 3)) (.leaf (.cons (.cons (.int 0) (.cons (.int 0) (.cons (.int 0) (.cons (.int 0) (.cons (.int 0) (.cons (.int 0) (.cons (.int 0) (.nil)))))))) (.cons (.int 8) (.nil)))) (.br (.cmpi .lss (.var 4) (.int 1)) (.leaf (.cons (.cons (.int 0) (.cons (.int 0) (.cons (.int 0) (.cons (.int 0) (.cons (.int 0) (.cons (.int 0) (.cons (.int 0) (.nil)))))))) (.cons (.int 8) (.nil)))) (.br (.cmpi .lss (.int 1000) (.var 4)) (.leaf (.cons (.cons (.int 0) (.cons (.int 0) (.cons (.int 0) (.cons (.int 0) (.cons (.int 0) (.cons (.int 0) (.cons (.int 0) (.nil)))))))) (.cons (.int 8) (.nil)))) (.br (.cmpi .lss (.int 0) (.var 4)) (.leaf (.cons (.cons (.var 1) (.cons (.var 0) (.cons (.var 1) (.cons (.var 2) (.cons (.var 3) (.cons (.var 4) (.cons (.int 0) (.nil)))))))) (.cons (.int 0) (.nil)))) (.leaf (.cons (.cons (.int 0) (.cons (.int 0) (.cons (.int 0) (.cons (.int 0) (.cons (.int 0) (.cons (.int 0) (.cons (.int 0) (.nil)))))))) (.cons (.int 8) (.nil)))))))))))))
def f27T : Tre := .br (.cmpi .lss (.var 0) (.int 1)) (.leaf (.cons (.cons (.int 0) (.cons (.int 0) (.cons (.lnil) (.cons (.int 0) (.cons (.int 0) (.nil)))))) (.cons (.int 8) (.nil)))) (.br (.cmpi .lss (.int 1000) (.var 0)) (.leaf (.cons (.cons (.int 0) (.cons (.int 0) (.cons (.lnil) (.cons (.int 0) (.cons (.int 0) (.nil)))))) (.cons (.int 8) (.nil)))) (.br (.cmpi .lss (.var 1) (.int 1)) (.leaf (.cons (.cons (.int 0) (.cons (.int 0) (.cons (.lnil) (.cons (.int 0) (.cons (.int 0) (.nil)))))) (.cons (.int 8) (.nil)))) (.br (.cmpi .lss (.int 1000) (.var 1)) (.leaf (.cons (.cons (.int 0) (.cons (.int 0) (.cons (.lnil) (.cons (.int 0) (.cons (.int 0) (.nil)))))) (.cons (.int 8) (.nil)))) (.leaf (.cons (.cons (.var 0) (.cons (.var 1) (.cons (.lnil) (.cons (.int 0) (.cons (.int 0) (.nil)))))) (.cons (.int 0) (.nil)))))))
def rckT : Tre := .br (.cmpi .lss (.cell (.var 0) 0) (.int 1)) (.leaf (.int 8)) (.br (.cmpi .lss (.int 8) (.cell (.var 0) 0)) (.leaf (.int 8)) (.br (.cmpi .lss (.cell (.var 0) 9) (.int 1)) (.leaf (.int 8)) (.br (.cmpi .lss (.int 1099511627776) (.cell (.var 0) 9)) (.leaf (.int 8)) (.br (.cmpi .lss (.cell (.var 0) 13) (.int 1)) (.leaf (.int 8)) (.br (.cmpi .lss (.int 1000) (.cell (.var 0) 13)) (.leaf (.int 8)) (.br (.cmpi .lss (.cell (.var 0) 14) (.int 1)) (.leaf (.int 8)) (.br (.cmpi .lss (.int 1099511627776) (.cell (.var 0) 14)) (.leaf (.int 8)) (.br (.cmpi .eql (.cell (.app 46 (.cons (.cell (.var 0) 6) (.cons (.cell (.var 0) 7) (.cons (.cell (.var 0) 8) (.nil))))) 1) (.int 0)) (.br (.cmpi .eql (.cell (.app 13 (.cons (.cell (.var 0) 2) (.cons (.cell (.var 0) 1) (.cons (.cell (.var 0) 3) (.cons (.cell (.var 0) 4) (.cons (.cell (.var 0) 5) (.nil))))))) 1) (.int 0)) (.br (.cmpi .eql (.cell (.app 47 (.cons (.cell (.var 0) 10) (.cons (.cell (.var 0) 11) (.nil)))) 1) (.int 0)) (.br (.cmpi .eql (.cell (.app 14 (.cons (.cell (.var 0) 12) (.nil))) 1) (.int 0)) (.leaf (.int 0)) (.leaf (.int 8))) (.leaf (.int 8))) (.leaf (.int 8))) (.leaf (.int 8))))))))))
theorem b21_chk : chkA Tryz.prog [] 400 36 (mkA fsB21.ats 0) fsB21.rs b21T [] = true := by kernel_rfl
theorem h22_chk : chkA Tryz.prog [] 400 37 (mkA fsH22.ats 0) fsH22.rs h22T [] = true := by kernel_rfl
theorem f27_chk : chkA Tryz.prog [] 400 38 (mkA fsF27.ats 0) fsF27.rs f27T [] = true := by kernel_rfl
theorem rck_chk : chkA Tryz.prog rckL 400 23 (mkA [.agg i15] 0) [.sh (.int .i64)] rckT [] = true := by kernel_rfl
theorem q29_chk : chkA Tryz.prog [] 400 39 (mkA [.sh (.int .i64)] 0) fsP29.rs poT [] = true := by kernel_rfl
theorem q29_chk8 : ((List.range 8).all fun k => chkA Tryz.prog [] 400 39 [.int .i64 (Int.ofNat (Nat.succ k))] fsP29.rs (.leaf (.cons (.cons (zX (Nat.succ k)) (.cons (zX (Nat.succ k)) (.cons (.int 0) .nil))) (.cons (.int 0) .nil))) []) = true := by kernel_rfl
structure ChkS (S : Sy) : Prop extends DocS S where
  b21 : ∀ ps, S.fn 46 ps = evP b21T ps
  f27 : ∀ ps, S.fn 47 ps = evP f27T ps
section
variable [S : Sy]
theorem ev_leaf {e : Xp} : (Tre.leaf e).ev = some e.den := rfl
theorem ev_cmp {o : BinOp} {a b : Xp} {t f : Tre} : (Tre.br (.cmpi o a b) t f).ev = bif cmpZ o a.den.i b.den.i then t.ev else f.ev := by
  conv => lhs; unfold Tre.ev
  show (match PV.bool (cmpZ o a.den.i b.den.i) with | .bool true => t.ev | .bool false => f.ev | _ => none) = _
  cases cmpZ o a.den.i b.den.i <;> rfl
theorem h22_same (ps : List PV) : evP hyT ps = evP h22T ps := by
  unfold evP hyT h22T
  simp only [ev_cmp, ev_leaf]
  have e1 : cmpZ BinOp.lss (@Xp.den (S.at (envL ps)) (.var 1)).i (@Xp.den (S.at (envL ps)) (.var 1)).i = false := decide_eq_false (Int.lt_irrefl _)
  have e2 : cmpZ BinOp.lss (@Xp.den (S.at (envL ps)) (.int 0)).i (@Xp.den (S.at (envL ps)) (.var 4)).i = !cmpZ BinOp.lss (@Xp.den (S.at (envL ps)) (.var 4)).i (@Xp.den (S.at (envL ps)) (.int 1)).i := by
    show decide ((0 : Int) < (@Xp.den (S.at (envL ps)) (.var 4)).i) = !decide ((@Xp.den (S.at (envL ps)) (.var 4)).i < 1)
    by_cases h : (@Xp.den (S.at (envL ps)) (.var 4)).i < 1
    · rw [decide_eq_true h, decide_eq_false (by omega)]; rfl
    · rw [decide_eq_false h, decide_eq_true (by omega)]; rfl
  rw [e1, e2]
  clear e1 e2
  generalize cmpZ BinOp.lss (@Xp.den (S.at (envL ps)) (.int 16)).i (@Xp.den (S.at (envL ps)) (.var 1)).i = b0
  generalize cmpZ BinOp.lss (@Xp.den (S.at (envL ps)) (.int 1099511627776)).i (@Xp.den (S.at (envL ps)) (.var 3)).i = b1
  generalize cmpZ BinOp.lss (@Xp.den (S.at (envL ps)) (.int 1000)).i (@Xp.den (S.at (envL ps)) (.var 4)).i = b2
  generalize cmpZ BinOp.lss (@Xp.den (S.at (envL ps)) (.var 4)).i (@Xp.den (S.at (envL ps)) (.int 1)).i = b3
  generalize cmpZ BinOp.lss (@Xp.den (S.at (envL ps)) (.var 3)).i (@Xp.den (S.at (envL ps)) (.var 2)).i = b4
  generalize cmpZ BinOp.lss (@Xp.den (S.at (envL ps)) (.var 2)).i (@Xp.den (S.at (envL ps)) (.int 0)).i = b5
  generalize cmpZ BinOp.lss (@Xp.den (S.at (envL ps)) (.var 1)).i (@Xp.den (S.at (envL ps)) (.var 0)).i = b6
  generalize cmpZ BinOp.lss (@Xp.den (S.at (envL ps)) (.var 0)).i (@Xp.den (S.at (envL ps)) (.int 1)).i = b7
  cases b0 <;> cases b1 <;> cases b2 <;> cases b3 <;> cases b4 <;> cases b5 <;> cases b6 <;> cases b7 <;> rfl
theorem b21_is (x y z : PV) : cmpZ .eql ((evP b21T [x, y, z]).cl 1).i 0 = !((((((cmpZ .lss x.i 1 || cmpZ .lss 1000 x.i) || cmpZ .lss y.i 0) || cmpZ .lss 1000 y.i) || cmpZ .lss z.i 1) || cmpZ .lss 1000 z.i) || cmpZ .lss (zop .mul .i64 x.i z.i) 0) := by
  unfold evP b21T
  simp only [ev_cmp, ev_leaf]
  have e0 : cmpZ .lss x.i 1 = cmpZ .lss (@Xp.den (S.at (envL [x, y, z])) (.var 0)).i (@Xp.den (S.at (envL [x, y, z])) (.int 1)).i := rfl
  have e1 : cmpZ .lss 1000 x.i = cmpZ .lss (@Xp.den (S.at (envL [x, y, z])) (.int 1000)).i (@Xp.den (S.at (envL [x, y, z])) (.var 0)).i := rfl
  have e2 : cmpZ .lss y.i 0 = cmpZ .lss (@Xp.den (S.at (envL [x, y, z])) (.var 1)).i (@Xp.den (S.at (envL [x, y, z])) (.int 0)).i := rfl
  have e3 : cmpZ .lss 1000 y.i = cmpZ .lss (@Xp.den (S.at (envL [x, y, z])) (.int 1000)).i (@Xp.den (S.at (envL [x, y, z])) (.var 1)).i := rfl
  have e4 : cmpZ .lss z.i 1 = cmpZ .lss (@Xp.den (S.at (envL [x, y, z])) (.var 2)).i (@Xp.den (S.at (envL [x, y, z])) (.int 1)).i := rfl
  have e5 : cmpZ .lss 1000 z.i = cmpZ .lss (@Xp.den (S.at (envL [x, y, z])) (.int 1000)).i (@Xp.den (S.at (envL [x, y, z])) (.var 2)).i := rfl
  have e6 : cmpZ .lss (zop .mul .i64 x.i z.i) 0 = cmpZ .lss (@Xp.den (S.at (envL [x, y, z])) (.bin .mul .i64 (.var 0) (.var 2))).i (@Xp.den (S.at (envL [x, y, z])) (.int 0)).i := rfl
  rw [e0, e1, e2, e3, e4, e5, e6]
  clear e0 e1 e2 e3 e4 e5 e6
  generalize cmpZ BinOp.lss (@Xp.den (S.at (envL [x, y, z])) (.var 0)).i (@Xp.den (S.at (envL [x, y, z])) (.int 1)).i = b0
  generalize cmpZ BinOp.lss (@Xp.den (S.at (envL [x, y, z])) (.int 1000)).i (@Xp.den (S.at (envL [x, y, z])) (.var 0)).i = b1
  generalize cmpZ BinOp.lss (@Xp.den (S.at (envL [x, y, z])) (.var 1)).i (@Xp.den (S.at (envL [x, y, z])) (.int 0)).i = b2
  generalize cmpZ BinOp.lss (@Xp.den (S.at (envL [x, y, z])) (.int 1000)).i (@Xp.den (S.at (envL [x, y, z])) (.var 1)).i = b3
  generalize cmpZ BinOp.lss (@Xp.den (S.at (envL [x, y, z])) (.var 2)).i (@Xp.den (S.at (envL [x, y, z])) (.int 1)).i = b4
  generalize cmpZ BinOp.lss (@Xp.den (S.at (envL [x, y, z])) (.int 1000)).i (@Xp.den (S.at (envL [x, y, z])) (.var 2)).i = b5
  generalize cmpZ BinOp.lss (@Xp.den (S.at (envL [x, y, z])) (.bin .mul .i64 (.var 0) (.var 2))).i (@Xp.den (S.at (envL [x, y, z])) (.int 0)).i = b6
  cases b0
  case true => rfl
  cases b1
  case true => rfl
  cases b2
  case true => rfl
  cases b3
  case true => rfl
  cases b4
  case true => rfl
  cases b5
  case true => rfl
  cases b6
  case true => rfl
  rfl
theorem f27_is (x y : PV) : cmpZ .eql ((evP f27T [x, y]).cl 1).i 0 = !(((cmpZ .lss x.i 1 || cmpZ .lss 1000 x.i) || cmpZ .lss y.i 1) || cmpZ .lss 1000 y.i) := by
  unfold evP f27T
  simp only [ev_cmp, ev_leaf]
  have e0 : cmpZ .lss x.i 1 = cmpZ .lss (@Xp.den (S.at (envL [x, y])) (.var 0)).i (@Xp.den (S.at (envL [x, y])) (.int 1)).i := rfl
  have e1 : cmpZ .lss 1000 x.i = cmpZ .lss (@Xp.den (S.at (envL [x, y])) (.int 1000)).i (@Xp.den (S.at (envL [x, y])) (.var 0)).i := rfl
  have e2 : cmpZ .lss y.i 1 = cmpZ .lss (@Xp.den (S.at (envL [x, y])) (.var 1)).i (@Xp.den (S.at (envL [x, y])) (.int 1)).i := rfl
  have e3 : cmpZ .lss 1000 y.i = cmpZ .lss (@Xp.den (S.at (envL [x, y])) (.int 1000)).i (@Xp.den (S.at (envL [x, y])) (.var 1)).i := rfl
  rw [e0, e1, e2, e3]
  clear e0 e1 e2 e3
  generalize cmpZ BinOp.lss (@Xp.den (S.at (envL [x, y])) (.var 0)).i (@Xp.den (S.at (envL [x, y])) (.int 1)).i = b0
  generalize cmpZ BinOp.lss (@Xp.den (S.at (envL [x, y])) (.int 1000)).i (@Xp.den (S.at (envL [x, y])) (.var 0)).i = b1
  generalize cmpZ BinOp.lss (@Xp.den (S.at (envL [x, y])) (.var 1)).i (@Xp.den (S.at (envL [x, y])) (.int 1)).i = b2
  generalize cmpZ BinOp.lss (@Xp.den (S.at (envL [x, y])) (.int 1000)).i (@Xp.den (S.at (envL [x, y])) (.var 1)).i = b3
  cases b0
  case true => rfl
  cases b1
  case true => rfl
  cases b2
  case true => rfl
  cases b3
  case true => rfl
  rfl
theorem rck_same (hS : ChkS S) (c : PV) : evP rckT [c] = evP ckT [c] := by
  unfold evP rckT ckT
  simp only [ev_cmp, ev_leaf]
  have e1 : cmpZ BinOp.eql (@Xp.den (S.at (envL [c])) (.cell (.app 46 (.cons (.cell (.var 0) 6) (.cons (.cell (.var 0) 7) (.cons (.cell (.var 0) 8) (.nil))))) 1)).i (@Xp.den (S.at (envL [c])) (.int 0)).i = !((((((cmpZ BinOp.lss (@Xp.den (S.at (envL [c])) (.cell (.var 0) 6)).i (@Xp.den (S.at (envL [c])) (.int 1)).i || cmpZ BinOp.lss (@Xp.den (S.at (envL [c])) (.int 1000)).i (@Xp.den (S.at (envL [c])) (.cell (.var 0) 6)).i) || cmpZ BinOp.lss (@Xp.den (S.at (envL [c])) (.cell (.var 0) 7)).i (@Xp.den (S.at (envL [c])) (.int 0)).i) || cmpZ BinOp.lss (@Xp.den (S.at (envL [c])) (.int 1000)).i (@Xp.den (S.at (envL [c])) (.cell (.var 0) 7)).i) || cmpZ BinOp.lss (@Xp.den (S.at (envL [c])) (.cell (.var 0) 8)).i (@Xp.den (S.at (envL [c])) (.int 1)).i) || cmpZ BinOp.lss (@Xp.den (S.at (envL [c])) (.int 1000)).i (@Xp.den (S.at (envL [c])) (.cell (.var 0) 8)).i) || cmpZ BinOp.lss (@Xp.den (S.at (envL [c])) (.bin .mul .i64 (.cell (.var 0) 6) (.cell (.var 0) 8))).i (@Xp.den (S.at (envL [c])) (.int 0)).i) := by
    show cmpZ .eql ((S.fn 46 [c.cl 6, c.cl 7, c.cl 8]).cl 1).i 0 = _
    rw [hS.b21, b21_is]
    rfl
  have e2 : cmpZ BinOp.eql (@Xp.den (S.at (envL [c])) (.cell (.app 47 (.cons (.cell (.var 0) 10) (.cons (.cell (.var 0) 11) (.nil)))) 1)).i (@Xp.den (S.at (envL [c])) (.int 0)).i = !(((cmpZ BinOp.lss (@Xp.den (S.at (envL [c])) (.cell (.var 0) 10)).i (@Xp.den (S.at (envL [c])) (.int 1)).i || cmpZ BinOp.lss (@Xp.den (S.at (envL [c])) (.int 1000)).i (@Xp.den (S.at (envL [c])) (.cell (.var 0) 10)).i) || cmpZ BinOp.lss (@Xp.den (S.at (envL [c])) (.cell (.var 0) 11)).i (@Xp.den (S.at (envL [c])) (.int 1)).i) || cmpZ BinOp.lss (@Xp.den (S.at (envL [c])) (.int 1000)).i (@Xp.den (S.at (envL [c])) (.cell (.var 0) 11)).i) := by
    show cmpZ .eql ((S.fn 47 [c.cl 10, c.cl 11]).cl 1).i 0 = _
    rw [hS.f27, f27_is]
    rfl
  rw [e1, e2]
  clear e1 e2
  generalize cmpZ BinOp.lss (@Xp.den (S.at (envL [c])) (.cell (.var 0) 0)).i (@Xp.den (S.at (envL [c])) (.int 1)).i = k0
  generalize cmpZ BinOp.lss (@Xp.den (S.at (envL [c])) (.int 8)).i (@Xp.den (S.at (envL [c])) (.cell (.var 0) 0)).i = k1
  generalize cmpZ BinOp.lss (@Xp.den (S.at (envL [c])) (.cell (.var 0) 9)).i (@Xp.den (S.at (envL [c])) (.int 1)).i = k2
  generalize cmpZ BinOp.lss (@Xp.den (S.at (envL [c])) (.int 1099511627776)).i (@Xp.den (S.at (envL [c])) (.cell (.var 0) 9)).i = k3
  generalize cmpZ BinOp.lss (@Xp.den (S.at (envL [c])) (.cell (.var 0) 13)).i (@Xp.den (S.at (envL [c])) (.int 1)).i = k4
  generalize cmpZ BinOp.lss (@Xp.den (S.at (envL [c])) (.int 1000)).i (@Xp.den (S.at (envL [c])) (.cell (.var 0) 13)).i = k5
  generalize cmpZ BinOp.lss (@Xp.den (S.at (envL [c])) (.cell (.var 0) 14)).i (@Xp.den (S.at (envL [c])) (.int 1)).i = k6
  generalize cmpZ BinOp.lss (@Xp.den (S.at (envL [c])) (.int 1099511627776)).i (@Xp.den (S.at (envL [c])) (.cell (.var 0) 14)).i = k7
  generalize cmpZ BinOp.lss (@Xp.den (S.at (envL [c])) (.cell (.var 0) 6)).i (@Xp.den (S.at (envL [c])) (.int 1)).i = m0
  generalize cmpZ BinOp.lss (@Xp.den (S.at (envL [c])) (.int 1000)).i (@Xp.den (S.at (envL [c])) (.cell (.var 0) 6)).i = m1
  generalize cmpZ BinOp.lss (@Xp.den (S.at (envL [c])) (.cell (.var 0) 7)).i (@Xp.den (S.at (envL [c])) (.int 0)).i = m2
  generalize cmpZ BinOp.lss (@Xp.den (S.at (envL [c])) (.int 1000)).i (@Xp.den (S.at (envL [c])) (.cell (.var 0) 7)).i = m3
  generalize cmpZ BinOp.lss (@Xp.den (S.at (envL [c])) (.cell (.var 0) 8)).i (@Xp.den (S.at (envL [c])) (.int 1)).i = m4
  generalize cmpZ BinOp.lss (@Xp.den (S.at (envL [c])) (.int 1000)).i (@Xp.den (S.at (envL [c])) (.cell (.var 0) 8)).i = m5
  generalize cmpZ BinOp.lss (@Xp.den (S.at (envL [c])) (.bin .mul .i64 (.cell (.var 0) 6) (.cell (.var 0) 8))).i (@Xp.den (S.at (envL [c])) (.int 0)).i = m6
  generalize cmpZ BinOp.lss (@Xp.den (S.at (envL [c])) (.cell (.var 0) 10)).i (@Xp.den (S.at (envL [c])) (.int 1)).i = f0
  generalize cmpZ BinOp.lss (@Xp.den (S.at (envL [c])) (.int 1000)).i (@Xp.den (S.at (envL [c])) (.cell (.var 0) 10)).i = f1
  generalize cmpZ BinOp.lss (@Xp.den (S.at (envL [c])) (.cell (.var 0) 11)).i (@Xp.den (S.at (envL [c])) (.int 1)).i = f2
  generalize cmpZ BinOp.lss (@Xp.den (S.at (envL [c])) (.int 1000)).i (@Xp.den (S.at (envL [c])) (.cell (.var 0) 11)).i = f3
  generalize cmpZ BinOp.eql (@Xp.den (S.at (envL [c])) (.cell (.app 13 (.cons (.cell (.var 0) 2) (.cons (.cell (.var 0) 1) (.cons (.cell (.var 0) 3) (.cons (.cell (.var 0) 4) (.cons (.cell (.var 0) 5) (.nil))))))) 1)).i (@Xp.den (S.at (envL [c])) (.int 0)).i = h
  generalize cmpZ BinOp.eql (@Xp.den (S.at (envL [c])) (.cell (.app 14 (.cons (.cell (.var 0) 12) (.nil))) 1)).i (@Xp.den (S.at (envL [c])) (.int 0)).i = p
  cases k0
  case true => rfl
  cases k1
  case true => rfl
  cases k2
  case true => rfl
  cases k3
  case true => rfl
  cases k4
  case true => rfl
  cases k5
  case true => rfl
  cases k6
  case true => rfl
  cases k7
  case true => rfl
  cases m0
  case true => rfl
  cases m1
  case true => rfl
  cases m2
  case true => rfl
  cases m3
  case true => rfl
  cases m4
  case true => rfl
  cases m5
  case true => rfl
  cases m6
  case true => rfl
  cases h
  case false => rfl
  cases f0
  case true => rfl
  cases f1
  case true => rfl
  cases f2
  case true => rfl
  cases f3
  case true => rfl
  cases p
  case false => rfl
  rfl
theorem b21_ok (hS : ChkS S) : FnOK Tryz.prog fsB21 :=
  tree_ok (l := []) (T := b21T) (fun w vs => MuLone.run_callFunc_enter Tryz.func36 (prog_N _ _ _ Tryz.func36 rfl) rfl vs w) prog_N prog_mixed (fun _ h => (List.not_mem_nil h).elim) (fun _ h => (List.not_mem_nil h).elim) b21_chk fun ps _ _ => by rw [hS.b21]; exact evE_some (by kernel_rfl) ps
theorem f27_ok (hS : ChkS S) : FnOK Tryz.prog fsF27 :=
  tree_ok (l := []) (T := f27T) (fun w vs => MuLone.run_callFunc_enter Tryz.func38 (prog_N _ _ _ Tryz.func38 rfl) rfl vs w) prog_N prog_mixed (fun _ h => (List.not_mem_nil h).elim) (fun _ h => (List.not_mem_nil h).elim) f27_chk fun ps _ _ => by rw [hS.f27]; exact evE_some (by kernel_rfl) ps
theorem h22_ok (hS : ChkS S) : FnOK Tryz.prog fsH22 :=
  tree_ok (l := []) (T := h22T) (fun w vs => MuLone.run_callFunc_enter Tryz.func37 (prog_N _ _ _ Tryz.func37 rfl) rfl vs w) prog_N prog_mixed (fun _ h => (List.not_mem_nil h).elim) (fun _ h => (List.not_mem_nil h).elim) h22_chk fun ps _ _ => by rw [hS.hyst, h22_same]; exact evE_some (by kernel_rfl) ps
theorem p29_ok (hS : ChkS S) : FnOK Tryz.prog fsP29 := by
  refine ⟨fun w vs => MuLone.run_callFunc_enter Tryz.func39 (prog_N _ _ _ Tryz.func39 rfl) rfl vs w, fun F W ps vs hF hi ha hp => ?_⟩
  obtain ⟨n, x, rfl, rfl, h1⟩ := args1 ha
  obtain rfl := int_rp h1
  have hnil : ∀ s ∈ ([] : List Fs), @FnOK ((S.lo F).at (envL [n])) Tryz.prog s := fun _ h => (List.not_mem_nil h).elim
  show Calls _ _ _ _ fun e w' => ∃ v, e = .returned v ∧ resOK (growF F W w') _ (S.fn 14 [n]) v ∧ Below W.heap.size W w'
  rw [hS.pool]
  show Calls _ _ _ _ fun e w' => ∃ v, e = .returned v ∧ resOK (growF F W w') _ (poolF n.i) v ∧ Below W.heap.size W w'
  by_cases hr : n.i < 1 ∨ 8 < n.i
  · have hv : @AV.rps ((S.lo F).at (envL [n])) ⟨fun _ => none, F⟩ (mkA [.sh (.int .i64)] 0) [Value.int .i64 n.i] := @mkA_rp ((S.lo F).at (envL [n])) noDc (@noDc_ok ((S.lo F).at (envL [n]))) ⟨fun _ => none, F⟩ [.sh (.int .i64)] 0 [n] _ (fun i q hq => by
      rw [Nat.zero_add]
      show envL [n] i = q
      unfold envL
      rw [hq]) ha
    refine @chk_at ((S.lo F).at (envL [n])) Tryz.prog [] 400 _ _ _ prog_N prog_mixed hnil (fun _ h => (List.not_mem_nil h).elim) F W _ hF (fun _ _ _ => Iff.rfl) hi (fun _ _ h => (by cases h)) hv poT [] q29_chk (fun p h => (List.not_mem_nil h).elim) _ ?_
    unfold poolF
    rw [if_pos hr]
    unfold poT
    by_cases h1 : n.i < 1
    · unfold Tre.ev
      rw [show @Xp.den ((S.lo F).at (envL [n])) (.cmpi .lss (.var 0) (.int 1)) = .bool true from congrArg PV.bool (decide_eq_true h1)]
      rfl
    · have h8 : 8 < n.i := hr.resolve_left h1
      unfold Tre.ev
      rw [show @Xp.den ((S.lo F).at (envL [n])) (.cmpi .lss (.var 0) (.int 1)) = .bool false from congrArg PV.bool (decide_eq_false h1)]
      show @Tre.ev ((S.lo F).at (envL [n])) (.must _ _) = _
      unfold Tre.ev
      rw [show @Xp.den ((S.lo F).at (envL [n])) (.cmpi .lss (.int 8) (.var 0)) = .bool true from congrArg PV.bool (decide_eq_true h8)]
      rfl
  · obtain ⟨k, hk, hk8⟩ : ∃ k : Nat, n.i = Int.ofNat (Nat.succ k) ∧ k < 8 := ⟨(n.i - 1).toNat, by simp; omega, by omega⟩
    have hc := List.all_eq_true.1 q29_chk8 k (List.mem_range.2 hk8)
    have hv : @AV.rps ((S.lo F).at (envL [n])) ⟨fun _ => none, F⟩ [.int .i64 (Int.ofNat (Nat.succ k))] [Value.int .i64 n.i] := (@rps_cons ((S.lo F).at (envL [n])) _ _ _ _).2 ⟨_, _, rfl, by simp only [AV.rp]; rw [hk], (@rps_nil ((S.lo F).at (envL [n])) _ _).2 rfl⟩
    refine @chk_at ((S.lo F).at (envL [n])) Tryz.prog [] 400 _ _ _ prog_N prog_mixed hnil (fun _ h => (List.not_mem_nil h).elim) F W _ hF (fun _ _ _ => Iff.rfl) hi (fun _ _ h => (by cases h)) hv _ [] hc (fun p h => (List.not_mem_nil h).elim) _ ?_
    unfold poolF
    rw [if_neg hr]
    show some (@Xp.den ((S.lo F).at (envL [n])) _) = _
    have hz := @zX_den ((S.lo F).at (envL [n])) (Nat.succ k)
    have ht : n.i.toNat = Nat.succ k := by rw [hk]; rfl
    rw [ht]
    show some (PV.tup [PV.tup [@Xp.den ((S.lo F).at (envL [n])) (zX (Nat.succ k)), @Xp.den ((S.lo F).at (envL [n])) (zX (Nat.succ k)), .int 0], .int 0]) = _
    rw [hz]
theorem rcheck_ok (hS : ChkS S) : FnOK Tryz.prog fsRCheck :=
  tree_ok (l := rckL) (T := rckT) (fun w vs => MuLone.run_callFunc_enter Tryz.func23 (prog_N _ _ _ Tryz.func23 rfl) rfl vs w) prog_N prog_mixed (fun s h => by
    simp only [rckL, List.mem_cons, List.not_mem_nil, or_false] at h
    rcases h with rfl | rfl | rfl | rfl
    · exact b21_ok hS
    · exact h22_ok hS
    · exact f27_ok hS
    · exact p29_ok hS) (fun s h => by
    simp only [rckL, List.mem_cons, List.not_mem_nil, or_false] at h
    rcases h with rfl | rfl | rfl | rfl <;> decide) rck_chk fun ps hl _ => by
    match ps, hl with
    | [c], _ =>
      rw [hS.check, ← rck_same hS c]
      exact evE_some (by kernel_rfl) [c]
end
end Go.Proofs.YtdflkikhmngfiaaGreatDoor

