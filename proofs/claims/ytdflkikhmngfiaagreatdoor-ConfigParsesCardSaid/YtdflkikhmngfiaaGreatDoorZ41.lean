/- The document of ConfigParses: Lines, words, in, Parse, from template to template. -/
import Derived.Test.YtdflkikhmngfiaaGreatDoorZ22
import Derived.Test.YtdflkikhmngfiaaGreatDoorZ40
namespace Go.Proofs.YtdflkikhmngfiaaGreatDoor
open Go.RowKit
set_option linter.unusedVariables false
set_option linter.unusedSimpArgs false
set_option linter.unusedSectionVars false
set_option maxRecDepth 100000

noncomputable def fsRLines : Fs := ⟨17, [.sh .str], [.sh (.lst [.str])], 40, some 71⟩
noncomputable def fsRWords : Fs := ⟨18, [.sh .str], [.sh (.lst [.str])], 3, some 33⟩
noncomputable def fsRPlace : Fs := ⟨19, [.sh .str], [.sh (.int .i64)], 42, none⟩
noncomputable def fsRIn : Fs := ⟨20, [.sh (.lst [.str]), .sh .str], [.sh .bool], 43, some 73⟩
noncomputable def fsRNumber : Fs := ⟨21, [.sh .str], [.sh (.int .i64), .sh .bool], 4, some 34⟩
noncomputable def fsRCheck : Fs := ⟨23, [.agg i15], [.sh (.int .i64)], 12, none⟩
noncomputable def fsRUsual : Fs := ⟨16, [], [.agg i15], 15, none⟩
noncomputable def dpL : List Fs := [fsRUsual, fsRLines, fsRWords, fsRPlace, fsRIn, fsRNumber, fsRSet, fsRCheck]

def dx3 : Xp := .cons (.var 3) (.cons (.var 4) (.cons (.var 11) (.cons (.var 5) (.cons (.var 12) (.cons (.var 8) (.cons (.var 15) (.cons (.var 6) (.cons (.var 13) (.cons (.var 9) (.cons (.var 16) (.cons (.var 7) (.cons (.var 14) (.cons (.var 10) (.cons (.var 17) (.nil)))))))))))))))
def dx6 : Xp := .app 40 (.cons (.var 0) (.nil))
def dx2 : Xp := .app 3 (.cons (.get dx6 (.var 1) 1 0) (.nil))
def dx8 : Xp := .get dx2 (.int 0) 1 0
def dx0 : Xp := .cell (.app 17 (.cons dx3 (.cons dx8 (.cons (.cell (.app 4 (.cons (.get dx2 (.int 1) 1 0) (.nil))) 0) (.nil))))) 0
def dx1 : Xp := .cons (.int 0) (.cons (.int 0) (.cons (.int 0) (.cons (.int 0) (.cons (.int 0) (.cons (.int 0) (.cons (.int 0) (.cons (.int 0) (.cons (.int 0) (.cons (.int 0) (.cons (.int 0) (.cons (.int 0) (.cons (.int 0) (.cons (.int 0) (.cons (.int 0) (.nil)))))))))))))))
def dx4 : Xp := .app 15 (.nil)
def dx5 : Xp := .bin .add .i64 (.var 1) (.int 1)
def dx7 : Trl := .leaf (.at 1 [.var 0, .var 1, .var 2, .var 3] [(0, 0)])
/-! footman/footmanref36.Lines -/
noncomputable def dl_F : Func := Tryz.f17
noncomputable def dl_C : Code := dl_F.body.getD .skip
noncomputable def dl_c1 : Code := seqR dl_C
noncomputable def dl_c2 : Code := seqR dl_c1
noncomputable def dl_c3 : Code := seqR dl_c2
noncomputable def dl_c4 : Code := seqL dl_c3
noncomputable def dl_c5 : Code := seqR dl_c3
noncomputable def dl_c6 : Code := seqR dl_c4
noncomputable def dl_c7 : Code := blkC dl_c6
noncomputable def dl_c8 : Code := lpC dl_c7
noncomputable def dl_s2 : St := ⟨[(0, .sx (.str) (.var 0)), (3, .nils), (4, .str [])], [], 0⟩
noncomputable def dl_s4 : St := ⟨[(0, .sx (.str) (.var 0)), (3, .ol 0 [.str] (.var 1)), (4, .sx (.str) (.var 3)), (5, .sx (.int .i64) (.var 2))], [(0, .tok 9 [.str] (.var 1))], 1⟩
noncomputable def dl_s6 : St := ⟨[(3, .ol 0 [.str] (.var 1)), (4, .sx (.str) (.var 3))], [(0, .tok 9 [.str] (.var 1))], 1⟩
theorem dl_body : dl_F.body = some dl_C := by kernel_rfl
def dl_t1 : Trl := .leaf (.at 0 [.var 0] [])
theorem dl_k1 : chkP Tryz.prog (oraFs Tryz.prog []) 400 dl_F.ntmps 3 dl_C (entS [.sh .str]) dl_F [.sh (.lst [.str])] (headsK [dl_s2] ++ []) dl_t1 [] = true := by kernel_rfl
def dl_t3 : Trl := .leaf (.at 0 [.var 0, .lnil, .int 0, .str []] [])
theorem dl_k3 : chkP Tryz.prog (oraFs Tryz.prog []) 400 dl_F.ntmps 1 dl_c4 dl_s2 dl_F [.sh (.lst [.str])] (headsK [dl_s4] ++ []) dl_t3 [] = true := by kernel_rfl
def dl_t5 : Trl := .br (.cmpi .lss (.var 2) (.lens (.var 0))) (.must (.inb (.var 2) (.lens (.var 0))) (.br (.cmpi .eql (.at (.var 0) (.var 2)) (.int 10)) (.must (.rng (.int 0) (.lenl (.snoc (.var 1) (.var 3))) (.int 100000)) (.leaf (.at 0 [.var 0, .snoc (.var 1) (.var 3), .bin .add .i64 (.var 2) (.int 1), .str []] [(0, 2)]))) (.must (.rng (.var 2) (.bin .add .i64 (.var 2) (.int 1)) (.lens (.var 0))) (.must (.rng (.int 0) (.lens (.cat (.var 3) (.subs (.var 0) (.var 2) (.bin .add .i64 (.var 2) (.int 1))))) (.int 1000000000)) (.leaf (.at 0 [.var 0, .var 1, .bin .add .i64 (.var 2) (.int 1), .cat (.var 3) (.subs (.var 0) (.var 2) (.bin .add .i64 (.var 2) (.int 1)))] [(0, 0)])))))) dx7
theorem dl_k5 : chkP Tryz.prog (oraFs Tryz.prog []) 400 dl_F.ntmps 1000 dl_c8 dl_s4 dl_F [.sh (.lst [.str])] (headsK [dl_s4] ++ [(.exit 0, dl_s6)]) dl_t5 [] = true := by kernel_rfl
def dl_B1 [S : Sy] : Rl := (selR dl_t5)
def dl_L1 [S : Sy] : Rl := LoopR 1 1 (fun _ => dl_B1) 0
theorem dl_b1 [S : Sy] (hO : ∀ s ∈ [], FnOK Tryz.prog s) : Spec Tryz.prog dl_F.ntmps dl_F [.sh (.lst [.str])] dl_c8 dl_s4 (headsK [dl_s4] ++ [(.exit 0, dl_s6)]) dl_B1 := (spec_ends prog_N prog_mixed (ora_of hO) dl_k5 (by kernel_rfl : dropC 1000 dl_c8 = none))
def dl_t7 : Trl := .br (.eqs (.var 3) (.str [])) (.leaf (.fin (.var 1))) (.must (.rng (.int 0) (.lenl (.snoc (.var 1) (.var 3))) (.int 100000)) (.leaf (.fin (.snoc (.var 1) (.var 3)))))
theorem dl_k7 : chkP Tryz.prog (oraFs Tryz.prog []) 400 dl_F.ntmps 1000 dl_c5 dl_s6 dl_F [.sh (.lst [.str])] (headsK [] ++ []) dl_t7 [] = true := by kernel_rfl
def dl_R [S : Sy] : Rl := (ThenE 1 0 (selR dl_t1) fun _ => (ThenE 1 0 (ThenE 1 1 (selR dl_t3) fun _ => dl_L1) fun _ => (selR dl_t7)))
theorem dl_spec [S : Sy] (hO : ∀ s ∈ [], FnOK Tryz.prog s) : Spec Tryz.prog dl_F.ntmps dl_F [.sh (.lst [.str])] dl_C (entS [.sh .str]) (headsK [] ++ []) dl_R := (spec_thenE (L := [dl_s2]) (H := []) (E := []) prog_N prog_mixed (ora_of hO) rfl dl_k1 (by kernel_rfl : dropC 3 dl_C = some dl_c3) (one_at (spec_eq (by kernel_rfl : dl_c3 = .seq dl_c4 dl_c5) (spec_seqE (L := [dl_s6]) (H := []) (E := []) rfl (spec_thenE (L := [dl_s4]) (H := [dl_s6]) (E := []) prog_N prog_mixed (ora_of hO) rfl dl_k3 (by kernel_rfl : dropC 1 dl_c4 = some dl_c6) (one_at (spec_eq (by kernel_rfl : dl_c6 = .block 0 (.loop dl_c8)) (spec_bl (H := [dl_s6]) (E := []) rfl (one_at (dl_b1 hO)) (k := 0) rfl)))) (one_at (spec_ends prog_N prog_mixed (ora_of hO) dl_k7 (by kernel_rfl : dropC 1000 dl_c5 = none)))))))
/-! footman/footmanref36.words -/
noncomputable def dw_F : Func := Tryz.f18
noncomputable def dw_C : Code := dw_F.body.getD .skip
noncomputable def dw_c1 : Code := seqR dw_C
noncomputable def dw_c2 : Code := seqR dw_c1
noncomputable def dw_c3 : Code := seqR dw_c2
noncomputable def dw_c4 : Code := seqL dw_c3
noncomputable def dw_c5 : Code := seqR dw_c3
noncomputable def dw_c6 : Code := seqR dw_c4
noncomputable def dw_c7 : Code := blkC dw_c6
noncomputable def dw_c8 : Code := lpC dw_c7
noncomputable def dw_s2 : St := ⟨[(0, .sx (.str) (.var 0)), (3, .nils), (4, .str [])], [], 0⟩
noncomputable def dw_s4 : St := ⟨[(0, .sx (.str) (.var 0)), (3, .ol 0 [.str] (.var 3)), (4, .sx (.str) (.var 2)), (5, .sx (.int .i64) (.var 1))], [(0, .tok 9 [.str] (.var 3))], 1⟩
noncomputable def dw_s6 : St := ⟨[(3, .ol 0 [.str] (.var 3)), (4, .sx (.str) (.var 2))], [(0, .tok 9 [.str] (.var 3))], 1⟩
theorem dw_body : dw_F.body = some dw_C := by kernel_rfl
def dw_t1 : Trl := .leaf (.at 0 [.var 0] [])
theorem dw_k1 : chkP Tryz.prog (oraFs Tryz.prog []) 400 dw_F.ntmps 3 dw_C (entS [.sh .str]) dw_F [.sh (.lst [.str])] (headsK [dw_s2] ++ []) dw_t1 [] = true := by kernel_rfl
def dw_t3 : Trl := .leaf (.at 0 [.var 0, .int 0, .str [], .lnil] [])
theorem dw_k3 : chkP Tryz.prog (oraFs Tryz.prog []) 400 dw_F.ntmps 1 dw_c4 dw_s2 dw_F [.sh (.lst [.str])] (headsK [dw_s4] ++ []) dw_t3 [] = true := by kernel_rfl
def dw_t5 : Trl := .br (.cmpi .lss (.var 1) (.lens (.var 0))) (.must (.inb (.var 1) (.lens (.var 0))) (.br (.cmpi .eql (.at (.var 0) (.var 1)) (.int 35)) dx7 (.br (.cmpi .eql (.at (.var 0) (.var 1)) (.int 32)) (.br (.eqs (.var 2) (.str [])) (.leaf (.at 0 [.var 0, .bin .add .i64 (.var 1) (.int 1), .var 2, .var 3] [(0, 0)])) (.must (.rng (.int 0) (.lenl (.snoc (.var 3) (.var 2))) (.int 100000)) (.leaf (.at 0 [.var 0, .bin .add .i64 (.var 1) (.int 1), .str [], .snoc (.var 3) (.var 2)] [(0, 2)])))) (.must (.rng (.var 1) dx5 (.lens (.var 0))) (.must (.rng (.int 0) (.lens (.cat (.var 2) (.subs (.var 0) (.var 1) dx5))) (.int 1000000000)) (.leaf (.at 0 [.var 0, .bin .add .i64 (.var 1) (.int 1), .cat (.var 2) (.subs (.var 0) (.var 1) dx5), .var 3] [(0, 0)]))))))) dx7
theorem dw_k5 : chkP Tryz.prog (oraFs Tryz.prog []) 400 dw_F.ntmps 1000 dw_c8 dw_s4 dw_F [.sh (.lst [.str])] (headsK [dw_s4] ++ [(.exit 0, dw_s6)]) dw_t5 [] = true := by kernel_rfl
def dw_B1 [S : Sy] : Rl := (selR dw_t5)
def dw_L1 [S : Sy] : Rl := LoopR 1 1 (fun _ => dw_B1) 0
theorem dw_b1 [S : Sy] (hO : ∀ s ∈ [], FnOK Tryz.prog s) : Spec Tryz.prog dw_F.ntmps dw_F [.sh (.lst [.str])] dw_c8 dw_s4 (headsK [dw_s4] ++ [(.exit 0, dw_s6)]) dw_B1 := (spec_ends prog_N prog_mixed (ora_of hO) dw_k5 (by kernel_rfl : dropC 1000 dw_c8 = none))
def dw_t7 : Trl := .br (.eqs (.var 2) (.str [])) (.leaf (.fin (.var 3))) (.must (.rng (.int 0) (.lenl (.snoc (.var 3) (.var 2))) (.int 100000)) (.leaf (.fin (.snoc (.var 3) (.var 2)))))
theorem dw_k7 : chkP Tryz.prog (oraFs Tryz.prog []) 400 dw_F.ntmps 1000 dw_c5 dw_s6 dw_F [.sh (.lst [.str])] (headsK [] ++ []) dw_t7 [] = true := by kernel_rfl
def dw_R [S : Sy] : Rl := (ThenE 1 0 (selR dw_t1) fun _ => (ThenE 1 0 (ThenE 1 1 (selR dw_t3) fun _ => dw_L1) fun _ => (selR dw_t7)))
theorem dw_spec [S : Sy] (hO : ∀ s ∈ [], FnOK Tryz.prog s) : Spec Tryz.prog dw_F.ntmps dw_F [.sh (.lst [.str])] dw_C (entS [.sh .str]) (headsK [] ++ []) dw_R := (spec_thenE (L := [dw_s2]) (H := []) (E := []) prog_N prog_mixed (ora_of hO) rfl dw_k1 (by kernel_rfl : dropC 3 dw_C = some dw_c3) (one_at (spec_eq (by kernel_rfl : dw_c3 = .seq dw_c4 dw_c5) (spec_seqE (L := [dw_s6]) (H := []) (E := []) rfl (spec_thenE (L := [dw_s4]) (H := [dw_s6]) (E := []) prog_N prog_mixed (ora_of hO) rfl dw_k3 (by kernel_rfl : dropC 1 dw_c4 = some dw_c6) (one_at (spec_eq (by kernel_rfl : dw_c6 = .block 0 (.loop dw_c8)) (spec_bl (H := [dw_s6]) (E := []) rfl (one_at (dw_b1 hO)) (k := 0) rfl)))) (one_at (spec_ends prog_N prog_mixed (ora_of hO) dw_k7 (by kernel_rfl : dropC 1000 dw_c5 = none)))))))
/-! footman/footmanref36.in -/
noncomputable def dn_F : Func := Tryz.f20
noncomputable def dn_C : Code := dn_F.body.getD .skip
noncomputable def dn_c1 : Code := seqR dn_C
noncomputable def dn_c2 : Code := seqL dn_c1
noncomputable def dn_c3 : Code := seqR dn_c1
noncomputable def dn_c4 : Code := seqR dn_c2
noncomputable def dn_c5 : Code := blkC dn_c4
noncomputable def dn_c6 : Code := lpC dn_c5
noncomputable def dn_s2 : St := ⟨[(0, .sx (.lst [.str]) (.var 0)), (1, .sx (.str) (.var 1))], [], 0⟩
noncomputable def dn_s4 : St := ⟨[(0, .sx (.lst [.str]) (.var 0)), (1, .sx (.str) (.var 1)), (5, .sx (.int .i64) (.var 2))], [], 0⟩
noncomputable def dn_s6 : St := ⟨[], [], 0⟩
theorem dn_body : dn_F.body = some dn_C := by kernel_rfl
def dn_t1 : Trl := .leaf (.at 0 [.var 0, .var 1] [])
theorem dn_k1 : chkP Tryz.prog (oraFs Tryz.prog []) 400 dn_F.ntmps 1 dn_C (entS [.sh (.lst [.str]), .sh .str]) dn_F [.sh .bool] (headsK [dn_s2] ++ []) dn_t1 [] = true := by kernel_rfl
def dn_t3 : Trl := .leaf (.at 0 [.var 0, .var 1, .int 0] [])
theorem dn_k3 : chkP Tryz.prog (oraFs Tryz.prog []) 400 dn_F.ntmps 1 dn_c2 dn_s2 dn_F [.sh .bool] (headsK [dn_s4] ++ []) dn_t3 [] = true := by kernel_rfl
def dn_t5 : Trl := .br (.cmpi .lss (.var 2) (.lenl (.var 0))) (.must (.inb (.var 2) (.lenl (.var 0))) (.br (.eqs (.get (.var 0) (.var 2) 1 0) (.var 1)) (.leaf (.fin (.bool true))) (.leaf (.at 0 [.var 0, .var 1, .bin .add .i64 (.var 2) (.int 1)] [])))) (.leaf (.at 1 [.var 0, .var 1, .var 2] []))
theorem dn_k5 : chkP Tryz.prog (oraFs Tryz.prog []) 400 dn_F.ntmps 1000 dn_c6 dn_s4 dn_F [.sh .bool] (headsK [dn_s4] ++ [(.exit 0, dn_s6)]) dn_t5 [] = true := by kernel_rfl
def dn_B1 [S : Sy] : Rl := (selR dn_t5)
def dn_L1 [S : Sy] : Rl := LoopR 1 1 (fun _ => dn_B1) 0
theorem dn_b1 [S : Sy] (hO : ∀ s ∈ [], FnOK Tryz.prog s) : Spec Tryz.prog dn_F.ntmps dn_F [.sh .bool] dn_c6 dn_s4 (headsK [dn_s4] ++ [(.exit 0, dn_s6)]) dn_B1 := (spec_ends prog_N prog_mixed (ora_of hO) dn_k5 (by kernel_rfl : dropC 1000 dn_c6 = none))
def dn_t7 : Trl := .leaf (.fin (.bool false))
theorem dn_k7 : chkP Tryz.prog (oraFs Tryz.prog []) 400 dn_F.ntmps 1000 dn_c3 dn_s6 dn_F [.sh .bool] (headsK [] ++ []) dn_t7 [] = true := by kernel_rfl
def dn_R [S : Sy] : Rl := (ThenE 1 0 (selR dn_t1) fun _ => (ThenE 1 0 (ThenE 1 1 (selR dn_t3) fun _ => dn_L1) fun _ => (selR dn_t7)))
theorem dn_spec [S : Sy] (hO : ∀ s ∈ [], FnOK Tryz.prog s) : Spec Tryz.prog dn_F.ntmps dn_F [.sh .bool] dn_C (entS [.sh (.lst [.str]), .sh .str]) (headsK [] ++ []) dn_R := (spec_thenE (L := [dn_s2]) (H := []) (E := []) prog_N prog_mixed (ora_of hO) rfl dn_k1 (by kernel_rfl : dropC 1 dn_C = some dn_c1) (one_at (spec_eq (by kernel_rfl : dn_c1 = .seq dn_c2 dn_c3) (spec_seqE (L := [dn_s6]) (H := []) (E := []) rfl (spec_thenE (L := [dn_s4]) (H := [dn_s6]) (E := []) prog_N prog_mixed (ora_of hO) rfl dn_k3 (by kernel_rfl : dropC 1 dn_c2 = some dn_c4) (one_at (spec_eq (by kernel_rfl : dn_c4 = .block 0 (.loop dn_c6)) (spec_bl (H := [dn_s6]) (E := []) rfl (one_at (dn_b1 hO)) (k := 0) rfl)))) (one_at (spec_ends prog_N prog_mixed (ora_of hO) dn_k7 (by kernel_rfl : dropC 1000 dn_c3 = none)))))))
/-! footman/footmanref36.Parse -/
noncomputable def dp_F : Func := Tryz.f6
noncomputable def dp_C : Code := dp_F.body.getD .skip
noncomputable def dp_c1 : Code := seqR dp_C
noncomputable def dp_c2 : Code := seqR dp_c1
noncomputable def dp_c3 : Code := seqR dp_c2
noncomputable def dp_c4 : Code := seqR dp_c3
noncomputable def dp_c5 : Code := seqR dp_c4
noncomputable def dp_c6 : Code := seqL dp_c5
noncomputable def dp_c7 : Code := seqR dp_c5
noncomputable def dp_c8 : Code := seqR dp_c6
noncomputable def dp_c9 : Code := blkC dp_c8
noncomputable def dp_c10 : Code := lpC dp_c9
noncomputable def dp_s2 : St := ⟨[(2, .ptr 0 0), (5, .ptr 1 0), (6, .ptr 2 0), (7, .nils), (8, .sx (.lst [.str]) dx6)], [(0, .row 28 1 15 [(0, .int .i64 0), (1, .int .i64 0), (2, .int .i64 0), (3, .int .i64 0), (4, .int .i64 0), (5, .int .i64 0), (6, .int .i64 0), (7, .int .i64 0), (8, .int .i64 0), (9, .int .i64 0), (10, .int .i64 0), (11, .int .i64 0), (12, .int .i64 0), (13, .int .i64 0), (14, .int .i64 0)] false), (1, .row 28 1 15 [(0, .int .i64 0), (1, .int .i64 0), (2, .int .i64 0), (3, .int .i64 0), (4, .int .i64 0), (5, .int .i64 0), (6, .int .i64 0), (7, .int .i64 0), (8, .int .i64 0), (9, .int .i64 0), (10, .int .i64 0), (11, .int .i64 0), (12, .int .i64 0), (13, .int .i64 0), (14, .int .i64 0)] false), (2, .row 28 1 15 [(0, .sx (.int .i64) (.cell dx4 0)), (1, .sx (.int .i64) (.cell dx4 1)), (2, .sx (.int .i64) (.cell dx4 2)), (3, .sx (.int .i64) (.cell dx4 3)), (4, .sx (.int .i64) (.cell dx4 4)), (5, .sx (.int .i64) (.cell dx4 5)), (6, .sx (.int .i64) (.cell dx4 6)), (7, .sx (.int .i64) (.cell dx4 7)), (8, .sx (.int .i64) (.cell dx4 8)), (9, .sx (.int .i64) (.cell dx4 9)), (10, .sx (.int .i64) (.cell dx4 10)), (11, .sx (.int .i64) (.cell dx4 11)), (12, .sx (.int .i64) (.cell dx4 12)), (13, .sx (.int .i64) (.cell dx4 13)), (14, .sx (.int .i64) (.cell dx4 14))] false)], 3⟩
noncomputable def dp_s4 : St := ⟨[(2, .ptr 0 0), (5, .ptr 1 0), (6, .ptr 2 0), (7, .ol 3 [.str] (.var 2)), (8, .sx (.lst [.str]) dx6), (9, .sx (.int .i64) (.var 1))], [(0, .row 28 1 15 [(0, .int .i64 0), (1, .int .i64 0), (2, .int .i64 0), (3, .int .i64 0), (4, .int .i64 0), (5, .int .i64 0), (6, .int .i64 0), (7, .int .i64 0), (8, .int .i64 0), (9, .int .i64 0), (10, .int .i64 0), (11, .int .i64 0), (12, .int .i64 0), (13, .int .i64 0), (14, .int .i64 0)] false), (1, .row 28 1 15 [(0, .int .i64 0), (1, .int .i64 0), (2, .int .i64 0), (3, .int .i64 0), (4, .int .i64 0), (5, .int .i64 0), (6, .int .i64 0), (7, .int .i64 0), (8, .int .i64 0), (9, .int .i64 0), (10, .int .i64 0), (11, .int .i64 0), (12, .int .i64 0), (13, .int .i64 0), (14, .int .i64 0)] false), (2, .row 28 1 15 [(0, .sx (.int .i64) (.var 3)), (1, .sx (.int .i64) (.var 4)), (2, .sx (.int .i64) (.var 11)), (3, .sx (.int .i64) (.var 5)), (4, .sx (.int .i64) (.var 12)), (5, .sx (.int .i64) (.var 8)), (6, .sx (.int .i64) (.var 15)), (7, .sx (.int .i64) (.var 6)), (8, .sx (.int .i64) (.var 13)), (9, .sx (.int .i64) (.var 9)), (10, .sx (.int .i64) (.var 16)), (11, .sx (.int .i64) (.var 7)), (12, .sx (.int .i64) (.var 14)), (13, .sx (.int .i64) (.var 10)), (14, .sx (.int .i64) (.var 17))] false), (3, .tok 9 [.str] (.var 2))], 4⟩
noncomputable def dp_s6 : St := ⟨[(2, .ptr 0 0), (5, .ptr 1 0), (6, .ptr 2 0)], [(0, .row 28 1 15 [(0, .int .i64 0), (1, .int .i64 0), (2, .int .i64 0), (3, .int .i64 0), (4, .int .i64 0), (5, .int .i64 0), (6, .int .i64 0), (7, .int .i64 0), (8, .int .i64 0), (9, .int .i64 0), (10, .int .i64 0), (11, .int .i64 0), (12, .int .i64 0), (13, .int .i64 0), (14, .int .i64 0)] false), (1, .row 28 1 15 [(0, .int .i64 0), (1, .int .i64 0), (2, .int .i64 0), (3, .int .i64 0), (4, .int .i64 0), (5, .int .i64 0), (6, .int .i64 0), (7, .int .i64 0), (8, .int .i64 0), (9, .int .i64 0), (10, .int .i64 0), (11, .int .i64 0), (12, .int .i64 0), (13, .int .i64 0), (14, .int .i64 0)] false), (2, .row 28 1 15 [(0, .sx (.int .i64) (.var 3)), (1, .sx (.int .i64) (.var 4)), (2, .sx (.int .i64) (.var 11)), (3, .sx (.int .i64) (.var 5)), (4, .sx (.int .i64) (.var 12)), (5, .sx (.int .i64) (.var 8)), (6, .sx (.int .i64) (.var 15)), (7, .sx (.int .i64) (.var 6)), (8, .sx (.int .i64) (.var 13)), (9, .sx (.int .i64) (.var 9)), (10, .sx (.int .i64) (.var 16)), (11, .sx (.int .i64) (.var 7)), (12, .sx (.int .i64) (.var 14)), (13, .sx (.int .i64) (.var 10)), (14, .sx (.int .i64) (.var 17))] false)], 4⟩
theorem dp_body : dp_F.body = some dp_C := by kernel_rfl
def dp_t1 : Trl := .must (.app 71 (.cons (.var 0) (.nil))) (.leaf (.at 0 [.var 0] [(0, 0), (1, 1), (2, 2)]))
theorem dp_k1 : chkP Tryz.prog (oraFs Tryz.prog dpL) 400 dp_F.ntmps 5 dp_C (entS [.sh .str]) dp_F [.agg i15, .sh (.int .i64), .sh (.int .i64)] (headsK [dp_s2] ++ []) dp_t1 [] = true := by kernel_rfl
def dp_t3 : Trl := .leaf (.at 0 [.var 0, .int 0, .lnil, .cell dx4 0, .cell dx4 1, .cell dx4 3, .cell dx4 7, .cell dx4 11, .cell dx4 5, .cell dx4 9, .cell dx4 13, .cell dx4 2, .cell dx4 4, .cell dx4 8, .cell dx4 12, .cell dx4 6, .cell dx4 10, .cell dx4 14] [(0, 0), (1, 1), (2, 2)])
theorem dp_k3 : chkP Tryz.prog (oraFs Tryz.prog dpL) 400 dp_F.ntmps 1 dp_c6 dp_s2 dp_F [.agg i15, .sh (.int .i64), .sh (.int .i64)] (headsK [dp_s4] ++ []) dp_t3 [] = true := by kernel_rfl
def dp_t5 : Trl := .br (.cmpi .lss (.var 1) (.lenl dx6)) (.must (.inb (.var 1) (.lenl dx6)) (.must (.app 33 (.cons (.get dx6 (.var 1) 1 0) (.nil))) (.br (.cmpi .lss (.int 200) (.lens (.get dx6 (.var 1) 1 0))) (.leaf (.fin (.cons dx1 (.cons dx5 (.cons (.int 5) (.nil)))))) (.br (.cmpi .eql (.lenl dx2) (.int 0)) (.leaf (.at 0 [.var 0, .bin .add .i64 (.var 1) (.int 1), .var 2, .var 3, .var 4, .var 5, .var 6, .var 7, .var 8, .var 9, .var 10, .var 11, .var 12, .var 13, .var 14, .var 15, .var 16, .var 17] [(0, 0), (1, 1), (2, 2), (3, 3)])) (.br (.cmpi .eql (.lenl dx2) (.int 2)) (.must (.inb (.int 0) (.lenl dx2)) (.br (.cmpi .lss (.app 42 (.cons dx8 (.nil))) (.int 0)) (.leaf (.fin (.cons dx1 (.cons dx5 (.cons (.int 11) (.nil)))))) (.must (.app 73 (.cons (.var 2) (.cons dx8 (.nil)))) (.br (.app 43 (.cons (.var 2) (.cons dx8 (.nil)))) (.leaf (.fin (.cons dx1 (.cons dx5 (.cons (.int 12) (.nil)))))) (.must (.inb (.int 1) (.lenl dx2)) (.must (.app 34 (.cons (.get dx2 (.int 1) 1 0) (.nil))) (.br (.cell (.app 4 (.cons (.get dx2 (.int 1) 1 0) (.nil))) 1) (.must (.rng (.int 0) (.lenl (.snoc (.var 2) dx8)) (.int 100000)) (.leaf (.at 0 [.var 0, .bin .add .i64 (.var 1) (.int 1), .snoc (.var 2) dx8, .cell dx0 0, .cell dx0 1, .cell dx0 3, .cell dx0 7, .cell dx0 11, .cell dx0 5, .cell dx0 9, .cell dx0 13, .cell dx0 2, .cell dx0 4, .cell dx0 8, .cell dx0 12, .cell dx0 6, .cell dx0 10, .cell dx0 14] [(0, 0), (1, 1), (2, 2), (3, 5)]))) (.leaf (.fin (.cons dx1 (.cons dx5 (.cons (.int 8) (.nil))))))))))))) (.leaf (.fin (.cons dx1 (.cons dx5 (.cons (.int 4) (.nil))))))))))) (.leaf (.at 1 [.var 0, .var 1, .var 2, .var 3, .var 4, .var 5, .var 6, .var 7, .var 8, .var 9, .var 10, .var 11, .var 12, .var 13, .var 14, .var 15, .var 16, .var 17] [(0, 0), (1, 1), (2, 2)]))
theorem dp_k5 : chkP Tryz.prog (oraFs Tryz.prog dpL) 400 dp_F.ntmps 1000 dp_c10 dp_s4 dp_F [.agg i15, .sh (.int .i64), .sh (.int .i64)] (headsK [dp_s4] ++ [(.exit 0, dp_s6)]) dp_t5 [] = true := by kernel_rfl
def dp_B1 [S : Sy] : Rl := (selR dp_t5)
def dp_L1 [S : Sy] : Rl := LoopR 1 1 (fun _ => dp_B1) 0
theorem dp_b1 [S : Sy] (hO : ∀ s ∈ dpL, FnOK Tryz.prog s) : Spec Tryz.prog dp_F.ntmps dp_F [.agg i15, .sh (.int .i64), .sh (.int .i64)] dp_c10 dp_s4 (headsK [dp_s4] ++ [(.exit 0, dp_s6)]) dp_B1 := (spec_ends prog_N prog_mixed (ora_of hO) dp_k5 (by kernel_rfl : dropC 1000 dp_c10 = none))
def dp_t7 : Trl := .br (.cmpi .eql (.app 12 (.cons dx3 (.nil))) (.int 0)) (.leaf (.fin (.cons dx3 (.cons (.int 0) (.cons (.int 0) (.nil)))))) (.leaf (.fin (.cons dx1 (.cons (.int 0) (.cons (.app 12 (.cons dx3 (.nil))) (.nil))))))
theorem dp_k7 : chkP Tryz.prog (oraFs Tryz.prog dpL) 400 dp_F.ntmps 1000 dp_c7 dp_s6 dp_F [.agg i15, .sh (.int .i64), .sh (.int .i64)] (headsK [] ++ []) dp_t7 [] = true := by kernel_rfl
def dp_R [S : Sy] : Rl := (ThenE 1 0 (selR dp_t1) fun _ => (ThenE 1 0 (ThenE 1 1 (selR dp_t3) fun _ => dp_L1) fun _ => (selR dp_t7)))
theorem dp_spec [S : Sy] (hO : ∀ s ∈ dpL, FnOK Tryz.prog s) : Spec Tryz.prog dp_F.ntmps dp_F [.agg i15, .sh (.int .i64), .sh (.int .i64)] dp_C (entS [.sh .str]) (headsK [] ++ []) dp_R := (spec_thenE (L := [dp_s2]) (H := []) (E := []) prog_N prog_mixed (ora_of hO) rfl dp_k1 (by kernel_rfl : dropC 5 dp_C = some dp_c5) (one_at (spec_eq (by kernel_rfl : dp_c5 = .seq dp_c6 dp_c7) (spec_seqE (L := [dp_s6]) (H := []) (E := []) rfl (spec_thenE (L := [dp_s4]) (H := [dp_s6]) (E := []) prog_N prog_mixed (ora_of hO) rfl dp_k3 (by kernel_rfl : dropC 1 dp_c6 = some dp_c8) (one_at (spec_eq (by kernel_rfl : dp_c8 = .block 0 (.loop dp_c10)) (spec_bl (H := [dp_s6]) (E := []) rfl (one_at (dp_b1 hO)) (k := 0) rfl)))) (one_at (spec_ends prog_N prog_mixed (ora_of hO) dp_k7 (by kernel_rfl : dropC 1000 dp_c7 = none)))))))
end Go.Proofs.YtdflkikhmngfiaaGreatDoor

