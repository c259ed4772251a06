/- CaB · CaE: joined by a program, for a claim has at most 60 files. -/
import Derived.Test.YtdflkikhmngfiaaDoorD22
import Derived.Test.YtdflkikhmngfiaaDoorD41
import Derived.Test.YtdflkikhmngfiaaDoorD42
/- ConfigBack, from template to template. -/
namespace Go.Proofs.YtdflkikhmngfiaaDoor
open Go.RowKit
set_option linter.unusedVariables false
set_option linter.unusedSimpArgs false
set_option linter.unusedSectionVars false
set_option maxRecDepth 100000

noncomputable def cbL : List Fs := [fsCheck, fsCPrint, fsParse, fsCDiff, fsUsual, fsCGet, fsAwake]

def rwX : Xp := .cons (.cell (.var 0) 0) (.cons (.cell (.var 0) 1) (.cons (.cell (.var 0) 2) (.cons (.cell (.var 0) 3) (.cons (.cell (.var 0) 4) (.cons (.cell (.var 0) 5) (.cons (.cell (.var 0) 6) (.cons (.cell (.var 0) 7) (.cons (.cell (.var 0) 8) (.cons (.cell (.var 0) 9) (.cons (.cell (.var 0) 10) (.cons (.cell (.var 0) 11) (.cons (.cell (.var 0) 12) (.cons (.cell (.var 0) 13) (.cons (.cell (.var 0) 14) .nil))))))))))))))
def usX : Xp := .cons (.cell (.app 15 .nil) 0) (.cons (.cell (.app 15 .nil) 1) (.cons (.cell (.app 15 .nil) 2) (.cons (.cell (.app 15 .nil) 3) (.cons (.cell (.app 15 .nil) 4) (.cons (.cell (.app 15 .nil) 5) (.cons (.cell (.app 15 .nil) 6) (.cons (.cell (.app 15 .nil) 7) (.cons (.cell (.app 15 .nil) 8) (.cons (.cell (.app 15 .nil) 9) (.cons (.cell (.app 15 .nil) 10) (.cons (.cell (.app 15 .nil) 11) (.cons (.cell (.app 15 .nil) 12) (.cons (.cell (.app 15 .nil) 13) (.cons (.cell (.app 15 .nil) 14) .nil))))))))))))))
def prtX : Xp := .app 7 (.cons rwX .nil)
def parX : Xp := .app 8 (.cons prtX .nil)
def difX : Xp := .app 5 (.cons rwX (.cons usX .nil))
def keyX : Xp := .get difX (.var 2) 1 0
def gtX : Xp := .app 16 (.cons rwX (.cons keyX .nil))
def gtU : Xp := .app 16 (.cons usX (.cons keyX .nil))
def yX : Xp := .cons (.cell (.cell parX 0) 0) (.cons (.cell (.cell parX 0) 1) (.cons (.cell (.cell parX 0) 2) (.cons (.cell (.cell parX 0) 3) (.cons (.cell (.cell parX 0) 4) (.cons (.cell (.cell parX 0) 5) (.cons (.cell (.cell parX 0) 6) (.cons (.cell (.cell parX 0) 7) (.cons (.cell (.cell parX 0) 8) (.cons (.cell (.cell parX 0) 9) (.cons (.cell (.cell parX 0) 10) (.cons (.cell (.cell parX 0) 11) (.cons (.cell (.cell parX 0) 12) (.cons (.cell (.cell parX 0) 13) (.cons (.cell (.cell parX 0) 14) .nil))))))))))))))
/-! footman/footmanlaw36.ConfigBack -/
noncomputable def cb_F : Func := Tryd.f4
noncomputable def cb_C : Code := cb_F.body.getD .skip
noncomputable def cb_c1 : Code := seqR cb_C
noncomputable def cb_c2 : Code := seqR cb_c1
noncomputable def cb_c3 : Code := seqR cb_c2
noncomputable def cb_c4 : Code := seqR cb_c3
noncomputable def cb_c5 : Code := seqR cb_c4
noncomputable def cb_c6 : Code := seqR cb_c5
noncomputable def cb_c7 : Code := seqL cb_c6
noncomputable def cb_c8 : Code := seqR cb_c6
noncomputable def cb_c9 : Code := seqR cb_c7
noncomputable def cb_c10 : Code := blkC cb_c9
noncomputable def cb_c11 : Code := lpC cb_c10
noncomputable def cb_s2 : St := ⟨[(2, .bool false), (3, .ptr 1 0), (4, .ptr 2 0), (5, .sx (.int .i64) (.cell parX 1)), (6, .sx (.int .i64) (.cell parX 2)), (7, .sx (.lst [.str]) difX), (8, .str []), (19, .ptr 1 9), (26, .bool false)], [(1, .row 25 1 15 [(0, .sx (.int .i64) (.cell (.var 0) 0)), (1, .sx (.int .i64) (.cell (.var 0) 1)), (2, .sx (.int .i64) (.cell (.var 0) 2)), (3, .sx (.int .i64) (.cell (.var 0) 3)), (4, .sx (.int .i64) (.cell (.var 0) 4)), (5, .sx (.int .i64) (.cell (.var 0) 5)), (6, .sx (.int .i64) (.cell (.var 0) 6)), (7, .sx (.int .i64) (.cell (.var 0) 7)), (8, .sx (.int .i64) (.cell (.var 0) 8)), (9, .sx (.int .i64) (.cell (.var 0) 9)), (10, .sx (.int .i64) (.cell (.var 0) 10)), (11, .sx (.int .i64) (.cell (.var 0) 11)), (12, .sx (.int .i64) (.cell (.var 0) 12)), (13, .sx (.int .i64) (.cell (.var 0) 13)), (14, .sx (.int .i64) (.cell (.var 0) 14))] false), (2, .row 25 1 15 [(0, .sx (.int .i64) (.cell (.cell parX 0) 0)), (1, .sx (.int .i64) (.cell (.cell parX 0) 1)), (2, .sx (.int .i64) (.cell (.cell parX 0) 2)), (3, .sx (.int .i64) (.cell (.cell parX 0) 3)), (4, .sx (.int .i64) (.cell (.cell parX 0) 4)), (5, .sx (.int .i64) (.cell (.cell parX 0) 5)), (6, .sx (.int .i64) (.cell (.cell parX 0) 6)), (7, .sx (.int .i64) (.cell (.cell parX 0) 7)), (8, .sx (.int .i64) (.cell (.cell parX 0) 8)), (9, .sx (.int .i64) (.cell (.cell parX 0) 9)), (10, .sx (.int .i64) (.cell (.cell parX 0) 10)), (11, .sx (.int .i64) (.cell (.cell parX 0) 11)), (12, .sx (.int .i64) (.cell (.cell parX 0) 12)), (13, .sx (.int .i64) (.cell (.cell parX 0) 13)), (14, .sx (.int .i64) (.cell (.cell parX 0) 14))] false)], 3⟩
noncomputable def cb_s4 : St := ⟨[(2, .bool false), (3, .ptr 1 0), (4, .ptr 2 0), (5, .sx (.int .i64) (.cell parX 1)), (6, .sx (.int .i64) (.cell parX 2)), (7, .sx (.lst [.str]) difX), (8, .sx (.str) (.var 1)), (9, .sx (.int .i64) (.var 2)), (19, .ptr 1 9), (26, .bool false)], [(1, .row 25 1 15 [(0, .sx (.int .i64) (.cell (.var 0) 0)), (1, .sx (.int .i64) (.cell (.var 0) 1)), (2, .sx (.int .i64) (.cell (.var 0) 2)), (3, .sx (.int .i64) (.cell (.var 0) 3)), (4, .sx (.int .i64) (.cell (.var 0) 4)), (5, .sx (.int .i64) (.cell (.var 0) 5)), (6, .sx (.int .i64) (.cell (.var 0) 6)), (7, .sx (.int .i64) (.cell (.var 0) 7)), (8, .sx (.int .i64) (.cell (.var 0) 8)), (9, .sx (.int .i64) (.cell (.var 0) 9)), (10, .sx (.int .i64) (.cell (.var 0) 10)), (11, .sx (.int .i64) (.cell (.var 0) 11)), (12, .sx (.int .i64) (.cell (.var 0) 12)), (13, .sx (.int .i64) (.cell (.var 0) 13)), (14, .sx (.int .i64) (.cell (.var 0) 14))] false), (2, .row 25 1 15 [(0, .sx (.int .i64) (.cell (.cell parX 0) 0)), (1, .sx (.int .i64) (.cell (.cell parX 0) 1)), (2, .sx (.int .i64) (.cell (.cell parX 0) 2)), (3, .sx (.int .i64) (.cell (.cell parX 0) 3)), (4, .sx (.int .i64) (.cell (.cell parX 0) 4)), (5, .sx (.int .i64) (.cell (.cell parX 0) 5)), (6, .sx (.int .i64) (.cell (.cell parX 0) 6)), (7, .sx (.int .i64) (.cell (.cell parX 0) 7)), (8, .sx (.int .i64) (.cell (.cell parX 0) 8)), (9, .sx (.int .i64) (.cell (.cell parX 0) 9)), (10, .sx (.int .i64) (.cell (.cell parX 0) 10)), (11, .sx (.int .i64) (.cell (.cell parX 0) 11)), (12, .sx (.int .i64) (.cell (.cell parX 0) 12)), (13, .sx (.int .i64) (.cell (.cell parX 0) 13)), (14, .sx (.int .i64) (.cell (.cell parX 0) 14))] false)], 3⟩
noncomputable def cb_s6 : St := ⟨[(3, .ptr 1 0), (4, .ptr 2 0), (5, .sx (.int .i64) (.cell parX 1)), (6, .sx (.int .i64) (.cell parX 2)), (7, .sx (.lst [.str]) difX), (8, .sx (.str) (.var 1)), (19, .ptr 1 9), (26, .bool false)], [(1, .row 25 1 15 [(0, .sx (.int .i64) (.cell (.var 0) 0)), (1, .sx (.int .i64) (.cell (.var 0) 1)), (2, .sx (.int .i64) (.cell (.var 0) 2)), (3, .sx (.int .i64) (.cell (.var 0) 3)), (4, .sx (.int .i64) (.cell (.var 0) 4)), (5, .sx (.int .i64) (.cell (.var 0) 5)), (6, .sx (.int .i64) (.cell (.var 0) 6)), (7, .sx (.int .i64) (.cell (.var 0) 7)), (8, .sx (.int .i64) (.cell (.var 0) 8)), (9, .sx (.int .i64) (.cell (.var 0) 9)), (10, .sx (.int .i64) (.cell (.var 0) 10)), (11, .sx (.int .i64) (.cell (.var 0) 11)), (12, .sx (.int .i64) (.cell (.var 0) 12)), (13, .sx (.int .i64) (.cell (.var 0) 13)), (14, .sx (.int .i64) (.cell (.var 0) 14))] false), (2, .row 25 1 15 [(0, .sx (.int .i64) (.cell (.cell parX 0) 0)), (1, .sx (.int .i64) (.cell (.cell parX 0) 1)), (2, .sx (.int .i64) (.cell (.cell parX 0) 2)), (3, .sx (.int .i64) (.cell (.cell parX 0) 3)), (4, .sx (.int .i64) (.cell (.cell parX 0) 4)), (5, .sx (.int .i64) (.cell (.cell parX 0) 5)), (6, .sx (.int .i64) (.cell (.cell parX 0) 6)), (7, .sx (.int .i64) (.cell (.cell parX 0) 7)), (8, .sx (.int .i64) (.cell (.cell parX 0) 8)), (9, .sx (.int .i64) (.cell (.cell parX 0) 9)), (10, .sx (.int .i64) (.cell (.cell parX 0) 10)), (11, .sx (.int .i64) (.cell (.cell parX 0) 11)), (12, .sx (.int .i64) (.cell (.cell parX 0) 12)), (13, .sx (.int .i64) (.cell (.cell parX 0) 13)), (14, .sx (.int .i64) (.cell (.cell parX 0) 14))] false)], 3⟩
theorem cb_body : cb_F.body = some cb_C := by kernel_rfl
def cb_t1 : Trl := .br (.cmpi .eql (.app 12 (.cons rwX (.nil))) (.int 0)) (.br (.cmpi .lss (.int 999999999) (.cell (.var 0) 9)) (.leaf (.fin (.app 10 (.nil)))) (.br (.cmpi .lss (.int 999999999) (.cell (.var 0) 14)) (.leaf (.fin (.app 10 (.nil)))) (.br (.cmpi .lss (.int 999999999) (.cell (.var 0) 4)) (.leaf (.fin (.app 10 (.nil)))) (.br (.cmpi .lss (.int 999999999) (.cell (.var 0) 3)) (.leaf (.fin (.app 10 (.nil)))) (.must (.app 94 (.cons rwX (.nil))) (.must (.app 38 (.cons prtX (.nil))) (.leaf (.at 0 [.var 0] [(1, 1), (2, 2)])))))))) (.leaf (.fin (.app 10 (.nil))))
theorem cb_k1 : chkP Tryd.prog (oraFs Tryd.prog cbL) 400 cb_F.ntmps 6 cb_C (entS [.agg i15]) cb_F [.sh .bool] (headsK [cb_s2] ++ []) cb_t1 [] = true := by kernel_rfl
def cb_t3 : Trl := .leaf (.at 0 [.var 0, .str [], .int 0] [(1, 1), (2, 2)])
theorem cb_k3 : chkP Tryd.prog (oraFs Tryd.prog cbL) 400 cb_F.ntmps 1 cb_c7 cb_s2 cb_F [.sh .bool] (headsK [cb_s4] ++ []) cb_t3 [] = true := by kernel_rfl
def cb_t5 : Trl := .br (.cmpi .lss (.var 2) (.lenl difX)) (.must (.inb (.var 2) (.lenl difX)) (.must (.rng (.int 0) (.lens (.cat keyX (.str [32]))) (.int 1000000000)) (.must (.rng (.int 0) (.lens (.cat (.var 1) (.cat keyX (.str [32])))) (.int 1000000000)) (.br (.cell gtX 1) (.br (.cell gtU 1) (.br (.cmpi .eql (.cell gtX 0) (.cell gtU 0)) (.leaf (.fin (.bool false))) (.leaf (.at 0 [.var 0, .cat (.var 1) (.cat keyX (.str [32])), .bin .add .i64 (.var 2) (.int 1)] [(1, 1), (2, 2)]))) (.leaf (.fin (.bool false)))) (.leaf (.fin (.bool false))))))) (.leaf (.at 1 [.var 0, .var 1, .var 2] [(1, 1), (2, 2)]))
theorem cb_k5 : chkP Tryd.prog (oraFs Tryd.prog cbL) 400 cb_F.ntmps 1000 cb_c11 cb_s4 cb_F [.sh .bool] (headsK [cb_s4] ++ [(.exit 0, cb_s6)]) cb_t5 [] = true := by kernel_rfl
def cb_B1 [S : Sy] : Rl := (selR cb_t5)
def cb_L1 [S : Sy] : Rl := LoopR 1 1 (fun _ => cb_B1) 0
theorem cb_b1 [S : Sy] (hO : ∀ s ∈ cbL, FnOK Tryd.prog s) : Spec Tryd.prog cb_F.ntmps cb_F [.sh .bool] cb_c11 cb_s4 (headsK [cb_s4] ++ [(.exit 0, cb_s6)]) cb_B1 := (spec_ends prog_N prog_mixed (ora_of hO) cb_k5 (by kernel_rfl : dropC 1000 cb_c11 = none))
def cb_t7 : Trl := .br (.cmpi .eql (.cell (.cell parX 0) 0) (.cell (.var 0) 0)) (.br (.cmpi .eql (.cell (.cell parX 0) 1) (.cell (.var 0) 1)) (.br (.cmpi .eql (.cell (.cell parX 0) 2) (.cell (.var 0) 2)) (.br (.cmpi .eql (.cell (.cell parX 0) 3) (.cell (.var 0) 3)) (.br (.cmpi .eql (.cell (.cell parX 0) 4) (.cell (.var 0) 4)) (.br (.cmpi .eql (.cell (.cell parX 0) 5) (.cell (.var 0) 5)) (.br (.cmpi .eql (.cell (.cell parX 0) 6) (.cell (.var 0) 6)) (.br (.cmpi .eql (.cell (.cell parX 0) 7) (.cell (.var 0) 7)) (.br (.cmpi .eql (.cell (.cell parX 0) 8) (.cell (.var 0) 8)) (.br (.cmpi .eql (.cell (.cell parX 0) 9) (.cell (.var 0) 9)) (.br (.cmpi .eql (.cell (.cell parX 0) 10) (.cell (.var 0) 10)) (.br (.cmpi .eql (.cell (.cell parX 0) 11) (.cell (.var 0) 11)) (.br (.cmpi .eql (.cell (.cell parX 0) 12) (.cell (.var 0) 12)) (.br (.cmpi .eql (.cell (.cell parX 0) 13) (.cell (.var 0) 13)) (.br (.cmpi .eql (.cell (.cell parX 0) 14) (.cell (.var 0) 14)) (.br (.cmpi .eql (.cell parX 1) (.int 0)) (.br (.cmpi .eql (.cell parX 2) (.int 0)) (.br (.eqs (.var 1) (.str [])) (.must (.app 94 (.cons rwX (.nil))) (.br (.eqs prtX (.str [])) (.br (.cmpi .eql (.lenl (.app 5 (.cons rwX (.cons yX (.nil))))) (.int 0)) (.leaf (.fin (.app 10 (.nil)))) (.leaf (.fin (.bool false)))) (.leaf (.fin (.bool false))))) (.must (.app 94 (.cons rwX (.nil))) (.br (.eqs prtX (.str [])) (.leaf (.fin (.bool false))) (.br (.cmpi .eql (.lenl (.app 5 (.cons rwX (.cons yX (.nil))))) (.int 0)) (.leaf (.fin (.app 10 (.nil)))) (.leaf (.fin (.bool false))))))) (.leaf (.fin (.bool false)))) (.leaf (.fin (.bool false)))) (.leaf (.fin (.bool false)))) (.leaf (.fin (.bool false)))) (.leaf (.fin (.bool false)))) (.leaf (.fin (.bool false)))) (.leaf (.fin (.bool false)))) (.leaf (.fin (.bool false)))) (.leaf (.fin (.bool false)))) (.leaf (.fin (.bool false)))) (.leaf (.fin (.bool false)))) (.leaf (.fin (.bool false)))) (.leaf (.fin (.bool false)))) (.leaf (.fin (.bool false)))) (.leaf (.fin (.bool false)))) (.leaf (.fin (.bool false)))) (.leaf (.fin (.bool false)))
theorem cb_k7 : chkP Tryd.prog (oraFs Tryd.prog cbL) 400 cb_F.ntmps 1000 cb_c8 cb_s6 cb_F [.sh .bool] (headsK [] ++ []) cb_t7 [] = true := by kernel_rfl
def cb_R [S : Sy] : Rl := (ThenE 1 0 (selR cb_t1) fun _ => (ThenE 1 0 (ThenE 1 1 (selR cb_t3) fun _ => cb_L1) fun _ => (selR cb_t7)))
theorem cb_spec [S : Sy] (hO : ∀ s ∈ cbL, FnOK Tryd.prog s) : Spec Tryd.prog cb_F.ntmps cb_F [.sh .bool] cb_C (entS [.agg i15]) (headsK [] ++ []) cb_R := (spec_thenE (L := [cb_s2]) (H := []) (E := []) prog_N prog_mixed (ora_of hO) rfl cb_k1 (by kernel_rfl : dropC 6 cb_C = some cb_c6) (one_at (spec_eq (by kernel_rfl : cb_c6 = .seq cb_c7 cb_c8) (spec_seqE (L := [cb_s6]) (H := []) (E := []) rfl (spec_thenE (L := [cb_s4]) (H := [cb_s6]) (E := []) prog_N prog_mixed (ora_of hO) rfl cb_k3 (by kernel_rfl : dropC 1 cb_c7 = some cb_c9) (one_at (spec_eq (by kernel_rfl : cb_c9 = .block 0 (.loop cb_c11)) (spec_bl (H := [cb_s6]) (E := []) rfl (one_at (cb_b1 hO)) (k := 0) rfl)))) (one_at (spec_ends prog_N prog_mixed (ora_of hO) cb_k7 (by kernel_rfl : dropC 1000 cb_c8 = none)))))))
end Go.Proofs.YtdflkikhmngfiaaDoor


/- ConfigBack: what it answers. -/
namespace Go.Proofs.YtdflkikhmngfiaaDoor
open Go.RowKit
set_option linter.unusedVariables false
set_option linter.unusedSimpArgs false
set_option linter.unusedSectionVars false
set_option maxRecDepth 100000

/-- Keys, each with a blank. -/
def txtF (l : List PV) : ByteArray := l.foldl (fun t p => t ++ (p.s ++ bytesOf [32])) ⟨#[]⟩
theorem txtF_snoc (l : List PV) (p : PV) : txtF (l ++ [p]) = txtF l ++ (p.s ++ bytesOf [32]) := by unfold txtF; rw [List.foldl_append]; rfl
theorem app_ne {a b : ByteArray} (h : 0 < b.size) : a ++ b ≠ ⟨#[]⟩ := fun e => by
  have := congrArg ByteArray.size e
  rw [bapp_size] at this
  have h0 : (⟨#[]⟩ : ByteArray).size = 0 := rfl
  omega
theorem dfTo_mem {a b : PV} : ∀ {i : Nat} {p : PV}, p ∈ dfTo a b i → ∃ j, j < i ∧ p = .str (kB j) ∧ (a.cl j).i ≠ (b.cl j).i
  | 0, p, h => (List.not_mem_nil h).elim
  | i + 1, p, h => by
    unfold dfTo at h
    split at h
    · obtain ⟨j, h1, h2⟩ := dfTo_mem h
      exact ⟨j, by omega, h2⟩
    · rename_i hne
      rcases List.mem_append.1 h with h | h
      · obtain ⟨j, h1, h2⟩ := dfTo_mem h
        exact ⟨j, by omega, h2⟩
      · exact ⟨i, by omega, List.mem_singleton.1 h, hne⟩
theorem dfTo_self (a : PV) : ∀ i, dfTo a a i = []
  | 0 => rfl
  | i + 1 => by unfold dfTo; rw [if_pos rfl, dfTo_self a i]
theorem txt_prt (ns : Nat → Int) (h : ∀ j, j < 15 → 0 ≤ ns j ∧ ns j ≤ 999999999) : ∀ i, i ≤ 15 → (txtF (dfTo (rowC fun j => .int (ns j)) usualP i) = ⟨#[]⟩ ↔ prTo (rowC fun j => .int (ns j)) i = ⟨#[]⟩)
  | 0, _ => ⟨fun _ => rfl, fun _ => rfl⟩
  | i + 1, hi => by
    have ih := txt_prt ns h i (by omega)
    have hc : ((rowC fun j => PV.int (ns j)).cl i).i = ns i := by rw [rowC_cl _ i (by omega)]; rfl
    have hu : (usualP.cl i).i = ut i := by
      have := usC_ut i (by omega)
      unfold usC at this
      rw [this]
      rfl
    unfold dfTo prTo
    rw [hc, hu]
    have h0 := (h i (by omega)).1
    by_cases he : ns i = ut i
    · rw [if_pos he, if_pos (.inl he)]
      exact ih
    · rw [if_neg he, if_neg (by rintro (h | h); exact he h; omega), txtF_snoc]
      refine ⟨fun h => absurd h (app_ne (by rw [bapp_size]; have : (bytesOf [32]).size = 1 := rfl; omega)), fun h => absurd h (app_ne ?_)⟩
      unfold lnB
      rw [bapp_size, bapp_size, bapp_size]
      have : (bytesOf [32]).size = 1 := rfl
      omega
theorem txtF_size (l : List PV) (h : ∀ p ∈ l, p.s.size ≤ 7) : (txtF l).size ≤ 8 * l.length := by
  induction l using snocInd with
  | h0 => exact Nat.le_refl _
  | h1 l p ih =>
    rw [txtF_snoc, bapp_size, bapp_size, List.length_append]
    have h1 := ih fun p hp => h p (by simp [hp])
    have h2 := h p (by simp)
    have h3 : (bytesOf [32]).size = 1 := rfl
    simp only [List.length_cons, List.length_nil]
    omega
theorem get_at (c : PV) : ∀ j, j < 15 → @evP bareSy getT [c, .str (kB j)] = .tup [c.cl j, .bool true] := all15 (by kernel_rfl) (by kernel_rfl) (by kernel_rfl) (by kernel_rfl) (by kernel_rfl) (by kernel_rfl) (by kernel_rfl) (by kernel_rfl) (by kernel_rfl) (by kernel_rfl) (by kernel_rfl) (by kernel_rfl) (by kernel_rfl) (by kernel_rfl) (by kernel_rfl)
section
variable (ns : Nat → Int) (h : ∀ j, j < 15 → 0 ≤ ns j ∧ ns j ≤ 999999999) (hck : (ckP [rowC fun j => .int (ns j)]).i = 0) {env : Env} (h0 : env 0 = rowC fun j => .int (ns j))
include h0
theorem row_is : @Xp.den (cfSy.at env) rwX = rowC fun j => .int (ns j) := by
  show PV.tup [(env 0).cl 0, (env 0).cl 1, (env 0).cl 2, (env 0).cl 3, (env 0).cl 4, (env 0).cl 5, (env 0).cl 6, (env 0).cl 7, (env 0).cl 8, (env 0).cl 9, (env 0).cl 10, (env 0).cl 11, (env 0).cl 12, (env 0).cl 13, (env 0).cl 14] = _
  rw [h0]
  exact row15 _ _ rfl rfl
theorem prt_is : @Xp.den (cfSy.at env) prtX = .str (prTo (rowC fun j => .int (ns j)) 15) := by
  show PV.str (prTo (@Xp.den (cfSy.at env) rwX) 15) = _
  rw [row_is ns h0]
include h hck in
theorem par_is : @Xp.den (cfSy.at env) parX = .tup [rowC fun j => .int (ns j), .int 0, .int 0] := by
  show @parseF chSy (@Xp.den (cfSy.at env) prtX).s = _
  rw [prt_is ns h0]
  exact parse_print (S := chSy) ns h hck
theorem us_is : @Xp.den (cfSy.at env) usX = usualP := rfl
theorem dif_is : @Xp.den (cfSy.at env) difX = .lst (dfTo (rowC fun j => .int (ns j)) usualP 15) := by
  show PV.lst (dfTo (@Xp.den (cfSy.at env) rwX) (@Xp.den (cfSy.at env) usX) 15) = _
  rw [row_is ns h0, us_is ns h0]
include h hck in
theorem y_is : @Xp.den (cfSy.at env) yX = rowC fun j => .int (ns j) := by
  have hp := par_is ns h hck h0
  show PV.tup [((@Xp.den (cfSy.at env) parX).cl 0).cl 0, ((@Xp.den (cfSy.at env) parX).cl 0).cl 1, ((@Xp.den (cfSy.at env) parX).cl 0).cl 2, ((@Xp.den (cfSy.at env) parX).cl 0).cl 3, ((@Xp.den (cfSy.at env) parX).cl 0).cl 4, ((@Xp.den (cfSy.at env) parX).cl 0).cl 5, ((@Xp.den (cfSy.at env) parX).cl 0).cl 6, ((@Xp.den (cfSy.at env) parX).cl 0).cl 7, ((@Xp.den (cfSy.at env) parX).cl 0).cl 8, ((@Xp.den (cfSy.at env) parX).cl 0).cl 9, ((@Xp.den (cfSy.at env) parX).cl 0).cl 10, ((@Xp.den (cfSy.at env) parX).cl 0).cl 11, ((@Xp.den (cfSy.at env) parX).cl 0).cl 12, ((@Xp.den (cfSy.at env) parX).cl 0).cl 13, ((@Xp.den (cfSy.at env) parX).cl 0).cl 14] = _
  rw [hp]
  exact row15 _ _ rfl rfl
theorem ok_is (h : ∀ j, j < 15 → 0 ≤ ns j ∧ ns j ≤ 999999999) : @Xp.den (cfSy.at env) (.app 94 (.cons rwX .nil)) = .bool true := by
  show PV.bool (okCfg (@Xp.den (cfSy.at env) rwX)) = _
  rw [row_is ns h0]
  refine congrArg PV.bool (List.all_eq_true.2 fun j hj => decide_eq_true ?_)
  have hj := List.mem_range.1 hj
  rw [rowC_cl _ j hj]
  have := (h j hj).2
  show ns j ≤ _
  omega
theorem ok_cfg (h : ∀ j, j < 15 → 0 ≤ ns j ∧ ns j ≤ 999999999) : okCfg (rowC fun j => .int (ns j)) = true := by
  refine List.all_eq_true.2 fun j hj => decide_eq_true ?_
  have hj := List.mem_range.1 hj
  rw [rowC_cl _ j hj]
  have := (h j hj).2
  show ns j ≤ _
  omega
end
theorem no_lt {a b : Int} (h : a ≤ b) : PV.bool (cmpZ .lss b a) = .bool false := congrArg PV.bool (decide_eq_false (by omega))

/-- A round of the loop. -/
theorem cb_step (ns : Nat → Int) (env : Env) (i : Nat) (h0 : env 0 = rowC fun j => .int (ns j)) (hi : i < (dfTo (rowC fun j => .int (ns j)) usualP 15).length) (h1 : env 1 = .str (txtF ((dfTo (rowC fun j => .int (ns j)) usualP 15).take i))) (h2 : env 2 = .int i) :
    ∃ env' : Env, @selR cfSy cb_t5 env (.inl (0, env')) ∧ env' 0 = env 0 ∧ env' 1 = .str (txtF ((dfTo (rowC fun j => .int (ns j)) usualP 15).take (i + 1))) ∧ env' 2 = .int ((i + 1 : Nat) : Int) := by
  have hd := dif_is ns h0
  have hlen := dfTo_len (rowC fun j => .int (ns j)) usualP 15
  have hm : ∀ p ∈ dfTo (rowC fun j => .int (ns j)) usualP 15, ∃ j, j < 15 ∧ p = .str (kB j) ∧ ns j ≠ ut j := fun p hp => by
    obtain ⟨j, k1, k2, k3⟩ := dfTo_mem hp
    refine ⟨j, k1, k2, ?_⟩
    rw [rowC_cl _ j k1, show usualP.cl j = .int (ut j) from usC_ut j k1] at k3
    exact k3
  generalize dfTo (rowC fun j => .int (ns j)) usualP 15 = L at *
  obtain ⟨j, hj, hp, hne⟩ := hm L[i] (List.getElem_mem hi)
  have hi2 : (env 2).i = (i : Int) := by rw [h2]; rfl
  have hn : (@Xp.den (cfSy.at env) difX).l.length = L.length := by rw [hd]; rfl
  have c1 : @Xp.den (cfSy.at env) (.cmpi .lss (.var 2) (.lenl difX)) = .bool true := by
    show PV.bool (decide ((env 2).i < ((@Xp.den (cfSy.at env) difX).l.length : Int))) = _
    rw [hn, hi2, decide_eq_true (by omega)]
  have c2 : @Xp.den (cfSy.at env) (.inb (.var 2) (.lenl difX)) = .bool true := by
    show PV.bool (decide ((0 : Int) ≤ (env 2).i) && decide ((env 2).i < ((@Xp.den (cfSy.at env) difX).l.length : Int))) = _
    rw [hn, hi2, inb_ok hi]
  have ck : @Xp.den (cfSy.at env) keyX = .str (kB j) := by
    show (((@Xp.den (cfSy.at env) difX).l.getD ((env 2).i).toNat default).row 1).getD 0 default = _
    rw [hd, hi2]
    show L.getD i default = _
    rw [List.getD_eq_getElem?_getD, List.getElem?_eq_getElem hi, hp]
    rfl
  have hks := key_size j hj
  have h32 : (bytesOf [32]).size = 1 := rfl
  have d1 := @cat_den cfSy env _ _ _ _ ck (show @Xp.den (cfSy.at env) (.str [32]) = .str (bytesOf [32]) from rfl)
  have d2 := @cat_den cfSy env _ _ _ _ (show @Xp.den (cfSy.at env) (.var 1) = .str (txtF (L.take i)) from h1) d1
  have hts := txtF_size (L.take i) (fun p hp => by
    obtain ⟨j', k1, k2, _⟩ := hm p (List.mem_of_mem_take hp)
    rw [k2]
    exact key_size j' k1)
  rw [List.length_take] at hts
  have b1 : (kB j ++ bytesOf [32]).size ≤ 1000000000 := by rw [bapp_size]; unfold kB; omega
  have b2 : (txtF (L.take i) ++ (kB j ++ bytesOf [32])).size ≤ 1000000000 := by rw [bapp_size, bapp_size]; unfold kB; omega
  have g1 : @Xp.den (cfSy.at env) gtX = .tup [.int (ns j), .bool true] := by
    show @evP bareSy getT [@Xp.den (cfSy.at env) rwX, @Xp.den (cfSy.at env) keyX] = _
    rw [row_is ns h0, ck, get_at _ j hj, rowC_cl _ j hj]
  have g2 : @Xp.den (cfSy.at env) gtU = .tup [.int (ut j), .bool true] := by
    show @evP bareSy getT [@Xp.den (cfSy.at env) usX, @Xp.den (cfSy.at env) keyX] = _
    rw [us_is ns h0, ck, get_at _ j hj, show usualP.cl j = .int (ut j) from usC_ut j hj]
  have c3 : @Xp.den (cfSy.at env) (.cell gtX 1) = .bool true := by
    show (@Xp.den (cfSy.at env) gtX).cl 1 = _
    rw [g1]; rfl
  have c4 : @Xp.den (cfSy.at env) (.cell gtU 1) = .bool true := by
    show (@Xp.den (cfSy.at env) gtU).cl 1 = _
    rw [g2]; rfl
  have c5 : @Xp.den (cfSy.at env) (.cmpi .eql (.cell gtX 0) (.cell gtU 0)) = .bool false := by
    show PV.bool (decide (((@Xp.den (cfSy.at env) gtX).cl 0).i = ((@Xp.den (cfSy.at env) gtU).cl 0).i)) = _
    rw [g1, g2]
    exact congrArg PV.bool (decide_eq_false hne)
  refine ⟨_, @selR_at cfSy cb_t5 env _ _ _ ((sel_br c1).trans ((sel_must c2).trans ((sel_must (@len_rng cfSy env _ _ d1 b1)).trans ((sel_must (@len_rng cfSy env _ _ d2 b2)).trans ((sel_br c3).trans ((sel_br c4).trans ((sel_br c5).trans rfl))))))), rfl, ?_, ?_⟩
  · refine d2.trans ?_
    rw [List.take_succ_eq_append_getElem hi, txtF_snoc, hp]
    rfl
  · show PV.int (IntKind.i64.wrap ((env 2).i + 1)) = _
    rw [hi2, i64_add1 (by omega) (by omega)]
    rfl

/-- All of these, or no. -/
def andsT : List Xp → Trl → Trl
  | [], T => T
  | c :: cs, T => .br c (andsT cs T) (.leaf (.fin (.bool false)))
theorem sel_ands {S : Sy} {T : Trl} : ∀ {cs : List Xp}, (∀ c ∈ cs, c.den = .bool true) → (andsT cs T).sel = T.sel
  | [], _ => rfl
  | c :: cs, h => (sel_br (h c (by simp))).trans (sel_ands (cs := cs) fun c hc => h c (by simp [hc]))
def cbCs : List Xp := (List.range 15).map (fun i => .cmpi .eql (.cell (.cell parX 0) i) (.cell (.var 0) i)) ++ [.cmpi .eql (.cell parX 1) (.int 0), .cmpi .eql (.cell parX 2) (.int 0)]
def cbE : Trl := .br (.cmpi .eql (.lenl (.app 5 (.cons rwX (.cons yX .nil)))) (.int 0)) (.leaf (.fin (.app 10 .nil))) (.leaf (.fin (.bool false)))
def cbT0 : Trl := .br (.eqs (.var 1) (.str [])) (.must (.app 94 (.cons rwX .nil)) (.br (.eqs prtX (.str [])) cbE (.leaf (.fin (.bool false))))) (.must (.app 94 (.cons rwX .nil)) (.br (.eqs prtX (.str [])) (.leaf (.fin (.bool false))) cbE))
theorem cb_t7_is : cb_t7 = andsT cbCs cbT0 := by kernel_rfl

/-- ConfigBack answers yes. -/
theorem cb_all (ns : Nat → Int) : @cb_R cfSy (envL [rowC fun j => .int (ns j)]) (.inr (.bool true)) := by
  have h0 : (envL [rowC fun j => .int (ns j)]) 0 = rowC fun j => .int (ns j) := rfl
  have hr := row_is ns h0
  have c1 : @Xp.den (cfSy.at (envL [rowC fun j => .int (ns j)])) (.cmpi .eql (.app 12 (.cons rwX .nil)) (.int 0)) = .bool (decide ((ckP [rowC fun j => .int (ns j)]).i = 0)) := by
    show PV.bool (decide ((ckP [@Xp.den (cfSy.at (envL [rowC fun j => .int (ns j)])) rwX]).i = 0)) = _
    rw [hr]
  by_cases hck : ¬ (ckP [rowC fun j => .int (ns j)]).i = 0
  · rw [decide_eq_false hck] at c1
    exact then_fin (S := cfSy) (@selR_fin cfSy cb_t1 _ _ ((sel_br c1).trans rfl))
  have hck := Decidable.not_not.1 hck
  rw [decide_eq_true hck] at c1
  have cc : ∀ j, j < 15 → @Xp.den (cfSy.at (envL [rowC fun j => .int (ns j)])) (.cmpi .lss (.int 999999999) (.cell (.var 0) j)) = .bool (decide (999999999 < ns j)) := fun j hj => by
    show PV.bool (decide (999999999 < ((rowC fun j => PV.int (ns j)).cl j).i)) = _
    rw [rowC_cl _ j hj]
    rfl
  have c9 := cc 9 (by omega)
  have c14 := cc 14 (by omega)
  have c4 := cc 4 (by omega)
  have c3 := cc 3 (by omega)
  by_cases h9 : 999999999 < ns 9
  · rw [decide_eq_true h9] at c9
    exact then_fin (S := cfSy) (@selR_fin cfSy cb_t1 _ _ ((sel_br c1).trans ((sel_br c9).trans rfl)))
  rw [decide_eq_false h9] at c9
  by_cases h14 : 999999999 < ns 14
  · rw [decide_eq_true h14] at c14
    exact then_fin (S := cfSy) (@selR_fin cfSy cb_t1 _ _ ((sel_br c1).trans ((sel_br c9).trans ((sel_br c14).trans rfl))))
  rw [decide_eq_false h14] at c14
  by_cases h4 : 999999999 < ns 4
  · rw [decide_eq_true h4] at c4
    exact then_fin (S := cfSy) (@selR_fin cfSy cb_t1 _ _ ((sel_br c1).trans ((sel_br c9).trans ((sel_br c14).trans ((sel_br c4).trans rfl)))))
  rw [decide_eq_false h4] at c4
  by_cases h3 : 999999999 < ns 3
  · rw [decide_eq_true h3] at c3
    exact then_fin (S := cfSy) (@selR_fin cfSy cb_t1 _ _ ((sel_br c1).trans ((sel_br c9).trans ((sel_br c14).trans ((sel_br c4).trans ((sel_br c3).trans rfl))))))
  rw [decide_eq_false h3] at c3
  have cl : ∀ j, j < 15 → ((rowC fun j => PV.int (ns j)).cl j).i = ns j := fun j hj => by rw [rowC_cl _ j hj]; rfl
  have h : ∀ j, j < 15 → 0 ≤ ns j ∧ ns j ≤ 999999999 := fun j hj => by
    have := check_range (rowC fun j => .int (ns j)) hck (by rw [cl 9 (by omega)]; omega) (by rw [cl 14 (by omega)]; omega) (by rw [cl 4 (by omega)]; omega) (by rw [cl 3 (by omega)]; omega) j hj
    rwa [cl j hj] at this
  have c6 : @Xp.den (cfSy.at (envL [rowC fun j => .int (ns j)])) (.app 38 (.cons prtX .nil)) = .bool true := by
    show PV.bool (decide ((@Xp.den (cfSy.at (envL [rowC fun j => .int (ns j)])) prtX).s.size ≤ 60000)) = _
    rw [prt_is ns h0]
    have := prTo_size (ok_cfg ns h0 h) 15 (Nat.le_refl _)
    exact congrArg PV.bool (decide_eq_true (by show (prTo _ 15).size ≤ _; omega))
  have hlen := dfTo_len (rowC fun j => .int (ns j)) usualP 15
  obtain ⟨out, l1, e, rfl, k0, k1⟩ := @loop_run 1 (fun _ => @cb_B1 cfSy) (fun i e => e 0 = (rowC fun j => .int (ns j)) ∧ e 1 = .str (txtF ((dfTo (rowC fun j => .int (ns j)) usualP 15).take i)) ∧ e 2 = .int (i : Int)) (fun out => ∃ e, out = .inl (0, e) ∧ e 0 = (rowC fun j => .int (ns j)) ∧ e 1 = .str (txtF (dfTo (rowC fun j => .int (ns j)) usualP 15))) (dfTo (rowC fun j => .int (ns j)) usualP 15).length
    (fun i e hi ⟨k0, k1, k2⟩ => by
      by_cases hlt : i < (dfTo (rowC fun j => .int (ns j)) usualP 15).length
      · obtain ⟨e', q1, q2, q3, q4⟩ := cb_step ns e i k0 hlt k1 k2
        exact .inl ⟨e', q1, hlt, q2.trans k0, q3, q4⟩
      · have hd := dif_is ns k0
        have cx : @Xp.den (cfSy.at e) (.cmpi .lss (.var 2) (.lenl difX)) = .bool false := by
          show PV.bool (decide ((e 2).i < ((@Xp.den (cfSy.at e) difX).l.length : Int))) = _
          rw [hd, k2]
          exact congrArg PV.bool (decide_eq_false (by show ¬ ((i : Int) < _); show ¬ ((i : Int) < ((dfTo (rowC fun j => .int (ns j)) usualP 15).length : Int)); omega))
        refine .inr (.inl ⟨0, _, by omega, @selR_at cfSy cb_t5 e 1 _ _ ((sel_br cx).trans rfl), _, rfl, k0, ?_⟩)
        rw [List.take_of_length_le (by omega)] at k1
        exact k1)
    (dfTo (rowC fun j => .int (ns j)) usualP 15).length 0 (@envOf (cfSy.at (@envOf (cfSy.at (envL [rowC fun j => .int (ns j)])) [.var 0])) [.var 0, .str [], .int 0]) (by omega) ⟨rfl, rfl, rfl⟩
  have hpar := par_is ns h hck k0
  have qs : ∀ c ∈ cbCs, @Xp.den (cfSy.at e) c = .bool true := fun c hc => by
    rcases List.mem_append.1 hc with hc | hc
    · obtain ⟨i, _, rfl⟩ := List.mem_map.1 hc
      show PV.bool (decide ((((@Xp.den (cfSy.at e) parX).cl 0).cl i).i = ((e 0).cl i).i)) = _
      rw [hpar, k0]
      exact congrArg PV.bool (decide_eq_true rfl)
    · rcases List.mem_cons.1 hc with rfl | hc
      · show PV.bool (decide (((@Xp.den (cfSy.at e) parX).cl 1).i = 0)) = _
        rw [hpar]; rfl
      · obtain rfl := List.mem_singleton.1 hc
        show PV.bool (decide (((@Xp.den (cfSy.at e) parX).cl 2).i = 0)) = _
        rw [hpar]; rfl
  have p3 : @Xp.den (cfSy.at e) (.eqs (.var 1) (.str [])) = .bool (decide (txtF (dfTo (rowC fun j => .int (ns j)) usualP 15) = ⟨#[]⟩)) := by
    show PV.bool (decide ((e 1).s = bytesOf [])) = _
    rw [k1]; rfl
  have p4 := ok_is ns k0 h
  have p5 : @Xp.den (cfSy.at e) (.eqs prtX (.str [])) = .bool (decide (prTo (rowC fun j => .int (ns j)) 15 = ⟨#[]⟩)) := by
    show PV.bool (decide ((@Xp.den (cfSy.at e) prtX).s = bytesOf [])) = _
    rw [prt_is ns k0]; rfl
  have p6 : @Xp.den (cfSy.at e) (.cmpi .eql (.lenl (.app 5 (.cons rwX (.cons yX .nil)))) (.int 0)) = .bool true := by
    show PV.bool (decide (((dfTo (@Xp.den (cfSy.at e) rwX) (@Xp.den (cfSy.at e) yX) 15).length : Int) = 0)) = _
    rw [row_is ns k0, y_is ns h hck k0, dfTo_self]
    rfl
  have hiff := txt_prt ns h 15 (Nat.le_refl _)
  refine then_on (S := cfSy) (k := 0) (@selR_at cfSy cb_t1 _ _ _ _ ((sel_br c1).trans ((sel_br c9).trans ((sel_br c14).trans ((sel_br c4).trans ((sel_br c3).trans ((sel_must (ok_is ns h0 h)).trans ((sel_must c6).trans rfl)))))))) (by omega) (then_on (S := cfSy) (k := 0) (e := e) (then_on (S := cfSy) (k := 0) (@selR_at cfSy cb_t3 _ 0 [.var 0, .str [], .int 0] _ rfl) (by omega) l1) (by omega) ?_)
  rw [cb_t7_is]
  by_cases ht : txtF (dfTo (rowC fun j => .int (ns j)) usualP 15) = ⟨#[]⟩
  · rw [decide_eq_true ht] at p3
    rw [decide_eq_true (hiff.1 ht)] at p5
    exact @selR_fin cfSy (andsT cbCs cbT0) e (.app 10 .nil) ((sel_ands qs).trans ((sel_br p3).trans ((sel_must p4).trans ((sel_br p5).trans ((sel_br p6).trans rfl)))))
  · rw [decide_eq_false ht] at p3
    rw [decide_eq_false (fun h => ht (hiff.2 h))] at p5
    exact @selR_fin cfSy (andsT cbCs cbT0) e (.app 10 .nil) ((sel_ands qs).trans ((sel_br p3).trans ((sel_must p4).trans ((sel_br p5).trans ((sel_br p6).trans rfl)))))

theorem cbL_ok : ∀ s ∈ cbL, @FnOK cfSy Tryd.prog s := fun s hs => by
  simp only [cbL, List.mem_cons, List.not_mem_nil, or_false] at hs
  rcases hs with rfl | rfl | rfl | rfl | rfl | rfl | rfl
  · exact @check_ok cfSy lawS.toCkS
  · exact @cprint_ok cfSy lawS.toPrS
  · exact @parse_ok cfSy lawS
  · exact @cdiff_ok cfSy 5 (fun _ _ => rfl)
  · exact @usual_ok cfSy lawS.toCkS
  · exact @cget_ok cfSy lawS
  · exact awake_ok
theorem configBack_any (ns : Nat → Int) (vs : Array Value) (W : World) (hi : CfInv W.heap.size W) (hv : argsOK (fun _ _ => none) [.agg i15] [rowC fun j => .int (ns j)] vs.toList) : Calls Tryd.prog 4 vs W fun e w' => e = .returned (.bool true) ∧ Below W.heap.size W w' := by
  have hsz : vs.size = 1 := by
    obtain ⟨p, ps', y, m', h1, h2, _, h3, h4⟩ := hv
    rw [← Array.length_toList, h2, h4]
    rfl
  refine (@spec_fn cfSy Tryd.prog 4 cb_F cb_C [.agg i15] [.sh .bool] (@cb_R cfSy) Tryd.func4 cb_body (@cb_spec cfSy cbL_ok) (fun _ _ => none) W [rowC fun j => .int (ns j)] vs (by rw [hsz]; exact Nat.le_of_ble_eq_true (by kernel_rfl)) (fun _ _ _ h => by cases h) (fun _ _ _ => Iff.rfl) hi (fun _ _ h => by cases h) hv _ (cb_all ns)).mono ?_
  rintro e w' ⟨v, rfl, h, hb⟩
  have h : Sh.rp (growF (fun _ _ => none) W w') .bool (PV.bool true) v := h
  simp only [Sh.rp] at h
  rw [h]
  exact ⟨rfl, hb⟩
def ofL (l : List Int) (j : Nat) : Int := l.getD j 0
theorem configBack_walk (a0 a1 a2 a3 a4 a5 a6 a7 a8 a9 a10 a11 a12 a13 a14 : Int) (W : World) (hT : Tab W) (hM : MaxC W) (wa0 : (Lit.int .i64 a0).wf = true) (wa1 : (Lit.int .i64 a1).wf = true) (wa2 : (Lit.int .i64 a2).wf = true) (wa3 : (Lit.int .i64 a3).wf = true) (wa4 : (Lit.int .i64 a4).wf = true) (wa5 : (Lit.int .i64 a5).wf = true) (wa6 : (Lit.int .i64 a6).wf = true) (wa7 : (Lit.int .i64 a7).wf = true) (wa8 : (Lit.int .i64 a8).wf = true) (wa9 : (Lit.int .i64 a9).wf = true) (wa10 : (Lit.int .i64 a10).wf = true) (wa11 : (Lit.int .i64 a11).wf = true) (wa12 : (Lit.int .i64 a12).wf = true) (wa13 : (Lit.int .i64 a13).wf = true) (wa14 : (Lit.int .i64 a14).wf = true) :
    Calls Tryd.prog 4 #[.agg #[.int .i64 a0, .int .i64 a1, .int .i64 a2, .int .i64 a3, .int .i64 a4, .int .i64 a5, .int .i64 a6, .int .i64 a7, .int .i64 a8, .int .i64 a9, .int .i64 a10, .int .i64 a11, .int .i64 a12, .int .i64 a13, .int .i64 a14]] W fun e w' => e = .returned (.bool true) ∧ Below W.heap.size W w' :=
  configBack_any (ofL [a0, a1, a2, a3, a4, a5, a6, a7, a8, a9, a10, a11, a12, a13, a14]) _ W (cfInv_of hT hM) ⟨_, _, _, _, rfl, rfl, cfg_args _ [a0, a1, a2, a3, a4, a5, a6, a7, a8, a9, a10, a11, a12, a13, a14] rfl, rfl, rfl⟩
end Go.Proofs.YtdflkikhmngfiaaDoor

