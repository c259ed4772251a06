/- CaC · CaF · CaG · CaH: joined by a program, for a claim has at most 60 files. -/
import Derived.Test.YtdflkikhmngfiaaDoorD22
import Derived.Test.YtdflkikhmngfiaaDoorD41
import Derived.Test.YtdflkikhmngfiaaDoorD40
import Derived.Test.YtdflkikhmngfiaaDoorD42
/- ConfigOrder, from template to template. -/
namespace Go.Proofs.YtdflkikhmngfiaaDoor
open Go.RowKit
set_option linter.unusedVariables false
set_option linter.unusedSimpArgs false
set_option linter.unusedSectionVars false
set_option maxRecDepth 100000

noncomputable def fsLine : Fs := ⟨22, [.sh .str, .sh (.int .i64)], [.sh .str], 18, some 98⟩
noncomputable def coL : List Fs := [fsCKeys, fsUsual, fsCSet, fsLine, fsParse, fsCheck, fsAwake]

def ox0 : Trl := .leaf (.fin (.bool false))
def ox5 : Xp := .cons (.var 5) (.cons (.wrap .i64 (.var 2)) (.nil))
def ox3 : Xp := .app 18 (.cons (.var 4) (.cons (.wrap .i64 (.var 1)) (.nil)))
def ox1 : Xp := .cat (.cat (.cat (.str [32, 32]) (.app 18 ox5)) (.str [32, 35, 32])) ox3
def ox2 : Xp := .cons (.cons (.cell (.app 15 (.nil)) 0) (.cons (.cell (.app 15 (.nil)) 1) (.cons (.cell (.app 15 (.nil)) 2) (.cons (.cell (.app 15 (.nil)) 3) (.cons (.cell (.app 15 (.nil)) 4) (.cons (.cell (.app 15 (.nil)) 5) (.cons (.cell (.app 15 (.nil)) 6) (.cons (.cell (.app 15 (.nil)) 7) (.cons (.cell (.app 15 (.nil)) 8) (.cons (.cell (.app 15 (.nil)) 9) (.cons (.cell (.app 15 (.nil)) 10) (.cons (.cell (.app 15 (.nil)) 11) (.cons (.cell (.app 15 (.nil)) 12) (.cons (.cell (.app 15 (.nil)) 13) (.cons (.cell (.app 15 (.nil)) 14) (.nil)))))))))))))))) (.cons (.get (.app 9 (.nil)) (.bin .rem .i64 (.wrap .i64 (.cell (.var 0) 0)) (.int 15)) 1 0) (.cons (.wrap .i64 (.var 1)) (.nil)))
def ox4 : Xp := .cons (.cons (.cell (.var 7) 0) (.cons (.cell (.var 7) 1) (.cons (.cell (.var 7) 2) (.cons (.cell (.var 7) 3) (.cons (.cell (.var 7) 4) (.cons (.cell (.var 7) 5) (.cons (.cell (.var 7) 6) (.cons (.cell (.var 7) 7) (.cons (.cell (.var 7) 8) (.cons (.cell (.var 7) 9) (.cons (.cell (.var 7) 10) (.cons (.cell (.var 7) 11) (.cons (.cell (.var 7) 12) (.cons (.cell (.var 7) 13) (.cons (.cell (.var 7) 14) (.nil)))))))))))))))) ox5
/-! footman/footmanlaw36.ConfigOrder -/
noncomputable def co_F : Func := Tryd.f5
noncomputable def co_C : Code := co_F.body.getD .skip
noncomputable def co_c1 : Code := seqR co_C
noncomputable def co_c2 : Code := seqR co_c1
noncomputable def co_c3 : Code := seqR co_c2
noncomputable def co_c4 : Code := seqR co_c3
noncomputable def co_c5 : Code := seqR co_c4
noncomputable def co_c6 : Code := seqR co_c5
noncomputable def co_c7 : Code := seqR co_c6
noncomputable def co_c8 : Code := seqR co_c7
noncomputable def co_c9 : Code := seqR co_c8
noncomputable def co_c10 : Code := seqR co_c9
noncomputable def co_s2 : St := ⟨[(1, .sx (.int .u16) (.var 1)), (2, .sx (.int .u16) (.var 2)), (6, .bool false), (9, .sx (.lst [.str]) (.var 3)), (10, .sx (.str) (.var 4)), (11, .sx (.str) (.var 5)), (12, .ptr 1 0), (13, .sx (.bool) (.cell (.var 6) 1))], [(1, .row 25 1 15 [(0, .sx (.int .i64) (.cell (.var 7) 0)), (1, .sx (.int .i64) (.cell (.var 7) 1)), (2, .sx (.int .i64) (.cell (.var 7) 2)), (3, .sx (.int .i64) (.cell (.var 7) 3)), (4, .sx (.int .i64) (.cell (.var 7) 4)), (5, .sx (.int .i64) (.cell (.var 7) 5)), (6, .sx (.int .i64) (.cell (.var 7) 6)), (7, .sx (.int .i64) (.cell (.var 7) 7)), (8, .sx (.int .i64) (.cell (.var 7) 8)), (9, .sx (.int .i64) (.cell (.var 7) 9)), (10, .sx (.int .i64) (.cell (.var 7) 10)), (11, .sx (.int .i64) (.cell (.var 7) 11)), (12, .sx (.int .i64) (.cell (.var 7) 12)), (13, .sx (.int .i64) (.cell (.var 7) 13)), (14, .sx (.int .i64) (.cell (.var 7) 14))] false)], 2⟩
noncomputable def co_s4 : St := ⟨[(1, .sx (.int .u16) (.var 1)), (2, .sx (.int .u16) (.var 2)), (6, .bool false), (9, .sx (.lst [.str]) (.var 3)), (10, .sx (.str) (.var 4)), (11, .sx (.str) (.var 5)), (12, .ptr 1 0), (13, .sx (.bool) (.cell (.var 6) 1)), (14, .sx (.bool) (.cell (.var 8) 1))], [(1, .row 25 1 15 [(0, .sx (.int .i64) (.cell (.var 9) 0)), (1, .sx (.int .i64) (.cell (.var 9) 1)), (2, .sx (.int .i64) (.cell (.var 9) 2)), (3, .sx (.int .i64) (.cell (.var 9) 3)), (4, .sx (.int .i64) (.cell (.var 9) 4)), (5, .sx (.int .i64) (.cell (.var 9) 5)), (6, .sx (.int .i64) (.cell (.var 9) 6)), (7, .sx (.int .i64) (.cell (.var 9) 7)), (8, .sx (.int .i64) (.cell (.var 9) 8)), (9, .sx (.int .i64) (.cell (.var 9) 9)), (10, .sx (.int .i64) (.cell (.var 9) 10)), (11, .sx (.int .i64) (.cell (.var 9) 11)), (12, .sx (.int .i64) (.cell (.var 9) 12)), (13, .sx (.int .i64) (.cell (.var 9) 13)), (14, .sx (.int .i64) (.cell (.var 9) 14))] false)], 2⟩
noncomputable def co_s6 : St := ⟨[(1, .sx (.int .u16) (.var 1)), (2, .sx (.int .u16) (.var 2)), (6, .bool false), (9, .sx (.lst [.str]) (.var 3)), (10, .sx (.str) (.var 4)), (11, .sx (.str) (.var 5)), (12, .ptr 1 0), (13, .sx (.bool) (.cell (.var 6) 1)), (14, .sx (.bool) (.cell (.var 8) 1)), (17, .ptr 2 0), (18, .sx (.int .i64) (.cell (.var 10) 1)), (19, .sx (.int .i64) (.cell (.var 10) 2)), (20, .ptr 3 0), (22, .sx (.int .i64) (.cell (.var 11) 2))], [(1, .row 25 1 15 [(0, .sx (.int .i64) (.cell (.var 9) 0)), (1, .sx (.int .i64) (.cell (.var 9) 1)), (2, .sx (.int .i64) (.cell (.var 9) 2)), (3, .sx (.int .i64) (.cell (.var 9) 3)), (4, .sx (.int .i64) (.cell (.var 9) 4)), (5, .sx (.int .i64) (.cell (.var 9) 5)), (6, .sx (.int .i64) (.cell (.var 9) 6)), (7, .sx (.int .i64) (.cell (.var 9) 7)), (8, .sx (.int .i64) (.cell (.var 9) 8)), (9, .sx (.int .i64) (.cell (.var 9) 9)), (10, .sx (.int .i64) (.cell (.var 9) 10)), (11, .sx (.int .i64) (.cell (.var 9) 11)), (12, .sx (.int .i64) (.cell (.var 9) 12)), (13, .sx (.int .i64) (.cell (.var 9) 13)), (14, .sx (.int .i64) (.cell (.var 9) 14))] false), (2, .row 25 1 15 [(0, .sx (.int .i64) (.cell (.var 12) 0)), (1, .sx (.int .i64) (.cell (.var 12) 1)), (2, .sx (.int .i64) (.cell (.var 12) 2)), (3, .sx (.int .i64) (.cell (.var 12) 3)), (4, .sx (.int .i64) (.cell (.var 12) 4)), (5, .sx (.int .i64) (.cell (.var 12) 5)), (6, .sx (.int .i64) (.cell (.var 12) 6)), (7, .sx (.int .i64) (.cell (.var 12) 7)), (8, .sx (.int .i64) (.cell (.var 12) 8)), (9, .sx (.int .i64) (.cell (.var 12) 9)), (10, .sx (.int .i64) (.cell (.var 12) 10)), (11, .sx (.int .i64) (.cell (.var 12) 11)), (12, .sx (.int .i64) (.cell (.var 12) 12)), (13, .sx (.int .i64) (.cell (.var 12) 13)), (14, .sx (.int .i64) (.cell (.var 12) 14))] false), (3, .row 25 1 15 [(0, .sx (.int .i64) (.cell (.var 13) 0)), (1, .sx (.int .i64) (.cell (.var 13) 1)), (2, .sx (.int .i64) (.cell (.var 13) 2)), (3, .sx (.int .i64) (.cell (.var 13) 3)), (4, .sx (.int .i64) (.cell (.var 13) 4)), (5, .sx (.int .i64) (.cell (.var 13) 5)), (6, .sx (.int .i64) (.cell (.var 13) 6)), (7, .sx (.int .i64) (.cell (.var 13) 7)), (8, .sx (.int .i64) (.cell (.var 13) 8)), (9, .sx (.int .i64) (.cell (.var 13) 9)), (10, .sx (.int .i64) (.cell (.var 13) 10)), (11, .sx (.int .i64) (.cell (.var 13) 11)), (12, .sx (.int .i64) (.cell (.var 13) 12)), (13, .sx (.int .i64) (.cell (.var 13) 13)), (14, .sx (.int .i64) (.cell (.var 13) 14))] false)], 4⟩
theorem co_body : co_F.body = some co_C := by kernel_rfl
def co_t1 : Trl := .br (.cmpi .eql (.lenl (.app 9 (.nil))) (.int 15)) (.must (.inb (.bin .rem .i64 (.wrap .i64 (.cell (.var 0) 0)) (.int 15)) (.lenl (.app 9 (.nil)))) (.must (.inb (.bin .rem .i64 (.wrap .i64 (.cell (.var 0) 1)) (.int 15)) (.lenl (.app 9 (.nil)))) (.leaf (.at 0 [.var 0, .var 1, .var 2, .app 9 (.nil), .get (.app 9 (.nil)) (.bin .rem .i64 (.wrap .i64 (.cell (.var 0) 0)) (.int 15)) 1 0, .get (.app 9 (.nil)) (.bin .rem .i64 (.wrap .i64 (.cell (.var 0) 1)) (.int 15)) 1 0, .app 17 ox2, .cell (.app 17 ox2) 0] [(1, 1)])))) ox0
theorem co_k1 : chkP Tryd.prog (oraFs Tryd.prog coL) 400 co_F.ntmps 6 co_C (entS [.agg [.int .u8, .int .u8], .sh (.int .u16), .sh (.int .u16)]) co_F [.sh .bool] (headsK [co_s2] ++ []) co_t1 [] = true := by kernel_rfl
def co_t3 : Trl := .leaf (.at 0 [.var 0, .var 1, .var 2, .var 3, .var 4, .var 5, .var 6, .var 7, .app 17 ox4, .cell (.app 17 ox4) 0] [(1, 1)])
theorem co_k3 : chkP Tryd.prog (oraFs Tryd.prog coL) 400 co_F.ntmps 1 co_c6 co_s2 co_F [.sh .bool] (headsK [co_s4] ++ []) co_t3 [] = true := by kernel_rfl
def co_t5 : Trl := .must (.app 98 (.cons (.var 4) (.cons (.wrap .i64 (.var 1)) (.nil)))) (.must (.app 98 ox5) (.must (.rng (.int 0) (.lens (.cat ox3 (.str [10]))) (.int 1000000000)) (.must (.rng (.int 0) (.lens (.cat (.cat ox3 (.str [10])) (.app 18 ox5))) (.int 1000000000)) (.must (.app 38 (.cons (.cat (.cat ox3 (.str [10])) (.app 18 ox5)) (.nil))) (.must (.rng (.int 0) (.lens (.cat (.str [32, 32]) (.app 18 ox5))) (.int 1000000000)) (.must (.rng (.int 0) (.lens (.cat (.cat (.str [32, 32]) (.app 18 ox5)) (.str [32, 35, 32]))) (.int 1000000000)) (.must (.rng (.int 0) (.lens ox1) (.int 1000000000)) (.must (.rng (.int 0) (.lens (.cat ox1 (.str [10, 10]))) (.int 1000000000)) (.must (.rng (.int 0) (.lens (.cat (.cat ox1 (.str [10, 10])) ox3)) (.int 1000000000)) (.must (.app 38 (.cons (.cat (.cat ox1 (.str [10, 10])) ox3) (.nil))) (.leaf (.at 0 [.var 0, .var 1, .var 2, .var 3, .var 4, .var 5, .var 6, .var 7, .var 8, .var 9, .app 8 (.cons (.cat (.cat ox3 (.str [10])) (.app 18 ox5)) (.nil)), .app 8 (.cons (.cat (.cat ox1 (.str [10, 10])) ox3) (.nil)), .cell (.app 8 (.cons (.cat (.cat ox3 (.str [10])) (.app 18 ox5)) (.nil))) 0, .cell (.app 8 (.cons (.cat (.cat ox1 (.str [10, 10])) ox3) (.nil))) 0] [(1, 1), (2, 2), (3, 3)]))))))))))))
theorem co_k5 : chkP Tryd.prog (oraFs Tryd.prog coL) 400 co_F.ntmps 3 co_c7 co_s4 co_F [.sh .bool] (headsK [co_s6] ++ []) co_t5 [] = true := by kernel_rfl
def co_t7 : Trl := .br (.eqs (.var 4) (.var 5)) (.br (.cmpi .eql (.cell (.var 10) 2) (.int 12)) (.br (.cmpi .eql (.cell (.var 11) 2) (.int 12)) (.br (.cmpi .eql (.cell (.var 12) 0) (.int 0)) (.br (.cmpi .eql (.cell (.var 12) 1) (.int 0)) (.br (.cmpi .eql (.cell (.var 12) 2) (.int 0)) (.br (.cmpi .eql (.cell (.var 12) 3) (.int 0)) (.br (.cmpi .eql (.cell (.var 12) 4) (.int 0)) (.br (.cmpi .eql (.cell (.var 12) 5) (.int 0)) (.br (.cmpi .eql (.cell (.var 12) 6) (.int 0)) (.br (.cmpi .eql (.cell (.var 12) 7) (.int 0)) (.br (.cmpi .eql (.cell (.var 12) 8) (.int 0)) (.br (.cmpi .eql (.cell (.var 12) 9) (.int 0)) (.br (.cmpi .eql (.cell (.var 12) 10) (.int 0)) (.br (.cmpi .eql (.cell (.var 12) 11) (.int 0)) (.br (.cmpi .eql (.cell (.var 12) 12) (.int 0)) (.br (.cmpi .eql (.cell (.var 12) 13) (.int 0)) (.br (.cmpi .eql (.cell (.var 12) 14) (.int 0)) (.leaf (.fin (.app 10 (.nil)))) ox0) ox0) ox0) ox0) ox0) ox0) ox0) ox0) ox0) ox0) ox0) ox0) ox0) ox0) ox0) ox0) ox0) (.br (.cmpi .eql (.app 12 (.cons (.cons (.cell (.var 9) 0) (.cons (.cell (.var 9) 1) (.cons (.cell (.var 9) 2) (.cons (.cell (.var 9) 3) (.cons (.cell (.var 9) 4) (.cons (.cell (.var 9) 5) (.cons (.cell (.var 9) 6) (.cons (.cell (.var 9) 7) (.cons (.cell (.var 9) 8) (.cons (.cell (.var 9) 9) (.cons (.cell (.var 9) 10) (.cons (.cell (.var 9) 11) (.cons (.cell (.var 9) 12) (.cons (.cell (.var 9) 13) (.cons (.cell (.var 9) 14) (.nil)))))))))))))))) (.nil))) (.int 0)) (.br (.cell (.var 6) 1) (.br (.cell (.var 8) 1) (.br (.cmpi .eql (.cell (.var 12) 0) (.cell (.var 9) 0)) (.br (.cmpi .eql (.cell (.var 12) 1) (.cell (.var 9) 1)) (.br (.cmpi .eql (.cell (.var 12) 2) (.cell (.var 9) 2)) (.br (.cmpi .eql (.cell (.var 12) 3) (.cell (.var 9) 3)) (.br (.cmpi .eql (.cell (.var 12) 4) (.cell (.var 9) 4)) (.br (.cmpi .eql (.cell (.var 12) 5) (.cell (.var 9) 5)) (.br (.cmpi .eql (.cell (.var 12) 6) (.cell (.var 9) 6)) (.br (.cmpi .eql (.cell (.var 12) 7) (.cell (.var 9) 7)) (.br (.cmpi .eql (.cell (.var 12) 8) (.cell (.var 9) 8)) (.br (.cmpi .eql (.cell (.var 12) 9) (.cell (.var 9) 9)) (.br (.cmpi .eql (.cell (.var 12) 10) (.cell (.var 9) 10)) (.br (.cmpi .eql (.cell (.var 12) 11) (.cell (.var 9) 11)) (.br (.cmpi .eql (.cell (.var 12) 12) (.cell (.var 9) 12)) (.br (.cmpi .eql (.cell (.var 12) 13) (.cell (.var 9) 13)) (.br (.cmpi .eql (.cell (.var 12) 14) (.cell (.var 9) 14)) (.br (.cmpi .eql (.cell (.var 13) 0) (.cell (.var 9) 0)) (.br (.cmpi .eql (.cell (.var 13) 1) (.cell (.var 9) 1)) (.br (.cmpi .eql (.cell (.var 13) 2) (.cell (.var 9) 2)) (.br (.cmpi .eql (.cell (.var 13) 3) (.cell (.var 9) 3)) (.br (.cmpi .eql (.cell (.var 13) 4) (.cell (.var 9) 4)) (.br (.cmpi .eql (.cell (.var 13) 5) (.cell (.var 9) 5)) (.br (.cmpi .eql (.cell (.var 13) 6) (.cell (.var 9) 6)) (.br (.cmpi .eql (.cell (.var 13) 7) (.cell (.var 9) 7)) (.br (.cmpi .eql (.cell (.var 13) 8) (.cell (.var 9) 8)) (.br (.cmpi .eql (.cell (.var 13) 9) (.cell (.var 9) 9)) (.br (.cmpi .eql (.cell (.var 13) 10) (.cell (.var 9) 10)) (.br (.cmpi .eql (.cell (.var 13) 11) (.cell (.var 9) 11)) (.br (.cmpi .eql (.cell (.var 13) 12) (.cell (.var 9) 12)) (.br (.cmpi .eql (.cell (.var 13) 13) (.cell (.var 9) 13)) (.br (.cmpi .eql (.cell (.var 13) 14) (.cell (.var 9) 14)) (.br (.cmpi .eql (.cell (.var 10) 2) (.int 0)) (.br (.cmpi .eql (.cell (.var 11) 2) (.int 0)) (.leaf (.fin (.app 10 (.nil)))) ox0) ox0) ox0) ox0) ox0) ox0) ox0) ox0) ox0) ox0) ox0) ox0) ox0) ox0) ox0) ox0) ox0) ox0) ox0) ox0) ox0) ox0) ox0) ox0) ox0) ox0) ox0) ox0) ox0) ox0) ox0) ox0) ox0) ox0) (.br (.cmpi .eql (.cell (.var 10) 2) (.int 8)) (.br (.cmpi .eql (.cell (.var 11) 2) (.int 8)) (.leaf (.fin (.app 10 (.nil)))) ox0) ox0))
theorem co_k7 : chkP Tryd.prog (oraFs Tryd.prog coL) 400 co_F.ntmps 1000 co_c10 co_s6 co_F [.sh .bool] (headsK [] ++ []) co_t7 [] = true := by kernel_rfl
def co_R [S : Sy] : Rl := (ThenE 1 0 (selR co_t1) fun _ => (ThenE 1 0 (selR co_t3) fun _ => (ThenE 1 0 (selR co_t5) fun _ => (selR co_t7))))
theorem co_spec [S : Sy] (hO : ∀ s ∈ coL, FnOK Tryd.prog s) : Spec Tryd.prog co_F.ntmps co_F [.sh .bool] co_C (entS [.agg [.int .u8, .int .u8], .sh (.int .u16), .sh (.int .u16)]) (headsK [] ++ []) co_R := (spec_thenE (L := [co_s2]) (H := []) (E := []) prog_N prog_mixed (ora_of hO) rfl co_k1 (by kernel_rfl : dropC 6 co_C = some co_c6) (one_at (spec_thenE (L := [co_s4]) (H := []) (E := []) prog_N prog_mixed (ora_of hO) rfl co_k3 (by kernel_rfl : dropC 1 co_c6 = some co_c7) (one_at (spec_thenE (L := [co_s6]) (H := []) (E := []) prog_N prog_mixed (ora_of hO) rfl co_k5 (by kernel_rfl : dropC 3 co_c7 = some co_c10) (one_at (spec_ends prog_N prog_mixed (ora_of hO) co_k7 (by kernel_rfl : dropC 1000 co_c10 = none))))))))
end Go.Proofs.YtdflkikhmngfiaaDoor


/- ConfigOrder's line. -/
namespace Go.Proofs.YtdflkikhmngfiaaDoor
open Go.RowKit
set_option linter.unusedVariables false
set_option linter.unusedSimpArgs false
set_option linter.unusedSectionVars false

def emptyV : Value → Nat
  | .string s => if s.size = 0 then 1 else 0
  | _ => 0
theorem emptyV_pos {s : ByteArray} (h : s.size ≠ 0) : emptyV (.string s) = 0 := if_neg h
/-- The digits so far, and what is left. -/
def LineI (n m : Nat) (t : ByteArray) : Prop := (t.size = 0 ∧ m = n) ∨ (0 < t.size ∧ ((m = 0 ∧ t = decS n) ∨ (0 < m ∧ decS m ++ t = decS n)))
theorem line_size {n m : Nat} {t : ByteArray} (hn : n ≤ 65535) (h : LineI n m t) : t.size ≤ 19 := by
  have hb := decS_big n (by omega)
  rcases h with ⟨h, _⟩ | ⟨_, ⟨_, h⟩ | ⟨_, h⟩⟩
  · omega
  · rw [h]; exact hb
  · rw [← h, bapp_size] at hb; omega
theorem line_next {n m : Nat} {t : ByteArray} (h : LineI n m t) : (0 < m ∨ t.size = 0) → LineI n (m / 10) (bsB [48 + m % 10] ++ t) := fun hh => by
  have hp : 0 < (bsB [48 + m % 10] ++ t).size := by rw [bapp_size]; have : (bsB [48 + m % 10]).size = 1 := rfl; omega
  have key : (m < 10 → bsB [48 + m % 10] = decS m) ∧ (10 ≤ m → decS (m / 10) ++ bsB [48 + m % 10] = decS m) := by
    constructor
    · intro hlt
      rw [Nat.mod_eq_of_lt hlt, decS_one hlt]; rfl
    · intro hge
      have e := decS_more (n := m) (by omega)
      rw [decS_one (n := m % 10) (Nat.mod_lt _ (by decide))] at e
      exact e.symm
  refine .inr ⟨hp, ?_⟩
  rcases h with ⟨h0, rfl⟩ | ⟨h0, ⟨rfl, h⟩ | ⟨h1, h⟩⟩
  · have ht : t = ⟨#[]⟩ := ByteArray.ext (Array.eq_empty_of_size_eq_zero h0)
    have ht2 : bsB [48 + m % 10] ++ t = bsB [48 + m % 10] := by rw [ht]; exact ByteArray.append_empty
    by_cases hlt : m < 10
    · exact .inl ⟨by omega, by rw [ht2, key.1 hlt]⟩
    · exact .inr ⟨by omega, by rw [ht2, key.2 (by omega)]⟩
  · rcases hh with hh | hh <;> omega
  · by_cases hlt : m < 10
    · exact .inl ⟨by omega, by rw [key.1 hlt, h]⟩
    · exact .inr ⟨by omega, by rw [← ByteArray.append_assoc, key.2 (by omega), h]⟩
theorem line_end {n m : Nat} {t : ByteArray} (hm : m = 0) (h1 : ¬ t.size = 0) (h : LineI n m t) : t = decS n := by
  rcases h with ⟨h0, _⟩ | ⟨_, ⟨_, h⟩ | ⟨h2, _⟩⟩
  · exact absurd h0 h1
  · exact h
  · omega
set_option maxRecDepth 100000 in
set_option maxHeartbeats 1000000 in
theorem line_any (k : ByteArray) (n : Nat) (hn : n ≤ 65535) (hk : k.size ≤ 1000) (w : World) : Calls Tryd.prog 22 #[.string k, .int .i64 (n : Int)] w fun e w' => e = .returned (.string (k ++ bytesOf [32, 32, 32] ++ decS n)) ∧ Below w.heap.size w w' := by
  go_enter Tryd.func22, Tryd.ntmps22
  go_wp2_with fail
  go_loopw [1, 5] (fun nn ss wr => ∃ (m : Nat) (t : ByteArray), nn = .int .i64 m ∧ ss = .string t ∧ m ≤ n ∧ LineI n m t ∧ Below w.heap.size w wr) (fun nn ss _ => (intOf nn).toNat + emptyV ss)
  case atStart => exact ⟨n, ⟨#[]⟩, rfl, rfl, Nat.le_refl _, .inl ⟨rfl, rfl⟩, Below.refl _ _⟩
  case round =>
    obtain ⟨m, t, rfl, rfl, hm, hI, bk⟩ := hrel
    have HI := Lib.hid hI
    have BK := Lib.hid bk
    clear hI bk
    have hd : m % 10 < 10 := Nat.mod_lt _ (by decide)
    have hx1 : (m : Int) % 10 = ((m % 10 : Nat) : Int) := rfl
    have hx2 : (m : Int) / 10 = ((m / 10 : Nat) : Int) := rfl
    have hsz := line_size hn HI.out
    have HN := Lib.hid (line_next HI.out)
    have hz : m / 10 ≤ m := by omega
    have HZ := Lib.hid (show 0 < m → m / 10 < m from by omega)
    generalize m % 10 = d at hd hx1 HN
    generalize m / 10 = q at hx2 HN hz HZ
    have hw1 : IntKind.u8.wrap (d : Int) = (d : Int) := IntWalk.u8_in _ (by omega)
    have hw2 : IntKind.u8.wrap (48 + (d : Int)) = ((48 + d : Nat) : Int) := IntWalk.u8_in _ (by omega)
    have hw3 : IntKind.i64.wrap (48 + (d : Int)) = ((48 + d : Nat) : Int) := by rw [show (48 : Int) + (d : Int) = ((48 + d : Nat) : Int) by omega]; exact IntWalk.i64_in _ (by omega)
    have hw4 : IntKind.i64.wrap (q : Int) = (q : Int) := IntWalk.i64_in _ (by omega)
    have hw5 : IntKind.i64.wrap (d : Int) = (d : Int) := IntWalk.i64_in _ (by omega)
    have hw6 : IntKind.u8.wrap ((48 + d : Nat) : Int) = ((48 + d : Nat) : Int) := IntWalk.u8_in _ (by omega)
    have hby : BytesN (wr.alloc (.cells #[.int .u8 (48 + (d : Int))] 5)) (some ⟨wr.heap.size, 0, none⟩) [48 + d] := fun i hi => by
      obtain rfl : i = 0 := by simp at hi; omega
      exact ⟨_, rfl, cells_new wr [Value.int .u8 (48 + (d : Int))] _ 0 _ rfl⟩
    have hcv := conv_bytes (wr.alloc (.cells #[.int .u8 (48 + (d : Int))] 5)) _ 1 1 [48 + d] rfl hby (fun i hi => by
      obtain rfl : i = 0 := by simp at hi; omega
      simp; omega)
    have HB := Lib.hid (BK.out.alloc BK.out.size (.cells #[.int .u8 (48 + (d : Int))] 5))
    have hs1 : (bsB [48 + d]).size = 1 := rfl
    generalize bsB [48 + d] = S at hcv HN hs1
    have hs2 : (S ++ t).size ≤ 100 := by rw [bapp_size]; omega
    clear hby
    by_cases h0 : 0 < m
    · have hc : decide ((0 : Int) < (m : Int)) = true := decide_eq_true (by omega)
      go_wp2_with fail
      go_roundw
      case rel => exact ⟨q, _, rfl, rfl, by omega, HN.out (.inl h0), HB.out⟩
      case measure =>
        have e := emptyV_pos (s := S ++ t) (by rw [bapp_size]; omega)
        show q + emptyV (.string (S ++ t)) < m + emptyV (.string t)
        rw [e]
        have := HZ.out h0
        omega
    · have hc : decide ((0 : Int) < (m : Int)) = false := decide_eq_false (by omega)
      by_cases h1 : t.size = 0
      · obtain rfl : t = ⟨#[]⟩ := ByteArray.ext (Array.eq_empty_of_size_eq_zero h1)
        go_wp2_with fail
        go_roundw
        case rel => exact ⟨q, _, rfl, rfl, by omega, HN.out (.inr h1), HB.out⟩
        case measure =>
          have e := emptyV_pos (s := S ++ ⟨#[]⟩) (by rw [bapp_size]; omega)
          show q + emptyV (.string (S ++ ⟨#[]⟩)) < m + 1
          rw [e]
          omega
      · have HE := Lib.hid (line_end (by omega) h1 HI.out)
        have hc2 : t.toList.isEmpty = false := by
          cases hh : t.toList.isEmpty with
          | false => rfl
          | true =>
            rw [tl, List.isEmpty_iff] at hh
            exact absurd (by rw [sz, hh]; rfl) h1
        go_wp2_with fail
        refine bodyPost_ret (v := .string (k ++ ⟨#[32, 32, 32]⟩ ++ t)) (by simp [results, Tryd.results22, go_sem]) rfl ⟨by rw [HE.out]; rfl, BK.out⟩
end Go.Proofs.YtdflkikhmngfiaaDoor


/- ConfigOrder: the table with line; what the law's functions are. -/
namespace Go.Proofs.YtdflkikhmngfiaaDoor
open Go.RowKit
set_option linter.unusedVariables false
set_option linter.unusedSimpArgs false
set_option linter.unusedSectionVars false
set_option maxRecDepth 100000

def coFn (n : Nat) (ps : List PV) : PV := match n with
  | 18 => .str ((argP ps 0).s ++ bytesOf [32, 32, 32] ++ decS (argP ps 1).i.toNat)
  | 98 => .bool (decide ((argP ps 0).s.size ≤ 1000 ∧ 0 ≤ (argP ps 1).i ∧ (argP ps 1).i ≤ 65535))
  | n => cfFn n ps
@[reducible] def coSy : Sy := ⟨fun _ => default, coFn, fun _ _ => none, CfInv, fun _ => none, CfInv.up, CfInv.keep⟩
theorem lawC : LawS coSy := {
  cut := fun _ _ => rfl, cutpre := fun _ _ => rfl, split := fun _ _ => rfl, splitpre := fun _ _ => rfl, words := fun _ => rfl, wordspre := fun _ => rfl,
  inv := fun _ _ h => h, num := fun _ => rfl, numpre := fun _ => rfl,
  hyst := fun ps => noapps hy_apps ps, pool := fun _ => rfl,
  check := fun ps => evP_apps [13, 14] ck_apps (fun f hf => by
    simp only [List.mem_cons, List.not_mem_nil, or_false] at hf
    rcases hf with rfl | rfl
    · rfl
    · rfl) ps,
  usual := rfl, num0 := fun _ => rfl, num0pre := fun _ => rfl, tab := fun _ _ h => h.1.1, print := fun _ => rfl, printpre := fun _ => rfl,
  get := fun ps => noapps get_apps ps, set := fun ps => noapps set_apps ps, keys := fun ps => noapps keys_apps ps,
  diff := fun _ _ => rfl, same := fun _ _ => rfl, samepre := fun _ _ => rfl, parse := fun _ => rfl, parsepre := fun _ => rfl }
theorem awake_okC : @FnOK coSy Tryd.prog fsAwake := by
  refine ⟨fun w vs => MuLone.run_callFunc_enter Tryd.func6 (prog_N _ _ _ Tryd.func6 rfl) rfl vs w, fun F W ps vs hF hi ha hp => ?_⟩
  have hv : vs = #[] := by
    obtain ⟨_, h2⟩ := ha
    rw [← Array.toArray_toList (xs := vs), h2]
  subst hv
  refine (awake_any lawC (fun _ => rfl) W hi).mono ?_
  rintro e w' ⟨rfl, hb⟩
  exact ⟨_, rfl, by show @resOK _ _ (PV.bool true) _; simp only [resOK, Tm.rp, Sh.rp]; rfl, hb⟩
theorem line_ok : @FnOK coSy Tryd.prog fsLine := by
  refine ⟨fun w vs => MuLone.run_callFunc_enter Tryd.func22 (prog_N _ _ _ Tryd.func22 rfl) rfl vs w, fun F W ps vs hF hi ha hp => ?_⟩
  obtain ⟨a, b, x, y, rfl, rfl, h1, h2⟩ := args2 ha
  obtain rfl := str_rp h1
  obtain rfl := int_rp h2
  have h : PV.bool (decide (a.s.size ≤ 1000 ∧ 0 ≤ b.i ∧ b.i ≤ 65535)) = .bool true := hp 98 rfl
  injection h with h
  obtain ⟨h3, h4, h5⟩ := of_decide_eq_true h
  have hb : (b.i.toNat : Int) = b.i := by omega
  have hl := line_any a.s b.i.toNat (by omega) h3 W
  rw [hb] at hl
  refine hl.mono ?_
  rintro e w' ⟨rfl, hbl⟩
  refine ⟨_, rfl, ?_, hbl⟩
  show Sh.rp (growF F W w') .str (PV.str (a.s ++ bytesOf [32, 32, 32] ++ decS b.i.toNat)) _
  simp only [Sh.rp]
  rfl
theorem coL_ok : ∀ s ∈ coL, @FnOK coSy Tryd.prog s := fun s hs => by
  simp only [coL, List.mem_cons, List.not_mem_nil, or_false] at hs
  rcases hs with rfl | rfl | rfl | rfl | rfl | rfl | rfl
  · exact @ckeys_ok coSy lawC
  · exact @usual_ok coSy lawC.toCkS
  · exact @cset_ok coSy lawC
  · exact line_ok
  · exact @parse_ok coSy lawC
  · exact @check_ok coSy lawC.toCkS
  · exact awake_okC
/-- A key by a byte. -/
def kyX (j : Nat) : Xp := .get (.app 9 .nil) (.bin .rem .i64 (.wrap .i64 (.cell (.var 0) j)) (.int 15)) 1 0
theorem rem15 : ∀ i : Nat, i < 256 → IntKind.i64.wrap ((IntKind.i64.wrap (i : Int)).tmod 15) = ((i % 15 : Nat) : Int) := fun i hi => by
  have h : (List.range 256).all (fun (i : Nat) => decide (IntKind.i64.wrap ((IntKind.i64.wrap (i : Int)).tmod 15) = ((i % 15 : Nat) : Int))) = true := by kernel_rfl
  exact of_decide_eq_true (List.all_eq_true.1 h i (List.mem_range.2 hi))
theorem keys_is : @evP bareSy keysT [] = .lst ((List.range 15).map fun j => .str (kB j)) := by kernel_rfl
/-- Set, plain. -/
theorem set_at (c : Nat → PV) (x : PV) : ∀ j, j < 15 → @evP bareSy setT [rowC c, .str (kB j), x] = .tup [rowC (fun i => if i = j then x else c i), .bool true] := all15 (by kernel_rfl) (by kernel_rfl) (by kernel_rfl) (by kernel_rfl) (by kernel_rfl) (by kernel_rfl) (by kernel_rfl) (by kernel_rfl) (by kernel_rfl) (by kernel_rfl) (by kernel_rfl) (by kernel_rfl) (by kernel_rfl) (by kernel_rfl) (by kernel_rfl)
end Go.Proofs.YtdflkikhmngfiaaDoor


/- ConfigOrder: both texts, parsed; in plain Lean. -/
namespace Go.Proofs.YtdflkikhmngfiaaDoor
open Go.RowKit
set_option linter.unusedVariables false
set_option linter.unusedSimpArgs false
set_option linter.unusedSectionVars false
set_option maxRecDepth 10000

/-- A line of ConfigOrder. -/
def lnO (i n : Nat) : ByteArray := kB i ++ bytesOf [32, 32, 32] ++ decS n
def lnL (i n : Nat) : List UInt8 := kL i ++ (32 :: List.replicate 2 32 ++ Lib.decDigits n)
theorem LL_lnO (i n : Nat) : LL (lnO i n) = lnL i n := by
  unfold lnO
  rw [LL_app, LL_app]
  show (kL i ++ [32, 32, 32]) ++ Lib.decDigits n = _
  rw [List.append_assoc]
  rfl
theorem lnL_size {i n : Nat} (hi : i < 15) (hn : n ≤ 65535) : (lnL i n).length ≤ 19 ∧ lnL i n ≠ [] := by
  obtain ⟨h1, h2⟩ := ln_size hi (n := n) (by omega)
  unfold lnL
  simp only [List.length_append, List.length_cons, List.length_replicate]
  exact ⟨by omega, by simp⟩
theorem lnO_size {i n : Nat} (hi : i < 15) (hn : n ≤ 65535) : (lnO i n).size ≤ 19 := by
  rw [← LL_len, LL_lnO]
  exact (lnL_size hi hn).1
theorem lnL_10 {i n : Nat} (hi : i < 15) : (10 : UInt8) ∉ lnL i n := line_no10 hi 2
def setC (i n : Nat) (c : Nat → PV) (j : Nat) : PV := if j = i then .int n else c j
theorem line_set (c : Nat → PV) {L : List ByteArray} {i n : Nat} (hi : i < 15) (hn : n ≤ 65535) (hL : inL (kB i) L = false) : lineF c L (strL (lnL i n)) = (0, setC i n c, L ++ [kB i]) := by
  have hs := (lnL_size hi hn).1
  refine lineF_set c (by rw [strL_sz]; omega) hi (by omega) ?_ hL
  rw [LL_strL]
  have := (line_wd (i := i) (n := n) hi 0 2 0 []).2
  simpa [lnL] using this
theorem line_there (c : Nat → PV) {L : List ByteArray} {i n : Nat} (hi : i < 15) (hn : n ≤ 65535) (hL : inL (kB i) L = true) : lineF c L (strL (lnL i n)) = (12, c, L) := by
  have hs := (lnL_size hi hn).1
  refine lineF_there c (n := n) (by rw [strL_sz]; omega) hi ?_ hL
  rw [LL_strL]
  have := (line_wd (i := i) (n := n) hi 0 2 0 []).2
  simpa [lnL] using this
theorem line_none (c : Nat → PV) (L : List ByteArray) : lineF c L (strL []) = (0, c, L) := by
  unfold lineF
  rw [if_neg (by decide), show wordsB (strL []) = [] from by kernel_rfl]
/-- The line with the other said behind it. -/
theorem line_said (c : Nat → PV) {L : List ByteArray} {i n k m : Nat} (hi : i < 15) (hn : n ≤ 65535) (hk : k < 15) (hm : m ≤ 65535) (hL : inL (kB i) L = false) :
    lineF c L (strL (32 :: 32 :: (lnL i n ++ 32 :: 35 :: 32 :: lnL k m))) = (0, setC i n c, L ++ [kB i]) := by
  have hs := (lnL_size hi hn).1
  have hs2 := (lnL_size hk hm).1
  refine lineF_set c (by rw [strL_sz]; simp only [List.length_cons, List.length_append]; omega) hi (by omega) ?_ hL
  rw [LL_strL]
  have := (line_wd (i := i) (n := n) hi 2 2 1 (32 :: lnL k m)).1
  simpa [lnL, List.replicate] using this
def txA (i n k m : Nat) : ByteArray := lnO i n ++ bytesOf [10] ++ lnO k m
def txB (i n k m : Nat) : ByteArray := bytesOf [32, 32] ++ lnO k m ++ bytesOf [32, 35, 32] ++ lnO i n ++ bytesOf [10, 10] ++ lnO i n
theorem inL_nil (k : ByteArray) : inL k [] = false := rfl
theorem inL_one (k x : ByteArray) : inL k ([] ++ [x]) = decide (x = k) := by rw [inL_snoc, inL_nil, Bool.false_or]
theorem goA {i n k m : Nat} (hi : i < 15) (hn : n ≤ 65535) (hk : k < 15) (hm : m ≤ 65535) : goF (linesF (txA i n k m)) usC [] = if i = k then .inl (2, 12) else .inr (setC k m (setC i n usC), [kB i] ++ [kB k]) := by
  have hl : LL (txA i n k m) = lnL i n ++ 10 :: lnL k m := by
    unfold txA
    rw [LL_app, LL_app, LL_lnO, LL_lnO, List.append_assoc]
    rfl
  unfold linesF
  rw [hl]
  obtain ⟨g, hg, h1⟩ := linesN_line (f := (txA i n k m).size) (n := 1) (x := lnL i n) (r := lnL k m) (lnL_10 hi) (by rw [← hl, LL_len]; exact Nat.le_refl _)
  rw [h1, linesN_last (lnL_10 hk) (lnL_size hk hm).2 hg]
  show (if (lineF usC [] (strL (lnL i n))).1 = 0 then _ else _) = _
  rw [line_set usC hi hn (inL_nil _), if_pos rfl]
  show (if (lineF (setC i n usC) ([] ++ [kB i]) (strL (lnL k m))).1 = 0 then _ else _) = _
  by_cases e : i = k
  · subst e
    rw [line_there _ hi hm (by rw [inL_one]; exact decide_eq_true rfl), if_neg (show ¬ (12 : Int) = 0 by decide), if_pos rfl]
  · rw [line_set _ hk hm (by rw [inL_one]; exact decide_eq_false fun h => e (kB_inj hi hk h)), if_pos rfl, if_neg e]
    rfl
theorem goB {i n k m : Nat} (hi : i < 15) (hn : n ≤ 65535) (hk : k < 15) (hm : m ≤ 65535) : goF (linesF (txB i n k m)) usC [] = if i = k then .inl (3, 12) else .inr (setC i n (setC k m usC), [kB k] ++ [kB i]) := by
  have hl : LL (txB i n k m) = (32 :: 32 :: (lnL k m ++ 32 :: 35 :: 32 :: lnL i n)) ++ 10 :: ([] ++ 10 :: lnL i n) := by
    unfold txB
    rw [LL_app, LL_app, LL_app, LL_app, LL_app, LL_lnO, LL_lnO]
    show ((([32, 32] ++ lnL k m) ++ [32, 35, 32]) ++ lnL i n ++ [10, 10]) ++ lnL i n = _
    simp
  have h10 : (10 : UInt8) ∉ 32 :: 32 :: (lnL k m ++ 32 :: 35 :: 32 :: lnL i n) := by
    have h1 := lnL_10 (n := n) hi
    have h2 := lnL_10 (n := m) hk
    simp [h1, h2]
  unfold linesF
  rw [hl]
  obtain ⟨g, hg, h1⟩ := linesN_line (f := (txB i n k m).size) (n := 1) (x := 32 :: 32 :: (lnL k m ++ 32 :: 35 :: 32 :: lnL i n)) (r := [] ++ 10 :: lnL i n) h10 (by rw [← hl, LL_len]; exact Nat.le_refl _)
  obtain ⟨g2, hg2, h2⟩ := linesN_line (f := g) (n := 1 + 1) (x := []) (r := lnL i n) (by simp) hg
  rw [h1, h2, linesN_last (lnL_10 hi) (lnL_size hi hn).2 hg2]
  show (if (lineF usC [] (strL (32 :: 32 :: (lnL k m ++ 32 :: 35 :: 32 :: lnL i n)))).1 = 0 then _ else _) = _
  rw [line_said usC hk hm hi hn (inL_nil _), if_pos rfl]
  show (if (lineF (setC k m usC) ([] ++ [kB k]) (strL [])).1 = 0 then _ else _) = _
  rw [line_none, if_pos rfl]
  show (if (lineF (setC k m usC) ([] ++ [kB k]) (strL (lnL i n))).1 = 0 then _ else _) = _
  by_cases e : i = k
  · subst e
    rw [line_there _ hi hn (by rw [inL_one]; exact decide_eq_true rfl), if_neg (show ¬ (12 : Int) = 0 by decide), if_pos rfl]
  · rw [line_set _ hi hn (by rw [inL_one]; exact decide_eq_false fun h => e (kB_inj hk hi h).symm), if_pos rfl, if_neg e]
    rfl
theorem setC_comm {i n k m : Nat} (e : i ≠ k) (c : Nat → PV) : setC i n (setC k m c) = setC k m (setC i n c) := by
  funext j
  unfold setC
  by_cases h1 : j = i
  · rw [if_pos h1, if_neg (by omega), if_pos h1]
  · rw [if_neg h1]
    by_cases h2 : j = k
    · rw [if_pos h2, if_pos h2]
    · rw [if_neg h2, if_neg h2, if_neg h1]
end Go.Proofs.YtdflkikhmngfiaaDoor

