/- footmanref03.At: a switch of 61 cases. Printed by wip/tools/gen_refat.py. -/
import Derived.Test.YteceinojmdgmeaaGreatC09
import Derived.Deep.Cut
namespace Go.Proofs.YteceinojmdgmeaaGreat
open Go.RowKit
set_option linter.unusedVariables false
set_option linter.unusedSimpArgs false

set_option maxRecDepth 100000 in
set_option maxHeartbeats 8000000 in
theorem refAt_any (i : Int) (hi : (Lit.int .i64 i).wf = true) (hi61 : i ≤ 61) (w : World) : Calls Tryz.prog 63 #[.int .i64 i] w (AtPost [] i w) := by
  clear hi
  go_enter Tryz.func63, Tryz.ntmps63
  go_upto_region 2 with fail
  by_cases h1 : i = 1
  · subst h1
    go_wp2_with fail
    exact bodyPost_ret (v := .tuple #[.agg #[.string ⟨#[58, 97, 117, 116, 104, 111, 114, 105, 116, 121]⟩, .string ⟨#[]⟩, .bool false], .bool true]) (by simp [results, Tryz.results63, go_sem]) rfl ⟨by kernel_rfl, (Below.refl _ _).alloc (Nat.le_refl _) _⟩
  have q1 : (i == 1) = false := by simpa using h1
  go_upto_region 4 with fail
  clear q1
  by_cases h2 : i = 2
  · subst h2
    go_wp2_with fail
    exact bodyPost_ret (v := .tuple #[.agg #[.string ⟨#[58, 109, 101, 116, 104, 111, 100]⟩, .string ⟨#[71, 69, 84]⟩, .bool false], .bool true]) (by simp [results, Tryz.results63, go_sem]) rfl ⟨by kernel_rfl, (Below.refl _ _).alloc (Nat.le_refl _) _⟩
  have q2 : (i == 2) = false := by simpa using h2
  go_upto_region 6 with fail
  clear q2
  by_cases h3 : i = 3
  · subst h3
    go_wp2_with fail
    exact bodyPost_ret (v := .tuple #[.agg #[.string ⟨#[58, 109, 101, 116, 104, 111, 100]⟩, .string ⟨#[80, 79, 83, 84]⟩, .bool false], .bool true]) (by simp [results, Tryz.results63, go_sem]) rfl ⟨by kernel_rfl, (Below.refl _ _).alloc (Nat.le_refl _) _⟩
  have q3 : (i == 3) = false := by simpa using h3
  go_upto_region 8 with fail
  clear q3
  by_cases h4 : i = 4
  · subst h4
    go_wp2_with fail
    exact bodyPost_ret (v := .tuple #[.agg #[.string ⟨#[58, 112, 97, 116, 104]⟩, .string ⟨#[47]⟩, .bool false], .bool true]) (by simp [results, Tryz.results63, go_sem]) rfl ⟨by kernel_rfl, (Below.refl _ _).alloc (Nat.le_refl _) _⟩
  have q4 : (i == 4) = false := by simpa using h4
  go_upto_region 10 with fail
  clear q4
  by_cases h5 : i = 5
  · subst h5
    go_wp2_with fail
    exact bodyPost_ret (v := .tuple #[.agg #[.string ⟨#[58, 112, 97, 116, 104]⟩, .string ⟨#[47, 105, 110, 100, 101, 120, 46, 104, 116, 109, 108]⟩, .bool false], .bool true]) (by simp [results, Tryz.results63, go_sem]) rfl ⟨by kernel_rfl, (Below.refl _ _).alloc (Nat.le_refl _) _⟩
  have q5 : (i == 5) = false := by simpa using h5
  go_upto_region 12 with fail
  clear q5
  by_cases h6 : i = 6
  · subst h6
    go_wp2_with fail
    exact bodyPost_ret (v := .tuple #[.agg #[.string ⟨#[58, 115, 99, 104, 101, 109, 101]⟩, .string ⟨#[104, 116, 116, 112]⟩, .bool false], .bool true]) (by simp [results, Tryz.results63, go_sem]) rfl ⟨by kernel_rfl, (Below.refl _ _).alloc (Nat.le_refl _) _⟩
  have q6 : (i == 6) = false := by simpa using h6
  go_upto_region 14 with fail
  clear q6
  by_cases h7 : i = 7
  · subst h7
    go_wp2_with fail
    exact bodyPost_ret (v := .tuple #[.agg #[.string ⟨#[58, 115, 99, 104, 101, 109, 101]⟩, .string ⟨#[104, 116, 116, 112, 115]⟩, .bool false], .bool true]) (by simp [results, Tryz.results63, go_sem]) rfl ⟨by kernel_rfl, (Below.refl _ _).alloc (Nat.le_refl _) _⟩
  have q7 : (i == 7) = false := by simpa using h7
  go_upto_region 16 with fail
  clear q7
  by_cases h8 : i = 8
  · subst h8
    go_wp2_with fail
    exact bodyPost_ret (v := .tuple #[.agg #[.string ⟨#[58, 115, 116, 97, 116, 117, 115]⟩, .string ⟨#[50, 48, 48]⟩, .bool false], .bool true]) (by simp [results, Tryz.results63, go_sem]) rfl ⟨by kernel_rfl, (Below.refl _ _).alloc (Nat.le_refl _) _⟩
  have q8 : (i == 8) = false := by simpa using h8
  go_upto_region 18 with fail
  clear q8
  by_cases h9 : i = 9
  · subst h9
    go_wp2_with fail
    exact bodyPost_ret (v := .tuple #[.agg #[.string ⟨#[58, 115, 116, 97, 116, 117, 115]⟩, .string ⟨#[50, 48, 52]⟩, .bool false], .bool true]) (by simp [results, Tryz.results63, go_sem]) rfl ⟨by kernel_rfl, (Below.refl _ _).alloc (Nat.le_refl _) _⟩
  have q9 : (i == 9) = false := by simpa using h9
  go_upto_region 20 with fail
  clear q9
  by_cases h10 : i = 10
  · subst h10
    go_wp2_with fail
    exact bodyPost_ret (v := .tuple #[.agg #[.string ⟨#[58, 115, 116, 97, 116, 117, 115]⟩, .string ⟨#[50, 48, 54]⟩, .bool false], .bool true]) (by simp [results, Tryz.results63, go_sem]) rfl ⟨by kernel_rfl, (Below.refl _ _).alloc (Nat.le_refl _) _⟩
  have q10 : (i == 10) = false := by simpa using h10
  go_upto_region 22 with fail
  clear q10
  by_cases h11 : i = 11
  · subst h11
    go_wp2_with fail
    exact bodyPost_ret (v := .tuple #[.agg #[.string ⟨#[58, 115, 116, 97, 116, 117, 115]⟩, .string ⟨#[51, 48, 52]⟩, .bool false], .bool true]) (by simp [results, Tryz.results63, go_sem]) rfl ⟨by kernel_rfl, (Below.refl _ _).alloc (Nat.le_refl _) _⟩
  have q11 : (i == 11) = false := by simpa using h11
  go_upto_region 24 with fail
  clear q11
  by_cases h12 : i = 12
  · subst h12
    go_wp2_with fail
    exact bodyPost_ret (v := .tuple #[.agg #[.string ⟨#[58, 115, 116, 97, 116, 117, 115]⟩, .string ⟨#[52, 48, 48]⟩, .bool false], .bool true]) (by simp [results, Tryz.results63, go_sem]) rfl ⟨by kernel_rfl, (Below.refl _ _).alloc (Nat.le_refl _) _⟩
  have q12 : (i == 12) = false := by simpa using h12
  go_upto_region 26 with fail
  clear q12
  by_cases h13 : i = 13
  · subst h13
    go_wp2_with fail
    exact bodyPost_ret (v := .tuple #[.agg #[.string ⟨#[58, 115, 116, 97, 116, 117, 115]⟩, .string ⟨#[52, 48, 52]⟩, .bool false], .bool true]) (by simp [results, Tryz.results63, go_sem]) rfl ⟨by kernel_rfl, (Below.refl _ _).alloc (Nat.le_refl _) _⟩
  have q13 : (i == 13) = false := by simpa using h13
  go_upto_region 28 with fail
  clear q13
  by_cases h14 : i = 14
  · subst h14
    go_wp2_with fail
    exact bodyPost_ret (v := .tuple #[.agg #[.string ⟨#[58, 115, 116, 97, 116, 117, 115]⟩, .string ⟨#[53, 48, 48]⟩, .bool false], .bool true]) (by simp [results, Tryz.results63, go_sem]) rfl ⟨by kernel_rfl, (Below.refl _ _).alloc (Nat.le_refl _) _⟩
  have q14 : (i == 14) = false := by simpa using h14
  go_upto_region 30 with fail
  clear q14
  by_cases h15 : i = 15
  · subst h15
    go_wp2_with fail
    exact bodyPost_ret (v := .tuple #[.agg #[.string ⟨#[97, 99, 99, 101, 112, 116, 45, 99, 104, 97, 114, 115, 101, 116]⟩, .string ⟨#[]⟩, .bool false], .bool true]) (by simp [results, Tryz.results63, go_sem]) rfl ⟨by kernel_rfl, (Below.refl _ _).alloc (Nat.le_refl _) _⟩
  have q15 : (i == 15) = false := by simpa using h15
  go_upto_region 32 with fail
  clear q15
  by_cases h16 : i = 16
  · subst h16
    go_wp2_with fail
    exact bodyPost_ret (v := .tuple #[.agg #[.string ⟨#[97, 99, 99, 101, 112, 116, 45, 101, 110, 99, 111, 100, 105, 110, 103]⟩, .string ⟨#[103, 122, 105, 112, 44, 32, 100, 101, 102, 108, 97, 116, 101]⟩, .bool false], .bool true]) (by simp [results, Tryz.results63, go_sem]) rfl ⟨by kernel_rfl, (Below.refl _ _).alloc (Nat.le_refl _) _⟩
  have q16 : (i == 16) = false := by simpa using h16
  go_upto_region 34 with fail
  clear q16
  by_cases h17 : i = 17
  · subst h17
    go_wp2_with fail
    exact bodyPost_ret (v := .tuple #[.agg #[.string ⟨#[97, 99, 99, 101, 112, 116, 45, 108, 97, 110, 103, 117, 97, 103, 101]⟩, .string ⟨#[]⟩, .bool false], .bool true]) (by simp [results, Tryz.results63, go_sem]) rfl ⟨by kernel_rfl, (Below.refl _ _).alloc (Nat.le_refl _) _⟩
  have q17 : (i == 17) = false := by simpa using h17
  go_upto_region 36 with fail
  clear q17
  by_cases h18 : i = 18
  · subst h18
    go_wp2_with fail
    exact bodyPost_ret (v := .tuple #[.agg #[.string ⟨#[97, 99, 99, 101, 112, 116, 45, 114, 97, 110, 103, 101, 115]⟩, .string ⟨#[]⟩, .bool false], .bool true]) (by simp [results, Tryz.results63, go_sem]) rfl ⟨by kernel_rfl, (Below.refl _ _).alloc (Nat.le_refl _) _⟩
  have q18 : (i == 18) = false := by simpa using h18
  go_upto_region 38 with fail
  clear q18
  by_cases h19 : i = 19
  · subst h19
    go_wp2_with fail
    exact bodyPost_ret (v := .tuple #[.agg #[.string ⟨#[97, 99, 99, 101, 112, 116]⟩, .string ⟨#[]⟩, .bool false], .bool true]) (by simp [results, Tryz.results63, go_sem]) rfl ⟨by kernel_rfl, (Below.refl _ _).alloc (Nat.le_refl _) _⟩
  have q19 : (i == 19) = false := by simpa using h19
  go_upto_region 40 with fail
  clear q19
  by_cases h20 : i = 20
  · subst h20
    go_wp2_with fail
    exact bodyPost_ret (v := .tuple #[.agg #[.string ⟨#[97, 99, 99, 101, 115, 115, 45, 99, 111, 110, 116, 114, 111, 108, 45, 97, 108, 108, 111, 119, 45, 111, 114, 105, 103, 105, 110]⟩, .string ⟨#[]⟩, .bool false], .bool true]) (by simp [results, Tryz.results63, go_sem]) rfl ⟨by kernel_rfl, (Below.refl _ _).alloc (Nat.le_refl _) _⟩
  have q20 : (i == 20) = false := by simpa using h20
  go_upto_region 42 with fail
  clear q20
  by_cases h21 : i = 21
  · subst h21
    go_wp2_with fail
    exact bodyPost_ret (v := .tuple #[.agg #[.string ⟨#[97, 103, 101]⟩, .string ⟨#[]⟩, .bool false], .bool true]) (by simp [results, Tryz.results63, go_sem]) rfl ⟨by kernel_rfl, (Below.refl _ _).alloc (Nat.le_refl _) _⟩
  have q21 : (i == 21) = false := by simpa using h21
  go_upto_region 44 with fail
  clear q21
  by_cases h22 : i = 22
  · subst h22
    go_wp2_with fail
    exact bodyPost_ret (v := .tuple #[.agg #[.string ⟨#[97, 108, 108, 111, 119]⟩, .string ⟨#[]⟩, .bool false], .bool true]) (by simp [results, Tryz.results63, go_sem]) rfl ⟨by kernel_rfl, (Below.refl _ _).alloc (Nat.le_refl _) _⟩
  have q22 : (i == 22) = false := by simpa using h22
  go_upto_region 46 with fail
  clear q22
  by_cases h23 : i = 23
  · subst h23
    go_wp2_with fail
    exact bodyPost_ret (v := .tuple #[.agg #[.string ⟨#[97, 117, 116, 104, 111, 114, 105, 122, 97, 116, 105, 111, 110]⟩, .string ⟨#[]⟩, .bool false], .bool true]) (by simp [results, Tryz.results63, go_sem]) rfl ⟨by kernel_rfl, (Below.refl _ _).alloc (Nat.le_refl _) _⟩
  have q23 : (i == 23) = false := by simpa using h23
  go_upto_region 48 with fail
  clear q23
  by_cases h24 : i = 24
  · subst h24
    go_wp2_with fail
    exact bodyPost_ret (v := .tuple #[.agg #[.string ⟨#[99, 97, 99, 104, 101, 45, 99, 111, 110, 116, 114, 111, 108]⟩, .string ⟨#[]⟩, .bool false], .bool true]) (by simp [results, Tryz.results63, go_sem]) rfl ⟨by kernel_rfl, (Below.refl _ _).alloc (Nat.le_refl _) _⟩
  have q24 : (i == 24) = false := by simpa using h24
  go_upto_region 50 with fail
  clear q24
  by_cases h25 : i = 25
  · subst h25
    go_wp2_with fail
    exact bodyPost_ret (v := .tuple #[.agg #[.string ⟨#[99, 111, 110, 116, 101, 110, 116, 45, 100, 105, 115, 112, 111, 115, 105, 116, 105, 111, 110]⟩, .string ⟨#[]⟩, .bool false], .bool true]) (by simp [results, Tryz.results63, go_sem]) rfl ⟨by kernel_rfl, (Below.refl _ _).alloc (Nat.le_refl _) _⟩
  have q25 : (i == 25) = false := by simpa using h25
  go_upto_region 52 with fail
  clear q25
  by_cases h26 : i = 26
  · subst h26
    go_wp2_with fail
    exact bodyPost_ret (v := .tuple #[.agg #[.string ⟨#[99, 111, 110, 116, 101, 110, 116, 45, 101, 110, 99, 111, 100, 105, 110, 103]⟩, .string ⟨#[]⟩, .bool false], .bool true]) (by simp [results, Tryz.results63, go_sem]) rfl ⟨by kernel_rfl, (Below.refl _ _).alloc (Nat.le_refl _) _⟩
  have q26 : (i == 26) = false := by simpa using h26
  go_upto_region 54 with fail
  clear q26
  by_cases h27 : i = 27
  · subst h27
    go_wp2_with fail
    exact bodyPost_ret (v := .tuple #[.agg #[.string ⟨#[99, 111, 110, 116, 101, 110, 116, 45, 108, 97, 110, 103, 117, 97, 103, 101]⟩, .string ⟨#[]⟩, .bool false], .bool true]) (by simp [results, Tryz.results63, go_sem]) rfl ⟨by kernel_rfl, (Below.refl _ _).alloc (Nat.le_refl _) _⟩
  have q27 : (i == 27) = false := by simpa using h27
  go_upto_region 56 with fail
  clear q27
  by_cases h28 : i = 28
  · subst h28
    go_wp2_with fail
    exact bodyPost_ret (v := .tuple #[.agg #[.string ⟨#[99, 111, 110, 116, 101, 110, 116, 45, 108, 101, 110, 103, 116, 104]⟩, .string ⟨#[]⟩, .bool false], .bool true]) (by simp [results, Tryz.results63, go_sem]) rfl ⟨by kernel_rfl, (Below.refl _ _).alloc (Nat.le_refl _) _⟩
  have q28 : (i == 28) = false := by simpa using h28
  go_upto_region 58 with fail
  clear q28
  by_cases h29 : i = 29
  · subst h29
    go_wp2_with fail
    exact bodyPost_ret (v := .tuple #[.agg #[.string ⟨#[99, 111, 110, 116, 101, 110, 116, 45, 108, 111, 99, 97, 116, 105, 111, 110]⟩, .string ⟨#[]⟩, .bool false], .bool true]) (by simp [results, Tryz.results63, go_sem]) rfl ⟨by kernel_rfl, (Below.refl _ _).alloc (Nat.le_refl _) _⟩
  have q29 : (i == 29) = false := by simpa using h29
  go_upto_region 60 with fail
  clear q29
  by_cases h30 : i = 30
  · subst h30
    go_wp2_with fail
    exact bodyPost_ret (v := .tuple #[.agg #[.string ⟨#[99, 111, 110, 116, 101, 110, 116, 45, 114, 97, 110, 103, 101]⟩, .string ⟨#[]⟩, .bool false], .bool true]) (by simp [results, Tryz.results63, go_sem]) rfl ⟨by kernel_rfl, (Below.refl _ _).alloc (Nat.le_refl _) _⟩
  have q30 : (i == 30) = false := by simpa using h30
  go_upto_region 62 with fail
  clear q30
  by_cases h31 : i = 31
  · subst h31
    go_wp2_with fail
    exact bodyPost_ret (v := .tuple #[.agg #[.string ⟨#[99, 111, 110, 116, 101, 110, 116, 45, 116, 121, 112, 101]⟩, .string ⟨#[]⟩, .bool false], .bool true]) (by simp [results, Tryz.results63, go_sem]) rfl ⟨by kernel_rfl, (Below.refl _ _).alloc (Nat.le_refl _) _⟩
  have q31 : (i == 31) = false := by simpa using h31
  go_upto_region 64 with fail
  clear q31
  by_cases h32 : i = 32
  · subst h32
    go_wp2_with fail
    exact bodyPost_ret (v := .tuple #[.agg #[.string ⟨#[99, 111, 111, 107, 105, 101]⟩, .string ⟨#[]⟩, .bool false], .bool true]) (by simp [results, Tryz.results63, go_sem]) rfl ⟨by kernel_rfl, (Below.refl _ _).alloc (Nat.le_refl _) _⟩
  have q32 : (i == 32) = false := by simpa using h32
  go_upto_region 66 with fail
  clear q32
  by_cases h33 : i = 33
  · subst h33
    go_wp2_with fail
    exact bodyPost_ret (v := .tuple #[.agg #[.string ⟨#[100, 97, 116, 101]⟩, .string ⟨#[]⟩, .bool false], .bool true]) (by simp [results, Tryz.results63, go_sem]) rfl ⟨by kernel_rfl, (Below.refl _ _).alloc (Nat.le_refl _) _⟩
  have q33 : (i == 33) = false := by simpa using h33
  go_upto_region 68 with fail
  clear q33
  by_cases h34 : i = 34
  · subst h34
    go_wp2_with fail
    exact bodyPost_ret (v := .tuple #[.agg #[.string ⟨#[101, 116, 97, 103]⟩, .string ⟨#[]⟩, .bool false], .bool true]) (by simp [results, Tryz.results63, go_sem]) rfl ⟨by kernel_rfl, (Below.refl _ _).alloc (Nat.le_refl _) _⟩
  have q34 : (i == 34) = false := by simpa using h34
  go_upto_region 70 with fail
  clear q34
  by_cases h35 : i = 35
  · subst h35
    go_wp2_with fail
    exact bodyPost_ret (v := .tuple #[.agg #[.string ⟨#[101, 120, 112, 101, 99, 116]⟩, .string ⟨#[]⟩, .bool false], .bool true]) (by simp [results, Tryz.results63, go_sem]) rfl ⟨by kernel_rfl, (Below.refl _ _).alloc (Nat.le_refl _) _⟩
  have q35 : (i == 35) = false := by simpa using h35
  go_upto_region 72 with fail
  clear q35
  by_cases h36 : i = 36
  · subst h36
    go_wp2_with fail
    exact bodyPost_ret (v := .tuple #[.agg #[.string ⟨#[101, 120, 112, 105, 114, 101, 115]⟩, .string ⟨#[]⟩, .bool false], .bool true]) (by simp [results, Tryz.results63, go_sem]) rfl ⟨by kernel_rfl, (Below.refl _ _).alloc (Nat.le_refl _) _⟩
  have q36 : (i == 36) = false := by simpa using h36
  go_upto_region 74 with fail
  clear q36
  by_cases h37 : i = 37
  · subst h37
    go_wp2_with fail
    exact bodyPost_ret (v := .tuple #[.agg #[.string ⟨#[102, 114, 111, 109]⟩, .string ⟨#[]⟩, .bool false], .bool true]) (by simp [results, Tryz.results63, go_sem]) rfl ⟨by kernel_rfl, (Below.refl _ _).alloc (Nat.le_refl _) _⟩
  have q37 : (i == 37) = false := by simpa using h37
  go_upto_region 76 with fail
  clear q37
  by_cases h38 : i = 38
  · subst h38
    go_wp2_with fail
    exact bodyPost_ret (v := .tuple #[.agg #[.string ⟨#[104, 111, 115, 116]⟩, .string ⟨#[]⟩, .bool false], .bool true]) (by simp [results, Tryz.results63, go_sem]) rfl ⟨by kernel_rfl, (Below.refl _ _).alloc (Nat.le_refl _) _⟩
  have q38 : (i == 38) = false := by simpa using h38
  go_upto_region 78 with fail
  clear q38
  by_cases h39 : i = 39
  · subst h39
    go_wp2_with fail
    exact bodyPost_ret (v := .tuple #[.agg #[.string ⟨#[105, 102, 45, 109, 97, 116, 99, 104]⟩, .string ⟨#[]⟩, .bool false], .bool true]) (by simp [results, Tryz.results63, go_sem]) rfl ⟨by kernel_rfl, (Below.refl _ _).alloc (Nat.le_refl _) _⟩
  have q39 : (i == 39) = false := by simpa using h39
  go_upto_region 80 with fail
  clear q39
  by_cases h40 : i = 40
  · subst h40
    go_wp2_with fail
    exact bodyPost_ret (v := .tuple #[.agg #[.string ⟨#[105, 102, 45, 109, 111, 100, 105, 102, 105, 101, 100, 45, 115, 105, 110, 99, 101]⟩, .string ⟨#[]⟩, .bool false], .bool true]) (by simp [results, Tryz.results63, go_sem]) rfl ⟨by kernel_rfl, (Below.refl _ _).alloc (Nat.le_refl _) _⟩
  have q40 : (i == 40) = false := by simpa using h40
  go_upto_region 82 with fail
  clear q40
  by_cases h41 : i = 41
  · subst h41
    go_wp2_with fail
    exact bodyPost_ret (v := .tuple #[.agg #[.string ⟨#[105, 102, 45, 110, 111, 110, 101, 45, 109, 97, 116, 99, 104]⟩, .string ⟨#[]⟩, .bool false], .bool true]) (by simp [results, Tryz.results63, go_sem]) rfl ⟨by kernel_rfl, (Below.refl _ _).alloc (Nat.le_refl _) _⟩
  have q41 : (i == 41) = false := by simpa using h41
  go_upto_region 84 with fail
  clear q41
  by_cases h42 : i = 42
  · subst h42
    go_wp2_with fail
    exact bodyPost_ret (v := .tuple #[.agg #[.string ⟨#[105, 102, 45, 114, 97, 110, 103, 101]⟩, .string ⟨#[]⟩, .bool false], .bool true]) (by simp [results, Tryz.results63, go_sem]) rfl ⟨by kernel_rfl, (Below.refl _ _).alloc (Nat.le_refl _) _⟩
  have q42 : (i == 42) = false := by simpa using h42
  go_upto_region 86 with fail
  clear q42
  by_cases h43 : i = 43
  · subst h43
    go_wp2_with fail
    exact bodyPost_ret (v := .tuple #[.agg #[.string ⟨#[105, 102, 45, 117, 110, 109, 111, 100, 105, 102, 105, 101, 100, 45, 115, 105, 110, 99, 101]⟩, .string ⟨#[]⟩, .bool false], .bool true]) (by simp [results, Tryz.results63, go_sem]) rfl ⟨by kernel_rfl, (Below.refl _ _).alloc (Nat.le_refl _) _⟩
  have q43 : (i == 43) = false := by simpa using h43
  go_upto_region 88 with fail
  clear q43
  by_cases h44 : i = 44
  · subst h44
    go_wp2_with fail
    exact bodyPost_ret (v := .tuple #[.agg #[.string ⟨#[108, 97, 115, 116, 45, 109, 111, 100, 105, 102, 105, 101, 100]⟩, .string ⟨#[]⟩, .bool false], .bool true]) (by simp [results, Tryz.results63, go_sem]) rfl ⟨by kernel_rfl, (Below.refl _ _).alloc (Nat.le_refl _) _⟩
  have q44 : (i == 44) = false := by simpa using h44
  go_upto_region 90 with fail
  clear q44
  by_cases h45 : i = 45
  · subst h45
    go_wp2_with fail
    exact bodyPost_ret (v := .tuple #[.agg #[.string ⟨#[108, 105, 110, 107]⟩, .string ⟨#[]⟩, .bool false], .bool true]) (by simp [results, Tryz.results63, go_sem]) rfl ⟨by kernel_rfl, (Below.refl _ _).alloc (Nat.le_refl _) _⟩
  have q45 : (i == 45) = false := by simpa using h45
  go_upto_region 92 with fail
  clear q45
  by_cases h46 : i = 46
  · subst h46
    go_wp2_with fail
    exact bodyPost_ret (v := .tuple #[.agg #[.string ⟨#[108, 111, 99, 97, 116, 105, 111, 110]⟩, .string ⟨#[]⟩, .bool false], .bool true]) (by simp [results, Tryz.results63, go_sem]) rfl ⟨by kernel_rfl, (Below.refl _ _).alloc (Nat.le_refl _) _⟩
  have q46 : (i == 46) = false := by simpa using h46
  go_upto_region 94 with fail
  clear q46
  by_cases h47 : i = 47
  · subst h47
    go_wp2_with fail
    exact bodyPost_ret (v := .tuple #[.agg #[.string ⟨#[109, 97, 120, 45, 102, 111, 114, 119, 97, 114, 100, 115]⟩, .string ⟨#[]⟩, .bool false], .bool true]) (by simp [results, Tryz.results63, go_sem]) rfl ⟨by kernel_rfl, (Below.refl _ _).alloc (Nat.le_refl _) _⟩
  have q47 : (i == 47) = false := by simpa using h47
  go_upto_region 96 with fail
  clear q47
  by_cases h48 : i = 48
  · subst h48
    go_wp2_with fail
    exact bodyPost_ret (v := .tuple #[.agg #[.string ⟨#[112, 114, 111, 120, 121, 45, 97, 117, 116, 104, 101, 110, 116, 105, 99, 97, 116, 101]⟩, .string ⟨#[]⟩, .bool false], .bool true]) (by simp [results, Tryz.results63, go_sem]) rfl ⟨by kernel_rfl, (Below.refl _ _).alloc (Nat.le_refl _) _⟩
  have q48 : (i == 48) = false := by simpa using h48
  go_upto_region 98 with fail
  clear q48
  by_cases h49 : i = 49
  · subst h49
    go_wp2_with fail
    exact bodyPost_ret (v := .tuple #[.agg #[.string ⟨#[112, 114, 111, 120, 121, 45, 97, 117, 116, 104, 111, 114, 105, 122, 97, 116, 105, 111, 110]⟩, .string ⟨#[]⟩, .bool false], .bool true]) (by simp [results, Tryz.results63, go_sem]) rfl ⟨by kernel_rfl, (Below.refl _ _).alloc (Nat.le_refl _) _⟩
  have q49 : (i == 49) = false := by simpa using h49
  go_upto_region 100 with fail
  clear q49
  by_cases h50 : i = 50
  · subst h50
    go_wp2_with fail
    exact bodyPost_ret (v := .tuple #[.agg #[.string ⟨#[114, 97, 110, 103, 101]⟩, .string ⟨#[]⟩, .bool false], .bool true]) (by simp [results, Tryz.results63, go_sem]) rfl ⟨by kernel_rfl, (Below.refl _ _).alloc (Nat.le_refl _) _⟩
  have q50 : (i == 50) = false := by simpa using h50
  go_upto_region 102 with fail
  clear q50
  by_cases h51 : i = 51
  · subst h51
    go_wp2_with fail
    exact bodyPost_ret (v := .tuple #[.agg #[.string ⟨#[114, 101, 102, 101, 114, 101, 114]⟩, .string ⟨#[]⟩, .bool false], .bool true]) (by simp [results, Tryz.results63, go_sem]) rfl ⟨by kernel_rfl, (Below.refl _ _).alloc (Nat.le_refl _) _⟩
  have q51 : (i == 51) = false := by simpa using h51
  go_upto_region 104 with fail
  clear q51
  by_cases h52 : i = 52
  · subst h52
    go_wp2_with fail
    exact bodyPost_ret (v := .tuple #[.agg #[.string ⟨#[114, 101, 102, 114, 101, 115, 104]⟩, .string ⟨#[]⟩, .bool false], .bool true]) (by simp [results, Tryz.results63, go_sem]) rfl ⟨by kernel_rfl, (Below.refl _ _).alloc (Nat.le_refl _) _⟩
  have q52 : (i == 52) = false := by simpa using h52
  go_upto_region 106 with fail
  clear q52
  by_cases h53 : i = 53
  · subst h53
    go_wp2_with fail
    exact bodyPost_ret (v := .tuple #[.agg #[.string ⟨#[114, 101, 116, 114, 121, 45, 97, 102, 116, 101, 114]⟩, .string ⟨#[]⟩, .bool false], .bool true]) (by simp [results, Tryz.results63, go_sem]) rfl ⟨by kernel_rfl, (Below.refl _ _).alloc (Nat.le_refl _) _⟩
  have q53 : (i == 53) = false := by simpa using h53
  go_upto_region 108 with fail
  clear q53
  by_cases h54 : i = 54
  · subst h54
    go_wp2_with fail
    exact bodyPost_ret (v := .tuple #[.agg #[.string ⟨#[115, 101, 114, 118, 101, 114]⟩, .string ⟨#[]⟩, .bool false], .bool true]) (by simp [results, Tryz.results63, go_sem]) rfl ⟨by kernel_rfl, (Below.refl _ _).alloc (Nat.le_refl _) _⟩
  have q54 : (i == 54) = false := by simpa using h54
  go_upto_region 110 with fail
  clear q54
  by_cases h55 : i = 55
  · subst h55
    go_wp2_with fail
    exact bodyPost_ret (v := .tuple #[.agg #[.string ⟨#[115, 101, 116, 45, 99, 111, 111, 107, 105, 101]⟩, .string ⟨#[]⟩, .bool false], .bool true]) (by simp [results, Tryz.results63, go_sem]) rfl ⟨by kernel_rfl, (Below.refl _ _).alloc (Nat.le_refl _) _⟩
  have q55 : (i == 55) = false := by simpa using h55
  go_upto_region 112 with fail
  clear q55
  by_cases h56 : i = 56
  · subst h56
    go_wp2_with fail
    exact bodyPost_ret (v := .tuple #[.agg #[.string ⟨#[115, 116, 114, 105, 99, 116, 45, 116, 114, 97, 110, 115, 112, 111, 114, 116, 45, 115, 101, 99, 117, 114, 105, 116, 121]⟩, .string ⟨#[]⟩, .bool false], .bool true]) (by simp [results, Tryz.results63, go_sem]) rfl ⟨by kernel_rfl, (Below.refl _ _).alloc (Nat.le_refl _) _⟩
  have q56 : (i == 56) = false := by simpa using h56
  go_upto_region 114 with fail
  clear q56
  by_cases h57 : i = 57
  · subst h57
    go_wp2_with fail
    exact bodyPost_ret (v := .tuple #[.agg #[.string ⟨#[116, 114, 97, 110, 115, 102, 101, 114, 45, 101, 110, 99, 111, 100, 105, 110, 103]⟩, .string ⟨#[]⟩, .bool false], .bool true]) (by simp [results, Tryz.results63, go_sem]) rfl ⟨by kernel_rfl, (Below.refl _ _).alloc (Nat.le_refl _) _⟩
  have q57 : (i == 57) = false := by simpa using h57
  go_upto_region 116 with fail
  clear q57
  by_cases h58 : i = 58
  · subst h58
    go_wp2_with fail
    exact bodyPost_ret (v := .tuple #[.agg #[.string ⟨#[117, 115, 101, 114, 45, 97, 103, 101, 110, 116]⟩, .string ⟨#[]⟩, .bool false], .bool true]) (by simp [results, Tryz.results63, go_sem]) rfl ⟨by kernel_rfl, (Below.refl _ _).alloc (Nat.le_refl _) _⟩
  have q58 : (i == 58) = false := by simpa using h58
  go_upto_region 118 with fail
  clear q58
  by_cases h59 : i = 59
  · subst h59
    go_wp2_with fail
    exact bodyPost_ret (v := .tuple #[.agg #[.string ⟨#[118, 97, 114, 121]⟩, .string ⟨#[]⟩, .bool false], .bool true]) (by simp [results, Tryz.results63, go_sem]) rfl ⟨by kernel_rfl, (Below.refl _ _).alloc (Nat.le_refl _) _⟩
  have q59 : (i == 59) = false := by simpa using h59
  go_upto_region 120 with fail
  clear q59
  by_cases h60 : i = 60
  · subst h60
    go_wp2_with fail
    exact bodyPost_ret (v := .tuple #[.agg #[.string ⟨#[118, 105, 97]⟩, .string ⟨#[]⟩, .bool false], .bool true]) (by simp [results, Tryz.results63, go_sem]) rfl ⟨by kernel_rfl, (Below.refl _ _).alloc (Nat.le_refl _) _⟩
  have q60 : (i == 60) = false := by simpa using h60
  go_upto_region 122 with fail
  clear q60
  by_cases h61 : i = 61
  · subst h61
    go_wp2_with fail
    exact bodyPost_ret (v := .tuple #[.agg #[.string ⟨#[119, 119, 119, 45, 97, 117, 116, 104, 101, 110, 116, 105, 99, 97, 116, 101]⟩, .string ⟨#[]⟩, .bool false], .bool true]) (by simp [results, Tryz.results63, go_sem]) rfl ⟨by kernel_rfl, (Below.refl _ _).alloc (Nat.le_refl _) _⟩
  have q61 : (i == 61) = false := by simpa using h61
  have hlt : i < 1 := by omega
  have HZ := Lib.hid (show atF [] i = (zeroF, false) from if_pos hlt)
  clear h1 h2 h3 h4 h5 h6 h7 h8 h9 h10 h11 h12 h13 h14 h15 h16 h17 h18 h19 h20 h21 h22 h23 h24 h25 h26 h27 h28 h29 h30 h31 h32 h33 h34 h35 h36 h37 h38 h39 h40 h41 h42 h43 h44 h45 h46 h47 h48 h49 h50 h51 h52 h53 h54 h55 h56 h57 h58 h59 h60 h61 hlt hi61
  go_wp2_with fail
  exact bodyPost_ret (v := .tuple #[.agg #[.string ⟨#[]⟩, .string ⟨#[]⟩, .bool false], .bool false]) (by simp [results, Tryz.results63, go_sem]) rfl ⟨by rw [HZ.out]; rfl, (Below.refl _ _).alloc (Nat.le_refl _) _⟩
end Go.Proofs.YteceinojmdgmeaaGreat

