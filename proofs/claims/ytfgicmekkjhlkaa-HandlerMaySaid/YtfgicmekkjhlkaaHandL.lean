/- What handler.Look, Allowed, Refused, and the reference's, return, for every request. -/
import Derived.Test.YtfgicmekkjhlkaaHandG
namespace Go.Proofs.Ytfgicmekkjhlkaa
open Go.RowKit
set_option linter.unusedVariables false
set_option linter.unusedSimpArgs false

theorem bcell {W w1 : World} (hb : Below W.heap.size W w1) : (∀ b o, b < W.heap.size → w1.cell? ⟨b, o, none⟩ = W.cell? ⟨b, o, none⟩) ∧ (∀ b o, b < W.heap.size → w1.frozen? ⟨b, o, none⟩ = W.frozen? ⟨b, o, none⟩) :=
  ⟨fun b o h => hb.cell (p := ⟨b, o, none⟩) h, fun b o h => hb.frozen (p := ⟨b, o, none⟩) h⟩
theorem sizes2 {n m : Nat} (h : n + 2 ≤ m) : n < m ∧ n + 1 < m ∧ n < m + 1 ∧ n + 1 < m + 1 ∧ n < m + 1 + 1 := by omega
theorem ret_bool {a b : Bool} (h : a = b) : Ending.returned (.bool a) = .returned (.bool b) := by rw [h]

theorem allowed_get {m : ByteArray} (h : (m.toList == [71, 69, 84]) = true) : allowedL m.data.toList = true := by rw [tl] at h; simp [allowedL, h]
theorem allowed_head {m : ByteArray} (h : (m.toList == [72, 69, 65, 68]) = true) : allowedL m.data.toList = true := by rw [tl] at h; simp [allowedL, h]
theorem allowed_post {m : ByteArray} (h : (m.toList == [80, 79, 83, 84]) = true) : allowedL m.data.toList = true := by rw [tl] at h; simp [allowedL, h]
theorem allowed_no {m : ByteArray} (h : (m.toList == [71, 69, 84]) = false) (h1 : (m.toList == [72, 69, 65, 68]) = false) (h2 : (m.toList == [80, 79, 83, 84]) = false) : allowedL m.data.toList = false := by
  rw [tl] at h h1 h2
  simp only [allowedL, h, h1, h2]
  rfl

theorem allowed_any (m : ByteArray) (w : World) : Calls Try.prog 12 #[.string m] w fun e w' => e = .returned (.bool (allowedL m.data.toList)) ∧ w = w' := by
  by_cases h0 : (m.toList == [71, 69, 84]) = true
  · have HR := Lib.hid (allowed_get h0)
    go_enter Try.func12, Try.ntmps12
    go_wp2
    go_ret
    exact ⟨ret_bool HR.out.symm, rfl⟩
  have h0 := notTrue h0
  by_cases h1 : (m.toList == [72, 69, 65, 68]) = true
  · have HR := Lib.hid (allowed_head h1)
    go_enter Try.func12, Try.ntmps12
    go_wp2
    go_ret
    exact ⟨ret_bool HR.out.symm, rfl⟩
  have h1 := notTrue h1
  by_cases h2 : (m.toList == [80, 79, 83, 84]) = true
  · have HR := Lib.hid (allowed_post h2)
    go_enter Try.func12, Try.ntmps12
    go_wp2
    go_ret
    exact ⟨ret_bool HR.out.symm, rfl⟩
  have h2 := notTrue h2
  have HR := Lib.hid (allowed_no h0 h1 h2)
  go_enter Try.func12, Try.ntmps12
  go_wp2
  go_ret
  exact ⟨ret_bool HR.out.symm, rfl⟩

theorem refAllowed_any (m : ByteArray) (w : World) : Calls Try.prog 13 #[.string m] w fun e w' => e = .returned (.bool (allowedL m.data.toList)) ∧ w = w' := by
  by_cases h0 : (m.toList == [71, 69, 84]) = true
  · have HR := Lib.hid (allowed_get h0)
    go_enter Try.func13, Try.ntmps13
    go_wp2
    go_ret
    exact ⟨ret_bool HR.out.symm, rfl⟩
  have h0 := notTrue h0
  by_cases h1 : (m.toList == [72, 69, 65, 68]) = true
  · have HR := Lib.hid (allowed_head h1)
    go_enter Try.func13, Try.ntmps13
    go_wp2
    go_ret
    exact ⟨ret_bool HR.out.symm, rfl⟩
  have h1 := notTrue h1
  by_cases h2 : (m.toList == [80, 79, 83, 84]) = true
  · have HR := Lib.hid (allowed_post h2)
    go_enter Try.func13, Try.ntmps13
    go_wp2
    go_ret
    exact ⟨ret_bool HR.out.symm, rfl⟩
  have h2 := notTrue h2
  have HR := Lib.hid (allowed_no h0 h1 h2)
  go_enter Try.func13, Try.ntmps13
  go_wp2
  go_ret
  exact ⟨ret_bool HR.out.symm, rfl⟩

/-- A job, as a value: cost, status, length, retry, body. -/
def jobV (j : Int × Int × Int × Int × Int) : Value := .agg #[.int .i64 j.1, .int .i64 j.2.1, .int .i64 j.2.2.1, .int .i64 j.2.2.2.1, .int .i64 j.2.2.2.2]
def lookJ (m p : ByteArray) : Int × Int × Int × Int × Int := lookL m.data.toList p.data.toList
theorem look_no {m : ByteArray} (p : ByteArray) (h : allowedL m.data.toList = false) : lookJ m p = (1, 405, 0, 0, 0) := by simp [lookJ, lookL, h]
theorem look_head {m : ByteArray} (p : ByteArray) (h : allowedL m.data.toList = true) (h1 : (m.toList == [72, 69, 65, 68]) = true) {a b c : Int} (h2 : routeOf (plainL p.data.toList) = (a, b, c)) : lookJ m p = (a, b, c, 0, 0) := by
  rw [tl] at h1
  simp [lookJ, lookL, h, h1, h2]
theorem look_body {m : ByteArray} (p : ByteArray) (h : allowedL m.data.toList = true) (h1 : (m.toList == [72, 69, 65, 68]) = false) {a b c : Int} (h2 : routeOf (plainL p.data.toList) = (a, b, c)) : lookJ m p = (a, b, c, 0, c) := by
  rw [tl] at h1
  simp [lookJ, lookL, h, h1, h2]
theorem find_any (s : ByteArray) (w : World) (hs : s.size ≤ maxLen) {a b c : Int} (h : routeOf (plainL s.data.toList) = (a, b, c)) :
    Calls Try.prog 10 #[.string s] w fun e w' => e = .returned (.agg #[.string ⟨(plainL s.data.toList).toArray⟩, .int .i64 a, .int .i64 b, .int .i64 c]) ∧ Below w.heap.size w w' := by
  have h1 := find_at s _ rfl w hs
  have h2 := routeV_of (p := ⟨(plainL s.data.toList).toArray⟩) (a := a) (b := b) (c := c) (by simpa using h)
  rw [h2] at h1
  exact h1
theorem refFind_any (s : ByteArray) (w : World) (hs : s.size ≤ maxLen) {a b c : Int} (h : routeOf (plainL s.data.toList) = (a, b, c)) :
    Calls Try.prog 11 #[.string s] w fun e w' => e = .returned (.agg #[.string ⟨(plainL s.data.toList).toArray⟩, .int .i64 a, .int .i64 b, .int .i64 c]) ∧ Below w.heap.size w w' := by
  have h1 := refFind_at s _ rfl w hs
  have h2 := routeV_of (p := ⟨(plainL s.data.toList).toArray⟩) (a := a) (b := b) (c := c) (by simpa using h)
  rw [h2] at h1
  exact h1

set_option maxHeartbeats 1000000 in
theorem look_any (m sc p h : ByteArray) (x y : Int) (w : World) (hp : p.size ≤ maxLen) :
    Calls Try.prog 8 #[.agg #[.string m, .string sc, .string p, .string h, .int .i64 x, .int .i64 y]] w fun e w' => e = .returned (jobV (lookJ m p)) ∧ Below w.heap.size w w' := by
  obtain ⟨al, hal⟩ : ∃ al, allowedL m.data.toList = al := ⟨_, rfl⟩
  have hall := fun W => allowed_any m W
  rw [hal] at hall
  have HALL := Lib.hid hall
  have HAL := Lib.hid hal
  have HP := Lib.hid hp
  clear hall hal hp
  cases al
  · have HR := Lib.hid (look_no p HAL.out)
    go_enter Try.func8, Try.ntmps8
    go_wp2_with (go_at_call 12; refine (HALL.out _).mono ?_; rintro e w' ⟨rfl, rfl⟩)
    rw [HR.out]
    exact bodyPost_ret (v := .agg #[.int .i64 1, .int .i64 405, .int .i64 0, .int .i64 0, .int .i64 0]) (by simp [results, Try.results8, go_sem]) rfl ⟨rfl, ((Below.refl _ _).alloc (Nat.le_refl _) _).alloc (by simp) _⟩
  obtain ⟨a, b, c, hr⟩ : ∃ a b c, routeOf (plainL p.data.toList) = (a, b, c) := ⟨_, _, _, rfl⟩
  have HF := Lib.hid (fun W => find_any p W HP.out hr)
  have HRR := Lib.hid hr
  clear hr
  by_cases h1 : (m.toList == [72, 69, 65, 68]) = true
  · have HR := Lib.hid (look_head p HAL.out h1 HRR.out)
    have h2 : (!(m.toList == [72, 69, 65, 68])) = false := by rw [h1]; rfl
    go_enter Try.func8, Try.ntmps8
    go_wp2_with (go_at_call 12; refine (HALL.out _).mono ?_; rintro e w' ⟨rfl, rfl⟩)
    refine (HF.out _).mono ?_
    rintro e w1 ⟨rfl, hb⟩
    have B0 : Below w.heap.size w w1 := (((Below.refl _ _).alloc (Nat.le_refl _) _).alloc (by simp) _).trans (hb.mono (by simp; omega))
    obtain ⟨hc, hf⟩ := bcell hb
    obtain ⟨z0, z1, z2, z3, z4⟩ := sizes2 (show w.heap.size + 2 ≤ w1.heap.size by have := hb.size; simp at this; omega)
    clear hb
    go_wp2
    rw [HR.out]
    exact bodyPost_ret (v := .agg #[.int .i64 a, .int .i64 b, .int .i64 c, .int .i64 0, .int .i64 0]) (by simp [results, Try.results8, go_sem, hc, z0, z1, z2]) rfl ⟨rfl, by
      repeat' (first | (with_reducible exact B0) | (with_reducible refine Below.alloc ?_ ?_ _) | (with_reducible refine Below.setCell ?_ ?_ _))
      all_goals (first | omega | (simp; done) | (simp; omega))⟩
  · have h1 := notTrue h1
    have HR := Lib.hid (look_body p HAL.out h1 HRR.out)
    have h2 : (!(m.toList == [72, 69, 65, 68])) = true := by rw [h1]; rfl
    go_enter Try.func8, Try.ntmps8
    go_wp2_with (go_at_call 12; refine (HALL.out _).mono ?_; rintro e w' ⟨rfl, rfl⟩)
    refine (HF.out _).mono ?_
    rintro e w1 ⟨rfl, hb⟩
    have B0 : Below w.heap.size w w1 := (((Below.refl _ _).alloc (Nat.le_refl _) _).alloc (by simp) _).trans (hb.mono (by simp; omega))
    obtain ⟨hc, hf⟩ := bcell hb
    obtain ⟨z0, z1, z2, z3, z4⟩ := sizes2 (show w.heap.size + 2 ≤ w1.heap.size by have := hb.size; simp at this; omega)
    clear hb
    go_wp2
    rw [HR.out]
    exact bodyPost_ret (v := .agg #[.int .i64 a, .int .i64 b, .int .i64 c, .int .i64 0, .int .i64 c]) (by simp [results, Try.results8, go_sem, hc, z0, z1, z2]) rfl ⟨rfl, by
      repeat' (first | (with_reducible exact B0) | (with_reducible refine Below.alloc ?_ ?_ _) | (with_reducible refine Below.setCell ?_ ?_ _))
      all_goals (first | omega | (simp; done) | (simp; omega))⟩

set_option maxHeartbeats 1000000 in
theorem refLook_any (m sc p h : ByteArray) (x y : Int) (w : World) (hp : p.size ≤ maxLen) :
    Calls Try.prog 9 #[.agg #[.string m, .string sc, .string p, .string h, .int .i64 x, .int .i64 y]] w fun e w' => e = .returned (jobV (lookJ m p)) ∧ Below w.heap.size w w' := by
  obtain ⟨al, hal⟩ : ∃ al, allowedL m.data.toList = al := ⟨_, rfl⟩
  have hall := fun W => refAllowed_any m W
  rw [hal] at hall
  have HALL := Lib.hid hall
  have HAL := Lib.hid hal
  have HP := Lib.hid hp
  clear hall hal hp
  cases al
  · have HR := Lib.hid (look_no p HAL.out)
    go_enter Try.func9, Try.ntmps9
    go_wp2_with (go_at_call 13; refine (HALL.out _).mono ?_; rintro e w' ⟨rfl, rfl⟩)
    rw [HR.out]
    exact bodyPost_ret (v := .agg #[.int .i64 1, .int .i64 405, .int .i64 0, .int .i64 0, .int .i64 0]) (by simp [results, Try.results9, go_sem]) rfl ⟨rfl, ((Below.refl _ _).alloc (Nat.le_refl _) _).alloc (by simp) _⟩
  obtain ⟨a, b, c, hr⟩ : ∃ a b c, routeOf (plainL p.data.toList) = (a, b, c) := ⟨_, _, _, rfl⟩
  have HF := Lib.hid (fun W => refFind_any p W HP.out hr)
  have HRR := Lib.hid hr
  clear hr
  by_cases h1 : (m.toList == [72, 69, 65, 68]) = true
  · have HR := Lib.hid (look_head p HAL.out h1 HRR.out)
    have h2 : (!(m.toList == [72, 69, 65, 68])) = false := by rw [h1]; rfl
    go_enter Try.func9, Try.ntmps9
    go_wp2_with (go_at_call 13; refine (HALL.out _).mono ?_; rintro e w' ⟨rfl, rfl⟩)
    refine (HF.out _).mono ?_
    rintro e w1 ⟨rfl, hb⟩
    have B0 : Below w.heap.size w w1 := (((Below.refl _ _).alloc (Nat.le_refl _) _).alloc (by simp) _).trans (hb.mono (by simp; omega))
    obtain ⟨hc, hf⟩ := bcell hb
    obtain ⟨z0, z1, z2, z3, z4⟩ := sizes2 (show w.heap.size + 2 ≤ w1.heap.size by have := hb.size; simp at this; omega)
    clear hb
    go_wp2
    rw [HR.out]
    exact bodyPost_ret (v := .agg #[.int .i64 a, .int .i64 b, .int .i64 c, .int .i64 0, .int .i64 0]) (by simp [results, Try.results9, go_sem, hc, z0, z1, z2]) rfl ⟨rfl, by
      repeat' (first | (with_reducible exact B0) | (with_reducible refine Below.alloc ?_ ?_ _) | (with_reducible refine Below.setCell ?_ ?_ _))
      all_goals (first | omega | (simp; done) | (simp; omega))⟩
  · have h1 := notTrue h1
    have HR := Lib.hid (look_body p HAL.out h1 HRR.out)
    have h2 : (!(m.toList == [72, 69, 65, 68])) = true := by rw [h1]; rfl
    go_enter Try.func9, Try.ntmps9
    go_wp2_with (go_at_call 13; refine (HALL.out _).mono ?_; rintro e w' ⟨rfl, rfl⟩)
    refine (HF.out _).mono ?_
    rintro e w1 ⟨rfl, hb⟩
    have B0 : Below w.heap.size w w1 := (((Below.refl _ _).alloc (Nat.le_refl _) _).alloc (by simp) _).trans (hb.mono (by simp; omega))
    obtain ⟨hc, hf⟩ := bcell hb
    obtain ⟨z0, z1, z2, z3, z4⟩ := sizes2 (show w.heap.size + 2 ≤ w1.heap.size by have := hb.size; simp at this; omega)
    clear hb
    go_wp2
    rw [HR.out]
    exact bodyPost_ret (v := .agg #[.int .i64 a, .int .i64 b, .int .i64 c, .int .i64 0, .int .i64 c]) (by simp [results, Try.results9, go_sem, hc, z0, z1, z2]) rfl ⟨rfl, by
      repeat' (first | (with_reducible exact B0) | (with_reducible refine Below.alloc ?_ ?_ _) | (with_reducible refine Below.setCell ?_ ?_ _))
      all_goals (first | omega | (simp; done) | (simp; omega))⟩

theorem refused_any (a b : Int) (w : World) : Calls Try.prog 14 #[.int .i64 a, .int .i64 b] w fun e w' => e = .returned (jobV (0, a, 0, b, 0)) ∧ Below w.heap.size w w' := by
  go_enter Try.func14, Try.ntmps14
  go_wp2
  exact bodyPost_ret (v := .agg #[.int .i64 0, .int .i64 a, .int .i64 0, .int .i64 b, .int .i64 0]) (by simp [results, Try.results14, go_sem]) rfl ⟨rfl, (Below.refl _ _).alloc (Nat.le_refl _) _⟩
theorem refRefused_any (a b : Int) (w : World) : Calls Try.prog 15 #[.int .i64 a, .int .i64 b] w fun e w' => e = .returned (jobV (0, a, 0, b, 0)) ∧ Below w.heap.size w w' := by
  go_enter Try.func15, Try.ntmps15
  go_wp2
  exact bodyPost_ret (v := .agg #[.int .i64 0, .int .i64 a, .int .i64 0, .int .i64 b, .int .i64 0]) (by simp [results, Try.results15, go_sem]) rfl ⟨rfl, (Below.refl _ _).alloc (Nat.le_refl _) _⟩
theorem back_any (a b c d e0 : Int) (w : World) : Calls Try.prog 7 #[.agg #[.int .i64 a, .int .i64 b, .int .i64 c, .int .i64 d, .int .i64 e0]] w fun e w' => e = .returned (.agg #[.int .i64 a, .int .i64 b, .int .i64 c, .int .i64 d, .int .i64 e0]) ∧ Below w.heap.size w w' := by
  go_enter Try.func7, Try.ntmps7
  go_wp2
  exact bodyPost_ret (v := .agg #[.int .i64 a, .int .i64 b, .int .i64 c, .int .i64 d, .int .i64 e0]) (by simp [results, Try.results7, go_sem]) rfl ⟨rfl, ((Below.refl _ _).alloc (Nat.le_refl _) _).alloc (by simp) _⟩
end Go.Proofs.Ytfgicmekkjhlkaa
