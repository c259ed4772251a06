/- What handler.Find and footmanref28.Find return, for every path: the path ahead of its mark, and the route that it leads to. -/
import Derived.Test.YtfgicmekkjhlkaaHandW
namespace Go.Proofs.Ytfgicmekkjhlkaa
open Go.RowKit
set_option linter.unusedVariables false
set_option linter.unusedSimpArgs false

/-- A path's route, as a value. -/
def routeV (p : ByteArray) : Value := .agg #[.string p, .int .i64 (routeOf p.data.toList).1, .int .i64 (routeOf p.data.toList).2.1, .int .i64 (routeOf p.data.toList).2.2]
theorem routeV_of {p : ByteArray} {a b c : Int} (h : routeOf p.data.toList = (a, b, c)) : routeV p = .agg #[.string p, .int .i64 a, .int .i64 b, .int .i64 c] := by
  unfold routeV; rw [h]
theorem beq_of {p : ByteArray} {l : List UInt8} (h : (p.toList == l) = true) : p.data.toList = l := by rw [← tl]; simpa using h
theorem bne_of {p : ByteArray} {l : List UInt8} (h : ¬ (p.toList == l) = true) : p.data.toList ≠ l := by rw [← tl]; simpa using h
theorem misses {p : ByteArray} (h0 : ¬ (p.toList == [47]) = true) (h1 : ¬ (p.toList == [47, 115, 108, 111, 119]) = true) (h2 : ¬ (p.toList == [47, 98, 105, 103]) = true) (h3 : ¬ (p.toList == [47, 102, 97, 105, 108]) = true) (h4 : ¬ (p.toList == [47, 101, 109, 112, 116, 121]) = true) :
    ∀ j, j < 5 → p.data.toList ≠ rP j
  | 0, _ => bne_of h0
  | 1, _ => bne_of h1
  | 2, _ => bne_of h2
  | 3, _ => bne_of h3
  | 4, _ => bne_of h4
theorem notTrue {b : Bool} (h : ¬ b = true) : b = false := by simpa using h

theorem work_of (p : ByteArray) (h : 6 < p.size) : workP.isPrefixOf p.data.toList = ((p.extract 0 6).toList == [47, 119, 111, 114, 107, 47]) := by
  rw [prefix_take _ (by rw [← sz]; exact h), tl, Lib.extract_data]
  rfl
theorem extract_size (p : ByteArray) (a : Nat) : (p.extract a p.size).size ≤ p.size := by simp
set_option maxHeartbeats 4000000 in
theorem refFind_at (s p : ByteArray) (hp : (⟨(plainL s.data.toList).toArray⟩ : ByteArray) = p) (w : World) (hs : s.size ≤ maxLen) :
    Calls Try.prog 11 #[.string s] w fun e w' => e = .returned (routeV p) ∧ Below w.heap.size w w' := by
  have hps : p.size ≤ maxLen := by
    have h1 : p.size = (plainL s.data.toList).length := by rw [← hp]; simp [ByteArray.size]
    have h2 := plain_length s.data.toList
    have h3 := sz s
    omega
  have hplain := fun W => refPlain s W hs
  rw [hp] at hplain
  have HPL := Lib.hid hplain
  have HL := Lib.hid hps
  unfold maxLen at hps
  clear hplain hp hs
  by_cases h0 : (p.toList == [47]) = true
  · have HR := Lib.hid (routeV_of (a := 1) (b := 200) (c := 5) (route_hit p.data.toList 0 (by omega) (beq_of h0)))
    go_enter Try.func11, Try.ntmps11
    go_wp2_with (go_at_call 23; refine (HPL.out _).mono ?_; rintro e w' ⟨rfl, rfl⟩)
    rw [HR.out]
    exact bodyPost_ret (by simp [results, Try.results11, go_sem]) rfl ⟨rfl, (Below.refl _ _).alloc (Nat.le_refl _) _⟩
  by_cases h1 : (p.toList == [47, 115, 108, 111, 119]) = true
  · have HR := Lib.hid (routeV_of (a := 12) (b := 200) (c := 20) (route_hit p.data.toList 1 (by omega) (beq_of h1)))
    have h0 := notTrue h0
    go_enter Try.func11, Try.ntmps11
    go_wp2_with (go_at_call 23; refine (HPL.out _).mono ?_; rintro e w' ⟨rfl, rfl⟩)
    rw [HR.out]
    exact bodyPost_ret (by simp [results, Try.results11, go_sem]) rfl ⟨rfl, (Below.refl _ _).alloc (Nat.le_refl _) _⟩
  by_cases h2 : (p.toList == [47, 98, 105, 103]) = true
  · have HR := Lib.hid (routeV_of (a := 3) (b := 200) (c := 3000) (route_hit p.data.toList 2 (by omega) (beq_of h2)))
    have h0 := notTrue h0
    have h1 := notTrue h1
    go_enter Try.func11, Try.ntmps11
    go_wp2_with (go_at_call 23; refine (HPL.out _).mono ?_; rintro e w' ⟨rfl, rfl⟩)
    rw [HR.out]
    exact bodyPost_ret (by simp [results, Try.results11, go_sem]) rfl ⟨rfl, (Below.refl _ _).alloc (Nat.le_refl _) _⟩
  by_cases h3 : (p.toList == [47, 102, 97, 105, 108]) = true
  · have HR := Lib.hid (routeV_of (a := 2) (b := 500) (c := 0) (route_hit p.data.toList 3 (by omega) (beq_of h3)))
    have h0 := notTrue h0
    have h1 := notTrue h1
    have h2 := notTrue h2
    go_enter Try.func11, Try.ntmps11
    go_wp2_with (go_at_call 23; refine (HPL.out _).mono ?_; rintro e w' ⟨rfl, rfl⟩)
    rw [HR.out]
    exact bodyPost_ret (by simp [results, Try.results11, go_sem]) rfl ⟨rfl, (Below.refl _ _).alloc (Nat.le_refl _) _⟩
  by_cases h4 : (p.toList == [47, 101, 109, 112, 116, 121]) = true
  · have HR := Lib.hid (routeV_of (a := 1) (b := 204) (c := 0) (route_hit p.data.toList 4 (by omega) (beq_of h4)))
    have h0 := notTrue h0
    have h1 := notTrue h1
    have h2 := notTrue h2
    have h3 := notTrue h3
    go_enter Try.func11, Try.ntmps11
    go_wp2_with (go_at_call 23; refine (HPL.out _).mono ?_; rintro e w' ⟨rfl, rfl⟩)
    rw [HR.out]
    exact bodyPost_ret (by simp [results, Try.results11, go_sem]) rfl ⟨rfl, (Below.refl _ _).alloc (Nat.le_refl _) _⟩
  have HM := Lib.hid (misses h0 h1 h2 h3 h4)
  have h0 := notTrue h0
  have h1 := notTrue h1
  have h2 := notTrue h2
  have h3 := notTrue h3
  have h4 := notTrue h4
  by_cases h6 : 6 < p.size
  case neg =>
    have HR := Lib.hid (routeV_of (route_none _ HM.out (not_work_short _ (by rw [← sz]; exact h6))))
    go_enter Try.func11, Try.ntmps11
    go_wp2_with (go_at_call 23; refine (HPL.out _).mono ?_; rintro e w' ⟨rfl, rfl⟩)
    rw [HR.out]
    exact bodyPost_ret (by simp [results, Try.results11, go_sem]) rfl ⟨rfl, (Below.refl _ _).alloc (Nat.le_refl _) _⟩
  by_cases h7 : ((p.extract 0 6).toList == [47, 119, 111, 114, 107, 47]) = true
  case neg =>
    have HR := Lib.hid (routeV_of (route_none _ HM.out (fun h => h7 (work_of p h6 ▸ h.1))))
    have h7 := notTrue h7
    go_enter Try.func11, Try.ntmps11
    go_wp2_with (go_at_call 23; refine (HPL.out _).mono ?_; rintro e w' ⟨rfl, rfl⟩)
    rw [HR.out]
    exact bodyPost_ret (by simp [results, Try.results11, go_sem]) rfl ⟨rfl, (Below.refl _ _).alloc (Nat.le_refl _) _⟩
  have HW := Lib.hid ((work_of p h6).trans h7)
  obtain ⟨n, hn⟩ : ∃ n, numI (p.extract 6 p.size).data.toList = n := ⟨_, rfl⟩
  obtain ⟨b, hb⟩ : ∃ b, numOk (p.extract 6 p.size).data.toList = b := ⟨_, rfl⟩
  have hnum := fun W => refNumber (p.extract 6 p.size) W (Nat.le_trans (extract_size p 6) HL.out)
  rw [hn, hb] at hnum
  have HNUM := Lib.hid hnum
  obtain ⟨r1, r2⟩ := numI_range (p.extract 6 p.size).data.toList
  rw [hn] at r1 r2
  have HN := Lib.hid ((congrArg numI (Lib.extract_to_end p 6)).symm.trans hn)
  have HB := Lib.hid ((congrArg numOk (Lib.extract_to_end p 6)).symm.trans hb)
  clear hnum hn hb
  cases b
  · have HR := Lib.hid (routeV_of (route_none _ HM.out (fun h => by have := h.2.1.symm.trans HB.out; cases this)))
    go_enter Try.func11, Try.ntmps11
    go_wp2_with (first | (go_at_call 23; refine (HPL.out _).mono ?_; rintro e w' ⟨rfl, rfl⟩) | (go_at_call 24; refine (HNUM.out _).mono ?_; rintro e w' ⟨rfl, rfl⟩))
    rw [HR.out]
    exact bodyPost_ret (by simp [results, Try.results11, go_sem]) rfl ⟨rfl, (Below.refl _ _).alloc (Nat.le_refl _) _⟩
  by_cases g1 : 1 ≤ n
  case neg =>
    have HR := Lib.hid (routeV_of (route_none _ HM.out (fun h => g1 (HN.out ▸ h.2.2.1))))
    go_enter Try.func11, Try.ntmps11
    go_wp2_with (first | (go_at_call 23; refine (HPL.out _).mono ?_; rintro e w' ⟨rfl, rfl⟩) | (go_at_call 24; refine (HNUM.out _).mono ?_; rintro e w' ⟨rfl, rfl⟩))
    rw [HR.out]
    exact bodyPost_ret (by simp [results, Try.results11, go_sem]) rfl ⟨rfl, (Below.refl _ _).alloc (Nat.le_refl _) _⟩
  by_cases g2 : n ≤ 1000
  case neg =>
    have HR := Lib.hid (routeV_of (route_none _ HM.out (fun h => g2 (HN.out ▸ h.2.2.2))))
    go_enter Try.func11, Try.ntmps11
    go_wp2_with (first | (go_at_call 23; refine (HPL.out _).mono ?_; rintro e w' ⟨rfl, rfl⟩) | (go_at_call 24; refine (HNUM.out _).mono ?_; rintro e w' ⟨rfl, rfl⟩))
    rw [HR.out]
    exact bodyPost_ret (by simp [results, Try.results11, go_sem]) rfl ⟨rfl, (Below.refl _ _).alloc (Nat.le_refl _) _⟩
  have HR := Lib.hid (routeV_of (route_work _ HM.out HW.out HB.out (HN.out.symm ▸ g1) (HN.out.symm ▸ g2)))
  rw [HN.out] at HR
  go_enter Try.func11, Try.ntmps11
  go_wp2_with (first | (go_at_call 23; refine (HPL.out _).mono ?_; rintro e w' ⟨rfl, rfl⟩) | (go_at_call 24; refine (HNUM.out _).mono ?_; rintro e w' ⟨rfl, rfl⟩))
  rw [HR.out]
  exact bodyPost_ret (by simp [results, Try.results11, go_sem]) rfl ⟨rfl, (Below.refl _ _).alloc (Nat.le_refl _) _⟩

end Go.Proofs.Ytfgicmekkjhlkaa
