/- Token, blank, value, barred, Rank. -/
import Derived.Test.YtecmccihldjicaaDoorReqA
namespace Go.Proofs.YtecmccihldjicaaDoor
open Go.RowKit
set_option linter.unusedVariables false
set_option linter.unusedSimpArgs false

set_option maxHeartbeats 4000000 in
theorem token_any (s : ByteArray) (w : World) (hm : s.size ≤ maxLen) :
    Calls Tryd.prog 16 #[.string s] w fun e w' => e = .returned (.bool (nameS false s.data.toList)) ∧ Below w.heap.size w w' := by
  have HC := Lib.hid (name_any s false w hm)
  go_enter Tryd.func16, Tryd.ntmps16
  go_wp2_with (first | (go_at_call 35; refine HC.out.mono ?_; rintro e w1 ⟨rfl, hb⟩; have HB := Lib.hid hb; clear hb))
  go_ret
  exact ⟨rfl, HB.out⟩
def blkN (n : Nat) : Bool := decide (n = 32) || decide (n = 9)
def ctlN (n : Nat) : Bool := decide (n = 0) || decide (n = 10) || decide (n = 13)
theorem blank_any (n : Nat) (w : World) : Calls Tryd.prog 50 #[.int .u8 (n : Int)] w fun e w' => e = .returned (.bool (blkN n)) ∧ w' = w := by
  by_cases h1 : n = 32
  · subst h1
    go_enter Tryd.func50, Tryd.ntmps50
    go_wp2
    go_ret
    exact ⟨rfl, rfl⟩
  · have q1 : ((n : Int) == 32) = false := beq_eq_false_iff_ne.2 (by omega)
    by_cases h2 : n = 9
    · subst h2
      go_enter Tryd.func50, Tryd.ntmps50
      go_wp2
      go_ret
      exact ⟨rfl, rfl⟩
    · have q2 : ((n : Int) == 9) = false := beq_eq_false_iff_ne.2 (by omega)
      have HR := Lib.hid (show blkN n = false from by simp [blkN, h1, h2])
      go_enter Tryd.func50, Tryd.ntmps50
      go_wp2
      go_ret
      exact ⟨ret_b HR.out.symm, rfl⟩
/-- Is a value right? -/
def valS (l : List UInt8) : Bool := l.all (fun c => !ctlN c.toNat) && (l.isEmpty || (!blkN (l.headD 0).toNat && !blkN (l.getLastD 0).toNat))
theorem valS_no (s : ByteArray) (k : Nat) (h : k < s.size) (hc : ctlN s[k].toNat = true) : valS s.data.toList = false := by
  have : s.data.toList.all (fun c => !ctlN c.toNat) = false := by
    rw [List.all_eq_false]
    exact ⟨s[k], by rw [← byte_at s k h]; exact List.getElem_mem _, by simp [hc]⟩
  simp [valS, this]
theorem valS_end (s : ByteArray) (m : Nat) (h : s.size = m + 1) (ha : s.data.toList.all (fun c => !ctlN c.toNat) = true) :
    valS s.data.toList = (!blkN (s[0]'(by omega)).toNat && !blkN (s[m]'(by omega)).toNat) := by
  have hl : s.data.toList.length = m + 1 := by rw [← sz]; exact h
  have hne : s.data.toList ≠ [] := by intro e; rw [e] at hl; simp at hl
  have h0 : s.data.toList.headD 0 = s[0]'(by omega) := by
    rw [List.headD_eq_head?_getD, head_byte s (by omega)]; rfl
  have h1 : s.data.toList.getLastD 0 = s[m]'(by omega) := by
    rw [List.getLastD_eq_getLast?, List.getLast?_eq_getElem?, hl, Nat.add_sub_cancel, List.getElem?_eq_getElem (by omega), byte_at s m (by omega)]
    rfl
  have h2 : s.data.toList.isEmpty = false := by simpa using hne
  unfold valS
  rw [ha, h0, h1, h2]
  simp
set_option maxHeartbeats 4000000 in
theorem value_any (s : ByteArray) (w : World) (hm : s.size ≤ maxLen) :
    Calls Tryd.prog 42 #[.string s] w fun e w' => e = .returned (.bool (valS s.data.toList)) ∧ Below w.heap.size w w' := by
  unfold maxLen at hm
  have hconv := Lib.run_convert_string_bytes (P := Tryd.prog) w 9 60 5 s Tryd.underlying9 Tryd.underlying60 Tryd.underlying5
  have HB := Lib.hid (bytesWorld_below w 5 s)
  go_enter Tryd.func42, Tryd.ntmps42
  go_wp2
  go_loop [8] (fun i => ∃ k : Nat, i = .int .i64 k ∧ k ≤ s.size ∧ (s.data.toList.take k).all (fun c => !ctlN c.toNat) = true) (fun i => s.size - (intOf i).toNat)
  case atStart => exact ⟨0, rfl, Nat.zero_le _, rfl⟩
  case round =>
    obtain ⟨k, rfl, hk, hd⟩ := hrel
    have HD := Lib.hid hd
    clear hd hconv
    by_cases hlt : k < s.size
    · have hcell := bytes_cell w 5 s k hlt
      have hc256 := byte_lt s[k]
      have HTK := Lib.hid (take_byte s k hlt)
      have HNO := Lib.hid (valS_no s k hlt)
      by_cases h0 : s[k].toNat = 0
      · have HV := Lib.hid (HNO.out (by rw [h0]; rfl))
        rw [h0] at hcell
        go_wp2_with fail
        go_ret
        exact ⟨ret_b HV.out.symm, HB.out⟩
      · by_cases h10 : s[k].toNat = 10
        · have HV := Lib.hid (HNO.out (by rw [h10]; rfl))
          rw [h10] at hcell
          go_wp2_with fail
          go_ret
          exact ⟨ret_b HV.out.symm, HB.out⟩
        · by_cases h13 : s[k].toNat = 13
          · have HV := Lib.hid (HNO.out (by rw [h13]; rfl))
            rw [h13] at hcell
            go_wp2_with fail
            go_ret
            exact ⟨ret_b HV.out.symm, HB.out⟩
          · have HOK := Lib.hid (show ctlN s[k].toNat = false from by simp [ctlN, h0, h10, h13])
            have q0 : ((s[k].toNat : Int) == 0) = false := beq_eq_false_iff_ne.2 (by omega)
            have q1 : ((s[k].toNat : Int) == 10) = false := beq_eq_false_iff_ne.2 (by omega)
            have q2 : ((s[k].toNat : Int) == 13) = false := beq_eq_false_iff_ne.2 (by omega)
            go_wp2_with fail
            go_round
            case rel => exact ⟨k + 1, rfl, hlt, by rw [HTK.out, List.all_append, HD.out]; simp [HOK.out]⟩
            case measure => simp [intOf]; omega
    · obtain rfl : k = s.size := by omega
      have HD2 : Hid (s.data.toList.all (fun c => !ctlN c.toNat) = true) := Lib.hid (by have := HD.out; rwa [List.take_of_length_le (by rw [← sz]; exact Nat.le_refl _)] at this)
      by_cases hE : s.toList.isEmpty = true
      · have HR : Hid (valS s.data.toList = true) := Lib.hid (by have := HD2.out; rw [tl] at hE; unfold valS; rw [this, hE]; rfl)
        have hE' : s.toList = [] := by simpa using hE
        go_wp2
        go_ret
        exact ⟨ret_b HR.out.symm, HB.out⟩
      have hE : s.toList.isEmpty = false := by simpa using hE
      have hE' : ¬ s.toList = [] := by simpa using hE
      obtain ⟨m, hm1⟩ : ∃ m, s.size = m + 1 := ⟨s.size - 1, by
        have : s.size ≠ 0 := fun h => by have := (isEmpty_iff s).2 h; rw [this] at hE; cases hE
        omega⟩
      have HV := Lib.hid (valS_end s m hm1 HD2.out)
      have hpos : 0 < s.size := by omega
      have hm2 : m < s.size := by omega
      have hw1 : IntKind.i64.wrap ((s.size : Int) - 1) = (m : Int) := by rw [IntWalk.i64_in _ (by omega)]; omega
      have hw2 : (s.size : Int) - 1 = (m : Int) := by omega
      have HA := Lib.hid (blank_any s[0].toNat)
      have HZ := Lib.hid (blank_any s[m].toNat)
      obtain ⟨b0, hb0⟩ : ∃ b, blkN s[0].toNat = b := ⟨_, rfl⟩
      obtain ⟨b1, hb1⟩ : ∃ b, blkN s[m].toNat = b := ⟨_, rfl⟩
      rw [hb0, hb1] at HV
      rw [hb0] at HA
      rw [hb1] at HZ
      clear hb0 hb1
      cases b0 <;> cases b1
      all_goals
        go_wp2_with (first
          | (go_at_call 50; with_reducible refine (HA.out _).mono ?_; rintro e w' ⟨rfl, hw⟩; obtain rfl := hw.symm)
          | (go_at_call 50; with_reducible refine (HZ.out _).mono ?_; rintro e w' ⟨rfl, hw⟩; obtain rfl := hw.symm))
        go_ret
        exact ⟨ret_b HV.out.symm, HB.out⟩
def barL : List (List UInt8) := [[99, 111, 110, 110, 101, 99, 116, 105, 111, 110], [107, 101, 101, 112, 45, 97, 108, 105, 118, 101], [112, 114, 111, 120, 121, 45, 99, 111, 110, 110, 101, 99, 116, 105, 111, 110], [116, 114, 97, 110, 115, 102, 101, 114, 45, 101, 110, 99, 111, 100, 105, 110, 103], [117, 112, 103, 114, 97, 100, 101]]
def barB (l : List UInt8) : Bool := barL.contains l
theorem ba_mk (l : List UInt8) (s : ByteArray) (h : s.data.toList = l) : s = ⟨l.toArray⟩ := by cases s; simp at h; simp [← h]
theorem ba_ne (l : List UInt8) (s : ByteArray) (h : ¬ s.data.toList = l) : (s.toList == l) = false := by rw [tl]; exact beq_eq_false_iff_ne.2 h
set_option maxHeartbeats 4000000 in
theorem barred_any (s : ByteArray) (w : World) : Calls Tryd.prog 45 #[.string s] w fun e w' => e = .returned (.bool (barB s.data.toList)) ∧ w' = w := by
  by_cases h : s.data.toList ∈ barL
  · have HR := Lib.hid (show barB s.data.toList = true from by simpa [barB] using h)
    simp only [barL, List.mem_cons, List.not_mem_nil, or_false] at h
    rcases h with h | h | h | h | h
    all_goals
      have h := ba_mk _ _ h
      simp only [List.toArray] at h
      obtain rfl := h
      go_enter Tryd.func45, Tryd.ntmps45
      go_wp2
      go_ret
      exact ⟨ret_b HR.out.symm, rfl⟩
  · have HR := Lib.hid (show barB s.data.toList = false from by simpa [barB] using h)
    simp only [barL, List.mem_cons, List.not_mem_nil, or_false, not_or] at h
    obtain ⟨h1, h2, h3, h4, h5⟩ := h
    have h1 := ba_ne _ _ h1
    have h2 := ba_ne _ _ h2
    have h3 := ba_ne _ _ h3
    have h4 := ba_ne _ _ h4
    have h5 := ba_ne _ _ h5
    go_enter Tryd.func45, Tryd.ntmps45
    go_wp2
    go_ret
    exact ⟨ret_b HR.out.symm, rfl⟩
end Go.Proofs.YtecmccihldjicaaDoor
