/- Names, ends of values, tokens: request.name, Token, blank, value. -/
import Derived.Test.YtecmccihldjicaaDoorNum
import Derived.Test.YtecmccihldjicaaDoorRspB
import Derived.Test.YtecmccihldjicaaDoorShelf
import Derived.Deep.RegionLaw
import Derived.Deep.RegionHeld
namespace Go.Proofs.YtecmccihldjicaaDoor
open Go.RowKit
set_option linter.unusedVariables false
set_option linter.unusedSimpArgs false

def signL : List UInt8 := [33, 35, 36, 37, 38, 39, 42, 43, 45, 46, 94, 95, 96, 124, 126]
def sgI (n : Nat) : Int := Lib.indexByte signL n.toUInt8
theorem sign_at (n : Nat) (h : n < 256) (w : World) : Calls Tryd.prog 46 #[.string { data := #[33, 35, 36, 37, 38, 39, 42, 43, 45, 46, 94, 95, 96, 124, 126] }, .int .u8 (n : Int)] w fun e w' => e = .returned (.int .i64 (sgI n)) ∧ w' = w := Tryd.strings_IndexByte _ _ _
/-- May a byte stand in a name? -/
def signB (c : UInt8) : Bool := (decide (97 ≤ c.toNat) && decide (c.toNat ≤ 122)) || (decide (48 ≤ c.toNat) && decide (c.toNat ≤ 57)) || decide (0 ≤ sgI c.toNat)
def greatB (c : UInt8) : Bool := decide (65 ≤ c.toNat) && decide (c.toNat ≤ 90)
def okB (g : Bool) (c : UInt8) : Bool := signB c || (g && greatB c)
def nameS (g : Bool) (l : List UInt8) : Bool := !l.isEmpty && decide (l.length ≤ 64) && l.all (okB g)
theorem ret_b {a b : Bool} (h : a = b) : Ending.returned (.bool a) = .returned (.bool b) := by rw [h]
theorem nameS_no {g : Bool} (s : ByteArray) (k : Nat) (h : k < s.size) (hc : okB g s[k] = false) : nameS g s.data.toList = false := by
  have : s.data.toList.all (okB g) = false := by
    rw [List.all_eq_false]
    exact ⟨s[k], by rw [← byte_at s k h]; exact List.getElem_mem _, by simp [hc]⟩
  simp [nameS, this]
theorem isEmpty_iff (s : ByteArray) : s.toList.isEmpty = true ↔ s.size = 0 := by
  rw [tl, sz, List.isEmpty_iff, List.length_eq_zero_iff]
set_option maxHeartbeats 4000000 in
theorem name_any (s : ByteArray) (g : Bool) (w : World) (hm : s.size ≤ maxLen) :
    Calls Tryd.prog 35 #[.string s, .bool g] w fun e w' => e = .returned (.bool (nameS g s.data.toList)) ∧ Below w.heap.size w w' := by
  unfold maxLen at hm
  by_cases hE : s.toList.isEmpty = true
  · have HR : Hid (nameS g s.data.toList = false) := Lib.hid (by rw [← tl]; simp [nameS, hE])
    have hE' : s.toList = [] := by simpa using hE
    go_enter Tryd.func35, Tryd.ntmps35
    go_wp2
    go_ret
    exact ⟨ret_b HR.out.symm, Below.refl _ _⟩
  have hE : s.toList.isEmpty = false := by simpa using hE
  have hE' : ¬ s.toList = [] := by simpa using hE
  by_cases h9 : 64 < s.size
  · have HR : Hid (nameS g s.data.toList = false) := Lib.hid (by have h9 := h9; rw [sz] at h9; have h10 : ¬ s.data.toList.length ≤ 64 := Nat.not_le.2 h9; unfold nameS; rw [decide_eq_false h10]; simp)
    have h9' : (64 : Int) < (s.size : Int) := by omega
    go_enter Tryd.func35, Tryd.ntmps35
    go_wp2
    go_ret
    exact ⟨ret_b HR.out.symm, Below.refl _ _⟩
  have h9' : ¬ (64 : Int) < (s.size : Int) := by omega
  have HL : Hid (s.data.toList.all (okB g) = true → nameS g s.data.toList = true) := Lib.hid (by
    intro h
    have h1 : s.data.toList.length ≤ 64 := by rw [← sz]; omega
    rw [tl] at hE
    simp [nameS, hE, h] 
    exact h1)
  have hconv := Lib.run_convert_string_bytes (P := Tryd.prog) w 9 60 5 s Tryd.underlying9 Tryd.underlying60 Tryd.underlying5
  have HB := Lib.hid (bytesWorld_below w 5 s)
  go_enter Tryd.func35, Tryd.ntmps35
  go_wp2
  go_loop [17] (fun i => ∃ k : Nat, i = .int .i64 k ∧ k ≤ s.size ∧ (s.data.toList.take k).all (okB g) = true) (fun i => s.size - (intOf i).toNat)
  case atStart => exact ⟨0, rfl, Nat.zero_le _, rfl⟩
  case round =>
    obtain ⟨k, rfl, hk, hd⟩ := hrel
    have HD := Lib.hid hd
    clear hd hconv
    by_cases hlt : k < s.size
    · have hcell := bytes_cell w 5 s k hlt
      have hc256 := byte_lt s[k]
      have HTK := Lib.hid (take_byte s k hlt)
      obtain ⟨c, hcc⟩ : ∃ c, s[k].toNat = c := ⟨_, rfl⟩
      rw [hcc] at hcell hc256
      rcases (show c < 48 ∨ (48 ≤ c ∧ c ≤ 57) ∨ (58 ≤ c ∧ c ≤ 64) ∨ (65 ≤ c ∧ c ≤ 90) ∨ (91 ≤ c ∧ c ≤ 96) ∨ (97 ≤ c ∧ c ≤ 122) ∨ 123 ≤ c from by omega) with hr | hr | hr | hr | hr | hr | hr
      · obtain hr : c < 48 := hr
        have q97 : decide ((97 : Int) ≤ (c : Int)) = false := decide_eq_false (by omega)
        have q48 : decide ((48 : Int) ≤ (c : Int)) = false := decide_eq_false (by omega)
        by_cases hs0 : (0 : Int) ≤ sgI c
        · have qs : decide ((0 : Int) ≤ sgI c) = true := decide_eq_true hs0
          have HS := Lib.hid hs0
          have HOK := Lib.hid (show okB g s[k] = true from by simp only [okB, signB]; rw [← hcc] at qs; simp [hcc, hs0])
          clear hcc
          go_wp2_with (first | (go_at_call 46; refine (sign_at c hc256 _).mono ?_; rintro e w' ⟨rfl, hw⟩; obtain rfl := hw.symm))
          go_round
          case rel => exact ⟨k + 1, rfl, hlt, by rw [HTK.out, List.all_append, HD.out]; simp [HOK.out]⟩
          case measure => simp [intOf]; omega
        · have qs : decide ((0 : Int) ≤ sgI c) = false := decide_eq_false hs0
          cases g
          · skip
            have q65 : decide ((65 : Int) ≤ (c : Int)) = false := decide_eq_false (by omega)
            have HOK := Lib.hid (show okB false s[k] = false from by unfold okB signB greatB; rw [hcc]; simp [hs0]; try omega)
            clear hcc
            go_wp2_with (first | (go_at_call 46; refine (sign_at c hc256 _).mono ?_; rintro e w' ⟨rfl, hw⟩; obtain rfl := hw.symm))
            go_ret
            exact ⟨ret_b (nameS_no s k hlt HOK.out).symm, HB.out⟩
          · skip
            have q65 : decide ((65 : Int) ≤ (c : Int)) = false := decide_eq_false (by omega)
            have HOK := Lib.hid (show okB true s[k] = false from by unfold okB signB greatB; rw [hcc]; simp [hs0]; try omega)
            clear hcc
            go_wp2_with (first | (go_at_call 46; refine (sign_at c hc256 _).mono ?_; rintro e w' ⟨rfl, hw⟩; obtain rfl := hw.symm))
            go_ret
            exact ⟨ret_b (nameS_no s k hlt HOK.out).symm, HB.out⟩
      · obtain hr : 48 ≤ c ∧ c ≤ 57 := hr
        have q97 : decide ((97 : Int) ≤ (c : Int)) = false := decide_eq_false (by omega)
        have q48 : decide ((48 : Int) ≤ (c : Int)) = true := decide_eq_true (by omega)
        have q57 : decide ((c : Int) ≤ 57) = true := decide_eq_true (by omega)
        have HOK := Lib.hid (show okB g s[k] = true from by simp only [okB, signB]; simp; omega)
        clear hcc
        go_wp2_with fail
        go_round
        case rel => exact ⟨k + 1, rfl, hlt, by rw [HTK.out, List.all_append, HD.out]; simp [HOK.out]⟩
        case measure => simp [intOf]; omega
      · obtain hr : 58 ≤ c ∧ c ≤ 64 := hr
        have q97 : decide ((97 : Int) ≤ (c : Int)) = false := decide_eq_false (by omega)
        have q48 : decide ((48 : Int) ≤ (c : Int)) = true := decide_eq_true (by omega)
        have q57 : decide ((c : Int) ≤ 57) = false := decide_eq_false (by omega)
        by_cases hs0 : (0 : Int) ≤ sgI c
        · have qs : decide ((0 : Int) ≤ sgI c) = true := decide_eq_true hs0
          have HS := Lib.hid hs0
          have HOK := Lib.hid (show okB g s[k] = true from by simp only [okB, signB]; rw [← hcc] at qs; simp [hcc, hs0])
          clear hcc
          go_wp2_with (first | (go_at_call 46; refine (sign_at c hc256 _).mono ?_; rintro e w' ⟨rfl, hw⟩; obtain rfl := hw.symm))
          go_round
          case rel => exact ⟨k + 1, rfl, hlt, by rw [HTK.out, List.all_append, HD.out]; simp [HOK.out]⟩
          case measure => simp [intOf]; omega
        · have qs : decide ((0 : Int) ≤ sgI c) = false := decide_eq_false hs0
          cases g
          · skip
            have q65 : decide ((65 : Int) ≤ (c : Int)) = false := decide_eq_false (by omega)
            have HOK := Lib.hid (show okB false s[k] = false from by unfold okB signB greatB; rw [hcc]; simp [hs0]; try omega)
            clear hcc
            go_wp2_with (first | (go_at_call 46; refine (sign_at c hc256 _).mono ?_; rintro e w' ⟨rfl, hw⟩; obtain rfl := hw.symm))
            go_ret
            exact ⟨ret_b (nameS_no s k hlt HOK.out).symm, HB.out⟩
          · skip
            have q65 : decide ((65 : Int) ≤ (c : Int)) = false := decide_eq_false (by omega)
            have HOK := Lib.hid (show okB true s[k] = false from by unfold okB signB greatB; rw [hcc]; simp [hs0]; try omega)
            clear hcc
            go_wp2_with (first | (go_at_call 46; refine (sign_at c hc256 _).mono ?_; rintro e w' ⟨rfl, hw⟩; obtain rfl := hw.symm))
            go_ret
            exact ⟨ret_b (nameS_no s k hlt HOK.out).symm, HB.out⟩
      · obtain hr : 65 ≤ c ∧ c ≤ 90 := hr
        have q97 : decide ((97 : Int) ≤ (c : Int)) = false := decide_eq_false (by omega)
        have q48 : decide ((48 : Int) ≤ (c : Int)) = true := decide_eq_true (by omega)
        have q57 : decide ((c : Int) ≤ 57) = false := decide_eq_false (by omega)
        by_cases hs0 : (0 : Int) ≤ sgI c
        · have qs : decide ((0 : Int) ≤ sgI c) = true := decide_eq_true hs0
          have HS := Lib.hid hs0
          have HOK := Lib.hid (show okB g s[k] = true from by simp only [okB, signB]; rw [← hcc] at qs; simp [hcc, hs0])
          clear hcc
          go_wp2_with (first | (go_at_call 46; refine (sign_at c hc256 _).mono ?_; rintro e w' ⟨rfl, hw⟩; obtain rfl := hw.symm))
          go_round
          case rel => exact ⟨k + 1, rfl, hlt, by rw [HTK.out, List.all_append, HD.out]; simp [HOK.out]⟩
          case measure => simp [intOf]; omega
        · have qs : decide ((0 : Int) ≤ sgI c) = false := decide_eq_false hs0
          cases g
          · skip
            have q65 : decide ((65 : Int) ≤ (c : Int)) = true := decide_eq_true (by omega)
            have q90 : decide ((c : Int) ≤ 90) = true := decide_eq_true (by omega)
            have HOK := Lib.hid (show okB false s[k] = false from by unfold okB signB greatB; rw [hcc]; simp [hs0]; try omega)
            clear hcc
            go_wp2_with (first | (go_at_call 46; refine (sign_at c hc256 _).mono ?_; rintro e w' ⟨rfl, hw⟩; obtain rfl := hw.symm))
            go_ret
            exact ⟨ret_b (nameS_no s k hlt HOK.out).symm, HB.out⟩
          · skip
            have q65 : decide ((65 : Int) ≤ (c : Int)) = true := decide_eq_true (by omega)
            have q90 : decide ((c : Int) ≤ 90) = true := decide_eq_true (by omega)
            have HOK := Lib.hid (show okB true s[k] = true from by unfold okB signB greatB; rw [hcc]; simp [hs0]; try omega)
            clear hcc
            go_wp2_with (first | (go_at_call 46; refine (sign_at c hc256 _).mono ?_; rintro e w' ⟨rfl, hw⟩; obtain rfl := hw.symm))
            go_round
            case rel => exact ⟨k + 1, rfl, hlt, by rw [HTK.out, List.all_append, HD.out]; simp [HOK.out]⟩
            case measure => simp [intOf]; omega
      · obtain hr : 91 ≤ c ∧ c ≤ 96 := hr
        have q97 : decide ((97 : Int) ≤ (c : Int)) = false := decide_eq_false (by omega)
        have q48 : decide ((48 : Int) ≤ (c : Int)) = true := decide_eq_true (by omega)
        have q57 : decide ((c : Int) ≤ 57) = false := decide_eq_false (by omega)
        by_cases hs0 : (0 : Int) ≤ sgI c
        · have qs : decide ((0 : Int) ≤ sgI c) = true := decide_eq_true hs0
          have HS := Lib.hid hs0
          have HOK := Lib.hid (show okB g s[k] = true from by simp only [okB, signB]; rw [← hcc] at qs; simp [hcc, hs0])
          clear hcc
          go_wp2_with (first | (go_at_call 46; refine (sign_at c hc256 _).mono ?_; rintro e w' ⟨rfl, hw⟩; obtain rfl := hw.symm))
          go_round
          case rel => exact ⟨k + 1, rfl, hlt, by rw [HTK.out, List.all_append, HD.out]; simp [HOK.out]⟩
          case measure => simp [intOf]; omega
        · have qs : decide ((0 : Int) ≤ sgI c) = false := decide_eq_false hs0
          cases g
          · skip
            have q65 : decide ((65 : Int) ≤ (c : Int)) = true := decide_eq_true (by omega)
            have q90 : decide ((c : Int) ≤ 90) = false := decide_eq_false (by omega)
            have HOK := Lib.hid (show okB false s[k] = false from by unfold okB signB greatB; rw [hcc]; simp [hs0]; try omega)
            clear hcc
            go_wp2_with (first | (go_at_call 46; refine (sign_at c hc256 _).mono ?_; rintro e w' ⟨rfl, hw⟩; obtain rfl := hw.symm))
            go_ret
            exact ⟨ret_b (nameS_no s k hlt HOK.out).symm, HB.out⟩
          · skip
            have q65 : decide ((65 : Int) ≤ (c : Int)) = true := decide_eq_true (by omega)
            have q90 : decide ((c : Int) ≤ 90) = false := decide_eq_false (by omega)
            have HOK := Lib.hid (show okB true s[k] = false from by unfold okB signB greatB; rw [hcc]; simp [hs0]; try omega)
            clear hcc
            go_wp2_with (first | (go_at_call 46; refine (sign_at c hc256 _).mono ?_; rintro e w' ⟨rfl, hw⟩; obtain rfl := hw.symm))
            go_ret
            exact ⟨ret_b (nameS_no s k hlt HOK.out).symm, HB.out⟩
      · obtain hr : 97 ≤ c ∧ c ≤ 122 := hr
        have q97 : decide ((97 : Int) ≤ (c : Int)) = true := decide_eq_true (by omega)
        have q122 : decide ((c : Int) ≤ 122) = true := decide_eq_true (by omega)
        have HOK := Lib.hid (show okB g s[k] = true from by simp only [okB, signB]; simp; omega)
        clear hcc
        go_wp2_with fail
        go_round
        case rel => exact ⟨k + 1, rfl, hlt, by rw [HTK.out, List.all_append, HD.out]; simp [HOK.out]⟩
        case measure => simp [intOf]; omega
      · obtain hr : 123 ≤ c := hr
        have q97 : decide ((97 : Int) ≤ (c : Int)) = true := decide_eq_true (by omega)
        have q122 : decide ((c : Int) ≤ 122) = false := decide_eq_false (by omega)
        have q48 : decide ((48 : Int) ≤ (c : Int)) = true := decide_eq_true (by omega)
        have q57 : decide ((c : Int) ≤ 57) = false := decide_eq_false (by omega)
        by_cases hs0 : (0 : Int) ≤ sgI c
        · have qs : decide ((0 : Int) ≤ sgI c) = true := decide_eq_true hs0
          have HS := Lib.hid hs0
          have HOK := Lib.hid (show okB g s[k] = true from by simp only [okB, signB]; rw [← hcc] at qs; simp [hcc, hs0])
          clear hcc
          go_wp2_with (first | (go_at_call 46; refine (sign_at c hc256 _).mono ?_; rintro e w' ⟨rfl, hw⟩; obtain rfl := hw.symm))
          go_round
          case rel => exact ⟨k + 1, rfl, hlt, by rw [HTK.out, List.all_append, HD.out]; simp [HOK.out]⟩
          case measure => simp [intOf]; omega
        · have qs : decide ((0 : Int) ≤ sgI c) = false := decide_eq_false hs0
          cases g
          · skip
            have q65 : decide ((65 : Int) ≤ (c : Int)) = true := decide_eq_true (by omega)
            have q90 : decide ((c : Int) ≤ 90) = false := decide_eq_false (by omega)
            have HOK := Lib.hid (show okB false s[k] = false from by unfold okB signB greatB; rw [hcc]; simp [hs0]; try omega)
            clear hcc
            go_wp2_with (first | (go_at_call 46; refine (sign_at c hc256 _).mono ?_; rintro e w' ⟨rfl, hw⟩; obtain rfl := hw.symm))
            go_ret
            exact ⟨ret_b (nameS_no s k hlt HOK.out).symm, HB.out⟩
          · skip
            have q65 : decide ((65 : Int) ≤ (c : Int)) = true := decide_eq_true (by omega)
            have q90 : decide ((c : Int) ≤ 90) = false := decide_eq_false (by omega)
            have HOK := Lib.hid (show okB true s[k] = false from by unfold okB signB greatB; rw [hcc]; simp [hs0]; try omega)
            clear hcc
            go_wp2_with (first | (go_at_call 46; refine (sign_at c hc256 _).mono ?_; rintro e w' ⟨rfl, hw⟩; obtain rfl := hw.symm))
            go_ret
            exact ⟨ret_b (nameS_no s k hlt HOK.out).symm, HB.out⟩
    · obtain rfl : k = s.size := by omega
      have HR := Lib.hid (HL.out (by have := HD.out; rwa [List.take_of_length_le (by rw [← sz]; exact Nat.le_refl _)] at this))
      go_wp2
      go_ret
      exact ⟨ret_b HR.out.symm, HB.out⟩
end Go.Proofs.YtecmccihldjicaaDoor
