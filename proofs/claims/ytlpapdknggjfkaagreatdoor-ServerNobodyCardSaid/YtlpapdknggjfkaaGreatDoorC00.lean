/- Pure · Num: joined by a program, for a claim has at most 60 files. -/
import Derived.Test.YtlpapdknggjfkaaGreatDoorProg
import Derived.WalkKit
import Derived.Lib.ConvBytes
import Derived.Lib.Hide
/- Plain functions and laws on lists of bytes: what a number's digits, and the text ahead of a byte, come to. No program in sight. -/
namespace Go.Proofs.YtlpapdknggjfkaaGreatDoor

/-- Is a byte a digit? -/
def digB (c : UInt8) : Bool := decide (48 ≤ c.toNat ∧ c.toNat ≤ 57)
/-- The number that digits tell. -/
def numVal (l : List UInt8) : Nat := l.foldl (fun n c => n * 10 + (c.toNat - 48)) 0
/-- Is a text a right number: one to nine digits, with no nought ahead of others? -/
def numOk (l : List UInt8) : Bool := !l.isEmpty && decide (l.length ≤ 9) && !(decide (1 < l.length) && l.head? == some 48) && l.all digB
/-- The number, or nought where the text is none. -/
def numI (l : List UInt8) : Int := if numOk l then (numVal l : Int) else 0

/-- Induction on a list from its end. -/
theorem snocInd {α : Type} {P : List α → Prop} (h0 : P []) (h1 : ∀ l a, P l → P (l ++ [a])) (l : List α) : P l := by
  have h : ∀ r : List α, P r.reverse := by
    intro r
    induction r with
    | nil => exact h0
    | cons a r ih => rw [List.reverse_cons]; exact h1 _ _ ih
  simpa using h l.reverse

theorem numVal_snoc (l : List UInt8) (c : UInt8) : numVal (l ++ [c]) = numVal l * 10 + (c.toNat - 48) := by simp [numVal]
theorem numVal_lt (l : List UInt8) : l.all digB = true → numVal l < 10 ^ l.length := by
  refine snocInd (P := fun l => l.all digB = true → numVal l < 10 ^ l.length) (by simp [numVal]) ?_ l
  intro l c ih h
  · 
    simp only [List.all_append, Bool.and_eq_true, List.all_cons, List.all_nil, Bool.and_true] at h
    have h1 := ih h.1
    have h2 : 48 ≤ c.toNat ∧ c.toNat ≤ 57 := by simpa [digB] using h.2
    rw [numVal_snoc, List.length_append, List.length_singleton, Nat.pow_succ]
    omega
theorem pow_le9 (n : Nat) (h : n ≤ 9) : 10 ^ n ≤ 1000000000 := by
  have : 10 ^ n ≤ 10 ^ 9 := Nat.pow_le_pow_right (by omega) h
  simpa using this
theorem numVal_lt9 (l : List UInt8) (h : l.all digB = true) (h9 : l.length ≤ 9) : numVal l < 1000000000 :=
  Nat.lt_of_lt_of_le (numVal_lt l h) (pow_le9 _ h9)
theorem numI_range (l : List UInt8) : 0 ≤ numI l ∧ numI l < 1000000000 := by
  unfold numI
  split
  · rename_i h
    simp only [numOk, Bool.and_eq_true, decide_eq_true_eq] at h
    have := numVal_lt9 l h.2 h.1.1.2
    omega
  · omega

theorem take_snoc (l : List UInt8) (k : Nat) (h : k < l.length) : l.take (k + 1) = l.take k ++ [l[k]] :=
  List.take_succ_eq_append_getElem h

end Go.Proofs.YtlpapdknggjfkaaGreatDoor


/- What request.Number and footmanref17.Number return, for every text: the number and whether it is right. -/
namespace Go.Proofs.YtlpapdknggjfkaaGreatDoor
open Go.RowKit
set_option linter.unusedVariables false
set_option linter.unusedSimpArgs false

theorem tl (s : ByteArray) : s.toList = s.data.toList := ByteArray.toList_eq s
theorem sz (s : ByteArray) : s.size = s.data.toList.length := by simp only [Array.length_toList]; rfl
theorem ret_num {a b : Int} {c d : Bool} (h : a = b) (h' : c = d) : Ending.returned (.tuple #[.int .i64 a, .bool c]) = .returned (.tuple #[.int .i64 b, .bool d]) := by rw [h, h']
theorem byte_at (s : ByteArray) (k : Nat) (h : k < s.size) : s.data.toList[k]'(by rw [← sz]; exact h) = s[k] := by rfl
theorem take_byte (s : ByteArray) (k : Nat) (h : k < s.size) : s.data.toList.take (k + 1) = s.data.toList.take k ++ [s[k]] := by
  rw [take_snoc _ _ (by rw [← sz]; exact h), byte_at s k h]
theorem byte_lt (c : UInt8) : c.toNat < 256 := c.toNat_lt

/-- What a round does to the sum. -/
theorem num_step (s : ByteArray) (k : Nat) (h : k < s.size) (h9 : s.size ≤ 9) (hd : (s.data.toList.take k).all digB = true) (h1 : ¬ (s[k].toNat : Int) < 48) (h2 : ¬ (57 : Int) < (s[k].toNat : Int)) :
    (s.data.toList.take (k + 1)).all digB = true ∧ (numVal (s.data.toList.take (k + 1)) : Int) = (numVal (s.data.toList.take k) : Int) * 10 + ((s[k].toNat : Int) - 48) ∧ numVal (s.data.toList.take k) < 1000000000 := by
  refine ⟨?_, ?_, ?_⟩
  · rw [take_byte s k h, List.all_append, hd]
    simp [digB]
    omega
  · rw [take_byte s k h, numVal_snoc]
    omega
  · exact numVal_lt9 _ hd (by have := List.length_take_le k s.data.toList; have := sz s; simp only [List.length_take]; omega)
/-- A byte that is no digit. -/
theorem num_no (s : ByteArray) (k : Nat) (h : k < s.size) (h1 : (s[k].toNat : Int) < 48 ∨ (57 : Int) < (s[k].toNat : Int)) : numOk s.data.toList = false := by
  have : s.data.toList.all digB = false := by
    rw [List.all_eq_false]
    refine ⟨s[k], ?_, ?_⟩
    · rw [← byte_at s k h]; exact List.getElem_mem _
    · simp [digB]; omega
  simp [numOk, this]
theorem numI_no {l : List UInt8} (h : numOk l = false) : numI l = 0 := by simp [numI, h]
theorem numI_yes {l : List UInt8} (h : numOk l = true) : numI l = numVal l := by simp [numI, h]
theorem num_empty (s : ByteArray) (h : s.toList.isEmpty = true) : numOk s.data.toList = false := by
  rw [← tl]; simp only [List.isEmpty_iff] at h; simp [numOk, h]
theorem num_long (s : ByteArray) (h : 9 < s.size) : numOk s.data.toList = false := by
  rw [sz] at h
  have : decide (s.data.toList.length ≤ 9) = false := by simp; simpa using h
  simp only [numOk, this]; simp
theorem numOk_eq (l : List UInt8) : numOk l = true ↔ l ≠ [] ∧ l.length ≤ 9 ∧ ¬ (1 < l.length ∧ l.head? = some 48) ∧ l.all digB = true := by
  unfold numOk
  simp only [Bool.and_eq_true, Bool.not_eq_true', decide_eq_true_eq, List.isEmpty_eq_false_iff, Bool.and_eq_false_iff, decide_eq_false_iff_not, beq_eq_false_iff_ne]
  constructor
  · rintro ⟨⟨⟨h1, h2⟩, h3⟩, h4⟩
    exact ⟨h1, h2, fun h => h3.elim (fun h3 => h3 h.1) (fun h3 => h3 h.2), h4⟩
  · rintro ⟨h1, h2, h3, h4⟩
    refine ⟨⟨⟨h1, h2⟩, ?_⟩, h4⟩
    by_cases h : 1 < l.length
    · exact .inr fun e => h3 ⟨h, e⟩
    · exact .inl h
theorem head_byte (s : ByteArray) (h0 : 0 < s.size) : s.data.toList.head? = some s[0] := by
  rw [List.head?_eq_getElem?, List.getElem?_eq_getElem (by rw [← sz]; exact h0), byte_at s 0 h0]
theorem byte_eq {a b : UInt8} (h : a.toNat = b.toNat) : a = b := UInt8.toNat_inj.1 h
theorem num_nought (s : ByteArray) (h : 1 < s.size) (h0 : 0 < s.size) (h1 : ((s[0].toNat : Int) == 48) = true) : numOk s.data.toList = false := by
  rw [← Bool.not_eq_true, numOk_eq]
  rintro ⟨_, _, h3, _⟩
  refine h3 ⟨by rw [← sz]; exact h, ?_⟩
  rw [head_byte s h0]
  have h2 : (s[0].toNat : Int) = 48 := by simpa using h1
  rw [byte_eq (a := s[0]) (b := 48) (by show s[0].toNat = 48; omega)]
theorem num_all (s : ByteArray) (hpos : 0 < s.size) (h9 : s.size ≤ 9) (hz : s.size ≤ 1 ∨ ((s[0].toNat : Int) == 48) = false) (hd : (s.data.toList.take s.size).all digB = true) :
    numOk s.data.toList = true ∧ numVal (s.data.toList.take s.size) = numVal s.data.toList := by
  have ht : s.data.toList.take s.size = s.data.toList := List.take_of_length_le (by rw [← sz]; exact Nat.le_refl _)
  rw [ht] at hd ⊢
  refine ⟨?_, rfl⟩
  rw [numOk_eq]
  refine ⟨fun e => ?_, by rw [← sz]; exact h9, ?_, hd⟩
  · have h2 := sz s
    rw [e] at h2
    have h3 : s.size = 0 := h2
    omega
  · rw [← sz, head_byte s hpos]
    rintro ⟨h1, h2⟩
    rcases hz with hz | hz
    · omega
    · injection h2 with h2
      rw [h2] at hz
      simp at hz

theorem bytesWorld_below (w : World) (e : TypeId) (s : ByteArray) : Below w.heap.size w (Lib.bytesWorld w e s) :=
  ⟨by unfold Lib.bytesWorld World.freeze; split <;> rfl, by unfold Lib.bytesWorld World.freeze; split <;> rfl, by unfold Lib.bytesWorld World.freeze; split <;> rfl, by rw [Lib.bytesWorld_size]; omega, fun k hk => Lib.bytesWorld_at_old w e s k hk⟩
theorem bytes_cell (w : World) (e : TypeId) (s : ByteArray) (k : Nat) (h : k < s.size) : (Lib.bytesWorld w e s).cell? ⟨w.heap.size, k, none⟩ = some (.int .u8 s[k].toNat) := by
  rw [Lib.bytesWorld_cell w e s k h, List.getD_eq_getElem?_getD, List.getElem?_eq_getElem (by rw [← sz]; exact h), byte_at s k h]
  rfl

set_option maxRecDepth 100000 in
set_option maxHeartbeats 1000000 in
theorem reqNumber (s : ByteArray) (w : World) (hs : s.size ≤ maxLen) :
    Calls Tryz.prog 246 #[.string s] w fun e w' => e = .returned (.tuple #[.int .i64 (numI s.data.toList), .bool (numOk s.data.toList)]) ∧ Below w.heap.size w w' := by
  unfold maxLen at hs
  by_cases hE : s.toList.isEmpty = true
  · have HR : Hid _ := Lib.hid (num_empty s hE)
    have hE' : s.toList = [] := by simpa using hE
    go_enter Tryz.func246, Tryz.ntmps246
    go_wp2
    go_ret2
    exact ⟨ret_num (numI_no HR.out).symm HR.out.symm, Below.refl _ _⟩
  have hE : s.toList.isEmpty = false := by simpa using hE
  have hE' : ¬ s.toList = [] := by simpa using hE
  by_cases h9 : 9 < s.size
  · have HR : Hid _ := Lib.hid (num_long s h9)
    go_enter Tryz.func246, Tryz.ntmps246
    go_wp2
    go_ret2
    exact ⟨ret_num (numI_no HR.out).symm HR.out.symm, Below.refl _ _⟩
  have hpos : 0 < s.size := by
    rw [sz, ← tl]
    cases hl : s.toList with
    | nil => rw [hl] at hE; simp at hE
    | cons a l => simp
  by_cases hz : 1 < s.size ∧ ((s[0].toNat : Int) == 48) = true
  · obtain ⟨hz1, hz2⟩ := hz
    have HR : Hid _ := Lib.hid (num_nought s hz1 hpos hz2)
    go_enter Tryz.func246, Tryz.ntmps246
    go_wp2
    go_ret2
    exact ⟨ret_num (numI_no HR.out).symm HR.out.symm, Below.refl _ _⟩
  have hz' : s.size ≤ 1 ∨ ((s[0].toNat : Int) == 48) = false := by
    by_cases h1 : 1 < s.size
    · right
      by_cases h2 : ((s[0].toNat : Int) == 48) = true
      · exact absurd ⟨h1, h2⟩ hz
      · simpa using h2
    · left; omega
  have HZ := Lib.hid hz'
  have hz' : s.size ≤ 1 ∨ (1 < s.size ∧ ((s[0].toNat : Int) == 48) = false) := by
    by_cases h1 : 1 < s.size
    · exact .inr ⟨h1, hz'.resolve_left (by omega)⟩
    · exact .inl (by omega)
  clear hz
  have hconv := Lib.run_convert_string_bytes (P := Tryz.prog) w 9 81 5 s Tryz.underlying9 Tryz.underlying81 Tryz.underlying5
  have HB := Lib.hid (bytesWorld_below w 5 s)
  rcases hz' with hz' | ⟨hz', hz0⟩
  all_goals
    go_enter Tryz.func246, Tryz.ntmps246
    go_wp2
    go_loop [4, 6, 27] (fun n _ i => ∃ k : Nat, k ≤ s.size ∧ i = .int .i64 k ∧ n = .int .i64 (numVal (s.data.toList.take k)) ∧ (s.data.toList.take k).all digB = true) (fun _ _ i => s.size - (intOf i).toNat)
    case atStart => exact ⟨0, Nat.zero_le _, rfl, rfl, rfl⟩
    case round =>
      obtain ⟨k, hk, rfl, rfl, hd⟩ := hrel
      have HD := Lib.hid hd
      clear hd hconv
      by_cases hlt : k < s.size
      · have hcell := bytes_cell w 5 s k hlt
        by_cases h1 : (s[k].toNat : Int) < 48
        · have HR := Lib.hid (num_no s k hlt (.inl h1))
          go_wp2
          go_ret2
          exact ⟨ret_num (numI_no HR.out).symm HR.out.symm, HB.out⟩
        · by_cases h2 : (57 : Int) < (s[k].toNat : Int)
          · have HR := Lib.hid (num_no s k hlt (.inr h2))
            go_wp2
            go_ret2
            exact ⟨ret_num (numI_no HR.out).symm HR.out.symm, HB.out⟩
          · obtain ⟨g1, g2, g3⟩ := num_step s k hlt (by omega) HD.out h1 h2
            have G1 := Lib.hid g1
            have G2 := Lib.hid g2
            clear g1 g2
            have hb := byte_lt s[k]
            go_wp2
            go_round
            case rel => exact ⟨k + 1, by omega, by go_num, by rw [G2.out], G1.out⟩
            case measure => simp [intOf]; omega
      · obtain rfl : k = s.size := by omega
        have HR := Lib.hid (num_all s hpos (by omega) HZ.out HD.out)
        go_wp2
        go_ret2
        exact ⟨ret_num (by rw [numI_yes HR.out.1, HR.out.2]) HR.out.1.symm, HB.out⟩
end Go.Proofs.YtlpapdknggjfkaaGreatDoor

