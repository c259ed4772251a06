/- Pure · Num · RspB · Resp: joined by a program, for a claim has at most 60 files. -/
import Derived.Test.YtdflkikhmngfiaaGreatDoorProg
import Derived.WalkKit
import Derived.Lib.ConvBytes
import Derived.Lib.Hide
import Derived.Maps.AppendAt
import Derived.Deep.AppendLies
import Derived.Deep.Onto
import Derived.Lib.SliceRun
import Derived.RegionTactic
import Derived.Laws.StructEq
import Derived.Laws.Rows
import Derived.IntWalk
import Derived.Deep.Draws
/- Plain functions and laws on lists of bytes: what a number's digits, and the text ahead of a byte, come to. No program in sight. -/
namespace Go.Proofs.YtdflkikhmngfiaaGreatDoor

/-- Is a byte a digit? -/
def digB (c : UInt8) : Bool := decide (48 ≤ c.toNat ∧ c.toNat ≤ 57)
/-- The number that digits tell. -/
def numVal (l : List UInt8) : Nat := l.foldl (fun n c => n * 10 + (c.toNat - 48)) 0
/-- Is a text a right number: one to nine digits, with no nought ahead of others? -/
def numOk (l : List UInt8) : Bool := !l.isEmpty && decide (l.length ≤ 9) && !(decide (1 < l.length) && l.head? == some 48) && l.all digB
/-- The number, or nought where the text is none. -/
def numI (l : List UInt8) : Int := if numOk l then (numVal l : Int) else 0

/-- Induction on a list from its end. -/
theorem snocInd {α : Type} {P : List α → Prop} (h0 : P []) (h1 : ∀ l a, P l → P (l ++ [a])) (l : List α) : P l := by
  have h : ∀ r : List α, P r.reverse := by
    intro r
    induction r with
    | nil => exact h0
    | cons a r ih => rw [List.reverse_cons]; exact h1 _ _ ih
  simpa using h l.reverse

theorem numVal_snoc (l : List UInt8) (c : UInt8) : numVal (l ++ [c]) = numVal l * 10 + (c.toNat - 48) := by simp [numVal]
theorem numVal_lt (l : List UInt8) : l.all digB = true → numVal l < 10 ^ l.length := by
  refine snocInd (P := fun l => l.all digB = true → numVal l < 10 ^ l.length) (by simp [numVal]) ?_ l
  intro l c ih h
  · 
    simp only [List.all_append, Bool.and_eq_true, List.all_cons, List.all_nil, Bool.and_true] at h
    have h1 := ih h.1
    have h2 : 48 ≤ c.toNat ∧ c.toNat ≤ 57 := by simpa [digB] using h.2
    rw [numVal_snoc, List.length_append, List.length_singleton, Nat.pow_succ]
    omega
theorem pow_le9 (n : Nat) (h : n ≤ 9) : 10 ^ n ≤ 1000000000 := by
  have : 10 ^ n ≤ 10 ^ 9 := Nat.pow_le_pow_right (by omega) h
  simpa using this
theorem numVal_lt9 (l : List UInt8) (h : l.all digB = true) (h9 : l.length ≤ 9) : numVal l < 1000000000 :=
  Nat.lt_of_lt_of_le (numVal_lt l h) (pow_le9 _ h9)
theorem numI_range (l : List UInt8) : 0 ≤ numI l ∧ numI l < 1000000000 := by
  unfold numI
  split
  · rename_i h
    simp only [numOk, Bool.and_eq_true, decide_eq_true_eq] at h
    have := numVal_lt9 l h.2 h.1.1.2
    omega
  · omega

theorem take_snoc (l : List UInt8) (k : Nat) (h : k < l.length) : l.take (k + 1) = l.take k ++ [l[k]] :=
  List.take_succ_eq_append_getElem h

end Go.Proofs.YtdflkikhmngfiaaGreatDoor


/- What request.Number and footmanref17.Number return, for every text: the number and whether it is right. -/
namespace Go.Proofs.YtdflkikhmngfiaaGreatDoor
open Go.RowKit
set_option linter.unusedVariables false
set_option linter.unusedSimpArgs false

theorem tl (s : ByteArray) : s.toList = s.data.toList := ByteArray.toList_eq s
theorem sz (s : ByteArray) : s.size = s.data.toList.length := by simp only [Array.length_toList]; rfl
theorem ret_num {a b : Int} {c d : Bool} (h : a = b) (h' : c = d) : Ending.returned (.tuple #[.int .i64 a, .bool c]) = .returned (.tuple #[.int .i64 b, .bool d]) := by rw [h, h']
theorem byte_at (s : ByteArray) (k : Nat) (h : k < s.size) : s.data.toList[k]'(by rw [← sz]; exact h) = s[k] := by rfl
theorem take_byte (s : ByteArray) (k : Nat) (h : k < s.size) : s.data.toList.take (k + 1) = s.data.toList.take k ++ [s[k]] := by
  rw [take_snoc _ _ (by rw [← sz]; exact h), byte_at s k h]
theorem byte_lt (c : UInt8) : c.toNat < 256 := c.toNat_lt

/-- What a round does to the sum. -/
theorem num_step (s : ByteArray) (k : Nat) (h : k < s.size) (h9 : s.size ≤ 9) (hd : (s.data.toList.take k).all digB = true) (h1 : ¬ (s[k].toNat : Int) < 48) (h2 : ¬ (57 : Int) < (s[k].toNat : Int)) :
    (s.data.toList.take (k + 1)).all digB = true ∧ (numVal (s.data.toList.take (k + 1)) : Int) = (numVal (s.data.toList.take k) : Int) * 10 + ((s[k].toNat : Int) - 48) ∧ numVal (s.data.toList.take k) < 1000000000 := by
  refine ⟨?_, ?_, ?_⟩
  · rw [take_byte s k h, List.all_append, hd]
    simp [digB]
    omega
  · rw [take_byte s k h, numVal_snoc]
    omega
  · exact numVal_lt9 _ hd (by have := List.length_take_le k s.data.toList; have := sz s; simp only [List.length_take]; omega)
/-- A byte that is no digit. -/
theorem num_no (s : ByteArray) (k : Nat) (h : k < s.size) (h1 : (s[k].toNat : Int) < 48 ∨ (57 : Int) < (s[k].toNat : Int)) : numOk s.data.toList = false := by
  have : s.data.toList.all digB = false := by
    rw [List.all_eq_false]
    refine ⟨s[k], ?_, ?_⟩
    · rw [← byte_at s k h]; exact List.getElem_mem _
    · simp [digB]; omega
  simp [numOk, this]
theorem numI_no {l : List UInt8} (h : numOk l = false) : numI l = 0 := by simp [numI, h]
theorem numI_yes {l : List UInt8} (h : numOk l = true) : numI l = numVal l := by simp [numI, h]
theorem num_empty (s : ByteArray) (h : s.toList.isEmpty = true) : numOk s.data.toList = false := by
  rw [← tl]; simp only [List.isEmpty_iff] at h; simp [numOk, h]
theorem num_long (s : ByteArray) (h : 9 < s.size) : numOk s.data.toList = false := by
  rw [sz] at h
  have : decide (s.data.toList.length ≤ 9) = false := by simp; simpa using h
  simp only [numOk, this]; simp
theorem numOk_eq (l : List UInt8) : numOk l = true ↔ l ≠ [] ∧ l.length ≤ 9 ∧ ¬ (1 < l.length ∧ l.head? = some 48) ∧ l.all digB = true := by
  unfold numOk
  simp only [Bool.and_eq_true, Bool.not_eq_true', decide_eq_true_eq, List.isEmpty_eq_false_iff, Bool.and_eq_false_iff, decide_eq_false_iff_not, beq_eq_false_iff_ne]
  constructor
  · rintro ⟨⟨⟨h1, h2⟩, h3⟩, h4⟩
    exact ⟨h1, h2, fun h => h3.elim (fun h3 => h3 h.1) (fun h3 => h3 h.2), h4⟩
  · rintro ⟨h1, h2, h3, h4⟩
    refine ⟨⟨⟨h1, h2⟩, ?_⟩, h4⟩
    by_cases h : 1 < l.length
    · exact .inr fun e => h3 ⟨h, e⟩
    · exact .inl h
theorem head_byte (s : ByteArray) (h0 : 0 < s.size) : s.data.toList.head? = some s[0] := by
  rw [List.head?_eq_getElem?, List.getElem?_eq_getElem (by rw [← sz]; exact h0), byte_at s 0 h0]
theorem byte_eq {a b : UInt8} (h : a.toNat = b.toNat) : a = b := UInt8.toNat_inj.1 h
theorem num_nought (s : ByteArray) (h : 1 < s.size) (h0 : 0 < s.size) (h1 : ((s[0].toNat : Int) == 48) = true) : numOk s.data.toList = false := by
  rw [← Bool.not_eq_true, numOk_eq]
  rintro ⟨_, _, h3, _⟩
  refine h3 ⟨by rw [← sz]; exact h, ?_⟩
  rw [head_byte s h0]
  have h2 : (s[0].toNat : Int) = 48 := by simpa using h1
  rw [byte_eq (a := s[0]) (b := 48) (by show s[0].toNat = 48; omega)]
theorem num_all (s : ByteArray) (hpos : 0 < s.size) (h9 : s.size ≤ 9) (hz : s.size ≤ 1 ∨ ((s[0].toNat : Int) == 48) = false) (hd : (s.data.toList.take s.size).all digB = true) :
    numOk s.data.toList = true ∧ numVal (s.data.toList.take s.size) = numVal s.data.toList := by
  have ht : s.data.toList.take s.size = s.data.toList := List.take_of_length_le (by rw [← sz]; exact Nat.le_refl _)
  rw [ht] at hd ⊢
  refine ⟨?_, rfl⟩
  rw [numOk_eq]
  refine ⟨fun e => ?_, by rw [← sz]; exact h9, ?_, hd⟩
  · have h2 := sz s
    rw [e] at h2
    have h3 : s.size = 0 := h2
    omega
  · rw [← sz, head_byte s hpos]
    rintro ⟨h1, h2⟩
    rcases hz with hz | hz
    · omega
    · injection h2 with h2
      rw [h2] at hz
      simp at hz

set_option maxHeartbeats 400000 in
theorem refNumber (s : ByteArray) (w : World) (hs : s.size ≤ maxLen) :
    Calls Tryz.prog 21 #[.string s] w fun e w' => e = .returned (.tuple #[.int .i64 (numI s.data.toList), .bool (numOk s.data.toList)]) ∧ w = w' := by
  unfold maxLen at hs
  by_cases hE : s.toList.isEmpty = true
  · have HR : Hid _ := Lib.hid (num_empty s hE)
    have hE' : s.toList = [] := by simpa using hE
    go_enter Tryz.func21, Tryz.ntmps21
    go_wp2
    go_ret2
    exact ⟨ret_num (numI_no HR.out).symm HR.out.symm, rfl⟩
  have hE : s.toList.isEmpty = false := by simpa using hE
  have hE' : ¬ s.toList = [] := by simpa using hE
  by_cases h9 : 9 < s.size
  · have HR : Hid _ := Lib.hid (num_long s h9)
    go_enter Tryz.func21, Tryz.ntmps21
    go_wp2
    go_ret2
    exact ⟨ret_num (numI_no HR.out).symm HR.out.symm, rfl⟩
  have hpos : 0 < s.size := by
    rw [sz, ← tl]
    cases hl : s.toList with
    | nil => rw [hl] at hE; simp at hE
    | cons a l => simp
  by_cases hz : 1 < s.size ∧ ((s[0].toNat : Int) == 48) = true
  · obtain ⟨hz1, hz2⟩ := hz
    have HR : Hid _ := Lib.hid (num_nought s hz1 hpos hz2)
    go_enter Tryz.func21, Tryz.ntmps21
    go_wp2
    go_ret2
    exact ⟨ret_num (numI_no HR.out).symm HR.out.symm, rfl⟩
  have hz' : s.size ≤ 1 ∨ ((s[0].toNat : Int) == 48) = false := by
    by_cases h1 : 1 < s.size
    · right
      by_cases h2 : ((s[0].toNat : Int) == 48) = true
      · exact absurd ⟨h1, h2⟩ hz
      · simpa using h2
    · left; omega
  have HZ := Lib.hid hz'
  have hz' : s.size ≤ 1 ∨ (1 < s.size ∧ ((s[0].toNat : Int) == 48) = false) := by
    by_cases h1 : 1 < s.size
    · exact .inr ⟨h1, hz'.resolve_left (by omega)⟩
    · exact .inl (by omega)
  clear hz
  rcases hz' with hz' | ⟨hz', hz0⟩
  all_goals
    go_enter Tryz.func21, Tryz.ntmps21
    go_wp2
    go_loop [4, 5] (fun n i => ∃ k : Nat, k ≤ s.size ∧ i = .int .i64 k ∧ n = .int .i64 (numVal (s.data.toList.take k)) ∧ (s.data.toList.take k).all digB = true) (fun _ i => s.size - (intOf i).toNat)
    case atStart => exact ⟨0, Nat.zero_le _, rfl, rfl, rfl⟩
    case round =>
      obtain ⟨k, hk, rfl, rfl, hd⟩ := hrel
      have HD := Lib.hid hd
      clear hd
      by_cases hlt : k < s.size
      · by_cases h1 : (s[k].toNat : Int) < 48
        · have HR := Lib.hid (num_no s k hlt (.inl h1))
          go_wp2
          go_ret2
          exact ⟨ret_num (numI_no HR.out).symm HR.out.symm, rfl⟩
        · by_cases h2 : (57 : Int) < (s[k].toNat : Int)
          · have HR := Lib.hid (num_no s k hlt (.inr h2))
            go_wp2
            go_ret2
            exact ⟨ret_num (numI_no HR.out).symm HR.out.symm, rfl⟩
          · obtain ⟨g1, g2, g3⟩ := num_step s k hlt (by omega) HD.out h1 h2
            have G1 := Lib.hid g1
            have G2 := Lib.hid g2
            clear g1 g2
            have hb := byte_lt s[k]
            go_wp2
            go_round
            case rel => exact ⟨k + 1, by omega, by go_num, by rw [G2.out]; go_num, G1.out⟩
            case measure => simp [intOf]; omega
      · obtain rfl : k = s.size := by omega
        have HR := Lib.hid (num_all s hpos (by omega) HZ.out HD.out)
        go_wp2
        go_ret2
        exact ⟨ret_num (by rw [numI_yes HR.out.1, HR.out.2]) HR.out.1.symm, rfl⟩
theorem bytesWorld_below (w : World) (e : TypeId) (s : ByteArray) : Below w.heap.size w (Lib.bytesWorld w e s) :=
  ⟨by unfold Lib.bytesWorld World.freeze; split <;> rfl, by unfold Lib.bytesWorld World.freeze; split <;> rfl, by unfold Lib.bytesWorld World.freeze; split <;> rfl, by rw [Lib.bytesWorld_size]; omega, fun k hk => Lib.bytesWorld_at_old w e s k hk⟩
theorem bytes_cell (w : World) (e : TypeId) (s : ByteArray) (k : Nat) (h : k < s.size) : (Lib.bytesWorld w e s).cell? ⟨w.heap.size, k, none⟩ = some (.int .u8 s[k].toNat) := by
  rw [Lib.bytesWorld_cell w e s k h, List.getD_eq_getElem?_getD, List.getElem?_eq_getElem (by rw [← sz]; exact h), byte_at s k h]
  rfl

set_option maxRecDepth 100000 in
set_option maxHeartbeats 1000000 in
theorem reqNumber (s : ByteArray) (w : World) (hs : s.size ≤ maxLen) :
    Calls Tryz.prog 32 #[.string s] w fun e w' => e = .returned (.tuple #[.int .i64 (numI s.data.toList), .bool (numOk s.data.toList)]) ∧ Below w.heap.size w w' := by
  unfold maxLen at hs
  by_cases hE : s.toList.isEmpty = true
  · have HR : Hid _ := Lib.hid (num_empty s hE)
    have hE' : s.toList = [] := by simpa using hE
    go_enter Tryz.func32, Tryz.ntmps32
    go_wp2
    go_ret2
    exact ⟨ret_num (numI_no HR.out).symm HR.out.symm, Below.refl _ _⟩
  have hE : s.toList.isEmpty = false := by simpa using hE
  have hE' : ¬ s.toList = [] := by simpa using hE
  by_cases h9 : 9 < s.size
  · have HR : Hid _ := Lib.hid (num_long s h9)
    go_enter Tryz.func32, Tryz.ntmps32
    go_wp2
    go_ret2
    exact ⟨ret_num (numI_no HR.out).symm HR.out.symm, Below.refl _ _⟩
  have hpos : 0 < s.size := by
    rw [sz, ← tl]
    cases hl : s.toList with
    | nil => rw [hl] at hE; simp at hE
    | cons a l => simp
  by_cases hz : 1 < s.size ∧ ((s[0].toNat : Int) == 48) = true
  · obtain ⟨hz1, hz2⟩ := hz
    have HR : Hid _ := Lib.hid (num_nought s hz1 hpos hz2)
    go_enter Tryz.func32, Tryz.ntmps32
    go_wp2
    go_ret2
    exact ⟨ret_num (numI_no HR.out).symm HR.out.symm, Below.refl _ _⟩
  have hz' : s.size ≤ 1 ∨ ((s[0].toNat : Int) == 48) = false := by
    by_cases h1 : 1 < s.size
    · right
      by_cases h2 : ((s[0].toNat : Int) == 48) = true
      · exact absurd ⟨h1, h2⟩ hz
      · simpa using h2
    · left; omega
  have HZ := Lib.hid hz'
  have hz' : s.size ≤ 1 ∨ (1 < s.size ∧ ((s[0].toNat : Int) == 48) = false) := by
    by_cases h1 : 1 < s.size
    · exact .inr ⟨h1, hz'.resolve_left (by omega)⟩
    · exact .inl (by omega)
  clear hz
  have hconv := Lib.run_convert_string_bytes (P := Tryz.prog) w 9 93 5 s Tryz.underlying9 Tryz.underlying93 Tryz.underlying5
  have HB := Lib.hid (bytesWorld_below w 5 s)
  rcases hz' with hz' | ⟨hz', hz0⟩
  all_goals
    go_enter Tryz.func32, Tryz.ntmps32
    go_wp2
    go_loop [4, 6, 27] (fun n _ i => ∃ k : Nat, k ≤ s.size ∧ i = .int .i64 k ∧ n = .int .i64 (numVal (s.data.toList.take k)) ∧ (s.data.toList.take k).all digB = true) (fun _ _ i => s.size - (intOf i).toNat)
    case atStart => exact ⟨0, Nat.zero_le _, rfl, rfl, rfl⟩
    case round =>
      obtain ⟨k, hk, rfl, rfl, hd⟩ := hrel
      have HD := Lib.hid hd
      clear hd hconv
      by_cases hlt : k < s.size
      · have hcell := bytes_cell w 5 s k hlt
        by_cases h1 : (s[k].toNat : Int) < 48
        · have HR := Lib.hid (num_no s k hlt (.inl h1))
          go_wp2
          go_ret2
          exact ⟨ret_num (numI_no HR.out).symm HR.out.symm, HB.out⟩
        · by_cases h2 : (57 : Int) < (s[k].toNat : Int)
          · have HR := Lib.hid (num_no s k hlt (.inr h2))
            go_wp2
            go_ret2
            exact ⟨ret_num (numI_no HR.out).symm HR.out.symm, HB.out⟩
          · obtain ⟨g1, g2, g3⟩ := num_step s k hlt (by omega) HD.out h1 h2
            have G1 := Lib.hid g1
            have G2 := Lib.hid g2
            clear g1 g2
            have hb := byte_lt s[k]
            go_wp2
            go_round
            case rel => exact ⟨k + 1, by omega, by go_num, by rw [G2.out], G1.out⟩
            case measure => simp [intOf]; omega
      · obtain rfl : k = s.size := by omega
        have HR := Lib.hid (num_all s hpos (by omega) HZ.out HD.out)
        go_wp2
        go_ret2
        exact ⟨ret_num (by rw [numI_yes HR.out.1, HR.out.2]) HR.out.1.symm, HB.out⟩
end Go.Proofs.YtdflkikhmngfiaaGreatDoor


/- The base of the response laws: bytes and fields in memory. -/
namespace Go.Proofs.YtdflkikhmngfiaaGreatDoor
open Go.RowKit
set_option linter.unusedVariables false
set_option linter.unusedSimpArgs false

theorem owns_below {w w' : World} {base : Nat} {e : TypeId} {size : Nat} {v : Value} {n : Nat} {xs : List Value} (h : w.ownsRow base e size v n xs) (hb : Below w.heap.size w w') : w'.ownsRow base e size v n xs := by
  have hg : w.grownBy w' none := ⟨hb.os, hb.tape, hb.output, hb.size, fun i hi _ => hb.block i hi⟩
  refine h.kept hg ?_
  cases hv : v.ownBlock with
  | none => exact .inl rfl
  | some k => exact .inr (by simp)
/-- A slice of bytes in memory of one's own: it holds these numbers. -/
def OwnB (w : World) (base : Nat) (v : Value) (l : List Nat) : Prop := w.ownsRow base 5 1 v l.length (l.map fun n : Nat => Value.int .u8 (n : Int))
theorem cells_new (w : World) (cs : List Value) (t : TypeId) : ∀ j u, cs[j]? = some u → (w.alloc (.cells cs.toArray t)).cell? ((⟨w.heap.size, 0, none⟩ : Addr).add j) = some u := by
  intro j u hj
  have ha : ((⟨w.heap.size, 0, none⟩ : Addr).add j) = ⟨w.heap.size, j, none⟩ := by unfold Addr.add; split <;> simp_all
  rw [ha, cell_of_row _ _ _ _ _ _ (heap_alloc_new w _)]
  simpa using hj
theorem info_parts {t : TypeId} {z : Option Value} {a b : Nat} (h : (Tryz.prog.info? t).map (fun i => (i.zero, i.size, i.bytes)) = some (z, a, b)) : ∃ i, Tryz.prog.info? t = some i ∧ i.zero = z ∧ i.size = a ∧ i.bytes = b := by
  cases hi : Tryz.prog.info? t with
  | none => rw [hi] at h; simp at h
  | some i => rw [hi] at h; simp at h; exact ⟨i, rfl, h.1, h.2.1, h.2.2⟩
theorem u8_info : (Tryz.prog.info? 5).map (fun i => (i.zero, i.size, i.bytes)) = some (some (.int .u8 0), 1, 1) := by kernel_rfl
theorem ownB_snoc {w : World} {base : Nat} {v : Value} {l : List Nat} {b : Nat} (h : w.ownsRow base 5 1 v (l.length + 1) (l.map (fun n : Nat => Value.int .u8 (n : Int)) ++ [Value.int .u8 (b : Int)])) : OwnB w base v (l ++ [b]) := by
  unfold OwnB
  rw [List.length_append, List.map_append]
  exact h
/-- Bytes in memory. -/
def BytesN (W : World) (oa : Option Addr) (bs : List Nat) : Prop := ∀ i, i < bs.length → ∃ a, oa = some a ∧ W.cell? (a.add i) = some (.int .u8 (bs.getD i 0 : Nat))
theorem cell_eq {W W' : World} {a : Addr} (h : W'.heap[a.block]? = W.heap[a.block]?) : W'.cell? a = W.cell? a := by unfold World.cell?; rw [h]
theorem BytesN.below {W W' : World} {oa : Option Addr} {bs : List Nat} (h : BytesN W oa bs) (hn : Below W.heap.size W W') : BytesN W' oa bs := by
  intro i hi
  obtain ⟨a, ha, hc⟩ := h i hi
  exact ⟨a, ha, (cell_eq (hn.block _ (World.block_lt_of_cell? _ _ hc))).trans hc⟩
/-- The bytes read as a text. -/
theorem text_own (W : World) (base : Nat) (v : Value) (l : List UInt8) (h : OwnB W base v (l.map UInt8.toNat)) :
    (convert 93 9 v).run Tryz.prog W = .ok (.string ⟨l.toArray⟩) W := by
  rcases h.2 with ⟨rfl, h0⟩ | ⟨g, cap, cur, rfl, hb, hg, hn, hm, hs, ht⟩
  · have : l = [] := by simpa using h0
    subst this
    rw [run_convert_bytes_string W _ _ 5 none 0 0 Tryz.underlying93 Tryz.underlying5 Tryz.underlying9]
    rfl
  · have hl : (l.map UInt8.toNat).length = l.length := by simp
    rw [hl]
    refine run_convert_bytes_back W _ _ 5 ⟨g, 0, none⟩ cap l Tryz.underlying93 Tryz.underlying5 Tryz.underlying9 (fun j hj => ?_)
    exact World.ownsRow.cells h rfl j _ (by simp [List.getElem?_eq_getElem hj])
theorem ownB_bytes {w : World} {B : Nat} {v : Value} {l : List Nat} (h : OwnB w B v l) : ∃ oa cap, v = .slice oa l.length cap ∧ BytesN w oa l ∧ ∀ a, oa = some a → B ≤ a.block ∧ a.block < w.heap.size := by
  rcases h.2 with ⟨rfl, h0⟩ | ⟨g, cap, cur, rfl, hb, hg, hn, hm, hs, ht⟩
  · exact ⟨none, 0, by rw [h0], fun i hi => by omega, fun a ha => by cases ha⟩
  · refine ⟨some ⟨g, 0, none⟩, cap, rfl, fun i hi => ⟨_, rfl, ?_⟩, fun a ha => ?_⟩
    · exact World.ownsRow.cells h rfl i _ (by simp [List.getElem?_eq_getElem hi])
    · obtain rfl := Option.some.inj ha
      exact ⟨hb, (Array.getElem?_eq_some_iff.1 hg).1⟩
theorem OwnB.step {w w' : World} {B : Nat} {v : Value} {l : List Nat} (h : OwnB w B v l) (hk : ∀ k, B ≤ k → k < w.heap.size → w'.heap[k]? = w.heap[k]?) : OwnB w' B v l := by
  refine ⟨h.1, h.2.imp id ?_⟩
  rintro ⟨g, cap, cur, h1, h2, h3, h4⟩
  exact ⟨g, cap, cur, h1, h2, (hk g h2 (Array.getElem?_eq_some_iff.1 h3).1).trans h3, h4⟩
def bytesU (s : ByteArray) : List Nat := s.data.toList.map UInt8.toNat
theorem bytesU_len (s : ByteArray) : (bytesU s).length = s.size := by unfold bytesU; rw [List.length_map, Array.length_toList]; rfl
theorem OwnB.mono {w : World} {B B' : Nat} {v : Value} {l : List Nat} (h : OwnB w B v l) (hb : B' ≤ B) : OwnB w B' v l := World.ownsRow.mono h hb
def bsB (bs : List Nat) : ByteArray := ⟨(bs.map UInt8.ofNat).toArray⟩
theorem conv_bytes (W : World) (oa : Option Addr) (n cap : Nat) (bs : List Nat) (hn : bs.length = n) (h : BytesN W oa bs) (hb : ∀ i, i < bs.length → bs.getD i 0 < 256) :
    (convert 93 9 (.slice oa n cap)).run Tryz.prog W = .ok (.string (bsB bs)) W := by
  subst hn
  cases oa with
  | none =>
    have : bs = [] := by
      cases bs with
      | nil => rfl
      | cons x l => obtain ⟨a, ha, _⟩ := h 0 (by simp); cases ha
    subst this
    rw [run_convert_bytes_string W _ _ 5 none _ _ Tryz.underlying93 Tryz.underlying5 Tryz.underlying9]
    rfl
  | some a =>
    have hl : (bs.map UInt8.ofNat).length = bs.length := by simp
    rw [← hl]
    refine run_convert_bytes_back W _ _ 5 a cap (bs.map UInt8.ofNat) Tryz.underlying93 Tryz.underlying5 Tryz.underlying9 (fun j hj => ?_)
    rw [hl] at hj
    obtain ⟨a', ha, hc⟩ := h j hj
    obtain rfl := Option.some.inj ha
    have h2 := hb j hj
    rw [hc]
    rw [List.getD_eq_getElem?_getD, List.getElem?_eq_getElem hj, Option.getD_some] at h2
    simp [List.getD_eq_getElem?_getD, List.getElem?_eq_getElem hj]
    omega
theorem ownB_app {w' : World} {B : Nat} {v : Value} {a b : List Nat} (h : w'.ownsRow B 5 1 v (a.length + b.length) (a.map (fun n : Nat => Value.int .u8 (n : Int)) ++ b.map (fun n : Nat => Value.int .u8 (n : Int)))) : OwnB w' B v (a ++ b) := by
  unfold OwnB
  rw [List.length_append, List.map_append]
  exact h
theorem one_bytes (l : List Nat) : ∀ u ∈ (l.map fun n : Nat => Value.int .u8 (n : Int)), u.oneCell' = true := by
  intro u hu
  obtain ⟨x, _, rfl⟩ := List.mem_map.1 hu
  rfl
theorem len_bytes (l : List Nat) : (l.map fun n : Nat => Value.int .u8 (n : Int)).length = l.length * 1 := by rw [List.length_map, Nat.mul_one]
structure Fld where
  name : ByteArray
  value : ByteArray
  never : Bool
instance : Inhabited Fld := ⟨⟨ByteArray.empty, ByteArray.empty, false⟩⟩
def Fld.val (f : Fld) : Value := .agg #[.string f.name, .string f.value, .bool f.never]
/-- Fields in memory. -/
def FieldsN (W : World) (oa : Option Addr) (L : List Fld) : Prop := ∀ i f, L[i]? = some f → ∃ b o, oa = some ⟨b, o, none⟩ ∧
  W.cell? ⟨b, o + i * 3, none⟩ = some (.string f.name) ∧ W.cell? ⟨b, o + i * 3 + 1, none⟩ = some (.string f.value) ∧ W.cell? ⟨b, o + i * 3 + 2, none⟩ = some (.bool f.never)
theorem FieldsN.below {W W' : World} {oa : Option Addr} {L : List Fld} (h : FieldsN W oa L) (hn : Below W.heap.size W W') : FieldsN W' oa L := by
  intro i f hf
  obtain ⟨b, o, ha, h1, h2, h3⟩ := h i f hf
  have e : W'.heap[b]? = W.heap[b]? := hn.block b (World.block_lt_of_cell? _ _ h1)
  exact ⟨b, o, ha, (cell_eq e).trans h1, (cell_eq e).trans h2, (cell_eq e).trans h3⟩
def lightF (f : Fld) : Bool := decide (f.name.size ≤ 200) && decide (f.value.size ≤ 200)
def light (L : List Fld) : Bool := decide (L.length ≤ 30) && L.all lightF
def Fld.cells (f : Fld) : List Value := [.string f.name, .string f.value, .bool f.never]
def fcells (L : List Fld) : List Value := L.flatMap Fld.cells
theorem fcells_cons (f : Fld) (L : List Fld) : fcells (f :: L) = f.cells ++ fcells L := by simp [fcells]
theorem fcells_append (a b : List Fld) : fcells (a ++ b) = fcells a ++ fcells b := by simp [fcells]
theorem fcells_len (L : List Fld) : (fcells L).length = L.length * 3 := by
  induction L with
  | nil => rfl
  | cons f l ih => rw [fcells_cons, List.length_append, ih, List.length_cons]; simp [Fld.cells]; omega
theorem fcells_one (L : List Fld) : ∀ u ∈ fcells L, u.oneCell' = true := by
  intro u hu
  obtain ⟨f, _, hf⟩ := List.mem_flatMap.1 hu
  simp [Fld.cells] at hf
  rcases hf with rfl | rfl | rfl <;> rfl
theorem fcells_get (L : List Fld) : ∀ (i : Nat) (f : Fld), L[i]? = some f → (fcells L)[i * 3]? = some (.string f.name) ∧ (fcells L)[i * 3 + 1]? = some (.string f.value) ∧ (fcells L)[i * 3 + 2]? = some (.bool f.never) := by
  induction L with
  | nil => intro i f h; simp at h
  | cons g l ih =>
    intro i f h
    cases i with
    | zero => simp at h; subst h; simp [fcells, Fld.cells]
    | succ i =>
      have := ih i f (by simpa using h)
      rw [fcells_cons, show (i + 1) * 3 = i * 3 + 1 + 1 + 1 from by omega]
      simpa [Fld.cells] using this
theorem FieldsN.ofCells {W : World} {L : List Fld} {b o : Nat} (h : ∀ (j : Nat) (u : Value), (fcells L)[j]? = some u → W.cell? ⟨b, o + j, none⟩ = some u) : FieldsN W (some ⟨b, o, none⟩) L := by
  intro i f hf
  obtain ⟨h1, h2, h3⟩ := fcells_get L i f hf
  exact ⟨b, o, rfl, h _ _ h1, h _ _ h2, h _ _ h3⟩
theorem FieldsN.nil (W : World) (oa : Option Addr) : FieldsN W oa [] := fun i f h => by simp at h
theorem FieldsN.none_nil {W : World} {L : List Fld} (h : FieldsN W none L) : L = [] := by
  cases L with
  | nil => rfl
  | cons f l => obtain ⟨b, o, e, _⟩ := h 0 f rfl; cases e
/-- A value that has a row of fields of its own. -/
def OwnF (w : World) (B : Nat) (v : Value) (L : List Fld) : Prop := w.ownsRow B 219 3 v L.length (fcells L)
theorem add_zero (g j : Nat) : ((⟨g, 0, none⟩ : Addr).add j) = ⟨g, j, none⟩ := by unfold Addr.add; split <;> simp_all
theorem OwnF.form {w : World} {B : Nat} {v : Value} {L : List Fld} (h : OwnF w B v L) : ∃ oa cap, v = .slice oa L.length cap ∧ FieldsN w oa L ∧ L.length ≤ cap ∧ cap ≤ maxLen ∧ (∀ a, oa = some a → B ≤ a.block ∧ a.block < w.heap.size) := by
  rcases h.2 with ⟨rfl, h0⟩ | ⟨g, cap, cur, rfl, hb, hg, h1, h2, _⟩
  · have : L = [] := List.length_eq_zero_iff.1 h0
    subst this
    exact ⟨none, 0, rfl, FieldsN.nil _ _, Nat.le_refl _, Nat.zero_le _, fun a e => by cases e⟩
  · refine ⟨_, cap, rfl, FieldsN.ofCells fun j u hu => ?_, h1, h2, fun a e => by cases e; exact ⟨hb, (h.lt g rfl).2⟩⟩
    have := h.cells (g := g) rfl j u hu
    rw [add_zero] at this
    simpa using this
theorem OwnF.step {w w' : World} {B : Nat} {v : Value} {L : List Fld} (h : OwnF w B v L) (hb : Below w.heap.size w w') : OwnF w' B v L := owns_below h hb
theorem OwnF.mono {w : World} {B B' : Nat} {v : Value} {L : List Fld} (h : OwnF w B v L) (hb : B' ≤ B) : OwnF w B' v L := World.ownsRow.mono h hb
theorem field_info : (Tryz.prog.info? 219).map (fun i => (i.zero, i.size, i.bytes)) = some (some (.agg #[.string ⟨#[]⟩, .string ⟨#[]⟩, .bool false]), 3, 40) := by kernel_rfl
def eqF (f g : Fld) : Bool := (f.name.toList == g.name.toList) && ((f.value.toList == g.value.toList) && (f.never == g.never))
def sameL : List Fld → List Fld → Bool
  | [], [] => true
  | f :: l, g :: r => eqF f g && sameL l r
  | _, _ => false
theorem sameL_len : ∀ (a b : List Fld), sameL a b = true → a.length = b.length
  | [], [], _ => rfl
  | f :: l, g :: r, h => by
    simp only [sameL, Bool.and_eq_true] at h
    simp [sameL_len l r h.2]
  | [], g :: r, h => by simp [sameL] at h
  | f :: l, [], h => by simp [sameL] at h
theorem sameL_take : ∀ (a b : List Fld) (k : Nat) (ha : k < a.length) (hb : k < b.length), sameL (a.take (k + 1)) (b.take (k + 1)) = (sameL (a.take k) (b.take k) && eqF a[k] b[k])
  | f :: l, g :: r, 0, _, _ => by simp [sameL]
  | f :: l, g :: r, k + 1, ha, hb => by
    have := sameL_take l r k (by simpa using ha) (by simpa using hb)
    simp only [List.take_succ_cons, sameL, List.getElem_cons_succ] at this ⊢
    rw [this, Bool.and_assoc]
theorem sameL_no : ∀ (a b : List Fld) (k : Nat) (ha : k < a.length) (hb : k < b.length), eqF a[k] b[k] = false → sameL a b = false
  | f :: l, g :: r, 0, _, _, h => by simp only [List.getElem_cons_zero] at h; simp [sameL, h]
  | f :: l, g :: r, k + 1, ha, hb, h => by
    have := sameL_no l r k (by simpa using ha) (by simpa using hb) (by simpa using h)
    simp [sameL, this]
end Go.Proofs.YtdflkikhmngfiaaGreatDoor


/- What response.Check returns: whether an answer's three numbers lie where they may. -/
namespace Go.Proofs.YtdflkikhmngfiaaGreatDoor
open Go.RowKit
set_option linter.unusedVariables false
set_option linter.unusedSimpArgs false

/-- Does a number lie between two others? -/
def inB (n a b : Int) : Bool := decide (a ≤ n ∧ n ≤ b)
theorem inB_yes {n a b : Int} (h1 : a ≤ n) (h2 : n ≤ b) : inB n a b = true := by unfold inB; exact decide_eq_true ⟨h1, h2⟩
theorem inB_no {n a b : Int} (h : ¬ (a ≤ n ∧ n ≤ b)) : inB n a b = false := by unfold inB; exact decide_eq_false h
theorem inB_iff {n a b : Int} : inB n a b = true ↔ a ≤ n ∧ n ≤ b := by unfold inB; exact decide_eq_true_iff
theorem retB {a b : Bool} (h : a = b) : Ending.returned (.bool a) = .returned (.bool b) := by rw [h]

/-- May an answer be? -/
def respOk (s l r : Int) : Bool := inB s 100 599 && inB l 0 999999999 && inB r 0 999999999
def respE (s l r : Int) : Int := if respOk s l r then 0 else 8
theorem respE_yes {s l r : Int} (h1 : inB s 100 599 = true) (h2 : inB l 0 999999999 = true) (h3 : inB r 0 999999999 = true) : respE s l r = 0 := by simp [respE, respOk, h1, h2, h3]
theorem respE_no {s l r : Int} (h : ¬ (inB s 100 599 = true ∧ inB l 0 999999999 = true ∧ inB r 0 999999999 = true)) : respE s l r = 8 := by
  unfold respE
  rw [if_neg]
  simp only [respOk, Bool.and_eq_true]
  rintro ⟨⟨a, b⟩, c⟩
  exact h ⟨a, b, c⟩
theorem retI {a b : Int} (h : a = b) : Ending.returned (.int .i64 a) = .returned (.int .i64 b) := by rw [h]

end Go.Proofs.YtdflkikhmngfiaaGreatDoor

