/- repr.Text. -/
import Derived.Test.YteceinojmdgmeaaC25
import Derived.Test.YteceinojmdgmeaaC11
import Derived.Lib.AppendStr
namespace Go.Proofs.Yteceinojmdgmeaa
open Go.RowKit
set_option linter.unusedVariables false
set_option linter.unusedSimpArgs false

def bytesU (s : ByteArray) : List Nat := s.data.toList.map UInt8.toNat
theorem bytesU_len (s : ByteArray) : (bytesU s).length = s.size := by unfold bytesU; rw [List.length_map, Array.length_toList]; rfl
theorem OwnB.mono {w : World} {B B' : Nat} {v : Value} {l : List Nat} (h : OwnB w B v l) (hb : B' ≤ B) : OwnB w B' v l := World.ownsRow.mono h hb
/-- A text's bytes, with its length ahead: by the code where that is shorter. -/
def textN (s : ByteArray) : List Nat :=
  if (putN 0 7 (sizeL s.data.toList)).length + sizeL s.data.toList < (putN 0 7 s.size).length + s.size then putN 128 7 (sizeL s.data.toList) ++ encL s.data.toList else putN 0 7 s.size ++ bytesU s
theorem sizeL_small (s : ByteArray) (h : s.size ≤ 4096) : sizeL s.data.toList ≤ 20000 := by
  have h1 := textBits_len s.data.toList
  have h2 := textBits_le s.data.toList
  have h3 : s.data.toList.length = s.size := by rw [Array.length_toList]; rfl
  unfold sizeL
  omega
theorem sizeL_zero (s : ByteArray) (h : sizeL s.data.toList = 0) : s.size = 0 := by
  have h3 : s.data.toList.length = s.size := by rw [Array.length_toList]; rfl
  have h1 := textBits_len s.data.toList
  unfold sizeL at h
  cases hl : s.data.toList with
  | nil => rw [hl] at h3; simpa using h3.symm
  | cons c l =>
    rw [hl] at h1 h
    have e : textBits (c :: l) = byteBits c ++ textBits l := rfl
    have h2 := (len_range c.toNat c.toNat_lt).1
    rw [e, List.length_append, byteBits_len] at h1
    omega
theorem putN_len (f k n : Nat) (hn : n ≤ 268435455) : 0 < (putN f k n).length ∧ (putN f k n).length ≤ 3000000 := by
  unfold putN
  split
  · simp
  · have := groupsN_len (n - (2 ^ k - 1))
    simp only [List.length_cons]
    omega
theorem strCells_eq (s : ByteArray) : Lib.strCells s = (bytesU s).map (fun n : Nat => Value.int .u8 (n : Int)) := by
  unfold Lib.strCells bytesU
  rw [List.map_map]
  rfl
def TextPost (s : ByteArray) (w : World) (e : Ending) (w' : World) : Prop := ∃ v, e = .returned v ∧ OwnB w' w.heap.size v (textN s) ∧ Below w.heap.size w w'
set_option maxRecDepth 100000 in
set_option maxHeartbeats 2000000 in
theorem text_any (s : ByteArray) (hs : s.size ≤ 4096) (w : World) : Calls Try.prog 52 #[.string s] w (TextPost s w) := by
  obtain ⟨i0, hi0, hz0, hz1, hz2⟩ := info_parts u8_info
  have HI := Lib.hid hi0
  have HZ0 := Lib.hid hz0
  have HZ1 := Lib.hid hz1
  have HZ2 := Lib.hid hz2
  clear hi0 hz0 hz1 hz2
  have hz := sizeL_small s hs
  have HSZ := Lib.hid (fun W => size_any s (by omega) W)
  have HEN := Lib.hid (show ∀ W, Calls Try.prog 78 #[.string s] W fun e w' => ∃ v, e = .returned v ∧ OwnB w' W.heap.size v (encL s.data.toList) ∧ Below W.heap.size W w' from fun W => encode_any s (by omega) W)
  have HP1 := Lib.hid (fun W => psize_any (sizeL s.data.toList) (by omega) W)
  have HP2 := Lib.hid (fun W => psize_any s.size (by omega) W)
  have HPA := Lib.hid (show ∀ W, Calls Try.prog 50 #[.int .u8 128, .int .i64 7, .int .i64 ((sizeL s.data.toList : Nat) : Int)] W (PutPost 128 7 (sizeL s.data.toList) W) from fun W => put_any 128 7 _ (by omega) (by unfold K4; decide) (by omega) W)
  have HPB := Lib.hid (show ∀ W, Calls Try.prog 50 #[.int .u8 0, .int .i64 7, .int .i64 (s.size : Int)] W (PutPost 0 7 s.size W) from fun W => put_any 0 7 _ (by omega) (by unfold K4; decide) (by omega) W)
  have hla := (putN_len 0 7 (sizeL s.data.toList) (by omega)).2
  have hlb := putN_len 0 7 s.size (by omega)
  have hlc := putN_len 128 7 (sizeL s.data.toList) (by omega)
  have HEL := Lib.hid (encL_len s.data.toList)
  have HZE := Lib.hid (show (putN 0 7 (sizeL s.data.toList)).length + sizeL s.data.toList < (putN 0 7 s.size).length + s.size → 0 < sizeL s.data.toList from fun h => by
    rcases Nat.eq_zero_or_pos (sizeL s.data.toList) with h0 | h0
    · rw [h0, sizeL_zero s h0] at h; omega
    · exact h0)
  have HTX := Lib.hid (show textN s = if (putN 0 7 (sizeL s.data.toList)).length + sizeL s.data.toList < (putN 0 7 s.size).length + s.size then putN 128 7 (sizeL s.data.toList) ++ encL s.data.toList else putN 0 7 s.size ++ bytesU s from rfl)
  have HLB := Lib.hid hlb
  have HLC := Lib.hid hlc
  have hlb2 := hlb.2
  generalize sizeL s.data.toList = z at *
  generalize encL s.data.toList = en at HEN HEL HTX
  generalize hp1 : (putN 0 7 z).length = p1 at HP1 hla HTX HZE
  generalize hp2 : (putN 0 7 s.size).length = p2 at HP2 HTX hlb2 HZE
  clear hlb hlc hp1 hp2
  have hw1 : IntKind.i64.wrap ((p1 : Int) + (z : Int)) = (p1 : Int) + (z : Int) := IntWalk.i64_in _ (by omega)
  have hw2 : IntKind.i64.wrap ((p2 : Int) + (s.size : Int)) = (p2 : Int) + (s.size : Int) := IntWalk.i64_in _ (by omega)
  go_enter Try.func52, Try.ntmps52
  go_wp2_with fail
  refine (HSZ.out _).mono ?_
  rintro e w1 ⟨rfl, hb⟩
  have HB1 := Lib.hid hb
  clear hb
  go_wp2_with fail
  refine (HP1.out _).mono ?_
  rintro e w2 ⟨rfl, hb⟩
  have HB2 := Lib.hid (HB1.out.trans (hb.mono HB1.out.size))
  clear hb HB1
  go_wp2_with fail
  refine (HP2.out _).mono ?_
  rintro e w3 ⟨rfl, hb⟩
  have HB3 := Lib.hid (HB2.out.trans (hb.mono HB2.out.size))
  clear hb HB2
  by_cases hlt : p1 + z < p2 + s.size
  · have hb : decide ((p1 : Int) + (z : Int) < (p2 : Int) + (s.size : Int)) = true := decide_eq_true (by omega)
    have hlt2 : (p1 : Int) + (z : Int) < (p2 : Int) + (s.size : Int) := by omega
    have HE := Lib.hid (HTX.out.trans (if_pos hlt))
    have hzp := HZE.out hlt
    go_wp2_with fail
    refine (HPA.out _).mono ?_
    rintro e w4 ⟨v4, rfl, ho, hb⟩
    have HO4 := Lib.hid (OwnB.mono ho HB3.out.size)
    have HB4 := Lib.hid (HB3.out.trans (hb.mono HB3.out.size))
    clear hb ho
    go_wp2_with fail
    refine (HEN.out _).mono ?_
    rintro e w5 ⟨v5, rfl, ho, hb⟩
    have HO5 := Lib.hid (owns_below HO4.out hb)
    have HB5 := Lib.hid (HB4.out.trans (hb.mono HB4.out.size))
    have hel : 0 < en.length := by rw [HEL.out]; exact hzp
    obtain ⟨ge, ce, hv5, _, _⟩ := World.ownsRow.form ho hel
    subst hv5
    have HCE := Lib.hid (World.ownsRow.cells ho rfl)
    have HNL := Lib.hid (show (en.map fun n : Nat => Value.int .u8 (n : Int)).length = en.length * 1 from by rw [List.length_map, Nat.mul_one])
    have hone : ∀ u ∈ (en.map fun n : Nat => Value.int .u8 (n : Int)), u.oneCell' = true := by
      intro u hu
      obtain ⟨x, _, rfl⟩ := List.mem_map.1 hu
      rfl
    have HONE := Lib.hid hone
    have hen : en.length ≤ 20000 := by rw [HEL.out]; omega
    have hl128 := HLC.out.2
    have hc2 : (putN 128 7 z).length + en.length ≤ maxLen := by unfold maxLen; omega
    have hc3 : ((putN 128 7 z).length + en.length) * 1 ≤ 140737488355328 := by omega
    have HC2 := Lib.hid hc2
    have HC3 := Lib.hid hc3
    clear hb ho hone hc2 hc3 hl128 hen hel
    go_wp2_with (at_builtin; refine wpList_append_own_at _ rfl _ _ 23 rfl w.heap.size 5 i0 _ 1 1 Try.underlying23 HI.out HZ0.out HZ1.out HZ2.out rfl (by omega) v4 _ _ rfl HO5.out ⟨ge, 0, none⟩ en.length ce (en.map fun n : Nat => Value.int .u8 (n : Int)) rfl HNL.out HCE.out HONE.out HC2.out HC3.out HB5.out.size ?_; intro v6 w6 hown6 hg6 _ _)
    have B6 := Lib.hid (HB5.out.grown hg6 HB5.out.size (fun q hq => (World.ownsRow.lt HO5.out q hq).1))
    have HO6 := Lib.hid (show OwnB w6 w.heap.size v6 (textN s) from by
      rw [HE.out]
      unfold OwnB
      rw [List.length_append, List.map_append]
      exact hown6)
    clear hg6 hown6
    go_wp2_with fail
    go_ret
    exact ⟨_, rfl, HO6.out, B6.out⟩
  · have hb : decide ((p1 : Int) + (z : Int) < (p2 : Int) + (s.size : Int)) = false := decide_eq_false (by omega)
    have hlt2 : ¬ (p1 : Int) + (z : Int) < (p2 : Int) + (s.size : Int) := by omega
    have HE := Lib.hid (HTX.out.trans (if_neg hlt))
    go_wp2_with fail
    refine (HPB.out _).mono ?_
    rintro e w4 ⟨v4, rfl, ho, hb⟩
    have HO4 := Lib.hid (OwnB.mono ho HB3.out.size)
    have HB4 := Lib.hid (HB3.out.trans (hb.mono HB3.out.size))
    clear hb ho
    have hl7 := HLB.out.2
    have HC2 := Lib.hid (show (putN 0 7 s.size).length + s.size ≤ maxLen from by unfold maxLen; omega)
    have HC3 := Lib.hid (show (putN 0 7 s.size).length + s.size ≤ 140737488355328 from by omega)
    clear hl7
    go_wp2_with (at_builtin; refine Lib.wpList_append_own_string _ rfl _ _ 23 9 rfl w.heap.size 5 i0 Try.underlying23 Try.underlying9 HI.out HZ0.out HZ1.out HZ2.out v4 _ _ rfl HO4.out s rfl HC2.out HC3.out HB4.out.size ?_; intro v6 w6 hown6 hg6 _)
    have B6 := Lib.hid (HB4.out.grown hg6 HB4.out.size (fun q hq => (World.ownsRow.lt HO4.out q hq).1))
    have HO6 := Lib.hid (show OwnB w6 w.heap.size v6 (textN s) from by
      rw [HE.out]
      unfold OwnB
      rw [List.length_append, List.map_append, bytesU_len, ← strCells_eq]
      exact hown6)
    clear hg6 hown6
    go_wp2_with fail
    go_ret
    exact ⟨_, rfl, HO6.out, B6.out⟩
end Go.Proofs.Yteceinojmdgmeaa

