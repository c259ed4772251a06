/- The document's texts: footmanref05.Text. -/
import Derived.Test.YtmnaljnkgaebkaaDocB
import Derived.Test.YtmnaljnkgaebkaaRepB
import Derived.Test.YtmnaljnkgaebkaaRefG
namespace Go.Proofs.Ytmnaljnkgaebkaa
open Go.RowKit
set_option linter.unusedVariables false
set_option linter.unusedSimpArgs false

theorem putN_len_fg (f g k n : Nat) : (putN f k n).length = (putN g k n).length := by unfold putN; split <;> simp
set_option maxRecDepth 100000 in
set_option maxHeartbeats 2000000 in
theorem refText_any (s : ByteArray) (hs : s.size ≤ 1000) (w : World) : Calls Try.prog 48 #[.string s] w (TextPost s w) := by
  obtain ⟨i0, hi0, hz0, hz1, hz2⟩ := info_parts u8_info
  have HI := Lib.hid hi0
  have HZ0 := Lib.hid hz0
  have HZ1 := Lib.hid hz1
  have HZ2 := Lib.hid hz2
  clear hi0 hz0 hz1 hz2
  have hz := sizeL_small s (by omega)
  have HSZ := Lib.hid (fun W => refSize_any s (by omega) W)
  have HEN := Lib.hid (show ∀ W, Calls Try.prog 18 #[.string s] W fun e w' => ∃ v, e = .returned v ∧ OwnB w' W.heap.size v (encL s.data.toList) ∧ Below W.heap.size W w' from fun W => refEncode_any s hs W)
  have HPA := Lib.hid (show ∀ W, Calls Try.prog 78 #[.int .u8 128, .int .i64 7, .int .i64 ((sizeL s.data.toList : Nat) : Int)] W (PutPost 128 7 (sizeL s.data.toList) W) from fun W => refPut_any 128 7 _ (by omega) (by unfold K4; decide) (by omega) W)
  have HPB := Lib.hid (show ∀ W, Calls Try.prog 78 #[.int .u8 0, .int .i64 7, .int .i64 (s.size : Int)] W (PutPost 0 7 s.size W) from fun W => refPut_any 0 7 _ (by omega) (by unfold K4; decide) (by omega) W)
  have hlb := putN_len 0 7 s.size (by omega)
  have hlc := putN_len 128 7 (sizeL s.data.toList) (by omega)
  have HEL := Lib.hid (encL_len s.data.toList)
  have HZE := Lib.hid (show (putN 128 7 (sizeL s.data.toList)).length + sizeL s.data.toList < (putN 0 7 s.size).length + s.size → 0 < sizeL s.data.toList from fun h => by
    rcases Nat.eq_zero_or_pos (sizeL s.data.toList) with h0 | h0
    · rw [putN_len_fg 128 0, h0, sizeL_zero s h0] at h; omega
    · exact h0)
  have HTX := Lib.hid (show textN s = if (putN 128 7 (sizeL s.data.toList)).length + sizeL s.data.toList < (putN 0 7 s.size).length + s.size then putN 128 7 (sizeL s.data.toList) ++ encL s.data.toList else putN 0 7 s.size ++ bytesU s from by rw [putN_len_fg 128 0]; rfl)
  have HLB := Lib.hid hlb
  have HLC := Lib.hid hlc
  unfold PutPost at HPA HPB
  generalize sizeL s.data.toList = z at *
  generalize encL s.data.toList = en at HEN HEL HTX
  generalize putN 128 7 z = PA at *
  generalize putN 0 7 s.size = PB at *
  generalize hp1 : PA.length = p1 at *
  generalize hp2 : PB.length = p2 at *
  have hw1 : IntKind.i64.wrap ((p1 : Int) + (z : Int)) = (p1 : Int) + (z : Int) := IntWalk.i64_in _ (by omega)
  clear hlb hlc
  have hp1l := HLC.out.2
  have hp2l := HLB.out.2
  have HP1 := Lib.hid hp1
  have HP2 := Lib.hid hp2
  clear hp1 hp2
  go_enter Try.func48, Try.ntmps48
  go_wp2_with fail
  refine (HPB.out _).mono ?_
  rintro e w1 ⟨v1, rfl, ho, hb⟩
  have HB1 := Lib.hid hb
  have HO1 := Lib.hid ho
  clear hb ho
  have HC2 := Lib.hid (show PB.length + s.size ≤ maxLen from by rw [HP2.out]; unfold maxLen; omega)
  have HC3 := Lib.hid (show PB.length + s.size ≤ 140737488355328 from by rw [HP2.out]; omega)
  go_wp2_with (at_builtin; go_loud (refine Lib.wpList_append_own_string _ rfl _ _ 28 9 rfl w.heap.size 5 i0 Try.underlying28 Try.underlying9 HI.out HZ0.out HZ1.out HZ2.out v1 _ _ rfl HO1.out s rfl HC2.out HC3.out HB1.out.size ?_); intro v2 w2 hown2 hg2 _)
  have B2 := Lib.hid (HB1.out.grown hg2 HB1.out.size (fun q hq => (World.ownsRow.lt HO1.out q hq).1))
  have HO2 := Lib.hid (show OwnB w2 w.heap.size v2 (PB ++ bytesU s) from by
    unfold OwnB
    rw [List.length_append, List.map_append, bytesU_len, ← strCells_eq]
    exact hown2)
  clear hg2 hown2
  obtain ⟨oa2, cap2, hv2, _⟩ := ownB_bytes HO2.out
  rw [List.length_append, bytesU_len, HP2.out] at hv2
  subst hv2
  refine (HSZ.out _).mono ?_
  rintro e w3 ⟨rfl, hw⟩
  subst hw
  go_wp2_with fail
  refine (HPA.out _).mono ?_
  rintro e w4 ⟨v4, rfl, ho, hb⟩
  have HO4 := Lib.hid (OwnB.mono ho B2.out.size)
  have HB4 := Lib.hid (B2.out.trans (hb.mono B2.out.size))
  have HO2b := Lib.hid (OwnB.step HO2.out (fun k _ hl => hb.block k hl))
  obtain ⟨oa4, cap4, hv4, _⟩ := ownB_bytes ho
  rw [HP1.out] at hv4
  subst hv4
  clear hb ho
  go_wp2_with fail
  refine (HSZ.out _).mono ?_
  rintro e w5 ⟨rfl, hw⟩
  subst hw
  by_cases hlt : p1 + z < p2 + s.size
  · have hb : decide ((p2 : Int) + (s.size : Int) ≤ (p1 : Int) + (z : Int)) = false := decide_eq_false (by omega)
    have hb2 : ¬ ((p2 : Int) + (s.size : Int) ≤ (p1 : Int) + (z : Int)) := by omega
    have HE := Lib.hid (HTX.out.trans (if_pos hlt))
    have hzp := HZE.out hlt
    go_wp2_with fail
    refine (HEN.out _).mono ?_
    rintro e w6 ⟨v6, rfl, ho, hb⟩
    have HO6 := Lib.hid (owns_below HO4.out hb)
    have HB6 := Lib.hid (HB4.out.trans (hb.mono HB4.out.size))
    have hel : 0 < en.length := by rw [HEL.out]; exact hzp
    obtain ⟨ge, ce, hv6, _, _⟩ := World.ownsRow.form ho hel
    subst hv6
    have HCE := Lib.hid (World.ownsRow.cells ho rfl)
    have HNL := Lib.hid (show (en.map fun n : Nat => Value.int .u8 (n : Int)).length = en.length * 1 from by rw [List.length_map, Nat.mul_one])
    have hone : ∀ u ∈ (en.map fun n : Nat => Value.int .u8 (n : Int)), u.oneCell' = true := by
      intro u hu
      obtain ⟨x, _, rfl⟩ := List.mem_map.1 hu
      rfl
    have HONE := Lib.hid hone
    have hen : en.length ≤ 20000 := by rw [HEL.out]; omega
    have HC5 := Lib.hid (show PA.length + en.length ≤ maxLen from by rw [HP1.out]; unfold maxLen; omega)
    have HC6 := Lib.hid (show (PA.length + en.length) * 1 ≤ 140737488355328 from by rw [HP1.out]; omega)
    have HO6' := Lib.hid (show World.ownsRow w6 w.heap.size 5 1 _ PA.length _ from HO6.out)
    rw [HP1.out] at HC5 HC6 HO6'
    clear hb ho hone hen hel
    go_wp2_with (at_builtin; refine wpList_append_own_at _ rfl _ _ 28 rfl w.heap.size 5 i0 _ 1 1 Try.underlying28 HI.out HZ0.out HZ1.out HZ2.out rfl (by omega) _ _ _ rfl HO6'.out ⟨ge, 0, none⟩ en.length ce (en.map fun n : Nat => Value.int .u8 (n : Int)) rfl HNL.out HCE.out HONE.out HC5.out HC6.out HB6.out.size ?_; intro v7 w7 hown7 hg7 _ _)
    have B7 := Lib.hid (HB6.out.grown hg7 HB6.out.size (fun q hq => (World.ownsRow.lt HO6.out q hq).1))
    have HO7 := Lib.hid (show OwnB w7 w.heap.size v7 (textN s) from by
      rw [HE.out]
      unfold OwnB
      rw [List.length_append, List.map_append, HP1.out]
      exact hown7)
    clear hg7 hown7
    go_wp2_with fail
    go_ret
    exact ⟨_, rfl, HO7.out, B7.out⟩
  · have hb : decide ((p2 : Int) + (s.size : Int) ≤ (p1 : Int) + (z : Int)) = true := decide_eq_true (by omega)
    have hb2 : (p2 : Int) + (s.size : Int) ≤ (p1 : Int) + (z : Int) := by omega
    have HE := Lib.hid (HTX.out.trans (if_neg hlt))
    go_wp2_with fail
    go_ret
    exact ⟨_, rfl, by rw [HE.out]; exact HO2b.out, HB4.out⟩
#print axioms refText_any
end Go.Proofs.Ytmnaljnkgaebkaa
