/- A path is cleaned: query.Clean. -/
import Derived.Test.YtbpcknjobbjmpaaDoorQryH
namespace Go.Proofs.YtbpcknjobbjmpaaDoor
open Go.RowKit
set_option linter.unusedVariables false
set_option linter.unusedSimpArgs false

def dotB (p : ByteArray) : Bool := p.toList == [46]
def ddotB (p : ByteArray) : Bool := p.toList == [46, 46]
/-- Parts that are kept, behind parts. -/
def cleanA : List ByteArray → List ByteArray → List ByteArray
  | acc, [] => acc
  | acc, p :: ps => if p.size = 0 then cleanA acc ps else if dotB p = true then cleanA acc ps else if ddotB p = true then cleanA (upL acc) ps else cleanA (acc ++ [p]) ps
def restS (h : ByteArray) : ByteArray := strL (Lib.trimPrefix h.data.toList [47])
def begS (h : ByteArray) : Bool := Lib.hasPrefix h.data.toList [47]
def keptS (h : ByteArray) : List ByteArray := cleanA [] (partsS (restS h) 47)
def cleanT (s : ByteArray) : ByteArray :=
  if begS (cutS s 63).1 = false then s
  else if (cutS s 63).2.2 = false then ⟨#[47]⟩ ++ joinS (keptS (cutS s 63).1) 47
  else ⟨#[47]⟩ ++ joinS (keptS (cutS s 63).1) 47 ++ (⟨#[63]⟩ ++ (cutS s 63).2.1)
theorem restS_le (h : ByteArray) : (restS h).size ≤ h.size := by
  unfold restS
  rw [strL_size, sz]
  unfold Lib.trimPrefix
  split
  · rw [List.length_drop]; omega
  · exact Nat.le_refl _
theorem upL_len (L : List ByteArray) : (upL L).length ≤ L.length := by unfold upL; rw [List.length_take]; omega
theorem upL_mem {L : List ByteArray} {M : Nat} (h : ∀ x ∈ L, x.size ≤ M) : ∀ x ∈ upL L, x.size ≤ M := fun x hx => h x (List.mem_of_mem_take hx)
set_option maxRecDepth 100000 in
set_option maxHeartbeats 20000000 in
theorem clean_any (s : ByteArray) (hs : s.size ≤ 100000) (w : World) (hM : MaxC w) : Calls Tryd.prog 30 #[.string s] w fun e w' => e = .returned (.string (cleanT s)) ∧ Below w.heap.size w w' := by
  have HM := Lib.hid hM
  have CS := Lib.hid (split_any s (by omega) w hM)
  generalize hT : cleanT s = T
  unfold cleanT at hT
  have HT := Lib.hid hT.symm
  clear hT hM
  have hcl := cutS_le s 63
  generalize cutS s 63 = q at *
  obtain ⟨hd, bh, is⟩ := q
  simp only at CS HT hcl
  have CP := Lib.hid (fun W => Tryd.strings_CutPrefix hd ⟨#[47]⟩ W)
  have e47 : (ByteArray.mk #[47]).data.toList = [47] := rfl
  rw [e47] at CP
  change Hid (∀ W, Calls Tryd.prog 52 #[.string hd, .string ⟨#[47]⟩] W fun e w' => e = .returned (.tuple #[.string (restS hd), .bool (begS hd)]) ∧ w' = W) at CP
  by_cases hb : begS hd = false
  · rw [hb] at CP
    have HT2 := Lib.hid (HT.out.trans (if_pos hb))
    go_enter Tryd.func30, Tryd.ntmps30
    go_wp2_with (first
      | (go_at_call 31; refine CS.out.mono ?_; rintro e w1 ⟨rfl, hb1⟩; have HB1 := Lib.hid hb1; clear hb1)
      | (go_at_call 52; refine (CP.out _).mono ?_; rintro e w2 ⟨rfl, hw⟩; obtain rfl := hw.symm))
    go_ret
    exact ⟨by rw [HT2.out]; rfl, HB1.out⟩
  have hb' : begS hd = true := by simpa using hb
  rw [hb'] at CP
  have HT1 := Lib.hid (HT.out.trans (if_neg hb))
  have hrl := restS_le hd
  have hpl := partsS_len (restS hd) 47
  have hpc := partsS_count (restS hd) 47
  have hple := partsS_le (restS hd) 47
  have CSP := Lib.hid (show ∀ W, MaxC W → Calls Tryd.prog 53 #[.string (restS hd), .string ⟨#[47]⟩] W fun e w' => e = .returned (.slice (some ⟨W.heap.size, 0, none⟩) (partsS (restS hd) 47).length (partsS (restS hd) 47).length) ∧ w' = W.alloc (.cells ((partsS (restS hd) 47).map Value.string).toArray 9) from fun W ⟨m, hm⟩ => by
    have := Tryd.strings_Split (restS hd) ⟨#[47]⟩ m W (by omega) hm (Nat.le_refl 1)
    rw [hpl]
    exact this)
  have HK := Lib.hid (show cleanA [] (partsS (restS hd) 47) = keptS hd from rfl)
  clear hpl HT
  generalize partsS (restS hd) 47 = P at *
  generalize restS hd = rs at *
  generalize keptS hd = K at *
  have HPL := Lib.hid hple
  clear hple hb hb'
  generalize hnP : P.length = n at *
  have HNP := Lib.hid hnP
  clear hnP
  obtain ⟨i0, hi0, hz0, hz1, hz2⟩ := info_parts string_info
  have HI := Lib.hid hi0
  have HZ0 := Lib.hid hz0
  have HZ1 := Lib.hid hz1
  have HZ2 := Lib.hid hz2
  clear hi0 hz0 hz1 hz2
  go_enter Tryd.func30, Tryd.ntmps30
  go_wp2_with (first
    | (go_at_call 31; refine CS.out.mono ?_; rintro e w1 ⟨rfl, hb1⟩; have HB1 := Lib.hid hb1; clear hb1)
    | (go_at_call 52; refine (CP.out _).mono ?_; rintro e w2 ⟨rfl, hw⟩; obtain rfl := hw.symm)
    | (go_at_call 53; refine (CSP.out _ (HM.out.below HB1.out)).mono ?_; rintro e w3 ⟨rfl, rfl⟩))
  have HRW := Lib.hid (heap_alloc_new w1 (.cells (P.map Value.string).toArray 9))
  have HB0 := Lib.hid (HB1.out.alloc HB1.out.size (.cells (P.map Value.string).toArray 9))
  have hlt0 : w1.heap.size < (w1.alloc (.cells (P.map Value.string).toArray 9)).heap.size := by simp
  generalize hw1s : w1.heap.size = g1 at HRW hlt0 ⊢
  generalize w1.alloc (.cells (P.map Value.string).toArray 9) = w2 at HRW HB0 hlt0 ⊢
  clear CSP CP CS
  go_loopw [8, 29] (fun ov ii wr => ∃ (k : Nat) (acc : List ByteArray) (vv : Value), ov = vv ∧ ii = .int .i64 k ∧ k ≤ n ∧ acc.length ≤ k ∧ (∀ x ∈ acc, x.size ≤ 100000) ∧ cleanA acc (P.drop k) = K ∧ OwnS wr w2.heap.size vv acc ∧ Below w2.heap.size w2 wr) (fun _ ii _ => n - (intOf ii).toNat)
  case atStart => exact ⟨0, [], _, rfl, rfl, by omega, by simp, by simp, HK.out, OwnS.nil _ _, Below.refl _ _⟩
  case round =>
    obtain ⟨k, acc, v, hv, rfl, hk, hak, hsm, hdec, hown, hb⟩ := hrel
    obtain rfl := hv.symm
    have HO := Lib.hid hown
    have HB := Lib.hid hb
    have HD := Lib.hid hdec
    have HSM := Lib.hid hsm
    clear hown hb hv hdec HK hsm
    by_cases hlt : k < n
    · have q4 : decide ((k : Int) < (n : Int)) = true := decide_eq_true (by omega)
      have q5 : (k : Int) < (n : Int) := by omega
      have hw5 : IntKind.i64.wrap ((k : Int) + 1) = (k : Int) + 1 := IntWalk.i64_in _ (by omega)
      obtain ⟨p, hpk⟩ : ∃ p, P[k]? = some p := ⟨P[k]'(by rw [HNP.out]; exact hlt), List.getElem?_eq_getElem _⟩
      have hps := HPL.out p (List.mem_of_getElem? hpk)
      have hcell := (cell_of_row wr g1 k _ _ _ ((HB.out.block g1 hlt0).trans HRW.out)).trans (show ((P.map Value.string).toArray)[k]? = some (.string p) from by simp [hpk])
      rw [drop_cons' hpk] at HD
      by_cases hz : p.size = 0
      · have hse := size0 hz
        have HD2 := Lib.hid (show cleanA acc (P.drop (k + 1)) = K from by have := HD.out; rw [cleanA, if_pos hz] at this; exact this)
        clear HD
        go_wp2_with fail
        refine ⟨⟨k + 1, acc, v, rfl, rfl, hlt, by omega, HSM.out, HD2.out, HO.out, HB.out⟩, ?_⟩
        simp [intOf]
        omega
      have hse := sizeN hz
      by_cases hd1 : (p.toList == [46]) = true
      · have HD2 := Lib.hid (show cleanA acc (P.drop (k + 1)) = K from by have := HD.out; rw [cleanA, if_neg hz, if_pos (show dotB p = true from hd1)] at this; exact this)
        clear HD
        go_wp2_with fail
        refine ⟨⟨k + 1, acc, v, rfl, rfl, hlt, by omega, HSM.out, HD2.out, HO.out, HB.out⟩, ?_⟩
        simp [intOf]
        omega
      have hd1' : (p.toList == [46]) = false := by simpa using hd1
      by_cases hd2 : (p.toList == [46, 46]) = true
      · have HD2 := Lib.hid (show cleanA (upL acc) (P.drop (k + 1)) = K from by have := HD.out; rw [cleanA, if_neg hz, if_neg (show ¬ dotB p = true from hd1), if_pos (show ddotB p = true from hd2)] at this; exact this)
        clear HD
        go_wp2_with (first
          | (go_at_call 54; refine (up_any _ w2.heap.size v acc (by omega) HO.out).mono ?_; rintro e w6 ⟨v6, rfl, hO6, hw⟩; obtain rfl := hw.symm; have HO6 := Lib.hid hO6; clear hO6))
        refine ⟨⟨k + 1, upL acc, v6, rfl, rfl, hlt, by have := upL_len acc; omega, upL_mem HSM.out, HD2.out, HO6.out, HB.out⟩, ?_⟩
        simp [intOf]
        omega
      have hd2' : (p.toList == [46, 46]) = false := by simpa using hd2
      have HD2 := Lib.hid (show cleanA (acc ++ [p]) (P.drop (k + 1)) = K from by have := HD.out; rw [cleanA, if_neg hz, if_neg (show ¬ dotB p = true from hd1), if_neg (show ¬ ddotB p = true from hd2)] at this; exact this)
      clear HD
      have hc1 : ∀ u ∈ [Value.string p], u.oneCell' = true := by intro u hu; simp at hu; subst hu; rfl
      have hc2 : acc.length + 1 ≤ maxLen := by unfold maxLen; omega
      have hc3 : (acc.length + 1) * 16 ≤ 140737488355328 := by omega
      have HSZ := HB.out.size
      go_wp2_with (at_builtin; refine wpList_append_own_at _ rfl _ _ 47 rfl w2.heap.size 9 i0 _ 1 16 Tryd.underlying47 HI.out HZ0.out HZ1.out HZ2.out rfl (by omega) v _ _ rfl (World.ownsRow.alloc HO.out _) ⟨wr.heap.size, 0, none⟩ 1 1 [Value.string p] rfl rfl (cells_new wr [Value.string p] _) hc1 hc2 hc3 (by simp; omega) ?_; intro v3 w4 hown3 hg3 _ _; clear hc1 hc2 hc3)
      have B4 := Lib.hid ((HB.out.alloc HB.out.size _).grown hg3 (by have := HB.out.size; simp; omega) (fun q hq => (World.ownsRow.lt HO.out q hq).1))
      have HO4 := Lib.hid (OwnS.snoc hown3)
      clear hg3 hown3
      refine ⟨⟨k + 1, acc ++ [p], _, rfl, rfl, hlt, by rw [List.length_append]; simp; omega, fun x hx => ?_, HD2.out, HO4.out, B4.out⟩, ?_⟩
      · rcases List.mem_append.1 hx with h | h
        · exact HSM.out x h
        · simp at h; subst h; omega
      · simp [intOf]
        omega
    · have q4 : decide ((k : Int) < (n : Int)) = false := decide_eq_false (by omega)
      have HE := Lib.hid (show K = acc from by have := HD.out; rw [List.drop_eq_nil_of_le (by rw [HNP.out]; omega)] at this; exact this.symm)
      have hjs := join_size acc 47 100000 HSM.out
      have hj2 : (joinS acc 47).size ≤ 100001 * 110000 := Nat.le_trans hjs (Nat.mul_le_mul_left _ (by omega))
      have CJ := Lib.hid (join_any 47 wr w2.heap.size v acc HO.out (by omega) (by omega))
      rw [HE.out] at HT1
      generalize joinS acc 47 = J at *
      have HB2 := Lib.hid (HB0.out.trans (HB.out.mono HB0.out.size))
      have hl2 := hcl.2
      have e1 : (ByteArray.mk #[47]).size = 1 := rfl
      have e2 : (ByteArray.mk #[63]).size = 1 := rfl
      have f1 : ¬ (9223372036854775807 < (⟨#[47]⟩ : ByteArray).size + J.size) := by omega
      have f1' : ¬ (9223372036854775807 < 1 + J.size) := by omega
      have f2 : ¬ (9223372036854775807 < (⟨#[63]⟩ : ByteArray).size + bh.size) := by omega
      have f2' : ¬ (9223372036854775807 < 1 + bh.size) := by omega
      have f3 : ¬ (9223372036854775807 < ((⟨#[47]⟩ : ByteArray) ++ J).size + ((⟨#[63]⟩ : ByteArray) ++ bh).size) := by rw [ByteArray.size_append, ByteArray.size_append]; omega
      have f3' : ¬ (9223372036854775807 < 1 + J.size + (1 + bh.size)) := by omega
      by_cases his : is = false
      · subst his
        have HT2 := Lib.hid (HT1.out.trans (if_pos rfl))
        go_wp2_with (first
          | (go_at_call 55; refine CJ.out.mono ?_; rintro e w6 ⟨rfl, hb6⟩; have HB6 := Lib.hid hb6; clear hb6))
        go_ret
        exact ⟨by rw [HT2.out]; rfl, HB2.out.trans (HB6.out.mono HB2.out.size)⟩
      · have his' : is = true := by simpa using his
        subst his'
        have HT2 := Lib.hid (HT1.out.trans (if_neg (by simp)))
        go_wp2_with (first
          | (go_at_call 55; refine CJ.out.mono ?_; rintro e w6 ⟨rfl, hb6⟩; have HB6 := Lib.hid hb6; clear hb6))
        go_ret
        exact ⟨by rw [HT2.out]; rfl, HB2.out.trans (HB6.out.mono HB2.out.size)⟩
#print axioms clean_any
end Go.Proofs.YtbpcknjobbjmpaaDoor
