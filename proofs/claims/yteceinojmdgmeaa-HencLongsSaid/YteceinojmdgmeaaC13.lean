/- FldF · FldU: joined by a program, for a claim has at most 60 files. -/
import Derived.Test.YteceinojmdgmeaaC12
/- A field's place: dyntab.Find. -/
namespace Go.Proofs.Yteceinojmdgmeaa
open Go.RowKit
set_option linter.unusedVariables false
set_option linter.unusedSimpArgs false

/-- The field at the (j + 1)-th place of both tables. -/
def gOf (L : List Fld) (j : Nat) : Fld := if j < 61 then ⟨stN j, stV j, false⟩ else L.getD (j - 61) zeroF
def NamG (g : Nat → Fld) (n : ByteArray) (k m : Nat) : Prop := (m = 0 ∧ ∀ j, j < k → (g j).name ≠ n) ∨ ∃ q, q < k ∧ m = q + 1 ∧ (g q).name = n ∧ ∀ j, j < q → (g j).name ≠ n
def NoExG (g : Nat → Fld) (n v : ByteArray) (k : Nat) : Prop := ∀ j, j < k → ¬ ((g j).name = n ∧ (g j).value = v)
theorem NamG.skip {g : Nat → Fld} {n : ByteArray} {k m : Nat} (h : NamG g n k m) (hk : (g k).name ≠ n) : NamG g n (k + 1) m := by
  rcases h with ⟨h1, h2⟩ | ⟨q, h1, h2, h3, h4⟩
  · exact .inl ⟨h1, fun j hj => by by_cases e : j = k; · subst e; exact hk
                                   · exact h2 j (by omega)⟩
  · exact .inr ⟨q, by omega, h2, h3, h4⟩
theorem NamG.keep {g : Nat → Fld} {n : ByteArray} {k m : Nat} (h : NamG g n k m) (hm : m ≠ 0) : NamG g n (k + 1) m := by
  rcases h with ⟨h1, h2⟩ | ⟨q, h1, h2, h3, h4⟩
  · exact absurd h1 hm
  · exact .inr ⟨q, by omega, h2, h3, h4⟩
theorem NamG.new {g : Nat → Fld} {n : ByteArray} {k m : Nat} (h : NamG g n k m) (hm : m = 0) (hk : (g k).name = n) : NamG g n (k + 1) (k + 1) := by
  rcases h with ⟨h1, h2⟩ | ⟨q, h1, h2, h3, h4⟩
  · exact .inr ⟨k, by omega, rfl, hk, h2⟩
  · omega
theorem NamG.le {g : Nat → Fld} {n : ByteArray} {k m : Nat} (h : NamG g n k m) : m ≤ k := by
  rcases h with ⟨h1, h2⟩ | ⟨q, h1, h2, h3, h4⟩ <;> omega
theorem NoExG.step {g : Nat → Fld} {n v : ByteArray} {k : Nat} (h : NoExG g n v k) (hk : ¬ ((g k).name = n ∧ (g k).value = v)) : NoExG g n v (k + 1) := fun j hj => by
  by_cases e : j = k
  · subst e; exact hk
  · exact h j (by omega)
theorem gOf_st {L : List Fld} {j : Nat} (h : j < 61) : gOf L j = ⟨stN j, stV j, false⟩ := if_pos h
theorem gOf_dyn {L : List Fld} {j : Nat} (h : j < L.length) : gOf L (61 + j) = L[j] := by
  unfold gOf
  rw [if_neg (by omega), show 61 + j - 61 = j from by omega, List.getD_eq_getElem?_getD, List.getElem?_eq_getElem h]
  rfl
theorem Named.toG {L : List Fld} {n : ByteArray} {k m : Nat} (hk : k ≤ 61) (h : Named n k m) : NamG (gOf L) n k m := by
  rcases h with ⟨h1, h2⟩ | ⟨q, h1, h2, h3, h4⟩
  · exact .inl ⟨h1, fun j hj => by rw [gOf_st (by omega)]; exact h2 j hj⟩
  · exact .inr ⟨q, h1, h2, by rw [gOf_st (by omega)]; exact h3, fun j hj => by rw [gOf_st (by omega)]; exact h4 j hj⟩
theorem NoExact.toG {L : List Fld} {n v : ByteArray} {k : Nat} (hk : k ≤ 61) (h : NoExact n v k) : NoExG (gOf L) n v k := fun j hj => by rw [gOf_st (by omega)]; exact h j hj
/-- What is found in both tables. -/
def DFound (L : List Fld) (n v : ByteArray) (p : Nat) (x : Bool) : Prop :=
  (x = true ∧ ∃ k, k < 61 + L.length ∧ p = k + 1 ∧ (gOf L k).name = n ∧ (gOf L k).value = v ∧ NoExG (gOf L) n v k) ∨ (x = false ∧ NoExG (gOf L) n v (61 + L.length) ∧ NamG (gOf L) n (61 + L.length) p)
def DFindPost (L : List Fld) (n v : ByteArray) (w : World) (e : Ending) (w' : World) : Prop :=
  ∃ (p : Nat) (x : Bool), DFound L n v p x ∧ e = .returned (.tuple #[.int .i64 (p : Int), .bool x]) ∧ Below w.heap.size w w'
set_option maxRecDepth 100000 in
set_option maxHeartbeats 2000000 in
theorem dFind_any (mx : Int) (oa : Option Addr) (nn cap : Nat) (L : List Fld) (hn : L.length = nn) (hn100 : nn ≤ 1000) (n v : ByteArray) (w : World) (hf : FieldsN w oa L) :
    Calls Try.prog 29 #[.agg #[.int .i64 mx, .slice oa nn cap], .string n, .string v] w (DFindPost L n v w) := by
  have HN := Lib.hid hn
  have HF := Lib.hid hf
  clear hn hf
  go_enter Try.func29, Try.ntmps29
  go_wp2_with fail
  refine (sfind_any n v _).mono ?_
  rintro e w1 ⟨p0, x0, hsf, rfl, hb⟩
  have HC1 := Lib.hid (hb.cell (p := ⟨w.heap.size, 1, none⟩) (by simp))
  have HB1 := Lib.hid (((Below.refl _ _).alloc (Nat.le_refl _) _).trans (hb.mono (by simp)))
  clear hb
  rcases hsf with ⟨rfl, k, hk, rfl, h1, h2, h3⟩ | ⟨rfl, h1, h2⟩
  · have HP := Lib.hid (show DFound L n v (k + 1) true from .inl ⟨rfl, k, by omega, rfl, by rw [gOf_st hk]; exact h1, by rw [gOf_st hk]; exact h2, h3.toG (by omega)⟩)
    clear h1 h2 h3
    go_wp2_with fail
    refine bodyPost_ret (v := .tuple #[.int .i64 ((k + 1 : Nat) : Int), .bool true]) (by simp [results, Try.results29, go_sem]) rfl ⟨k + 1, true, HP.out, rfl, HB1.out⟩
  · have HNE := Lib.hid (NoExact.toG (L := L) (Nat.le_refl _) h1)
    have HNM := Lib.hid (Named.toG (L := L) (Nat.le_refl _) h2)
    clear h1 h2
    have hc1 : w1.cell? ⟨w.heap.size, 1, none⟩ = some (.slice oa nn cap) := by rw [HC1.out]; simp
    go_wp2_with fail
    go_loopw [8, 24] (fun nm i wr => ∃ k m : Nat, k ≤ nn ∧ i = .int .i64 k ∧ nm = .int .i64 m ∧ NoExG (gOf L) n v (61 + k) ∧ NamG (gOf L) n (61 + k) m ∧ Below w.heap.size w wr) (fun _ i _ => nn - (intOf i).toNat)
    case atStart => exact ⟨0, p0, by omega, rfl, rfl, HNE.out, HNM.out, HB1.out⟩
    case round =>
      clear HNE HNM
      obtain ⟨k, m, hk, rfl, rfl, hne, hnm, bk⟩ := hrel
      have HNE := Lib.hid hne
      have HNM := Lib.hid hnm
      have HB := Lib.hid bk
      have hm := hnm.le
      clear hne hnm bk
      by_cases hlt : k < nn
      · have hki : (k : Int) < (nn : Int) := by omega
        have hkL : k < L.length := by rw [HN.out]; exact hlt
        obtain ⟨b, o, rfl, g1, g2, g3⟩ := (HF.out.below HB.out) k L[k] (List.getElem?_eq_getElem hkL)
        have BK := Lib.hid (HB.out.alloc HB.out.size (.cells #[.string L[k].name, .string L[k].value, .bool L[k].never] 25))
        have HG := Lib.hid (gOf_dyn (L := L) hkL)
        have hw62 : IntKind.i64.wrap (62 + (k : Int)) = ((62 + k : Nat) : Int) := by rw [show 62 + (k : Int) = ((62 + k : Nat) : Int) from by simp]; exact IntWalk.i64_in _ (by omega)
        generalize L[k] = f at g1 g2 g3 HG BK
        obtain ⟨nm, vl, nv⟩ := f
        simp only at g1 g2 g3
        by_cases hn : nm = n
        · have hn1 := toList_eq hn
          have HNE1 := Lib.hid (show (gOf L (61 + k)).name = n from by rw [HG.out]; exact hn)
          by_cases hv : vl = v
          · have hv1 := toList_eq hv
            have HP := Lib.hid (show DFound L n v (62 + k) true from .inl ⟨rfl, 61 + k, by omega, by omega, HNE1.out, by rw [HG.out]; exact hv, HNE.out⟩)
            clear hn hv
            go_wp2_with fail
            refine bodyPost_ret (v := .tuple #[.int .i64 ((62 + k : Nat) : Int), .bool true]) (by simp [results, Try.results29, go_sem]) rfl ⟨62 + k, true, HP.out, rfl, BK.out⟩
          · have hv1 := toList_ne hv
            have HNE2 := Lib.hid (HNE.out.step (fun h => hv (by have := h.2; rw [HG.out] at this; exact this)))
            clear hn hv
            by_cases hm0 : m = 0
            · have HNM2 := Lib.hid (HNM.out.new hm0 HNE1.out)
              subst hm0
              go_wp2_with fail
              go_roundw
              case rel => exact ⟨k + 1, 62 + k, by omega, by go_num, rfl, HNE2.out, by have := HNM2.out; rw [show 61 + k + 1 = 62 + k from by omega] at this; rw [show 61 + (k + 1) = 62 + k from by omega]; exact this, BK.out⟩
              case measure => simp [intOf]; try omega
            · have HNM2 := Lib.hid (HNM.out.keep hm0)
              have hmi : ((m : Int) == 0) = false := by simp; omega
              clear hm0
              go_wp2_with fail
              go_roundw
              case rel => exact ⟨k + 1, m, by omega, by go_num, rfl, HNE2.out, HNM2.out, BK.out⟩
              case measure => simp [intOf]; try omega
        · have hn1 := toList_ne hn
          have HNE2 := Lib.hid (HNE.out.step (fun h => hn (by have := h.1; rw [HG.out] at this; exact this)))
          have HNM2 := Lib.hid (HNM.out.skip (fun h => hn (by rw [HG.out] at h; exact h)))
          clear hn
          go_wp2_with fail
          go_roundw
          case rel => exact ⟨k + 1, m, by omega, by go_num, rfl, HNE2.out, HNM2.out, BK.out⟩
          case measure => simp [intOf]; try omega
      · obtain rfl : k = nn := by omega
        go_wp2_with fail
        refine bodyPost_ret (v := .tuple #[.int .i64 (m : Int), .bool false]) (by simp [results, Try.results29, go_sem]) rfl ⟨m, false, .inr ⟨rfl, by rw [HN.out]; exact HNE.out, by rw [HN.out]; exact HNM.out⟩, rfl, HB.out⟩
end Go.Proofs.Yteceinojmdgmeaa


/- What the document's Sum and Size return. -/
namespace Go.Proofs.Yteceinojmdgmeaa
open Go.RowKit
set_option linter.unusedVariables false
set_option linter.unusedSimpArgs false

set_option maxRecDepth 100000 in
set_option maxHeartbeats 1000000 in
theorem sum_any (oa : Option Addr) (n cap : Nat) (L : List Fld) (hn : L.length = n) (hl : ∀ f ∈ L, lightF f = true) (hn30 : n ≤ 1000) (w : World) (hf : FieldsN w oa L) :
    Calls Try.prog 25 #[.slice oa n cap] w fun e w' => e = .returned (.int .i64 (sumF L : Nat)) ∧ Below w.heap.size w w' := by
  have HN := Lib.hid hn
  have HF := Lib.hid hf
  have HL := Lib.hid hl
  clear hn hf hl
  go_enter Try.func25, Try.ntmps25
  go_wp2_with fail
  go_loopw [3, 4] (fun s i wr => ∃ k : Nat, k ≤ n ∧ i = .int .i64 k ∧ s = .int .i64 (sumF (L.take k) : Nat) ∧ Below w.heap.size w wr) (fun _ i _ => n - (intOf i).toNat)
  case atStart => exact ⟨0, Nat.zero_le _, rfl, rfl, Below.refl _ _⟩
  case round =>
    obtain ⟨k, hk, rfl, rfl, bk⟩ := hrel
    have BK := Lib.hid bk
    clear bk
    by_cases hlt : k < n
    · have hki : (k : Int) < (n : Int) := by omega
      have hkL : k < L.length := by rw [HN.out]; exact hlt
      have hsl := sumF_le L k HL.out
      have HT := Lib.hid (sumF_take L k hkL)
      have hlf := HL.out L[k] (List.getElem_mem hkL)
      obtain ⟨b, o, rfl, h1, h2, h3⟩ := (HF.out.below BK.out) k L[k] (List.getElem?_eq_getElem hkL)
      generalize L[k] = f at h1 h2 h3 HT hlf
      obtain ⟨nm, vl, nv⟩ := f
      simp only [Fld.sz, lightF, Bool.and_eq_true, decide_eq_true_eq] at h1 h2 h3 HT hlf
      generalize sumF (L.take k) = S at hsl HT ⊢
      go_wp2_with fail
      refine (refField_size nm vl nv (by omega) (by omega) _).mono ?_
      rintro e w5 ⟨rfl, hb⟩
      have B5 := Lib.hid (BK.out.trans (hb.mono BK.out.size))
      clear hb
      have hw : IntKind.i64.wrap ((S : Int) + ((nm.size : Int) + (vl.size : Int) + 32)) = ((S + (nm.size + vl.size + 32) : Nat) : Int) := by
        rw [show (S : Int) + ((nm.size : Int) + (vl.size : Int) + 32) = ((S + (nm.size + vl.size + 32) : Nat) : Int) from by simp]
        exact IntWalk.i64_in _ (by omega)
      go_wp2_with fail
      go_roundw
      case rel => exact ⟨k + 1, by omega, by go_num, by rw [HT.out]; simp, B5.out⟩
      case measure => simp [intOf]; omega
    · obtain rfl : k = n := by omega
      rw [List.take_of_length_le (by rw [HN.out]; exact Nat.le_refl _)]
      go_wp2_with fail
      go_ret
      exact ⟨rfl, BK.out⟩
set_option maxRecDepth 100000 in
theorem refSize_tab (m : Int) (oa : Option Addr) (n cap : Nat) (L : List Fld) (hn : L.length = n) (hl : ∀ f ∈ L, lightF f = true) (hn30 : n ≤ 1000) (w : World) (hf : FieldsN w oa L) :
    Calls Try.prog 72 #[.agg #[.int .i64 m, .slice oa n cap]] w fun e w' => e = .returned (.int .i64 (sumF L : Nat)) ∧ Below w.heap.size w w' := by
  have HS := Lib.hid (fun W hW => sum_any oa n cap L hn hl hn30 W hW)
  have HF := Lib.hid hf
  clear hn hf hl
  go_enter Try.func72, Try.ntmps72
  go_wp2_with fail
  refine (HS.out _ (HF.out.below ((Below.refl _ _).alloc (Nat.le_refl _) _))).mono ?_
  rintro e w1 ⟨rfl, hb⟩
  have HB := Lib.hid (((Below.refl w.heap.size w).alloc (Nat.le_refl _) _).trans (hb.mono (by simp)))
  clear hb
  go_wp2_with fail
  go_ret
  exact ⟨rfl, HB.out⟩
end Go.Proofs.Yteceinojmdgmeaa

