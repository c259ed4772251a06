/- FldF · FldU · FldC: joined by a program, for a claim has at most 60 files. -/
import Derived.Test.YteceinojmdgmeaaC20
import Derived.Test.YteceinojmdgmeaaC02
/- A field's place: dyntab.Find. -/
namespace Go.Proofs.Yteceinojmdgmeaa
open Go.RowKit
set_option linter.unusedVariables false
set_option linter.unusedSimpArgs false

/-- The field at the (j + 1)-th place of both tables. -/
def gOf (L : List Fld) (j : Nat) : Fld := if j < 61 then ⟨stN j, stV j, false⟩ else L.getD (j - 61) zeroF
def NamG (g : Nat → Fld) (n : ByteArray) (k m : Nat) : Prop := (m = 0 ∧ ∀ j, j < k → (g j).name ≠ n) ∨ ∃ q, q < k ∧ m = q + 1 ∧ (g q).name = n ∧ ∀ j, j < q → (g j).name ≠ n
def NoExG (g : Nat → Fld) (n v : ByteArray) (k : Nat) : Prop := ∀ j, j < k → ¬ ((g j).name = n ∧ (g j).value = v)
theorem NamG.skip {g : Nat → Fld} {n : ByteArray} {k m : Nat} (h : NamG g n k m) (hk : (g k).name ≠ n) : NamG g n (k + 1) m := by
  rcases h with ⟨h1, h2⟩ | ⟨q, h1, h2, h3, h4⟩
  · exact .inl ⟨h1, fun j hj => by by_cases e : j = k; · subst e; exact hk
                                   · exact h2 j (by omega)⟩
  · exact .inr ⟨q, by omega, h2, h3, h4⟩
theorem NamG.keep {g : Nat → Fld} {n : ByteArray} {k m : Nat} (h : NamG g n k m) (hm : m ≠ 0) : NamG g n (k + 1) m := by
  rcases h with ⟨h1, h2⟩ | ⟨q, h1, h2, h3, h4⟩
  · exact absurd h1 hm
  · exact .inr ⟨q, by omega, h2, h3, h4⟩
theorem NamG.new {g : Nat → Fld} {n : ByteArray} {k m : Nat} (h : NamG g n k m) (hm : m = 0) (hk : (g k).name = n) : NamG g n (k + 1) (k + 1) := by
  rcases h with ⟨h1, h2⟩ | ⟨q, h1, h2, h3, h4⟩
  · exact .inr ⟨k, by omega, rfl, hk, h2⟩
  · omega
theorem NamG.le {g : Nat → Fld} {n : ByteArray} {k m : Nat} (h : NamG g n k m) : m ≤ k := by
  rcases h with ⟨h1, h2⟩ | ⟨q, h1, h2, h3, h4⟩ <;> omega
theorem NoExG.step {g : Nat → Fld} {n v : ByteArray} {k : Nat} (h : NoExG g n v k) (hk : ¬ ((g k).name = n ∧ (g k).value = v)) : NoExG g n v (k + 1) := fun j hj => by
  by_cases e : j = k
  · subst e; exact hk
  · exact h j (by omega)
theorem gOf_st {L : List Fld} {j : Nat} (h : j < 61) : gOf L j = ⟨stN j, stV j, false⟩ := if_pos h
theorem gOf_dyn {L : List Fld} {j : Nat} (h : j < L.length) : gOf L (61 + j) = L[j] := by
  unfold gOf
  rw [if_neg (by omega), show 61 + j - 61 = j from by omega, List.getD_eq_getElem?_getD, List.getElem?_eq_getElem h]
  rfl
theorem Named.toG {L : List Fld} {n : ByteArray} {k m : Nat} (hk : k ≤ 61) (h : Named n k m) : NamG (gOf L) n k m := by
  rcases h with ⟨h1, h2⟩ | ⟨q, h1, h2, h3, h4⟩
  · exact .inl ⟨h1, fun j hj => by rw [gOf_st (by omega)]; exact h2 j hj⟩
  · exact .inr ⟨q, h1, h2, by rw [gOf_st (by omega)]; exact h3, fun j hj => by rw [gOf_st (by omega)]; exact h4 j hj⟩
theorem NoExact.toG {L : List Fld} {n v : ByteArray} {k : Nat} (hk : k ≤ 61) (h : NoExact n v k) : NoExG (gOf L) n v k := fun j hj => by rw [gOf_st (by omega)]; exact h j hj
/-- What is found in both tables. -/
def DFound (L : List Fld) (n v : ByteArray) (p : Nat) (x : Bool) : Prop :=
  (x = true ∧ ∃ k, k < 61 + L.length ∧ p = k + 1 ∧ (gOf L k).name = n ∧ (gOf L k).value = v ∧ NoExG (gOf L) n v k) ∨ (x = false ∧ NoExG (gOf L) n v (61 + L.length) ∧ NamG (gOf L) n (61 + L.length) p)
def DFindPost (L : List Fld) (n v : ByteArray) (w : World) (e : Ending) (w' : World) : Prop :=
  ∃ (p : Nat) (x : Bool), DFound L n v p x ∧ e = .returned (.tuple #[.int .i64 (p : Int), .bool x]) ∧ Below w.heap.size w w'
set_option maxRecDepth 100000 in
set_option maxHeartbeats 2000000 in
theorem dFind_any (mx : Int) (oa : Option Addr) (nn cap : Nat) (L : List Fld) (hn : L.length = nn) (hn100 : nn ≤ 1000) (n v : ByteArray) (w : World) (hf : FieldsN w oa L) :
    Calls Try.prog 29 #[.agg #[.int .i64 mx, .slice oa nn cap], .string n, .string v] w (DFindPost L n v w) := by
  have HN := Lib.hid hn
  have HF := Lib.hid hf
  clear hn hf
  go_enter Try.func29, Try.ntmps29
  go_wp2_with fail
  refine (sfind_any n v _).mono ?_
  rintro e w1 ⟨p0, x0, hsf, rfl, hb⟩
  have HC1 := Lib.hid (hb.cell (p := ⟨w.heap.size, 1, none⟩) (by simp))
  have HB1 := Lib.hid (((Below.refl _ _).alloc (Nat.le_refl _) _).trans (hb.mono (by simp)))
  clear hb
  rcases hsf with ⟨rfl, k, hk, rfl, h1, h2, h3⟩ | ⟨rfl, h1, h2⟩
  · have HP := Lib.hid (show DFound L n v (k + 1) true from .inl ⟨rfl, k, by omega, rfl, by rw [gOf_st hk]; exact h1, by rw [gOf_st hk]; exact h2, h3.toG (by omega)⟩)
    clear h1 h2 h3
    go_wp2_with fail
    refine bodyPost_ret (v := .tuple #[.int .i64 ((k + 1 : Nat) : Int), .bool true]) (by simp [results, Try.results29, go_sem]) rfl ⟨k + 1, true, HP.out, rfl, HB1.out⟩
  · have HNE := Lib.hid (NoExact.toG (L := L) (Nat.le_refl _) h1)
    have HNM := Lib.hid (Named.toG (L := L) (Nat.le_refl _) h2)
    clear h1 h2
    have hc1 : w1.cell? ⟨w.heap.size, 1, none⟩ = some (.slice oa nn cap) := by rw [HC1.out]; simp
    go_wp2_with fail
    go_loopw [8, 24] (fun nm i wr => ∃ k m : Nat, k ≤ nn ∧ i = .int .i64 k ∧ nm = .int .i64 m ∧ NoExG (gOf L) n v (61 + k) ∧ NamG (gOf L) n (61 + k) m ∧ Below w.heap.size w wr) (fun _ i _ => nn - (intOf i).toNat)
    case atStart => exact ⟨0, p0, by omega, rfl, rfl, HNE.out, HNM.out, HB1.out⟩
    case round =>
      clear HNE HNM
      obtain ⟨k, m, hk, rfl, rfl, hne, hnm, bk⟩ := hrel
      have HNE := Lib.hid hne
      have HNM := Lib.hid hnm
      have HB := Lib.hid bk
      have hm := hnm.le
      clear hne hnm bk
      by_cases hlt : k < nn
      · have hki : (k : Int) < (nn : Int) := by omega
        have hkL : k < L.length := by rw [HN.out]; exact hlt
        obtain ⟨b, o, rfl, g1, g2, g3⟩ := (HF.out.below HB.out) k L[k] (List.getElem?_eq_getElem hkL)
        have BK := Lib.hid (HB.out.alloc HB.out.size (.cells #[.string L[k].name, .string L[k].value, .bool L[k].never] 25))
        have HG := Lib.hid (gOf_dyn (L := L) hkL)
        have hw62 : IntKind.i64.wrap (62 + (k : Int)) = ((62 + k : Nat) : Int) := by rw [show 62 + (k : Int) = ((62 + k : Nat) : Int) from by simp]; exact IntWalk.i64_in _ (by omega)
        generalize L[k] = f at g1 g2 g3 HG BK
        obtain ⟨nm, vl, nv⟩ := f
        simp only at g1 g2 g3
        by_cases hn : nm = n
        · have hn1 := toList_eq hn
          have HNE1 := Lib.hid (show (gOf L (61 + k)).name = n from by rw [HG.out]; exact hn)
          by_cases hv : vl = v
          · have hv1 := toList_eq hv
            have HP := Lib.hid (show DFound L n v (62 + k) true from .inl ⟨rfl, 61 + k, by omega, by omega, HNE1.out, by rw [HG.out]; exact hv, HNE.out⟩)
            clear hn hv
            go_wp2_with fail
            refine bodyPost_ret (v := .tuple #[.int .i64 ((62 + k : Nat) : Int), .bool true]) (by simp [results, Try.results29, go_sem]) rfl ⟨62 + k, true, HP.out, rfl, BK.out⟩
          · have hv1 := toList_ne hv
            have HNE2 := Lib.hid (HNE.out.step (fun h => hv (by have := h.2; rw [HG.out] at this; exact this)))
            clear hn hv
            by_cases hm0 : m = 0
            · have HNM2 := Lib.hid (HNM.out.new hm0 HNE1.out)
              subst hm0
              go_wp2_with fail
              go_roundw
              case rel => exact ⟨k + 1, 62 + k, by omega, by go_num, rfl, HNE2.out, by have := HNM2.out; rw [show 61 + k + 1 = 62 + k from by omega] at this; rw [show 61 + (k + 1) = 62 + k from by omega]; exact this, BK.out⟩
              case measure => simp [intOf]; try omega
            · have HNM2 := Lib.hid (HNM.out.keep hm0)
              have hmi : ((m : Int) == 0) = false := by simp; omega
              clear hm0
              go_wp2_with fail
              go_roundw
              case rel => exact ⟨k + 1, m, by omega, by go_num, rfl, HNE2.out, HNM2.out, BK.out⟩
              case measure => simp [intOf]; try omega
        · have hn1 := toList_ne hn
          have HNE2 := Lib.hid (HNE.out.step (fun h => hn (by have := h.1; rw [HG.out] at this; exact this)))
          have HNM2 := Lib.hid (HNM.out.skip (fun h => hn (by rw [HG.out] at h; exact h)))
          clear hn
          go_wp2_with fail
          go_roundw
          case rel => exact ⟨k + 1, m, by omega, by go_num, rfl, HNE2.out, HNM2.out, BK.out⟩
          case measure => simp [intOf]; try omega
      · obtain rfl : k = nn := by omega
        go_wp2_with fail
        refine bodyPost_ret (v := .tuple #[.int .i64 (m : Int), .bool false]) (by simp [results, Try.results29, go_sem]) rfl ⟨m, false, .inr ⟨rfl, by rw [HN.out]; exact HNE.out, by rw [HN.out]; exact HNM.out⟩, rfl, HB.out⟩
end Go.Proofs.Yteceinojmdgmeaa


/- What the document's Sum and Size return. -/
namespace Go.Proofs.Yteceinojmdgmeaa
open Go.RowKit
set_option linter.unusedVariables false
set_option linter.unusedSimpArgs false

set_option maxRecDepth 100000 in
set_option maxHeartbeats 1000000 in
theorem sum_any (oa : Option Addr) (n cap : Nat) (L : List Fld) (hn : L.length = n) (hl : ∀ f ∈ L, lightF f = true) (hn30 : n ≤ 1000) (w : World) (hf : FieldsN w oa L) :
    Calls Try.prog 25 #[.slice oa n cap] w fun e w' => e = .returned (.int .i64 (sumF L : Nat)) ∧ Below w.heap.size w w' := by
  have HN := Lib.hid hn
  have HF := Lib.hid hf
  have HL := Lib.hid hl
  clear hn hf hl
  go_enter Try.func25, Try.ntmps25
  go_wp2_with fail
  go_loopw [3, 4] (fun s i wr => ∃ k : Nat, k ≤ n ∧ i = .int .i64 k ∧ s = .int .i64 (sumF (L.take k) : Nat) ∧ Below w.heap.size w wr) (fun _ i _ => n - (intOf i).toNat)
  case atStart => exact ⟨0, Nat.zero_le _, rfl, rfl, Below.refl _ _⟩
  case round =>
    obtain ⟨k, hk, rfl, rfl, bk⟩ := hrel
    have BK := Lib.hid bk
    clear bk
    by_cases hlt : k < n
    · have hki : (k : Int) < (n : Int) := by omega
      have hkL : k < L.length := by rw [HN.out]; exact hlt
      have hsl := sumF_le L k HL.out
      have HT := Lib.hid (sumF_take L k hkL)
      have hlf := HL.out L[k] (List.getElem_mem hkL)
      obtain ⟨b, o, rfl, h1, h2, h3⟩ := (HF.out.below BK.out) k L[k] (List.getElem?_eq_getElem hkL)
      generalize L[k] = f at h1 h2 h3 HT hlf
      obtain ⟨nm, vl, nv⟩ := f
      simp only [Fld.sz, lightF, Bool.and_eq_true, decide_eq_true_eq] at h1 h2 h3 HT hlf
      generalize sumF (L.take k) = S at hsl HT ⊢
      go_wp2_with fail
      refine (refField_size nm vl nv (by omega) (by omega) _).mono ?_
      rintro e w5 ⟨rfl, hb⟩
      have B5 := Lib.hid (BK.out.trans (hb.mono BK.out.size))
      clear hb
      have hw : IntKind.i64.wrap ((S : Int) + ((nm.size : Int) + (vl.size : Int) + 32)) = ((S + (nm.size + vl.size + 32) : Nat) : Int) := by
        rw [show (S : Int) + ((nm.size : Int) + (vl.size : Int) + 32) = ((S + (nm.size + vl.size + 32) : Nat) : Int) from by simp]
        exact IntWalk.i64_in _ (by omega)
      go_wp2_with fail
      go_roundw
      case rel => exact ⟨k + 1, by omega, by go_num, by rw [HT.out]; simp, B5.out⟩
      case measure => simp [intOf]; omega
    · obtain rfl : k = n := by omega
      rw [List.take_of_length_le (by rw [HN.out]; exact Nat.le_refl _)]
      go_wp2_with fail
      go_ret
      exact ⟨rfl, BK.out⟩
set_option maxRecDepth 100000 in
theorem refSize_tab (m : Int) (oa : Option Addr) (n cap : Nat) (L : List Fld) (hn : L.length = n) (hl : ∀ f ∈ L, lightF f = true) (hn30 : n ≤ 1000) (w : World) (hf : FieldsN w oa L) :
    Calls Try.prog 72 #[.agg #[.int .i64 m, .slice oa n cap]] w fun e w' => e = .returned (.int .i64 (sumF L : Nat)) ∧ Below w.heap.size w w' := by
  have HS := Lib.hid (fun W hW => sum_any oa n cap L hn hl hn30 W hW)
  have HF := Lib.hid hf
  clear hn hf hl
  go_enter Try.func72, Try.ntmps72
  go_wp2_with fail
  refine (HS.out _ (HF.out.below ((Below.refl _ _).alloc (Nat.le_refl _) _))).mono ?_
  rintro e w1 ⟨rfl, hb⟩
  have HB := Lib.hid (((Below.refl w.heap.size w).alloc (Nat.le_refl _) _).trans (hb.mono (by simp)))
  clear hb
  go_wp2_with fail
  go_ret
  exact ⟨rfl, HB.out⟩
end Go.Proofs.Yteceinojmdgmeaa


/- Whether a table may be: the document's Check. -/
namespace Go.Proofs.Yteceinojmdgmeaa
open Go.RowKit
set_option linter.unusedVariables false
set_option linter.unusedSimpArgs false

/-- A table's block, its fields, and what has not turned. -/
structure TabAt (ty : TypeId) (q B : Nat) (m : Int) (oa : Option Addr) (n cap : Nat) (L : List Fld) (w W : World) : Prop where
  row : W.heap[q]? = some (.cells #[.int .i64 m, .slice oa n cap] ty (0, 0))
  flds : FieldsN W oa L
  below : Below B w W
  base : B ≤ W.heap.size
  lt : q < W.heap.size
theorem TabAt.step {ty : TypeId} {q B : Nat} {m : Int} {oa : Option Addr} {n cap : Nat} {L : List Fld} {w W W' : World} (hb : Below W.heap.size W W') (h : TabAt ty q B m oa n cap L w W) : TabAt ty q B m oa n cap L w W' :=
  ⟨(hb.block q h.lt).trans h.row, h.flds.below hb, h.below.trans (hb.mono h.base), Nat.le_trans h.base hb.size, Nat.lt_of_lt_of_le h.lt hb.size⟩
theorem TabAt.drew {ty : TypeId} {q B : Nat} {m : Int} {oa : Option Addr} {n cap : Nat} {L : List Fld} {w W : World} (h : TabAt ty q B m oa n cap L w W) : TabAt ty q B m oa n cap L w W.drew := ⟨h.row, h.flds, h.below.drew, h.base, h.lt⟩
theorem TabAt.c0 {ty : TypeId} {q B : Nat} {m : Int} {oa : Option Addr} {n cap : Nat} {L : List Fld} {w W : World} (h : TabAt ty q B m oa n cap L w W) : W.cell? ⟨q, 0, none⟩ = some (.int .i64 m) := cell_of_row _ _ _ _ _ _ h.row
theorem TabAt.c1 {ty : TypeId} {q B : Nat} {m : Int} {oa : Option Addr} {n cap : Nat} {L : List Fld} {w W : World} (h : TabAt ty q B m oa n cap L w W) : W.cell? ⟨q, 1, none⟩ = some (.slice oa n cap) := cell_of_row _ _ _ _ _ _ h.row
/-- The error of a table, by number. -/
def chkN (m : Int) (L : List Fld) : Int :=
  if m < 0 ∨ 4096 < m then 8 else if L.any (·.never) then 4 else if m < (sumF L : Nat) then 5 else 0
set_option maxRecDepth 100000 in
set_option maxHeartbeats 1000000 in
theorem refCheck_any (m : Int) (oa : Option Addr) (n cap : Nat) (L : List Fld) (hn : L.length = n) (hl : ∀ f ∈ L, lightF f = true) (hn30 : n ≤ 1000) (w : World) (hf : FieldsN w oa L) :
    Calls Try.prog 46 #[.agg #[.int .i64 m, .slice oa n cap]] w fun e w' => e = .returned (.int .i64 (chkN m L)) ∧ Below w.heap.size w w' := by
  have HS := Lib.hid (fun W hW => refSize_tab m oa n cap L hn hl hn30 W hW)
  have HN := Lib.hid hn
  have HF := Lib.hid hf
  clear hn hf hl
  by_cases h0 : m < 0
  · have h0b : decide (m < 0) = true := by simpa using h0
    have HC := Lib.hid (show chkN m L = 8 from by unfold chkN; rw [if_pos (.inl h0)])
    clear h0
    go_enter Try.func46, Try.ntmps46
    go_wp2_with fail
    refine bodyPost_ret (v := .int .i64 8) (by simp [results, Try.results46, go_sem]) rfl ⟨by rw [HC.out], (Below.refl _ _).alloc (Nat.le_refl _) _⟩
  · have h0b : decide (m < 0) = false := by simpa using h0
    by_cases h1 : 4096 < m
    · have h1b : decide ((4096 : Int) < m) = true := by simpa using h1
      have HC := Lib.hid (show chkN m L = 8 from by unfold chkN; rw [if_pos (.inr h1)])
      clear h0 h1
      go_enter Try.func46, Try.ntmps46
      go_wp2_with fail
      refine bodyPost_ret (v := .int .i64 8) (by simp [results, Try.results46, go_sem]) rfl ⟨by rw [HC.out], (Below.refl _ _).alloc (Nat.le_refl _) _⟩
    · have h1b : decide ((4096 : Int) < m) = false := by simpa using h1
      have HC := Lib.hid (show chkN m L = if L.any (·.never) then 4 else if m < (sumF L : Nat) then 5 else 0 from by unfold chkN; rw [if_neg (by omega)])
      clear h0 h1
      go_enter Try.func46, Try.ntmps46
      go_wp2_with fail
      have HB0 := Lib.hid ((Below.refl w.heap.size w).alloc (Nat.le_refl _) (.cells #[.int .i64 m, .slice oa n cap] 38))
      have HF1 := Lib.hid (HF.out.below HB0.out)
      have hT : (w.alloc (.cells #[.int .i64 m, .slice oa n cap] 38)).heap[w.heap.size]? = some (.cells #[.int .i64 m, .slice oa n cap] 38 (0, 0)) := heap_alloc_new w _
      have HT := Lib.hid hT
      have hs1 : w.heap.size < (w.alloc (.cells #[.int .i64 m, .slice oa n cap] 38)).heap.size := by simp
      generalize (w.alloc (.cells #[.int .i64 m, .slice oa n cap] 38)) = W at HB0 HF1 hT HT hs1 ⊢
      clear hT
      go_loopw [3] (fun i wr => ∃ k : Nat, k ≤ n ∧ i = .int .i64 k ∧ (L.take k).any (·.never) = false ∧ wr = W) (fun i _ => n - (intOf i).toNat)
      case atStart => exact ⟨0, Nat.zero_le _, rfl, by simp, rfl⟩
      case round =>
        obtain ⟨k, hk, rfl, hany, rfl⟩ := hrel
        have HA := Lib.hid hany
        clear hany
        have c0 : wr.cell? ⟨w.heap.size, 0, none⟩ = some (.int .i64 m) := cell_of_row _ _ _ _ _ _ HT.out
        have c1 : wr.cell? ⟨w.heap.size, 1, none⟩ = some (.slice oa n cap) := cell_of_row _ _ _ _ _ _ HT.out
        by_cases hlt : k < n
        · have hki : (k : Int) < (n : Int) := by omega
          have hkL : k < L.length := by rw [HN.out]; exact hlt
          obtain ⟨b, o, rfl, g1, g2, g3⟩ := HF1.out k L[k] (List.getElem?_eq_getElem hkL)
          have HTK := Lib.hid (show (L.take (k + 1)).any (·.never) = L[k].never from by
            rw [List.take_succ_eq_append_getElem hkL, List.any_append, HA.out]; simp)
          have HIN := Lib.hid (show L[k].never = true → L.any (·.never) = true from fun h => List.any_eq_true.2 ⟨L[k], List.getElem_mem hkL, h⟩)
          generalize L[k] = f at g1 g2 g3 HTK HIN
          obtain ⟨nm, vl, nv⟩ := f
          simp only at g1 g2 g3
          clear g1 g2
          cases nv
          · go_wp2_with fail
            go_roundw
            case rel => exact ⟨k + 1, by omega, by go_num, HTK.out, by trivial⟩
            case measure => simp [intOf]; omega
          · have HX := Lib.hid (HIN.out rfl)
            go_wp2_with fail
            refine bodyPost_ret (v := .int .i64 4) (by simp [results, Try.results46, go_sem]) rfl ⟨by rw [HC.out, if_pos HX.out], HB0.out⟩
        · obtain rfl : k = n := by omega
          have HX := Lib.hid (show L.any (·.never) = false from by have := HA.out; rwa [List.take_of_length_le (by rw [HN.out]; exact Nat.le_refl _)] at this)
          go_wp2_with fail
          have hTA : TabAt 38 w.heap.size w.heap.size m oa k cap L w wr := ⟨HT.out, HF1.out, HB0.out, HB0.out.size, hs1⟩
          have HSZ := Lib.hid HS.out
          generalize hqq : w.heap.size = q at hTA
          have HQQ := Lib.hid hqq
          generalize sumF L = S at HC HSZ
          clear c0 c1 HS HF HF1 HT HB0
          by_cases hms : m < (S : Int)
          · have hmsb : decide (m < (S : Int)) = true := by simpa using hms
            have HX2 := Lib.hid (show chkN m L = 5 from by rw [HC.out, HX.out, if_pos hms]; simp)
            clear hms
            refine class_region (C := TabAt 38 q q m oa k cap L w) (by kernel_rfl) (by kernel_rfl) hTA.drew ?_
            iterate 5
              with_reducible refine qrest_step ?_
              intro K hK'
              go_simp
              with_reducible refine QOp.mk ?_
              apply Exists.intro
              with_reducible refine ⟨?_, hK' _ ?_⟩
              · intro W hW
                first
                  | exact qat_load_row 38 (.tmp 1) rfl q rfl _ #[.int .i64 m, .slice oa k cap] (0, 0) _ hW.row Try.underlying38 rfl (by kernel_rfl)
                  | (have c0 := hW.c0
                     unfold QAt
                     go_simp
                     first
                       | (with_reducible rfl)
                       | (go_at_call 72; refine (HSZ.out _ hW.flds).mono ?_; rintro e w' ⟨rfl, hb⟩; exact ⟨rfl, hW.step hb⟩))
              clear hK' K
            with_reducible refine qrest_nil ?_
            intro w' hw'
            go_wp2_with fail
            refine bodyPost_ret (v := .int .i64 5) (by simp [results, Try.results46, go_sem]) rfl ⟨by rw [HX2.out], by rw [HQQ.out]; exact hw'.below⟩
          · have hmsb : decide (m < (S : Int)) = false := by simpa using hms
            have HX2 := Lib.hid (show chkN m L = 0 from by rw [HC.out, HX.out, if_neg hms]; simp)
            clear hms
            refine class_region (C := TabAt 38 q q m oa k cap L w) (by kernel_rfl) (by kernel_rfl) hTA.drew ?_
            iterate 5
              with_reducible refine qrest_step ?_
              intro K hK'
              go_simp
              with_reducible refine QOp.mk ?_
              apply Exists.intro
              with_reducible refine ⟨?_, hK' _ ?_⟩
              · intro W hW
                first
                  | exact qat_load_row 38 (.tmp 1) rfl q rfl _ #[.int .i64 m, .slice oa k cap] (0, 0) _ hW.row Try.underlying38 rfl (by kernel_rfl)
                  | (have c0 := hW.c0
                     unfold QAt
                     go_simp
                     first
                       | (with_reducible rfl)
                       | (go_at_call 72; refine (HSZ.out _ hW.flds).mono ?_; rintro e w' ⟨rfl, hb⟩; exact ⟨rfl, hW.step hb⟩))
              clear hK' K
            with_reducible refine qrest_nil ?_
            intro w' hw'
            go_wp2_with fail
            refine bodyPost_ret (v := .int .i64 0) (by simp [results, Try.results46, go_sem]) rfl ⟨by rw [HX2.out], by rw [HQQ.out]; exact hw'.below⟩
end Go.Proofs.Yteceinojmdgmeaa

