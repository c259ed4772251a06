/- Fields in memory; whether they are light; what a table counts. -/
import Derived.Test.YtmnaljnkgaebkaaStatC
namespace Go.Proofs.Ytmnaljnkgaebkaa
open Go.RowKit
set_option linter.unusedVariables false
set_option linter.unusedSimpArgs false

structure Fld where
  name : ByteArray
  value : ByteArray
  never : Bool
instance : Inhabited Fld := ⟨⟨ByteArray.empty, ByteArray.empty, false⟩⟩
def Fld.val (f : Fld) : Value := .agg #[.string f.name, .string f.value, .bool f.never]
/-- Fields in memory. -/
def FieldsN (W : World) (oa : Option Addr) (L : List Fld) : Prop := ∀ i f, L[i]? = some f → ∃ b o, oa = some ⟨b, o, none⟩ ∧
  W.cell? ⟨b, o + i * 3, none⟩ = some (.string f.name) ∧ W.cell? ⟨b, o + i * 3 + 1, none⟩ = some (.string f.value) ∧ W.cell? ⟨b, o + i * 3 + 2, none⟩ = some (.bool f.never)
theorem FieldsN.below {W W' : World} {oa : Option Addr} {L : List Fld} (h : FieldsN W oa L) (hn : Below W.heap.size W W') : FieldsN W' oa L := by
  intro i f hf
  obtain ⟨b, o, ha, h1, h2, h3⟩ := h i f hf
  have e : W'.heap[b]? = W.heap[b]? := hn.block b (World.block_lt_of_cell? _ _ h1)
  exact ⟨b, o, ha, (cell_eq0 e).trans h1, (cell_eq0 e).trans h2, (cell_eq0 e).trans h3⟩
def lightF (f : Fld) : Bool := decide (f.name.size ≤ 200) && decide (f.value.size ≤ 200)
def light (L : List Fld) : Bool := decide (L.length ≤ 30) && L.all lightF
set_option maxRecDepth 100000 in
set_option maxHeartbeats 1000000 in
theorem light_any (oa : Option Addr) (n cap : Nat) (L : List Fld) (hn : L.length = n) (w : World) (hf : FieldsN w oa L) :
    Calls Try.prog 25 #[.slice oa n cap] w fun e w' => e = .returned (.bool (light L)) ∧ w' = w := by
  have HN := Lib.hid hn
  have HF := Lib.hid hf
  clear hn hf
  by_cases h30 : n ≤ 30
  · have h30i : (n : Int) ≤ 30 := by omega
    go_enter Try.func25, Try.ntmps25
    go_wp2_with fail
    go_loopw [3] (fun i wr => ∃ k : Nat, k ≤ n ∧ i = .int .i64 k ∧ (L.take k).all lightF = true ∧ wr = w) (fun i _ => n - (intOf i).toNat)
    case atStart => exact ⟨0, Nat.zero_le _, rfl, by simp, rfl⟩
    case round =>
      obtain ⟨k, hk, rfl, hall, rfl⟩ := hrel
      have HA := Lib.hid hall
      clear hall
      by_cases hlt : k < n
      · have hki : (k : Int) < (n : Int) := by omega
        have hkL : k < L.length := by rw [HN.out]; exact hlt
        obtain ⟨b, o, rfl, h1, h2, h3⟩ := HF.out k L[k] (List.getElem?_eq_getElem hkL)
        have HT := Lib.hid (show (L.take (k + 1)).all lightF = lightF L[k] from by
          rw [List.take_succ_eq_append_getElem hkL, List.all_append, HA.out]; simp)
        have HNO := Lib.hid (show lightF L[k] = false → light L = false from fun h => by
          unfold light
          rw [Bool.and_eq_false_iff]
          right
          rw [List.all_eq_false]
          exact ⟨L[k], List.getElem_mem hkL, by simp [h]⟩)
        generalize L[k] = f at h1 h2 h3 HT HNO
        obtain ⟨nm, vl, nv⟩ := f
        simp only at h1 h2 h3
        by_cases hs1 : nm.size ≤ 200
        · have hs1i : decide ((200 : Int) < ((nm.size : Nat) : Int)) = false := by simp; omega
          by_cases hs2 : vl.size ≤ 200
          · have hs2i : decide ((200 : Int) < ((vl.size : Nat) : Int)) = false := by simp; omega
            have HL := Lib.hid (show lightF ⟨nm, vl, nv⟩ = true from by simp [lightF, hs1, hs2])
            clear h3
            go_wp2_with fail
            go_roundw
            case rel => exact ⟨k + 1, by omega, by go_num, by rw [HT.out, HL.out], by trivial⟩
            case measure => simp [intOf]; omega
          · have hs2i : decide ((200 : Int) < ((vl.size : Nat) : Int)) = true := by simp; omega
            have HL := Lib.hid (HNO.out (show lightF ⟨nm, vl, nv⟩ = false from by simp [lightF, hs2]))
            clear h3
            go_wp2_with fail
            refine bodyPost_ret (v := .bool false) (by simp [results, Try.results25, go_sem]) rfl ⟨by rw [HL.out], rfl⟩
        · have hs1i : decide ((200 : Int) < ((nm.size : Nat) : Int)) = true := by simp; omega
          have HL := Lib.hid (HNO.out (show lightF ⟨nm, vl, nv⟩ = false from by simp [lightF, hs1]))
          clear h3
          go_wp2_with fail
          refine bodyPost_ret (v := .bool false) (by simp [results, Try.results25, go_sem]) rfl ⟨by rw [HL.out], rfl⟩
      · obtain rfl : k = n := by omega
        have HL := Lib.hid (show light L = true from by
          unfold light
          rw [Bool.and_eq_true]
          have := HA.out
          rw [List.take_of_length_le (by rw [HN.out]; exact Nat.le_refl _)] at this
          exact ⟨by simpa using (by rw [HN.out]; exact h30 : L.length ≤ 30), this⟩)
        go_wp2_with fail
        refine bodyPost_ret (v := .bool true) (by simp [results, Try.results25, go_sem]) rfl ⟨by rw [HL.out], rfl⟩
  · have h30i : (30 : Int) < (n : Int) := by omega
    have HL := Lib.hid (show light L = false from by
      unfold light
      rw [Bool.and_eq_false_iff]
      left
      simp only [decide_eq_false_iff_not]
      rw [HN.out]; exact h30)
    go_enter Try.func25, Try.ntmps25
    go_wp2_with fail
    refine bodyPost_ret (v := .bool false) (by simp [results, Try.results25, go_sem]) rfl ⟨by rw [HL.out], rfl⟩
end Go.Proofs.Ytmnaljnkgaebkaa
