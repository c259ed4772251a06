/- A text is encoded: query.Encode. -/
import Derived.Test.YtbpcknjobbjmpaaDoorQryA
import Derived.Deep.RegionLaw
import Derived.Laws.BitsAllLaws
namespace Go.Proofs.YtbpcknjobbjmpaaDoor
open Go.RowKit
set_option linter.unusedVariables false
set_option linter.unusedSimpArgs false

theorem sz (s : ByteArray) : s.size = s.data.toList.length := by rw [Array.length_toList]; rfl
theorem byte_lt (c : UInt8) : c.toNat < 256 := c.toNat_lt
theorem bytesWorld_below (w : World) (e : TypeId) (s : ByteArray) : Below w.heap.size w (Lib.bytesWorld w e s) :=
  ⟨by unfold Lib.bytesWorld World.freeze; split <;> rfl, by unfold Lib.bytesWorld World.freeze; split <;> rfl, by unfold Lib.bytesWorld World.freeze; split <;> rfl, by rw [Lib.bytesWorld_size]; omega, fun k hk => Lib.bytesWorld_at_old w e s k hk⟩
theorem bytesU_at (s : ByteArray) (k : Nat) (h : k < s.size) : (bytesU s)[k]? = some s[k].toNat := by
  unfold bytesU
  rw [List.getElem?_map]
  have : s.data.toList[k]? = some s[k] := by
    rw [List.getElem?_eq_getElem (by rw [← sz]; exact h)]
    rfl
  rw [this]
  rfl
theorem bytesU_lt (s : ByteArray) : ∀ x ∈ bytesU s, x < 256 := by
  intro x hx
  unfold bytesU at hx
  obtain ⟨u, _, rfl⟩ := List.mem_map.1 hx
  exact u.toNat_lt
theorem bytes_cell (w : World) (e : TypeId) (s : ByteArray) (k : Nat) (h : k < s.size) : (Lib.bytesWorld w e s).cell? ⟨w.heap.size, k, none⟩ = some (.int .u8 ((s[k].toNat : Nat) : Int)) := by
  rw [Lib.bytesWorld_cell w e s k h]
  have : s.data.toList.getD k 0 = s[k] := by
    rw [List.getD_eq_getElem?_getD, List.getElem?_eq_getElem (by rw [← sz]; exact h)]
    rfl
  rw [this]
def hexN (n : Nat) : Nat := (numL.getD n 0).toNat
def enc1 (c : Nat) : List Nat := if itN c then [c] else [37, hexN (c / 16), hexN (c % 16)]
def encL (l : List Nat) : List Nat := l.flatMap enc1
theorem encL_append (a b : List Nat) : encL (a ++ b) = encL a ++ encL b := by simp [encL]
theorem encL_snoc (l : List Nat) (c : Nat) : encL (l ++ [c]) = encL l ++ enc1 c := by rw [encL_append]; simp [encL]
theorem enc1_len (c : Nat) : (enc1 c).length ≤ 3 := by unfold enc1; split <;> simp
theorem encL_len (l : List Nat) : (encL l).length ≤ 3 * l.length := by
  induction l with
  | nil => simp [encL]
  | cons c l ih =>
    have : encL (c :: l) = enc1 c ++ encL l := by simp [encL]
    rw [this, List.length_append, List.length_cons]
    have := enc1_len c
    omega
theorem hex_all : ∀ n : Fin 16, hexN n.val < 256 := by decide
theorem enc1_lt (c : Nat) (h : c < 256) : ∀ x ∈ enc1 c, x < 256 := by
  intro x hx
  unfold enc1 at hx
  split at hx
  · simp at hx; omega
  · simp at hx
    rcases hx with rfl | rfl | rfl
    · omega
    · exact hex_all ⟨c / 16, by omega⟩
    · exact hex_all ⟨c % 16, by omega⟩
theorem encL_lt (l : List Nat) (h : ∀ x ∈ l, x < 256) : ∀ x ∈ encL l, x < 256 := by
  intro x hx
  unfold encL at hx
  obtain ⟨c, hc, hx⟩ := List.mem_flatMap.1 hx
  exact enc1_lt c (h c hc) x hx
theorem ownB_snocs {w : World} {base : Nat} {v : Value} {l m : List Nat} {n : Nat} (hn : m.length = n) (h : w.ownsRow base 5 1 v (l.length + n) (l.map (fun n : Nat => Value.int .u8 (n : Int)) ++ m.map (fun n : Nat => Value.int .u8 (n : Int)))) : OwnB w base v (l ++ m) := by
  subst hn
  exact ownB_app h
def numS : ByteArray := ⟨#[48, 49, 50, 51, 52, 53, 54, 55, 56, 57, 65, 66, 67, 68, 69, 70]⟩
theorem num_at (n : Nat) (h : n < numS.size) : ((numS[n]'h).toNat : Int) = (hexN n : Nat) := by
  have : ∀ k : Fin 16, ((numS[k.val]'(by have := k.isLt; exact this)).toNat : Int) = (hexN k.val : Nat) := by decide
  exact this ⟨n, h⟩
theorem owned_text {w : World} {B : Nat} {v : Value} {l : List Nat} (h : OwnB w B v l) (h256 : ∀ x ∈ l, x < 256) : (convert 105 9 v).run Tryd.prog w = .ok (.string (bsB l)) w := by
  obtain ⟨oa, cap, rfl, hb, _⟩ := ownB_bytes h
  exact conv_bytes w oa _ cap l rfl hb (fun i hi => by
    rw [List.getD_eq_getElem?_getD, List.getElem?_eq_getElem hi]
    exact h256 _ (List.getElem_mem hi))
theorem and15 (c : Nat) (h : c < 256) : bits BinOp.and IntKind.u8 (c : Int) 15 = ((c % 16 : Nat) : Int) := by
  have : ∀ k : Fin 256, bits BinOp.and IntKind.u8 (k.val : Int) 15 = ((k.val % 16 : Nat) : Int) := by decide +kernel
  exact this ⟨c, h⟩
set_option maxRecDepth 100000 in
set_option maxHeartbeats 4000000 in
theorem encode_any (s : ByteArray) (hs : s.size ≤ 1000000) (w : World) : Calls Tryd.prog 28 #[.string s] w fun e w' => e = .returned (.string (bsB (encL (bytesU s)))) ∧ Below w.heap.size w w' := by
  obtain ⟨i0, hi0, hz0, hz1, hz2⟩ := info_parts u8_info
  have HI := Lib.hid hi0
  have HZ0 := Lib.hid hz0
  have HZ1 := Lib.hid hz1
  have HZ2 := Lib.hid hz2
  clear hi0 hz0 hz1 hz2
  have hconv := fun W => Lib.run_convert_string_bytes (P := Tryd.prog) W 9 105 5 s Tryd.underlying9 Tryd.underlying105 Tryd.underlying5
  have HBW := Lib.hid (bytesWorld_below w 5 s)
  have HCL := Lib.hid (fun k h => bytes_cell w 5 s k h)
  have HSZ := Lib.hid (Lib.bytesWorld_size w 5 s)
  go_enter Tryd.func28, Tryd.ntmps28
  go_wp2_with fail
  generalize Lib.bytesWorld w 5 s = w1 at HBW HCL HSZ ⊢
  clear hconv
  go_loopw [3, 9] (fun ov ii wr => ∃ (k : Nat) (vv : Value), ov = vv ∧ ii = .int .i64 k ∧ k ≤ s.size ∧ OwnB wr w1.heap.size vv (encL ((bytesU s).take k)) ∧ Below w1.heap.size w1 wr) (fun _ ii _ => s.size - (intOf ii).toNat)
  case atStart => exact ⟨0, _, rfl, rfl, by omega, World.ownsRow_nil _ _ _ _, Below.refl _ _⟩
  case round =>
    obtain ⟨k, v, hv, rfl, hk, hown, hb⟩ := hrel
    obtain rfl := hv.symm
    have HO := Lib.hid hown
    have HB := Lib.hid hb
    clear hown hb hv
    by_cases hlt : k < s.size
    · have q4 : decide ((k : Int) < (s.size : Int)) = true := decide_eq_true (by omega)
      have q5 : (k : Int) < (s.size : Int) := by omega
      have hw5 : IntKind.i64.wrap ((k : Int) + 1) = (k : Int) + 1 := IntWalk.i64_in _ (by omega)
      have hcell := (cell_eq (a := ⟨w.heap.size, k, none⟩) (HB.out.block w.heap.size (by rw [HSZ.out]; omega))).trans (HCL.out k hlt)
      have hc256 := byte_lt s[k]
      have HST := Lib.hid (show encL ((bytesU s).take (k + 1)) = encL ((bytesU s).take k) ++ enc1 s[k].toNat from by rw [List.take_add_one, bytesU_at s k hlt]; simp [encL_snoc])
      have hln : (encL ((bytesU s).take k)).length ≤ 3 * k := by
        have := encL_len ((bytesU s).take k)
        rw [List.length_take] at this
        omega
      generalize s[k].toNat = c at hcell hc256 HST
      generalize encL ((bytesU s).take k) = E at HO HST hln
      have CI := Lib.hid (itself_any c)
      have HSZ2 := HB.out.size
      by_cases hit : itN c = true
      · have HE1 := Lib.hid (show enc1 c = [c] from if_pos hit)
        have hc1 : ∀ u ∈ [Value.int .u8 (c : Int)], u.oneCell' = true := by intro u hu; simp at hu; subst hu; rfl
        have hc2 : E.length + 1 ≤ maxLen := by unfold maxLen; omega
        have hc3 : (E.length + 1) * 1 ≤ 140737488355328 := by omega
        go_wp2_with (first
          | (go_at_call 50; refine (CI.out _).mono ?_; rintro e w' ⟨rfl, hw⟩; obtain rfl := hw.symm; rw [hit])
          | (at_builtin; refine wpList_append_own_at _ rfl _ _ 105 rfl w1.heap.size 5 i0 _ 1 1 Tryd.underlying105 HI.out HZ0.out HZ1.out HZ2.out rfl (by omega) v _ _ rfl (World.ownsRow.alloc HO.out _) ⟨wr.heap.size, 0, none⟩ 1 1 [Value.int .u8 (c : Int)] rfl rfl (cells_new wr [Value.int .u8 (c : Int)] _) hc1 hc2 hc3 (by simp; omega) ?_; intro v3 w3 hown3 hg3 _ _; clear hc1 hc2 hc3))
        have B3 := Lib.hid ((HB.out.alloc HB.out.size _).grown hg3 (by have := HB.out.size; simp; omega) (fun q hq => (World.ownsRow.lt HO.out q hq).1))
        have HO3 := Lib.hid (ownB_snoc hown3)
        refine ⟨⟨k + 1, _, rfl, rfl, hlt, by rw [HST.out, HE1.out]; exact HO3.out, B3.out⟩, ?_⟩
        simp [intOf]
        omega
      · have hit' : itN c = false := by simpa using hit
        have HE1 := Lib.hid (show enc1 c = [37, hexN (c / 16), hexN (c % 16)] from if_neg hit)
        go_wp2_with (first
          | (go_at_call 50; refine (CI.out _).mono ?_; rintro e w' ⟨rfl, hw⟩; obtain rfl := hw.symm; rw [hit']))
        have hx1 : (c : Int) / 16 = ((c / 16 : Nat) : Int) := rfl
        have hx2 : (c : Int) % 16 = ((c % 16 : Nat) : Int) := rfl
        have hx3 : bits BinOp.and IntKind.u8 (c : Int) 15 = ((c % 16 : Nat) : Int) := and15 c hc256
        have hn1 : c / 16 < 16 := by omega
        have hn2 : c % 16 < 16 := by omega
        generalize c / 16 = n1 at hx1 hn1 HE1
        generalize c % 16 = n2 at hx2 hx3 hn2 HE1
        have hi1 : (n1 : Int) < 16 := by omega
        have hi2 : (n2 : Int) < 16 := by omega
        have hy1 : ∀ h, ((ByteArray.mk #[48, 49, 50, 51, 52, 53, 54, 55, 56, 57, 65, 66, 67, 68, 69, 70])[n1]'h).toNat = hexN n1 := fun h => by have := num_at n1 h; exact Int.ofNat.inj this
        have hy2 : ∀ h, ((ByteArray.mk #[48, 49, 50, 51, 52, 53, 54, 55, 56, 57, 65, 66, 67, 68, 69, 70])[n2]'h).toNat = hexN n2 := fun h => by have := num_at n2 h; exact Int.ofNat.inj this
        generalize hexN n1 = h1 at hy1 HE1
        generalize hexN n2 = h2 at hy2 HE1
        have hc1 : ∀ u ∈ [Value.int .u8 (37 : Int), Value.int .u8 (h1 : Int), Value.int .u8 (h2 : Int)], u.oneCell' = true := by intro u hu; simp at hu; rcases hu with rfl | rfl | rfl <;> rfl
        have hc2 : E.length + 3 ≤ maxLen := by unfold maxLen; omega
        have hc3 : (E.length + 3) * 1 ≤ 140737488355328 := by omega
        go_region_law ((refine step_append_lies _ (by rfl) _ _ _ (by rfl) w1.heap.size 5 i0 _ 1 1 Tryd.underlying105 HI.out HZ0.out HZ1.out HZ2.out rfl (by decide) v _ _ (by rfl) (World.ownsRow.alloc HO.out _) ⟨wr.heap.size, 0, none⟩ 3 3 [Value.int .u8 (37 : Int), Value.int .u8 (h1 : Int), Value.int .u8 (h2 : Int)] (by rfl) rfl (cells_new wr [Value.int .u8 (37 : Int), Value.int .u8 (h1 : Int), Value.int .u8 (h2 : Int)] _) hc1 (by decide) hc2 hc3 (by simp; omega) (wr.heap.size + 1) (by simp) ?_; intro g3 cap3 w3 hown3 hg3 hat3 hlt3))
        all_goals (
          have B3 := Lib.hid ((HB.out.drew.alloc HB.out.size _).grown hg3 (by have := HB.out.size; simp; omega) (fun q hq => (World.ownsRow.lt HO.out q hq).1))
          have HO3 := Lib.hid (ownB_snocs (m := [37, h1, h2]) rfl hown3)
          clear hg3 hown3 hat3 hlt3
          go_wp2_with fail
          refine ⟨⟨k + 1, _, rfl, rfl, hlt, by rw [HST.out, HE1.out]; exact HO3.out, B3.out⟩, ?_⟩
          simp [intOf]
          omega)
    · have q4 : decide ((k : Int) < (s.size : Int)) = false := decide_eq_false (by omega)
      obtain rfl : k = s.size := by omega
      have hall : (bytesU s).take s.size = bytesU s := List.take_of_length_le (by rw [bytesU_len]; exact Nat.le_refl _)
      rw [hall] at HO
      have hcv := owned_text HO.out (encL_lt _ (bytesU_lt s))
      generalize hE : encL (bytesU s) = E at hcv HO
      go_wp2_with fail
      go_ret
      subst hE
      exact ⟨rfl, HBW.out.trans (HB.out.mono HBW.out.size)⟩
end Go.Proofs.YtbpcknjobbjmpaaDoor
