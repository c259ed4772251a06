/- The document's Decode tells what the tree tells. -/
import Derived.Test.YteceinojmdgmeaaGreatC40
import Derived.Deep.RegionHeld
namespace Go.Proofs.YteceinojmdgmeaaGreat
open Go.RowKit
set_option linter.unusedVariables false
set_option linter.unusedSimpArgs false

theorem ownI_ints {w : World} {B : Nat} {v : Value} {l : List Nat} (h : OwnJ w B v l) : ∃ oa cap, v = .slice oa l.length cap ∧ l.length ≤ cap ∧ IntsN w oa l := by
  rcases h.2 with ⟨rfl, h0⟩ | ⟨g, cap, cur, rfl, hb, hg, hn, hm, hs, ht⟩
  · exact ⟨none, 0, by rw [h0], by omega, fun i hi => by omega⟩
  · refine ⟨some ⟨g, 0, none⟩, cap, rfl, hn, fun i hi => ⟨_, rfl, ?_⟩⟩
    exact World.ownsRow.cells h rfl i _ (by simp [List.getElem?_eq_getElem hi])
theorem noCode_nil : ¬ HasCode [] := by
  rintro ⟨c, n, hc, hn, he⟩
  have h := congrArg List.length he
  unfold codeBits at h
  rw [bitsN_len] at h
  have := (len_range c hc).1
  simp at h
  omega
theorem textBits_ge : ∀ l : List UInt8, 5 * l.length ≤ (textBits l).length
  | [] => by simp [textBits]
  | c :: l => by
    have e : textBits (c :: l) = byteBits c ++ textBits l := rfl
    have h := textBits_ge l
    have h2 := (len_range c.toNat c.toNat_lt).1
    rw [e, List.length_append, byteBits_len, List.length_cons]
    omega
def bsS (bs : List Nat) : ByteArray := ⟨(bs.map UInt8.ofNat).toArray⟩
theorem conv_arg (W : World) (oa : Option Addr) (cap : Nat) (bs : List Nat) (h : BytesN W oa bs) (hb : ∀ i, i < bs.length → bs.getD i 0 < 256) :
    (convert 27 9 (.slice oa bs.length cap)).run Tryz.prog W = .ok (.string (bsS bs)) W := by
  cases oa with
  | none =>
    have : bs = [] := by
      cases bs with
      | nil => rfl
      | cons x l => obtain ⟨a, ha, _⟩ := h 0 (by simp); cases ha
    subst this
    rw [run_convert_bytes_string W _ _ 5 none _ _ Tryz.underlying27 Tryz.underlying5 Tryz.underlying9]
    rfl
  | some a =>
    have hl : (bs.map UInt8.ofNat).length = bs.length := by simp
    rw [← hl]
    refine run_convert_bytes_back W _ _ 5 a cap (bs.map UInt8.ofNat) Tryz.underlying27 Tryz.underlying5 Tryz.underlying9 (fun j hj => ?_)
    rw [hl] at hj
    obtain ⟨a', ha, hc⟩ := h j hj
    obtain rfl := Option.some.inj ha
    have h2 := hb j hj
    rw [hc]
    rw [List.getD_eq_getElem?_getD, List.getElem?_eq_getElem hj, Option.getD_some] at h2
    simp [List.getD_eq_getElem?_getD, List.getElem?_eq_getElem hj]
    omega
theorem encS_eq {T : List UInt8} {bs : List Nat} {s : ByteArray} (hs : s.data.toList = T) (hb : ∀ x ∈ bs, x < 256) : encS s = bsS bs ↔ encL T = bs := by
  unfold encS bsS encU
  rw [hs]
  constructor
  · intro h
    have e := congrArg (fun b => b.data.toList.map UInt8.toNat) h
    simp only [List.toList_toArray, List.map_map] at e
    have h1 : ∀ l : List Nat, (∀ x ∈ l, x < 256) → l.map (UInt8.toNat ∘ UInt8.ofNat) = l := fun l hl => by
      conv => rhs; rw [← List.map_id l]
      refine List.map_congr_left fun x hx => ?_
      have := hl x hx
      simp; omega
    rw [h1 _ (encL_byte T), h1 _ hb] at e
    exact e
  · intro h; rw [h]
theorem decV_some (T : List UInt8) : decV (some T) = .tuple #[.string ⟨T.toArray⟩, .int .i64 0] := rfl
def RefDecPost (bs : List Nat) (w : World) (e : Ending) (w' : World) : Prop := e = .returned (decV (decL bs)) ∧ Below w.heap.size w w'
set_option maxRecDepth 100000 in
set_option maxHeartbeats 2000000 in
theorem refDecode_any (oa : Option Addr) (cap : Nat) (bs : List Nat) (w : World) (hby : BytesN w oa bs) (hlen : bs.length ≤ 100) (hbyte : ∀ i, i < bs.length → bs.getD i 0 < 256) :
    Calls Tryz.prog 74 #[.slice oa bs.length cap] w (RefDecPost bs w) := by
  have HBY := Lib.hid hby
  have HBT := Lib.hid hbyte
  have HBX := Lib.hid (show ∀ x ∈ bs, x < 256 from fun x hx => by
    obtain ⟨i, hi, rfl⟩ := List.getElem_of_mem hx
    have := hbyte i hi
    rwa [List.getD_eq_getElem?_getD, List.getElem?_eq_getElem hi] at this)
  clear hby hbyte
  go_enter Tryz.func74, Tryz.ntmps74
  go_wp2_with fail
  refine (unpack_any oa cap bs w HBY.out (by omega) HBT.out).mono ?_
  rintro e w1 ⟨v1, rfl, hO1, hB1⟩
  have HB1 := Lib.hid hB1
  obtain ⟨oa1, cap1, hv1, hc1, hi1⟩ := ownI_ints hO1
  have HI1 := Lib.hid hi1
  have HC1 := Lib.hid hc1
  have hblen := bytesBits_len bs
  have HBL := Lib.hid hblen
  clear hO1 hB1 hi1 hc1 hblen
  subst hv1
  go_wp2_with fail
  go_loopw [4, 5] (fun l s wr => ∃ (oa' : Option Addr) (n' cap' : Nat) (S : ByteArray) (T : List UInt8) (r : List Nat), l = .slice oa' n' cap' ∧ s = .string S ∧ n' = r.length ∧ n' ≤ cap' ∧ S.data.toList = T ∧ bytesBits bs = textBits T ++ r ∧ isBits r ∧ IntsN wr oa' r ∧ Below w1.heap.size w1 wr) (fun l _ _ => sliceLenV l)
  case atStart => exact ⟨_, _, _, _, [], bytesBits bs, rfl, rfl, rfl, HC1.out, rfl, rfl, (fun b hb => by
      unfold bytesBits at hb
      obtain ⟨x, _, hx⟩ := List.mem_flatMap.1 hb
      exact bitsN_bits 8 x b hx), HI1.out, Below.refl _ _⟩
  case round =>
    obtain ⟨oa', n', cap', S, T, r, rfl, rfl, hn', hcap, hS, hL, hr, hin, bk⟩ := hrel
    have HN := Lib.hid hn'
    have HS := Lib.hid hS
    have HL := Lib.hid hL
    have HR := Lib.hid hr
    have HIN := Lib.hid hin
    have BK := Lib.hid bk
    have hTl : 5 * T.length + n' ≤ 800 := by
      have h1 := HBL.out
      rw [HL.out, List.length_append] at h1
      have := textBits_ge T
      omega
    clear hn' hS hL hr hin bk
    by_cases h0 : 0 < n'
    · have h0i : (0 : Int) < (n' : Int) := by omega
      go_wp2_with fail
      have hfa := find_any oa' cap' r wr HIN.out HR.out (by have := HN.out; omega)
      rw [← HN.out] at hfa
      refine hfa.mono ?_
      clear hfa
      rintro e w' ⟨hw, hcase⟩
      obtain rfl := hw.symm
      clear hw
      rcases hcase with ⟨c, n, hc, hcl, hnr, htk, rfl⟩ | ⟨hno, rfl⟩
      · have hn5 := (len_range c hc).1
        rw [hcl] at hn5
        have hnz : ¬ ((n : Int) = 0) := by omega
        have hnle : n ≤ n' := by have := HN.out; omega
        have hnli : (n : Int) ≤ (n' : Int) := by omega
        have hnci : (n : Int) ≤ (cap' : Int) := by omega
        have hncc : (n' : Int) ≤ (cap' : Int) := by omega
        have hcv : (convert 27 9 (.slice (some ⟨wr.heap.size, 0, none⟩) 1 1)).run Tryz.prog (wr.alloc (.cells #[.int .u8 (c : Int)] 5)) = .ok (.string ⟨#[UInt8.ofNat c]⟩) (wr.alloc (.cells #[.int .u8 (c : Int)] 5)) :=
          run_convert_bytes_back _ _ _ 5 ⟨wr.heap.size, 0, none⟩ 1 [UInt8.ofNat c] Tryz.underlying27 Tryz.underlying5 Tryz.underlying9 (fun j hj => by
            obtain rfl : j = 0 := by simpa using hj
            exact cells_new wr [Value.int .u8 (c : Int)] 5 0 _ (by simp; omega))
        have HTK := Lib.hid htk
        have HCL := Lib.hid hcl
        clear htk hcl
        obtain ⟨a', rfl, _⟩ := HIN.out 0 (by have := HN.out; omega)
        have hnb : ((n : Int) == 0) = false := by simp; omega
        have hss : ¬ 9223372036854775807 < S.size + 1 := by
          have h1 : S.data.toList.length = S.size := by rw [Array.length_toList]; rfl
          rw [HS.out] at h1
          omega
        go_wp2_with fail
        go_roundw
        case rel =>
          refine ⟨_, n' - n, cap' - n, _, T ++ [UInt8.ofNat c], r.drop n, rfl, rfl, by rw [List.length_drop, ← HN.out], by omega, by simp [HS.out], ?_, fun b hb => HR.out b (List.mem_of_mem_drop hb), ?_, BK.out.alloc BK.out.size _⟩
          · rw [HL.out, textBits_append]
            have e : textBits [UInt8.ofNat c] = codeBits c := by
              have h1 : (UInt8.ofNat c).toNat = c := by simp; omega
              simp only [textBits, byteBits, h1, codeBits, List.append_nil]
            rw [e, ← HTK.out, List.append_assoc, List.take_append_drop]
          · intro i hi
            rw [List.length_drop] at hi
            have hcn : ¬ cap' = n := by have := HN.out; omega
            rw [if_neg hcn]
            refine ⟨_, rfl, ?_⟩
            obtain ⟨a2, ha2, hc2⟩ := HIN.out (n + i) (by omega)
            obtain rfl := Option.some.inj ha2
            rw [show (a'.add n).add i = a'.add (n + i) from Addr.add_add _ _ _, cell_eq (Below.heap_alloc wr _ _ (World.block_lt_of_cell? _ _ hc2)), hc2]
            simp [List.getD_eq_getElem?_getD]
        case measure => simp only [sliceLenV]; omega
      · have HNO := Lib.hid hno
        clear hno
        have HGL := Lib.hid (greedy_law bs T r HBX.out HL.out HR.out HNO.out)
        have hSz : S.size ≤ 1000 := by
          have h1 : S.data.toList.length = S.size := by rw [Array.length_toList]; rfl
          have h2 := HS.out
          rw [← h1, h2]
          omega
        have HE := Lib.hid (refEncode_conv S hSz)
        have HQ := Lib.hid (encS_eq HS.out HBX.out)
        have HST := Lib.hid (show ByteArray.mk T.toArray = S from by rw [← HS.out])
        have HFA := Lib.hid (Far.mk (Below.refl wr.heap.size wr) (Nat.le_refl _))
        have HFB := Lib.hid (HB1.out.trans (BK.out.mono HB1.out.size))
        have hcb : ∀ W, Far wr.heap.size wr W → (convert 27 9 (.slice oa bs.length cap)).run Tryz.prog W = .ok (.string (bsS bs)) W := fun W hW => conv_arg W oa cap bs (((HBY.out.below HB1.out).below BK.out).below hW.below) HBT.out
        generalize bsS bs = BS at hcb HQ
        generalize encS S = A at HE HQ
        by_cases hAB : A = BS
        · subst hAB
          have HD := Lib.hid (HQ.out.1 rfl)
          go_wp2_with fail
          go_region_held (fun w' => Far wr.heap.size wr w') (first | exact HBN | exact HFA.out.drew) (first
            | (go_at_call 81; refine (HE.out _).mono ?_; rintro e w' ⟨v, rfl, hcvB, hb⟩; have hcv3 := hcvB _ (Below.refl _ _); have HBN := Far.step hb (by assumption)))
          all_goals
            go_wp2_with fail
            refine bodyPost_ret (v := .tuple #[.string S, .int .i64 0]) (by simp [results, Tryz.results74, go_sem]) rfl ⟨by rw [HGL.out, if_pos HD.out, decV_some, HST.out], HFB.out.trans (HBN.below.mono HFB.out.size)⟩
        · have hAB1 := toList_ne hAB
          have HD := Lib.hid (fun h => hAB (HQ.out.2 h))
          go_wp2_with fail
          go_region_held (fun w' => Far wr.heap.size wr w') (first | exact HBN | exact HFA.out.drew) (first
            | (go_at_call 81; refine (HE.out _).mono ?_; rintro e w' ⟨v, rfl, hcvB, hb⟩; have hcv3 := hcvB _ (Below.refl _ _); have HBN := Far.step hb (by assumption)))
          all_goals
            go_wp2_with fail
            refine bodyPost_ret (v := .tuple #[.string ByteArray.empty, .int .i64 4]) (by simp [results, Tryz.results74, go_sem]; rfl) rfl ⟨by rw [HGL.out, if_neg HD.out]; rfl, HFB.out.trans (HBN.below.mono HFB.out.size)⟩
    · obtain rfl : n' = 0 := by omega
      have hr0 : r = [] := List.length_eq_zero_iff.1 HN.out.symm
      have HNO := Lib.hid (show ¬ HasCode r from by rw [hr0]; exact noCode_nil)
      clear hr0
      have HGL := Lib.hid (greedy_law bs T r HBX.out HL.out HR.out HNO.out)
      have hSz : S.size ≤ 1000 := by
        have h1 : S.data.toList.length = S.size := by rw [Array.length_toList]; rfl
        have h2 := HS.out
        rw [← h1, h2]
        omega
      have HE := Lib.hid (refEncode_conv S hSz)
      have HQ := Lib.hid (encS_eq HS.out HBX.out)
      have HST := Lib.hid (show ByteArray.mk T.toArray = S from by rw [← HS.out])
      have HFA := Lib.hid (Far.mk (Below.refl wr.heap.size wr) (Nat.le_refl _))
      have HFB := Lib.hid (HB1.out.trans (BK.out.mono HB1.out.size))
      have hcb : ∀ W, Far wr.heap.size wr W → (convert 27 9 (.slice oa bs.length cap)).run Tryz.prog W = .ok (.string (bsS bs)) W := fun W hW => conv_arg W oa cap bs (((HBY.out.below HB1.out).below BK.out).below hW.below) HBT.out
      generalize bsS bs = BS at hcb HQ
      generalize encS S = A at HE HQ
      by_cases hAB : A = BS
      · subst hAB
        have HD := Lib.hid (HQ.out.1 rfl)
        go_wp2_with fail
        go_region_held (fun w' => Far wr.heap.size wr w') (first | exact HBN | exact HFA.out.drew) (first
          | (go_at_call 81; refine (HE.out _).mono ?_; rintro e w' ⟨v, rfl, hcvB, hb⟩; have hcv3 := hcvB _ (Below.refl _ _); have HBN := Far.step hb (by assumption)))
        all_goals
          go_wp2_with fail
          refine bodyPost_ret (v := .tuple #[.string S, .int .i64 0]) (by simp [results, Tryz.results74, go_sem]) rfl ⟨by rw [HGL.out, if_pos HD.out, decV_some, HST.out], HFB.out.trans (HBN.below.mono HFB.out.size)⟩
      · have hAB1 := toList_ne hAB
        have HD := Lib.hid (fun h => hAB (HQ.out.2 h))
        go_wp2_with fail
        go_region_held (fun w' => Far wr.heap.size wr w') (first | exact HBN | exact HFA.out.drew) (first
          | (go_at_call 81; refine (HE.out _).mono ?_; rintro e w' ⟨v, rfl, hcvB, hb⟩; have hcv3 := hcvB _ (Below.refl _ _); have HBN := Far.step hb (by assumption)))
        all_goals
          go_wp2_with fail
          refine bodyPost_ret (v := .tuple #[.string ByteArray.empty, .int .i64 4]) (by simp [results, Tryz.results74, go_sem]; rfl) rfl ⟨by rw [HGL.out, if_neg HD.out]; rfl, HFB.out.trans (HBN.below.mono HFB.out.size)⟩
end Go.Proofs.YteceinojmdgmeaaGreat

