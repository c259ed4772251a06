/- The law's own look: what every right program encodes and decodes. -/
import Derived.Test.YtmnaljnkgaebkaaDecA
import Derived.Test.YtmnaljnkgaebkaaHuffN
import Derived.Test.YtmnaljnkgaebkaaHuffE
import Derived.Test.YtmnaljnkgaebkaaHuffS
namespace Go.Proofs.Ytmnaljnkgaebkaa
open Go.RowKit
set_option linter.unusedVariables false
set_option linter.unusedSimpArgs false

theorem ownB_bytes {w : World} {B : Nat} {v : Value} {l : List Nat} (h : OwnB w B v l) : ∃ oa cap, v = .slice oa l.length cap ∧ BytesN w oa l ∧ ∀ a, oa = some a → B ≤ a.block ∧ a.block < w.heap.size := by
  rcases h.2 with ⟨rfl, h0⟩ | ⟨g, cap, cur, rfl, hb, hg, hn, hm, hs, ht⟩
  · exact ⟨none, 0, by rw [h0], fun i hi => by omega, fun a ha => by cases ha⟩
  · refine ⟨some ⟨g, 0, none⟩, cap, rfl, fun i hi => ⟨_, rfl, ?_⟩, fun a ha => ?_⟩
    · exact World.ownsRow.cells h rfl i _ (by simp [List.getElem?_eq_getElem hi])
    · obtain rfl := Option.some.inj ha
      exact ⟨hb, (Array.getElem?_eq_some_iff.1 hg).1⟩
theorem OwnB.step {w w' : World} {B : Nat} {v : Value} {l : List Nat} (h : OwnB w B v l) (hk : ∀ k, B ≤ k → k < w.heap.size → w'.heap[k]? = w.heap[k]?) : OwnB w' B v l := by
  refine ⟨h.1, h.2.imp id ?_⟩
  rintro ⟨g, cap, cur, h1, h2, h3, h4⟩
  exact ⟨g, cap, cur, h1, h2, (hk g h2 (Array.getElem?_eq_some_iff.1 h3).1).trans h3, h4⟩
theorem decode_text (p : Nat) (w : World) (hr : Ready p w) (oa : Option Addr) (cap : Nat) (bs : List Nat) (l : List UInt8) (h : decL bs = some l) (hb : BytesN w oa bs) (hp : ∀ a, oa = some a → a.block ≠ p) (hlen : bs.length ≤ 1000000) (hbyte : ∀ i, i < bs.length → bs.getD i 0 < 256) :
    Calls Try.prog 22 #[.pointer (some ⟨p, 0, none⟩), .slice oa bs.length cap] w fun e w' => e = .returned (.tuple #[.string ⟨l.toArray⟩, .int .i64 0]) ∧ Done p w' 1 ∧ Near p w.heap.size w w' := by
  refine (decode_any p w hr oa cap bs hb hp hlen hbyte).mono ?_
  rintro e w' ⟨rfl, h1, h2⟩
  exact ⟨by rw [h]; rfl, h1, h2⟩
theorem decode_fail (p : Nat) (w : World) (hr : Ready p w) (oa : Option Addr) (cap : Nat) (bs : List Nat) (h : decL bs = none) (hb : BytesN w oa bs) (hp : ∀ a, oa = some a → a.block ≠ p) (hlen : bs.length ≤ 1000000) (hbyte : ∀ i, i < bs.length → bs.getD i 0 < 256) :
    Calls Try.prog 22 #[.pointer (some ⟨p, 0, none⟩), .slice oa bs.length cap] w fun e w' => e = .returned (.tuple #[.string ByteArray.empty, .int .i64 4]) ∧ Done p w' 1 ∧ Near p w.heap.size w w' := by
  refine (decode_any p w hr oa cap bs hb hp hlen hbyte).mono ?_
  rintro e w' ⟨rfl, h1, h2⟩
  exact ⟨by rw [h]; rfl, h1, h2⟩

theorem bytes_new (w : World) (t : TypeId) (bs : List Nat) : BytesN (w.alloc (.cells (bs.map fun n : Nat => Value.int .u8 (n : Int)).toArray t)) (some ⟨w.heap.size, 0, none⟩) bs := by
  intro i hi
  exact ⟨_, rfl, cells_new w _ t i _ (by simp [List.getElem?_eq_getElem hi])⟩
def wwwL : List UInt8 := [119, 119, 119, 46, 101, 120, 97, 109, 112, 108, 101, 46, 99, 111, 109]
def wwwE : List UInt8 := [241, 227, 194, 229, 242, 58, 107, 160, 171, 144, 244, 255]
set_option maxRecDepth 100000 in
theorem www_enc : encL wwwL = wwwE.map UInt8.toNat := by decide +kernel
set_option maxRecDepth 100000 in
theorem www_dec : decL (wwwE.map UInt8.toNat) = some wwwL := by decide +kernel
set_option maxRecDepth 100000 in
theorem www_ff : decL [255] = none := by decide +kernel
set_option maxRecDepth 100000 in
theorem www_fc : decL [255, 255, 255, 252] = none := by decide +kernel
set_option maxRecDepth 100000 in
theorem www_size : sizeL wwwL = 12 := by decide +kernel
theorem www_code : codeOf 48 = 0 ∧ lenOf 48 = 5 := by decide +kernel

set_option maxRecDepth 100000 in
set_option maxHeartbeats 2000000 in
theorem awake_any (w : World) : Calls Try.prog 14 #[] w fun e w' => e = .returned (.bool true) ∧ Below w.heap.size w w' := by
  go_enter Try.func14, Try.ntmps14
  go_wp2_with fail
  refine (encode_any _ (by decide) _).mono ?_
  rintro e w1 ⟨v, rfl, hO, hB1⟩
  have HO := Lib.hid (show OwnB w1 w.heap.size v (wwwE.map UInt8.toNat) from www_enc ▸ hO)
  have HB1 := Lib.hid hB1
  clear hO hB1
  obtain ⟨oa, cap, hv0, hby, hbl⟩ := ownB_bytes HO.out
  have hv : v = .slice oa 12 cap := hv0
  clear hv0
  have HBY := Lib.hid hby
  have HBL := Lib.hid hbl
  clear hby hbl
  go_wp2_with fail
  refine (new_any _).mono ?_
  rintro e w2 ⟨rfl, hB2, hC2⟩
  have HB2 := Lib.hid hB2
  have HC2 := Lib.hid hC2
  clear hB2 hC2
  go_wp2_with fail
  refine (built_fresh _ _ _ HC2.out).mono ?_
  rintro e w2' ⟨rfl, hw⟩
  obtain rfl := hw.symm
  clear hw
  go_wp2_with fail
  subst hv
  refine (decode_text w1.heap.size w2 (.inl ⟨_, HC2.out⟩) oa cap _ _ www_dec (HBY.out.below HB2.out) (fun a ha => by have := (HBL.out a ha).2; omega) (by decide) (by decide)).mono ?_
  rintro e w3 ⟨rfl, hD3, hN3⟩
  have HD3 := Lib.hid hD3
  have HN3 := Lib.hid hN3
  clear hD3 hN3
  go_wp2_with fail
  refine (decode_fail w1.heap.size (w3.alloc (.cells #[.int .u8 255] 5)) (.inr (HD3.out.below ((Below.refl _ _).alloc (Nat.le_refl _) _))) (some ⟨w3.heap.size, 0, none⟩) _ _ www_ff (bytes_new w3 5 _) (fun a ha => by obtain rfl := Option.some.inj ha; have := HD3.out.lt; simp only; omega) (by decide) (by decide)).mono ?_
  rintro e w4 ⟨rfl, hD4, hN4⟩
  have HD4 := Lib.hid hD4
  have HN4 := Lib.hid hN4
  clear hD4 hN4
  go_wp2_with fail
  refine (decode_fail w1.heap.size (w4.alloc (.cells #[.int .u8 255, .int .u8 255, .int .u8 255, .int .u8 252] 5)) (.inr (HD4.out.below ((Below.refl _ _).alloc (Nat.le_refl _) _))) (some ⟨w4.heap.size, 0, none⟩) _ _ www_fc (bytes_new w4 5 _) (fun a ha => by obtain rfl := Option.some.inj ha; have := HD4.out.lt; simp only; omega) (by decide) (by decide)).mono ?_
  rintro e w5 ⟨rfl, hD5, hN5⟩
  have HD5 := Lib.hid hD5
  have HN5 := Lib.hid hN5
  clear hD5 hN5
  go_wp2_with fail
  refine (code_any 48 (by decide) w5).mono ?_
  rintro e w6 ⟨rfl, hB6⟩
  rw [www_code.1, www_code.2]
  have HB6 := Lib.hid hB6
  clear hB6
  go_wp2_with fail
  refine (decode_none _ _).mono ?_
  rintro e w6' ⟨rfl, hw⟩
  obtain rfl := hw.symm
  clear hw
  have hD6 := HD5.out.below HB6.out
  have HD6 := Lib.hid hD6
  clear hD6
  have hp2 := HC2.out.lt
  have hs3 := HN3.out.size
  have hs4 : w3.heap.size + 1 ≤ w4.heap.size := by have := HN4.out.size; simpa using this
  have hs5 : w4.heap.size + 1 ≤ w5.heap.size := by have := HN5.out.size; simpa using this
  have hs6 := HB6.out.size
  have hN36 : Near w1.heap.size w2.heap.size w2 w6 := ((HN3.out.trans (((Near.refl _ _ w3).alloc (by omega) _).trans (HN4.out.mono (by simp; omega)))).trans (((Near.refl _ _ w4).alloc (by omega) _).trans (HN5.out.mono (by simp; omega)))).trans ((Near.of HB6.out).mono (by omega))
  have hB26 : Below w1.heap.size w1 w6 := HB2.out.trans (hN36.below hp2)
  have HF := Lib.hid (HB1.out.trans (hB26.mono HB1.out.size))
  have htx := text_own w6 _ _ wwwE (HO.out.step (fun k _ hk => hB26.block k hk))
  clear hB26 hN36
  have hsz := size_any ⟨#[119, 119, 119, 46, 101, 120, 97, 109, 112, 108, 101, 46, 99, 111, 109]⟩ (by decide) w6
  rw [show sizeL (ByteArray.mk #[119, 119, 119, 46, 101, 120, 97, 109, 112, 108, 101, 46, 99, 111, 109]).data.toList = 12 from www_size] at hsz
  have HSZ := Lib.hid hsz
  clear hsz
  have hx : ∀ (v : Value), v = v := fun _ => rfl
  clear hx
  go_wp2_with fail
  refine (built_any _ _ _ HD6.out).mono ?_
  rintro e w7 ⟨rfl, hw⟩
  obtain rfl := hw.symm
  clear hw
  go_wp2_with fail
  refine HSZ.out.mono ?_
  rintro e w8 ⟨rfl, hB8⟩
  have HB8 := Lib.hid hB8
  clear hB8
  go_wp2_with fail
  refine (built_none _).mono ?_
  rintro e w9 ⟨rfl, hw⟩
  obtain rfl := hw.symm
  clear hw
  go_wp2_with fail
  go_ret
  exact ⟨rfl, HF.out.trans (HB8.out.mono HF.out.size)⟩
end Go.Proofs.Ytmnaljnkgaebkaa
