/- Numerals; a request's fields: request.Fields and the document's. (printed by gen_reqfields.py) -/
import Derived.Test.YtecmccihldjicaaDoorReqK
import Derived.WalkSmall
import Derived.Lib.AppendIntMem
import Derived.Deep.DeepCutAuto
namespace Go.Proofs.YtecmccihldjicaaDoor
open Go.RowKit
set_option linter.unusedVariables false
set_option linter.unusedSimpArgs false

def decS (n : Nat) : ByteArray := ⟨(Lib.decDigits n).toArray⟩
/-- The table of powers is as the program's text lays it. -/
def Tab (w : World) : Prop := Lib.TabIs Tryd.prog w "internal/strconv.uint64pow10" .u64 Lib.pow10Tab
theorem pow_global : ∃ g, Tryd.prog.globalNamed "internal/strconv.uint64pow10" = some g := Option.isSome_iff_exists.1 (by kernel_rfl)
theorem Tab.below {w W : World} (h : Tab w) (hb : Below w.heap.size w W) : Tab W := by
  obtain ⟨g, hg⟩ := pow_global
  have hc := Lib.TabIs.cell h hg 0 (by decide)
  exact var?_below hb hg (World.block_lt_of_cell? _ _ hc) h
theorem itoa_any (n : Nat) (hn : n ≤ 1099511627776) (w : World) (hT : Tab w) : Calls Tryd.prog 39 #[.int .i64 (n : Int)] w fun e w' => e = .returned (.string (decS n)) ∧ Below w.heap.size w w' :=
  (Tryd.strconv_Itoa (n : Int) (by omega) (by omega) w hT).mono (by
    rintro e w' ⟨rfl, k, os, rfl⟩
    exact ⟨by rw [Lib.itoa_nonneg]; rfl, Lib.below_grow _ _ (Nat.le_refl _) _ _⟩)
theorem decS_one {n : Nat} (h : n < 10) : decS n = ⟨#[UInt8.ofNat (48 + n)]⟩ := by unfold decS; rw [Lib.decDigits_one h]
theorem decS_more {n : Nat} (h : ¬ n < 10) : decS n = decS (n / 10) ++ decS (n % 10) := by
  have h1 : Lib.decDigits n = Lib.decDigits (n / 10) ++ [UInt8.ofNat (48 + n % 10)] := by rw [Lib.decDigits, dif_neg h]
  unfold decS
  rw [h1, Lib.decDigits_one (Nat.mod_lt n (by omega))]
  apply ByteArray.ext
  simp
theorem nDigits_le : ∀ (k n : Nat), n < 10 ^ (k + 1) → Lib.nDigits n ≤ k + 1
  | 0, n, h => by rw [Lib.nDigits, dif_pos (by simpa using h)]; exact Nat.le_refl _
  | k + 1, n, h => by
    rw [Lib.nDigits]
    split
    · omega
    · have := nDigits_le k (n / 10) (by rw [Nat.pow_succ] at h; omega)
      omega
theorem decS_size (n : Nat) (h : n ≤ 1099511627776) : (decS n).size ≤ 13 := by
  have h1 : (decS n).size = Lib.nDigits n := by rw [← Lib.decDigits_length]; rfl
  rw [h1]
  exact nDigits_le 12 n (by omega)
set_option maxRecDepth 100000 in
set_option maxHeartbeats 1000000 in
theorem show_any : ∀ (n : Nat), n ≤ 1099511627776 → ∀ (w : World), Calls Tryd.prog 40 #[.int .i64 (n : Int)] w fun e w' => e = .returned (.string (decS n)) ∧ Below w.heap.size w w' := by
  intro n
  induction n using Nat.strongRecOn with
  | _ n ih =>
    intro hn w
    by_cases h : n < 10
    · have q : decide ((9 : Int) < (n : Int)) = false := decide_eq_false (by omega)
      have hw1 : IntKind.u8.wrap (n : Int) = (n : Int) := IntWalk.u8_in _ (by omega)
      have hw2 : IntKind.u8.wrap (48 + (n : Int)) = ((48 + n : Nat) : Int) := IntWalk.u8_in _ (by omega)
      have HD := Lib.hid (decS_one h)
      go_enter Tryd.func40, Tryd.ntmps40
      have hby : BytesN (w.alloc (.cells #[.int .u8 (48 + (n : Int))] 5)) (some ⟨w.heap.size, 0, none⟩) [48 + n] := fun i hi => by
        obtain rfl : i = 0 := by simp at hi; omega
        exact ⟨_, rfl, cells_new w [Value.int .u8 (48 + (n : Int))] _ 0 _ rfl⟩
      have hcv := conv_bytes (w.alloc (.cells #[.int .u8 (48 + (n : Int))] 5)) _ 1 1 [48 + n] rfl hby (fun i hi => by
        obtain rfl : i = 0 := by simp at hi; omega
        simp; omega)
      have HB := Lib.hid ((Below.refl w.heap.size w).alloc (Nat.le_refl _) (.cells #[.int .u8 (48 + (n : Int))] 5))
      have HS := Lib.hid (show bsB [48 + n] = decS n from by rw [HD.out]; rfl)
      generalize bsB [48 + n] = S at hcv HS
      clear hby
      go_wp2_with fail
      go_ret
      exact ⟨by rw [← HS.out]; rfl, HB.out⟩
    · have q : decide ((9 : Int) < (n : Int)) = true := decide_eq_true (by omega)
      have I1 := Lib.hid (ih (n / 10) (by omega) (by omega))
      have I2 := Lib.hid (ih (n % 10) (by omega) (by omega))
      have HD := Lib.hid (decS_more h)
      have hx1 : (n : Int) / 10 = ((n / 10 : Nat) : Int) := rfl
      have hx2 : (n : Int) % 10 = ((n % 10 : Nat) : Int) := rfl
      have hy1 : n / 10 ≤ 1099511627776 := by omega
      have hy2 : n % 10 ≤ 1099511627776 := by omega
      have hsa := decS_size (n / 10) hy1
      have hsb := decS_size (n % 10) hy2
      generalize n / 10 = a at hsa I1 HD hx1 hy1
      generalize n % 10 = b at hsb I2 HD hx2 hy2
      have hw1 : IntKind.i64.wrap (a : Int) = (a : Int) := IntWalk.i64_in _ (by omega)
      have hw2 : IntKind.i64.wrap (b : Int) = (b : Int) := IntWalk.i64_in _ (by omega)
      clear ih
      go_enter Tryd.func40, Tryd.ntmps40
      go_wp2_with fail
      refine (I1.out _).mono ?_
      rintro e w1 ⟨rfl, hb⟩
      have HB1 := Lib.hid hb
      clear hb
      go_wp2_with fail
      refine (I2.out _).mono ?_
      rintro e w2 ⟨rfl, hb⟩
      have HB2 := Lib.hid (HB1.out.trans (hb.mono HB1.out.size))
      clear hb
      go_wp2_with fail
      go_ret
      exact ⟨by rw [HD.out]; rfl, HB2.out⟩
def aMethod : ByteArray := ⟨#[58, 109, 101, 116, 104, 111, 100]⟩
def aScheme : ByteArray := ⟨#[58, 115, 99, 104, 101, 109, 101]⟩
def aPath : ByteArray := ⟨#[58, 112, 97, 116, 104]⟩
def aAuth : ByteArray := ⟨#[58, 97, 117, 116, 104, 111, 114, 105, 116, 121]⟩
def aLen : ByteArray := ⟨#[99, 111, 110, 116, 101, 110, 116, 45, 108, 101, 110, 103, 116, 104]⟩
def aPrio : ByteArray := ⟨#[112, 114, 105, 111, 114, 105, 116, 121]⟩
def aUeq : ByteArray := ⟨#[117, 61]⟩
/-- A request's fields. -/
def fieldsQ (m s p h : ByteArray) (len rank : Int) : List Fld :=
  [⟨aMethod, m, false⟩, ⟨aScheme, s, false⟩, ⟨aPath, p, false⟩] ++ (if h.size = 0 then [] else [⟨aAuth, h, false⟩]) ++ (if 0 ≤ len then [⟨aLen, decS len.toNat, false⟩] else []) ++ (if rank = 3 then [] else [⟨aPrio, aUeq ++ decS rank.toNat, false⟩])
def QRow (T : TypeId) (W : World) (q : Nat) (m s p h : ByteArray) (len rank : Int) : Prop := W.heap[q]? = some (.cells #[.string m, .string s, .string p, .string h, .int .i64 len, .int .i64 rank] T (0, 0))
structure St (T : TypeId) (m s p h : ByteArray) (len rank : Int) (w wx : World) (v : Value) (L : List Fld) : Prop where
  row : QRow T wx w.heap.size m s p h len rank
  own : OwnF wx (w.heap.size + 1) v L
  below : Below w.heap.size w wx
  lt : w.heap.size + 1 ≤ wx.heap.size
section
variable {T : TypeId} {m s p h : ByteArray} {len rank : Int} {w wx : World} {v : Value} {L : List Fld}
theorem St.cells (st : St T m s p h len rank w wx v L) : wx.cell? ⟨w.heap.size, 3, none⟩ = some (.string h) ∧ wx.cell? ⟨w.heap.size, 4, none⟩ = some (.int .i64 len) ∧ wx.cell? ⟨w.heap.size, 5, none⟩ = some (.int .i64 rank) :=
  ⟨cell_of_row _ _ 3 _ _ _ st.row, cell_of_row _ _ 4 _ _ _ st.row, cell_of_row _ _ 5 _ _ _ st.row⟩
theorem St.step {wy : World} (st : St T m s p h len rank w wx v L) (hb : Below wx.heap.size wx wy) : St T m s p h len rank w wy v L :=
  ⟨(hb.block w.heap.size (by have := st.lt; omega)).trans st.row, st.own.step hb, st.below.trans (hb.mono st.below.size), by have := st.lt; have := hb.size; omega⟩
theorem St.app {w5 : World} {v5 : Value} {o : Obj} {f : Fld} (st : St T m s p h len rank w wx v L) (hg : (wx.alloc o).grownBy w5 v.ownBlock) (ho : w5.ownsRow (w.heap.size + 1) 42 3 v5 (L.length + 1) (fcells L ++ f.cells)) : St T m s p h len rank w w5 v5 (L ++ [f]) := by
  have hs := st.lt
  have ha : Below wx.heap.size wx (wx.alloc o) := (Below.refl _ _).alloc (Nat.le_refl _) o
  have sa := st.step ha
  have hsa := sa.lt
  refine ⟨(hg.block w.heap.size (by omega) (fun e => ?_)).trans sa.row, ?_, sa.below.grown hg (by omega) (fun k hk => ?_), ?_⟩
  · have := (World.ownsRow.lt st.own w.heap.size e.symm).1
    omega
  · unfold OwnF
    rw [fcells_append, List.length_append]
    simpa [fcells] using ho
  · have := (World.ownsRow.lt st.own k hk).1
    omega
  · have := hg.size
    omega
end
set_option maxRecDepth 100000 in
set_option maxHeartbeats 4000000 in
theorem fields_any (m s p h : ByteArray) (len rank : Int) (hlen : len ≤ 1099511627776) (hr0 : 0 ≤ rank) (hr9 : rank ≤ 9) (w : World) (hT : Tab w) : Calls Tryd.prog 21 #[.agg #[.string m, .string s, .string p, .string h, .int .i64 len, .int .i64 rank]] w fun e w' => ∃ v, e = .returned v ∧ OwnF w' w.heap.size v (fieldsQ m s p h len rank) ∧ Below w.heap.size w w' := by
  have HT := Lib.hid hT
  clear hT
  obtain ⟨i0, hi0, hz0, hz1, hz2⟩ := info_parts field_info
  have HI := Lib.hid hi0
  have HZ0 := Lib.hid hz0
  have HZ1 := Lib.hid hz1
  have HZ2 := Lib.hid hz2
  have HONE := Lib.hid (show ∀ (a b : ByteArray), ∀ u ∈ [Value.string a, .string b, .bool false], u.oneCell' = true from by intro a b u hu; simp at hu; rcases hu with rfl | rfl | rfl <;> rfl)
  have HSZ := Lib.hid (show ∀ (wx : World) (o : Obj), w.heap.size + 1 ≤ wx.heap.size → w.heap.size + 1 ≤ (wx.alloc o).heap.size from by intro wx o h; simp; omega)
  clear hi0 hz0 hz1 hz2
  have HTW := Lib.hid (show ∀ W, Below w.heap.size w W → Tab W from fun W hW => HT.out.below hW)
  have HS0 : Hid (St 26 m s p h len rank w ((w.alloc (.cells #[.string m, .string s, .string p, .string h, .int .i64 len, .int .i64 rank] 26)).alloc (.cells #[.string ⟨#[58, 109, 101, 116, 104, 111, 100]⟩, .string m, .bool false, .string ⟨#[58, 115, 99, 104, 101, 109, 101]⟩, .string s, .bool false, .string ⟨#[58, 112, 97, 116, 104]⟩, .string p, .bool false] 42)) (.slice (some ⟨w.heap.size + 1, 0, none⟩) 3 3) [⟨aMethod, m, false⟩, ⟨aScheme, s, false⟩, ⟨aPath, p, false⟩]) := Lib.hid (by
    have b0 : Below w.heap.size w (w.alloc (.cells #[.string m, .string s, .string p, .string h, .int .i64 len, .int .i64 rank] 26)) := (Below.refl _ w).alloc (Nat.le_refl _) _
    have b1 : Below (w.alloc (.cells #[.string m, .string s, .string p, .string h, .int .i64 len, .int .i64 rank] 26)).heap.size (w.alloc (.cells #[.string m, .string s, .string p, .string h, .int .i64 len, .int .i64 rank] 26)) ((w.alloc (.cells #[.string m, .string s, .string p, .string h, .int .i64 len, .int .i64 rank] 26)).alloc (.cells #[.string ⟨#[58, 109, 101, 116, 104, 111, 100]⟩, .string m, .bool false, .string ⟨#[58, 115, 99, 104, 101, 109, 101]⟩, .string s, .bool false, .string ⟨#[58, 112, 97, 116, 104]⟩, .string p, .bool false] 42)) := (Below.refl _ _).alloc (Nat.le_refl _) _
    refine ⟨(b1.block w.heap.size (by simp)).trans (heap_alloc_new w _), ?_, b0.trans (b1.mono b0.size), by simp⟩
    have hz : (w.alloc (.cells #[.string m, .string s, .string p, .string h, .int .i64 len, .int .i64 rank] 26)).heap.size = w.heap.size + 1 := by simp
    have := World.ownsRow_lit (e := 42) (size := 3) (base := w.heap.size + 1) (w.alloc (.cells #[.string m, .string s, .string p, .string h, .int .i64 len, .int .i64 rank] 26)) #[.string ⟨#[58, 109, 101, 116, 104, 111, 100]⟩, .string m, .bool false, .string ⟨#[58, 115, 99, 104, 101, 109, 101]⟩, .string s, .bool false, .string ⟨#[58, 112, 97, 116, 104]⟩, .string p, .bool false] 3 (by omega) (by decide) rfl
    rw [hz] at this
    exact this)
  have e0 := cell_of_row _ _ 0 _ _ _ (heap_alloc_new w (.cells #[.string m, .string s, .string p, .string h, .int .i64 len, .int .i64 rank] 26))
  have e1 := cell_of_row _ _ 1 _ _ _ (heap_alloc_new w (.cells #[.string m, .string s, .string p, .string h, .int .i64 len, .int .i64 rank] 26))
  have e2 := cell_of_row _ _ 2 _ _ _ (heap_alloc_new w (.cells #[.string m, .string s, .string p, .string h, .int .i64 len, .int .i64 rank] 26))
  go_enter Tryd.func21, Tryd.ntmps21
  go_upto_region 2 with fail
  generalize ((w.alloc (.cells #[.string m, .string s, .string p, .string h, .int .i64 len, .int .i64 rank] 26)).alloc (.cells #[.string ⟨#[58, 109, 101, 116, 104, 111, 100]⟩, .string m, .bool false, .string ⟨#[58, 115, 99, 104, 101, 109, 101]⟩, .string s, .bool false, .string ⟨#[58, 112, 97, 116, 104]⟩, .string p, .bool false] 42)) = w1 at HS0 ⊢
  clear e0 e1 e2
  obtain ⟨c3, c4, c5⟩ := HS0.out.cells
  obtain ⟨eb, heb⟩ : ∃ x, h.toList.isEmpty = x := ⟨_, rfl⟩
  have HIB : Hid (eb = true ↔ h.size = 0) := Lib.hid (by rw [← heb]; exact isEmpty_iff h)
  go_upto_if 16 with fail
  go_cut [3] (fun l wx => ∃ v, l = v ∧ St 26 m s p h len rank w wx v ([⟨aMethod, m, false⟩, ⟨aScheme, s, false⟩, ⟨aPath, p, false⟩] ++ (if h.size = 0 then [] else [⟨aAuth, h, false⟩])))
  case first =>
    clear heb
    cases eb
    · have hh : ¬ h.size = 0 := fun e => absurd (HIB.out.2 e) (by simp)
      have HE : Hid ((if h.size = 0 then [] else [(⟨aAuth, h, false⟩ : Fld)]) = [⟨aAuth, h, false⟩]) := Lib.hid (if_neg hh)
      clear hh
      go_wp2_with (first | (at_builtin; refine wpList_append_own_at _ rfl _ _ 22 rfl (w.heap.size + 1) 42 i0 _ 3 40 Tryd.underlying22 HI.out HZ0.out HZ1.out HZ2.out rfl (by omega) _ _ _ rfl (World.ownsRow.alloc HS0.out.own _) ⟨w1.heap.size, 0, none⟩ 1 1 [Value.string ⟨#[58, 97, 117, 116, 104, 111, 114, 105, 116, 121]⟩, .string (h), .bool false] rfl rfl (cells_new w1 [Value.string ⟨#[58, 97, 117, 116, 104, 111, 114, 105, 116, 121]⟩, .string (h), .bool false] _) (HONE.out _ _) (by unfold maxLen; first | omega | (simp; done)) (by first | omega | (simp; done)) (HSZ.out _ _ HS0.out.lt) ?_; intro v7 w7 hown7 hg7 _ _; have HS6 := Lib.hid (HS0.out.app (f := ⟨aAuth, h, false⟩) hg7 hown7); clear hown7 hg7))
      go_meet
      exact ⟨_, rfl, by rw [HE.out]; exact HS6.out⟩
    · have hh : h.size = 0 := HIB.out.1 rfl
      have HE : Hid ((if h.size = 0 then [] else [(⟨aAuth, h, false⟩ : Fld)]) = []) := Lib.hid (if_pos hh)
      clear hh
      go_wp2_with fail
      go_meet
      exact ⟨_, rfl, by rw [HE.out, List.append_nil]; exact HS0.out⟩
  case rest =>
  obtain ⟨v2, rfl, hst⟩ := hcut
  have HS2 := Lib.hid hst
  have HLB := Lib.hid (show ([(⟨aMethod, m, false⟩ : Fld), ⟨aScheme, s, false⟩, ⟨aPath, p, false⟩] ++ (if h.size = 0 then [] else [(⟨aAuth, h, false⟩ : Fld)])).length ≤ 4 from by split <;> simp)
  have HFQ := Lib.hid (show fieldsQ m s p h len rank = ([(⟨aMethod, m, false⟩ : Fld), ⟨aScheme, s, false⟩, ⟨aPath, p, false⟩] ++ (if h.size = 0 then [] else [(⟨aAuth, h, false⟩ : Fld)])) ++ (if 0 ≤ len then [(⟨aLen, decS len.toNat, false⟩ : Fld)] else []) ++ (if rank = 3 then [] else [(⟨aPrio, aUeq ++ decS rank.toNat, false⟩ : Fld)]) from rfl)
  generalize ([(⟨aMethod, m, false⟩ : Fld), ⟨aScheme, s, false⟩, ⟨aPath, p, false⟩] ++ (if h.size = 0 then [] else [(⟨aAuth, h, false⟩ : Fld)])) = L2 at HS2 HLB HFQ
  clear hst c3 c4 c5 HS0
  obtain ⟨w2, hw2⟩ : ∃ w2, w2 = wc := ⟨wc, rfl⟩
  subst hw2
  obtain ⟨c3, c4, c5⟩ := HS2.out.cells
  have l2 := HLB.out
  obtain ⟨eb, heb⟩ : ∃ x, decide ((0 : Int) ≤ len) = x := ⟨_, rfl⟩
  go_upto_if 25 with fail
  go_cut [3] (fun l wx => ∃ v, l = v ∧ St 26 m s p h len rank w wx v (L2 ++ (if 0 ≤ len then [⟨aLen, decS len.toNat, false⟩] else [])))
  case first =>
    cases eb
    · have hh : ¬ (0 ≤ len) := of_decide_eq_false heb
      have HE : Hid ((if 0 ≤ len then [(⟨aLen, decS len.toNat, false⟩ : Fld)] else []) = []) := Lib.hid (if_neg hh)
      clear hh heb
      go_wp2_with fail
      go_meet
      exact ⟨_, rfl, by rw [HE.out, List.append_nil]; exact HS2.out⟩
    · have hh : 0 ≤ len := of_decide_eq_true heb
      have HE : Hid ((if 0 ≤ len then [(⟨aLen, decS len.toNat, false⟩ : Fld)] else []) = [⟨aLen, decS len.toNat, false⟩]) := Lib.hid (if_pos hh)
      clear heb
      obtain ⟨k, rfl⟩ : ∃ k : Nat, len = k := ⟨len.toNat, by omega⟩
      have HNUM := Lib.hid (fun W hW => itoa_any k (by omega) W hW)
      clear hh
      go_wp2_with (first | (go_at_call 39; refine (HNUM.out _ (HTW.out _ HS2.out.below)).mono ?_; rintro e w3 ⟨rfl, hb3⟩; have HS3 := Lib.hid (HS2.out.step hb3); clear hb3) | (at_builtin; refine wpList_append_own_at _ rfl _ _ 22 rfl (w.heap.size + 1) 42 i0 _ 3 40 Tryd.underlying22 HI.out HZ0.out HZ1.out HZ2.out rfl (by omega) _ _ _ rfl (World.ownsRow.alloc HS3.out.own _) ⟨w3.heap.size, 0, none⟩ 1 1 [Value.string ⟨#[99, 111, 110, 116, 101, 110, 116, 45, 108, 101, 110, 103, 116, 104]⟩, .string (decS k), .bool false] rfl rfl (cells_new w3 [Value.string ⟨#[99, 111, 110, 116, 101, 110, 116, 45, 108, 101, 110, 103, 116, 104]⟩, .string (decS k), .bool false] _) (HONE.out _ _) (by unfold maxLen; first | omega | (simp; done)) (by first | omega | (simp; done)) (HSZ.out _ _ HS3.out.lt) ?_; intro v7 w7 hown7 hg7 _ _; have HS6 := Lib.hid (HS3.out.app (f := ⟨aLen, decS k, false⟩) hg7 hown7); clear hown7 hg7))
      go_meet
      exact ⟨_, rfl, by rw [HE.out]; exact HS6.out⟩
  case rest =>
  obtain ⟨v3, rfl, hst⟩ := hcut
  have HS4 := Lib.hid hst
  have HLC := Lib.hid (show (L2 ++ (if 0 ≤ len then [(⟨aLen, decS len.toNat, false⟩ : Fld)] else [])).length ≤ 5 from by split <;> (simp; omega))
  generalize (L2 ++ (if 0 ≤ len then [(⟨aLen, decS len.toNat, false⟩ : Fld)] else [])) = L3 at HS4 HLC HFQ
  clear hst c3 c4 c5 HS2 l2
  obtain ⟨w4, hw4⟩ : ∃ w4, w4 = wc := ⟨wc, rfl⟩
  subst hw4
  obtain ⟨c3, c4, c5⟩ := HS4.out.cells
  have l3 := HLC.out
  by_cases hh : rank = 3
  · have HE : Hid ((if rank = 3 then [] else [(⟨aPrio, aUeq ++ decS rank.toNat, false⟩ : Fld)]) = []) := Lib.hid (if_pos hh)
    subst hh
    go_wp2_with fail
    go_ret
    exact ⟨_, rfl, by rw [HFQ.out, HE.out, List.append_nil]; exact HS4.out.own.mono (by omega), HS4.out.below⟩
  · have q1 : (rank == 3) = false := beq_eq_false_iff_ne.2 hh
    have q2 : (rank != 3) = true := by rw [bne, q1]; rfl
    have HE : Hid ((if rank = 3 then [] else [(⟨aPrio, aUeq ++ decS rank.toNat, false⟩ : Fld)]) = [⟨aPrio, aUeq ++ decS rank.toNat, false⟩]) := Lib.hid (if_neg hh)
    obtain ⟨k, rfl⟩ : ∃ k : Nat, rank = k := ⟨rank.toNat, by omega⟩
    have HNUM := Lib.hid (fun W hW => itoa_any k (by omega) W hW)
    have hds := decS_size k (by omega)
    clear hh
    go_wp2_with (first | (go_at_call 39; refine (HNUM.out _ (HTW.out _ HS4.out.below)).mono ?_; rintro e w5 ⟨rfl, hb5⟩; have HS5 := Lib.hid (HS4.out.step hb5); clear hb5) | (at_builtin; refine wpList_append_own_at _ rfl _ _ 22 rfl (w.heap.size + 1) 42 i0 _ 3 40 Tryd.underlying22 HI.out HZ0.out HZ1.out HZ2.out rfl (by omega) _ _ _ rfl (World.ownsRow.alloc HS5.out.own _) ⟨w5.heap.size, 0, none⟩ 1 1 [Value.string ⟨#[112, 114, 105, 111, 114, 105, 116, 121]⟩, .string (⟨#[117, 61]⟩ ++ decS k), .bool false] rfl rfl (cells_new w5 [Value.string ⟨#[112, 114, 105, 111, 114, 105, 116, 121]⟩, .string (⟨#[117, 61]⟩ ++ decS k), .bool false] _) (HONE.out _ _) (by unfold maxLen; first | omega | (simp; done)) (by first | omega | (simp; done)) (HSZ.out _ _ HS5.out.lt) ?_; intro v7 w7 hown7 hg7 _ _; have HS6 := Lib.hid (HS5.out.app (f := ⟨aPrio, ⟨#[117, 61]⟩ ++ decS k, false⟩) hg7 hown7); clear hown7 hg7))
    go_ret
    exact ⟨_, rfl, by rw [HFQ.out, HE.out]; exact HS6.out.own.mono (by omega), HS6.out.below⟩
set_option maxRecDepth 100000 in
set_option maxHeartbeats 4000000 in
theorem refFields_any (m s p h : ByteArray) (len rank : Int) (hlen : len ≤ 1099511627776) (hr0 : 0 ≤ rank) (hr9 : rank ≤ 9) (w : World) : Calls Tryd.prog 22 #[.agg #[.string m, .string s, .string p, .string h, .int .i64 len, .int .i64 rank]] w fun e w' => ∃ v, e = .returned v ∧ OwnF w' w.heap.size v (fieldsQ m s p h len rank) ∧ Below w.heap.size w w' := by
  obtain ⟨i0, hi0, hz0, hz1, hz2⟩ := info_parts field_info
  have HI := Lib.hid hi0
  have HZ0 := Lib.hid hz0
  have HZ1 := Lib.hid hz1
  have HZ2 := Lib.hid hz2
  have HONE := Lib.hid (show ∀ (a b : ByteArray), ∀ u ∈ [Value.string a, .string b, .bool false], u.oneCell' = true from by intro a b u hu; simp at hu; rcases hu with rfl | rfl | rfl <;> rfl)
  have HSZ := Lib.hid (show ∀ (wx : World) (o : Obj), w.heap.size + 1 ≤ wx.heap.size → w.heap.size + 1 ≤ (wx.alloc o).heap.size from by intro wx o h; simp; omega)
  clear hi0 hz0 hz1 hz2
  have HS0 : Hid (St 29 m s p h len rank w ((w.alloc (.cells #[.string m, .string s, .string p, .string h, .int .i64 len, .int .i64 rank] 29)).alloc (.cells #[.string ⟨#[58, 109, 101, 116, 104, 111, 100]⟩, .string m, .bool false, .string ⟨#[58, 115, 99, 104, 101, 109, 101]⟩, .string s, .bool false, .string ⟨#[58, 112, 97, 116, 104]⟩, .string p, .bool false] 42)) (.slice (some ⟨w.heap.size + 1, 0, none⟩) 3 3) [⟨aMethod, m, false⟩, ⟨aScheme, s, false⟩, ⟨aPath, p, false⟩]) := Lib.hid (by
    have b0 : Below w.heap.size w (w.alloc (.cells #[.string m, .string s, .string p, .string h, .int .i64 len, .int .i64 rank] 29)) := (Below.refl _ w).alloc (Nat.le_refl _) _
    have b1 : Below (w.alloc (.cells #[.string m, .string s, .string p, .string h, .int .i64 len, .int .i64 rank] 29)).heap.size (w.alloc (.cells #[.string m, .string s, .string p, .string h, .int .i64 len, .int .i64 rank] 29)) ((w.alloc (.cells #[.string m, .string s, .string p, .string h, .int .i64 len, .int .i64 rank] 29)).alloc (.cells #[.string ⟨#[58, 109, 101, 116, 104, 111, 100]⟩, .string m, .bool false, .string ⟨#[58, 115, 99, 104, 101, 109, 101]⟩, .string s, .bool false, .string ⟨#[58, 112, 97, 116, 104]⟩, .string p, .bool false] 42)) := (Below.refl _ _).alloc (Nat.le_refl _) _
    refine ⟨(b1.block w.heap.size (by simp)).trans (heap_alloc_new w _), ?_, b0.trans (b1.mono b0.size), by simp⟩
    have hz : (w.alloc (.cells #[.string m, .string s, .string p, .string h, .int .i64 len, .int .i64 rank] 29)).heap.size = w.heap.size + 1 := by simp
    have := World.ownsRow_lit (e := 42) (size := 3) (base := w.heap.size + 1) (w.alloc (.cells #[.string m, .string s, .string p, .string h, .int .i64 len, .int .i64 rank] 29)) #[.string ⟨#[58, 109, 101, 116, 104, 111, 100]⟩, .string m, .bool false, .string ⟨#[58, 115, 99, 104, 101, 109, 101]⟩, .string s, .bool false, .string ⟨#[58, 112, 97, 116, 104]⟩, .string p, .bool false] 3 (by omega) (by decide) rfl
    rw [hz] at this
    exact this)
  have e0 := cell_of_row _ _ 0 _ _ _ (heap_alloc_new w (.cells #[.string m, .string s, .string p, .string h, .int .i64 len, .int .i64 rank] 29))
  have e1 := cell_of_row _ _ 1 _ _ _ (heap_alloc_new w (.cells #[.string m, .string s, .string p, .string h, .int .i64 len, .int .i64 rank] 29))
  have e2 := cell_of_row _ _ 2 _ _ _ (heap_alloc_new w (.cells #[.string m, .string s, .string p, .string h, .int .i64 len, .int .i64 rank] 29))
  go_enter Tryd.func22, Tryd.ntmps22
  go_upto_region 2 with fail
  generalize ((w.alloc (.cells #[.string m, .string s, .string p, .string h, .int .i64 len, .int .i64 rank] 29)).alloc (.cells #[.string ⟨#[58, 109, 101, 116, 104, 111, 100]⟩, .string m, .bool false, .string ⟨#[58, 115, 99, 104, 101, 109, 101]⟩, .string s, .bool false, .string ⟨#[58, 112, 97, 116, 104]⟩, .string p, .bool false] 42)) = w1 at HS0 ⊢
  clear e0 e1 e2
  obtain ⟨c3, c4, c5⟩ := HS0.out.cells
  obtain ⟨eb, heb⟩ : ∃ x, h.toList.isEmpty = x := ⟨_, rfl⟩
  have HIB : Hid (eb = true ↔ h.size = 0) := Lib.hid (by rw [← heb]; exact isEmpty_iff h)
  go_upto_if 16 with fail
  go_cut [3] (fun l wx => ∃ v, l = v ∧ St 29 m s p h len rank w wx v ([⟨aMethod, m, false⟩, ⟨aScheme, s, false⟩, ⟨aPath, p, false⟩] ++ (if h.size = 0 then [] else [⟨aAuth, h, false⟩])))
  case first =>
    clear heb
    cases eb
    · have hh : ¬ h.size = 0 := fun e => absurd (HIB.out.2 e) (by simp)
      have HE : Hid ((if h.size = 0 then [] else [(⟨aAuth, h, false⟩ : Fld)]) = [⟨aAuth, h, false⟩]) := Lib.hid (if_neg hh)
      clear hh
      go_wp2_with (first | (at_builtin; refine wpList_append_own_at _ rfl _ _ 22 rfl (w.heap.size + 1) 42 i0 _ 3 40 Tryd.underlying22 HI.out HZ0.out HZ1.out HZ2.out rfl (by omega) _ _ _ rfl (World.ownsRow.alloc HS0.out.own _) ⟨w1.heap.size, 0, none⟩ 1 1 [Value.string ⟨#[58, 97, 117, 116, 104, 111, 114, 105, 116, 121]⟩, .string (h), .bool false] rfl rfl (cells_new w1 [Value.string ⟨#[58, 97, 117, 116, 104, 111, 114, 105, 116, 121]⟩, .string (h), .bool false] _) (HONE.out _ _) (by unfold maxLen; first | omega | (simp; done)) (by first | omega | (simp; done)) (HSZ.out _ _ HS0.out.lt) ?_; intro v7 w7 hown7 hg7 _ _; have HS6 := Lib.hid (HS0.out.app (f := ⟨aAuth, h, false⟩) hg7 hown7); clear hown7 hg7))
      go_meet
      exact ⟨_, rfl, by rw [HE.out]; exact HS6.out⟩
    · have hh : h.size = 0 := HIB.out.1 rfl
      have HE : Hid ((if h.size = 0 then [] else [(⟨aAuth, h, false⟩ : Fld)]) = []) := Lib.hid (if_pos hh)
      clear hh
      go_wp2_with fail
      go_meet
      exact ⟨_, rfl, by rw [HE.out, List.append_nil]; exact HS0.out⟩
  case rest =>
  obtain ⟨v2, rfl, hst⟩ := hcut
  have HS2 := Lib.hid hst
  have HLB := Lib.hid (show ([(⟨aMethod, m, false⟩ : Fld), ⟨aScheme, s, false⟩, ⟨aPath, p, false⟩] ++ (if h.size = 0 then [] else [(⟨aAuth, h, false⟩ : Fld)])).length ≤ 4 from by split <;> simp)
  have HFQ := Lib.hid (show fieldsQ m s p h len rank = ([(⟨aMethod, m, false⟩ : Fld), ⟨aScheme, s, false⟩, ⟨aPath, p, false⟩] ++ (if h.size = 0 then [] else [(⟨aAuth, h, false⟩ : Fld)])) ++ (if 0 ≤ len then [(⟨aLen, decS len.toNat, false⟩ : Fld)] else []) ++ (if rank = 3 then [] else [(⟨aPrio, aUeq ++ decS rank.toNat, false⟩ : Fld)]) from rfl)
  generalize ([(⟨aMethod, m, false⟩ : Fld), ⟨aScheme, s, false⟩, ⟨aPath, p, false⟩] ++ (if h.size = 0 then [] else [(⟨aAuth, h, false⟩ : Fld)])) = L2 at HS2 HLB HFQ
  clear hst c3 c4 c5 HS0
  obtain ⟨w2, hw2⟩ : ∃ w2, w2 = wc := ⟨wc, rfl⟩
  subst hw2
  obtain ⟨c3, c4, c5⟩ := HS2.out.cells
  have l2 := HLB.out
  obtain ⟨eb, heb⟩ : ∃ x, decide ((0 : Int) ≤ len) = x := ⟨_, rfl⟩
  go_upto_if 25 with fail
  go_cut [3] (fun l wx => ∃ v, l = v ∧ St 29 m s p h len rank w wx v (L2 ++ (if 0 ≤ len then [⟨aLen, decS len.toNat, false⟩] else [])))
  case first =>
    cases eb
    · have hh : ¬ (0 ≤ len) := of_decide_eq_false heb
      have HE : Hid ((if 0 ≤ len then [(⟨aLen, decS len.toNat, false⟩ : Fld)] else []) = []) := Lib.hid (if_neg hh)
      clear hh heb
      go_wp2_with fail
      go_meet
      exact ⟨_, rfl, by rw [HE.out, List.append_nil]; exact HS2.out⟩
    · have hh : 0 ≤ len := of_decide_eq_true heb
      have HE : Hid ((if 0 ≤ len then [(⟨aLen, decS len.toNat, false⟩ : Fld)] else []) = [⟨aLen, decS len.toNat, false⟩]) := Lib.hid (if_pos hh)
      clear heb
      obtain ⟨k, rfl⟩ : ∃ k : Nat, len = k := ⟨len.toNat, by omega⟩
      have HNUM := Lib.hid (fun W => show_any k (by omega) W)
      clear hh
      go_wp2_with (first | (go_at_call 40; refine (HNUM.out _).mono ?_; rintro e w3 ⟨rfl, hb3⟩; have HS3 := Lib.hid (HS2.out.step hb3); clear hb3) | (at_builtin; refine wpList_append_own_at _ rfl _ _ 22 rfl (w.heap.size + 1) 42 i0 _ 3 40 Tryd.underlying22 HI.out HZ0.out HZ1.out HZ2.out rfl (by omega) _ _ _ rfl (World.ownsRow.alloc HS3.out.own _) ⟨w3.heap.size, 0, none⟩ 1 1 [Value.string ⟨#[99, 111, 110, 116, 101, 110, 116, 45, 108, 101, 110, 103, 116, 104]⟩, .string (decS k), .bool false] rfl rfl (cells_new w3 [Value.string ⟨#[99, 111, 110, 116, 101, 110, 116, 45, 108, 101, 110, 103, 116, 104]⟩, .string (decS k), .bool false] _) (HONE.out _ _) (by unfold maxLen; first | omega | (simp; done)) (by first | omega | (simp; done)) (HSZ.out _ _ HS3.out.lt) ?_; intro v7 w7 hown7 hg7 _ _; have HS6 := Lib.hid (HS3.out.app (f := ⟨aLen, decS k, false⟩) hg7 hown7); clear hown7 hg7))
      go_meet
      exact ⟨_, rfl, by rw [HE.out]; exact HS6.out⟩
  case rest =>
  obtain ⟨v3, rfl, hst⟩ := hcut
  have HS4 := Lib.hid hst
  have HLC := Lib.hid (show (L2 ++ (if 0 ≤ len then [(⟨aLen, decS len.toNat, false⟩ : Fld)] else [])).length ≤ 5 from by split <;> (simp; omega))
  generalize (L2 ++ (if 0 ≤ len then [(⟨aLen, decS len.toNat, false⟩ : Fld)] else [])) = L3 at HS4 HLC HFQ
  clear hst c3 c4 c5 HS2 l2
  obtain ⟨w4, hw4⟩ : ∃ w4, w4 = wc := ⟨wc, rfl⟩
  subst hw4
  obtain ⟨c3, c4, c5⟩ := HS4.out.cells
  have l3 := HLC.out
  by_cases hh : rank = 3
  · have HE : Hid ((if rank = 3 then [] else [(⟨aPrio, aUeq ++ decS rank.toNat, false⟩ : Fld)]) = []) := Lib.hid (if_pos hh)
    subst hh
    go_wp2_with fail
    go_ret
    exact ⟨_, rfl, by rw [HFQ.out, HE.out, List.append_nil]; exact HS4.out.own.mono (by omega), HS4.out.below⟩
  · have q1 : (rank == 3) = false := beq_eq_false_iff_ne.2 hh
    have q2 : (rank != 3) = true := by rw [bne, q1]; rfl
    have HE : Hid ((if rank = 3 then [] else [(⟨aPrio, aUeq ++ decS rank.toNat, false⟩ : Fld)]) = [⟨aPrio, aUeq ++ decS rank.toNat, false⟩]) := Lib.hid (if_neg hh)
    obtain ⟨k, rfl⟩ : ∃ k : Nat, rank = k := ⟨rank.toNat, by omega⟩
    have HNUM := Lib.hid (fun W => show_any k (by omega) W)
    have hds := decS_size k (by omega)
    clear hh
    go_wp2_with (first | (go_at_call 40; refine (HNUM.out _).mono ?_; rintro e w5 ⟨rfl, hb5⟩; have HS5 := Lib.hid (HS4.out.step hb5); clear hb5) | (at_builtin; refine wpList_append_own_at _ rfl _ _ 22 rfl (w.heap.size + 1) 42 i0 _ 3 40 Tryd.underlying22 HI.out HZ0.out HZ1.out HZ2.out rfl (by omega) _ _ _ rfl (World.ownsRow.alloc HS5.out.own _) ⟨w5.heap.size, 0, none⟩ 1 1 [Value.string ⟨#[112, 114, 105, 111, 114, 105, 116, 121]⟩, .string (⟨#[117, 61]⟩ ++ decS k), .bool false] rfl rfl (cells_new w5 [Value.string ⟨#[112, 114, 105, 111, 114, 105, 116, 121]⟩, .string (⟨#[117, 61]⟩ ++ decS k), .bool false] _) (HONE.out _ _) (by unfold maxLen; first | omega | (simp; done)) (by first | omega | (simp; done)) (HSZ.out _ _ HS5.out.lt) ?_; intro v7 w7 hown7 hg7 _ _; have HS6 := Lib.hid (HS5.out.app (f := ⟨aPrio, ⟨#[117, 61]⟩ ++ decS k, false⟩) hg7 hown7); clear hown7 hg7))
    go_ret
    exact ⟨_, rfl, by rw [HFQ.out, HE.out]; exact HS6.out.own.mono (by omega), HS6.out.below⟩
end Go.Proofs.YtecmccihldjicaaDoor
